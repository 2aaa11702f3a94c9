import Derived.Test.YtaagfepgbofmlaaGreatQ4
set_option linter.unusedSectionVars false
set_option linter.unusedSimpArgs false
set_option linter.unusedVariables false
open Go renaming wp_seq→ZIa,wp_block→ZIj,wp_skip→ZIe,wp_ret→ZIi,wp_exit→ZIr
open Go.Instr renaming buildSlice→ZSh,build→ZI2
open Go.IntKind renaming i64→ZA7,u8→ZIk
open Go.Proofs.Tryz renaming prog→ZId,underlying22→ZIs,underlying32→ZIq,underlying136→ZIn,underlying77→ZSg,underlying132→ZSi,underlying30→ZIw,func123→ZIy,underlying5→ZI6,func95→ZI0,f150→ZSm,underlying2→ZJe,underlying55→ZIf,underlying53→ZIh,f39→ZSn,underlying85→ZSo,func150→ZSq,func94→ZSr,underlying27→ZSt,underlying162→ZIp,func124→ZI9
open Go.Value renaming ownBlock→Zzn,int→ZK4
open Inhabited renaming default→Zyt
open Int renaming tdiv→ZSf,tmod→Zyy,toNat_of_nonneg→ZK5,natCast_nonneg→ZIv,ofNat_lt→ZJi
open List renaming toArray→ZH8,replicate→Zy0,mem_cons→Zyz,not_mem_nil→ZAt,length_eq_one_iff→ZI4,mem_append→Zzu
open Nat renaming le_of_ble_eq_true→ZIc,lt_of_le_of_lt→ZSs,zero_le→ZAq
open Option renaming toList→ZI5
open Vc renaming ETerm→ZH9,Form→ZIb,TForm→ZIo
open Vc.A8 renaming enc→ZH6,zero→ZIg,enc_get→ZIu,enc_set→ZI3
open Vc.Ctx renaming start→ZIt
open Vc.Enc renaming encs_append→ZIz
open Vc.Tr renaming item→ZIm,sl→ZOd,trep→ZSk
open Vc.Ty renaming item→ZH7
set_option maxRecDepth 4000
set_option maxHeartbeats 4000000
namespace Go.Proofs.YtaagfepgbofmlaaGreat
open Go Go.RowKit Vc
theorem Zvs (x0:A8) (w:World):(ZSh 132 1 #[(0,.agg (ZH8 (ZH6 .u8 x0)))]).run ZId w=.ok (.slice (some ⟨w.heap.size,0,none⟩) 1 1) (w.alloc (.cells (ZH8 ((EA .u8).encs [x0])) 136)):=by kernel_rfl
theorem Zvt:Zab ZId 136 (.agg (ZH8 (ZH6 .u8 ZIg))) 8 8:=by unfold Zab; kernel_rfl
theorem Zvu (w:World):(ZSh 27 0 #[]).run ZId w=.ok (.slice (some ⟨w.heap.size,0,none⟩) 0 0) (w.alloc (.cells (ZH8 []) 77)):=by kernel_rfl
theorem Zvv (x0:Int) (x1:Value) (hx1:Zc2 x1) (w:World):(ZI2 77 #[(0,.int .i64 x0),(1,x1)]).run ZId w=.ok (.agg #[.int .i64 x0,x1]) w:=by obtain ⟨_,_,_,rfl⟩:=hx1; kernel_rfl
theorem z77:Je ZId 77 (.agg #[.int .i64 0,.slice none 0 0]):=by unfold Je; kernel_rfl
theorem ag77:AggT ZId 77 2:=⟨⟨_,ZSg,rfl⟩,by kernel_rfl⟩
theorem Zvw (x0:Int) (x1:Value) (hx1:Zc2 x1) (w:World):(ZSh 27 1 #[(0,.agg #[.int .i64 x0,x1])]).run ZId w=.ok (.slice (some ⟨w.heap.size,0,none⟩) 1 1) (w.alloc (.cells (ZH8 [.int .i64 x0,x1]) 77)):=by obtain ⟨_,_,_,rfl⟩:=hx1; kernel_rfl
theorem Zvx:Zab ZId 77 (.agg #[.int .i64 0,.slice none 0 0]) 2 32:=by unfold Zab; kernel_rfl
theorem Zvy:ZId.eqGuardType ZId.depth 136=false:=by kernel_rfl
theorem Zvz:KeyT ZId 136 (kvA .u8):=Zm3 ZIn ZI6 sc5
theorem Zlj  (w:World):(ZSh 22 0 #[]).run ZId w=.ok (.slice (some ⟨w.heap.size,0,none⟩) 0 0) (w.alloc (.cells (ZH8 ((EI .i64).encs [])) 2)):=by kernel_rfl
theorem Zv0 (x0:Int) (w:World):(ZI2 77 #[(0,.int .i64 x0)]).run ZId w=.ok (.agg #[.int .i64 x0,.slice none 0 0]) w:=by kernel_rfl
theorem Zv1 (x0:Value) (hx0:Zc2 x0) (w:World):(ZSh 30 1 #[(0,.agg #[x0])]).run ZId w=.ok (.slice (some ⟨w.heap.size,0,none⟩) 1 1) (w.alloc (.cells (ZH8 [x0]) 55)):=by obtain ⟨_,_,_,rfl⟩:=hx0; kernel_rfl
theorem Zg2 (w:World):(ZSh 85 0 #[]).run ZId w=.ok (.slice (some ⟨w.heap.size,0,none⟩) 0 0) (w.alloc (.cells (ZH8 []) 22)):=by kernel_rfl
theorem Zc9 (x0:Value) (hx0:Zc2 x0) (w:World):(ZSh 85 1 #[(0,x0)]).run ZId w=.ok (.slice (some ⟨w.heap.size,0,none⟩) 1 1) (w.alloc (.cells (ZH8 [x0]) 22)):=by obtain ⟨_,_,_,rfl⟩:=hx0; kernel_rfl
theorem Zda:Zab ZId 22 (.slice none 0 0) 1 24:=by unfold Zab; kernel_rfl
theorem sc122:ScaT ZId 122:=⟨⟨_,Tryz.underlying122,rfl⟩,by kernel_rfl⟩
theorem Zv2 (x0:Value) (x1:Int) (hx0:Zc2 x0) (w:World):(ZI2 187 #[(0,x0),(1,.int .i64 x1)]).run ZId w=.ok (.agg #[x0,.int .i64 x1,.slice none 0 0]) w:=by obtain ⟨_,_,_,rfl⟩:=hx0; kernel_rfl
theorem Zv3  (w:World):(ZSh 69 0 #[]).run ZId w=.ok (.slice (some ⟨w.heap.size,0,none⟩) 0 0) (w.alloc (.cells (ZH8 (EElem.encs [])) 75)):=by kernel_rfl
theorem Zv4 (x0:Int) (x1:A8) (w:World):(ZI2 75 #[(0,.int .i64 x0),(1,.agg (ZH8 (ZH6 .i64 x1)))]).run ZId w=.ok (.agg (ZH8 (Elem.enc (⟨x0,x1⟩:Elem)))) w:=by kernel_rfl
theorem Zv5 (x0:Elem) (w:World):(ZSh 69 1 #[(0,.agg (ZH8 (Elem.enc x0)))]).run ZId w=.ok (.slice (some ⟨w.heap.size,0,none⟩) 1 1) (w.alloc (.cells (ZH8 (EElem.encs [x0])) 75)):=by kernel_rfl
theorem Zv6:Zab ZId 75 (.agg (ZH8 (Elem.enc (⟨0,ZIg⟩:Elem)))) 9 72:=by unfold Zab; kernel_rfl
theorem Zor (x0:Nat) (x1:Int) (w:World):(ZI2 144 #[(0,.pointer (some ⟨x0,0,none⟩)),(1,.int .i64 x1)]).run ZId w=.ok (.agg #[.pointer (some ⟨x0,0,none⟩),.int .i64 x1,.slice none 0 0]) w:=by kernel_rfl
theorem sc142:ScaT ZId 142:=⟨⟨_,Tryz.underlying142,rfl⟩,by kernel_rfl⟩
theorem Zlk (x0:Nat) (w:World):(ZSh 142 1 #[(0,.map (some x0))]).run ZId w=.ok (.slice (some ⟨w.heap.size,0,none⟩) 1 1) (w.alloc (.cells (ZH8 [.map (some x0)]) 115)):=by kernel_rfl
theorem Zll:Zab ZId 115 (.map none) 1 8:=by unfold Zab; kernel_rfl
theorem Zlm (x0:Int) (x1:Int) (w:World):(ZSh 22 2 #[(0,.int .i64 x0),(1,.int .i64 x1)]).run ZId w=.ok (.slice (some ⟨w.heap.size,0,none⟩) 2 2) (w.alloc (.cells (ZH8 ((EI .i64).encs [x0,x1])) 2)):=by kernel_rfl
theorem ag75:AggT ZId 75 9:=⟨⟨_,Tryz.underlying75,rfl⟩,by kernel_rfl⟩
theorem z75:Je ZId 75 (.agg (ZH8 (Elem.enc (⟨0,ZIg⟩:Elem)))):=by unfold Je; kernel_rfl
theorem Zv7 (x0:Int) (w:World):(ZSh 22 1 #[(0,.int .i64 x0)]).run ZId w=.ok (.slice (some ⟨w.heap.size,0,none⟩) 1 1) (w.alloc (.cells (ZH8 ((EI .i64).encs [x0])) 2)):=by kernel_rfl
theorem z3:Je ZId 3 (.int .i64 0):=by unfold Je; kernel_rfl
theorem Zjh:AggT ZId 25 2:=⟨⟨_,Tryz.underlying25,rfl⟩,by kernel_rfl⟩
def f_spec_l01Fill (fu_:Nat) (a0:List Int) (a1:A8) (a2:Int) (a3:Int) (a4:List A8) (K:List A8→Prop):Prop :=
 match fu_ with
 | 0=>False
 | fu_+1=>(if a2=(a0.length:Int) then(if a3=0 then(Yo (a4.length+1) 8∧K (a4++[a1])) else K a4) else((0≤a2∧a2 < (a0.length:Int))∧((a0.getD a2.toNat Zyt)≠0∧((0≤a2∧a2 < (a0.length:Int))∧(if Zyy (a0.getD a2.toNat Zyt) 2≠0 then Xj (fun (s10:A8×(List A8)×Int) nx10=>(if s10.2.2≥0 then(if(s10.2.1.length:Int)≤400 then((0≤a2∧a2 < 8)∧((0≤a2∧a2 < (a0.length:Int))∧f_spec_l01Fill fu_ a0 (s10.1.set a2.toNat (ZIk.wrap s10.2.2)) (ZA7.wrap (a2+1)) (ZA7.wrap (a3 - (ZA7.wrap (s10.2.2 * (a0.getD a2.toNat Zyt))))) s10.2.1 (fun r10=>nx10 (s10.1.set a2.toNat (ZIk.wrap s10.2.2),r10,ZA7.wrap (s10.2.2 - 1))))) else K s10.2.1) else K s10.2.1)) (a1,a4,(if 20 < (if 1 < ZA7.wrap (ZSf a3 (a0.getD a2.toNat Zyt)) then 1 else ZA7.wrap (ZSf a3 (a0.getD a2.toNat Zyt))) then 20 else(if 1 < ZA7.wrap (ZSf a3 (a0.getD a2.toNat Zyt)) then 1 else ZA7.wrap (ZSf a3 (a0.getD a2.toNat Zyt))))) else Xj (fun (s11:A8×(List A8)×Int) nx11=>(if s11.2.2≥0 then(if(s11.2.1.length:Int)≤400 then((0≤a2∧a2 < 8)∧((0≤a2∧a2 < (a0.length:Int))∧f_spec_l01Fill fu_ a0 (s11.1.set a2.toNat (ZIk.wrap s11.2.2)) (ZA7.wrap (a2+1)) (ZA7.wrap (a3 - (ZA7.wrap (s11.2.2 * (a0.getD a2.toNat Zyt))))) s11.2.1 (fun r11=>nx11 (s11.1.set a2.toNat (ZIk.wrap s11.2.2),r11,ZA7.wrap (s11.2.2 - 1))))) else K s11.2.1) else K s11.2.1)) (a1,a4,(if 20 < ZA7.wrap (ZSf a3 (a0.getD a2.toNat Zyt)) then 20 else ZA7.wrap (ZSf a3 (a0.getD a2.toNat Zyt)))))))))
theorem Zv8 (fu_:Nat):∀ (a0:List Int) (a1:A8) (a2:Int) (a3:Int) (a4:List A8) {u4_0:Value} {u0_0:Value} {fp0:List Nat} {K:List A8→Prop} (h:f_spec_l01Fill fu_ a0 a1 a2 a3 a4 K) (w0:World) (q0:((EI .i64).ty.sl).rep a0 [u0_0] fp0 w0) (qo4:(own 136 8 u4_0 a4.length ((EA .u8).encs a4)).holds w0) (do0:∀ b,b∈fp0→b∉ZI5 (Zzn u4_0)),
  Calls ZId 150 #[u0_0,.agg (ZH8 (ZH6 .u8 a1)),.int .i64 a2,.int .i64 a3,u4_0] w0 fun e w'=>∃ (r0:List A8) (z0_0:Value),
   e=.returned (z0_0)∧K r0∧(own 136 8 z0_0 r0.length ((EA .u8).encs r0)).holds w'∧(∀ b,b∈ZI5 (Zzn z0_0)→b∈ZI5 (Zzn u4_0)∨w0.heap.size≤b)∧BelO (ZI5 (Zzn u4_0)) w0 w':=by
 induction fu_ with
 | zero =>
  intro a0 a1 a2 a3 a4 u4_0 u0_0 fp0 K h w0 q0 qo4 do0
  exact False.elim h
 | succ fu_ ih_ =>
  intro a0 a1 a2 a3 a4 u4_0 u0_0 fp0 K h w0 q0 qo4 do0
  rw [f_spec_l01Fill.eq_2] at h
  refine Z4 (args:=[u0_0,.agg (ZH8 (ZH6 .u8 a1)),.int .i64 a2,.int .i64 a3,u4_0]) ZSq rfl 68 Tryz.ntmps150 (ZIc rfl) ?_
  have hC:=Ctx.startL w0 (ZI5 (Zzn u4_0)) [own 136 8 u4_0 a4.length ((EA .u8).encs a4)] [ZH7 ((EI .i64).ty.sl) a0 [u0_0] fp0] (by simp only [Zyz,ZAt,or_false,forall_eq_or_imp,forall_eq]; exact qo4) (by simp only [Zyz,ZAt,or_false,forall_eq_or_imp,forall_eq]; exact q0) (by simp only [Zyz,ZAt,or_false,forall_eq_or_imp,forall_eq]; exact(fun b_ hb_=>hb_)) (List.pairwise_singleton _ _) (by simp only [Zyz,ZAt,or_false,forall_eq_or_imp,forall_eq]; exact do0)
  refine sr (Yl (v:=.agg (ZH8 (ZH6 .u8 a1))) hC (ZH6 .u8 a1) rfl rfl fun b3 w5 hB_ hC=>Zc (v:=.slice none 0 0) rfl (dn (ZIa (sr (Zb (v:=.int .i64 a2) rfl (Zb (v:=u0_0) rfl ?_))))))
  obtain ⟨Ad6,c7,hv8⟩:=Z1 (hC.getP 0 rfl)
  refine Zx ZIs (tr rfl hv8) (Jm rfl rfl (dn ?_))
  refine Zr rfl (fun hb9=>?_) (fun hb9=>?_)
  ·replace h:=ift h (ct hb9)
   refine ZIa (sr (Zb (v:=.int .i64 a3) rfl (Jm rfl rfl (dn ?_))))
   refine Zr rfl (fun hb12=>?_) (fun hb12=>?_)
   ·replace h:=ift h (ct hb12)
    refine sr (Zb (v:=u4_0) rfl (Yy hC 0 (ZH6 .u8 a1) rfl ag136 rfl rfl rfl (Xr (sz:=8) hC [(0,.agg (ZH8 (ZH6 .u8 a1)))] ((EA .u8).encs [a1]) rfl (fun _=>Zvs a1 _) rfl (by decide) fun b10 w10 hB_ hC=>?_)))
    obtain ⟨hm10,h⟩:=h
    refine Zaw hC 2 ZSi Zvt rfl (by decide) (by decide) rfl (Za9 (hC.getM 0 rfl)) (fun q hq=>Enc.encs_one' (E:=(EA .u8)) _ q hq) rfl rfl hm10 fun v12 w11 hC=>?_
    replace hC:=Jg hC 2 ((a4++[a1]).length) ((EA .u8).encs (a4++[a1])) rfl (by simp) (by first | (simp [ZIz]; done) | simp [ZIz,Enc.encs])
    refine Zc (v:=v12) rfl (dn ?_)
    refine ZIi (Zo (Zo ?_))
    refine Zp (fn:=ZSm) rfl ?_ ⟨a4++[a1],v12,rfl,h,(hC.getM 2 rfl),(fun b_ hb_=>(hC.mfp _ (List.mem_of_getElem? (i:=2) rfl) b_ hb_).symm),hC.belO⟩ (.inl rfl)
    exact Zi rfl
   ·replace h:=Zk h (cf hb12)
    refine ZIe (Zd (sr (Zb (v:=u4_0) rfl (Zc (v:=u4_0) rfl (dn ?_)))))
    refine ZIi (Zo ?_)
    refine Zp (fn:=ZSm) rfl ?_ ⟨a4,u4_0,rfl,h,(hC.getM 1 rfl),(fun b_ hb_=>(hC.mfp _ (List.mem_of_getElem? (i:=1) rfl) b_ hb_).symm),hC.belO⟩ (.inl rfl)
    exact Zi rfl
  ·replace h:=Zk h (cf hb9)
   refine ZIe (Zd (sr (Zb (v:=.int .i64 a3) rfl (Zb (v:=u0_0) rfl (Zb (v:=.int .i64 a2) rfl ?_)))))
   obtain ⟨⟨h10,h11⟩,h⟩:=h
   obtain ⟨Ad12,c10,hv10⟩:=Z0 (hC.getP 0 rfl) a2.toNat (show a2.toNat < a0.length by omega)
   refine Xb (len:=a0.length) ZIs sc2.size (tr rfl hv10) rfl h10 h11 (Xm (.int .i64 (a0.getD a2.toNat Zyt)) (Yf (hC.getP 0 rfl) hv10 a2.toNat (show a2.toNat < a0.length by omega)) sc2 rfl ?_)
   obtain ⟨h12,h⟩:=h
   refine Zd8 rfl rfl h12 (Zc (v:=.int .i64 (ZA7.wrap (ZSf a3 (a0.getD a2.toNat Zyt)))) rfl (dn (ZIa (sr (Zb (v:=u0_0) rfl (Zb (v:=.int .i64 a2) rfl ?_))))))
   obtain ⟨⟨h13,h14⟩,h⟩:=h
   obtain ⟨Ad13,c11,hv11⟩:=Z0 (hC.getP 0 rfl) a2.toNat (show a2.toNat < a0.length by omega)
   refine Xb (len:=a0.length) ZIs sc2.size (tr rfl hv11) rfl h13 h14 (Xm (.int .i64 (a0.getD a2.toNat Zyt)) (Yf (hC.getP 0 rfl) hv11 a2.toNat (show a2.toNat < a0.length by omega)) sc2 rfl (X0 rfl rfl (by decide) (Xl rfl rfl (dn ?_))))
   refine Zr rfl (fun hb13=>?_) (fun hb13=>?_)
   ·replace h:=ift h (ct hb13)
    refine Zh (Zb (v:=.int .i64 (ZA7.wrap (ZSf a3 (a0.getD a2.toNat Zyt)))) rfl (Zgz rfl rfl (Zc (v:=.int .i64 (if 1 < ZA7.wrap (ZSf a3 (a0.getD a2.toNat Zyt)) then 1 else ZA7.wrap (ZSf a3 (a0.getD a2.toNat Zyt)))) rfl (dn (ZIa (sr (Zb (v:=.int .i64 (if 1 < ZA7.wrap (ZSf a3 (a0.getD a2.toNat Zyt)) then 1 else ZA7.wrap (ZSf a3 (a0.getD a2.toNat Zyt)))) rfl (Zgz rfl rfl (Zc (v:=.int .i64 (if 20 < (if 1 < ZA7.wrap (ZSf a3 (a0.getD a2.toNat Zyt)) then 1 else ZA7.wrap (ZSf a3 (a0.getD a2.toNat Zyt))) then 20 else(if 1 < ZA7.wrap (ZSf a3 (a0.getD a2.toNat Zyt)) then 1 else ZA7.wrap (ZSf a3 (a0.getD a2.toNat Zyt))))) rfl (dn (ZIj ?_)))))))))))
    refine X1 (S:=A8×(List A8)×Int) _ (fun s10 e_ w_=>∃ (v10:Value),Z3 e_ [(0,u0_0),(2,.int .i64 a2),(3,.int .i64 a3),(4,v10),(6,.pointer (some ⟨b3,0,none⟩)),(12,.int .i64 s10.2.2)]∧Ctx (fun c_=>c_∈ZI5 (Zzn u4_0)) w0 w_ [blk b3 136 (ZH6 .u8 s10.1),own 136 8 v10 s10.2.1.length ((EA .u8).encs s10.2.1)] [ZH7 ((EI .i64).ty.sl) a0 [u0_0] fp0]) ?_ (s0:=(a1,a4,(if 20 < (if 1 < ZA7.wrap (ZSf a3 (a0.getD a2.toNat Zyt)) then 1 else ZA7.wrap (ZSf a3 (a0.getD a2.toNat Zyt))) then 20 else(if 1 < ZA7.wrap (ZSf a3 (a0.getD a2.toNat Zyt)) then 1 else ZA7.wrap (ZSf a3 (a0.getD a2.toNat Zyt)))))) ?_ h
    ·clear hC h
     rintro s10 e_ w12 nx10 K10 ⟨v10,hS_,hC⟩ h hK10
     rw [ue hS_]
     refine ZIa (sr (Zb (v:=.int .i64 s10.2.2) rfl (Zat rfl rfl (Zb (v:=.bool (decide (s10.2.2≥0))) rfl ?_))))
     refine Xh (decide (s10.2.2≥0)) (fun hb10=>?_) (fun hb10=>?_)
     ·replace h:=ift h (ct hb10)
      refine Zl 2 42 rfl rfl hb10 (Zb (v:=v10) rfl (Zl 2 42 rfl rfl hb10 ?_))
      obtain ⟨Ad14,c12,hv14⟩:=J1 (hC.getM 1 rfl)
      refine Zx ZSi (tr rfl hv14) (Zl 2 42 rfl rfl hb10 (Zb4 rfl rfl (Yc (v:=.bool (decide ((s10.2.1.length:Int)≤400))) (b:=true) (tr rfl (congrArg _ hb10)) rfl (dn ?_))))
      refine Zr rfl (fun hb14=>?_) (fun hb14=>?_)
      ·replace h:=ift h (ct hb14)
       refine ZIe (Zd (ZIa (ZIj (sr (Zb (v:=.int .i64 a2) rfl (Zb (v:=.int .i64 s10.2.2) rfl (Zhw ZJe ZI6 rfl ?_)))))))
       obtain ⟨⟨h15,h16⟩,h⟩:=h
       refine Y5 a2.toNat ZIn sc5.size rfl rfl h15 h16 (by omega) (Zw (v:=.int .u8 (ZIk.wrap s10.2.2)) hC 0 [.int .u8 (ZIk.wrap s10.2.2)] (ZH6 .u8 (s10.1.set a2.toNat (ZIk.wrap s10.2.2))) rfl sc5.size rfl rfl rfl rfl rfl (show a2.toNat < 8 by omega) (ZI3 _ _ _ (show a2.toNat < 8 by omega)) fun w13 hC=>dn ?_)
       refine Yg 13 Ye [0,0,0,4,0,0,0,0,192,448,992,2032,0,8191,16383] [1,8,9] [0,2,3,4,5,6,7,10,11,12] (by kernel_rfl) (by kernel_rfl) (by kernel_rfl) (fun hM12 hM10 w14 hB_=>?_)
       replace hC:=hC.grow hB_
       refine aF 0 (u0_0) rfl rfl (hM10 0 rfl) (rfl) (fun _=>by exact Zf (v:=u0_0) rfl) (Za 15 1) (aL 1 (.agg (ZH8 (ZH6 .u8 (s10.1.set a2.toNat (ZIk.wrap s10.2.2))))) rfl rfl (hM12 1 rfl) (rfl) (fun _ hB_=>by exact Yv (hC.grow hB_) 0 (ZH6 .u8 (s10.1.set a2.toNat (ZIk.wrap s10.2.2))) rfl ag136 rfl rfl rfl) (Za 15 3) (aF 2 (.int .i64 a2) rfl rfl (hM10 2 rfl) (rfl) (fun _=>by exact Zf (v:=.int .i64 a2) rfl) (Za 15 7) (aF 3 (.int .i64 (ZA7.wrap (a2+1))) rfl rfl (hM10 3 rfl) (rfl) (fun _=>by exact Zdh rfl rfl) (Za 15 15) (aF 4 (.int .i64 a3) rfl rfl (hM10 4 rfl) (rfl) (fun _=>by exact Zf (v:=.int .i64 a3) rfl) (Za 15 31) (aF 5 (.int .i64 s10.2.2) rfl rfl (hM10 5 rfl) (rfl) (fun _=>by exact Zf (v:=.int .i64 s10.2.2) rfl) (Za 15 63) (aF 6 (u0_0) rfl rfl (hM10 6 rfl) (rfl) (fun _=>by exact Zf (v:=u0_0) rfl) (Za 15 127) (aF 7 (.int .i64 a2) rfl rfl (hM10 7 rfl) (rfl) (fun _=>by exact Zf (v:=.int .i64 a2) rfl) (Za 15 255) ?_)))))))
       obtain ⟨⟨h17,h18⟩,h⟩:=h
       obtain ⟨Ad10,c13,hv12⟩:=Z0 (hC.getP 0 rfl) a2.toNat (show a2.toNat < a0.length by omega)
       refine aL 8 (.pointer (some (Ad10.add (a2.toNat * 1)))) rfl rfl (hM12 8 rfl) (rfl) (fun _ hB_=>by exact Yp (len:=a0.length) ZIs sc2.size (by exact tr rfl hv12) rfl h17 h18) (Za 15 511) (aL 9 (.int .i64 (a0.getD a2.toNat Zyt)) rfl rfl (hM12 9 rfl) (rfl) (fun _ hB_=>by exact Xc (.int .i64 (a0.getD a2.toNat Zyt)) (Yf ((hC.grow hB_).getP 0 rfl) hv12 a2.toNat (show a2.toNat < a0.length by omega)) sc2 rfl) (Za 15 1023) (aF 10 (.int .i64 (ZA7.wrap (s10.2.2 * (a0.getD a2.toNat Zyt)))) rfl rfl (hM10 10 rfl) (rfl) (fun _=>by exact Zbi rfl rfl) (Za 15 2047) (aF 11 (.int .i64 (ZA7.wrap (a3 - (ZA7.wrap (s10.2.2 * (a0.getD a2.toNat Zyt)))))) rfl rfl (hM10 11 rfl) (rfl) (fun _=>by exact Zci rfl rfl) (Za 15 4095) (aF 12 (v10) rfl rfl (hM10 12 rfl) (rfl) (fun _=>by exact Zf (v:=v10) rfl) (Za 15 8191) (Zu 13 (by decide) (by decide) (by kernel_rfl) (by kernel_rfl) rfl ?_)))))
       refine Zg [u0_0,.agg (ZH8 (ZH6 .u8 (s10.1.set a2.toNat (ZIk.wrap s10.2.2)))),.int .i64 (ZA7.wrap (a2+1)),.int .i64 (ZA7.wrap (a3 - (ZA7.wrap (s10.2.2 * (a0.getD a2.toNat Zyt))))),v10] _ ZSq rfl rfl rfl (ih_ a0 (s10.1.set a2.toNat (ZIk.wrap s10.2.2)) (ZA7.wrap (a2+1)) (ZA7.wrap (a3 - (ZA7.wrap (s10.2.2 * (a0.getD a2.toNat Zyt))))) s10.2.1 h _ (hC.getP 0 rfl) (hC.getM 1 rfl) (fun b_ hb_ hb2_=>hC.pd _ (List.mem_of_getElem? (i:=0) rfl) b_ hb_ _ (List.mem_of_getElem? (i:=1) rfl) hb2_)) (fun ret10 w15 hR10=>?_)
       obtain ⟨r10,v13,rfl,h,hr10,hf10,hB10⟩:=hR10
       refine⟨_,rfl,?_⟩
       replace hC:=hC.turnO 1 rfl hB10 hr10 hf10
       refine Zc (v:=v13) rfl (done (Zv (Zs (Zd (Zh (Zb (v:=.int .i64 s10.2.2) rfl (Jt rfl rfl (Zc (v:=.int .i64 (ZA7.wrap (s10.2.2 - 1))) rfl (done ?_)))))))))
       exact hK10 (s10.1.set a2.toNat (ZIk.wrap s10.2.2),r10,ZA7.wrap (s10.2.2 - 1)) _ _ ⟨v13,(sl ⟨rfl,rfl,rfl,rfl,rfl,rfl,trivial⟩),hC⟩ h
      ·replace h:=Zk h (cf hb14)
       refine ZIr (Zj (Zj (Z9 ?_)))
       refine Zd (sr (Zb (v:=v10) rfl (Zc (v:=v10) rfl (dn (ZIi ?_)))))
       refine Zp (fn:=ZSm) rfl ?_ ⟨s10.2.1,v10,rfl,h,(hC.getM 1 rfl),(fun b_ hb_=>(hC.mfp _ (List.mem_of_getElem? (i:=1) rfl) b_ hb_).symm),hC.belO⟩ (.inl rfl)
       exact Zi rfl
     ·replace h:=Zk h (cf hb10)
      refine Zn (b:=false) 2 42 rfl (tr rfl (congrArg _ hb10)) (by decide) (Zn (b:=false) 2 42 rfl (tr rfl (congrArg _ hb10)) (by decide) (Zn (b:=false) 2 42 rfl (tr rfl (congrArg _ hb10)) (by decide) (Yc (v:=.bool false) (b:=false) (tr rfl (congrArg _ hb10)) rfl (dn (Yi rfl rfl ?_)))))
      refine ZIr (Zj (Zj (Z9 ?_)))
      refine Zd (sr (Zb (v:=v10) rfl (Zc (v:=v10) rfl (dn (ZIi ?_)))))
      refine Zp (fn:=ZSm) rfl ?_ ⟨s10.2.1,v10,rfl,h,(hC.getM 1 rfl),(fun b_ hb_=>(hC.mfp _ (List.mem_of_getElem? (i:=1) rfl) b_ hb_).symm),hC.belO⟩ (.inl rfl)
      exact Zi rfl
    ·skip
     exact⟨u4_0,(sl ⟨rfl,rfl,rfl,rfl,rfl,rfl,trivial⟩),hC⟩
   ·replace h:=Zk h (cf hb13)
    refine ZIe (Zd (ZIa (sr (Zb (v:=.int .i64 (ZA7.wrap (ZSf a3 (a0.getD a2.toNat Zyt)))) rfl (Zgz rfl rfl (Zc (v:=.int .i64 (if 20 < ZA7.wrap (ZSf a3 (a0.getD a2.toNat Zyt)) then 20 else ZA7.wrap (ZSf a3 (a0.getD a2.toNat Zyt)))) rfl (dn (ZIj ?_))))))))
    refine X1 (S:=A8×(List A8)×Int) _ (fun s11 e_ w_=>∃ (v11:Value),Z3 e_ [(0,u0_0),(2,.int .i64 a2),(3,.int .i64 a3),(4,v11),(6,.pointer (some ⟨b3,0,none⟩)),(12,.int .i64 s11.2.2)]∧Ctx (fun c_=>c_∈ZI5 (Zzn u4_0)) w0 w_ [blk b3 136 (ZH6 .u8 s11.1),own 136 8 v11 s11.2.1.length ((EA .u8).encs s11.2.1)] [ZH7 ((EI .i64).ty.sl) a0 [u0_0] fp0]) ?_ (s0:=(a1,a4,(if 20 < ZA7.wrap (ZSf a3 (a0.getD a2.toNat Zyt)) then 20 else ZA7.wrap (ZSf a3 (a0.getD a2.toNat Zyt))))) ?_ h
    ·clear hC h
     rintro s11 e_ w16 nx11 K11 ⟨v11,hS_,hC⟩ h hK11
     rw [ue hS_]
     refine ZIa (sr (Zb (v:=.int .i64 s11.2.2) rfl (Zat rfl rfl (Zb (v:=.bool (decide (s11.2.2≥0))) rfl ?_))))
     refine Xh (decide (s11.2.2≥0)) (fun hb11=>?_) (fun hb11=>?_)
     ·replace h:=ift h (ct hb11)
      refine Zl 2 42 rfl rfl hb11 (Zb (v:=v11) rfl (Zl 2 42 rfl rfl hb11 ?_))
      obtain ⟨Ad15,c14,hv15⟩:=J1 (hC.getM 1 rfl)
      refine Zx ZSi (tr rfl hv15) (Zl 2 42 rfl rfl hb11 (Zb4 rfl rfl (Yc (v:=.bool (decide ((s11.2.1.length:Int)≤400))) (b:=true) (tr rfl (congrArg _ hb11)) rfl (dn ?_))))
      refine Zr rfl (fun hb15=>?_) (fun hb15=>?_)
      ·replace h:=ift h (ct hb15)
       refine ZIe (Zd (ZIa (ZIj (sr (Zb (v:=.int .i64 a2) rfl (Zb (v:=.int .i64 s11.2.2) rfl (Zhw ZJe ZI6 rfl ?_)))))))
       obtain ⟨⟨h19,h20⟩,h⟩:=h
       refine Y5 a2.toNat ZIn sc5.size rfl rfl h19 h20 (by omega) (Zw (v:=.int .u8 (ZIk.wrap s11.2.2)) hC 0 [.int .u8 (ZIk.wrap s11.2.2)] (ZH6 .u8 (s11.1.set a2.toNat (ZIk.wrap s11.2.2))) rfl sc5.size rfl rfl rfl rfl rfl (show a2.toNat < 8 by omega) (ZI3 _ _ _ (show a2.toNat < 8 by omega)) fun w17 hC=>dn ?_)
       refine Yg 13 Ye [0,0,0,4,0,0,0,0,192,448,992,2032,0,8191,16383] [1,8,9] [0,2,3,4,5,6,7,10,11,12] (by kernel_rfl) (by kernel_rfl) (by kernel_rfl) (fun hM13 hM11 w18 hB_=>?_)
       replace hC:=hC.grow hB_
       refine aF 0 (u0_0) rfl rfl (hM11 0 rfl) (rfl) (fun _=>by exact Zf (v:=u0_0) rfl) (Za 15 1) (aL 1 (.agg (ZH8 (ZH6 .u8 (s11.1.set a2.toNat (ZIk.wrap s11.2.2))))) rfl rfl (hM13 1 rfl) (rfl) (fun _ hB_=>by exact Yv (hC.grow hB_) 0 (ZH6 .u8 (s11.1.set a2.toNat (ZIk.wrap s11.2.2))) rfl ag136 rfl rfl rfl) (Za 15 3) (aF 2 (.int .i64 a2) rfl rfl (hM11 2 rfl) (rfl) (fun _=>by exact Zf (v:=.int .i64 a2) rfl) (Za 15 7) (aF 3 (.int .i64 (ZA7.wrap (a2+1))) rfl rfl (hM11 3 rfl) (rfl) (fun _=>by exact Zdh rfl rfl) (Za 15 15) (aF 4 (.int .i64 a3) rfl rfl (hM11 4 rfl) (rfl) (fun _=>by exact Zf (v:=.int .i64 a3) rfl) (Za 15 31) (aF 5 (.int .i64 s11.2.2) rfl rfl (hM11 5 rfl) (rfl) (fun _=>by exact Zf (v:=.int .i64 s11.2.2) rfl) (Za 15 63) (aF 6 (u0_0) rfl rfl (hM11 6 rfl) (rfl) (fun _=>by exact Zf (v:=u0_0) rfl) (Za 15 127) (aF 7 (.int .i64 a2) rfl rfl (hM11 7 rfl) (rfl) (fun _=>by exact Zf (v:=.int .i64 a2) rfl) (Za 15 255) ?_)))))))
       obtain ⟨⟨h21,h22⟩,h⟩:=h
       obtain ⟨Ad11,c15,hv13⟩:=Z0 (hC.getP 0 rfl) a2.toNat (show a2.toNat < a0.length by omega)
       refine aL 8 (.pointer (some (Ad11.add (a2.toNat * 1)))) rfl rfl (hM13 8 rfl) (rfl) (fun _ hB_=>by exact Yp (len:=a0.length) ZIs sc2.size (by exact tr rfl hv13) rfl h21 h22) (Za 15 511) (aL 9 (.int .i64 (a0.getD a2.toNat Zyt)) rfl rfl (hM13 9 rfl) (rfl) (fun _ hB_=>by exact Xc (.int .i64 (a0.getD a2.toNat Zyt)) (Yf ((hC.grow hB_).getP 0 rfl) hv13 a2.toNat (show a2.toNat < a0.length by omega)) sc2 rfl) (Za 15 1023) (aF 10 (.int .i64 (ZA7.wrap (s11.2.2 * (a0.getD a2.toNat Zyt)))) rfl rfl (hM11 10 rfl) (rfl) (fun _=>by exact Zbi rfl rfl) (Za 15 2047) (aF 11 (.int .i64 (ZA7.wrap (a3 - (ZA7.wrap (s11.2.2 * (a0.getD a2.toNat Zyt)))))) rfl rfl (hM11 11 rfl) (rfl) (fun _=>by exact Zci rfl rfl) (Za 15 4095) (aF 12 (v11) rfl rfl (hM11 12 rfl) (rfl) (fun _=>by exact Zf (v:=v11) rfl) (Za 15 8191) (Zu 13 (by decide) (by decide) (by kernel_rfl) (by kernel_rfl) rfl ?_)))))
       refine Zg [u0_0,.agg (ZH8 (ZH6 .u8 (s11.1.set a2.toNat (ZIk.wrap s11.2.2)))),.int .i64 (ZA7.wrap (a2+1)),.int .i64 (ZA7.wrap (a3 - (ZA7.wrap (s11.2.2 * (a0.getD a2.toNat Zyt))))),v11] _ ZSq rfl rfl rfl (ih_ a0 (s11.1.set a2.toNat (ZIk.wrap s11.2.2)) (ZA7.wrap (a2+1)) (ZA7.wrap (a3 - (ZA7.wrap (s11.2.2 * (a0.getD a2.toNat Zyt))))) s11.2.1 h _ (hC.getP 0 rfl) (hC.getM 1 rfl) (fun b_ hb_ hb2_=>hC.pd _ (List.mem_of_getElem? (i:=0) rfl) b_ hb_ _ (List.mem_of_getElem? (i:=1) rfl) hb2_)) (fun ret11 w19 hR11=>?_)
       obtain ⟨r11,v14,rfl,h,hr11,hf11,hB11⟩:=hR11
       refine⟨_,rfl,?_⟩
       replace hC:=hC.turnO 1 rfl hB11 hr11 hf11
       refine Zc (v:=v14) rfl (done (Zv (Zs (Zd (Zh (Zb (v:=.int .i64 s11.2.2) rfl (Jt rfl rfl (Zc (v:=.int .i64 (ZA7.wrap (s11.2.2 - 1))) rfl (done ?_)))))))))
       exact hK11 (s11.1.set a2.toNat (ZIk.wrap s11.2.2),r11,ZA7.wrap (s11.2.2 - 1)) _ _ ⟨v14,(sl ⟨rfl,rfl,rfl,rfl,rfl,rfl,trivial⟩),hC⟩ h
      ·replace h:=Zk h (cf hb15)
       refine ZIr (Zj (Zj (Z9 ?_)))
       refine Zd (sr (Zb (v:=v11) rfl (Zc (v:=v11) rfl (dn (ZIi ?_)))))
       refine Zp (fn:=ZSm) rfl ?_ ⟨s11.2.1,v11,rfl,h,(hC.getM 1 rfl),(fun b_ hb_=>(hC.mfp _ (List.mem_of_getElem? (i:=1) rfl) b_ hb_).symm),hC.belO⟩ (.inl rfl)
       exact Zi rfl
     ·replace h:=Zk h (cf hb11)
      refine Zn (b:=false) 2 42 rfl (tr rfl (congrArg _ hb11)) (by decide) (Zn (b:=false) 2 42 rfl (tr rfl (congrArg _ hb11)) (by decide) (Zn (b:=false) 2 42 rfl (tr rfl (congrArg _ hb11)) (by decide) (Yc (v:=.bool false) (b:=false) (tr rfl (congrArg _ hb11)) rfl (dn (Yi rfl rfl ?_)))))
      refine ZIr (Zj (Zj (Z9 ?_)))
      refine Zd (sr (Zb (v:=v11) rfl (Zc (v:=v11) rfl (dn (ZIi ?_)))))
      refine Zp (fn:=ZSm) rfl ?_ ⟨s11.2.1,v11,rfl,h,(hC.getM 1 rfl),(fun b_ hb_=>(hC.mfp _ (List.mem_of_getElem? (i:=1) rfl) b_ hb_).symm),hC.belO⟩ (.inl rfl)
      exact Zi rfl
    ·skip
     exact⟨u4_0,(sl ⟨rfl,rfl,rfl,rfl,rfl,rfl,trivial⟩),hC⟩
def Zd1 (a0:List Int) (a1:Int) (K:List A8→Prop):Prop :=
 f_spec_l01Fill 9 a0 ZIg 0 a1 [] (fun r6=>K r6)
theorem Zln (a0:List Int) (a1:Int) {u0_0:Value} {fp0:List Nat} {K:List A8→Prop} (h:Zd1 a0 a1 K) (w0:World) (q0:((EI .i64).ty.sl).rep a0 [u0_0] fp0 w0) :
  Calls ZId 94 #[u0_0,.int .i64 a1] w0 fun e w'=>∃ (r0:List A8) (z0_0:Value) (fz0:List Nat),
   e=.returned (z0_0)∧K r0∧(ZIm (ZOd 136 ((EA .u8).tr)) r0 [z0_0] fz0).holds w'∧(∀ b,b∈fz0→w0.heap.size≤b)∧Bel w0 w':=by
 unfold Zd1 at h
 refine Z4 (args:=[u0_0,.int .i64 a1]) ZSr rfl 9 Tryz.ntmps94 (ZIc rfl) ?_
 have hC:=ZIt (X:=Nox) w0 [ZH7 ((EI .i64).ty.sl) a0 [u0_0] fp0] (by simp only [Zyz,ZAt,or_false,forall_eq_or_imp,forall_eq]; exact q0)
 refine sr (Zc (v:=.slice none 0 0) rfl (dn (sr (Zb (v:=u0_0) rfl (Jn [] rfl (Zin   _) (Zb (v:=.int .i64 a1) rfl ?_))))))
 replace hC:=hC.pushNil 136 8
 refine Zg [u0_0,.agg (ZH8 (ZH6 .u8 ZIg)),.int .i64 0,.int .i64 a1,.slice none 0 0] _ ZSq rfl rfl rfl (Zv8 9 a0 ZIg 0 a1 [] h _ (hC.getP 0 rfl) (hC.getM 0 rfl) (fun b_ hb_ hb2_=>hC.pd _ (List.mem_of_getElem? (i:=0) rfl) b_ hb_ _ (List.mem_of_getElem? (i:=0) rfl) hb2_)) (fun ret3 w5 hR4=>?_)
 obtain ⟨r6,v7,rfl,h,hr8,hf9,hB10⟩:=hR4
 refine⟨_,rfl,?_⟩
 replace hC:=hC.turnO 0 rfl hB10 hr8 hf9
 refine Zc (v:=v7) rfl (dn (ZIi ?_))
 refine Zp (fn:=Tryz.f94) rfl ?_ ⟨r6,v7,(ZI5 (Zzn v7)),rfl,h,(Jr (hC.getM 0 rfl)),(X5 hC 0 rfl),hC.below⟩ (.inl rfl)
 exact Zi rfl
def Zd2 (a0:Alg) (a1:Int) (K:Int→Prop):Prop :=
 Xj (fun (s10:Int×Int) nx10=>(if s10.2 < (a0.degrees.length:Int) then((0≤s10.2∧s10.2 < (a0.degrees.length:Int))∧(if a0.degrees.getD s10.2.toNat Zyt≥a1 then((0≤s10.2∧s10.2 < (a0.degrees.length:Int))∧Zd1 a0.degrees (ZA7.wrap ((a0.degrees.getD s10.2.toNat Zyt) - a1)) (fun r10=>nx10 (ZA7.wrap (s10.1+(r10.length:Int)),ZA7.wrap (s10.2+1)))) else nx10 (s10.1,ZA7.wrap (s10.2+1)))) else K s10.1)) (0,0)
theorem Zos (a0:Alg) (a1:Int) {u0_0:Value} {u0_1:Value} {fp0:List Nat} {K:Int→Prop} (h:Zd2 a0 a1 K) (w0:World) (q0:TAlg.rep a0 [u0_0,u0_1] fp0 w0) :
  Calls ZId 93 #[.agg #[u0_0,u0_1],.int .i64 a1] w0 fun e w'=>∃ (r0:Int),
   e=.returned (.int .i64 r0)∧K r0∧Bel w0 w':=by
 unfold Zd2 at h
 refine Z4 (args:=[.agg #[u0_0,u0_1],.int .i64 a1]) Tryz.func93 rfl 35 Tryz.ntmps93 (ZIc rfl) ?_
 have hC:=ZIt (X:=Nox) w0 [ZH7 TAlg a0 [u0_0,u0_1] fp0] (by simp only [Zyz,ZAt,or_false,forall_eq_or_imp,forall_eq]; exact q0)
 have hp2:=(hC.getP 0 rfl)
 replace hC:=hC.derive 0 rfl (ZH7 ((EI .i64).ty.sl) a0.degrees [u0_0] fp0) (fun _=>(Yw hp2).1) (fun _ hb_=>hb_)
 replace hC:=hC.derive 1 rfl (ZH7 ZIo.sl a0.images [u0_1] fp0) (fun _=>(Yw hp2).2) (fun _ hb_=>hb_)
 refine sr (Yl (v:=.agg #[u0_0,u0_1]) hC [u0_0,u0_1] rfl rfl fun b5 w7 hB_ hC=>Zc (v:=.int .i64 0) rfl (dn (sr (Zc (v:=.int .i64 0) rfl (dn (ZIa (sr (Zc (v:=.int .i64 0) rfl (dn (ZIj ?_))))))))))
 refine X1 (S:=Int×Int) _ (fun s10 e_ w_=>Z3 e_ [(1,.int .i64 a1),(2,.pointer (some ⟨b5,0,none⟩)),(5,.int .i64 s10.1),(6,.int .i64 s10.2)]∧Ctx Nox w0 w_ [blk b5 32 [u0_0,u0_1]] [ZH7 ZIo.sl a0.images [u0_1] fp0,ZH7 ((EI .i64).ty.sl) a0.degrees [u0_0] fp0,ZH7 TAlg a0 [u0_0,u0_1] fp0]) ?_ (s0:=(0,0)) ?_ h
 ·clear hC h
  rintro s10 e_ w10 nx10 K10 ⟨hS_,hC⟩ h hK10
  rw [ue hS_]
  refine ZIa (sr (Zb (v:=.int .i64 s10.2) rfl (Z6 0 ZIq rfl sc22.size rfl rfl (Z8 hC 0 (u0_0) rfl sc22 rfl rfl ?_))))
  obtain ⟨Ad11,c10,hv12⟩:=Z1 (hC.getP 1 rfl)
  refine Zx ZIs (tr rfl hv12) (Zt rfl rfl (dn ?_))
  refine Zr rfl (fun hb10=>?_) (fun hb10=>?_)
  ·replace h:=ift h (ct hb10)
   refine ZIe (Zd (ZIa (ZIj (sr (Z6 0 ZIq rfl sc22.size rfl rfl (Z8 hC 0 (u0_0) rfl sc22 rfl rfl (Zb (v:=.int .i64 s10.2) rfl ?_)))))))
   obtain ⟨⟨h10,h11⟩,h⟩:=h
   obtain ⟨Ad12,c11,hv10⟩:=Z0 (hC.getP 1 rfl) s10.2.toNat (show s10.2.toNat < a0.degrees.length by omega)
   refine Xb (len:=a0.degrees.length) ZIs sc2.size (tr rfl hv10) rfl h10 h11 (Xm (.int .i64 (a0.degrees.getD s10.2.toNat Zyt)) (Yf (hC.getP 1 rfl) hv10 s10.2.toNat (show s10.2.toNat < a0.degrees.length by omega)) sc2 rfl (Zb (v:=.int .i64 a1) rfl (Zat rfl rfl (dn ?_))))
   refine Zr rfl (fun hb11=>?_) (fun hb11=>?_)
   ·replace h:=ift h (ct hb11)
    refine Yg 12 Ye [0,0,2,0,8,0,56,120,0,504,1022,2046,4095,8191] [2,4,6,7,11] [0,1,3,5,8,9] (by kernel_rfl) (by kernel_rfl) (by kernel_rfl) (fun hM11 hM10 w11 hB_=>?_)
    replace hC:=hC.grow hB_
    refine aF 0 (.int .i64 s10.1) rfl rfl (hM10 0 rfl) (rfl) (fun _=>by exact Zf (v:=.int .i64 s10.1) rfl) (Za 14 1) (aF 1 (.pointer (some ⟨b5,0,none⟩)) rfl rfl (hM10 1 rfl) (rfl) (fun _=>by exact Z7 0 ZIq rfl sc22.size rfl rfl) (Za 14 3) (aL 2 (u0_0) rfl rfl (hM11 2 rfl) (rfl) (fun _ hB_=>by exact Z5 (hC.grow hB_) 0 (u0_0) rfl sc22 rfl rfl) (Za 14 7) (aF 3 (.pointer (some ⟨b5,0,none⟩)) rfl rfl (hM10 3 rfl) (rfl) (fun _=>by exact Z7 0 ZIq rfl sc22.size rfl rfl) (Za 14 15) (aL 4 (u0_0) rfl rfl (hM11 4 rfl) (rfl) (fun _ hB_=>by exact Z5 (hC.grow hB_) 0 (u0_0) rfl sc22 rfl rfl) (Za 14 31) (aF 5 (.int .i64 s10.2) rfl rfl (hM10 5 rfl) (rfl) (fun _=>by exact Zf (v:=.int .i64 s10.2) rfl) (Za 14 63) ?_)))))
    obtain ⟨⟨h12,h13⟩,h⟩:=h
    obtain ⟨Ad10,c12,hv11⟩:=Z0 (hC.getP 1 rfl) s10.2.toNat (show s10.2.toNat < a0.degrees.length by omega)
    refine aL 6 (.pointer (some (Ad10.add (s10.2.toNat * 1)))) rfl rfl (hM11 6 rfl) (rfl) (fun _ hB_=>by exact Yp (len:=a0.degrees.length) ZIs sc2.size (by exact tr rfl hv11) rfl h12 h13) (Za 14 127) (aL 7 (.int .i64 (a0.degrees.getD s10.2.toNat Zyt)) rfl rfl (hM11 7 rfl) (rfl) (fun _ hB_=>by exact Xc (.int .i64 (a0.degrees.getD s10.2.toNat Zyt)) (Yf ((hC.grow hB_).getP 1 rfl) hv11 s10.2.toNat (show s10.2.toNat < a0.degrees.length by omega)) sc2 rfl) (Za 14 255) (aF 8 (.int .i64 a1) rfl rfl (hM10 8 rfl) (rfl) (fun _=>by exact Zf (v:=.int .i64 a1) rfl) (Za 14 511) (aF 9 (.int .i64 (ZA7.wrap ((a0.degrees.getD s10.2.toNat Zyt) - a1))) rfl rfl (hM10 9 rfl) (rfl) (fun _=>by exact Zci rfl rfl) (Za 14 1023) (aO 10 rfl ?_))))
    refine Zg [u0_0,.int .i64 (ZA7.wrap ((a0.degrees.getD s10.2.toNat Zyt) - a1))] _ ZSr rfl rfl rfl (Zln a0.degrees (ZA7.wrap ((a0.degrees.getD s10.2.toNat Zyt) - a1)) h _ (hC.getP 1 rfl)) (fun ret10 w12 hR10=>?_)
    obtain ⟨r10,u10,f10,rfl,h,hr10,hf10,hB10⟩:=hR10
    refine⟨_,rfl,?_⟩
    replace hC:=hC.push hB10 (ZIm (ZOd 136 ((EA .u8).tr)) r10 [u10] f10) hr10 hf10
    obtain ⟨ho10,hf11⟩:=Zac (hC.getM 0 rfl).1
    subst hf11
    replace hC:=hC.recast (c:=own 136 8 u10 r10.length ((EA .u8).encs r10)) (fun _ h_=>h_) (fun _=>ho10)
    refine done (aK (by assumption) (Za 14 2047) ?_)
    obtain ⟨Ad13,c13,hv13⟩:=J1 (hC.getM 0 rfl)
    refine aL 11 (.int .i64 (r10.length:Int)) rfl rfl (hM11 11 rfl) (rfl) (fun _ hB_=>by exact Zb5 ZSi (by exact tr rfl hv13)) (Za 14 4095) (Zu 12 (by decide) (by decide) (by kernel_rfl) (by kernel_rfl) rfl (Zq rfl rfl (Zc (v:=.int .i64 (ZA7.wrap (s10.1+(r10.length:Int)))) rfl (done (Zv (Zs (Zd (Zh (Zb (v:=.int .i64 s10.2) rfl (Zq rfl rfl (Zc (v:=.int .i64 (ZA7.wrap (s10.2+1))) rfl ?_)))))))))))
    refine done ?_
    replace hC:=hC.sM [1] (M':=[blk b5 32 [u0_0,u0_1]]) (by decide) rfl
    exact hK10 (ZA7.wrap (s10.1+(r10.length:Int)),ZA7.wrap (s10.2+1)) _ _ ⟨(sl ⟨rfl,rfl,rfl,rfl,trivial⟩),hC⟩ h
   ·replace h:=Zk h (cf hb11)
    refine ZIe (Zs (Zd (Zh (Zb (v:=.int .i64 s10.2) rfl (Zq rfl rfl (Zc (v:=.int .i64 (ZA7.wrap (s10.2+1))) rfl (done ?_)))))))
    exact hK10 (s10.1,ZA7.wrap (s10.2+1)) _ _ ⟨(sl ⟨rfl,rfl,rfl,rfl,trivial⟩),hC⟩ h
  ·replace h:=Zk h (cf hb10)
   refine ZIr (Zj (Zj (Z9 ?_)))
   refine Zd (sr (Zb (v:=.int .i64 s10.1) rfl (Zc (v:=.int .i64 s10.1) rfl (dn (ZIi ?_)))))
   refine Zp (fn:=Tryz.f93) rfl ?_ ⟨s10.1,rfl,h,hC.below⟩ (.inl rfl)
   exact Zi rfl
 ·skip
  exact⟨(sl ⟨rfl,rfl,rfl,rfl,trivial⟩),hC⟩
def Zg3 (a0:Alg) (a1:Int) (a2:Int) (a3:Int) (a4:Int) (K:Int→Prop):Prop :=
 Zf7 a0 (fun r10=>(if¬ (r10=true) then K 1 else Zdq a1 a2 a3 (fun r11=>(if¬ (r11=true) then K 2 else Xj (fun (s10:Int) nx10=>(if s10≤ZA7.wrap (a1+a4) then(if s10≥a1 then Zd2 a0 s10 (fun r12=>(if r12 > 120 then K 3 else nx10 (ZA7.wrap (s10+1)))) else(if a2 > 0 then Zd2 a0 s10 (fun r13=>(if r13 > 120 then K 3 else nx10 (ZA7.wrap (s10+1)))) else nx10 (ZA7.wrap (s10+1)))) else K 0)) (if ZA7.wrap (a1 - 1) < 0 then 0 else ZA7.wrap (a1 - 1))))))
theorem Zv9 (a0 : Alg) (a1 : Int) (a2 : Int) (a3 : Int) (a4 : Int) {u0_0 : Value} {u0_1 : Value} {fp0 : List Nat} {K : Int → Prop} (h : Zg3 a0 a1 a2 a3 a4 K) (w0 : World) (q0 : TAlg.rep a0 [u0_0, u0_1] fp0 w0) :
  Calls ZId 39 #[.agg #[u0_0,u0_1],.int .i64 a1,.int .i64 a2,.int .i64 a3,.int .i64 a4] w0 fun e w'=>∃ (r0:Int),
   e=.returned (.int .i64 r0)∧K r0∧Bel w0 w':=by
 unfold Zg3 at h
 refine Z4 (args:=[.agg #[u0_0,u0_1],.int .i64 a1,.int .i64 a2,.int .i64 a3,.int .i64 a4]) Tryz.func39 rfl 45 Tryz.ntmps39 (ZIc rfl) ?_
 have hC:=ZIt (X:=Nox) w0 [ZH7 TAlg a0 [u0_0,u0_1] fp0] (by simp only [Zyz,ZAt,or_false,forall_eq_or_imp,forall_eq]; exact q0)
 have hp2:=(hC.getP 0 rfl)
 replace hC:=hC.derive 0 rfl (ZH7 ((EI .i64).ty.sl) a0.degrees [u0_0] fp0) (fun _=>(Yw hp2).1) (fun _ hb_=>hb_)
 replace hC:=hC.derive 1 rfl (ZH7 ZIo.sl a0.images [u0_1] fp0) (fun _=>(Yw hp2).2) (fun _ hb_=>hb_)
 refine sr (Yl (v:=.agg #[u0_0,u0_1]) hC [u0_0,u0_1] rfl rfl fun b5 w7 hB_ hC=>Zc (v:=.int .i64 0) rfl (dn (ZIa (ZIj (sr (Yy hC 0 [u0_0,u0_1] rfl ag32 rfl rfl rfl ?_))))))
 refine Zg [.agg #[u0_0,u0_1]] _ Tryz.func92 rfl rfl rfl (Zsx a0 h _ (Xy (hC.getP 1 rfl) (hC.getP 0 rfl))) (fun ret8 w10 hR9=>?_)
 obtain ⟨r10,rfl,h,hB10⟩:=hR9
 refine⟨_,rfl,?_⟩
 replace hC:=hC.grow hB10
 refine Jf rfl (Zc (v:=.bool (!r10)) rfl (dn ?_))
 refine Zr rfl (fun hb12=>?_) (fun hb12=>?_)
 ·replace h:=ift h (Xz (Jp hb12))
  refine sr (Zc (v:=.int .i64 1) rfl (dn ?_))
  refine ZIi (Yd (Zo ?_))
  refine Zp (fn:=ZSn) rfl ?_ ⟨1,rfl,h,hC.below⟩ (.inl rfl)
  exact Zi rfl
 ·replace h:=Zk h (not_not_intro ((Jq hb12)))
  refine sr (Zb (v:=.int .i64 a1) rfl (Zb (v:=.int .i64 a2) rfl (Zb (v:=.int .i64 a3) rfl ?_)))
  refine Zg [.int .i64 a1,.int .i64 a2,.int .i64 a3] _ Tryz.func59 rfl rfl rfl (Zks a1 a2 a3 h _) (fun ret10 w11 hR10=>?_)
  obtain ⟨r11,rfl,h,hB11⟩:=hR10
  refine⟨_,rfl,?_⟩
  replace hC:=hC.grow hB11
  refine Jf rfl (Zc (v:=.bool (!r11)) rfl (dn ?_))
  refine Zr rfl (fun hb13=>?_) (fun hb13=>?_)
  ·replace h:=ift h (Xz (Jp hb13))
   refine sr (Zc (v:=.int .i64 2) rfl (dn ?_))
   refine ZIi (Yd (Zo ?_))
   refine Zp (fn:=ZSn) rfl ?_ ⟨2,rfl,h,hC.below⟩ (.inl rfl)
   exact Zi rfl
  ·replace h:=Zk h (not_not_intro ((Jq hb13)))
   refine ZIe (Zs (Zd (ZIa (sr (Zb (v:=.int .i64 a1) rfl (Jt rfl rfl (Zvf rfl rfl (Zc (v:=.int .i64 (if ZA7.wrap (a1 - 1) < 0 then 0 else ZA7.wrap (a1 - 1))) rfl (dn (ZIj ?_))))))))))
   refine X1 (S:=Int) _ (fun s10 e_ w_=>Z3 e_ [(1,.int .i64 a1),(2,.int .i64 a2),(4,.int .i64 a4),(5,.pointer (some ⟨b5,0,none⟩)),(11,.int .i64 s10)]∧Ctx Nox w0 w_ [blk b5 32 [u0_0,u0_1]] [ZH7 ZIo.sl a0.images [u0_1] fp0,ZH7 ((EI .i64).ty.sl) a0.degrees [u0_0] fp0,ZH7 TAlg a0 [u0_0,u0_1] fp0]) ?_ (s0:=(if ZA7.wrap (a1 - 1) < 0 then 0 else ZA7.wrap (a1 - 1))) ?_ h
   ·clear hC h
    rintro s10 e_ w12 nx10 K10 ⟨hS_,hC⟩ h hK10
    rw [ue hS_]
    refine ZIa (sr (Zb (v:=.int .i64 s10) rfl (Zb (v:=.int .i64 a1) rfl (Zb (v:=.int .i64 a4) rfl (Zq rfl rfl (Zb4 rfl rfl (dn ?_)))))))
    refine Zr rfl (fun hb14=>?_) (fun hb14=>?_)
    ·replace h:=ift h (ct hb14)
     refine ZIe (Zd (ZIa (ZIj (sr (Zb (v:=.int .i64 s10) rfl (Zb (v:=.int .i64 a1) rfl (Zat rfl rfl (Zb (v:=.bool (decide (s10≥a1))) rfl ?_))))))))
     refine Xh (decide (s10≥a1)) (fun hb11=>?_) (fun hb11=>?_)
     ·replace h:=ift h (ct hb11)
      refine Zn (b:=true) 3 35 rfl (tr rfl (congrArg _ hb11)) (by decide) (Zn (b:=true) 3 35 rfl (tr rfl (congrArg _ hb11)) (by decide) (Yc (v:=.bool true) (b:=true) (tr rfl (congrArg _ hb11)) rfl (Zb (v:=.bool true) rfl (Zl 7 39 rfl rfl rfl (Yy hC 0 [u0_0,u0_1] rfl ag32 rfl rfl rfl (Zl 7 39 rfl rfl rfl (Zb (v:=.int .i64 s10) rfl (Zl 7 39 rfl rfl rfl ?_))))))))
      refine Zg [.agg #[u0_0,u0_1],.int .i64 s10] _ Tryz.func93 rfl rfl rfl (Zos a0 s10 h _ (Xy (hC.getP 1 rfl) (hC.getP 0 rfl))) (fun ret11 w13 hR11=>?_)
      obtain ⟨r12,rfl,h,hB12⟩:=hR11
      refine⟨_,rfl,?_⟩
      replace hC:=hC.grow hB12
      refine Zl 7 39 rfl rfl rfl (Jj rfl rfl (Yc (v:=.bool (decide (r12 > 120))) (b:=true) rfl rfl (dn ?_)))
      refine Zr rfl (fun hb15=>?_) (fun hb15=>?_)
      ·replace h:=ift h (ct hb15)
       refine sr (Zc (v:=.int .i64 3) rfl (dn ?_))
       refine ZIi (Yd (Zo (Zo (Yd (Zo ?_)))))
       refine Zp (fn:=ZSn) rfl ?_ ⟨3,rfl,h,hC.below⟩ (.inl rfl)
       exact Zi rfl
      ·replace h:=Zk h (cf hb15)
       refine ZIe (Zs (Zd (Zh (Zb (v:=.int .i64 s10) rfl (Zq rfl rfl (Zc (v:=.int .i64 (ZA7.wrap (s10+1))) rfl (done ?_)))))))
       exact hK10 (ZA7.wrap (s10+1)) _ _ ⟨(sl ⟨rfl,rfl,rfl,rfl,rfl,trivial⟩),hC⟩ h
     ·replace h:=Zk h (cf hb11)
      refine Zl 3 35 rfl rfl hb11 (Zb (v:=.int .i64 a2) rfl (Zl 3 35 rfl rfl hb11 (Jj rfl rfl (Yc (v:=.bool (decide (a2 > 0))) (b:=false) (tr rfl (congrArg _ hb11)) rfl (Zb (v:=.bool (decide (a2 > 0))) rfl ?_)))))
      refine Xh (decide (a2 > 0)) (fun hb10=>?_) (fun hb10=>?_)
      ·replace h:=ift h (ct hb10)
       refine Zl 7 39 rfl rfl hb10 (Yy hC 0 [u0_0,u0_1] rfl ag32 rfl rfl rfl (Zl 7 39 rfl rfl hb10 (Zb (v:=.int .i64 s10) rfl (Zl 7 39 rfl rfl hb10 ?_))))
       refine Zg [.agg #[u0_0,u0_1],.int .i64 s10] _ Tryz.func93 rfl rfl rfl (Zos a0 s10 h _ (Xy (hC.getP 1 rfl) (hC.getP 0 rfl))) (fun ret12 w14 hR12=>?_)
       obtain ⟨r13,rfl,h,hB13⟩:=hR12
       refine⟨_,rfl,?_⟩
       replace hC:=hC.grow hB13
       refine Zl 7 39 rfl rfl hb10 (Jj rfl rfl (Yc (v:=.bool (decide (r13 > 120))) (b:=true) (tr rfl (congrArg _ hb10)) rfl (dn ?_)))
       refine Zr rfl (fun hb16=>?_) (fun hb16=>?_)
       ·replace h:=ift h (ct hb16)
        refine sr (Zc (v:=.int .i64 3) rfl (dn ?_))
        refine ZIi (Yd (Zo (Zo (Yd (Zo ?_)))))
        refine Zp (fn:=ZSn) rfl ?_ ⟨3,rfl,h,hC.below⟩ (.inl rfl)
        exact Zi rfl
       ·replace h:=Zk h (cf hb16)
        refine ZIe (Zs (Zd (Zh (Zb (v:=.int .i64 s10) rfl (Zq rfl rfl (Zc (v:=.int .i64 (ZA7.wrap (s10+1))) rfl (done ?_)))))))
        exact hK10 (ZA7.wrap (s10+1)) _ _ ⟨(sl ⟨rfl,rfl,rfl,rfl,rfl,trivial⟩),hC⟩ h
      ·replace h:=Zk h (cf hb10)
       refine Zn (b:=false) 7 39 rfl (tr rfl (congrArg _ hb10)) (by decide) (Zn (b:=false) 7 39 rfl (tr rfl (congrArg _ hb10)) (by decide) (Zn (b:=false) 7 39 rfl (tr rfl (congrArg _ hb10)) (by decide) (Zn (b:=false) 7 39 rfl (tr rfl (congrArg _ hb10)) (by decide) (Yc (v:=.bool false) (b:=false) (tr rfl (congrArg _ hb10)) rfl (dn (Yi rfl rfl (ZIe (Zs (Zd (Zh (Zb (v:=.int .i64 s10) rfl ?_)))))))))))
       refine Zq rfl rfl (Zc (v:=.int .i64 (ZA7.wrap (s10+1))) rfl (done ?_))
       exact hK10 (ZA7.wrap (s10+1)) _ _ ⟨(sl ⟨rfl,rfl,rfl,rfl,rfl,trivial⟩),hC⟩ h
    ·replace h:=Zk h (cf hb14)
     refine ZIr (Zj (Zj (Z9 ?_)))
     refine Zd (sr (Zc (v:=.int .i64 0) rfl (dn (ZIi ?_))))
     refine Zp (fn:=ZSn) rfl ?_ ⟨0,rfl,h,hC.below⟩ (.inl rfl)
     exact Zi rfl
   ·skip
    exact⟨(sl ⟨rfl,rfl,rfl,rfl,rfl,trivial⟩),hC⟩
def Zg4 (a0:Alg) (a1:Int) (K:List Der→Prop):Prop :=
 Xj (fun (s10:(List Der)×Int) nx10=>(if s10.2 < (a0.degrees.length:Int) then((0≤s10.2∧s10.2 < (a0.degrees.length:Int))∧(if a0.degrees.getD s10.2.toNat Zyt < a1 then nx10 (s10.1,ZA7.wrap (s10.2+1)) else((0≤s10.2∧s10.2 < (a0.degrees.length:Int))∧Zd1 a0.degrees (ZA7.wrap ((a0.degrees.getD s10.2.toNat Zyt) - a1)) (fun r10=>Yt (fun i10 (s11:(List Der)) nx11=>((0≤(a0.degrees.length:Int)∧(a0.degrees.length:Int) * 24≤281474976710656)∧Jb (r10.getD i10 Zyt) 1 (fun r11=>((0≤s10.2∧s10.2 < ((Zy0 ((a0.degrees.length:Int).toNat) ((⟨[]⟩:ZIb):ZIb)).length:Int))∧(Yo (s11.length+1) 32∧nx11 (s11++[(⟨a1,(Zy0 ((a0.degrees.length:Int).toNat) ((⟨[]⟩:ZIb):ZIb)).set s10.2.toNat r11⟩:Der)])))))) (fun (s11:(List Der))=>nx10 (s11,ZA7.wrap (s10.2+1))) r10.length 0 s10.1)))) else K s10.1)) ([],0)
theorem Zwa (a0:Alg) (a1:Int) {u0_0:Value} {u0_1:Value} {fp0:List Nat} {K:List Der→Prop} (h:Zg4 a0 a1 K) (w0:World) (q0:TAlg.rep a0 [u0_0,u0_1] fp0 w0) :
  Calls ZId 40 #[.agg #[u0_0,u0_1],.int .i64 a1] w0 fun e w'=>∃ (r0:List Der) (z0_0:Value) (fz0:List Nat),
   e=.returned (z0_0)∧K r0∧(ZIm (ZOd 77 (J5 162 55)) r0 [z0_0] fz0).holds w'∧(∀ b,b∈fz0→w0.heap.size≤b)∧Bel w0 w':=by
 unfold Zg4 at h
 refine Z4 (args:=[.agg #[u0_0,u0_1],.int .i64 a1]) Tryz.func40 rfl 61 Tryz.ntmps40 (ZIc rfl) ?_
 have hC:=ZIt (X:=Nox) w0 [ZH7 TAlg a0 [u0_0,u0_1] fp0] (by simp only [Zyz,ZAt,or_false,forall_eq_or_imp,forall_eq]; exact q0)
 have hp2:=(hC.getP 0 rfl)
 replace hC:=hC.derive 0 rfl (ZH7 ((EI .i64).ty.sl) a0.degrees [u0_0] fp0) (fun _=>(Yw hp2).1) (fun _ hb_=>hb_)
 replace hC:=hC.derive 1 rfl (ZH7 ZIo.sl a0.images [u0_1] fp0) (fun _=>(Yw hp2).2) (fun _ hb_=>hb_)
 refine sr (Yl (v:=.agg #[u0_0,u0_1]) hC [u0_0,u0_1] rfl rfl fun b5 w7 hB_ hC=>Zc (v:=.slice none 0 0) rfl (dn (sr (Xr (sz:=2) hC [] [] rfl (fun _=>Zvu _) rfl (by decide) fun b8 w9 hB_ hC=>?_))))
 replace hC:=hC.pushM0 (Ym (J5 162 55) ([]:List Der) [] []) (Za5 _ _) rfl
 replace hC:=hC.gather (c:=ZIm (ZOd 77 (J5 162 55)) [] [.slice (some ⟨b8,0,none⟩) 0 0] ((ZI5 (Zzn (.slice (some ⟨b8,0,none⟩) 0 0)))++([]:List (List Nat)).flatten)) (fun x_ hx_=>(Zzu.1 hx_).symm) (fun h1_ h2_ hd_=>Zal h2_ h1_ (fun b_ hb_ hb2_=>hd_ b_ hb2_ hb_))
 refine Zc (v:=.slice (some ⟨b8,0,none⟩) 0 0) rfl (dn (ZIa (sr (Zc (v:=.int .i64 0) rfl (dn (ZIj ?_))))))
 refine X1 (S:=(List Der)×Int) _ (fun s10 e_ w_=>∃ (v12:Value),∃ (f11:List Nat),Z3 e_ [(1,.int .i64 a1),(2,.pointer (some ⟨b5,0,none⟩)),(5,v12),(6,.int .i64 s10.2)]∧Ctx Nox w0 w_ [ZIm (ZOd 77 (J5 162 55)) s10.1 [v12] f11,blk b5 32 [u0_0,u0_1]] [ZH7 ZIo.sl a0.images [u0_1] fp0,ZH7 ((EI .i64).ty.sl) a0.degrees [u0_0] fp0,ZH7 TAlg a0 [u0_0,u0_1] fp0]) ?_ (s0:=([],0)) ?_ h
 ·clear hC h
  rintro s10 e_ w10 nx10 K11 ⟨v12,f11,hS_,hC⟩ h hK10
  rw [ue hS_]
  refine ZIa (sr (Zb (v:=.int .i64 s10.2) rfl (Z6 0 ZIq rfl sc22.size rfl rfl (Z8 hC 1 (u0_0) rfl sc22 rfl rfl ?_))))
  obtain ⟨Ad12,c10,hv14⟩:=Z1 (hC.getP 1 rfl)
  refine Zx ZIs (tr rfl hv14) (Zt rfl rfl (dn ?_))
  refine Zr rfl (fun hb10=>?_) (fun hb10=>?_)
  ·replace h:=ift h (ct hb10)
   refine ZIe (Zd (ZIa (ZIj (ZIa (sr (Z6 0 ZIq rfl sc22.size rfl rfl (Z8 hC 1 (u0_0) rfl sc22 rfl rfl (Zb (v:=.int .i64 s10.2) rfl ?_))))))))
   obtain ⟨⟨h10,h11⟩,h⟩:=h
   obtain ⟨Ad13,c11,hv10⟩:=Z0 (hC.getP 1 rfl) s10.2.toNat (show s10.2.toNat < a0.degrees.length by omega)
   refine Xb (len:=a0.degrees.length) ZIs sc2.size (tr rfl hv10) rfl h10 h11 (Xm (.int .i64 (a0.degrees.getD s10.2.toNat Zyt)) (Yf (hC.getP 1 rfl) hv10 s10.2.toNat (show s10.2.toNat < a0.degrees.length by omega)) sc2 rfl (Zb (v:=.int .i64 a1) rfl (Zt rfl rfl (dn ?_))))
   refine Zr rfl (fun hb11=>?_) (fun hb11=>?_)
   ·replace h:=ift h (ct hb11)
    refine ZIr (Zj (Z9 ?_))
    refine Zd (Zh (Zb (v:=.int .i64 s10.2) rfl (Zq rfl rfl (Zc (v:=.int .i64 (ZA7.wrap (s10.2+1))) rfl (done ?_)))))
    exact hK10 (s10.1,ZA7.wrap (s10.2+1)) _ _ ⟨v12,f11,(sl ⟨rfl,rfl,rfl,rfl,trivial⟩),hC⟩ h
   ·replace h:=Zk h (cf hb11)
    refine ZIe (Zd (ZIa ?_))
    refine Yg 9 Ye [0,1,0,4,0,28,60,0,252,511,1023] [1,3,5,6] [0,2,4,7,8] (by kernel_rfl) (by kernel_rfl) (by kernel_rfl) (fun hM11 hM10 w11 hB_=>?_)
    replace hC:=hC.grow hB_
    refine aF 0 (.pointer (some ⟨b5,0,none⟩)) rfl rfl (hM10 0 rfl) (rfl) (fun _=>by exact Z7 0 ZIq rfl sc22.size rfl rfl) (Za 11 1) (aL 1 (u0_0) rfl rfl (hM11 1 rfl) (rfl) (fun _ hB_=>by exact Z5 (hC.grow hB_) 1 (u0_0) rfl sc22 rfl rfl) (Za 11 3) (aF 2 (.pointer (some ⟨b5,0,none⟩)) rfl rfl (hM10 2 rfl) (rfl) (fun _=>by exact Z7 0 ZIq rfl sc22.size rfl rfl) (Za 11 7) (aL 3 (u0_0) rfl rfl (hM11 3 rfl) (rfl) (fun _ hB_=>by exact Z5 (hC.grow hB_) 1 (u0_0) rfl sc22 rfl rfl) (Za 11 15) (aF 4 (.int .i64 s10.2) rfl rfl (hM10 4 rfl) (rfl) (fun _=>by exact Zf (v:=.int .i64 s10.2) rfl) (Za 11 31) ?_))))
    obtain ⟨⟨h12,h13⟩,h⟩:=h
    obtain ⟨Ad10,c12,hv11⟩:=Z0 (hC.getP 1 rfl) s10.2.toNat (show s10.2.toNat < a0.degrees.length by omega)
    refine aL 5 (.pointer (some (Ad10.add (s10.2.toNat * 1)))) rfl rfl (hM11 5 rfl) (rfl) (fun _ hB_=>by exact Yp (len:=a0.degrees.length) ZIs sc2.size (by exact tr rfl hv11) rfl h12 h13) (Za 11 63) (aL 6 (.int .i64 (a0.degrees.getD s10.2.toNat Zyt)) rfl rfl (hM11 6 rfl) (rfl) (fun _ hB_=>by exact Xc (.int .i64 (a0.degrees.getD s10.2.toNat Zyt)) (Yf ((hC.grow hB_).getP 1 rfl) hv11 s10.2.toNat (show s10.2.toNat < a0.degrees.length by omega)) sc2 rfl) (Za 11 127) (aF 7 (.int .i64 a1) rfl rfl (hM10 7 rfl) (rfl) (fun _=>by exact Zf (v:=.int .i64 a1) rfl) (Za 11 255) (aF 8 (.int .i64 (ZA7.wrap ((a0.degrees.getD s10.2.toNat Zyt) - a1))) rfl rfl (hM10 8 rfl) (rfl) (fun _=>by exact Zci rfl rfl) (Za 11 511) (Zu 9 (by decide) (by decide) (by kernel_rfl) (by kernel_rfl) rfl ?_))))
    refine Zg [u0_0,.int .i64 (ZA7.wrap ((a0.degrees.getD s10.2.toNat Zyt) - a1))] _ ZSr rfl rfl rfl (Zln a0.degrees (ZA7.wrap ((a0.degrees.getD s10.2.toNat Zyt) - a1)) h _ (hC.getP 1 rfl)) (fun ret10 w12 hR10=>?_)
    obtain ⟨r10,u10,f14,rfl,h,hr10,hf10,hB10⟩:=hR10
    refine⟨_,rfl,?_⟩
    replace hC:=hC.push hB10 (ZIm (ZOd 136 ((EA .u8).tr)) r10 [u10] f14) hr10 hf10
    obtain ⟨ho10,hf11⟩:=Zac (hC.getM 0 rfl).1
    subst hf11
    replace hC:=hC.recast (c:=own 136 8 u10 r10.length ((EA .u8).encs r10)) (fun _ h_=>h_) (fun _=>ho10)
    refine Zc (v:=u10) rfl (done (Zv (Zd (sr (Zc (v:=.int .i64 0) rfl (dn (ZIj ?_)))))))
    have hN10:r10.length≤9223372036854775807:=Zh3 (hC.getM 0 rfl)
    refine Y9 (S:=(List Der)) _ _ (fun i10 s11 e_ w_=>∃ (v11:Value),∃ (f10:List Nat),Z3 e_ [(1,.int .i64 a1),(2,.pointer (some ⟨b5,0,none⟩)),(5,v11),(6,.int .i64 s10.2),(7,u10),(8,.int .i64 (i10:Int))]∧Ctx Nox w0 w_ [own 136 8 u10 r10.length ((EA .u8).encs r10),ZIm (ZOd 77 (J5 162 55)) s11 [v11] f10,blk b5 32 [u0_0,u0_1]] [ZH7 ZIo.sl a0.images [u0_1] fp0,ZH7 ((EI .i64).ty.sl) a0.degrees [u0_0] fp0,ZH7 TAlg a0 [u0_0,u0_1] fp0]) r10.length ?_ ?_ (s0:=s10.1) ?_ h
    ·clear hC h
     rintro i10 s11 e_ w13 nx11 K10 hi10 ⟨v11,f10,hS_,hC⟩ h hK11
     rw [ue hS_]
     refine ZIa (sr (Zb (v:=.int .i64 (i10:Int)) rfl (Zb (v:=u10) rfl ?_)))
     obtain ⟨Ad14,c13,hv15⟩:=J1 (hC.getM 0 rfl)
     refine Zx ZSi (tr rfl hv15) (Zt rfl rfl (dn (Yr rfl (decide_eq_true (by omega)) (ZIe (Zd (ZIa (ZIj (sr (Zb (v:=.int .i64 a1) rfl (Z6 0 ZIq rfl sc22.size rfl rfl (Z8 hC 2 (u0_0) rfl sc22 rfl rfl ?_)))))))))))
     obtain ⟨Ad15,c14,hv16⟩:=Z1 (hC.getP 1 rfl)
     refine Zx ZIs (tr rfl hv16) ?_
     obtain ⟨hm10,h⟩:=h
     refine Zck (sz:=1) hC (Zy0 ((a0.degrees.length:Int).toNat) (.slice none 0 0)) ZIw Zkz (tr rfl (congrArg (ZK4 .i64) (ZK5 hm10.1).symm)) (tr rfl (congrArg (ZK4 .i64) (ZK5 hm10.1).symm)) (by omega) (by omega) (Znp _) fun v10 w14 hB_ hC=>?_
     replace hC:=hC.pushM0 (Ym (Ya 162) (Zy0 ((a0.degrees.length:Int).toNat) ((⟨[]⟩:ZIb):ZIb)) (Zy0 ((a0.degrees.length:Int).toNat) (.slice none 0 0)) (Zy0 ((a0.degrees.length:Int).toNat) [])) (Znr (Za4 (Zbz _ _ _)) rfl _) (Znq _)
     replace hC:=hC.gather (c:=ZIm (ZOd 55 (Ya 162)) (Zy0 ((a0.degrees.length:Int).toNat) ((⟨[]⟩:ZIb):ZIb)) [v10] ((ZI5 (Zzn v10))++(Zy0 ((a0.degrees.length:Int).toNat) ([]:List Nat)).flatten)) (fun x_ hx_=>(Zzu.1 hx_).symm) (fun h1_ h2_ hd_=>Zal (by rw [List.length_replicate]; exact h2_) h1_ (fun b_ hb_ hb2_=>hd_ b_ hb2_ hb_))
     refine Jn [(0,.int .i64 a1),(1,v10)] rfl (Zvv a1 v10 (Zc3 (ZSk _ (hC.getM 0 rfl).1)) _) (Yj hC [.int .i64 0,.slice none 0 0] z77 rfl fun b11 w15 hB_ hC=>Zw (v:=.agg #[.int .i64 a1,v10]) hC 0 [.int .i64 a1,v10] [.int .i64 a1,v10] rfl ag77.size rfl rfl rfl rfl (Y6 rfl (Y6 (Zbw (ZSk _ (hC.getM 1 rfl).1)) rfl)) (ZIc rfl) rfl fun w16 hC=>dn (ZIa ?_))
     refine Yg 8 Ye [0,1,0,0,0,24,56,120,255,511] [1,5,6] [0,2,3,4] (by kernel_rfl) (by kernel_rfl) (by kernel_rfl) (fun hM13 hM12 w17 hB_=>?_)
     replace hC:=hC.grow hB_
     refine aF 0 (.pointer (some ⟨b11,1,none⟩)) rfl rfl (hM12 0 rfl) (rfl) (fun _=>by exact Z7 1 ZSg rfl sc30.size rfl rfl) (Za 10 1) (aL 1 (v10) rfl rfl (hM13 1 rfl) (rfl) (fun _ hB_=>by exact Z5 (hC.grow hB_) 0 (v10) rfl sc30 rfl rfl) (Za 10 3) (aF 2 (.int .i64 s10.2) rfl rfl (hM12 2 rfl) (rfl) (fun _=>by exact Zf (v:=.int .i64 s10.2) rfl) (Za 10 7) (aF 3 (u10) rfl rfl (hM12 3 rfl) (rfl) (fun _=>by exact Zf (v:=u10) rfl) (Za 10 15) (aF 4 (.int .i64 (i10:Int)) rfl rfl (hM12 4 rfl) (rfl) (fun _=>by exact Zf (v:=.int .i64 (i10:Int)) rfl) (Za 10 31) ?_))))
     obtain ⟨Ad11,c15,hv12⟩:=Zai (hC.getM 2 rfl) (ZSs (ZAq _) hi10)
     refine aL 5 (.pointer (some ⟨Ad11,i10 * 8,none⟩)) rfl rfl (hM13 5 rfl) (rfl) (fun _ hB_=>by exact Zba (i10 * 8) ZSi ag136.size (by exact tr rfl hv12) rfl (ZIv _) (ZJi.2 hi10) rfl) (Za 10 63) (aL 6 (.agg (ZH8 (ZH6 .u8 (r10.getD i10 Zyt)))) rfl rfl (hM13 6 rfl) (rfl) (fun _ hB_=>by exact X4 (ZH6 .u8 (r10.getD i10 Zyt)) (Zb6 ((hC.grow hB_).getM 2 rfl) hv12 i10 hi10) ag136 rfl rfl) (Za 10 127) (aO 7 rfl ?_))
     refine Zg [.agg (ZH8 (ZH6 .u8 (r10.getD i10 Zyt))),.int .i64 1] _ ZI0 rfl rfl rfl (Zbd (r10.getD i10 Zyt) 1 h _) (fun ret11 w18 hR11=>?_)
     obtain ⟨r11,u11,f15,rfl,h,hr11,hf12,hB11⟩:=hR11
     refine⟨_,rfl,?_⟩
     replace hC:=hC.push hB11 (ZIm (Ya 162) r11 [u11] f15) hr11 hf12
     obtain ⟨ho11,hf13⟩:=Xf (hC.getM 0 rfl)
     subst hf13
     replace hC:=hC.recast (c:=own 162 9 u11 r11.terms.length (ZH9.encs r11.terms)) (fun _ h_=>h_) (fun _=>ho11)
     refine done (aK (by assumption) (Za 10 255) (Zu 8 (by decide) (by decide) (by kernel_rfl) (by kernel_rfl) rfl ?_))
     obtain ⟨⟨h14,h15⟩,h⟩:=h
     obtain ⟨g10,cap10,hv13⟩:=Znt (hC.getM 2 rfl) (ZSs (ZAq _) (show s10.2.toNat < (Zy0 ((a0.degrees.length:Int).toNat) ((⟨[]⟩:ZIb):ZIb)).length by omega))
     refine Zao (s10.2.toNat * 1) ZIw ag55.size (tr rfl hv13) rfl h14 h15 rfl ?_
     replace hC:=hC.recast (c:=ZIm (Ya 162) r11 [u11] (ZI5 (Zzn u11))) (fun _ h_=>h_) (fun h_=>Za4 (Jr h_))
     replace hC:=hC.sM [2,0,1,3,4,5] (M':=[ZIm (ZOd 55 (Ya 162)) (Zy0 ((a0.degrees.length:Int).toNat) ((⟨[]⟩:ZIb):ZIb)) [v10] ((ZI5 (Zzn v10))++(Zy0 ((a0.degrees.length:Int).toNat) ([]:List Nat)).flatten),ZIm (Ya 162) r11 [u11] (ZI5 (Zzn u11)),blk b11 77 [.int .i64 a1,v10],own 136 8 u10 r10.length ((EA .u8).encs r10),ZIm (ZOd 77 (J5 162 55)) s11 [v11] f10,blk b5 32 [u0_0,u0_1]]) (by decide) rfl
     refine Znu (u:=.agg #[u11]) hC (show s10.2.toNat < (Zy0 ((a0.degrees.length:Int).toNat) ((⟨[]⟩:ZIb):ZIb)).length by omega) hv13 ag55.size rfl rfl rfl rfl fun f12 w19 hC=>done (Zv (Zd (Zh (Zb (v:=v11) rfl (Yy hC 1 [.int .i64 a1,v10] rfl ag77 rfl rfl rfl (Xr (sz:=2) hC [(0,.agg #[.int .i64 a1,v10])] [.int .i64 a1,v10] rfl (fun _=>Zvw a1 v10 (Zc3 (ZSk _ (hC.getM 0 rfl).1)) _) rfl (by decide) fun b10 w20 hB_ hC=>?_))))))
     replace hC:=hC.pushM0 (Ym (J5 162 55) [] [] []) (Za5 _ _) rfl
     replace hC:=hC.sM [2,0,1,3,4,5,6] (M':=[ZIm (ZOd 55 (Ya 162)) ((Zy0 ((a0.degrees.length:Int).toNat) ((⟨[]⟩:ZIb):ZIb)).set s10.2.toNat r11) [v10] f12,Ym (J5 162 55) [] [] [],own 77 2 (.slice (some ⟨b10,0,none⟩) 1 1) 1 [.int .i64 a1,v10],blk b11 77 [.int .i64 a1,v10],own 136 8 u10 r10.length ((EA .u8).encs r10),ZIm (ZOd 77 (J5 162 55)) s11 [v11] f10,blk b5 32 [u0_0,u0_1]]) (by decide) rfl
     replace hC:=hC.gather (c:=Ym (J5 162 55) [(⟨a1,(Zy0 ((a0.degrees.length:Int).toNat) ((⟨[]⟩:ZIb):ZIb)).set s10.2.toNat r11⟩:Der)] [.int .i64 a1,v10] [f12]) (fun x_ hx_=>Zc5 hx_) (fun h1_ h2_ hd_=>Zcq (c:=[.int .i64 a1,v10]) (Zof h1_) h2_ hd_)
     replace hC:=hC.sM [1,0,2,3,4,5] (M':=[own 77 2 (.slice (some ⟨b10,0,none⟩) 1 1) 1 [.int .i64 a1,v10],Ym (J5 162 55) [(⟨a1,(Zy0 ((a0.degrees.length:Int).toNat) ((⟨[]⟩:ZIb):ZIb)).set s10.2.toNat r11⟩:Der)] [.int .i64 a1,v10] [f12],blk b11 77 [.int .i64 a1,v10],own 136 8 u10 r10.length ((EA .u8).encs r10),ZIm (ZOd 77 (J5 162 55)) s11 [v11] f10,blk b5 32 [u0_0,u0_1]]) (by decide) rfl
     replace hC:=hC.gather (c:=ZIm (ZOd 77 (J5 162 55)) [(⟨a1,(Zy0 ((a0.degrees.length:Int).toNat) ((⟨[]⟩:ZIb):ZIb)).set s10.2.toNat r11⟩:Der)] [.slice (some ⟨b10,0,none⟩) 1 1] ((ZI5 (Zzn (.slice (some ⟨b10,0,none⟩) 1 1)))++([f12]:List (List Nat)).flatten)) (fun x_ hx_=>Zzu.1 hx_) (fun h1_ h2_ hd_=>Zal h1_ h2_ hd_)
     replace hC:=hC.sM [3,0,1,2,4] (M':=[ZIm (ZOd 77 (J5 162 55)) s11 [v11] f10,ZIm (ZOd 77 (J5 162 55)) [(⟨a1,(Zy0 ((a0.degrees.length:Int).toNat) ((⟨[]⟩:ZIb):ZIb)).set s10.2.toNat r11⟩:Der)] [.slice (some ⟨b10,0,none⟩) 1 1] ((ZI5 (Zzn (.slice (some ⟨b10,0,none⟩) 1 1)))++([f12]:List (List Nat)).flatten),blk b11 77 [.int .i64 a1,v10],own 136 8 u10 r10.length ((EA .u8).encs r10),blk b5 32 [u0_0,u0_1]]) (by decide) rfl
     obtain ⟨hm11,h⟩:=h
     refine Zc4 hC ZSt Zvx rfl (by decide) (by decide) rfl rfl hm11 fun v13 f13 w21 hC=>Zc (v:=v13) rfl (done (Zs (Zd (Zh (Zb (v:=.int .i64 (i10:Int)) rfl (Zq rfl rfl (Zc (v:=.int .i64 (ZA7.wrap ((i10:Int)+1))) rfl (done ?_))))))))
     replace hC:=hC.sM [2,0,3] (M':=[own 136 8 u10 r10.length ((EA .u8).encs r10),ZIm (ZOd 77 (J5 162 55)) (s11++[(⟨a1,(Zy0 ((a0.degrees.length:Int).toNat) ((⟨[]⟩:ZIb):ZIb)).set s10.2.toNat r11⟩:Der)]) [v13] f13,blk b5 32 [u0_0,u0_1]]) (by decide) rfl
     exact hK11 (s11++[(⟨a1,(Zy0 ((a0.degrees.length:Int).toNat) ((⟨[]⟩:ZIb):ZIb)).set s10.2.toNat r11⟩:Der)]) _ _ ⟨v13,f13,(sl ⟨rfl,rfl,rfl,rfl,rfl,(tr rfl (congrArg _ (Yh hi10 hN10))),trivial⟩),hC⟩ h
    ·clear hC h
     rintro s11 e_ w22 K10 ⟨v11,f10,hS_,hC⟩ h
     rw [ue hS_]
     refine ZIa (sr (Zb (v:=.int .i64 (r10.length:Int)) rfl (Zb (v:=u10) rfl ?_)))
     obtain ⟨Ad16,c16,hv17⟩:=J1 (hC.getM 0 rfl)
     refine Zx ZSi (tr rfl hv17) (Zt rfl rfl (dn (Yi rfl (decide_eq_false (by omega)) ?_)))
     refine ZIr (Zj (Zj (Z9 ?_)))
     refine Zs (Zd (Zh (Zb (v:=.int .i64 s10.2) rfl (Zq rfl rfl (Zc (v:=.int .i64 (ZA7.wrap (s10.2+1))) rfl (done ?_))))))
     replace hC:=hC.sM [1,2] (M':=[ZIm (ZOd 77 (J5 162 55)) s11 [v11] f10,blk b5 32 [u0_0,u0_1]]) (by decide) rfl
     exact hK10 (s11,ZA7.wrap (s10.2+1)) _ _ ⟨v11,f10,(sl ⟨rfl,rfl,rfl,rfl,trivial⟩),hC⟩ h
    ·skip
     exact⟨v12,f11,(sl ⟨rfl,rfl,rfl,rfl,rfl,rfl,trivial⟩),hC⟩
  ·replace h:=Zk h (cf hb10)
   refine ZIr (Zj (Zj (Z9 ?_)))
   refine Zd (sr (Zb (v:=v12) rfl (Zc (v:=v12) rfl (dn (ZIi ?_)))))
   refine Zp (fn:=Tryz.f40) rfl ?_ ⟨s10.1,v12,f11,rfl,h,(hC.getM 0 rfl),(Zbl hC 0 rfl),hC.below⟩ (.inl rfl)
   exact Zi rfl
 ·skip
  exact⟨.slice (some ⟨b8,0,none⟩) 0 0,((ZI5 (Zzn (.slice (some ⟨b8,0,none⟩) 0 0)))++([]:List (List Nat)).flatten),(sl ⟨rfl,rfl,rfl,rfl,trivial⟩),hC⟩
def Zg5 (a0:ZIb) (a1:List A8) (K:List Int→Prop):Prop :=
 ((0≤(a1.length:Int)∧(a1.length:Int) * 8≤281474976710656)∧Xj (fun (s10:(List Int)×Int×Int) nx10=>(if s10.2.2 < (a1.length:Int) then(if s10.2.1 < (a0.terms.length:Int) then((0≤s10.2.1∧s10.2.1 < (a0.terms.length:Int))∧((0≤s10.2.2∧s10.2.2 < (a1.length:Int))∧(if(a0.terms.getD s10.2.1.toNat Zyt).mono=a1.getD s10.2.2.toNat Zyt then((0≤s10.2.1∧s10.2.1 < (a0.terms.length:Int))∧((0≤s10.2.2∧s10.2.2 < (s10.1.length:Int))∧nx10 (s10.1.set s10.2.2.toNat ((a0.terms.getD s10.2.1.toNat Zyt).factor),ZA7.wrap (s10.2.1+1),ZA7.wrap (s10.2.2+1)))) else nx10 (s10.1,s10.2.1,ZA7.wrap (s10.2.2+1))))) else K s10.1) else K s10.1)) (Zy0 ((a1.length:Int).toNat) (0:Int),0,0))
theorem Zwb (a0:ZIb) (a1:List A8) {u0_0:Value} {u1_0:Value} {fp0:List Nat} {fp1:List Nat} {K:List Int→Prop} (h:Zg5 a0 a1 K) (w0:World) (q0:ZIo.rep a0 [u0_0] fp0 w0) (q1:((EA .u8).ty.sl).rep a1 [u1_0] fp1 w0) :
  Calls ZId 128 #[.agg #[u0_0],u1_0] w0 fun e w'=>∃ (r0:List Int) (z0_0:Value) (fz0:List Nat),
   e=.returned (z0_0)∧K r0∧(ZIm (ZOd 2 ((EI .i64).tr)) r0 [z0_0] fz0).holds w'∧(∀ b,b∈fz0→w0.heap.size≤b)∧Bel w0 w':=by
 unfold Zg5 at h
 refine Z4 (args:=[.agg #[u0_0],u1_0]) Tryz.func128 rfl 47 Tryz.ntmps128 (ZIc rfl) ?_
 have hC:=ZIt (X:=Nox) w0 [ZH7 TForm a0 [u0_0] fp0,ZH7 ((EA .u8).ty.sl) a1 [u1_0] fp1] (by simp only [Zyz,ZAt,or_false,forall_eq_or_imp,forall_eq]; exact⟨q0,q1⟩)
 have hp3:=(hC.getP 0 rfl)
 replace hC:=hC.derive 0 rfl (ZH7 ZH9.ty.sl a0.terms [u0_0] fp0) (fun _=>(Xi hp3)) (fun _ hb_=>hb_)
 refine sr (Yl (v:=.agg #[u0_0]) hC [u0_0] rfl rfl fun b5 w7 hB_ hC=>Zc (v:=.slice none 0 0) rfl (dn (sr (Zb (v:=u1_0) rfl ?_))))
 obtain ⟨Ad8,c9,hv14⟩:=Z1 (hC.getP 2 rfl)
 refine Zx ZSi (tr rfl hv14) ?_
 obtain ⟨hm10,h⟩:=h
 refine Zck (sz:=1) hC ((EI .i64).encs (Zy0 ((a1.length:Int).toNat) (0:Int))) ZIs el2 (tr rfl (congrArg (ZK4 .i64) (ZK5 hm10.1).symm)) (tr rfl (congrArg (ZK4 .i64) (ZK5 hm10.1).symm)) (by omega) (by omega) (Zcl (E:=(EI .i64)) _ _) fun v11 w10 hB_ hC=>?_
 replace hC:=Jg hC 0 ((Zy0 ((a1.length:Int).toNat) (0:Int)).length) ((EI .i64).encs (Zy0 ((a1.length:Int).toNat) (0:Int))) rfl (by simp) rfl
 refine Zc (v:=v11) rfl (Zc (v:=.int .i64 0) rfl (dn (ZIa (sr (Zc (v:=.int .i64 0) rfl (dn (ZIj ?_)))))))
 refine X1 (S:=(List Int)×Int×Int) _ (fun s10 e_ w_=>∃ (v10:Value),Z3 e_ [(1,u1_0),(2,.pointer (some ⟨b5,0,none⟩)),(5,v10),(6,.int .i64 s10.2.1),(7,.int .i64 s10.2.2)]∧Ctx Nox w0 w_ [own 2 1 v10 s10.1.length ((EI .i64).encs s10.1),blk b5 55 [u0_0]] [ZH7 ZH9.ty.sl a0.terms [u0_0] fp0,ZH7 TForm a0 [u0_0] fp0,ZH7 ((EA .u8).ty.sl) a1 [u1_0] fp1]) ?_ (s0:=(Zy0 ((a1.length:Int).toNat) (0:Int),0,0)) ?_ h
 ·clear hC h
  rintro s10 e_ w11 nx10 K10 ⟨v10,hS_,hC⟩ h hK10
  rw [ue hS_]
  refine ZIa (sr (Zb (v:=.int .i64 s10.2.2) rfl (Zb (v:=u1_0) rfl ?_)))
  obtain ⟨Ad12,c10,hv15⟩:=Z1 (hC.getP 2 rfl)
  refine Zx ZSi (tr rfl hv15) (Zt rfl rfl (Zb (v:=.bool (decide (s10.2.2 < (a1.length:Int)))) rfl ?_))
  refine Xh (decide (s10.2.2 < (a1.length:Int))) (fun hb10=>?_) (fun hb10=>?_)
  ·replace h:=ift h (ct hb10)
   refine Zl 4 15 rfl rfl hb10 (Zb (v:=.int .i64 s10.2.1) rfl (Zl 4 15 rfl rfl hb10 (Z6 0 ZIf rfl sc53.size rfl rfl (Zl 4 15 rfl rfl hb10 (Z8 hC 1 (u0_0) rfl sc53 rfl rfl (Zl 4 15 rfl rfl hb10 ?_))))))
   obtain ⟨Ad13,c11,hv16⟩:=Z1 (hC.getP 0 rfl)
   refine Zx ZIh (tr rfl hv16) (Zl 4 15 rfl rfl hb10 (Zt rfl rfl (Yc (v:=.bool (decide (s10.2.1 < (a0.terms.length:Int)))) (b:=true) (tr rfl (congrArg _ hb10)) rfl (dn ?_))))
   refine Zr rfl (fun hb11=>?_) (fun hb11=>?_)
   ·replace h:=ift h (ct hb11)
    refine ZIe (Zd (ZIa (ZIj (ZIa ?_))))
    refine Yg 10 Ye [0,1,0,7,15,31,0,0,192,448,1023] [1,3,5,8,9] [0,2,4,6,7] (by kernel_rfl) (by kernel_rfl) (by kernel_rfl) (fun hM10 hM11 w12 hB_=>?_)
    replace hC:=hC.grow hB_
    refine aF 0 (.pointer (some ⟨b5,0,none⟩)) rfl rfl (hM11 0 rfl) (rfl) (fun _=>by exact Z7 0 ZIf rfl sc53.size rfl rfl) (Za 11 1) (aL 1 (u0_0) rfl rfl (hM10 1 rfl) (rfl) (fun _ hB_=>by exact Z5 (hC.grow hB_) 1 (u0_0) rfl sc53 rfl rfl) (Za 11 3) (aF 2 (.int .i64 s10.2.1) rfl rfl (hM11 2 rfl) (rfl) (fun _=>by exact Zf (v:=.int .i64 s10.2.1) rfl) (Za 11 7) ?_))
    obtain ⟨⟨h10,h11⟩,h⟩:=h
    obtain ⟨Ad10,c12,hv10⟩:=Z0 (hC.getP 0 rfl) s10.2.1.toNat (show s10.2.1.toNat < a0.terms.length by omega)
    refine aL 3 (.pointer (some (Ad10.add (s10.2.1.toNat * 9)))) rfl rfl (hM10 3 rfl) (rfl) (fun _ hB_=>by exact Yp (len:=a0.terms.length) ZIh ag162.size (by exact tr rfl hv10) rfl h10 h11) (Za 11 15) (aF 4 (.pointer (some (Ad10.add (s10.2.1.toNat * 9+0)))) rfl rfl (hM11 4 rfl) (rfl) (fun _=>by exact Zau (s10.2.1.toNat * 9+0) ZIp rfl ag136.size rfl rfl) (Za 11 31) (aL 5 (.agg (ZH8 (ZH6 .u8 ((a0.terms.getD s10.2.1.toNat Zyt).mono)))) rfl rfl (hM10 5 rfl) (rfl) (fun _ hB_=>by exact X4 (ZH6 .u8 ((a0.terms.getD s10.2.1.toNat Zyt).mono)) (J2 (o:=0) (k:=8) (Yf ((hC.grow hB_).getP 0 rfl) hv10 s10.2.1.toNat (show s10.2.1.toNat < a0.terms.length by omega)) rfl) ag136 rfl rfl) (Za 11 63) (aF 6 (u1_0) rfl rfl (hM11 6 rfl) (rfl) (fun _=>by exact Zf (v:=u1_0) rfl) (Za 11 127) (aF 7 (.int .i64 s10.2.2) rfl rfl (hM11 7 rfl) (rfl) (fun _=>by exact Zf (v:=.int .i64 s10.2.2) rfl) (Za 11 255) ?_))))
    obtain ⟨⟨h12,h13⟩,h⟩:=h
    obtain ⟨Ad11,c13,hv11⟩:=Z0 (hC.getP 2 rfl) s10.2.2.toNat (show s10.2.2.toNat < a1.length by omega)
    refine aL 8 (.pointer (some (Ad11.add (s10.2.2.toNat * 8)))) rfl rfl (hM10 8 rfl) (rfl) (fun _ hB_=>by exact Yp (len:=a1.length) ZSi ag136.size (by exact tr rfl hv11) rfl h12 h13) (Za 11 511) (aL 9 (.agg (ZH8 (ZH6 .u8 (a1.getD s10.2.2.toNat Zyt)))) rfl rfl (hM10 9 rfl) (rfl) (fun _ hB_=>by exact X4 (ZH6 .u8 (a1.getD s10.2.2.toNat Zyt)) (Yf ((hC.grow hB_).getP 2 rfl) hv11 s10.2.2.toNat (show s10.2.2.toNat < a1.length by omega)) ag136 rfl rfl) (Za 11 1023) (Zu 10 (by decide) (by decide) (by kernel_rfl) (by kernel_rfl) rfl (Zvc Zvz Zvy rfl rfl (done (Zv (Zd ?_))))))
    refine Zr rfl (fun hb12=>?_) (fun hb12=>?_)
    ·replace h:=ift h (ct hb12)
     refine sr (Zb (v:=v10) rfl (Zb (v:=.int .i64 s10.2.2) rfl (Z6 0 ZIf rfl sc53.size rfl rfl (Z8 hC 1 (u0_0) rfl sc53 rfl rfl (Zb (v:=.int .i64 s10.2.1) rfl ?_)))))
     obtain ⟨⟨h14,h15⟩,h⟩:=h
     obtain ⟨Ad14,c14,hv12⟩:=Z0 (hC.getP 0 rfl) s10.2.1.toNat (show s10.2.1.toNat < a0.terms.length by omega)
     refine Xb (len:=a0.terms.length) ZIh ag162.size (tr rfl hv12) rfl h14 h15 (Zea (s10.2.1.toNat * 9+8) ZIp rfl sc2.size rfl rfl (Xm (.int .i64 ((a0.terms.getD s10.2.1.toNat Zyt).factor)) (J2 (o:=8) (k:=1) (Yf (hC.getP 0 rfl) hv12 s10.2.1.toNat (show s10.2.1.toNat < a0.terms.length by omega)) rfl) sc2 rfl ?_))
     obtain ⟨⟨h16,h17⟩,h⟩:=h
     obtain ⟨Ad15,c15,hv13⟩:=Zai (hC.getM 0 rfl) (ZSs (ZAq _) (show s10.2.2.toNat < s10.1.length by omega))
     refine Zao (s10.2.2.toNat * 1) ZIs sc2.size (tr rfl hv13) rfl h16 h17 rfl (Zec (v:=.int .i64 ((a0.terms.getD s10.2.1.toNat Zyt).factor)) hC 0 [.int .i64 ((a0.terms.getD s10.2.1.toNat Zyt).factor)] ((EI .i64).encs (s10.1.set s10.2.2.toNat ((a0.terms.getD s10.2.1.toNat Zyt).factor))) rfl hv13 sc2.size rfl rfl rfl rfl rfl (by rw [Enc.encs_len]; exact Zbk (sz:=1) (show s10.2.2.toNat < s10.1.length by omega)) (Zed _ _ _ (show s10.2.2.toNat < s10.1.length by omega)) fun w13 hC=>?_)
     replace hC:=Jg hC 0 ((s10.1.set s10.2.2.toNat ((a0.terms.getD s10.2.1.toNat Zyt).factor)).length) ((EI .i64).encs (s10.1.set s10.2.2.toNat ((a0.terms.getD s10.2.1.toNat Zyt).factor))) rfl (by simp) rfl
     refine dn (Zh (Zb (v:=.int .i64 s10.2.1) rfl (Zq rfl rfl (Zc (v:=.int .i64 (ZA7.wrap (s10.2.1+1))) rfl (done (Zs (Zd (Zh (Zb (v:=.int .i64 s10.2.2) rfl (Zq rfl rfl (Zc (v:=.int .i64 (ZA7.wrap (s10.2.2+1))) rfl ?_)))))))))))
     refine done ?_
     exact hK10 (s10.1.set s10.2.2.toNat ((a0.terms.getD s10.2.1.toNat Zyt).factor),ZA7.wrap (s10.2.1+1),ZA7.wrap (s10.2.2+1)) _ _ ⟨v10,(sl ⟨rfl,rfl,rfl,rfl,rfl,trivial⟩),hC⟩ h
    ·replace h:=Zk h (cf hb12)
     refine ZIe (Zs (Zd (Zh (Zb (v:=.int .i64 s10.2.2) rfl (Zq rfl rfl (Zc (v:=.int .i64 (ZA7.wrap (s10.2.2+1))) rfl (done ?_)))))))
     exact hK10 (s10.1,s10.2.1,ZA7.wrap (s10.2.2+1)) _ _ ⟨v10,(sl ⟨rfl,rfl,rfl,rfl,rfl,trivial⟩),hC⟩ h
   ·replace h:=Zk h (cf hb11)
    refine ZIr (Zj (Zj (Z9 ?_)))
    refine Zd (sr (Zb (v:=v10) rfl (Zc (v:=v10) rfl (dn (ZIi ?_)))))
    refine Zp (fn:=Tryz.f128) rfl ?_ ⟨s10.1,v10,(ZI5 (Zzn v10)),rfl,h,(Jr (hC.getM 0 rfl)),(X5 hC 0 rfl),hC.below⟩ (.inl rfl)
    exact Zi rfl
  ·replace h:=Zk h (cf hb10)
   refine Zn (b:=false) 4 15 rfl (tr rfl (congrArg _ hb10)) (by decide) (Zn (b:=false) 4 15 rfl (tr rfl (congrArg _ hb10)) (by decide) (Zn (b:=false) 4 15 rfl (tr rfl (congrArg _ hb10)) (by decide) (Zn (b:=false) 4 15 rfl (tr rfl (congrArg _ hb10)) (by decide) (Zn (b:=false) 4 15 rfl (tr rfl (congrArg _ hb10)) (by decide) (Yc (v:=.bool false) (b:=false) (tr rfl (congrArg _ hb10)) rfl (dn (Yi rfl rfl ?_)))))))
   refine ZIr (Zj (Zj (Z9 ?_)))
   refine Zd (sr (Zb (v:=v10) rfl (Zc (v:=v10) rfl (dn (ZIi ?_)))))
   refine Zp (fn:=Tryz.f128) rfl ?_ ⟨s10.1,v10,(ZI5 (Zzn v10)),rfl,h,(Jr (hC.getM 0 rfl)),(X5 hC 0 rfl),hC.below⟩ (.inl rfl)
   exact Zi rfl
 ·skip
  exact⟨v11,(sl ⟨rfl,rfl,rfl,rfl,rfl,trivial⟩),hC⟩
def Zg6 (a0:Alg) (a1:Der) (K:List Int→Prop):Prop :=
 Xj (fun (s10:(List Int)×Int) nx10=>(if s10.2 < (a0.degrees.length:Int) then((0≤s10.2∧s10.2 < (a0.degrees.length:Int))∧(if a0.degrees.getD s10.2.toNat Zyt≥a1.drop then((0≤s10.2∧s10.2 < (a1.images.length:Int))∧((0≤s10.2∧s10.2 < (a0.degrees.length:Int))∧Zd1 a0.degrees (ZA7.wrap ((a0.degrees.getD s10.2.toNat Zyt) - a1.drop)) (fun r11=>Zg5 (a1.images.getD s10.2.toNat Zyt) r11 (fun r10=>(Yo (s10.1.length+r10.length) 8∧nx10 (s10.1++r10,ZA7.wrap (s10.2+1))))))) else nx10 (s10.1,ZA7.wrap (s10.2+1)))) else K s10.1)) ([],0)
theorem Zwc (a0:Alg) (a1:Der) {u0_0:Value} {u0_1:Value} {u1_0:Value} {u1_1:Value} {fp0:List Nat} {fp1:List Nat} {K:List Int→Prop} (h:Zg6 a0 a1 K) (w0:World) (q0:TAlg.rep a0 [u0_0,u0_1] fp0 w0) (q1:TDer.rep a1 [u1_0,u1_1] fp1 w0) :
  Calls ZId 104 #[.agg #[u0_0,u0_1],.agg #[u1_0,u1_1]] w0 fun e w'=>∃ (r0:List Int) (z0_0:Value) (fz0:List Nat),
   e=.returned (z0_0)∧K r0∧(ZIm (ZOd 2 ((EI .i64).tr)) r0 [z0_0] fz0).holds w'∧(∀ b,b∈fz0→w0.heap.size≤b)∧Bel w0 w':=by
 unfold Zg6 at h
 refine Z4 (args:=[.agg #[u0_0,u0_1],.agg #[u1_0,u1_1]]) Tryz.func104 rfl 43 Tryz.ntmps104 (ZIc rfl) ?_
 have hC:=ZIt (X:=Nox) w0 [ZH7 TAlg a0 [u0_0,u0_1] fp0,ZH7 TDer a1 [u1_0,u1_1] fp1] (by simp only [Zyz,ZAt,or_false,forall_eq_or_imp,forall_eq]; exact⟨q0,q1⟩)
 have hp3:=(hC.getP 0 rfl)
 replace hC:=hC.derive 0 rfl (ZH7 ((EI .i64).ty.sl) a0.degrees [u0_0] fp0) (fun _=>(Yw hp3).1) (fun _ hb_=>hb_)
 replace hC:=hC.derive 1 rfl (ZH7 ZIo.sl a0.images [u0_1] fp0) (fun _=>(Yw hp3).2) (fun _ hb_=>hb_)
 have hp6:=(hC.getP 3 rfl)
 obtain rfl:=(Zb7 hp6).1
 replace hC:=hC.derive 3 rfl (ZH7 ZIo.sl a1.images [u1_1] fp1) (fun _=>(Zb7 hp6).2) (fun _ hb_=>hb_)
 refine sr (Yl (v:=.agg #[u0_0,u0_1]) hC [u0_0,u0_1] rfl rfl fun b8 w10 hB_ hC=>Yl (v:=.agg #[.int .i64 a1.drop,u1_1]) hC [.int .i64 a1.drop,u1_1] rfl rfl fun b10 w11 hB_ hC=>Zc (v:=.slice none 0 0) rfl (dn (sr (Xr (sz:=1) hC [] ((EI .i64).encs []) rfl (fun _=>Zlj  _) rfl (by decide) fun b11 w12 hB_ hC=>Zc (v:=.slice (some ⟨b11,0,none⟩) 0 0) rfl (dn (ZIa (sr (Zc (v:=.int .i64 0) rfl ?_))))))))
 refine dn (ZIj ?_)
 refine X1 (S:=(List Int)×Int) _ (fun s10 e_ w_=>∃ (v10:Value),Z3 e_ [(2,.pointer (some ⟨b8,0,none⟩)),(3,.pointer (some ⟨b10,0,none⟩)),(5,v10),(6,.int .i64 s10.2)]∧Ctx Nox w0 w_ [own 2 1 v10 s10.1.length ((EI .i64).encs s10.1),blk b10 77 [.int .i64 a1.drop,u1_1],blk b8 32 [u0_0,u0_1]] [ZH7 ZIo.sl a1.images [u1_1] fp1,ZH7 ZIo.sl a0.images [u0_1] fp0,ZH7 ((EI .i64).ty.sl) a0.degrees [u0_0] fp0,ZH7 TAlg a0 [u0_0,u0_1] fp0,ZH7 TDer a1 [.int .i64 a1.drop,u1_1] fp1]) ?_ (s0:=([],0)) ?_ h
 ·clear hC h
  rintro s10 e_ w13 nx10 K10 ⟨v10,hS_,hC⟩ h hK10
  rw [ue hS_]
  refine ZIa (sr (Zb (v:=.int .i64 s10.2) rfl (Z6 0 ZIq rfl sc22.size rfl rfl (Z8 hC 2 (u0_0) rfl sc22 rfl rfl ?_))))
  obtain ⟨Ad13,c10,hv13⟩:=Z1 (hC.getP 2 rfl)
  refine Zx ZIs (tr rfl hv13) (Zt rfl rfl (dn ?_))
  refine Zr rfl (fun hb10=>?_) (fun hb10=>?_)
  ·replace h:=ift h (ct hb10)
   refine ZIe (Zd (ZIa (ZIj (ZIa ?_))))
   refine Yg 7 Ye [0,1,0,7,15,0,32,127] [1,3,4,6] [0,2,5] (by kernel_rfl) (by kernel_rfl) (by kernel_rfl) (fun hM12 hM13 w14 hB_=>?_)
   replace hC:=hC.grow hB_
   refine aF 0 (.pointer (some ⟨b8,0,none⟩)) rfl rfl (hM13 0 rfl) (rfl) (fun _=>by exact Z7 0 ZIq rfl sc22.size rfl rfl) (Za 8 1) (aL 1 (u0_0) rfl rfl (hM12 1 rfl) (rfl) (fun _ hB_=>by exact Z5 (hC.grow hB_) 2 (u0_0) rfl sc22 rfl rfl) (Za 8 3) (aF 2 (.int .i64 s10.2) rfl rfl (hM13 2 rfl) (rfl) (fun _=>by exact Zf (v:=.int .i64 s10.2) rfl) (Za 8 7) ?_))
   obtain ⟨⟨h10,h11⟩,h⟩:=h
   obtain ⟨Ad10,c11,hv10⟩:=Z0 (hC.getP 2 rfl) s10.2.toNat (show s10.2.toNat < a0.degrees.length by omega)
   refine aL 3 (.pointer (some (Ad10.add (s10.2.toNat * 1)))) rfl rfl (hM12 3 rfl) (rfl) (fun _ hB_=>by exact Yp (len:=a0.degrees.length) ZIs sc2.size (by exact tr rfl hv10) rfl h10 h11) (Za 8 15) (aL 4 (.int .i64 (a0.degrees.getD s10.2.toNat Zyt)) rfl rfl (hM12 4 rfl) (rfl) (fun _ hB_=>by exact Xc (.int .i64 (a0.degrees.getD s10.2.toNat Zyt)) (Yf ((hC.grow hB_).getP 2 rfl) hv10 s10.2.toNat (show s10.2.toNat < a0.degrees.length by omega)) sc2 rfl) (Za 8 31) (aF 5 (.pointer (some ⟨b10,0,none⟩)) rfl rfl (hM13 5 rfl) (rfl) (fun _=>by exact Z7 0 ZSg rfl sc2.size rfl rfl) (Za 8 63) (aL 6 (.int .i64 a1.drop) rfl rfl (hM12 6 rfl) (rfl) (fun _ hB_=>by exact Z5 (hC.grow hB_) 1 (.int .i64 a1.drop) rfl sc2 rfl rfl) (Za 8 127) (Zu 7 (by decide) (by decide) (by kernel_rfl) (by kernel_rfl) rfl (Zat rfl rfl (done (Zv (Zd ?_))))))))
   refine Zr rfl (fun hb11=>?_) (fun hb11=>?_)
   ·replace h:=ift h (ct hb11)
    refine Yg 18 Ye [0,0,2,0,14,30,0,64,0,256,0,1792,3840,0,8192,32512,65472,131070,262143,524287] [2,4,5,7,9,11,12,14] [0,1,3,6,8,10,13,15] (by kernel_rfl) (by kernel_rfl) (by kernel_rfl) (fun hM10 hM11 w15 hB_=>?_)
    replace hC:=hC.grow hB_
    refine aF 0 (v10) rfl rfl (hM11 0 rfl) (rfl) (fun _=>by exact Zf (v:=v10) rfl) (Za 20 1) (aF 1 (.pointer (some ⟨b10,1,none⟩)) rfl rfl (hM11 1 rfl) (rfl) (fun _=>by exact Z7 1 ZSg rfl sc30.size rfl rfl) (Za 20 3) (aL 2 (u1_1) rfl rfl (hM10 2 rfl) (rfl) (fun _ hB_=>by exact Z5 (hC.grow hB_) 1 (u1_1) rfl sc30 rfl rfl) (Za 20 7) (aF 3 (.int .i64 s10.2) rfl rfl (hM11 3 rfl) (rfl) (fun _=>by exact Zf (v:=.int .i64 s10.2) rfl) (Za 20 15) ?_)))
    obtain ⟨⟨h12,h13⟩,h⟩:=h
    obtain ⟨Ad11,c12,hv11⟩:=Z0 (hC.getP 0 rfl) s10.2.toNat (show s10.2.toNat < a1.images.length by omega)
    refine aL 4 (.pointer (some (Ad11.add (s10.2.toNat * 1)))) rfl rfl (hM10 4 rfl) (rfl) (fun _ hB_=>by exact Yp (len:=a1.images.length) ZIw ag55.size (by exact tr rfl hv11) rfl h12 h13) (Za 20 31) ?_
    obtain ⟨cs_,hl10,hc10,hr10⟩:=Xs (hC.getP 0 rfl) hv11 s10.2.toNat (show s10.2.toNat < a1.images.length by omega)
    obtain ⟨u10,rfl⟩:=ZI4.1 hl10
    clear hl10
    rw [Xt _ _ (show s10.2.toNat < a1.images.length by omega)] at hr10
    have hp10:=hr10
    replace hC:=hC.derive 0 rfl (ZH7 ZH9.ty.sl ((a1.images.getD s10.2.toNat Zyt).terms) [u10] fp1) (fun _=>(Xi hp10)) (fun _ hb_=>hb_)
    refine aL 5 (.agg #[u10]) rfl rfl (hM10 5 rfl) (rfl) (fun _ hB_=>by exact X4 [u10] (Jz hB_ hc10) ag55 rfl rfl) (Za 20 63) (aF 6 (.pointer (some ⟨b8,0,none⟩)) rfl rfl (hM11 6 rfl) (rfl) (fun _=>by exact Z7 0 ZIq rfl sc22.size rfl rfl) (Za 20 127) (aL 7 (u0_0) rfl rfl (hM10 7 rfl) (rfl) (fun _ hB_=>by exact Z5 (hC.grow hB_) 2 (u0_0) rfl sc22 rfl rfl) (Za 20 255) (aF 8 (.pointer (some ⟨b8,0,none⟩)) rfl rfl (hM11 8 rfl) (rfl) (fun _=>by exact Z7 0 ZIq rfl sc22.size rfl rfl) (Za 20 511) (aL 9 (u0_0) rfl rfl (hM10 9 rfl) (rfl) (fun _ hB_=>by exact Z5 (hC.grow hB_) 2 (u0_0) rfl sc22 rfl rfl) (Za 20 1023) (aF 10 (.int .i64 s10.2) rfl rfl (hM11 10 rfl) (rfl) (fun _=>by exact Zf (v:=.int .i64 s10.2) rfl) (Za 20 2047) ?_)))))
    obtain ⟨⟨h14,h15⟩,h⟩:=h
    obtain ⟨Ad12,c13,hv12⟩:=Z0 (hC.getP 3 rfl) s10.2.toNat (show s10.2.toNat < a0.degrees.length by omega)
    refine aL 11 (.pointer (some (Ad12.add (s10.2.toNat * 1)))) rfl rfl (hM10 11 rfl) (rfl) (fun _ hB_=>by exact Yp (len:=a0.degrees.length) ZIs sc2.size (by exact tr rfl hv12) rfl h14 h15) (Za 20 4095) (aL 12 (.int .i64 (a0.degrees.getD s10.2.toNat Zyt)) rfl rfl (hM10 12 rfl) (rfl) (fun _ hB_=>by exact Xc (.int .i64 (a0.degrees.getD s10.2.toNat Zyt)) (Yf ((hC.grow hB_).getP 3 rfl) hv12 s10.2.toNat (show s10.2.toNat < a0.degrees.length by omega)) sc2 rfl) (Za 20 8191) (aF 13 (.pointer (some ⟨b10,0,none⟩)) rfl rfl (hM11 13 rfl) (rfl) (fun _=>by exact Z7 0 ZSg rfl sc2.size rfl rfl) (Za 20 16383) (aL 14 (.int .i64 a1.drop) rfl rfl (hM10 14 rfl) (rfl) (fun _ hB_=>by exact Z5 (hC.grow hB_) 1 (.int .i64 a1.drop) rfl sc2 rfl rfl) (Za 20 32767) (aF 15 (.int .i64 (ZA7.wrap ((a0.degrees.getD s10.2.toNat Zyt) - a1.drop))) rfl rfl (hM11 15 rfl) (rfl) (fun _=>by exact Zci rfl rfl) (Za 20 65535) (aO 16 rfl ?_)))))
    refine Zg [u0_0,.int .i64 (ZA7.wrap ((a0.degrees.getD s10.2.toNat Zyt) - a1.drop))] _ ZSr rfl rfl rfl (Zln a0.degrees (ZA7.wrap ((a0.degrees.getD s10.2.toNat Zyt) - a1.drop)) h _ (hC.getP 3 rfl)) (fun ret10 w16 hR10=>?_)
    obtain ⟨r11,u11,f10,rfl,h,hr11,hf10,hB10⟩:=hR10
    refine⟨_,rfl,?_⟩
    replace hC:=hC.push hB10 (ZIm (ZOd 136 ((EA .u8).tr)) r11 [u11] f10) hr11 hf10
    obtain ⟨ho10,hf11⟩:=Zac (hC.getM 0 rfl).1
    subst hf11
    replace hC:=hC.recast (c:=own 136 8 u11 r11.length ((EA .u8).encs r11)) (fun _ h_=>h_) (fun _=>ho10)
    refine done (aK (by assumption) (Za 20 131071) (aO 17 rfl ?_))
    refine Zg [.agg #[u10],u11] _ Tryz.func128 rfl rfl rfl (Zwb (a1.images.getD s10.2.toNat Zyt) r11 h _ (Yq (hC.getP 0 rfl)) (Y2 (hC.getM 0 rfl))) (fun ret11 w17 hR11=>?_)
    obtain ⟨r10,u12,f11,rfl,h,hr12,hf12,hB11⟩:=hR11
    refine⟨_,rfl,?_⟩
    replace hC:=hC.push hB11 (ZIm (ZOd 2 ((EI .i64).tr)) r10 [u12] f11) hr12 hf12
    obtain ⟨ho11,hf13⟩:=Zac (hC.getM 0 rfl).1
    subst hf13
    replace hC:=hC.recast (c:=own 2 1 u12 r10.length ((EI .i64).encs r10)) (fun _ h_=>h_) (fun _=>ho11)
    refine done (aK (by assumption) (Za 20 262143) (Zu 18 (by decide) (by decide) (by kernel_rfl) (by kernel_rfl) rfl ?_))
    obtain ⟨hm10,h⟩:=h
    refine Zaw hC 2 ZIs el2 rfl (by decide) (by decide) rfl (Za9 (hC.getM 0 rfl)) (fun q hq=>Enc.encs_one' (E:=(EI .i64)) _ q hq) rfl rfl hm10 fun v11 w18 hC=>?_
    replace hC:=Jg hC 2 ((s10.1++r10).length) ((EI .i64).encs (s10.1++r10)) rfl (by simp) (by first | (simp [ZIz]; done) | simp [ZIz,Enc.encs])
    refine Zc (v:=v11) rfl (done (Zv (Zs (Zd (Zh (Zb (v:=.int .i64 s10.2) rfl (Zq rfl rfl (Zc (v:=.int .i64 (ZA7.wrap (s10.2+1))) rfl (done ?_)))))))))
    replace hC:=hC.sM [2,3,4] (M':=[own 2 1 v11 ((s10.1++r10).length) ((EI .i64).encs (s10.1++r10)),blk b10 77 [.int .i64 a1.drop,u1_1],blk b8 32 [u0_0,u0_1]]) (by decide) rfl
    replace hC:=hC.sP [1,2,3,4,5] (Ps':=[ZH7 ZIo.sl a1.images [u1_1] fp1,ZH7 ZIo.sl a0.images [u0_1] fp0,ZH7 ((EI .i64).ty.sl) a0.degrees [u0_0] fp0,ZH7 TAlg a0 [u0_0,u0_1] fp0,ZH7 TDer a1 [.int .i64 a1.drop,u1_1] fp1]) rfl
    exact hK10 (s10.1++r10,ZA7.wrap (s10.2+1)) _ _ ⟨v11,(sl ⟨rfl,rfl,rfl,rfl,trivial⟩),hC⟩ h
   ·replace h:=Zk h (cf hb11)
    refine ZIe (Zs (Zd (Zh (Zb (v:=.int .i64 s10.2) rfl (Zq rfl rfl (Zc (v:=.int .i64 (ZA7.wrap (s10.2+1))) rfl (done ?_)))))))
    exact hK10 (s10.1,ZA7.wrap (s10.2+1)) _ _ ⟨v10,(sl ⟨rfl,rfl,rfl,rfl,trivial⟩),hC⟩ h
  ·replace h:=Zk h (cf hb10)
   refine ZIr (Zj (Zj (Z9 ?_)))
   refine Zd (sr (Zb (v:=v10) rfl (Zc (v:=v10) rfl (dn (ZIi ?_)))))
   refine Zp (fn:=Tryz.f104) rfl ?_ ⟨s10.1,v10,(ZI5 (Zzn v10)),rfl,h,(Jr (hC.getM 0 rfl)),(X5 hC 0 rfl),hC.below⟩ (.inl rfl)
   exact Zi rfl
 ·skip
  exact⟨.slice (some ⟨b11,0,none⟩) 0 0,(sl ⟨rfl,rfl,rfl,rfl,trivial⟩),hC⟩
def Zg7 (a0:Alg) (a1:Der) (a2:A8) (K:ZIb→Prop):Prop :=
 Xj (fun (s10:(List Term)×A8×Int×Int) nx10=>(if s10.2.2.1 < (a0.degrees.length:Int) then((0≤s10.2.2.1∧s10.2.2.1 < 8)∧(if a2.get s10.2.2.1.toNat > 0 then Xj (fun (s11:A8×Int) nx11=>(if s11.2 < s10.2.2.1 then((0≤s11.2∧s11.2 < 8)∧nx11 (s11.1.set s11.2.toNat 0,ZA7.wrap (s11.2+1))) else((0≤s10.2.2.1∧s10.2.2.1 < 8)∧((0≤s10.2.2.1∧s10.2.2.1 < 8)∧((0≤s10.2.2.1∧s10.2.2.1 < 8)∧(if Zyy (ZA7.wrap (s10.2.2.2 * a1.drop)) 2≠0 then((0≤s10.2.2.1∧s10.2.2.1 < (a1.images.length:Int))∧Jb s10.2.1 (ZA7.wrap (0 - (ZA7.wrap (a2.get s10.2.2.1.toNat)))) (fun r18=>Jk a0.degrees r18 (a1.images.getD s10.2.2.1.toNat Zyt) (fun r12=>Jb (s11.1.set s10.2.2.1.toNat (ZIk.wrap ((s11.1.get s10.2.2.1.toNat) - 1))) 1 (fun r13=>Jk a0.degrees r12 r13 (fun r14=>Zah (⟨s10.1⟩:ZIb) r14 1 (fun r10=>((0≤s10.2.2.1∧s10.2.2.1 < 8)∧((0≤s10.2.2.1∧s10.2.2.1 < 8)∧((0≤s10.2.2.1∧s10.2.2.1 < (a0.degrees.length:Int))∧((0≤s10.2.2.1∧s10.2.2.1 < 8)∧nx10 (r10.terms,s10.2.1.set s10.2.2.1.toNat (a2.get s10.2.2.1.toNat),ZA7.wrap (s10.2.2.1+1),ZA7.wrap (s10.2.2.2+(ZA7.wrap ((a0.degrees.getD s10.2.2.1.toNat Zyt) * (ZA7.wrap (a2.get s10.2.2.1.toNat)))))))))))))))) else((0≤s10.2.2.1∧s10.2.2.1 < (a1.images.length:Int))∧Jb s10.2.1 (ZA7.wrap (a2.get s10.2.2.1.toNat)) (fun r19=>Jk a0.degrees r19 (a1.images.getD s10.2.2.1.toNat Zyt) (fun r15=>Jb (s11.1.set s10.2.2.1.toNat (ZIk.wrap ((s11.1.get s10.2.2.1.toNat) - 1))) 1 (fun r16=>Jk a0.degrees r15 r16 (fun r17=>Zah (⟨s10.1⟩:ZIb) r17 1 (fun r11=>((0≤s10.2.2.1∧s10.2.2.1 < 8)∧((0≤s10.2.2.1∧s10.2.2.1 < 8)∧((0≤s10.2.2.1∧s10.2.2.1 < (a0.degrees.length:Int))∧((0≤s10.2.2.1∧s10.2.2.1 < 8)∧nx10 (r11.terms,s10.2.1.set s10.2.2.1.toNat (a2.get s10.2.2.1.toNat),ZA7.wrap (s10.2.2.1+1),ZA7.wrap (s10.2.2.2+(ZA7.wrap ((a0.degrees.getD s10.2.2.1.toNat Zyt) * (ZA7.wrap (a2.get s10.2.2.1.toNat)))))))))))))))))))))) (a2,0) else((0≤s10.2.2.1∧s10.2.2.1 < 8)∧((0≤s10.2.2.1∧s10.2.2.1 < 8)∧((0≤s10.2.2.1∧s10.2.2.1 < (a0.degrees.length:Int))∧((0≤s10.2.2.1∧s10.2.2.1 < 8)∧nx10 (s10.1,s10.2.1.set s10.2.2.1.toNat (a2.get s10.2.2.1.toNat),ZA7.wrap (s10.2.2.1+1),ZA7.wrap (s10.2.2.2+(ZA7.wrap ((a0.degrees.getD s10.2.2.1.toNat Zyt) * (ZA7.wrap (a2.get s10.2.2.1.toNat)))))))))))) else K (⟨s10.1⟩:ZIb))) ([],ZIg,0,0)
theorem Zwd (a0 : Alg) (a1 : Der) (a2 : A8) {u0_0 : Value} {u0_1 : Value} {u1_0 : Value} {u1_1 : Value} {fp0 : List Nat} {fp1 : List Nat} {K : ZIb → Prop} (h : Zg7 a0 a1 a2 K) (w0 : World) (q0 : TAlg.rep a0 [u0_0, u0_1] fp0 w0) (q1 : TDer.rep a1 [u1_0, u1_1] fp1 w0) :
  Calls ZId 194 #[.agg #[u0_0,u0_1],.agg #[u1_0,u1_1],.agg (ZH8 (ZH6 .u8 a2))] w0 fun e w'=>∃ (r0:ZIb) (z0_0:Value) (fz0:List Nat),
   e=.returned (.agg #[z0_0])∧K r0∧(ZIm (Ya 162) r0 [z0_0] fz0).holds w'∧(∀ b,b∈fz0→w0.heap.size≤b)∧Bel w0 w':=by
 unfold Zg7 at h
 refine Z4 (args:=[.agg #[u0_0,u0_1],.agg #[u1_0,u1_1],.agg (ZH8 (ZH6 .u8 a2))]) Tryz.func194 rfl 90 Tryz.ntmps194 (ZIc rfl) ?_
 have hC:=ZIt (X:=Nox) w0 [ZH7 TAlg a0 [u0_0,u0_1] fp0,ZH7 TDer a1 [u1_0,u1_1] fp1] (by simp only [Zyz,ZAt,or_false,forall_eq_or_imp,forall_eq]; exact⟨q0,q1⟩)
 have hp3:=(hC.getP 0 rfl)
 replace hC:=hC.derive 0 rfl (ZH7 ((EI .i64).ty.sl) a0.degrees [u0_0] fp0) (fun _=>(Yw hp3).1) (fun _ hb_=>hb_)
 replace hC:=hC.derive 1 rfl (ZH7 ZIo.sl a0.images [u0_1] fp0) (fun _=>(Yw hp3).2) (fun _ hb_=>hb_)
 have hp6:=(hC.getP 3 rfl)
 obtain rfl:=(Zb7 hp6).1
 replace hC:=hC.derive 3 rfl (ZH7 ZIo.sl a1.images [u1_1] fp1) (fun _=>(Zb7 hp6).2) (fun _ hb_=>hb_)
 refine sr (Yl (v:=.agg #[u0_0,u0_1]) hC [u0_0,u0_1] rfl rfl fun b8 w10 hB_ hC=>Yl (v:=.agg #[.int .i64 a1.drop,u1_1]) hC [.int .i64 a1.drop,u1_1] rfl rfl fun b11 w11 hB_ hC=>Yl (v:=.agg (ZH8 (ZH6 .u8 a2))) hC (ZH6 .u8 a2) rfl rfl fun b10 w12 hB_ hC=>Yj hC [.slice none 0 0] z55 rfl fun b12 w13 hB_ hC=>dn (sr (Jn [] rfl (Zdp   _) (Jn [] rfl (Zin   _) (Yj hC [.slice none 0 0] z55 rfl fun b13 w14 hB_ hC=>Yj hC (ZH6 .u8 ZIg) Za6 rfl fun b14 w15 hB_ hC=>Zw (v:=.agg #[.slice none 0 0]) hC 1 [.slice none 0 0] [.slice none 0 0] rfl ag55.size rfl rfl rfl rfl rfl (ZIc rfl) rfl fun w16 hC=>?_)))))
 refine Zw (v:=.agg (ZH8 (ZH6 .u8 ZIg))) hC 0 (ZH6 .u8 ZIg) (ZH6 .u8 ZIg) rfl ag136.size rfl rfl rfl rfl rfl (ZIc rfl) rfl fun w17 hC=>Zc (v:=.int .i64 0) rfl (dn (ZIa (sr (Zc (v:=.int .i64 0) rfl (dn (ZIj ?_))))))
 refine X1 (S:=(List Term)×A8×Int×Int) _ (fun s10 e_ w_=>∃ (v10:Value),Z3 e_ [(3,.pointer (some ⟨b8,0,none⟩)),(4,.pointer (some ⟨b11,0,none⟩)),(5,.pointer (some ⟨b10,0,none⟩)),(6,.pointer (some ⟨b12,0,none⟩)),(7,.pointer (some ⟨b13,0,none⟩)),(8,.pointer (some ⟨b14,0,none⟩)),(9,.int .i64 s10.2.2.2),(10,.int .i64 s10.2.2.1)]∧Ctx Nox w0 w_ [own 162 9 v10 s10.1.length (ZH9.encs s10.1),blk b14 136 (ZH6 .u8 s10.2.1),blk b13 55 [v10],blk b12 55 [.slice none 0 0],blk b10 136 (ZH6 .u8 a2),blk b11 77 [.int .i64 a1.drop,u1_1],blk b8 32 [u0_0,u0_1]] [ZH7 ZIo.sl a1.images [u1_1] fp1,ZH7 ZIo.sl a0.images [u0_1] fp0,ZH7 ((EI .i64).ty.sl) a0.degrees [u0_0] fp0,ZH7 TAlg a0 [u0_0,u0_1] fp0,ZH7 TDer a1 [.int .i64 a1.drop,u1_1] fp1]) ?_ (s0:=([],ZIg,0,0)) ?_ h
 ·clear hC h
  rintro s10 e_ w18 nx10 K10 ⟨v10,hS_,hC⟩ h hK10
  rw [ue hS_]
  refine ZIa (sr (Zb (v:=.int .i64 s10.2.2.1) rfl (Z6 0 ZIq rfl sc22.size rfl rfl (Z8 hC 6 (u0_0) rfl sc22 rfl rfl ?_))))
  obtain ⟨Ad15,c10,hv15⟩:=Z1 (hC.getP 2 rfl)
  refine Zx ZIs (tr rfl hv15) (Zt rfl rfl (dn ?_))
  refine Zr rfl (fun hb10=>?_) (fun hb10=>?_)
  ·replace h:=ift h (ct hb10)
   refine ZIe (Zd (ZIa (ZIj (ZIa (sr (Zb (v:=.int .i64 s10.2.2.1) rfl ?_))))))
   obtain ⟨⟨h10,h11⟩,h⟩:=h
   refine Y5 s10.2.2.1.toNat ZIn sc5.size rfl rfl h10 h11 (by omega) (Z8 hC 4 (.int .u8 (a2.get s10.2.2.1.toNat)) rfl sc5 rfl (ZIu _ _ (show s10.2.2.1.toNat < 8 by omega)) (Jj rfl rfl (dn ?_)))
   refine Zr rfl (fun hb11=>?_) (fun hb11=>?_)
   ·replace h:=ift h (ct hb11)
    refine sr (Yy hC 4 (ZH6 .u8 a2) rfl ag136 rfl rfl rfl (Yj hC (ZH6 .u8 ZIg) Za6 rfl fun b15 w19 hB_ hC=>Zw (v:=.agg (ZH8 (ZH6 .u8 a2))) hC 0 (ZH6 .u8 a2) (ZH6 .u8 a2) rfl ag136.size rfl rfl rfl rfl rfl (ZIc rfl) rfl fun w20 hC=>dn (ZIa (sr (Zc (v:=.int .i64 0) rfl (dn (ZIj ?_)))))))
    refine X1 (S:=A8×Int) _ (fun s11 e_ w_=>Z3 e_ [(3,.pointer (some ⟨b8,0,none⟩)),(4,.pointer (some ⟨b11,0,none⟩)),(5,.pointer (some ⟨b10,0,none⟩)),(6,.pointer (some ⟨b12,0,none⟩)),(7,.pointer (some ⟨b13,0,none⟩)),(8,.pointer (some ⟨b14,0,none⟩)),(9,.int .i64 s10.2.2.2),(10,.int .i64 s10.2.2.1),(11,.pointer (some ⟨b15,0,none⟩)),(12,.int .i64 s11.2)]∧Ctx Nox w0 w_ [blk b15 136 (ZH6 .u8 s11.1),own 162 9 v10 s10.1.length (ZH9.encs s10.1),blk b14 136 (ZH6 .u8 s10.2.1),blk b13 55 [v10],blk b12 55 [.slice none 0 0],blk b10 136 (ZH6 .u8 a2),blk b11 77 [.int .i64 a1.drop,u1_1],blk b8 32 [u0_0,u0_1]] [ZH7 ZIo.sl a1.images [u1_1] fp1,ZH7 ZIo.sl a0.images [u0_1] fp0,ZH7 ((EI .i64).ty.sl) a0.degrees [u0_0] fp0,ZH7 TAlg a0 [u0_0,u0_1] fp0,ZH7 TDer a1 [.int .i64 a1.drop,u1_1] fp1]) ?_ (s0:=(a2,0)) ?_ h
    ·clear hC h
     rintro s11 e_ w21 nx11 K11 ⟨hS_,hC⟩ h hK11
     rw [ue hS_]
     refine ZIa (sr (Zb (v:=.int .i64 s11.2) rfl (Zb (v:=.int .i64 s10.2.2.1) rfl (Zt rfl rfl (dn ?_)))))
     refine Zr rfl (fun hb12=>?_) (fun hb12=>?_)
     ·replace h:=ift h (ct hb12)
      refine ZIe (Zd (ZIa (ZIj (Zh (Zb (v:=.int .i64 s11.2) rfl ?_)))))
      obtain ⟨⟨h12,h13⟩,h⟩:=h
      refine Y5 s11.2.toNat ZIn sc5.size rfl rfl h12 h13 (by omega) (Zw (v:=.int .u8 0) hC 0 [.int .u8 0] (ZH6 .u8 (s11.1.set s11.2.toNat 0)) rfl sc5.size rfl rfl rfl rfl rfl (show s11.2.toNat < 8 by omega) (ZI3 _ _ _ (show s11.2.toNat < 8 by omega)) fun w22 hC=>done (Zs (Zd (Zh (Zb (v:=.int .i64 s11.2) rfl (Zq rfl rfl (Zc (v:=.int .i64 (ZA7.wrap (s11.2+1))) rfl (done ?_))))))))
      exact hK11 (s11.1.set s11.2.toNat 0,ZA7.wrap (s11.2+1)) _ _ ⟨(sl ⟨rfl,rfl,rfl,rfl,rfl,rfl,rfl,rfl,rfl,rfl,trivial⟩),hC⟩ h
     ·replace h:=Zk h (cf hb12)
      refine ZIr (Zj (Zj (Z9 ?_)))
      refine Zd (sr (Zb (v:=.int .i64 s10.2.2.1) rfl ?_))
      obtain ⟨⟨h14,h15⟩,h⟩:=h
      refine Y5 s10.2.2.1.toNat ZIn sc5.size rfl rfl h14 h15 (by omega) (Z8 hC 0 (.int .u8 (s11.1.get s10.2.2.1.toNat)) rfl sc5 rfl (ZIu _ _ (show s10.2.2.1.toNat < 8 by omega)) (Jt rfl rfl ?_))
      obtain ⟨⟨h16,h17⟩,h⟩:=h
      refine Y5 s10.2.2.1.toNat ZIn sc5.size rfl rfl h16 h17 (by omega) (Zw (v:=.int .u8 (ZIk.wrap ((s11.1.get s10.2.2.1.toNat) - 1))) hC 0 [.int .u8 (ZIk.wrap ((s11.1.get s10.2.2.1.toNat) - 1))] (ZH6 .u8 (s11.1.set s10.2.2.1.toNat (ZIk.wrap ((s11.1.get s10.2.2.1.toNat) - 1)))) rfl sc5.size rfl rfl rfl rfl rfl (show s10.2.2.1.toNat < 8 by omega) (ZI3 _ _ _ (show s10.2.2.1.toNat < 8 by omega)) fun w23 hC=>dn (sr (Zb (v:=.int .i64 s10.2.2.1) rfl ?_)))
      obtain ⟨⟨h18,h19⟩,h⟩:=h
      refine Y5 s10.2.2.1.toNat ZIn sc5.size rfl rfl h18 h19 (by omega) (Z8 hC 5 (.int .u8 (a2.get s10.2.2.1.toNat)) rfl sc5 rfl (ZIu _ _ (show s10.2.2.1.toNat < 8 by omega)) (Zhw ZI6 ZJe rfl (Zc (v:=.int .i64 (ZA7.wrap (a2.get s10.2.2.1.toNat))) rfl (dn (ZIa (sr (Zb (v:=.int .i64 s10.2.2.2) rfl (Z6 0 ZSg rfl sc2.size rfl rfl (Z8 hC 6 (.int .i64 a1.drop) rfl sc2 rfl rfl (Ju rfl rfl (X0 rfl rfl (by decide) ?_)))))))))))
      refine Xl rfl rfl (dn ?_)
      refine Zr rfl (fun hb13=>?_) (fun hb13=>?_)
      ·replace h:=ift h (ct hb13)
       refine Zh (Zb (v:=.int .i64 (ZA7.wrap (a2.get s10.2.2.1.toNat))) rfl (Zfa rfl (Zc (v:=.int .i64 (ZA7.wrap (0 - (ZA7.wrap (a2.get s10.2.2.1.toNat))))) rfl (dn (ZIa ?_)))))
       refine Yg 12 Ye [0,1,0,0,12,0,32,0,224,480,1023,0,4095] [1,2,6,8,9] [0,3,5,7] (by kernel_rfl) (by kernel_rfl) (by kernel_rfl) (fun hM13 hM18 w24 hB_=>?_)
       replace hC:=hC.grow hB_
       refine aF 0 (.pointer (some ⟨b8,0,none⟩)) rfl rfl (hM18 0 rfl) (rfl) (fun _=>by exact Z7 0 ZIq rfl sc22.size rfl rfl) (Za 13 1) (aL 1 (u0_0) rfl rfl (hM13 1 rfl) (rfl) (fun _ hB_=>by exact Z5 (hC.grow hB_) 7 (u0_0) rfl sc22 rfl rfl) (Za 13 3) (aL 2 (.agg (ZH8 (ZH6 .u8 s10.2.1))) rfl rfl (hM13 2 rfl) (rfl) (fun _ hB_=>by exact Yv (hC.grow hB_) 2 (ZH6 .u8 s10.2.1) rfl ag136 rfl rfl rfl) (Za 13 7) (aF 3 (.int .i64 (ZA7.wrap (0 - (ZA7.wrap (a2.get s10.2.2.1.toNat))))) rfl rfl (hM18 3 rfl) (rfl) (fun _=>by exact Zf (v:=.int .i64 (ZA7.wrap (0 - (ZA7.wrap (a2.get s10.2.2.1.toNat))))) rfl) (Za 13 15) (aF 5 (.pointer (some ⟨b11,1,none⟩)) rfl rfl (hM18 5 rfl) (rfl) (fun _=>by exact Z7 1 ZSg rfl sc30.size rfl rfl) (Za 13 47) (aL 6 (u1_1) rfl rfl (hM13 6 rfl) (rfl) (fun _ hB_=>by exact Z5 (hC.grow hB_) 6 (u1_1) rfl sc30 rfl rfl) (Za 13 111) (aF 7 (.int .i64 s10.2.2.1) rfl rfl (hM18 7 rfl) (rfl) (fun _=>by exact Zf (v:=.int .i64 s10.2.2.1) rfl) (Za 13 239) ?_))))))
       obtain ⟨⟨h20,h21⟩,h⟩:=h
       obtain ⟨Ad10,c11,hv10⟩:=Z0 (hC.getP 0 rfl) s10.2.2.1.toNat (show s10.2.2.1.toNat < a1.images.length by omega)
       refine aL 8 (.pointer (some (Ad10.add (s10.2.2.1.toNat * 1)))) rfl rfl (hM13 8 rfl) (rfl) (fun _ hB_=>by exact Yp (len:=a1.images.length) ZIw ag55.size (by exact tr rfl hv10) rfl h20 h21) (Za 13 495) ?_
       obtain ⟨cs_,hl10,hc10,hr10⟩:=Xs (hC.getP 0 rfl) hv10 s10.2.2.1.toNat (show s10.2.2.1.toNat < a1.images.length by omega)
       obtain ⟨u18,rfl⟩:=ZI4.1 hl10
       clear hl10
       rw [Xt _ _ (show s10.2.2.1.toNat < a1.images.length by omega)] at hr10
       have hp10:=hr10
       replace hC:=hC.derive 0 rfl (ZH7 ZH9.ty.sl ((a1.images.getD s10.2.2.1.toNat Zyt).terms) [u18] fp1) (fun _=>(Xi hp10)) (fun _ hb_=>hb_)
       refine aL 9 (.agg #[u18]) rfl rfl (hM13 9 rfl) (rfl) (fun _ hB_=>by exact X4 [u18] (Jz hB_ hc10) ag55 rfl rfl) (Za 13 1007) ?_
       refine Zbj (fun e_ w_=>∃ (b16:Nat),∃ (u20:Value),∃ (r24:ZIb),Z3 e_ [(3,.pointer (some ⟨b8,0,none⟩)),(4,.pointer (some ⟨b11,0,none⟩)),(5,.pointer (some ⟨b10,0,none⟩)),(6,.pointer (some ⟨b12,0,none⟩)),(7,.pointer (some ⟨b13,0,none⟩)),(8,.pointer (some ⟨b14,0,none⟩)),(9,.int .i64 s10.2.2.2),(10,.int .i64 s10.2.2.1),(11,.pointer (some ⟨b15,0,none⟩)),(14,.pointer (some ⟨b16,0,none⟩))]∧Ctx Nox w0 w_ [blk b16 55 [u20],own 162 9 u20 r24.terms.length (ZH9.encs r24.terms),blk b15 136 (ZH6 .u8 (s11.1.set s10.2.2.1.toNat (ZIk.wrap ((s11.1.get s10.2.2.1.toNat) - 1)))),own 162 9 v10 s10.1.length (ZH9.encs s10.1),blk b14 136 (ZH6 .u8 s10.2.1),blk b13 55 [v10],blk b12 55 [.slice none 0 0],blk b10 136 (ZH6 .u8 a2),blk b11 77 [.int .i64 a1.drop,u1_1],blk b8 32 [u0_0,u0_1]] [ZH7 ZH9.ty.sl ((a1.images.getD s10.2.2.1.toNat Zyt).terms) [u18] fp1,ZH7 ZIo.sl a1.images [u1_1] fp1,ZH7 ZIo.sl a0.images [u0_1] fp0,ZH7 ((EI .i64).ty.sl) a0.degrees [u0_0] fp0,ZH7 TAlg a0 [u0_0,u0_1] fp0,ZH7 TDer a1 [.int .i64 a1.drop,u1_1] fp1]∧(Jb (s11.1.set s10.2.2.1.toNat (ZIk.wrap ((s11.1.get s10.2.2.1.toNat) - 1))) 1 (fun r13=>Jk a0.degrees r24 r13 (fun r14=>Zah (⟨s10.1⟩:ZIb) r14 1 (fun r10=>((0≤s10.2.2.1∧s10.2.2.1 < 8)∧((0≤s10.2.2.1∧s10.2.2.1 < 8)∧((0≤s10.2.2.1∧s10.2.2.1 < (a0.degrees.length:Int))∧((0≤s10.2.2.1∧s10.2.2.1 < 8)∧nx10 (r10.terms,s10.2.1.set s10.2.2.1.toNat (a2.get s10.2.2.1.toNat),ZA7.wrap (s10.2.2.1+1),ZA7.wrap (s10.2.2.2+(ZA7.wrap ((a0.degrees.getD s10.2.2.1.toNat Zyt) * (ZA7.wrap (a2.get s10.2.2.1.toNat))))))))))))))) ?_ ?_
       ·clear hC h
        rintro e_ w25 ⟨b16,u20,r24,hS_,hC,h⟩
        rw [ue hS_]
        refine Zd ?_
        refine Yg 7 Ye [0,0,2,0,0,16,62,127,255] [0,2,3,4] [1] (by kernel_rfl) (by kernel_rfl) (by kernel_rfl) (fun hM19 hM22 w26 hB_=>?_)
        replace hC:=hC.grow hB_
        refine aL 0 (.agg #[v10]) rfl rfl (hM19 0 rfl) (rfl) (fun _ hB_=>by exact Yv (hC.grow hB_) 5 [v10] rfl ag55 rfl rfl rfl) (Za 9 1) (aF 1 (.pointer (some ⟨b8,0,none⟩)) rfl rfl (hM22 1 rfl) (rfl) (fun _=>by exact Z7 0 ZIq rfl sc22.size rfl rfl) (Za 9 3) (aL 2 (u0_0) rfl rfl (hM19 2 rfl) (rfl) (fun _ hB_=>by exact Z5 (hC.grow hB_) 9 (u0_0) rfl sc22 rfl rfl) (Za 9 7) (aL 3 (.agg #[u20]) rfl rfl (hM19 3 rfl) (rfl) (fun _ hB_=>by exact Yv (hC.grow hB_) 0 [u20] rfl ag55 rfl rfl rfl) (Za 9 15) (aL 4 (.agg (ZH8 (ZH6 .u8 (s11.1.set s10.2.2.1.toNat (ZIk.wrap ((s11.1.get s10.2.2.1.toNat) - 1)))))) rfl rfl (hM19 4 rfl) (rfl) (fun _ hB_=>by exact Yv (hC.grow hB_) 2 (ZH6 .u8 (s11.1.set s10.2.2.1.toNat (ZIk.wrap ((s11.1.get s10.2.2.1.toNat) - 1)))) rfl ag136 rfl rfl rfl) (Za 9 31) (aO 5 rfl ?_)))))
        refine Zg [.agg (ZH8 (ZH6 .u8 (s11.1.set s10.2.2.1.toNat (ZIk.wrap ((s11.1.get s10.2.2.1.toNat) - 1))))),.int .i64 1] _ ZI0 rfl rfl rfl (Zbd (s11.1.set s10.2.2.1.toNat (ZIk.wrap ((s11.1.get s10.2.2.1.toNat) - 1))) 1 h _) (fun ret10 w27 hR10=>?_)
        obtain ⟨r13,u24,f10,rfl,h,hr12,hf10,hB10⟩:=hR10
        refine⟨_,rfl,?_⟩
        replace hC:=hC.push hB10 (ZIm (Ya 162) r13 [u24] f10) hr12 hf10
        obtain ⟨ho10,hf11⟩:=Xf (hC.getM 0 rfl)
        subst hf11
        replace hC:=hC.recast (c:=own 162 9 u24 r13.terms.length (ZH9.encs r13.terms)) (fun _ h_=>h_) (fun _=>ho10)
        refine done (aK (by assumption) (Za 9 63) (aO 6 rfl ?_))
        refine Zg [u0_0,.agg #[u20],.agg #[u24]] _ ZIy rfl rfl rfl (Zax a0.degrees r24 r13 h _ (hC.getP 3 rfl) (Yq (Y2 (hC.getM 2 rfl))) (Yq (Y2 (hC.getM 0 rfl)))) (fun ret11 w28 hR11=>?_)
        obtain ⟨r14,u25,f11,rfl,h,hr13,hf12,hB11⟩:=hR11
        refine⟨_,rfl,?_⟩
        replace hC:=hC.push hB11 (ZIm (Ya 162) r14 [u25] f11) hr13 hf12
        obtain ⟨ho11,hf13⟩:=Xf (hC.getM 0 rfl)
        subst hf13
        replace hC:=hC.recast (c:=own 162 9 u25 r14.terms.length (ZH9.encs r14.terms)) (fun _ h_=>h_) (fun _=>ho11)
        refine done (aK (by assumption) (Za 9 127) (Zu 7 (by decide) (by decide) (by kernel_rfl) (by kernel_rfl) rfl ?_))
        refine Zg [.agg #[v10],.agg #[u25],.int .i64 1] _ ZI9 rfl rfl rfl (Zds (⟨s10.1⟩:ZIb) r14 1 h _ (Yq (Y2 (hC.getM 5 rfl))) (Yq (Y2 (hC.getM 0 rfl)))) (fun ret12 w29 hR12=>?_)
        obtain ⟨r10,u10,f12,rfl,h,hr14,hf14,hB12⟩:=hR12
        refine⟨_,rfl,?_⟩
        replace hC:=hC.push hB12 (ZIm (Ya 162) r10 [u10] f12) hr14 hf14
        obtain ⟨ho12,hf15⟩:=Xf (hC.getM 0 rfl)
        subst hf15
        replace hC:=hC.recast (c:=own 162 9 u10 r10.terms.length (ZH9.encs r10.terms)) (fun _ h_=>h_) (fun _=>ho12)
        refine Zw (v:=.agg #[u10]) hC 8 [u10] [u10] rfl ag55.size rfl rfl rfl rfl (Y6 (Xn (hC.getM 0 rfl)) rfl) (ZIc rfl) rfl fun w30 hC=>done (Zv (Zd (sr (Zb (v:=.int .i64 s10.2.2.1) rfl (Zb (v:=.int .i64 s10.2.2.1) rfl ?_)))))
        obtain ⟨⟨h22,h23⟩,h⟩:=h
        refine Y5 s10.2.2.1.toNat ZIn sc5.size rfl rfl h22 h23 (by omega) (Z8 hC 10 (.int .u8 (a2.get s10.2.2.1.toNat)) rfl sc5 rfl (ZIu _ _ (show s10.2.2.1.toNat < 8 by omega)) ?_)
        obtain ⟨⟨h24,h25⟩,h⟩:=h
        refine Y5 s10.2.2.1.toNat ZIn sc5.size rfl rfl h24 h25 (by omega) (Zw (v:=.int .u8 (a2.get s10.2.2.1.toNat)) hC 7 [.int .u8 (a2.get s10.2.2.1.toNat)] (ZH6 .u8 (s10.2.1.set s10.2.2.1.toNat (a2.get s10.2.2.1.toNat))) rfl sc5.size rfl rfl rfl rfl rfl (show s10.2.2.1.toNat < 8 by omega) (ZI3 _ _ _ (show s10.2.2.1.toNat < 8 by omega)) fun w31 hC=>dn ?_)
        refine Yg 11 Ye [0,0,2,0,14,30,0,64,192,448,1022,2047,4095] [2,4,5,7,8] [0,1,3,6,9,10] (by kernel_rfl) (by kernel_rfl) (by kernel_rfl) (fun hM14 hM10 w32 hB_=>?_)
        replace hC:=hC.grow hB_
        refine aF 0 (.int .i64 s10.2.2.2) rfl rfl (hM10 0 rfl) (rfl) (fun _=>by exact Zf (v:=.int .i64 s10.2.2.2) rfl) (Za 13 1) (aF 1 (.pointer (some ⟨b8,0,none⟩)) rfl rfl (hM10 1 rfl) (rfl) (fun _=>by exact Z7 0 ZIq rfl sc22.size rfl rfl) (Za 13 3) (aL 2 (u0_0) rfl rfl (hM14 2 rfl) (rfl) (fun _ hB_=>by exact Z5 (hC.grow hB_) 12 (u0_0) rfl sc22 rfl rfl) (Za 13 7) (aF 3 (.int .i64 s10.2.2.1) rfl rfl (hM10 3 rfl) (rfl) (fun _=>by exact Zf (v:=.int .i64 s10.2.2.1) rfl) (Za 13 15) ?_)))
        obtain ⟨⟨h26,h27⟩,h⟩:=h
        obtain ⟨Ad11,c12,hv11⟩:=Z0 (hC.getP 3 rfl) s10.2.2.1.toNat (show s10.2.2.1.toNat < a0.degrees.length by omega)
        refine aL 4 (.pointer (some (Ad11.add (s10.2.2.1.toNat * 1)))) rfl rfl (hM14 4 rfl) (rfl) (fun _ hB_=>by exact Yp (len:=a0.degrees.length) ZIs sc2.size (by exact tr rfl hv11) rfl h26 h27) (Za 13 31) (aL 5 (.int .i64 (a0.degrees.getD s10.2.2.1.toNat Zyt)) rfl rfl (hM14 5 rfl) (rfl) (fun _ hB_=>by exact Xc (.int .i64 (a0.degrees.getD s10.2.2.1.toNat Zyt)) (Yf ((hC.grow hB_).getP 3 rfl) hv11 s10.2.2.1.toNat (show s10.2.2.1.toNat < a0.degrees.length by omega)) sc2 rfl) (Za 13 63) (aF 6 (.int .i64 s10.2.2.1) rfl rfl (hM10 6 rfl) (rfl) (fun _=>by exact Zf (v:=.int .i64 s10.2.2.1) rfl) (Za 13 127) ?_))
        obtain ⟨⟨h28,h29⟩,h⟩:=h
        refine aL 7 (.pointer (some ⟨b10,s10.2.2.1.toNat,none⟩)) rfl rfl (hM14 7 rfl) (rfl) (fun _ hB_=>by exact Zaa s10.2.2.1.toNat ZIn sc5.size rfl rfl h28 h29 (by omega)) (Za 13 255) (aL 8 (.int .u8 (a2.get s10.2.2.1.toNat)) rfl rfl (hM14 8 rfl) (rfl) (fun _ hB_=>by exact Z5 (hC.grow hB_) 10 (.int .u8 (a2.get s10.2.2.1.toNat)) rfl sc5 rfl (ZIu _ _ (show s10.2.2.1.toNat < 8 by omega))) (Za 13 511) (aF 9 (.int .i64 (ZA7.wrap (a2.get s10.2.2.1.toNat))) rfl rfl (hM10 9 rfl) (rfl) (fun _=>by exact Zfb ZI6 ZJe rfl) (Za 13 1023) (aF 10 (.int .i64 (ZA7.wrap ((a0.degrees.getD s10.2.2.1.toNat Zyt) * (ZA7.wrap (a2.get s10.2.2.1.toNat))))) rfl rfl (hM10 10 rfl) (rfl) (fun _=>by exact Zbi rfl rfl) (Za 13 2047) (Zu 11 (by decide) (by decide) (by kernel_rfl) (by kernel_rfl) rfl (Zq rfl rfl (Zc (v:=.int .i64 (ZA7.wrap (s10.2.2.2+(ZA7.wrap ((a0.degrees.getD s10.2.2.1.toNat Zyt) * (ZA7.wrap (a2.get s10.2.2.1.toNat))))))) rfl (done (Zv (Zs (Zd (Zh ?_)))))))))))
        refine Zb (v:=.int .i64 s10.2.2.1) rfl (Zq rfl rfl (Zc (v:=.int .i64 (ZA7.wrap (s10.2.2.1+1))) rfl (done ?_)))
        replace hC:=hC.sM [0,7,8,9,10,11,12] (M':=[own 162 9 u10 r10.terms.length (ZH9.encs r10.terms),blk b14 136 (ZH6 .u8 (s10.2.1.set s10.2.2.1.toNat (a2.get s10.2.2.1.toNat))),blk b13 55 [u10],blk b12 55 [.slice none 0 0],blk b10 136 (ZH6 .u8 a2),blk b11 77 [.int .i64 a1.drop,u1_1],blk b8 32 [u0_0,u0_1]]) (by decide) rfl
        replace hC:=hC.sP [1,2,3,4,5] (Ps':=[ZH7 ZIo.sl a1.images [u1_1] fp1,ZH7 ZIo.sl a0.images [u0_1] fp0,ZH7 ((EI .i64).ty.sl) a0.degrees [u0_0] fp0,ZH7 TAlg a0 [u0_0,u0_1] fp0,ZH7 TDer a1 [.int .i64 a1.drop,u1_1] fp1]) rfl
        exact hK10 (r10.terms,s10.2.1.set s10.2.2.1.toNat (a2.get s10.2.2.1.toNat),ZA7.wrap (s10.2.2.1+1),ZA7.wrap (s10.2.2.2+(ZA7.wrap ((a0.degrees.getD s10.2.2.1.toNat Zyt) * (ZA7.wrap (a2.get s10.2.2.1.toNat)))))) _ _ ⟨u10,(sl ⟨rfl,rfl,rfl,rfl,rfl,rfl,rfl,rfl,trivial⟩),hC⟩ h
       refine Xg 4 11 rfl rfl (by kernel_rfl) ?_ ?_
       ·skip
        refine Zg [.agg (ZH8 (ZH6 .u8 s10.2.1)),.int .i64 (ZA7.wrap (0 - (ZA7.wrap (a2.get s10.2.2.1.toNat))))] _ ZI0 rfl rfl rfl (Zbd s10.2.1 (ZA7.wrap (0 - (ZA7.wrap (a2.get s10.2.2.1.toNat)))) h _) (fun ret13 w33 hR13=>?_)
        obtain ⟨r18,u22,f13,rfl,h,hr15,hf16,hB13⟩:=hR13
        refine⟨_,rfl,?_⟩
        replace hC:=hC.push hB13 (ZIm (Ya 162) r18 [u22] f13) hr15 hf16
        obtain ⟨ho13,hf17⟩:=Xf (hC.getM 0 rfl)
        subst hf17
        replace hC:=hC.recast (c:=own 162 9 u22 r18.terms.length (ZH9.encs r18.terms)) (fun _ h_=>h_) (fun _=>ho13)
        refine done (aK (by assumption) (Za 13 1023) ?_)
        refine Xg 10 11 rfl rfl (by kernel_rfl) ?_ ?_
        ·skip
         refine Zg [u0_0,.agg #[u22],.agg #[u18]] _ ZIy rfl rfl rfl (Zax a0.degrees r18 (a1.images.getD s10.2.2.1.toNat Zyt) h _ (hC.getP 3 rfl) (Yq (Y2 (hC.getM 0 rfl))) (Yq (hC.getP 0 rfl))) (fun ret14 w34 hR14=>?_)
         obtain ⟨r12,u11,f14,rfl,h,hr16,hf18,hB14⟩:=hR14
         refine⟨_,rfl,?_⟩
         replace hC:=hC.push hB14 (ZIm (Ya 162) r12 [u11] f14) hr16 hf18
         obtain ⟨ho14,hf19⟩:=Xf (hC.getM 0 rfl)
         subst hf19
         replace hC:=hC.recast (c:=own 162 9 u11 r12.terms.length (ZH9.encs r12.terms)) (fun _ h_=>h_) (fun _=>ho14)
         refine done (aK (by assumption) (Za 13 2047) (aO 11 rfl (Yj hC [.slice none 0 0] z55 rfl fun b18 w35 hB_ hC=>done (aK (by assumption) (Za 13 4095) (Zu 12 (by decide) (by decide) (by kernel_rfl) (by kernel_rfl) rfl (Zw (v:=.agg #[u11]) hC 0 [u11] [u11] rfl ag55.size rfl rfl rfl rfl (Y6 (Xn (hC.getM 1 rfl)) rfl) (ZIc rfl) rfl fun w36 hC=>done (Zv ?_)))))))
         replace hC:=hC.sM [0,1,3,4,5,6,7,8,9,10] (M':=[blk b18 55 [u11],own 162 9 u11 r12.terms.length (ZH9.encs r12.terms),blk b15 136 (ZH6 .u8 (s11.1.set s10.2.2.1.toNat (ZIk.wrap ((s11.1.get s10.2.2.1.toNat) - 1)))),own 162 9 v10 s10.1.length (ZH9.encs s10.1),blk b14 136 (ZH6 .u8 s10.2.1),blk b13 55 [v10],blk b12 55 [.slice none 0 0],blk b10 136 (ZH6 .u8 a2),blk b11 77 [.int .i64 a1.drop,u1_1],blk b8 32 [u0_0,u0_1]]) (by decide) rfl
         exact⟨rfl,_,rfl,⟨b18,u11,r12,(sl ⟨rfl,rfl,rfl,rfl,rfl,rfl,rfl,rfl,rfl,rfl,trivial⟩),hC,h⟩⟩
        ·skip
         refine Yj hC [.slice none 0 0] z55 rfl fun b19 w37 hB_ hC=>done (aK (by assumption) (Za 13 3071) (aO 10 rfl ?_))
         refine Zg [u0_0,.agg #[u22],.agg #[u18]] _ ZIy rfl rfl rfl (Zax a0.degrees r18 (a1.images.getD s10.2.2.1.toNat Zyt) h _ (hC.getP 3 rfl) (Yq (Y2 (hC.getM 1 rfl))) (Yq (hC.getP 0 rfl))) (fun ret15 w38 hR15=>?_)
         obtain ⟨r20,u12,f15,rfl,h,hr17,hf20,hB15⟩:=hR15
         refine⟨_,rfl,?_⟩
         replace hC:=hC.push hB15 (ZIm (Ya 162) r20 [u12] f15) hr17 hf20
         obtain ⟨ho15,hf21⟩:=Xf (hC.getM 0 rfl)
         subst hf21
         replace hC:=hC.recast (c:=own 162 9 u12 r20.terms.length (ZH9.encs r20.terms)) (fun _ h_=>h_) (fun _=>ho15)
         refine done (aK (by assumption) (Za 13 4095) (Zu 12 (by decide) (by decide) (by kernel_rfl) (by kernel_rfl) rfl (Zw (v:=.agg #[u12]) hC 1 [u12] [u12] rfl ag55.size rfl rfl rfl rfl (Y6 (Xn (hC.getM 0 rfl)) rfl) (ZIc rfl) rfl fun w39 hC=>done (Zv ?_))))
         replace hC:=hC.sM [1,0,3,4,5,6,7,8,9,10] (M':=[blk b19 55 [u12],own 162 9 u12 r20.terms.length (ZH9.encs r20.terms),blk b15 136 (ZH6 .u8 (s11.1.set s10.2.2.1.toNat (ZIk.wrap ((s11.1.get s10.2.2.1.toNat) - 1)))),own 162 9 v10 s10.1.length (ZH9.encs s10.1),blk b14 136 (ZH6 .u8 s10.2.1),blk b13 55 [v10],blk b12 55 [.slice none 0 0],blk b10 136 (ZH6 .u8 a2),blk b11 77 [.int .i64 a1.drop,u1_1],blk b8 32 [u0_0,u0_1]]) (by decide) rfl
         exact⟨rfl,_,rfl,⟨b19,u12,r20,(sl ⟨rfl,rfl,rfl,rfl,rfl,rfl,rfl,rfl,rfl,rfl,trivial⟩),hC,h⟩⟩
       ·skip
        refine Yj hC [.slice none 0 0] z55 rfl fun b20 w40 hB_ hC=>done (aK (by assumption) (Za 13 3055) (aO 4 rfl ?_))
        refine Zg [.agg (ZH8 (ZH6 .u8 s10.2.1)),.int .i64 (ZA7.wrap (0 - (ZA7.wrap (a2.get s10.2.2.1.toNat))))] _ ZI0 rfl rfl rfl (Zbd s10.2.1 (ZA7.wrap (0 - (ZA7.wrap (a2.get s10.2.2.1.toNat)))) h _) (fun ret16 w41 hR16=>?_)
        obtain ⟨r26,u26,f16,rfl,h,hr18,hf22,hB16⟩:=hR16
        refine⟨_,rfl,?_⟩
        replace hC:=hC.push hB16 (ZIm (Ya 162) r26 [u26] f16) hr18 hf22
        obtain ⟨ho16,hf23⟩:=Xf (hC.getM 0 rfl)
        subst hf23
        replace hC:=hC.recast (c:=own 162 9 u26 r26.terms.length (ZH9.encs r26.terms)) (fun _ h_=>h_) (fun _=>ho16)
        refine done (aK (by assumption) (Za 13 3071) (aO 10 rfl ?_))
        refine Zg [u0_0,.agg #[u26],.agg #[u18]] _ ZIy rfl rfl rfl (Zax a0.degrees r26 (a1.images.getD s10.2.2.1.toNat Zyt) h _ (hC.getP 3 rfl) (Yq (Y2 (hC.getM 0 rfl))) (Yq (hC.getP 0 rfl))) (fun ret17 w42 hR17=>?_)
        obtain ⟨r21,u13,f17,rfl,h,hr19,hf24,hB17⟩:=hR17
        refine⟨_,rfl,?_⟩
        replace hC:=hC.push hB17 (ZIm (Ya 162) r21 [u13] f17) hr19 hf24
        obtain ⟨ho17,hf25⟩:=Xf (hC.getM 0 rfl)
        subst hf25
        replace hC:=hC.recast (c:=own 162 9 u13 r21.terms.length (ZH9.encs r21.terms)) (fun _ h_=>h_) (fun _=>ho17)
        refine done (aK (by assumption) (Za 13 4095) (Zu 12 (by decide) (by decide) (by kernel_rfl) (by kernel_rfl) rfl (Zw (v:=.agg #[u13]) hC 2 [u13] [u13] rfl ag55.size rfl rfl rfl rfl (Y6 (Xn (hC.getM 0 rfl)) rfl) (ZIc rfl) rfl fun w43 hC=>done (Zv ?_))))
        replace hC:=hC.sM [2,0,3,4,5,6,7,8,9,10] (M':=[blk b20 55 [u13],own 162 9 u13 r21.terms.length (ZH9.encs r21.terms),blk b15 136 (ZH6 .u8 (s11.1.set s10.2.2.1.toNat (ZIk.wrap ((s11.1.get s10.2.2.1.toNat) - 1)))),own 162 9 v10 s10.1.length (ZH9.encs s10.1),blk b14 136 (ZH6 .u8 s10.2.1),blk b13 55 [v10],blk b12 55 [.slice none 0 0],blk b10 136 (ZH6 .u8 a2),blk b11 77 [.int .i64 a1.drop,u1_1],blk b8 32 [u0_0,u0_1]]) (by decide) rfl
        exact⟨rfl,_,rfl,⟨b20,u13,r21,(sl ⟨rfl,rfl,rfl,rfl,rfl,rfl,rfl,rfl,rfl,rfl,trivial⟩),hC,h⟩⟩
      ·replace h:=Zk h (cf hb13)
       refine ZIe (Zd (ZIa ?_))
       refine Yg 12 Ye [0,1,0,0,12,0,32,0,224,480,1023,0,4095] [1,2,6,8,9] [0,3,5,7] (by kernel_rfl) (by kernel_rfl) (by kernel_rfl) (fun hM15 hM20 w44 hB_=>?_)
       replace hC:=hC.grow hB_
       refine aF 0 (.pointer (some ⟨b8,0,none⟩)) rfl rfl (hM20 0 rfl) (rfl) (fun _=>by exact Z7 0 ZIq rfl sc22.size rfl rfl) (Za 13 1) (aL 1 (u0_0) rfl rfl (hM15 1 rfl) (rfl) (fun _ hB_=>by exact Z5 (hC.grow hB_) 7 (u0_0) rfl sc22 rfl rfl) (Za 13 3) (aL 2 (.agg (ZH8 (ZH6 .u8 s10.2.1))) rfl rfl (hM15 2 rfl) (rfl) (fun _ hB_=>by exact Yv (hC.grow hB_) 2 (ZH6 .u8 s10.2.1) rfl ag136 rfl rfl rfl) (Za 13 7) (aF 3 (.int .i64 (ZA7.wrap (a2.get s10.2.2.1.toNat))) rfl rfl (hM20 3 rfl) (rfl) (fun _=>by exact Zf (v:=.int .i64 (ZA7.wrap (a2.get s10.2.2.1.toNat))) rfl) (Za 13 15) (aF 5 (.pointer (some ⟨b11,1,none⟩)) rfl rfl (hM20 5 rfl) (rfl) (fun _=>by exact Z7 1 ZSg rfl sc30.size rfl rfl) (Za 13 47) (aL 6 (u1_1) rfl rfl (hM15 6 rfl) (rfl) (fun _ hB_=>by exact Z5 (hC.grow hB_) 6 (u1_1) rfl sc30 rfl rfl) (Za 13 111) (aF 7 (.int .i64 s10.2.2.1) rfl rfl (hM20 7 rfl) (rfl) (fun _=>by exact Zf (v:=.int .i64 s10.2.2.1) rfl) (Za 13 239) ?_))))))
       obtain ⟨⟨h30,h31⟩,h⟩:=h
       obtain ⟨Ad12,c13,hv12⟩:=Z0 (hC.getP 0 rfl) s10.2.2.1.toNat (show s10.2.2.1.toNat < a1.images.length by omega)
       refine aL 8 (.pointer (some (Ad12.add (s10.2.2.1.toNat * 1)))) rfl rfl (hM15 8 rfl) (rfl) (fun _ hB_=>by exact Yp (len:=a1.images.length) ZIw ag55.size (by exact tr rfl hv12) rfl h30 h31) (Za 13 495) ?_
       obtain ⟨cs_,hl11,hc11,hr11⟩:=Xs (hC.getP 0 rfl) hv12 s10.2.2.1.toNat (show s10.2.2.1.toNat < a1.images.length by omega)
       obtain ⟨u19,rfl⟩:=ZI4.1 hl11
       clear hl11
       rw [Xt _ _ (show s10.2.2.1.toNat < a1.images.length by omega)] at hr11
       have hp11:=hr11
       replace hC:=hC.derive 0 rfl (ZH7 ZH9.ty.sl ((a1.images.getD s10.2.2.1.toNat Zyt).terms) [u19] fp1) (fun _=>(Xi hp11)) (fun _ hb_=>hb_)
       refine aL 9 (.agg #[u19]) rfl rfl (hM15 9 rfl) (rfl) (fun _ hB_=>by exact X4 [u19] (Jz hB_ hc11) ag55 rfl rfl) (Za 13 1007) ?_
       refine Zbj (fun e_ w_=>∃ (b17:Nat),∃ (u21:Value),∃ (r25:ZIb),Z3 e_ [(3,.pointer (some ⟨b8,0,none⟩)),(4,.pointer (some ⟨b11,0,none⟩)),(5,.pointer (some ⟨b10,0,none⟩)),(6,.pointer (some ⟨b12,0,none⟩)),(7,.pointer (some ⟨b13,0,none⟩)),(8,.pointer (some ⟨b14,0,none⟩)),(9,.int .i64 s10.2.2.2),(10,.int .i64 s10.2.2.1),(11,.pointer (some ⟨b15,0,none⟩)),(14,.pointer (some ⟨b17,0,none⟩))]∧Ctx Nox w0 w_ [blk b17 55 [u21],own 162 9 u21 r25.terms.length (ZH9.encs r25.terms),blk b15 136 (ZH6 .u8 (s11.1.set s10.2.2.1.toNat (ZIk.wrap ((s11.1.get s10.2.2.1.toNat) - 1)))),own 162 9 v10 s10.1.length (ZH9.encs s10.1),blk b14 136 (ZH6 .u8 s10.2.1),blk b13 55 [v10],blk b12 55 [.slice none 0 0],blk b10 136 (ZH6 .u8 a2),blk b11 77 [.int .i64 a1.drop,u1_1],blk b8 32 [u0_0,u0_1]] [ZH7 ZH9.ty.sl ((a1.images.getD s10.2.2.1.toNat Zyt).terms) [u19] fp1,ZH7 ZIo.sl a1.images [u1_1] fp1,ZH7 ZIo.sl a0.images [u0_1] fp0,ZH7 ((EI .i64).ty.sl) a0.degrees [u0_0] fp0,ZH7 TAlg a0 [u0_0,u0_1] fp0,ZH7 TDer a1 [.int .i64 a1.drop,u1_1] fp1]∧(Jb (s11.1.set s10.2.2.1.toNat (ZIk.wrap ((s11.1.get s10.2.2.1.toNat) - 1))) 1 (fun r16=>Jk a0.degrees r25 r16 (fun r17=>Zah (⟨s10.1⟩:ZIb) r17 1 (fun r11=>((0≤s10.2.2.1∧s10.2.2.1 < 8)∧((0≤s10.2.2.1∧s10.2.2.1 < 8)∧((0≤s10.2.2.1∧s10.2.2.1 < (a0.degrees.length:Int))∧((0≤s10.2.2.1∧s10.2.2.1 < 8)∧nx10 (r11.terms,s10.2.1.set s10.2.2.1.toNat (a2.get s10.2.2.1.toNat),ZA7.wrap (s10.2.2.1+1),ZA7.wrap (s10.2.2.2+(ZA7.wrap ((a0.degrees.getD s10.2.2.1.toNat Zyt) * (ZA7.wrap (a2.get s10.2.2.1.toNat))))))))))))))) ?_ ?_
       ·clear hC h
        rintro e_ w45 ⟨b17,u21,r25,hS_,hC,h⟩
        rw [ue hS_]
        refine Zd ?_
        refine Yg 7 Ye [0,0,2,0,0,16,62,127,255] [0,2,3,4] [1] (by kernel_rfl) (by kernel_rfl) (by kernel_rfl) (fun hM21 hM23 w46 hB_=>?_)
        replace hC:=hC.grow hB_
        refine aL 0 (.agg #[v10]) rfl rfl (hM21 0 rfl) (rfl) (fun _ hB_=>by exact Yv (hC.grow hB_) 5 [v10] rfl ag55 rfl rfl rfl) (Za 9 1) (aF 1 (.pointer (some ⟨b8,0,none⟩)) rfl rfl (hM23 1 rfl) (rfl) (fun _=>by exact Z7 0 ZIq rfl sc22.size rfl rfl) (Za 9 3) (aL 2 (u0_0) rfl rfl (hM21 2 rfl) (rfl) (fun _ hB_=>by exact Z5 (hC.grow hB_) 9 (u0_0) rfl sc22 rfl rfl) (Za 9 7) (aL 3 (.agg #[u21]) rfl rfl (hM21 3 rfl) (rfl) (fun _ hB_=>by exact Yv (hC.grow hB_) 0 [u21] rfl ag55 rfl rfl rfl) (Za 9 15) (aL 4 (.agg (ZH8 (ZH6 .u8 (s11.1.set s10.2.2.1.toNat (ZIk.wrap ((s11.1.get s10.2.2.1.toNat) - 1)))))) rfl rfl (hM21 4 rfl) (rfl) (fun _ hB_=>by exact Yv (hC.grow hB_) 2 (ZH6 .u8 (s11.1.set s10.2.2.1.toNat (ZIk.wrap ((s11.1.get s10.2.2.1.toNat) - 1)))) rfl ag136 rfl rfl rfl) (Za 9 31) (aO 5 rfl ?_)))))
        refine Zg [.agg (ZH8 (ZH6 .u8 (s11.1.set s10.2.2.1.toNat (ZIk.wrap ((s11.1.get s10.2.2.1.toNat) - 1))))),.int .i64 1] _ ZI0 rfl rfl rfl (Zbd (s11.1.set s10.2.2.1.toNat (ZIk.wrap ((s11.1.get s10.2.2.1.toNat) - 1))) 1 h _) (fun ret18 w47 hR18=>?_)
        obtain ⟨r16,u27,f18,rfl,h,hr20,hf26,hB18⟩:=hR18
        refine⟨_,rfl,?_⟩
        replace hC:=hC.push hB18 (ZIm (Ya 162) r16 [u27] f18) hr20 hf26
        obtain ⟨ho18,hf27⟩:=Xf (hC.getM 0 rfl)
        subst hf27
        replace hC:=hC.recast (c:=own 162 9 u27 r16.terms.length (ZH9.encs r16.terms)) (fun _ h_=>h_) (fun _=>ho18)
        refine done (aK (by assumption) (Za 9 63) (aO 6 rfl ?_))
        refine Zg [u0_0,.agg #[u21],.agg #[u27]] _ ZIy rfl rfl rfl (Zax a0.degrees r25 r16 h _ (hC.getP 3 rfl) (Yq (Y2 (hC.getM 2 rfl))) (Yq (Y2 (hC.getM 0 rfl)))) (fun ret19 w48 hR19=>?_)
        obtain ⟨r17,u28,f19,rfl,h,hr21,hf28,hB19⟩:=hR19
        refine⟨_,rfl,?_⟩
        replace hC:=hC.push hB19 (ZIm (Ya 162) r17 [u28] f19) hr21 hf28
        obtain ⟨ho19,hf29⟩:=Xf (hC.getM 0 rfl)
        subst hf29
        replace hC:=hC.recast (c:=own 162 9 u28 r17.terms.length (ZH9.encs r17.terms)) (fun _ h_=>h_) (fun _=>ho19)
        refine done (aK (by assumption) (Za 9 127) (Zu 7 (by decide) (by decide) (by kernel_rfl) (by kernel_rfl) rfl ?_))
        refine Zg [.agg #[v10],.agg #[u28],.int .i64 1] _ ZI9 rfl rfl rfl (Zds (⟨s10.1⟩:ZIb) r17 1 h _ (Yq (Y2 (hC.getM 5 rfl))) (Yq (Y2 (hC.getM 0 rfl)))) (fun ret20 w49 hR20=>?_)
        obtain ⟨r11,u14,f20,rfl,h,hr22,hf30,hB20⟩:=hR20
        refine⟨_,rfl,?_⟩
        replace hC:=hC.push hB20 (ZIm (Ya 162) r11 [u14] f20) hr22 hf30
        obtain ⟨ho20,hf31⟩:=Xf (hC.getM 0 rfl)
        subst hf31
        replace hC:=hC.recast (c:=own 162 9 u14 r11.terms.length (ZH9.encs r11.terms)) (fun _ h_=>h_) (fun _=>ho20)
        refine Zw (v:=.agg #[u14]) hC 8 [u14] [u14] rfl ag55.size rfl rfl rfl rfl (Y6 (Xn (hC.getM 0 rfl)) rfl) (ZIc rfl) rfl fun w50 hC=>done (Zv (Zd (sr (Zb (v:=.int .i64 s10.2.2.1) rfl (Zb (v:=.int .i64 s10.2.2.1) rfl ?_)))))
        obtain ⟨⟨h32,h33⟩,h⟩:=h
        refine Y5 s10.2.2.1.toNat ZIn sc5.size rfl rfl h32 h33 (by omega) (Z8 hC 10 (.int .u8 (a2.get s10.2.2.1.toNat)) rfl sc5 rfl (ZIu _ _ (show s10.2.2.1.toNat < 8 by omega)) ?_)
        obtain ⟨⟨h34,h35⟩,h⟩:=h
        refine Y5 s10.2.2.1.toNat ZIn sc5.size rfl rfl h34 h35 (by omega) (Zw (v:=.int .u8 (a2.get s10.2.2.1.toNat)) hC 7 [.int .u8 (a2.get s10.2.2.1.toNat)] (ZH6 .u8 (s10.2.1.set s10.2.2.1.toNat (a2.get s10.2.2.1.toNat))) rfl sc5.size rfl rfl rfl rfl rfl (show s10.2.2.1.toNat < 8 by omega) (ZI3 _ _ _ (show s10.2.2.1.toNat < 8 by omega)) fun w51 hC=>dn ?_)
        refine Yg 11 Ye [0,0,2,0,14,30,0,64,192,448,1022,2047,4095] [2,4,5,7,8] [0,1,3,6,9,10] (by kernel_rfl) (by kernel_rfl) (by kernel_rfl) (fun hM16 hM11 w52 hB_=>?_)
        replace hC:=hC.grow hB_
        refine aF 0 (.int .i64 s10.2.2.2) rfl rfl (hM11 0 rfl) (rfl) (fun _=>by exact Zf (v:=.int .i64 s10.2.2.2) rfl) (Za 13 1) (aF 1 (.pointer (some ⟨b8,0,none⟩)) rfl rfl (hM11 1 rfl) (rfl) (fun _=>by exact Z7 0 ZIq rfl sc22.size rfl rfl) (Za 13 3) (aL 2 (u0_0) rfl rfl (hM16 2 rfl) (rfl) (fun _ hB_=>by exact Z5 (hC.grow hB_) 12 (u0_0) rfl sc22 rfl rfl) (Za 13 7) (aF 3 (.int .i64 s10.2.2.1) rfl rfl (hM11 3 rfl) (rfl) (fun _=>by exact Zf (v:=.int .i64 s10.2.2.1) rfl) (Za 13 15) ?_)))
        obtain ⟨⟨h36,h37⟩,h⟩:=h
        obtain ⟨Ad13,c14,hv13⟩:=Z0 (hC.getP 3 rfl) s10.2.2.1.toNat (show s10.2.2.1.toNat < a0.degrees.length by omega)
        refine aL 4 (.pointer (some (Ad13.add (s10.2.2.1.toNat * 1)))) rfl rfl (hM16 4 rfl) (rfl) (fun _ hB_=>by exact Yp (len:=a0.degrees.length) ZIs sc2.size (by exact tr rfl hv13) rfl h36 h37) (Za 13 31) (aL 5 (.int .i64 (a0.degrees.getD s10.2.2.1.toNat Zyt)) rfl rfl (hM16 5 rfl) (rfl) (fun _ hB_=>by exact Xc (.int .i64 (a0.degrees.getD s10.2.2.1.toNat Zyt)) (Yf ((hC.grow hB_).getP 3 rfl) hv13 s10.2.2.1.toNat (show s10.2.2.1.toNat < a0.degrees.length by omega)) sc2 rfl) (Za 13 63) (aF 6 (.int .i64 s10.2.2.1) rfl rfl (hM11 6 rfl) (rfl) (fun _=>by exact Zf (v:=.int .i64 s10.2.2.1) rfl) (Za 13 127) ?_))
        obtain ⟨⟨h38,h39⟩,h⟩:=h
        refine aL 7 (.pointer (some ⟨b10,s10.2.2.1.toNat,none⟩)) rfl rfl (hM16 7 rfl) (rfl) (fun _ hB_=>by exact Zaa s10.2.2.1.toNat ZIn sc5.size rfl rfl h38 h39 (by omega)) (Za 13 255) (aL 8 (.int .u8 (a2.get s10.2.2.1.toNat)) rfl rfl (hM16 8 rfl) (rfl) (fun _ hB_=>by exact Z5 (hC.grow hB_) 10 (.int .u8 (a2.get s10.2.2.1.toNat)) rfl sc5 rfl (ZIu _ _ (show s10.2.2.1.toNat < 8 by omega))) (Za 13 511) (aF 9 (.int .i64 (ZA7.wrap (a2.get s10.2.2.1.toNat))) rfl rfl (hM11 9 rfl) (rfl) (fun _=>by exact Zfb ZI6 ZJe rfl) (Za 13 1023) (aF 10 (.int .i64 (ZA7.wrap ((a0.degrees.getD s10.2.2.1.toNat Zyt) * (ZA7.wrap (a2.get s10.2.2.1.toNat))))) rfl rfl (hM11 10 rfl) (rfl) (fun _=>by exact Zbi rfl rfl) (Za 13 2047) (Zu 11 (by decide) (by decide) (by kernel_rfl) (by kernel_rfl) rfl (Zq rfl rfl (Zc (v:=.int .i64 (ZA7.wrap (s10.2.2.2+(ZA7.wrap ((a0.degrees.getD s10.2.2.1.toNat Zyt) * (ZA7.wrap (a2.get s10.2.2.1.toNat))))))) rfl (done (Zv (Zs (Zd (Zh ?_)))))))))))
        refine Zb (v:=.int .i64 s10.2.2.1) rfl (Zq rfl rfl (Zc (v:=.int .i64 (ZA7.wrap (s10.2.2.1+1))) rfl (done ?_)))
        replace hC:=hC.sM [0,7,8,9,10,11,12] (M':=[own 162 9 u14 r11.terms.length (ZH9.encs r11.terms),blk b14 136 (ZH6 .u8 (s10.2.1.set s10.2.2.1.toNat (a2.get s10.2.2.1.toNat))),blk b13 55 [u14],blk b12 55 [.slice none 0 0],blk b10 136 (ZH6 .u8 a2),blk b11 77 [.int .i64 a1.drop,u1_1],blk b8 32 [u0_0,u0_1]]) (by decide) rfl
        replace hC:=hC.sP [1,2,3,4,5] (Ps':=[ZH7 ZIo.sl a1.images [u1_1] fp1,ZH7 ZIo.sl a0.images [u0_1] fp0,ZH7 ((EI .i64).ty.sl) a0.degrees [u0_0] fp0,ZH7 TAlg a0 [u0_0,u0_1] fp0,ZH7 TDer a1 [.int .i64 a1.drop,u1_1] fp1]) rfl
        exact hK10 (r11.terms,s10.2.1.set s10.2.2.1.toNat (a2.get s10.2.2.1.toNat),ZA7.wrap (s10.2.2.1+1),ZA7.wrap (s10.2.2.2+(ZA7.wrap ((a0.degrees.getD s10.2.2.1.toNat Zyt) * (ZA7.wrap (a2.get s10.2.2.1.toNat)))))) _ _ ⟨u14,(sl ⟨rfl,rfl,rfl,rfl,rfl,rfl,rfl,rfl,trivial⟩),hC⟩ h
       refine Xg 4 11 rfl rfl (by kernel_rfl) ?_ ?_
       ·skip
        refine Zg [.agg (ZH8 (ZH6 .u8 s10.2.1)),.int .i64 (ZA7.wrap (a2.get s10.2.2.1.toNat))] _ ZI0 rfl rfl rfl (Zbd s10.2.1 (ZA7.wrap (a2.get s10.2.2.1.toNat)) h _) (fun ret21 w53 hR21=>?_)
        obtain ⟨r19,u23,f21,rfl,h,hr23,hf32,hB21⟩:=hR21
        refine⟨_,rfl,?_⟩
        replace hC:=hC.push hB21 (ZIm (Ya 162) r19 [u23] f21) hr23 hf32
        obtain ⟨ho21,hf33⟩:=Xf (hC.getM 0 rfl)
        subst hf33
        replace hC:=hC.recast (c:=own 162 9 u23 r19.terms.length (ZH9.encs r19.terms)) (fun _ h_=>h_) (fun _=>ho21)
        refine done (aK (by assumption) (Za 13 1023) ?_)
        refine Xg 10 11 rfl rfl (by kernel_rfl) ?_ ?_
        ·skip
         refine Zg [u0_0,.agg #[u23],.agg #[u19]] _ ZIy rfl rfl rfl (Zax a0.degrees r19 (a1.images.getD s10.2.2.1.toNat Zyt) h _ (hC.getP 3 rfl) (Yq (Y2 (hC.getM 0 rfl))) (Yq (hC.getP 0 rfl))) (fun ret22 w54 hR22=>?_)
         obtain ⟨r15,u15,f22,rfl,h,hr24,hf34,hB22⟩:=hR22
         refine⟨_,rfl,?_⟩
         replace hC:=hC.push hB22 (ZIm (Ya 162) r15 [u15] f22) hr24 hf34
         obtain ⟨ho22,hf35⟩:=Xf (hC.getM 0 rfl)
         subst hf35
         replace hC:=hC.recast (c:=own 162 9 u15 r15.terms.length (ZH9.encs r15.terms)) (fun _ h_=>h_) (fun _=>ho22)
         refine done (aK (by assumption) (Za 13 2047) (aO 11 rfl (Yj hC [.slice none 0 0] z55 rfl fun b21 w55 hB_ hC=>done (aK (by assumption) (Za 13 4095) (Zu 12 (by decide) (by decide) (by kernel_rfl) (by kernel_rfl) rfl (Zw (v:=.agg #[u15]) hC 0 [u15] [u15] rfl ag55.size rfl rfl rfl rfl (Y6 (Xn (hC.getM 1 rfl)) rfl) (ZIc rfl) rfl fun w56 hC=>done (Zv ?_)))))))
         replace hC:=hC.sM [0,1,3,4,5,6,7,8,9,10] (M':=[blk b21 55 [u15],own 162 9 u15 r15.terms.length (ZH9.encs r15.terms),blk b15 136 (ZH6 .u8 (s11.1.set s10.2.2.1.toNat (ZIk.wrap ((s11.1.get s10.2.2.1.toNat) - 1)))),own 162 9 v10 s10.1.length (ZH9.encs s10.1),blk b14 136 (ZH6 .u8 s10.2.1),blk b13 55 [v10],blk b12 55 [.slice none 0 0],blk b10 136 (ZH6 .u8 a2),blk b11 77 [.int .i64 a1.drop,u1_1],blk b8 32 [u0_0,u0_1]]) (by decide) rfl
         exact⟨rfl,_,rfl,⟨b21,u15,r15,(sl ⟨rfl,rfl,rfl,rfl,rfl,rfl,rfl,rfl,rfl,rfl,trivial⟩),hC,h⟩⟩
        ·skip
         refine Yj hC [.slice none 0 0] z55 rfl fun b22 w57 hB_ hC=>done (aK (by assumption) (Za 13 3071) (aO 10 rfl ?_))
         refine Zg [u0_0,.agg #[u23],.agg #[u19]] _ ZIy rfl rfl rfl (Zax a0.degrees r19 (a1.images.getD s10.2.2.1.toNat Zyt) h _ (hC.getP 3 rfl) (Yq (Y2 (hC.getM 1 rfl))) (Yq (hC.getP 0 rfl))) (fun ret23 w58 hR23=>?_)
         obtain ⟨r22,u16,f23,rfl,h,hr25,hf36,hB23⟩:=hR23
         refine⟨_,rfl,?_⟩
         replace hC:=hC.push hB23 (ZIm (Ya 162) r22 [u16] f23) hr25 hf36
         obtain ⟨ho23,hf37⟩:=Xf (hC.getM 0 rfl)
         subst hf37
         replace hC:=hC.recast (c:=own 162 9 u16 r22.terms.length (ZH9.encs r22.terms)) (fun _ h_=>h_) (fun _=>ho23)
         refine done (aK (by assumption) (Za 13 4095) (Zu 12 (by decide) (by decide) (by kernel_rfl) (by kernel_rfl) rfl (Zw (v:=.agg #[u16]) hC 1 [u16] [u16] rfl ag55.size rfl rfl rfl rfl (Y6 (Xn (hC.getM 0 rfl)) rfl) (ZIc rfl) rfl fun w59 hC=>done (Zv ?_))))
         replace hC:=hC.sM [1,0,3,4,5,6,7,8,9,10] (M':=[blk b22 55 [u16],own 162 9 u16 r22.terms.length (ZH9.encs r22.terms),blk b15 136 (ZH6 .u8 (s11.1.set s10.2.2.1.toNat (ZIk.wrap ((s11.1.get s10.2.2.1.toNat) - 1)))),own 162 9 v10 s10.1.length (ZH9.encs s10.1),blk b14 136 (ZH6 .u8 s10.2.1),blk b13 55 [v10],blk b12 55 [.slice none 0 0],blk b10 136 (ZH6 .u8 a2),blk b11 77 [.int .i64 a1.drop,u1_1],blk b8 32 [u0_0,u0_1]]) (by decide) rfl
         exact⟨rfl,_,rfl,⟨b22,u16,r22,(sl ⟨rfl,rfl,rfl,rfl,rfl,rfl,rfl,rfl,rfl,rfl,trivial⟩),hC,h⟩⟩
       ·skip
        refine Yj hC [.slice none 0 0] z55 rfl fun b23 w60 hB_ hC=>done (aK (by assumption) (Za 13 3055) (aO 4 rfl ?_))
        refine Zg [.agg (ZH8 (ZH6 .u8 s10.2.1)),.int .i64 (ZA7.wrap (a2.get s10.2.2.1.toNat))] _ ZI0 rfl rfl rfl (Zbd s10.2.1 (ZA7.wrap (a2.get s10.2.2.1.toNat)) h _) (fun ret24 w61 hR24=>?_)
        obtain ⟨r27,u29,f24,rfl,h,hr26,hf38,hB24⟩:=hR24
        refine⟨_,rfl,?_⟩
        replace hC:=hC.push hB24 (ZIm (Ya 162) r27 [u29] f24) hr26 hf38
        obtain ⟨ho24,hf39⟩:=Xf (hC.getM 0 rfl)
        subst hf39
        replace hC:=hC.recast (c:=own 162 9 u29 r27.terms.length (ZH9.encs r27.terms)) (fun _ h_=>h_) (fun _=>ho24)
        refine done (aK (by assumption) (Za 13 3071) (aO 10 rfl ?_))
        refine Zg [u0_0,.agg #[u29],.agg #[u19]] _ ZIy rfl rfl rfl (Zax a0.degrees r27 (a1.images.getD s10.2.2.1.toNat Zyt) h _ (hC.getP 3 rfl) (Yq (Y2 (hC.getM 0 rfl))) (Yq (hC.getP 0 rfl))) (fun ret25 w62 hR25=>?_)
        obtain ⟨r23,u17,f25,rfl,h,hr27,hf40,hB25⟩:=hR25
        refine⟨_,rfl,?_⟩
        replace hC:=hC.push hB25 (ZIm (Ya 162) r23 [u17] f25) hr27 hf40
        obtain ⟨ho25,hf41⟩:=Xf (hC.getM 0 rfl)
        subst hf41
        replace hC:=hC.recast (c:=own 162 9 u17 r23.terms.length (ZH9.encs r23.terms)) (fun _ h_=>h_) (fun _=>ho25)
        refine done (aK (by assumption) (Za 13 4095) (Zu 12 (by decide) (by decide) (by kernel_rfl) (by kernel_rfl) rfl (Zw (v:=.agg #[u17]) hC 2 [u17] [u17] rfl ag55.size rfl rfl rfl rfl (Y6 (Xn (hC.getM 0 rfl)) rfl) (ZIc rfl) rfl fun w63 hC=>done (Zv ?_))))
        replace hC:=hC.sM [2,0,3,4,5,6,7,8,9,10] (M':=[blk b23 55 [u17],own 162 9 u17 r23.terms.length (ZH9.encs r23.terms),blk b15 136 (ZH6 .u8 (s11.1.set s10.2.2.1.toNat (ZIk.wrap ((s11.1.get s10.2.2.1.toNat) - 1)))),own 162 9 v10 s10.1.length (ZH9.encs s10.1),blk b14 136 (ZH6 .u8 s10.2.1),blk b13 55 [v10],blk b12 55 [.slice none 0 0],blk b10 136 (ZH6 .u8 a2),blk b11 77 [.int .i64 a1.drop,u1_1],blk b8 32 [u0_0,u0_1]]) (by decide) rfl
        exact⟨rfl,_,rfl,⟨b23,u17,r23,(sl ⟨rfl,rfl,rfl,rfl,rfl,rfl,rfl,rfl,rfl,rfl,trivial⟩),hC,h⟩⟩
    ·skip
     exact⟨(sl ⟨rfl,rfl,rfl,rfl,rfl,rfl,rfl,rfl,rfl,rfl,trivial⟩),hC⟩
   ·replace h:=Zk h (cf hb11)
    refine ZIe (Zd (sr (Zb (v:=.int .i64 s10.2.2.1) rfl (Zb (v:=.int .i64 s10.2.2.1) rfl ?_))))
    obtain ⟨⟨h40,h41⟩,h⟩:=h
    refine Y5 s10.2.2.1.toNat ZIn sc5.size rfl rfl h40 h41 (by omega) (Z8 hC 4 (.int .u8 (a2.get s10.2.2.1.toNat)) rfl sc5 rfl (ZIu _ _ (show s10.2.2.1.toNat < 8 by omega)) ?_)
    obtain ⟨⟨h42,h43⟩,h⟩:=h
    refine Y5 s10.2.2.1.toNat ZIn sc5.size rfl rfl h42 h43 (by omega) (Zw (v:=.int .u8 (a2.get s10.2.2.1.toNat)) hC 1 [.int .u8 (a2.get s10.2.2.1.toNat)] (ZH6 .u8 (s10.2.1.set s10.2.2.1.toNat (a2.get s10.2.2.1.toNat))) rfl sc5.size rfl rfl rfl rfl rfl (show s10.2.2.1.toNat < 8 by omega) (ZI3 _ _ _ (show s10.2.2.1.toNat < 8 by omega)) fun w64 hC=>dn ?_)
    refine Yg 11 Ye [0,0,2,0,14,30,0,64,192,448,1022,2047,4095] [2,4,5,7,8] [0,1,3,6,9,10] (by kernel_rfl) (by kernel_rfl) (by kernel_rfl) (fun hM17 hM12 w65 hB_=>?_)
    replace hC:=hC.grow hB_
    refine aF 0 (.int .i64 s10.2.2.2) rfl rfl (hM12 0 rfl) (rfl) (fun _=>by exact Zf (v:=.int .i64 s10.2.2.2) rfl) (Za 13 1) (aF 1 (.pointer (some ⟨b8,0,none⟩)) rfl rfl (hM12 1 rfl) (rfl) (fun _=>by exact Z7 0 ZIq rfl sc22.size rfl rfl) (Za 13 3) (aL 2 (u0_0) rfl rfl (hM17 2 rfl) (rfl) (fun _ hB_=>by exact Z5 (hC.grow hB_) 6 (u0_0) rfl sc22 rfl rfl) (Za 13 7) (aF 3 (.int .i64 s10.2.2.1) rfl rfl (hM12 3 rfl) (rfl) (fun _=>by exact Zf (v:=.int .i64 s10.2.2.1) rfl) (Za 13 15) ?_)))
    obtain ⟨⟨h44,h45⟩,h⟩:=h
    obtain ⟨Ad14,c15,hv14⟩:=Z0 (hC.getP 2 rfl) s10.2.2.1.toNat (show s10.2.2.1.toNat < a0.degrees.length by omega)
    refine aL 4 (.pointer (some (Ad14.add (s10.2.2.1.toNat * 1)))) rfl rfl (hM17 4 rfl) (rfl) (fun _ hB_=>by exact Yp (len:=a0.degrees.length) ZIs sc2.size (by exact tr rfl hv14) rfl h44 h45) (Za 13 31) (aL 5 (.int .i64 (a0.degrees.getD s10.2.2.1.toNat Zyt)) rfl rfl (hM17 5 rfl) (rfl) (fun _ hB_=>by exact Xc (.int .i64 (a0.degrees.getD s10.2.2.1.toNat Zyt)) (Yf ((hC.grow hB_).getP 2 rfl) hv14 s10.2.2.1.toNat (show s10.2.2.1.toNat < a0.degrees.length by omega)) sc2 rfl) (Za 13 63) (aF 6 (.int .i64 s10.2.2.1) rfl rfl (hM12 6 rfl) (rfl) (fun _=>by exact Zf (v:=.int .i64 s10.2.2.1) rfl) (Za 13 127) ?_))
    obtain ⟨⟨h46,h47⟩,h⟩:=h
    refine aL 7 (.pointer (some ⟨b10,s10.2.2.1.toNat,none⟩)) rfl rfl (hM17 7 rfl) (rfl) (fun _ hB_=>by exact Zaa s10.2.2.1.toNat ZIn sc5.size rfl rfl h46 h47 (by omega)) (Za 13 255) (aL 8 (.int .u8 (a2.get s10.2.2.1.toNat)) rfl rfl (hM17 8 rfl) (rfl) (fun _ hB_=>by exact Z5 (hC.grow hB_) 4 (.int .u8 (a2.get s10.2.2.1.toNat)) rfl sc5 rfl (ZIu _ _ (show s10.2.2.1.toNat < 8 by omega))) (Za 13 511) (aF 9 (.int .i64 (ZA7.wrap (a2.get s10.2.2.1.toNat))) rfl rfl (hM12 9 rfl) (rfl) (fun _=>by exact Zfb ZI6 ZJe rfl) (Za 13 1023) (aF 10 (.int .i64 (ZA7.wrap ((a0.degrees.getD s10.2.2.1.toNat Zyt) * (ZA7.wrap (a2.get s10.2.2.1.toNat))))) rfl rfl (hM12 10 rfl) (rfl) (fun _=>by exact Zbi rfl rfl) (Za 13 2047) (Zu 11 (by decide) (by decide) (by kernel_rfl) (by kernel_rfl) rfl (Zq rfl rfl (Zc (v:=.int .i64 (ZA7.wrap (s10.2.2.2+(ZA7.wrap ((a0.degrees.getD s10.2.2.1.toNat Zyt) * (ZA7.wrap (a2.get s10.2.2.1.toNat))))))) rfl (done (Zv (Zs (Zd (Zh ?_)))))))))))
    refine Zb (v:=.int .i64 s10.2.2.1) rfl (Zq rfl rfl (Zc (v:=.int .i64 (ZA7.wrap (s10.2.2.1+1))) rfl (done ?_)))
    exact hK10 (s10.1,s10.2.1.set s10.2.2.1.toNat (a2.get s10.2.2.1.toNat),ZA7.wrap (s10.2.2.1+1),ZA7.wrap (s10.2.2.2+(ZA7.wrap ((a0.degrees.getD s10.2.2.1.toNat Zyt) * (ZA7.wrap (a2.get s10.2.2.1.toNat)))))) _ _ ⟨v10,(sl ⟨rfl,rfl,rfl,rfl,rfl,rfl,rfl,rfl,trivial⟩),hC⟩ h
  ·replace h:=Zk h (cf hb10)
   refine ZIr (Zj (Zj (Z9 ?_)))
   refine Zd (sr (Yy hC 2 [v10] rfl ag55 rfl rfl rfl (Zw (v:=.agg #[v10]) hC 3 [v10] [v10] rfl ag55.size rfl rfl rfl rfl (Y6 (Xn (hC.getM 0 rfl)) rfl) (ZIc rfl) rfl fun w66 hC=>dn (ZIi ?_))))
   refine Zp (fn:=Tryz.f194) rfl ?_ ⟨(⟨s10.1⟩:ZIb),v10,(ZI5 (Zzn v10)),rfl,h,(Za4 (Jr (hC.getM 0 rfl))),(X5 hC 0 rfl),hC.below⟩ (.inl rfl)
   exact Zag hC 3 rfl ag55 rfl rfl
 ·skip
  replace hC:=hC.pushNil 162 9
  exact⟨.slice none 0 0,(sl ⟨rfl,rfl,rfl,rfl,rfl,rfl,rfl,rfl,trivial⟩),hC⟩
def Zg8 (a0:Alg) (a1:Der) (a2:ZIb) (K:ZIb→Prop):Prop :=
 Xj (fun (s10:(List Term)×Int) nx10=>(if s10.2 < (a2.terms.length:Int) then((0≤s10.2∧s10.2 < (a2.terms.length:Int))∧((0≤s10.2∧s10.2 < (a2.terms.length:Int))∧Zg7 a0 a1 ((a2.terms.getD s10.2.toNat Zyt).mono) (fun r11=>Zah (⟨s10.1⟩:ZIb) r11 ((a2.terms.getD s10.2.toNat Zyt).factor) (fun r10=>nx10 (r10.terms,ZA7.wrap (s10.2+1)))))) else K (⟨s10.1⟩:ZIb))) ([],0)
theorem Zwe (a0:Alg) (a1:Der) (a2:ZIb) {u0_0:Value} {u0_1:Value} {u1_0:Value} {u1_1:Value} {u2_0:Value} {fp0:List Nat} {fp1:List Nat} {fp2:List Nat} {K:ZIb→Prop} (h:Zg8 a0 a1 a2 K) (w0:World) (q0:TAlg.rep a0 [u0_0,u0_1] fp0 w0) (q1:TDer.rep a1 [u1_0,u1_1] fp1 w0) (q2:ZIo.rep a2 [u2_0] fp2 w0) :
  Calls ZId 161 #[.agg #[u0_0,u0_1],.agg #[u1_0,u1_1],.agg #[u2_0]] w0 fun e w'=>∃ (r0:ZIb) (z0_0:Value) (fz0:List Nat),
   e=.returned (.agg #[z0_0])∧K r0∧(ZIm (Ya 162) r0 [z0_0] fz0).holds w'∧(∀ b,b∈fz0→w0.heap.size≤b)∧Bel w0 w':=by
 unfold Zg8 at h
 refine Z4 (args:=[.agg #[u0_0,u0_1],.agg #[u1_0,u1_1],.agg #[u2_0]]) Tryz.func161 rfl 35 Tryz.ntmps161 (ZIc rfl) ?_
 have hC:=ZIt (X:=Nox) w0 [ZH7 TAlg a0 [u0_0,u0_1] fp0,ZH7 TDer a1 [u1_0,u1_1] fp1,ZH7 TForm a2 [u2_0] fp2] (by simp only [Zyz,ZAt,or_false,forall_eq_or_imp,forall_eq]; exact⟨q0,q1,q2⟩)
 have hp4:=(hC.getP 0 rfl)
 replace hC:=hC.derive 0 rfl (ZH7 ((EI .i64).ty.sl) a0.degrees [u0_0] fp0) (fun _=>(Yw hp4).1) (fun _ hb_=>hb_)
 replace hC:=hC.derive 1 rfl (ZH7 ZIo.sl a0.images [u0_1] fp0) (fun _=>(Yw hp4).2) (fun _ hb_=>hb_)
 have hp7:=(hC.getP 3 rfl)
 obtain rfl:=(Zb7 hp7).1
 replace hC:=hC.derive 3 rfl (ZH7 ZIo.sl a1.images [u1_1] fp1) (fun _=>(Zb7 hp7).2) (fun _ hb_=>hb_)
 have hp9:=(hC.getP 5 rfl)
 replace hC:=hC.derive 5 rfl (ZH7 ZH9.ty.sl a2.terms [u2_0] fp2) (fun _=>(Xi hp9)) (fun _ hb_=>hb_)
 refine sr (Yl (v:=.agg #[u0_0,u0_1]) hC [u0_0,u0_1] rfl rfl fun b11 w10 hB_ hC=>Yl (v:=.agg #[.int .i64 a1.drop,u1_1]) hC [.int .i64 a1.drop,u1_1] rfl rfl fun b12 w11 hB_ hC=>Yl (v:=.agg #[u2_0]) hC [u2_0] rfl rfl fun b10 w12 hB_ hC=>Yj hC [.slice none 0 0] z55 rfl fun b13 w13 hB_ hC=>dn (sr (Jn [] rfl (Zdp   _) (Yj hC [.slice none 0 0] z55 rfl fun b14 w14 hB_ hC=>Zw (v:=.agg #[.slice none 0 0]) hC 0 [.slice none 0 0] [.slice none 0 0] rfl ag55.size rfl rfl rfl rfl rfl (ZIc rfl) rfl fun w15 hC=>dn (ZIa ?_)))))
 refine sr (Zc (v:=.int .i64 0) rfl (dn (ZIj ?_)))
 refine X1 (S:=(List Term)×Int) _ (fun s10 e_ w_=>∃ (v10:Value),Z3 e_ [(3,.pointer (some ⟨b11,0,none⟩)),(4,.pointer (some ⟨b12,0,none⟩)),(5,.pointer (some ⟨b10,0,none⟩)),(6,.pointer (some ⟨b13,0,none⟩)),(7,.pointer (some ⟨b14,0,none⟩)),(8,.int .i64 s10.2)]∧Ctx Nox w0 w_ [own 162 9 v10 s10.1.length (ZH9.encs s10.1),blk b14 55 [v10],blk b13 55 [.slice none 0 0],blk b10 55 [u2_0],blk b12 77 [.int .i64 a1.drop,u1_1],blk b11 32 [u0_0,u0_1]] [ZH7 ZH9.ty.sl a2.terms [u2_0] fp2,ZH7 ZIo.sl a1.images [u1_1] fp1,ZH7 ZIo.sl a0.images [u0_1] fp0,ZH7 ((EI .i64).ty.sl) a0.degrees [u0_0] fp0,ZH7 TAlg a0 [u0_0,u0_1] fp0,ZH7 TDer a1 [.int .i64 a1.drop,u1_1] fp1,ZH7 TForm a2 [u2_0] fp2]) ?_ (s0:=([],0)) ?_ h
 ·clear hC h
  rintro s10 e_ w16 nx10 K10 ⟨v10,hS_,hC⟩ h hK10
  rw [ue hS_]
  refine ZIa (sr (Zb (v:=.int .i64 s10.2) rfl (Z6 0 ZIf rfl sc53.size rfl rfl (Z8 hC 3 (u2_0) rfl sc53 rfl rfl ?_))))
  obtain ⟨Ad12,c10,hv12⟩:=Z1 (hC.getP 0 rfl)
  refine Zx ZIh (tr rfl hv12) (Zt rfl rfl (dn ?_))
  refine Zr rfl (fun hb10=>?_) (fun hb10=>?_)
  ·replace h:=ift h (ct hb10)
   refine ZIe (Zd (ZIa (ZIj ?_)))
   refine Yg 16 Ye [0,0,0,0,8,0,56,120,248,510,0,1024,0,7168,15360,31744,65535,131071] [0,1,2,4,6,8,11,13,15] [3,5,7,10,12,14] (by kernel_rfl) (by kernel_rfl) (by kernel_rfl) (fun hM10 hM11 w17 hB_=>?_)
   replace hC:=hC.grow hB_
   refine aL 0 (.agg #[v10]) rfl rfl (hM10 0 rfl) (rfl) (fun _ hB_=>by exact Yv (hC.grow hB_) 1 [v10] rfl ag55 rfl rfl rfl) (Za 18 1) (aL 1 (.agg #[u0_0,u0_1]) rfl rfl (hM10 1 rfl) (rfl) (fun _ hB_=>by exact Yv (hC.grow hB_) 5 [u0_0,u0_1] rfl ag32 rfl rfl rfl) (Za 18 3) (aL 2 (.agg #[.int .i64 a1.drop,u1_1]) rfl rfl (hM10 2 rfl) (rfl) (fun _ hB_=>by exact Yv (hC.grow hB_) 4 [.int .i64 a1.drop,u1_1] rfl ag77 rfl rfl rfl) (Za 18 7) (aF 3 (.pointer (some ⟨b10,0,none⟩)) rfl rfl (hM11 3 rfl) (rfl) (fun _=>by exact Z7 0 ZIf rfl sc53.size rfl rfl) (Za 18 15) (aL 4 (u2_0) rfl rfl (hM10 4 rfl) (rfl) (fun _ hB_=>by exact Z5 (hC.grow hB_) 3 (u2_0) rfl sc53 rfl rfl) (Za 18 31) (aF 5 (.int .i64 s10.2) rfl rfl (hM11 5 rfl) (rfl) (fun _=>by exact Zf (v:=.int .i64 s10.2) rfl) (Za 18 63) ?_)))))
   obtain ⟨⟨h10,h11⟩,h⟩:=h
   obtain ⟨Ad10,c11,hv10⟩:=Z0 (hC.getP 0 rfl) s10.2.toNat (show s10.2.toNat < a2.terms.length by omega)
   refine aL 6 (.pointer (some (Ad10.add (s10.2.toNat * 9)))) rfl rfl (hM10 6 rfl) (rfl) (fun _ hB_=>by exact Yp (len:=a2.terms.length) ZIh ag162.size (by exact tr rfl hv10) rfl h10 h11) (Za 18 127) (aF 7 (.pointer (some (Ad10.add (s10.2.toNat * 9+0)))) rfl rfl (hM11 7 rfl) (rfl) (fun _=>by exact Zau (s10.2.toNat * 9+0) ZIp rfl ag136.size rfl rfl) (Za 18 255) (aL 8 (.agg (ZH8 (ZH6 .u8 ((a2.terms.getD s10.2.toNat Zyt).mono)))) rfl rfl (hM10 8 rfl) (rfl) (fun _ hB_=>by exact X4 (ZH6 .u8 ((a2.terms.getD s10.2.toNat Zyt).mono)) (J2 (o:=0) (k:=8) (Yf ((hC.grow hB_).getP 0 rfl) hv10 s10.2.toNat (show s10.2.toNat < a2.terms.length by omega)) rfl) ag136 rfl rfl) (Za 18 511) (aF 10 (.pointer (some ⟨b10,0,none⟩)) rfl rfl (hM11 10 rfl) (rfl) (fun _=>by exact Z7 0 ZIf rfl sc53.size rfl rfl) (Za 18 1535) (aL 11 (u2_0) rfl rfl (hM10 11 rfl) (rfl) (fun _ hB_=>by exact Z5 (hC.grow hB_) 3 (u2_0) rfl sc53 rfl rfl) (Za 18 3583) (aF 12 (.int .i64 s10.2) rfl rfl (hM11 12 rfl) (rfl) (fun _=>by exact Zf (v:=.int .i64 s10.2) rfl) (Za 18 7679) ?_)))))
   obtain ⟨⟨h12,h13⟩,h⟩:=h
   obtain ⟨Ad11,c12,hv11⟩:=Z0 (hC.getP 0 rfl) s10.2.toNat (show s10.2.toNat < a2.terms.length by omega)
   refine aL 13 (.pointer (some (Ad11.add (s10.2.toNat * 9)))) rfl rfl (hM10 13 rfl) (rfl) (fun _ hB_=>by exact Yp (len:=a2.terms.length) ZIh ag162.size (by exact tr rfl hv11) rfl h12 h13) (Za 18 15871) (aF 14 (.pointer (some (Ad11.add (s10.2.toNat * 9+8)))) rfl rfl (hM11 14 rfl) (rfl) (fun _=>by exact Zau (s10.2.toNat * 9+8) ZIp rfl sc2.size rfl rfl) (Za 18 32255) (aL 15 (.int .i64 ((a2.terms.getD s10.2.toNat Zyt).factor)) rfl rfl (hM10 15 rfl) (rfl) (fun _ hB_=>by exact Xc (.int .i64 ((a2.terms.getD s10.2.toNat Zyt).factor)) (J2 (o:=8) (k:=1) (Yf ((hC.grow hB_).getP 0 rfl) hv11 s10.2.toNat (show s10.2.toNat < a2.terms.length by omega)) rfl) sc2 rfl) (Za 18 65023) (aO 9 rfl ?_)))
   refine Zg [.agg #[u0_0,u0_1],.agg #[.int .i64 a1.drop,u1_1],.agg (ZH8 (ZH6 .u8 ((a2.terms.getD s10.2.toNat Zyt).mono)))] _ Tryz.func194 rfl rfl rfl (Zwd a0 a1 ((a2.terms.getD s10.2.toNat Zyt).mono) h _ (Xy (hC.getP 3 rfl) (hC.getP 2 rfl)) (Zh4 (hC.getP 1 rfl))) (fun ret10 w18 hR10=>?_)
   obtain ⟨r11,u11,f10,rfl,h,hr10,hf10,hB10⟩:=hR10
   refine⟨_,rfl,?_⟩
   replace hC:=hC.push hB10 (ZIm (Ya 162) r11 [u11] f10) hr10 hf10
   obtain ⟨ho10,hf11⟩:=Xf (hC.getM 0 rfl)
   subst hf11
   replace hC:=hC.recast (c:=own 162 9 u11 r11.terms.length (ZH9.encs r11.terms)) (fun _ h_=>h_) (fun _=>ho10)
   refine done (aK (by assumption) (Za 18 65535) (Zu 16 (by decide) (by decide) (by kernel_rfl) (by kernel_rfl) rfl ?_))
   refine Zg [.agg #[v10],.agg #[u11],.int .i64 ((a2.terms.getD s10.2.toNat Zyt).factor)] _ ZI9 rfl rfl rfl (Zds (⟨s10.1⟩:ZIb) r11 ((a2.terms.getD s10.2.toNat Zyt).factor) h _ (Yq (Y2 (hC.getM 1 rfl))) (Yq (Y2 (hC.getM 0 rfl)))) (fun ret11 w19 hR11=>?_)
   obtain ⟨r10,u10,f11,rfl,h,hr11,hf12,hB11⟩:=hR11
   refine⟨_,rfl,?_⟩
   replace hC:=hC.push hB11 (ZIm (Ya 162) r10 [u10] f11) hr11 hf12
   obtain ⟨ho11,hf13⟩:=Xf (hC.getM 0 rfl)
   subst hf13
   replace hC:=hC.recast (c:=own 162 9 u10 r10.terms.length (ZH9.encs r10.terms)) (fun _ h_=>h_) (fun _=>ho11)
   refine Zw (v:=.agg #[u10]) hC 3 [u10] [u10] rfl ag55.size rfl rfl rfl rfl (Y6 (Xn (hC.getM 0 rfl)) rfl) (ZIc rfl) rfl fun w20 hC=>done (Zv (Zs (Zd (Zh (Zb (v:=.int .i64 s10.2) rfl (Zq rfl rfl (Zc (v:=.int .i64 (ZA7.wrap (s10.2+1))) rfl (done ?_))))))))
   replace hC:=hC.sM [0,3,4,5,6,7] (M':=[own 162 9 u10 r10.terms.length (ZH9.encs r10.terms),blk b14 55 [u10],blk b13 55 [.slice none 0 0],blk b10 55 [u2_0],blk b12 77 [.int .i64 a1.drop,u1_1],blk b11 32 [u0_0,u0_1]]) (by decide) rfl
   exact hK10 (r10.terms,ZA7.wrap (s10.2+1)) _ _ ⟨u10,(sl ⟨rfl,rfl,rfl,rfl,rfl,rfl,trivial⟩),hC⟩ h
  ·replace h:=Zk h (cf hb10)
   refine ZIr (Zj (Zj (Z9 ?_)))
   refine Zd (sr (Yy hC 1 [v10] rfl ag55 rfl rfl rfl (Zw (v:=.agg #[v10]) hC 2 [v10] [v10] rfl ag55.size rfl rfl rfl rfl (Y6 (Xn (hC.getM 0 rfl)) rfl) (ZIc rfl) rfl fun w21 hC=>dn (ZIi ?_))))
   refine Zp (fn:=Tryz.f161) rfl ?_ ⟨(⟨s10.1⟩:ZIb),v10,(ZI5 (Zzn v10)),rfl,h,(Za4 (Jr (hC.getM 0 rfl))),(X5 hC 0 rfl),hC.below⟩ (.inl rfl)
   exact Zag hC 2 rfl ag55 rfl rfl
 ·skip
  replace hC:=hC.pushNil 162 9
  exact⟨.slice none 0 0,(sl ⟨rfl,rfl,rfl,rfl,rfl,rfl,trivial⟩),hC⟩
def Zg9 (a0:Int) (a1:Int) (K:Int→Prop):Prop :=
 (if Zyy (ZA7.wrap (a0 * a1)) 2≠0 then K 1 else K 10006)
theorem Zwf (a0:Int) (a1:Int)  {K:Int→Prop} (h:Zg9 a0 a1 K) (w0:World)  :
  Calls ZId 162 #[.int .i64 a0,.int .i64 a1] w0 fun e w'=>∃ (r0:Int),
   e=.returned (.int .i64 r0)∧K r0∧Bel w0 w':=by
 unfold Zg9 at h
 refine Z4 (args:=[.int .i64 a0,.int .i64 a1]) Tryz.func162 rfl 10 Tryz.ntmps162 (ZIc rfl) ?_
 have hC:=ZIt (X:=Nox) w0 [] (by simp)
 refine sr (Zc (v:=.int .i64 0) rfl (dn (ZIa (sr (Zb (v:=.int .i64 a0) rfl (Zb (v:=.int .i64 a1) rfl (Ju rfl rfl (X0 rfl rfl (by decide) (Xl rfl rfl (dn ?_))))))))))
 refine Zr rfl (fun hb1=>?_) (fun hb1=>?_)
 ·replace h:=ift h (ct hb1)
  refine sr (Zc (v:=.int .i64 1) rfl (dn ?_))
  refine ZIi (Zo ?_)
  refine Zp (fn:=Tryz.f162) rfl ?_ ⟨1,rfl,h,hC.below⟩ (.inl rfl)
  exact Zi rfl
 ·replace h:=Zk h (cf hb1)
  refine ZIe (Zd (sr (Zc (v:=.int .i64 10006) rfl (dn (ZIi ?_)))))
  refine Zp (fn:=Tryz.f162) rfl ?_ ⟨10006,rfl,h,hC.below⟩ (.inl rfl)
  exact Zi rfl
def Zha (a0:Alg) (a1:Der) (K:Der→Prop):Prop :=
 Xj (fun (s10:(List ZIb)×Int) nx10=>(if s10.2 < (a1.images.length:Int) then((0≤s10.2∧s10.2 < (a1.images.length:Int))∧((0≤s10.2∧s10.2 < (a0.images.length:Int))∧Zeo a0 (a1.images.getD s10.2.toNat Zyt) (fun r11=>Zg8 a0 a1 (a0.images.getD s10.2.toNat Zyt) (fun r12=>Zg9 a1.drop 1 (fun r13=>Zah r11 r12 r13 (fun r10=>(Yo (s10.1.length+1) 24∧nx10 (s10.1++[r10],ZA7.wrap (s10.2+1))))))))) else K (⟨ZA7.wrap (a1.drop - 1),s10.1⟩:Der))) ([],0)
theorem Zwg (a0:Alg) (a1:Der) {u0_0:Value} {u0_1:Value} {u1_0:Value} {u1_1:Value} {fp0:List Nat} {fp1:List Nat} {K:Der→Prop} (h:Zha a0 a1 K) (w0:World) (q0:TAlg.rep a0 [u0_0,u0_1] fp0 w0) (q1:TDer.rep a1 [u1_0,u1_1] fp1 w0) :
  Calls ZId 105 #[.agg #[u0_0,u0_1],.agg #[u1_0,u1_1]] w0 fun e w'=>∃ (r0:Der) (z0_0:Value) (z0_1:Value) (fz0:List Nat),
   e=.returned (.agg #[z0_0,z0_1])∧K r0∧(ZIm (J5 162 55) r0 [z0_0,z0_1] fz0).holds w'∧(∀ b,b∈fz0→w0.heap.size≤b)∧Bel w0 w':=by
 unfold Zha at h
 refine Z4 (args:=[.agg #[u0_0,u0_1],.agg #[u1_0,u1_1]]) Tryz.func105 rfl 43 Tryz.ntmps105 (ZIc rfl) ?_
 have hC:=ZIt (X:=Nox) w0 [ZH7 TAlg a0 [u0_0,u0_1] fp0,ZH7 TDer a1 [u1_0,u1_1] fp1] (by simp only [Zyz,ZAt,or_false,forall_eq_or_imp,forall_eq]; exact⟨q0,q1⟩)
 have hp3:=(hC.getP 0 rfl)
 replace hC:=hC.derive 0 rfl (ZH7 ((EI .i64).ty.sl) a0.degrees [u0_0] fp0) (fun _=>(Yw hp3).1) (fun _ hb_=>hb_)
 replace hC:=hC.derive 1 rfl (ZH7 ZIo.sl a0.images [u0_1] fp0) (fun _=>(Yw hp3).2) (fun _ hb_=>hb_)
 have hp6:=(hC.getP 3 rfl)
 obtain rfl:=(Zb7 hp6).1
 replace hC:=hC.derive 3 rfl (ZH7 ZIo.sl a1.images [u1_1] fp1) (fun _=>(Zb7 hp6).2) (fun _ hb_=>hb_)
 refine sr (Yl (v:=.agg #[u0_0,u0_1]) hC [u0_0,u0_1] rfl rfl fun b8 w10 hB_ hC=>Yl (v:=.agg #[.int .i64 a1.drop,u1_1]) hC [.int .i64 a1.drop,u1_1] rfl rfl fun b10 w11 hB_ hC=>Yj hC [.int .i64 0,.slice none 0 0] z77 rfl fun b12 w12 hB_ hC=>dn (sr (Z6 0 ZSg rfl sc2.size rfl rfl (Z8 hC 1 (.int .i64 a1.drop) rfl sc2 rfl rfl (Jt rfl rfl (Jn [(0,.int .i64 (ZA7.wrap (a1.drop - 1)))] rfl (Zv0 (ZA7.wrap (a1.drop - 1))  _) (Yj hC [.int .i64 0,.slice none 0 0] z77 rfl fun b11 w13 hB_ hC=>Zw (v:=.agg #[.int .i64 (ZA7.wrap (a1.drop - 1)),.slice none 0 0]) hC 0 [.int .i64 (ZA7.wrap (a1.drop - 1)),.slice none 0 0] [.int .i64 (ZA7.wrap (a1.drop - 1)),.slice none 0 0] rfl ag77.size rfl rfl rfl rfl rfl (ZIc rfl) rfl fun w14 hC=>?_)))))))
 refine dn (ZIa (sr (Zc (v:=.int .i64 0) rfl (dn (ZIj ?_)))))
 refine X1 (S:=(List ZIb)×Int) _ (fun s10 e_ w_=>∃ (v10:Value),∃ (f10:List Nat),Z3 e_ [(2,.pointer (some ⟨b8,0,none⟩)),(3,.pointer (some ⟨b10,0,none⟩)),(4,.pointer (some ⟨b12,0,none⟩)),(5,.pointer (some ⟨b11,0,none⟩)),(6,.int .i64 s10.2)]∧Ctx Nox w0 w_ [ZIm (ZOd 55 (Ya 162)) s10.1 [v10] f10,blk b11 77 [.int .i64 (ZA7.wrap (a1.drop - 1)),v10],blk b12 77 [.int .i64 0,.slice none 0 0],blk b10 77 [.int .i64 a1.drop,u1_1],blk b8 32 [u0_0,u0_1]] [ZH7 ZIo.sl a1.images [u1_1] fp1,ZH7 ZIo.sl a0.images [u0_1] fp0,ZH7 ((EI .i64).ty.sl) a0.degrees [u0_0] fp0,ZH7 TAlg a0 [u0_0,u0_1] fp0,ZH7 TDer a1 [.int .i64 a1.drop,u1_1] fp1]) ?_ (s0:=([],0)) ?_ h
 ·clear hC h
  rintro s10 e_ w15 nx10 K10 ⟨v10,f10,hS_,hC⟩ h hK10
  rw [ue hS_]
  refine ZIa (sr (Zb (v:=.int .i64 s10.2) rfl (Z6 1 ZSg rfl sc30.size rfl rfl (Z8 hC 3 (u1_1) rfl sc30 rfl rfl ?_))))
  obtain ⟨Ad12,c10,hv12⟩:=Z1 (hC.getP 0 rfl)
  refine Zx ZIw (tr rfl hv12) (Zt rfl rfl (dn ?_))
  refine Zr rfl (fun hb10=>?_) (fun hb10=>?_)
  ·replace h:=ift h (ct hb10)
   refine ZIe (Zd (ZIa (ZIj ?_)))
   refine Yg 22 Ye [0,1,0,0,8,0,56,120,252,0,0,0,2048,0,14336,30720,65532,0,131072,524284,1048572,2097148,4194303,8388607,16777215] [1,2,4,6,7,9,10,12,14,15,18] [0,3,5,11,13,17] (by kernel_rfl) (by kernel_rfl) (by kernel_rfl) (fun hM10 hM11 w16 hB_=>?_)
   replace hC:=hC.grow hB_
   refine aF 0 (.pointer (some ⟨b11,1,none⟩)) rfl rfl (hM11 0 rfl) (rfl) (fun _=>by exact Z7 1 ZSg rfl sc30.size rfl rfl) (Za 25 1) (aL 1 (v10) rfl rfl (hM10 1 rfl) (rfl) (fun _ hB_=>by exact Z5 (hC.grow hB_) 1 (v10) rfl sc30 rfl rfl) (Za 25 3) (aL 2 (.agg #[u0_0,u0_1]) rfl rfl (hM10 2 rfl) (rfl) (fun _ hB_=>by exact Yv (hC.grow hB_) 4 [u0_0,u0_1] rfl ag32 rfl rfl rfl) (Za 25 7) (aF 3 (.pointer (some ⟨b10,1,none⟩)) rfl rfl (hM11 3 rfl) (rfl) (fun _=>by exact Z7 1 ZSg rfl sc30.size rfl rfl) (Za 25 15) (aL 4 (u1_1) rfl rfl (hM10 4 rfl) (rfl) (fun _ hB_=>by exact Z5 (hC.grow hB_) 3 (u1_1) rfl sc30 rfl rfl) (Za 25 31) (aF 5 (.int .i64 s10.2) rfl rfl (hM11 5 rfl) (rfl) (fun _=>by exact Zf (v:=.int .i64 s10.2) rfl) (Za 25 63) ?_)))))
   obtain ⟨⟨h10,h11⟩,h⟩:=h
   obtain ⟨Ad10,c11,hv10⟩:=Z0 (hC.getP 0 rfl) s10.2.toNat (show s10.2.toNat < a1.images.length by omega)
   refine aL 6 (.pointer (some (Ad10.add (s10.2.toNat * 1)))) rfl rfl (hM10 6 rfl) (rfl) (fun _ hB_=>by exact Yp (len:=a1.images.length) ZIw ag55.size (by exact tr rfl hv10) rfl h10 h11) (Za 25 127) ?_
   obtain ⟨cs_,hl10,hc10,hr10⟩:=Xs (hC.getP 0 rfl) hv10 s10.2.toNat (show s10.2.toNat < a1.images.length by omega)
   obtain ⟨u13,rfl⟩:=ZI4.1 hl10
   clear hl10
   rw [Xt _ _ (show s10.2.toNat < a1.images.length by omega)] at hr10
   have hp10:=hr10
   replace hC:=hC.derive 0 rfl (ZH7 ZH9.ty.sl ((a1.images.getD s10.2.toNat Zyt).terms) [u13] fp1) (fun _=>(Xi hp10)) (fun _ hb_=>hb_)
   refine aL 7 (.agg #[u13]) rfl rfl (hM10 7 rfl) (rfl) (fun _ hB_=>by exact X4 [u13] (Jz hB_ hc10) ag55 rfl rfl) (Za 25 255) (aL 9 (.agg #[u0_0,u0_1]) rfl rfl (hM10 9 rfl) (rfl) (fun _ hB_=>by exact Yv (hC.grow hB_) 4 [u0_0,u0_1] rfl ag32 rfl rfl rfl) (Za 25 767) (aL 10 (.agg #[.int .i64 a1.drop,u1_1]) rfl rfl (hM10 10 rfl) (rfl) (fun _ hB_=>by exact Yv (hC.grow hB_) 3 [.int .i64 a1.drop,u1_1] rfl ag77 rfl rfl rfl) (Za 25 1791) (aF 11 (.pointer (some ⟨b8,1,none⟩)) rfl rfl (hM11 11 rfl) (rfl) (fun _=>by exact Z7 1 ZIq rfl sc30.size rfl rfl) (Za 25 3839) (aL 12 (u0_1) rfl rfl (hM10 12 rfl) (rfl) (fun _ hB_=>by exact Z5 (hC.grow hB_) 4 (u0_1) rfl sc30 rfl rfl) (Za 25 7935) (aF 13 (.int .i64 s10.2) rfl rfl (hM11 13 rfl) (rfl) (fun _=>by exact Zf (v:=.int .i64 s10.2) rfl) (Za 25 16127) ?_)))))
   obtain ⟨⟨h12,h13⟩,h⟩:=h
   obtain ⟨Ad11,c12,hv11⟩:=Z0 (hC.getP 2 rfl) s10.2.toNat (show s10.2.toNat < a0.images.length by omega)
   refine aL 14 (.pointer (some (Ad11.add (s10.2.toNat * 1)))) rfl rfl (hM10 14 rfl) (rfl) (fun _ hB_=>by exact Yp (len:=a0.images.length) ZIw ag55.size (by exact tr rfl hv11) rfl h12 h13) (Za 25 32511) ?_
   obtain ⟨cs_,hl11,hc11,hr11⟩:=Xs (hC.getP 2 rfl) hv11 s10.2.toNat (show s10.2.toNat < a0.images.length by omega)
   obtain ⟨u14,rfl⟩:=ZI4.1 hl11
   clear hl11
   rw [Xt _ _ (show s10.2.toNat < a0.images.length by omega)] at hr11
   have hp11:=hr11
   replace hC:=hC.derive 2 rfl (ZH7 ZH9.ty.sl ((a0.images.getD s10.2.toNat Zyt).terms) [u14] fp0) (fun _=>(Xi hp11)) (fun _ hb_=>hb_)
   refine aL 15 (.agg #[u14]) rfl rfl (hM10 15 rfl) (rfl) (fun _ hB_=>by exact X4 [u14] (Jz hB_ hc11) ag55 rfl rfl) (Za 25 65279) (aF 17 (.pointer (some ⟨b10,0,none⟩)) rfl rfl (hM11 17 rfl) (rfl) (fun _=>by exact Z7 0 ZSg rfl sc2.size rfl rfl) (Za 25 196351) (aL 18 (.int .i64 a1.drop) rfl rfl (hM10 18 rfl) (rfl) (fun _ hB_=>by exact Z5 (hC.grow hB_) 3 (.int .i64 a1.drop) rfl sc2 rfl rfl) (Za 25 458495) (aO 8 rfl ?_)))
   refine Zg [.agg #[u0_0,u0_1],.agg #[u13]] _ Tryz.func71 rfl rfl rfl (Znw a0 (a1.images.getD s10.2.toNat Zyt) h _ (Xy (hC.getP 4 rfl) (hC.getP 3 rfl)) (Yq (hC.getP 1 rfl))) (fun ret10 w17 hR10=>?_)
   obtain ⟨r11,u11,f12,rfl,h,hr12,hf10,hB10⟩:=hR10
   refine⟨_,rfl,?_⟩
   replace hC:=hC.push hB10 (ZIm (Ya 162) r11 [u11] f12) hr12 hf10
   obtain ⟨ho10,hf11⟩:=Xf (hC.getM 0 rfl)
   subst hf11
   replace hC:=hC.recast (c:=own 162 9 u11 r11.terms.length (ZH9.encs r11.terms)) (fun _ h_=>h_) (fun _=>ho10)
   refine done (aK (by assumption) (Za 25 458751) (aO 16 rfl ?_))
   refine Zg [.agg #[u0_0,u0_1],.agg #[.int .i64 a1.drop,u1_1],.agg #[u14]] _ Tryz.func161 rfl rfl rfl (Zwe a0 a1 (a0.images.getD s10.2.toNat Zyt) h _ (Xy (hC.getP 4 rfl) (hC.getP 3 rfl)) (Zh4 (hC.getP 2 rfl)) (Yq (hC.getP 0 rfl))) (fun ret11 w18 hR11=>?_)
   obtain ⟨r12,u12,f13,rfl,h,hr13,hf12,hB11⟩:=hR11
   refine⟨_,rfl,?_⟩
   replace hC:=hC.push hB11 (ZIm (Ya 162) r12 [u12] f13) hr13 hf12
   obtain ⟨ho11,hf13⟩:=Xf (hC.getM 0 rfl)
   subst hf13
   replace hC:=hC.recast (c:=own 162 9 u12 r12.terms.length (ZH9.encs r12.terms)) (fun _ h_=>h_) (fun _=>ho11)
   refine done (aK (by assumption) (Za 25 524287) (aO 19 rfl ?_))
   refine Zg [.int .i64 a1.drop,.int .i64 1] _ Tryz.func162 rfl rfl rfl (Zwf a1.drop 1 h _) (fun ret12 w19 hR12=>?_)
   obtain ⟨r13,rfl,h,hB12⟩:=hR12
   refine⟨_,rfl,?_⟩
   replace hC:=hC.grow hB12
   refine done (aK (by assumption) (Za 25 1048575) (aO 20 rfl ?_))
   refine Zg [.agg #[u11],.agg #[u12],.int .i64 r13] _ ZI9 rfl rfl rfl (Zds r11 r12 r13 h _ (Yq (Y2 (hC.getM 1 rfl))) (Yq (Y2 (hC.getM 0 rfl)))) (fun ret13 w20 hR13=>?_)
   obtain ⟨r10,u10,f14,rfl,h,hr14,hf14,hB13⟩:=hR13
   refine⟨_,rfl,?_⟩
   replace hC:=hC.push hB13 (ZIm (Ya 162) r10 [u10] f14) hr14 hf14
   obtain ⟨ho12,hf15⟩:=Xf (hC.getM 0 rfl)
   subst hf15
   replace hC:=hC.recast (c:=own 162 9 u10 r10.terms.length (ZH9.encs r10.terms)) (fun _ h_=>h_) (fun _=>ho12)
   refine done (aK (by assumption) (Za 25 2097151) (aO 21 rfl (Xr (sz:=1) hC [(0,.agg #[u10])] [u10] rfl (fun _=>Zv1 u10 (Zfx (hC.getM 0 rfl)) _) rfl (by decide) fun b13 w21 hB_ hC=>?_)))
   replace hC:=hC.pushM0 (Ym (Ya 162) [] [] []) (Za5 _ _) rfl
   replace hC:=hC.sM [2,0,1,3,4,5,6,7,8,9] (M':=[own 162 9 u10 r10.terms.length (ZH9.encs r10.terms),Ym (Ya 162) [] [] [],own 55 1 (.slice (some ⟨b13,0,none⟩) 1 1) 1 [u10],own 162 9 u12 r12.terms.length (ZH9.encs r12.terms),own 162 9 u11 r11.terms.length (ZH9.encs r11.terms),ZIm (ZOd 55 (Ya 162)) s10.1 [v10] f10,blk b11 77 [.int .i64 (ZA7.wrap (a1.drop - 1)),v10],blk b12 77 [.int .i64 0,.slice none 0 0],blk b10 77 [.int .i64 a1.drop,u1_1],blk b8 32 [u0_0,u0_1]]) (by decide) rfl
   replace hC:=hC.gather (c:=Ym (Ya 162) [r10] [u10] [(ZI5 (Zzn u10))]) (fun x_ hx_=>Zc5 hx_) (fun h1_ h2_ hd_=>Zcq (c:=[u10]) (Za4 (Jr h1_)) h2_ hd_)
   replace hC:=hC.sM [1,0,2,3,4,5,6,7,8] (M':=[own 55 1 (.slice (some ⟨b13,0,none⟩) 1 1) 1 [u10],Ym (Ya 162) [r10] [u10] [(ZI5 (Zzn u10))],own 162 9 u12 r12.terms.length (ZH9.encs r12.terms),own 162 9 u11 r11.terms.length (ZH9.encs r11.terms),ZIm (ZOd 55 (Ya 162)) s10.1 [v10] f10,blk b11 77 [.int .i64 (ZA7.wrap (a1.drop - 1)),v10],blk b12 77 [.int .i64 0,.slice none 0 0],blk b10 77 [.int .i64 a1.drop,u1_1],blk b8 32 [u0_0,u0_1]]) (by decide) rfl
   replace hC:=hC.gather (c:=ZIm (ZOd 55 (Ya 162)) [r10] [.slice (some ⟨b13,0,none⟩) 1 1] ((ZI5 (Zzn (.slice (some ⟨b13,0,none⟩) 1 1)))++([(ZI5 (Zzn u10))]:List (List Nat)).flatten)) (fun x_ hx_=>Zzu.1 hx_) (fun h1_ h2_ hd_=>Zal h1_ h2_ hd_)
   refine done (aK (by assumption) (Za 25 4194303) (Zu 22 (by decide) (by decide) (by kernel_rfl) (by kernel_rfl) rfl ?_))
   replace hC:=hC.sM [3,0,1,2,4,5,6,7] (M':=[ZIm (ZOd 55 (Ya 162)) s10.1 [v10] f10,ZIm (ZOd 55 (Ya 162)) [r10] [.slice (some ⟨b13,0,none⟩) 1 1] ((ZI5 (Zzn (.slice (some ⟨b13,0,none⟩) 1 1)))++([(ZI5 (Zzn u10))]:List (List Nat)).flatten),own 162 9 u12 r12.terms.length (ZH9.encs r12.terms),own 162 9 u11 r11.terms.length (ZH9.encs r11.terms),blk b11 77 [.int .i64 (ZA7.wrap (a1.drop - 1)),v10],blk b12 77 [.int .i64 0,.slice none 0 0],blk b10 77 [.int .i64 a1.drop,u1_1],blk b8 32 [u0_0,u0_1]]) (by decide) rfl
   obtain ⟨hm10,h⟩:=h
   refine Zc4 hC ZIw Zkz rfl (by decide) (by decide) rfl rfl hm10 fun v11 f11 w22 hC=>Z6 1 ZSg rfl sc30.size rfl rfl (Zw (v:=v11) hC 3 [v11] [.int .i64 (ZA7.wrap (a1.drop - 1)),v11] rfl sc30.size rfl rfl (Zff (ZSk _ (hC.getM 0 rfl).1)) rfl (Y6 (Zbw (ZSk _ (hC.getM 0 rfl).1)) rfl) (ZIc rfl) rfl fun w23 hC=>done (Zv (Zs (Zd (Zh (Zb (v:=.int .i64 s10.2) rfl (Zq rfl rfl (Zc (v:=.int .i64 (ZA7.wrap (s10.2+1))) rfl (done ?_)))))))))
   replace hC:=hC.sM [0,3,4,5,6] (M':=[ZIm (ZOd 55 (Ya 162)) (s10.1++[r10]) [v11] f11,blk b11 77 [.int .i64 (ZA7.wrap (a1.drop - 1)),v11],blk b12 77 [.int .i64 0,.slice none 0 0],blk b10 77 [.int .i64 a1.drop,u1_1],blk b8 32 [u0_0,u0_1]]) (by decide) rfl
   replace hC:=hC.sP [2,3,4,5,6] (Ps':=[ZH7 ZIo.sl a1.images [u1_1] fp1,ZH7 ZIo.sl a0.images [u0_1] fp0,ZH7 ((EI .i64).ty.sl) a0.degrees [u0_0] fp0,ZH7 TAlg a0 [u0_0,u0_1] fp0,ZH7 TDer a1 [.int .i64 a1.drop,u1_1] fp1]) rfl
   exact hK10 (s10.1++[r10],ZA7.wrap (s10.2+1)) _ _ ⟨v11,f11,(sl ⟨rfl,rfl,rfl,rfl,rfl,trivial⟩),hC⟩ h
  ·replace h:=Zk h (cf hb10)
   refine ZIr (Zj (Zj (Z9 ?_)))
   refine Zd (sr (Yy hC 1 [.int .i64 (ZA7.wrap (a1.drop - 1)),v10] rfl ag77 rfl rfl rfl (Zw (v:=.agg #[.int .i64 (ZA7.wrap (a1.drop - 1)),v10]) hC 2 [.int .i64 (ZA7.wrap (a1.drop - 1)),v10] [.int .i64 (ZA7.wrap (a1.drop - 1)),v10] rfl ag77.size rfl rfl rfl rfl (Y6 rfl (Y6 (Zbw (ZSk _ (hC.getM 0 rfl).1)) rfl)) (ZIc rfl) rfl fun w24 hC=>dn (ZIi ?_))))
   refine Zp (fn:=Tryz.f105) rfl ?_ ⟨(⟨ZA7.wrap (a1.drop - 1),s10.1⟩:Der),.int .i64 (ZA7.wrap (a1.drop - 1)),v10,f10,rfl,h,(Zof (hC.getM 0 rfl)),(Zbl hC 0 rfl),hC.below⟩ (.inl rfl)
   exact Zag hC 2 rfl ag77 rfl rfl
 ·skip
  replace hC:=hC.pushM0 (ZIm (ZOd 55 (Ya 162)) [] [.slice none 0 0] []) (Zbz _ _ _) rfl
  exact⟨.slice none 0 0,[],(sl ⟨rfl,rfl,rfl,rfl,rfl,trivial⟩),hC⟩
def Zex (a0:Alg) (a1:Int) (K:List (List Int)→Prop):Prop :=
 Zg4 a0 a1 (fun r10=>Yt (fun i10 (s10:(List (List Int))) nx10=>Zha (⟨a0.degrees,a0.images⟩:Alg) (r10.getD i10 Zyt) (fun r12=>Zg6 (⟨a0.degrees,a0.images⟩:Alg) r12 (fun r11=>(Yo (s10.length+1) 24∧nx10 (s10++[r11]))))) (fun (s10:(List (List Int)))=>K s10) r10.length 0 [])
theorem Zot (a0:Alg) (a1:Int) {u0_0:Value} {u0_1:Value} {fp0:List Nat} {K:List (List Int)→Prop} (h:Zex a0 a1 K) (w0:World) (q0:TAlg.rep a0 [u0_0,u0_1] fp0 w0) :
  Calls ZId 54 #[.agg #[u0_0,u0_1],.int .i64 a1] w0 fun e w'=>∃ (r0:List (List Int)) (z0_0:Value) (fz0:List Nat),
   e=.returned (z0_0)∧K r0∧(ZIm (ZOd 22 (ZOd 2 ((EI .i64).tr))) r0 [z0_0] fz0).holds w'∧(∀ b,b∈fz0→w0.heap.size≤b)∧Bel w0 w':=by
 unfold Zex at h
 refine Z4 (args:=[.agg #[u0_0,u0_1],.int .i64 a1]) Tryz.func54 rfl 30 Tryz.ntmps54 (ZIc rfl) ?_
 have hC:=ZIt (X:=Nox) w0 [ZH7 TAlg a0 [u0_0,u0_1] fp0] (by simp only [Zyz,ZAt,or_false,forall_eq_or_imp,forall_eq]; exact q0)
 have hp2:=(hC.getP 0 rfl)
 replace hC:=hC.derive 0 rfl (ZH7 ((EI .i64).ty.sl) a0.degrees [u0_0] fp0) (fun _=>(Yw hp2).1) (fun _ hb_=>hb_)
 replace hC:=hC.derive 1 rfl (ZH7 ZIo.sl a0.images [u0_1] fp0) (fun _=>(Yw hp2).2) (fun _ hb_=>hb_)
 refine sr (Yl (v:=.agg #[u0_0,u0_1]) hC [u0_0,u0_1] rfl rfl fun b5 w7 hB_ hC=>Zc (v:=.slice none 0 0) rfl (dn (sr (Yy hC 0 [u0_0,u0_1] rfl ag32 rfl rfl rfl (Zb (v:=.int .i64 a1) rfl ?_)))))
 refine Zg [.agg #[u0_0,u0_1],.int .i64 a1] _ Tryz.func40 rfl rfl rfl (Zwa a0 a1 h _ (Xy (hC.getP 1 rfl) (hC.getP 0 rfl))) (fun ret8 w10 hR9=>?_)
 obtain ⟨r10,u11,f11,rfl,h,hr11,hf10,hB10⟩:=hR9
 refine⟨_,rfl,?_⟩
 replace hC:=hC.push hB10 (ZIm (ZOd 77 (J5 162 55)) r10 [u11] f11) hr11 hf10
 refine Xr (sz:=1) hC [] [] rfl (fun _=>Zg2 _) rfl (by decide) fun b11 w11 hB_ hC=>?_
 replace hC:=hC.pushM0 (Ym (ZOd 2 ((EI .i64).tr)) ([]:List (List Int)) [] []) (Za5 _ _) rfl
 replace hC:=hC.gather (c:=ZIm (ZOd 22 (ZOd 2 ((EI .i64).tr))) [] [.slice (some ⟨b11,0,none⟩) 0 0] ((ZI5 (Zzn (.slice (some ⟨b11,0,none⟩) 0 0)))++([]:List (List Nat)).flatten)) (fun x_ hx_=>(Zzu.1 hx_).symm) (fun h1_ h2_ hd_=>Zal h2_ h1_ (fun b_ hb_ hb2_=>hd_ b_ hb2_ hb_))
 refine Zc (v:=u11) rfl (Zc (v:=.slice (some ⟨b11,0,none⟩) 0 0) rfl (dn (ZIa (sr (Zc (v:=.int .i64 0) rfl (dn (ZIj ?_)))))))
 have hs10:=Zbl hC 1 rfl
 replace hC:=hC.thaw 1 rfl (ZH7 TDer.sl r10 [u11] f11) (fun h_=>ZSk _ h_.1) (fun _ hb_=>hb_)
 have hN10:r10.length≤9223372036854775807:=Xp (hC.getP 0 rfl)
 refine Y9 (S:=(List (List Int))) _ _ (fun i10 s10 e_ w_=>∃ (v10:Value),∃ (f10:List Nat),Z3 e_ [(2,.pointer (some ⟨b5,0,none⟩)),(5,u11),(6,v10),(7,.int .i64 (i10:Int))]∧Ctx Nox w0 w_ [ZIm (ZOd 22 (ZOd 2 ((EI .i64).tr))) s10 [v10] f10,blk b5 32 [u0_0,u0_1]] [ZH7 TDer.sl r10 [u11] f11,ZH7 ZIo.sl a0.images [u0_1] fp0,ZH7 ((EI .i64).ty.sl) a0.degrees [u0_0] fp0,ZH7 TAlg a0 [u0_0,u0_1] fp0]) r10.length ?_ ?_ (s0:=[]) ?_ h
 ·clear hC h
  rintro i10 s10 e_ w12 nx10 K10 hi10 ⟨v10,f10,hS_,hC⟩ h hK10
  rw [ue hS_]
  refine ZIa (sr (Zb (v:=.int .i64 (i10:Int)) rfl (Zb (v:=u11) rfl ?_)))
  obtain ⟨Ad11,c10,hv11⟩:=Z1 (hC.getP 0 rfl)
  refine Zx ZSt (tr rfl hv11) (Zt rfl rfl (dn (Yr rfl (decide_eq_true (by omega)) (ZIe (Zd (ZIa (ZIj ?_)))))))
  refine Yg 10 Ye [0,0,0,0,0,24,56,124,254,510,1023,2047] [1,2,5,6] [0,3,4] (by kernel_rfl) (by kernel_rfl) (by kernel_rfl) (fun hM10 hM11 w13 hB_=>?_)
  replace hC:=hC.grow hB_
  refine aF 0 (v10) rfl rfl (hM11 0 rfl) (rfl) (fun _=>by exact Zf (v:=v10) rfl) (Za 12 1) (aL 1 (.agg #[u0_0,u0_1]) rfl rfl (hM10 1 rfl) (rfl) (fun _ hB_=>by exact Yv (hC.grow hB_) 1 [u0_0,u0_1] rfl ag32 rfl rfl rfl) (Za 12 3) (aL 2 (.agg #[u0_0,u0_1]) rfl rfl (hM10 2 rfl) (rfl) (fun _ hB_=>by exact Yv (hC.grow hB_) 1 [u0_0,u0_1] rfl ag32 rfl rfl rfl) (Za 12 7) (aF 3 (u11) rfl rfl (hM11 3 rfl) (rfl) (fun _=>by exact Zf (v:=u11) rfl) (Za 12 15) (aF 4 (.int .i64 (i10:Int)) rfl rfl (hM11 4 rfl) (rfl) (fun _=>by exact Zf (v:=.int .i64 (i10:Int)) rfl) (Za 12 31) ?_))))
  obtain ⟨Ad10,c11,hv10⟩:=Z0 (hC.getP 0 rfl) i10 hi10
  refine aL 5 (.pointer (some (Ad10.add (i10 * 2)))) rfl rfl (hM10 5 rfl) (rfl) (fun _ hB_=>by exact Yp (len:=r10.length) ZSt ag77.size (by exact tr rfl hv10) rfl (ZIv _) (ZJi.2 hi10)) (Za 12 63) ?_
  obtain ⟨cs_,hl10,hc10,hr10⟩:=Xs (hC.getP 0 rfl) hv10 i10 hi10
  obtain ⟨u15,u13,rfl⟩:=Zmx hl10
  clear hl10
  rw [Xt _ _ hi10] at hr10
  have hp10:=hr10
  obtain rfl:=(Zb7 hp10).1
  replace hC:=hC.derive 0 rfl (ZH7 ZIo.sl ((r10.getD i10 Zyt).images) [u13] f11) (fun _=>(Zb7 hp10).2) (fun _ hb_=>hb_)
  refine aL 6 (.agg #[.int .i64 ((r10.getD i10 Zyt).drop),u13]) rfl rfl (hM10 6 rfl) (rfl) (fun _ hB_=>by exact X4 [.int .i64 ((r10.getD i10 Zyt).drop),u13] (Jz hB_ hc10) ag77 rfl rfl) (Za 12 127) (aO 7 rfl ?_)
  refine Zg [.agg #[u0_0,u0_1],.agg #[.int .i64 ((r10.getD i10 Zyt).drop),u13]] _ Tryz.func105 rfl rfl rfl (Zwg (⟨a0.degrees,a0.images⟩:Alg) (r10.getD i10 Zyt) h _ (Xy (hC.getP 3 rfl) (hC.getP 2 rfl)) (Zh4 (hC.getP 0 rfl))) (fun ret10 w14 hR10=>?_)
  obtain ⟨r12,u14,u12,f12,rfl,h,hr12,hf11,hB11⟩:=hR10
  refine⟨_,rfl,?_⟩
  replace hC:=hC.push hB11 (ZIm (J5 162 55) r12 [u14,u12] f12) hr12 hf11
  obtain ⟨rfl,ho10⟩:=Zu4 (hC.getM 0 rfl)
  replace hC:=hC.recast (c:=ZIm (ZOd 55 (Ya 162)) r12.images [u12] f12) (fun _ h_=>h_) (fun _=>ho10)
  refine done (aK (by assumption) (Za 12 255) (aO 8 rfl ?_))
  refine Zg [.agg #[u0_0,u0_1],.agg #[.int .i64 r12.drop,u12]] _ Tryz.func104 rfl rfl rfl (Zwc (⟨a0.degrees,a0.images⟩:Alg) r12 h _ (Xy (hC.getP 3 rfl) (hC.getP 2 rfl)) (Zh4 (ZSk _ (hC.getM 0 rfl).1))) (fun ret11 w15 hR11=>?_)
  obtain ⟨r11,u10,f14,rfl,h,hr13,hf12,hB12⟩:=hR11
  refine⟨_,rfl,?_⟩
  replace hC:=hC.push hB12 (ZIm (ZOd 2 ((EI .i64).tr)) r11 [u10] f14) hr13 hf12
  obtain ⟨ho11,hf13⟩:=Zac (hC.getM 0 rfl).1
  subst hf13
  replace hC:=hC.recast (c:=own 2 1 u10 r11.length ((EI .i64).encs r11)) (fun _ h_=>h_) (fun _=>ho11)
  refine done (aK (by assumption) (Za 12 511) (aO 9 rfl (Xr (sz:=1) hC [(0,u10)] [u10] rfl (fun _=>Zc9 u10 (Zfx (hC.getM 0 rfl)) _) rfl (by decide) fun b10 w16 hB_ hC=>?_)))
  replace hC:=hC.pushM0 (Ym (ZOd 2 ((EI .i64).tr)) [] [] []) (Za5 _ _) rfl
  replace hC:=hC.sM [2,0,1,3,4,5] (M':=[own 2 1 u10 r11.length ((EI .i64).encs r11),Ym (ZOd 2 ((EI .i64).tr)) [] [] [],own 22 1 (.slice (some ⟨b10,0,none⟩) 1 1) 1 [u10],ZIm (ZOd 55 (Ya 162)) r12.images [u12] f12,ZIm (ZOd 22 (ZOd 2 ((EI .i64).tr))) s10 [v10] f10,blk b5 32 [u0_0,u0_1]]) (by decide) rfl
  replace hC:=hC.gather (c:=Ym (ZOd 2 ((EI .i64).tr)) [r11] [u10] [(ZI5 (Zzn u10))]) (fun x_ hx_=>Zc5 hx_) (fun h1_ h2_ hd_=>Zcq (c:=[u10]) (id (Jr h1_)) h2_ hd_)
  replace hC:=hC.sM [1,0,2,3,4] (M':=[own 22 1 (.slice (some ⟨b10,0,none⟩) 1 1) 1 [u10],Ym (ZOd 2 ((EI .i64).tr)) [r11] [u10] [(ZI5 (Zzn u10))],ZIm (ZOd 55 (Ya 162)) r12.images [u12] f12,ZIm (ZOd 22 (ZOd 2 ((EI .i64).tr))) s10 [v10] f10,blk b5 32 [u0_0,u0_1]]) (by decide) rfl
  replace hC:=hC.gather (c:=ZIm (ZOd 22 (ZOd 2 ((EI .i64).tr))) [r11] [.slice (some ⟨b10,0,none⟩) 1 1] ((ZI5 (Zzn (.slice (some ⟨b10,0,none⟩) 1 1)))++([(ZI5 (Zzn u10))]:List (List Nat)).flatten)) (fun x_ hx_=>Zzu.1 hx_) (fun h1_ h2_ hd_=>Zal h1_ h2_ hd_)
  refine done (aK (by assumption) (Za 12 1023) (Zu 10 (by decide) (by decide) (by kernel_rfl) (by kernel_rfl) rfl ?_))
  replace hC:=hC.sM [2,0,1,3] (M':=[ZIm (ZOd 22 (ZOd 2 ((EI .i64).tr))) s10 [v10] f10,ZIm (ZOd 22 (ZOd 2 ((EI .i64).tr))) [r11] [.slice (some ⟨b10,0,none⟩) 1 1] ((ZI5 (Zzn (.slice (some ⟨b10,0,none⟩) 1 1)))++([(ZI5 (Zzn u10))]:List (List Nat)).flatten),ZIm (ZOd 55 (Ya 162)) r12.images [u12] f12,blk b5 32 [u0_0,u0_1]]) (by decide) rfl
  obtain ⟨hm10,h⟩:=h
  refine Zc4 hC ZSo Zda rfl (by decide) (by decide) rfl rfl hm10 fun v11 f13 w17 hC=>Zc (v:=v11) rfl (done (Zv (Zs (Zd (Zh (Zb (v:=.int .i64 (i10:Int)) rfl (Zq rfl rfl (Zc (v:=.int .i64 (ZA7.wrap ((i10:Int)+1))) rfl (done ?_)))))))))
  replace hC:=hC.sM [0,2] (M':=[ZIm (ZOd 22 (ZOd 2 ((EI .i64).tr))) (s10++[r11]) [v11] f13,blk b5 32 [u0_0,u0_1]]) (by decide) rfl
  replace hC:=hC.sP [1,2,3,4] (Ps':=[ZH7 TDer.sl r10 [u11] f11,ZH7 ZIo.sl a0.images [u0_1] fp0,ZH7 ((EI .i64).ty.sl) a0.degrees [u0_0] fp0,ZH7 TAlg a0 [u0_0,u0_1] fp0]) rfl
  exact hK10 (s10++[r11]) _ _ ⟨v11,f13,(sl ⟨rfl,rfl,rfl,(tr rfl (congrArg _ (Yh hi10 hN10))),trivial⟩),hC⟩ h
 ·clear hC h
  rintro s10 e_ w18 K10 ⟨v10,f10,hS_,hC⟩ h
  rw [ue hS_]
  refine ZIa (sr (Zb (v:=.int .i64 (r10.length:Int)) rfl (Zb (v:=u11) rfl ?_)))
  obtain ⟨Ad12,c12,hv12⟩:=Z1 (hC.getP 0 rfl)
  refine Zx ZSt (tr rfl hv12) (Zt rfl rfl (dn (Yi rfl (decide_eq_false (by omega)) ?_)))
  refine ZIr (Zj (Zj (Z9 ?_)))
  refine Zd (sr (Zb (v:=v10) rfl (Zc (v:=v10) rfl (dn (ZIi ?_)))))
  refine Zp (fn:=Tryz.f54) rfl ?_ ⟨s10,v10,f10,rfl,h,(hC.getM 0 rfl),(Zbl hC 0 rfl),hC.below⟩ (.inl rfl)
  exact Zi rfl
 ·skip
  exact⟨.slice (some ⟨b11,0,none⟩) 0 0,((ZI5 (Zzn (.slice (some ⟨b11,0,none⟩) 0 0)))++([]:List (List Nat)).flatten),(sl ⟨rfl,rfl,rfl,rfl,trivial⟩),hC⟩
def Zbp (a0:List Int) (K:Int→Prop):Prop :=
 Yt (fun i10 (s10:Unit) nx10=>(if a0.getD i10 Zyt≠0 then K (i10:Int) else nx10 ())) (fun (s10:Unit)=>K (-1)) a0.length 0 ()
theorem Zlo (a0:List Int) {u0_0:Value} {fp0:List Nat} {K:Int→Prop} (h:Zbp a0 K) (w0:World) (q0:((EI .i64).ty.sl).rep a0 [u0_0] fp0 w0) :
  Calls ZId 126 #[u0_0] w0 fun e w'=>∃ (r0:Int),
   e=.returned (.int .i64 r0)∧K r0∧Bel w0 w':=by
 unfold Zbp at h
 refine Z4 (args:=[u0_0]) Tryz.func126 rfl 16 Tryz.ntmps126 (ZIc rfl) ?_
 have hC:=ZIt (X:=Nox) w0 [ZH7 ((EI .i64).ty.sl) a0 [u0_0] fp0] (by simp only [Zyz,ZAt,or_false,forall_eq_or_imp,forall_eq]; exact q0)
 refine sr (Zc (v:=.int .i64 0) rfl (dn (ZIa (sr (Zc (v:=.int .i64 0) rfl (dn (ZIj ?_)))))))
 have hN10:a0.length≤9223372036854775807:=Xp (hC.getP 0 rfl)
 refine Y9 (S:=Unit) _ _ (fun i10 s10 e_ w_=>Z3 e_ [(0,u0_0),(3,.int .i64 (i10:Int))]∧Ctx Nox w0 w_ [] [ZH7 ((EI .i64).ty.sl) a0 [u0_0] fp0]) a0.length ?_ ?_ (s0:=()) ?_ h
 ·clear hC h
  rintro i10 s10 e_ w10 nx10 K10 hi10 ⟨hS_,hC⟩ h hK10
  rw [ue hS_]
  refine ZIa (sr (Zb (v:=.int .i64 (i10:Int)) rfl (Zb (v:=u0_0) rfl ?_)))
  obtain ⟨Ad10,c10,hv11⟩:=Z1 (hC.getP 0 rfl)
  refine Zx ZIs (tr rfl hv11) (Zt rfl rfl (dn (Yr rfl (decide_eq_true (by omega)) (ZIe (Zd (ZIa (ZIj (sr (Zb (v:=u0_0) rfl (Zb (v:=.int .i64 (i10:Int)) rfl ?_))))))))))
  obtain ⟨Ad11,c11,hv10⟩:=Z0 (hC.getP 0 rfl) i10 hi10
  refine Xb (len:=a0.length) ZIs sc2.size (tr rfl hv10) rfl (ZIv _) (ZJi.2 hi10) (Xm (.int .i64 (a0.getD i10 Zyt)) (Yf (hC.getP 0 rfl) hv10 i10 hi10) sc2 rfl (Xl rfl rfl (dn ?_)))
  refine Zr rfl (fun hb10=>?_) (fun hb10=>?_)
  ·replace h:=ift h (ct hb10)
   refine sr (Zb (v:=.int .i64 (i10:Int)) rfl (Zc (v:=.int .i64 (i10:Int)) rfl (dn ?_)))
   refine ZIi (Yd (Zo (Zo (Yd (Zo ?_)))))
   refine Zp (fn:=Tryz.f126) rfl ?_ ⟨(i10:Int),rfl,h,hC.below⟩ (.inl rfl)
   exact Zi rfl
  ·replace h:=Zk h (cf hb10)
   refine ZIe (Zs (Zd (Zh (Zb (v:=.int .i64 (i10:Int)) rfl (Zq rfl rfl (Zc (v:=.int .i64 (ZA7.wrap ((i10:Int)+1))) rfl (done ?_)))))))
   exact hK10 () _ _ ⟨(sl ⟨rfl,(tr rfl (congrArg _ (Yh hi10 hN10))),trivial⟩),hC⟩ h
 ·clear hC h
  rintro s10 e_ w11 K10 ⟨hS_,hC⟩ h
  rw [ue hS_]
  refine ZIa (sr (Zb (v:=.int .i64 (a0.length:Int)) rfl (Zb (v:=u0_0) rfl ?_)))
  obtain ⟨Ad12,c12,hv12⟩:=Z1 (hC.getP 0 rfl)
  refine Zx ZIs (tr rfl hv12) (Zt rfl rfl (dn (Yi rfl (decide_eq_false (by omega)) ?_)))
  refine ZIr (Zj (Zj (Z9 ?_)))
  refine Zd (sr (Zc (v:=.int .i64 (-1)) rfl (dn (ZIi ?_))))
  refine Zp (fn:=Tryz.f126) rfl ?_ ⟨(-1),rfl,h,hC.below⟩ (.inl rfl)
  exact Zi rfl
 ·skip
  exact⟨(sl ⟨rfl,rfl,trivial⟩),hC⟩
def Js (a0:List Int) (a1:List Int) (a2:Int) (K:List Int→Prop):Prop :=
 ((0≤(a0.length:Int)∧(a0.length:Int) * 8≤281474976710656)∧Yt (fun i10 (s10:(List Int)) nx10=>((0≤(i10:Int)∧(i10:Int) < (a1.length:Int))∧Jh (ZA7.wrap ((a0.getD i10 Zyt) - (ZA7.wrap (a2 * (a1.getD i10 Zyt))))) (fun r10=>((0≤(i10:Int)∧(i10:Int) < (s10.length:Int))∧nx10 (s10.set i10 r10))))) (fun (s10:(List Int))=>K s10) a0.length 0 (Zy0 ((a0.length:Int).toNat) (0:Int)))
theorem Zd3 (a0:List Int) (a1:List Int) (a2:Int) {u0_0:Value} {u1_0:Value} {fp0:List Nat} {fp1:List Nat} {K:List Int→Prop} (h:Js a0 a1 a2 K) (w0:World) (q0:((EI .i64).ty.sl).rep a0 [u0_0] fp0 w0) (q1:((EI .i64).ty.sl).rep a1 [u1_0] fp1 w0) :
  Calls ZId 163 #[u0_0,u1_0,.int .i64 a2] w0 fun e w'=>∃ (r0:List Int) (z0_0:Value) (fz0:List Nat),
   e=.returned (z0_0)∧K r0∧(ZIm (ZOd 2 ((EI .i64).tr)) r0 [z0_0] fz0).holds w'∧(∀ b,b∈fz0→w0.heap.size≤b)∧Bel w0 w':=by
 unfold Js at h
 refine Z4 (args:=[u0_0,u1_0,.int .i64 a2]) Tryz.func163 rfl 34 Tryz.ntmps163 (ZIc rfl) ?_
 have hC:=ZIt (X:=Nox) w0 [ZH7 ((EI .i64).ty.sl) a0 [u0_0] fp0,ZH7 ((EI .i64).ty.sl) a1 [u1_0] fp1] (by simp only [Zyz,ZAt,or_false,forall_eq_or_imp,forall_eq]; exact⟨q0,q1⟩)
 refine sr (Zc (v:=.slice none 0 0) rfl (dn (sr (Zb (v:=u0_0) rfl ?_))))
 obtain ⟨Ad3,c4,hv5⟩:=Z1 (hC.getP 0 rfl)
 refine Zx ZIs (tr rfl hv5) ?_
 obtain ⟨hm8,h⟩:=h
 refine Zck (sz:=1) hC ((EI .i64).encs (Zy0 ((a0.length:Int).toNat) (0:Int))) ZIs el2 (tr rfl (congrArg (ZK4 .i64) (ZK5 hm8.1).symm)) (tr rfl (congrArg (ZK4 .i64) (ZK5 hm8.1).symm)) (by omega) (by omega) (Zcl (E:=(EI .i64)) _ _) fun v6 w7 hB_ hC=>?_
 replace hC:=Jg hC 0 ((Zy0 ((a0.length:Int).toNat) (0:Int)).length) ((EI .i64).encs (Zy0 ((a0.length:Int).toNat) (0:Int))) rfl (by simp) rfl
 refine Zc (v:=v6) rfl (dn (ZIa (sr (Zc (v:=.int .i64 0) rfl (dn (ZIj ?_))))))
 have hN10:a0.length≤9223372036854775807:=Xp (hC.getP 0 rfl)
 refine Y9 (S:=(List Int)) _ _ (fun i10 s10 e_ w_=>∃ (v10:Value),Z3 e_ [(0,u0_0),(1,u1_0),(2,.int .i64 a2),(7,v10),(8,.int .i64 (i10:Int))]∧Ctx Nox w0 w_ [own 2 1 v10 s10.length ((EI .i64).encs s10)] [ZH7 ((EI .i64).ty.sl) a0 [u0_0] fp0,ZH7 ((EI .i64).ty.sl) a1 [u1_0] fp1]) a0.length ?_ ?_ (s0:=(Zy0 ((a0.length:Int).toNat) (0:Int))) ?_ h
 ·clear hC h
  rintro i10 s10 e_ w10 nx10 K10 hi10 ⟨v10,hS_,hC⟩ h hK10
  rw [ue hS_]
  refine ZIa (sr (Zb (v:=.int .i64 (i10:Int)) rfl (Zb (v:=u0_0) rfl ?_)))
  obtain ⟨Ad12,c10,hv13⟩:=Z1 (hC.getP 0 rfl)
  refine Zx ZIs (tr rfl hv13) (Zt rfl rfl (dn (Yr rfl (decide_eq_true (by omega)) (ZIe (Zd (ZIa (ZIj ?_)))))))
  refine Yg 14 Ye [0,0,0,0,12,28,0,0,0,384,896,1984,4092,8188,16383,32767] [4,5,9,10] [0,1,2,3,6,7,8,11,12] (by kernel_rfl) (by kernel_rfl) (by kernel_rfl) (fun hM11 hM10 w11 hB_=>?_)
  replace hC:=hC.grow hB_
  refine aF 0 (v10) rfl rfl (hM10 0 rfl) (rfl) (fun _=>by exact Zf (v:=v10) rfl) (Za 16 1) (aF 1 (.int .i64 (i10:Int)) rfl rfl (hM10 1 rfl) (rfl) (fun _=>by exact Zf (v:=.int .i64 (i10:Int)) rfl) (Za 16 3) (aF 2 (u0_0) rfl rfl (hM10 2 rfl) (rfl) (fun _=>by exact Zf (v:=u0_0) rfl) (Za 16 7) (aF 3 (.int .i64 (i10:Int)) rfl rfl (hM10 3 rfl) (rfl) (fun _=>by exact Zf (v:=.int .i64 (i10:Int)) rfl) (Za 16 15) ?_)))
  obtain ⟨Ad10,c11,hv10⟩:=Z0 (hC.getP 0 rfl) i10 hi10
  refine aL 4 (.pointer (some (Ad10.add (i10 * 1)))) rfl rfl (hM11 4 rfl) (rfl) (fun _ hB_=>by exact Yp (len:=a0.length) ZIs sc2.size (by exact tr rfl hv10) rfl (ZIv _) (ZJi.2 hi10)) (Za 16 31) (aL 5 (.int .i64 (a0.getD i10 Zyt)) rfl rfl (hM11 5 rfl) (rfl) (fun _ hB_=>by exact Xc (.int .i64 (a0.getD i10 Zyt)) (Yf ((hC.grow hB_).getP 0 rfl) hv10 i10 hi10) sc2 rfl) (Za 16 63) (aF 6 (.int .i64 a2) rfl rfl (hM10 6 rfl) (rfl) (fun _=>by exact Zf (v:=.int .i64 a2) rfl) (Za 16 127) (aF 7 (u1_0) rfl rfl (hM10 7 rfl) (rfl) (fun _=>by exact Zf (v:=u1_0) rfl) (Za 16 255) (aF 8 (.int .i64 (i10:Int)) rfl rfl (hM10 8 rfl) (rfl) (fun _=>by exact Zf (v:=.int .i64 (i10:Int)) rfl) (Za 16 511) ?_))))
  obtain ⟨⟨h10,h11⟩,h⟩:=h
  obtain ⟨Ad11,c12,hv11⟩:=Z0 (hC.getP 1 rfl) i10 (show i10 < a1.length by omega)
  refine aL 9 (.pointer (some (Ad11.add (i10 * 1)))) rfl rfl (hM11 9 rfl) (rfl) (fun _ hB_=>by exact Yp (len:=a1.length) ZIs sc2.size (by exact tr rfl hv11) rfl h10 h11) (Za 16 1023) (aL 10 (.int .i64 (a1.getD i10 Zyt)) rfl rfl (hM11 10 rfl) (rfl) (fun _ hB_=>by exact Xc (.int .i64 (a1.getD i10 Zyt)) (Yf ((hC.grow hB_).getP 1 rfl) hv11 i10 (show i10 < a1.length by omega)) sc2 rfl) (Za 16 2047) (aF 11 (.int .i64 (ZA7.wrap (a2 * (a1.getD i10 Zyt)))) rfl rfl (hM10 11 rfl) (rfl) (fun _=>by exact Zbi rfl rfl) (Za 16 4095) (aF 12 (.int .i64 (ZA7.wrap ((a0.getD i10 Zyt) - (ZA7.wrap (a2 * (a1.getD i10 Zyt)))))) rfl rfl (hM10 12 rfl) (rfl) (fun _=>by exact Zci rfl rfl) (Za 16 8191) (aO 13 rfl ?_))))
  refine Zg [.int .i64 (ZA7.wrap ((a0.getD i10 Zyt) - (ZA7.wrap (a2 * (a1.getD i10 Zyt)))))] _ Tryz.func125 rfl rfl rfl (Zbn (ZA7.wrap ((a0.getD i10 Zyt) - (ZA7.wrap (a2 * (a1.getD i10 Zyt))))) h _) (fun ret10 w12 hR10=>?_)
  obtain ⟨r10,rfl,h,hB10⟩:=hR10
  refine⟨_,rfl,?_⟩
  replace hC:=hC.grow hB10
  refine done (aK (by assumption) (Za 16 16383) (Zu 14 (by decide) (by decide) (by kernel_rfl) (by kernel_rfl) rfl ?_))
  obtain ⟨⟨h12,h13⟩,h⟩:=h
  obtain ⟨Ad13,c13,hv12⟩:=Zai (hC.getM 0 rfl) (ZSs (ZAq _) (show i10 < s10.length by omega))
  refine Zao (i10 * 1) ZIs sc2.size (tr rfl hv12) rfl h12 h13 rfl (Zec (v:=.int .i64 r10) hC 0 [.int .i64 r10] ((EI .i64).encs (s10.set i10 r10)) rfl hv12 sc2.size rfl rfl rfl rfl rfl (by rw [Enc.encs_len]; exact Zbk (sz:=1) (show i10 < s10.length by omega)) (Zed _ _ _ (show i10 < s10.length by omega)) fun w13 hC=>?_)
  replace hC:=Jg hC 0 ((s10.set i10 r10).length) ((EI .i64).encs (s10.set i10 r10)) rfl (by simp) rfl
  refine done (Zv (Zs (Zd (Zh (Zb (v:=.int .i64 (i10:Int)) rfl (Zq rfl rfl (Zc (v:=.int .i64 (ZA7.wrap ((i10:Int)+1))) rfl (done ?_))))))))
  exact hK10 (s10.set i10 r10) _ _ ⟨v10,(sl ⟨rfl,rfl,rfl,rfl,(tr rfl (congrArg _ (Yh hi10 hN10))),trivial⟩),hC⟩ h
 ·clear hC h
  rintro s10 e_ w14 K10 ⟨v10,hS_,hC⟩ h
  rw [ue hS_]
  refine ZIa (sr (Zb (v:=.int .i64 (a0.length:Int)) rfl (Zb (v:=u0_0) rfl ?_)))
  obtain ⟨Ad14,c14,hv14⟩:=Z1 (hC.getP 0 rfl)
  refine Zx ZIs (tr rfl hv14) (Zt rfl rfl (dn (Yi rfl (decide_eq_false (by omega)) ?_)))
  refine ZIr (Zj (Zj (Z9 ?_)))
  refine Zd (sr (Zb (v:=v10) rfl (Zc (v:=v10) rfl (dn (ZIi ?_)))))
  refine Zp (fn:=Tryz.f163) rfl ?_ ⟨s10,v10,(ZI5 (Zzn v10)),rfl,h,(Jr (hC.getM 0 rfl)),(X5 hC 0 rfl),hC.below⟩ (.inl rfl)
  exact Zi rfl
 ·skip
  exact⟨v6,(sl ⟨rfl,rfl,rfl,rfl,rfl,trivial⟩),hC⟩
def Zhb (a0:List Int) (a1:List (List Int)) (K:List Int→Prop):Prop :=
 Yt (fun i10 (s10:(List Int)) nx10=>Zbp (a1.getD i10 Zyt) (fun r10=>((0≤r10∧r10 < (s10.length:Int))∧(if s10.getD r10.toNat Zyt≠0 then((0≤r10∧r10 < (s10.length:Int))∧Js s10 (a1.getD i10 Zyt) (s10.getD r10.toNat Zyt) (fun r11=>nx10 r11)) else nx10 s10)))) (fun (s10:(List Int))=>K s10) a1.length 0 a0
theorem Zwh (a0:List Int) (a1:List (List Int)) {u0_0:Value} {u1_0:Value} {fp0:List Nat} {fp1:List Nat} {K:List Int→Prop} (h:Zhb a0 a1 K) (w0:World) (q0:((EI .i64).ty.sl).rep a0 [u0_0] fp0 w0) (q1:(((EI .i64).ty.sl).sl).rep a1 [u1_0] fp1 w0) :
  Calls ZId 127 #[u0_0,u1_0] w0 fun e w'=>∃ (r0:List Int) (z0_0:Value) (fz0:List Nat),
   e=.returned (z0_0)∧K r0∧((EI .i64).ty.sl).rep r0 [z0_0] fz0 w'∧(∀ b,b∈fz0→w0.heap.size≤b∨b∈(fp0++(fp1)))∧Bel w0 w':=by
 unfold Zhb at h
 refine Z4 (args:=[u0_0,u1_0]) Tryz.func127 rfl 34 Tryz.ntmps127 (ZIc rfl) ?_
 have hC:=ZIt (X:=Nox) w0 [ZH7 ((EI .i64).ty.sl) a0 [u0_0] fp0,ZH7 (((EI .i64).ty.sl).sl) a1 [u1_0] fp1] (by simp only [Zyz,ZAt,or_false,forall_eq_or_imp,forall_eq]; exact⟨q0,q1⟩)
 refine sr (Zc (v:=.slice none 0 0) rfl (dn (ZIa (sr (Zc (v:=.int .i64 0) rfl (dn (ZIj ?_)))))))
 have hN10:a1.length≤9223372036854775807:=Xp (hC.getP 1 rfl)
 refine Y9 (S:=(List Int)) _ _ (fun i10 s10 e_ w_=>∃ (v10:Value),∃ (f10:List Nat),Z3 e_ [(0,v10),(1,u1_0),(5,.int .i64 (i10:Int))]∧(∀ b,b∈f10→w0.heap.size≤b∨b∈(fp0++(fp1)))∧Ctx Nox w0 w_ [] [ZH7 ((EI .i64).ty.sl) s10 [v10] f10,ZH7 ((EI .i64).ty.sl) a0 [u0_0] fp0,ZH7 (((EI .i64).ty.sl).sl) a1 [u1_0] fp1]) a1.length ?_ ?_ (s0:=a0) ?_ h
 ·clear hC h
  rintro i10 s10 e_ w10 nx10 K10 hi10 ⟨v10,f10,hS_,hq10,hC⟩ h hK10
  rw [ue hS_]
  refine ZIa (sr (Zb (v:=.int .i64 (i10:Int)) rfl (Zb (v:=u1_0) rfl ?_)))
  obtain ⟨Ad12,c10,hv14⟩:=Z1 (hC.getP 2 rfl)
  refine Zx ZSo (tr rfl hv14) (Zt rfl rfl (dn (Yr rfl (decide_eq_true (by omega)) (ZIe (Zd (ZIa (ZIj (sr (Zb (v:=u1_0) rfl (Zb (v:=.int .i64 (i10:Int)) rfl ?_))))))))))
  obtain ⟨Ad13,c11,hv10⟩:=Z0 (hC.getP 2 rfl) i10 hi10
  refine Xb (len:=a1.length) ZSo sc22.size (tr rfl hv10) rfl (ZIv _) (ZJi.2 hi10) ?_
  obtain ⟨cs_,hl10,hc10,hr10⟩:=Xs (hC.getP 2 rfl) hv10 i10 hi10
  obtain ⟨u12,rfl⟩:=ZI4.1 hl10
  clear hl10
  rw [Xt _ _ hi10] at hr10
  replace hC:=hC.derive 2 rfl (ZH7 ((EI .i64).ty.sl) (a1.getD i10 Zyt) [u12] fp1) (fun _=>hr10) (fun _ hb_=>hb_)
  refine Xm (u12) hc10 sc22 rfl ?_
  refine Zg [u12] _ Tryz.func126 rfl rfl rfl (Zlo (a1.getD i10 Zyt) h _ (hC.getP 0 rfl)) (fun ret10 w11 hR10=>?_)
  obtain ⟨r10,rfl,h,hB10⟩:=hR10
  refine⟨_,rfl,?_⟩
  replace hC:=hC.grow hB10
  refine Zc (v:=.int .i64 r10) rfl (dn (sr (Zb (v:=v10) rfl (Zb (v:=.int .i64 r10) rfl ?_))))
  obtain ⟨⟨h10,h11⟩,h⟩:=h
  obtain ⟨Ad14,c12,hv11⟩:=Z0 (hC.getP 1 rfl) r10.toNat (show r10.toNat < s10.length by omega)
  refine Xb (len:=s10.length) ZIs sc2.size (tr rfl hv11) rfl h10 h11 (Xm (.int .i64 (s10.getD r10.toNat Zyt)) (Yf (hC.getP 1 rfl) hv11 r10.toNat (show r10.toNat < s10.length by omega)) sc2 rfl (Xl rfl rfl (dn ?_)))
  refine Zr rfl (fun hb10=>?_) (fun hb10=>?_)
  ·replace h:=ift h (ct hb10)
   refine Yg 9 Ye [0,0,0,6,14,0,0,96,224,511,1023] [3,4,7,8] [0,1,2,5,6] (by kernel_rfl) (by kernel_rfl) (by kernel_rfl) (fun hM11 hM10 w12 hB_=>?_)
   replace hC:=hC.grow hB_
   refine aF 0 (v10) rfl rfl (hM10 0 rfl) (rfl) (fun _=>by exact Zf (v:=v10) rfl) (Za 11 1) (aF 1 (u1_0) rfl rfl (hM10 1 rfl) (rfl) (fun _=>by exact Zf (v:=u1_0) rfl) (Za 11 3) (aF 2 (.int .i64 (i10:Int)) rfl rfl (hM10 2 rfl) (rfl) (fun _=>by exact Zf (v:=.int .i64 (i10:Int)) rfl) (Za 11 7) ?_))
   obtain ⟨Ad10,c13,hv12⟩:=Z0 (hC.getP 3 rfl) i10 hi10
   refine aL 3 (.pointer (some (Ad10.add (i10 * 1)))) rfl rfl (hM11 3 rfl) (rfl) (fun _ hB_=>by exact Yp (len:=a1.length) ZSo sc22.size (by exact tr rfl hv12) rfl (ZIv _) (ZJi.2 hi10)) (Za 11 15) ?_
   obtain ⟨cs_,hl11,hc11,hr11⟩:=Xs (hC.getP 3 rfl) hv12 i10 hi10
   obtain ⟨u11,rfl⟩:=ZI4.1 hl11
   clear hl11
   rw [Xt _ _ hi10] at hr11
   replace hC:=hC.derive 3 rfl (ZH7 ((EI .i64).ty.sl) (a1.getD i10 Zyt) [u11] fp1) (fun _=>hr11) (fun _ hb_=>hb_)
   refine aL 4 (u11) rfl rfl (hM11 4 rfl) (rfl) (fun _ hB_=>by exact Xc (u11) (Jz hB_ hc11) sc22 rfl) (Za 11 31) (aF 5 (v10) rfl rfl (hM10 5 rfl) (rfl) (fun _=>by exact Zf (v:=v10) rfl) (Za 11 63) (aF 6 (.int .i64 r10) rfl rfl (hM10 6 rfl) (rfl) (fun _=>by exact Zf (v:=.int .i64 r10) rfl) (Za 11 127) ?_))
   obtain ⟨⟨h12,h13⟩,h⟩:=h
   obtain ⟨Ad11,c14,hv13⟩:=Z0 (hC.getP 2 rfl) r10.toNat (show r10.toNat < s10.length by omega)
   refine aL 7 (.pointer (some (Ad11.add (r10.toNat * 1)))) rfl rfl (hM11 7 rfl) (rfl) (fun _ hB_=>by exact Yp (len:=s10.length) ZIs sc2.size (by exact tr rfl hv13) rfl h12 h13) (Za 11 255) (aL 8 (.int .i64 (s10.getD r10.toNat Zyt)) rfl rfl (hM11 8 rfl) (rfl) (fun _ hB_=>by exact Xc (.int .i64 (s10.getD r10.toNat Zyt)) (Yf ((hC.grow hB_).getP 2 rfl) hv13 r10.toNat (show r10.toNat < s10.length by omega)) sc2 rfl) (Za 11 511) (Zu 9 (by decide) (by decide) (by kernel_rfl) (by kernel_rfl) rfl ?_))
   refine Zg [v10,u11,.int .i64 (s10.getD r10.toNat Zyt)] _ Tryz.func163 rfl rfl rfl (Zd3 s10 (a1.getD i10 Zyt) (s10.getD r10.toNat Zyt) h _ (hC.getP 2 rfl) (hC.getP 0 rfl)) (fun ret11 w13 hR11=>?_)
   obtain ⟨r11,u10,f11,rfl,h,hr12,hf10,hB11⟩:=hR11
   refine⟨_,rfl,?_⟩
   replace hC:=hC.push hB11 (ZIm (ZOd 2 ((EI .i64).tr)) r11 [u10] f11) hr12 hf10
   obtain ⟨ho10,hf11⟩:=Zac (hC.getM 0 rfl).1
   subst hf11
   replace hC:=hC.recast (c:=own 2 1 u10 r11.length ((EI .i64).encs r11)) (fun _ h_=>h_) (fun _=>ho10)
   refine Zc (v:=u10) rfl (done (Zv (Zs (Zd (Zh (Zb (v:=.int .i64 (i10:Int)) rfl (Zq rfl rfl (Zc (v:=.int .i64 (ZA7.wrap ((i10:Int)+1))) rfl (done ?_)))))))))
   have hs10:=X5 hC 0 rfl
   replace hC:=hC.thaw 0 rfl (ZH7 ((EI .i64).ty.sl) r11 [u10] (ZI5 (Zzn u10))) Y2 (fun _ hb_=>hb_)
   replace hC:=hC.sP [0,4,5] (Ps':=[ZH7 ((EI .i64).ty.sl) r11 [u10] (ZI5 (Zzn u10)),ZH7 ((EI .i64).ty.sl) a0 [u0_0] fp0,ZH7 (((EI .i64).ty.sl).sl) a1 [u1_0] fp1]) rfl
   exact hK10 r11 _ _ ⟨u10,(ZI5 (Zzn u10)),(sl ⟨rfl,rfl,(tr rfl (congrArg _ (Yh hi10 hN10))),trivial⟩),(fun b hb=>.inl (hs10 b hb)),hC⟩ h
  ·replace h:=Zk h (cf hb10)
   refine ZIe (Zs (Zd (Zh (Zb (v:=.int .i64 (i10:Int)) rfl (Zq rfl rfl (Zc (v:=.int .i64 (ZA7.wrap ((i10:Int)+1))) rfl (done ?_)))))))
   replace hC:=hC.sP [1,2,3] (Ps':=[ZH7 ((EI .i64).ty.sl) s10 [v10] f10,ZH7 ((EI .i64).ty.sl) a0 [u0_0] fp0,ZH7 (((EI .i64).ty.sl).sl) a1 [u1_0] fp1]) rfl
   exact hK10 s10 _ _ ⟨v10,f10,(sl ⟨rfl,rfl,(tr rfl (congrArg _ (Yh hi10 hN10))),trivial⟩),hq10,hC⟩ h
 ·clear hC h
  rintro s10 e_ w14 K10 ⟨v10,f10,hS_,hq10,hC⟩ h
  rw [ue hS_]
  refine ZIa (sr (Zb (v:=.int .i64 (a1.length:Int)) rfl (Zb (v:=u1_0) rfl ?_)))
  obtain ⟨Ad15,c15,hv15⟩:=Z1 (hC.getP 2 rfl)
  refine Zx ZSo (tr rfl hv15) (Zt rfl rfl (dn (Yi rfl (decide_eq_false (by omega)) ?_)))
  refine ZIr (Zj (Zj (Z9 ?_)))
  refine Zd (sr (Zb (v:=v10) rfl (Zc (v:=v10) rfl (dn (ZIi ?_)))))
  refine Zp (fn:=Tryz.f127) rfl ?_ ⟨s10,v10,f10,rfl,h,(hC.getP 0 rfl),(fun b hb=>hq10 b hb),hC.below⟩ (.inl rfl)
  exact Zi rfl
 ·skip
  replace hC:=hC.sP [0,0,1] (Ps':=[ZH7 ((EI .i64).ty.sl) a0 [u0_0] fp0,ZH7 ((EI .i64).ty.sl) a0 [u0_0] fp0,ZH7 (((EI .i64).ty.sl).sl) a1 [u1_0] fp1]) rfl
  exact⟨u0_0,fp0,(sl ⟨rfl,rfl,rfl,trivial⟩),(fun b hb=>.inr (List.mem_append_left _ hb)),hC⟩
def Zd4 (a0:Int) (K:Int→Prop):Prop :=
 Xj (fun (s7:Int×Int×Int) next8=>(if s7.2.2 > 0 then(if Zyy s7.2.2 2=1 then next8 (Zyy (ZA7.wrap (s7.1 * s7.2.1)) 10007,Zyy (ZA7.wrap (s7.2.1 * s7.2.1)) 10007,ZA7.wrap (ZSf s7.2.2 2)) else next8 (s7.1,Zyy (ZA7.wrap (s7.2.1 * s7.2.1)) 10007,ZA7.wrap (ZSf s7.2.2 2))) else K s7.1)) (1,a0,10005)
theorem Zou (a0:Int)  {K:Int→Prop} (h:Zd4 a0 K) (w0:World)  :
  Calls ZId 164 #[.int .i64 a0] w0 fun e w'=>∃ (r0:Int),
   e=.returned (.int .i64 r0)∧K r0∧Bel w0 w':=by
 unfold Zd4 at h
 refine Z4 (args:=[.int .i64 a0]) Tryz.func164 rfl 23 Tryz.ntmps164 (ZIc rfl) ?_
 have hC:=ZIt (X:=Nox) w0 [] (by simp)
 refine sr (Zc (v:=.int .i64 0) rfl (dn (sr (Zb (v:=.int .i64 a0) rfl (Zc (v:=.int .i64 1) rfl (Zc (v:=.int .i64 a0) rfl (dn (ZIa (sr (Zc (v:=.int .i64 10005) rfl (dn ?_)))))))))))
 refine ZIj ?_
 refine X1 (S:=Int×Int×Int) _ (fun s7 e_ w_=>Z3 e_ [(3,.int .i64 s7.1),(4,.int .i64 s7.2.1),(5,.int .i64 s7.2.2)]∧Ctx Nox w0 w_ [] []) ?_ (s0:=(1,a0,10005)) ?_ h
 ·clear hC h
  rintro s7 e_ w10 next8 K9 ⟨hS_,hC⟩ h hK10
  rw [ue hS_]
  refine ZIa (sr (Zb (v:=.int .i64 s7.2.2) rfl (Jj rfl rfl (dn ?_))))
  refine Zr rfl (fun hb10=>?_) (fun hb10=>?_)
  ·replace h:=ift h (ct hb10)
   refine ZIe (Zd (ZIa (ZIj (ZIa (sr (Zb (v:=.int .i64 s7.2.2) rfl (X0 rfl rfl (by decide) (Jm rfl rfl (dn ?_)))))))))
   refine Zr rfl (fun hb11=>?_) (fun hb11=>?_)
   ·replace h:=ift h (ct hb11)
    refine Zh (Zb (v:=.int .i64 s7.1) rfl (Zb (v:=.int .i64 s7.2.1) rfl (Ju rfl rfl (X0 rfl rfl (by decide) (Zc (v:=.int .i64 (Zyy (ZA7.wrap (s7.1 * s7.2.1)) 10007)) rfl (dn (Zh (Zb (v:=.int .i64 s7.2.1) rfl (Zb (v:=.int .i64 s7.2.1) rfl (Ju rfl rfl (X0 rfl rfl (by decide) ?_)))))))))))
    refine Zc (v:=.int .i64 (Zyy (ZA7.wrap (s7.2.1 * s7.2.1)) 10007)) rfl (done (Zs (Zd (Zh (Zb (v:=.int .i64 s7.2.2) rfl (Zd8 rfl rfl (by decide) (Zc (v:=.int .i64 (ZA7.wrap (ZSf s7.2.2 2))) rfl (done ?_))))))))
    exact hK10 (Zyy (ZA7.wrap (s7.1 * s7.2.1)) 10007,Zyy (ZA7.wrap (s7.2.1 * s7.2.1)) 10007,ZA7.wrap (ZSf s7.2.2 2)) _ _ ⟨(sl ⟨rfl,rfl,rfl,trivial⟩),hC⟩ h
   ·replace h:=Zk h (cf hb11)
    refine ZIe (Zd (Zh (Zb (v:=.int .i64 s7.2.1) rfl (Zb (v:=.int .i64 s7.2.1) rfl (Ju rfl rfl (X0 rfl rfl (by decide) (Zc (v:=.int .i64 (Zyy (ZA7.wrap (s7.2.1 * s7.2.1)) 10007)) rfl (done (Zs (Zd (Zh ?_)))))))))))
    refine Zb (v:=.int .i64 s7.2.2) rfl (Zd8 rfl rfl (by decide) (Zc (v:=.int .i64 (ZA7.wrap (ZSf s7.2.2 2))) rfl (done ?_)))
    exact hK10 (s7.1,Zyy (ZA7.wrap (s7.2.1 * s7.2.1)) 10007,ZA7.wrap (ZSf s7.2.2 2)) _ _ ⟨(sl ⟨rfl,rfl,rfl,trivial⟩),hC⟩ h
  ·replace h:=Zk h (cf hb10)
   refine ZIr (Zj (Zj (Z9 ?_)))
   refine Zd (sr (Zb (v:=.int .i64 s7.1) rfl (Zc (v:=.int .i64 s7.1) rfl (dn (ZIi ?_)))))
   refine Zp (fn:=Tryz.f164) rfl ?_ ⟨s7.1,rfl,h,hC.below⟩ (.inl rfl)
   exact Zi rfl
 ·skip
  exact⟨(sl ⟨rfl,rfl,rfl,trivial⟩),hC⟩
end Go.Proofs.YtaagfepgbofmlaaGreat
