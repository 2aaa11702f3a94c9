import Derived.Test.YtaagfepgbofmlaaGreatQ3
set_option linter.unusedSectionVars false
set_option linter.unusedSimpArgs false
set_option linter.unusedVariables false
open Classical renaming byContradiction→ZO2
open Decidable renaming not_not→ZOh
open Go renaming wp_ret→ZIi,wp_seq→ZIa,wp_skip→ZIe,wp_block→ZIj
open Go.IntKind renaming i64→ZA7
open Go.Program renaming elem→ZO4
open Go.Proofs.Tryz renaming prog→ZId,underlying32→ZIq,underlying23→ZOj,underlying30→ZIw,f96→ZOm,underlying22→ZIs,underlying25→ZOq
open Go.Result renaming andThen_ok→Zyv
open Go.Sem renaming run_bind→Zyu,run_pure→Zyw
open Go.Value renaming ownBlock→Zzn,map→ZKy
open Inhabited renaming default→Zyt
open Int renaming add_zero→ZOk,le_refl→ZOl,zero_add→ZAd,tmod→Zyy,natCast_nonneg→ZIv,ofNat_lt→ZJi,mul_emod→ZOo,add_emod→ZOr,mul_nonneg→ZOx,mul_le_mul→ZOy,tmod_eq_emod_of_nonneg→ZAy
open List renaming getD→Zzm,mem_cons→Zyz,mem_singleton→ZAs,toArray→ZH8,not_mem_nil→ZAt,mem_map→Zy2,mem_append_right→ZA2,mem_append→Zzu,mem_append_left→ZA1,mem_singleton_self→ZOi,replicate→Zy0,getElem_of_mem→Zzo,length_take→ZOn,mem_flatten→ZG1,length_eq_one_iff→ZI4,pairwise_cons→Zzy,nodup_append→ZGz,length_set→ZG0,mem_of_mem_take→ZOz,take_of_length_le→Zzz,pairwise_map→ZO1,nodup_cons→Zzk,ext_getElem→ZBg,length_map→ZO3,length_append→ZBe,length_drop→ZO5,pairwise_iff_getElem→Zza,drop_eq_getElem_cons→ZPu
open List.cons renaming injEq→ZCo
open Nat renaming le_of_ble_eq_true→ZIc,le_refl→Zy1,mul_one→ZOp,le_trans→Zy6
open Option renaming toList→ZI5
open Vc renaming Form→ZIb,TForm→ZIo
open Vc.A8 renaming get_mkf→ZOf,ext_get→ZK1,get_set→ZK0
open Vc.Ctx renaming start→ZIt
open Vc.Item renaming low→ZOc,keep→ZOe
open Vc.Tr renaming sl→ZOd,item→ZIm
open Vc.Ty renaming item→ZH7
set_option maxRecDepth 4000
set_option maxHeartbeats 4000000
namespace Go.Proofs.YtaagfepgbofmlaaGreat
open Go Go.RowKit Vc
theorem sc66:ScaT ZId 66:=⟨⟨_,Tryz.underlying66,rfl⟩,by kernel_rfl⟩
theorem ag50:AggT ZId 50 1:=⟨⟨_,Tryz.underlying50,rfl⟩,by kernel_rfl⟩
theorem sc23:ScaT ZId 23:=⟨⟨_,ZOj,rfl⟩,by kernel_rfl⟩
theorem Zkz:Zab ZId 55 (.agg #[.slice none 0 0]) 1 24:=by unfold Zab; kernel_rfl
theorem z32:Je ZId 32 (.agg #[.slice none 0 0,.slice none 0 0]):=by unfold Je; kernel_rfl
def Zgq (a0:ZIb) (a1:Alg) (K:Bool→Prop):Prop :=
 Zdt a0 (fun r11=>Zes a1 r11 (fun r10=>K (decide ((r10.length:Int) > 0))))
theorem Ztv (a0:ZIb) (a1:Alg) {b1:Nat} {u0_0:Value} {u1_0:Value} {u1_1:Value} {fp0:List Nat} {fp1:List Nat} {K:Bool→Prop} (h:Zgq a0 a1 K) (w0:World) (q0:ZIo.rep a0 [u0_0] fp0 w0) (q1:TAlg.rep a1 [u1_0,u1_1] fp1 w0) (qb1:(blk b1 32 [u1_0,u1_1]).holds w0) :
  Calls ZId 153 #[.agg #[u0_0],.pointer (some ⟨b1,0,none⟩)] w0 fun e w'=>∃ (r0:Bool),
   e=.returned (.bool r0)∧K r0∧Bel w0 w':=by
 unfold Zgq at h
 refine Z4 (args:=[.agg #[u0_0],.pointer (some ⟨b1,0,none⟩)]) Tryz.func153 rfl 9 Tryz.ntmps153 (ZIc rfl) ?_
 have hC:=ZIt (X:=Nox) w0 [ZH7 TForm a0 [u0_0] fp0,ZH7 TAlg a1 [u1_0,u1_1] fp1,blk b1 32 [u1_0,u1_1]] (by simp only [Zyz,ZAt,or_false,forall_eq_or_imp,forall_eq]; exact⟨q0,q1,qb1⟩)
 have hp4:=(hC.getP 0 rfl)
 replace hC:=hC.derive 0 rfl (ZH7 ETerm.ty.sl a0.terms [u0_0] fp0) (fun _=>(Xi hp4)) (fun _ hb_=>hb_)
 have hp6:=(hC.getP 2 rfl)
 replace hC:=hC.derive 2 rfl (ZH7 ((EI .i64).ty.sl) a1.degrees [u1_0] fp1) (fun _=>(Yw hp6).1) (fun _ hb_=>hb_)
 replace hC:=hC.derive 3 rfl (ZH7 ZIo.sl a1.images [u1_1] fp1) (fun _=>(Yw hp6).2) (fun _ hb_=>hb_)
 refine sr (Yl (v:=.agg #[u0_0]) hC [u0_0] rfl rfl fun b9 w10 hB_ hC=>Zc (v:=.bool false) rfl (dn (sr (Yy hC 0 [u0_0] rfl ag55 rfl rfl rfl ?_))))
 refine Zg [.agg #[u0_0]] _ Tryz.func78 rfl rfl rfl (Zkv a0 h _ (Yq (hC.getP 2 rfl))) (fun ret10 w11 hR10=>?_)
 obtain ⟨r11,b10,rfl,h,hr10,hf10,hB10⟩:=hR10
 refine⟨_,rfl,?_⟩
 replace hC:=hC.push hB10 (Ze (kvA .i64) (vvI .i64) b10 r11) hr10 (fun b_ hb_=>by obtain rfl:=ZAs.1 hb_; exact hf10)
 refine Zg [.pointer (some ⟨b1,0,none⟩),.map (some b10)] _ Tryz.func154 rfl rfl rfl (Zn0 a1 r11 h _ (Xy (hC.getP 1 rfl) (hC.getP 0 rfl)) (hC.getP 5 rfl) (hC.getM 0 rfl)) (fun ret11 w12 hR11=>?_)
 obtain ⟨r10,b11,rfl,h,hr11,hf11,hB11⟩:=hR11
 refine⟨_,rfl,?_⟩
 replace hC:=hC.push hB11 (Ze (kvA .i64) (vvI .i64) b11 r10) hr11 (fun b_ hb_=>by obtain rfl:=ZAs.1 hb_; exact hf11)
 refine Zq0 (hC.getM 0 rfl) Tryz.underlying115 rfl rfl (Jj rfl rfl (Zc (v:=.bool (decide ((r10.length:Int) > 0))) rfl (dn (ZIi ?_))))
 refine Zp (fn:=Tryz.f153) rfl ?_ ⟨decide ((r10.length:Int) > 0),rfl,h,hC.below⟩ (.inl rfl)
 exact Zi rfl
def Ziz (a0:List ZIb) (p1:ZIb→(Bool→Prop)→Prop) (K:Int→Prop):Prop :=
 Yt (fun i10 (s10:Unit) nx10=>p1 (a0.getD i10 Zyt) (fun r10=>(if r10=true then K (i10:Int) else nx10 ()))) (fun (s10:Unit)=>K (-1)) a0.length 0 ()
theorem Ztw (a0:List ZIb) (p1:ZIb→(Bool→Prop)→Prop) {u0_0:Value} {fp0:List Nat} {K:Int→Prop} (h:Ziz a0 p1 K) (w0:World) (q0:ZIo.sl.rep a0 [u0_0] fp0 w0) {g1:Nat} {cp1:List Value} {fn1:Func} (hf1:ZId.funcs[g1]?=some fn1) (hb1:fn1.body.isNone=false) (hn1:(fn1.name == "runtime.NumGoroutine")=false) (hp1:∀ (y0:ZIb) (yu0_0:Value) (yf0:List Nat) (K_:Bool→Prop) (w_:World),Bel w0 w_→ZIo.rep y0 [yu0_0] yf0 w_→p1 y0 K_→Calls ZId g1 (ZH8 ([.agg #[yu0_0]]++cp1)) w_ fun e w'=>∃ (z0:Bool),e=.returned (.bool z0)∧K_ z0∧Bel w_ w') :
  Calls ZId 155 #[u0_0,.func (.func g1) #[] (ZH8 cp1)] w0 fun e w'=>∃ (r0:Int),
   e=.returned (.int .i64 r0)∧K r0∧Bel w0 w':=by
 unfold Ziz at h
 refine Z4 (args:=[u0_0,.func (.func g1) #[] (ZH8 cp1)]) Tryz.func155 rfl 19 Tryz.ntmps155 (ZIc rfl) ?_
 have hC:=ZIt (X:=Nox) w0 [ZH7 ZIo.sl a0 [u0_0] fp0] (by simp only [Zyz,ZAt,or_false,forall_eq_or_imp,forall_eq]; exact q0)
 refine sr (Zc (v:=.int .i64 0) rfl (dn (ZIa (sr (Zb (v:=u0_0) rfl ?_)))))
 obtain ⟨Ad2,c3,hv4⟩:=Z1 (hC.getP 0 rfl)
 refine Zx ZIw (tr rfl hv4) (Zb (v:=.int .i64 0) rfl (dn (ZIj ?_)))
 have hN10:a0.length≤9223372036854775807:=Xp (hC.getP 0 rfl)
 refine Y9 (S:=Unit) _ _ (fun i10 s10 e_ w_=>Z3 e_ [(0,u0_0),(1,.func (.func g1) #[] (ZH8 cp1)),(7,.int .i64 (a0.length:Int)),(8,.int .i64 (i10:Int))]∧Ctx Nox w0 w_ [] [ZH7 ZIo.sl a0 [u0_0] fp0]) a0.length ?_ ?_ (s0:=()) ?_ h
 ·clear hC h
  rintro i10 s10 e_ w10 nx10 K10 hi10 ⟨hS_,hC⟩ h hK10
  rw [ue hS_]
  refine sr (Zt rfl rfl (dn (ZIa (Yr rfl (decide_eq_true (by omega)) (ZIe (Zd (ZIa (ZIj (sr (Zb (v:=.int .i64 (i10:Int)) rfl (Zc (v:=.int .i64 (i10:Int)) rfl ?_)))))))))))
  refine dn (sr (Zb (v:=.func (.func g1) #[] (ZH8 cp1)) rfl (Zb (v:=u0_0) rfl (Zb (v:=.int .i64 (i10:Int)) rfl ?_))))
  obtain ⟨Ad10,c10,hv10⟩:=Z0 (hC.getP 0 rfl) i10 hi10
  refine Xb (len:=a0.length) ZIw ag55.size (tr rfl hv10) rfl (ZIv _) (ZJi.2 hi10) ?_
  obtain ⟨cs_,hl10,hc10,hr10⟩:=Xs (hC.getP 0 rfl) hv10 i10 hi10
  obtain ⟨u10,rfl⟩:=ZI4.1 hl10
  clear hl10
  rw [Xt _ _ hi10] at hr10
  have hp10:=hr10
  replace hC:=hC.derive 0 rfl (ZH7 ETerm.ty.sl ((a0.getD i10 Zyt).terms) [u10] fp0) (fun _=>(Xi hp10)) (fun _ hb_=>hb_)
  refine Zav [u10] hc10 ag55 rfl rfl ?_
  refine Zj4 [.agg #[u10]] _ rfl hf1 hb1 hn1 rfl (hp1 _ _ _ _ _ hC.below (Yq (hC.getP 0 rfl)) h) (fun ret10 w11 hR10=>?_)
  obtain ⟨r10,rfl,h,hB10⟩:=hR10
  refine⟨_,rfl,?_⟩
  replace hC:=hC.grow hB10
  refine dn ?_
  refine Zr rfl (fun hb10=>?_) (fun hb10=>?_)
  ·replace h:=ift h (hb10)
   refine sr (Zb (v:=.int .i64 (i10:Int)) rfl (Zc (v:=.int .i64 (i10:Int)) rfl (dn ?_)))
   refine ZIi (Yd (Zo (Zo (Yd (Zo ?_)))))
   refine Zp (fn:=Tryz.f155) rfl ?_ ⟨(i10:Int),rfl,h,hC.below⟩ (.inl rfl)
   exact Zi rfl
  ·replace h:=Zk h (Xz hb10)
   refine ZIe (Zs (Zd (Zh (Zq rfl rfl (Zb (v:=.int .i64 (ZA7.wrap ((i10:Int)+1))) rfl (done ?_))))))
   replace hC:=hC.sP [1] (Ps':=[ZH7 ZIo.sl a0 [u0_0] fp0]) rfl
   exact hK10 () _ _ ⟨(sl ⟨rfl,rfl,rfl,(tr rfl (congrArg _ (Yh hi10 hN10))),trivial⟩),hC⟩ h
 ·clear hC h
  rintro s10 e_ w12 K10 ⟨hS_,hC⟩ h
  rw [ue hS_]
  refine sr (Zt rfl rfl (dn (ZIa (Yi rfl (decide_eq_false (by omega)) ?_))))
  refine wp_exit (Zj (Zj (Z9 ?_)))
  refine Zd (sr (Zc (v:=.int .i64 (-1)) rfl (dn (ZIi ?_))))
  refine Zp (fn:=Tryz.f155) rfl ?_ ⟨(-1),rfl,h,hC.below⟩ (.inl rfl)
  exact Zi rfl
 ·skip
  exact⟨(sl ⟨rfl,rfl,rfl,rfl,trivial⟩),hC⟩
def Zet (a0:List ZIb) (p1:ZIb→(Bool→Prop)→Prop) (K:Bool→Prop):Prop :=
 Ziz a0 p1 (fun r5=>K (decide (r5≥0)))
theorem Zn1 (a0:List ZIb) (p1:ZIb→(Bool→Prop)→Prop) {u0_0:Value} {fp0:List Nat} {K:Bool→Prop} (h:Zet a0 p1 K) (w0:World) (q0:ZIo.sl.rep a0 [u0_0] fp0 w0) {g1:Nat} {cp1:List Value} {fn1:Func} (hf1:ZId.funcs[g1]?=some fn1) (hb1:fn1.body.isNone=false) (hn1:(fn1.name == "runtime.NumGoroutine")=false) (hp1:∀ (y0:ZIb) (yu0_0:Value) (yf0:List Nat) (K_:Bool→Prop) (w_:World),Bel w0 w_→ZIo.rep y0 [yu0_0] yf0 w_→p1 y0 K_→Calls ZId g1 (ZH8 ([.agg #[yu0_0]]++cp1)) w_ fun e w'=>∃ (z0:Bool),e=.returned (.bool z0)∧K_ z0∧Bel w_ w') :
  Calls ZId 97 #[u0_0,.func (.func g1) #[] (ZH8 cp1)] w0 fun e w'=>∃ (r0:Bool),
   e=.returned (.bool r0)∧K r0∧Bel w0 w':=by
 unfold Zet at h
 refine Z4 (args:=[u0_0,.func (.func g1) #[] (ZH8 cp1)]) Tryz.func97 rfl 9 Tryz.ntmps97 (ZIc rfl) ?_
 have hC:=ZIt (X:=Nox) w0 [ZH7 ZIo.sl a0 [u0_0] fp0] (by simp only [Zyz,ZAt,or_false,forall_eq_or_imp,forall_eq]; exact q0)
 refine sr (Zc (v:=.bool false) rfl (dn (sr (Zb (v:=u0_0) rfl (Zb (v:=.func (.func g1) #[] (ZH8 cp1)) rfl ?_)))))
 refine Zg [u0_0,.func (.func g1) #[] (ZH8 cp1)] _ Tryz.func155 rfl rfl rfl (Ztw a0 p1 h _ (hC.getP 0 rfl) hf1 hb1 hn1 (fun x0_ x1_ x2_ K_ w_ hb_=>hp1 x0_ x1_ x2_ K_ w_ (Zmw hC.below hb_))) (fun Jo w4 hR3=>?_)
 obtain ⟨r5,rfl,h,hB6⟩:=hR3
 refine⟨_,rfl,?_⟩
 replace hC:=hC.grow hB6
 refine Zat rfl rfl (Zc (v:=.bool (decide (r5≥0))) rfl (dn (ZIi ?_)))
 refine Zp (fn:=Tryz.f97) rfl ?_ ⟨decide (r5≥0),rfl,h,hC.below⟩ (.inl rfl)
 exact Zi rfl
def Zgr (a0:Alg) (K:Bool→Prop):Prop :=
 Zgb a0.degrees (fun r11=>(if¬ (r11=true) then K false else(if(a0.images.length:Int)≠(a0.degrees.length:Int) then K false else Yt (fun i10 (s10:Unit) nx10=>Zeq a0.degrees (a0.images.getD i10 Zyt) (fun r10=>(if¬ (r10=true) then K false else((0≤(i10:Int)∧(i10:Int) < (a0.degrees.length:Int))∧Zge a0.degrees (a0.images.getD i10 Zyt) (ZA7.wrap ((a0.degrees.getD i10 Zyt)+1)) (fun r13=>(if¬ (r13=true) then K false else nx10 ())))))) (fun (s10:Unit)=>Zet a0.images (fun y0_ K_=>Zgq y0_ a0 K_) (fun r12=>K (!r12))) a0.images.length 0 ())))
theorem Ztx (a0:Alg) {u0_0:Value} {u0_1:Value} {fp0:List Nat} {K:Bool→Prop} (h:Zgr a0 K) (w0:World) (q0:TAlg.rep a0 [u0_0,u0_1] fp0 w0) :
  Calls ZId 96 #[.agg #[u0_0,u0_1]] w0 fun e w'=>∃ (r0:Bool),
   e=.returned (.bool r0)∧K r0∧Bel w0 w':=by
 unfold Zgr at h
 refine Z4 (args:=[.agg #[u0_0,u0_1]]) Tryz.func96 rfl 50 Tryz.ntmps96 (ZIc rfl) ?_
 have hC:=ZIt (X:=Nox) w0 [ZH7 TAlg a0 [u0_0,u0_1] fp0] (by simp only [Zyz,ZAt,or_false,forall_eq_or_imp,forall_eq]; exact q0)
 have hp2:=(hC.getP 0 rfl)
 replace hC:=hC.derive 0 rfl (ZH7 ((EI .i64).ty.sl) a0.degrees [u0_0] fp0) (fun _=>(Yw hp2).1) (fun _ hb_=>hb_)
 replace hC:=hC.derive 1 rfl (ZH7 ZIo.sl a0.images [u0_1] fp0) (fun _=>(Yw hp2).2) (fun _ hb_=>hb_)
 refine sr (Yl (v:=.agg #[u0_0,u0_1]) hC [u0_0,u0_1] rfl rfl fun b5 w7 hB_ hC=>Zc (v:=.bool false) rfl (dn (ZIa (sr (Z6 0 ZIq rfl sc22.size rfl rfl (Z8 hC 0 (u0_0) rfl sc22 rfl rfl ?_))))))
 refine Zg [u0_0] _ Tryz.func151 rfl rfl rfl (Zs3 a0.degrees h _ (hC.getP 1 rfl)) (fun ret8 w10 hR9=>?_)
 obtain ⟨r11,rfl,h,hB10⟩:=hR9
 refine⟨_,rfl,?_⟩
 replace hC:=hC.grow hB10
 refine Jf rfl (Zb (v:=.bool (!r11)) rfl ?_)
 refine Xh (!r11) (fun hb11=>?_) (fun hb11=>?_)
 ·replace h:=ift h (Xz (Jp hb11))
  refine Zn (b:=true) 4 9 rfl (tr rfl (congrArg _ hb11)) (by decide) (Zn (b:=true) 4 9 rfl (tr rfl (congrArg _ hb11)) (by decide) (Zn (b:=true) 4 9 rfl (tr rfl (congrArg _ hb11)) (by decide) (Zn (b:=true) 4 9 rfl (tr rfl (congrArg _ hb11)) (by decide) (Zn (b:=true) 4 9 rfl (tr rfl (congrArg _ hb11)) (by decide) (Zn (b:=true) 4 9 rfl (tr rfl (congrArg _ hb11)) (by decide) (Zn (b:=true) 4 9 rfl (tr rfl (congrArg _ hb11)) (by decide) (Yc (v:=.bool true) (b:=true) (tr rfl (congrArg _ hb11)) rfl (dn (Yr rfl rfl (sr (Zc (v:=.bool false) rfl ?_)))))))))))
  refine dn ?_
  refine ZIi (Zo ?_)
  refine Zp (fn:=ZOm) rfl ?_ ⟨false,rfl,h,hC.below⟩ (.inl rfl)
  exact Zi rfl
 ·replace h:=Zk h (not_not_intro ((Jq hb11)))
  refine Zl 4 9 rfl rfl hb11 (Z6 1 ZIq rfl sc30.size rfl rfl (Zl 4 9 rfl rfl hb11 (Z8 hC 0 (u0_1) rfl sc30 rfl rfl (Zl 4 9 rfl rfl hb11 ?_))))
  obtain ⟨Ad11,c10,hv12⟩:=Z1 (hC.getP 0 rfl)
  refine Zx ZIw (tr rfl hv12) (Zl 4 9 rfl rfl hb11 (Z6 0 ZIq rfl sc22.size rfl rfl (Zl 4 9 rfl rfl hb11 (Z8 hC 0 (u0_0) rfl sc22 rfl rfl (Zl 4 9 rfl rfl hb11 ?_)))))
  obtain ⟨Ad12,c11,hv13⟩:=Z1 (hC.getP 1 rfl)
  refine Zx ZIs (tr rfl hv13) (Zl 4 9 rfl rfl hb11 (Xl rfl rfl (Yc (v:=.bool (decide ((a0.images.length:Int)≠(a0.degrees.length:Int)))) (b:=false) (tr rfl (congrArg _ hb11)) rfl (dn ?_))))
  refine Zr rfl (fun hb12=>?_) (fun hb12=>?_)
  ·replace h:=ift h (ct hb12)
   refine sr (Zc (v:=.bool false) rfl (dn ?_))
   refine ZIi (Zo ?_)
   refine Zp (fn:=ZOm) rfl ?_ ⟨false,rfl,h,hC.below⟩ (.inl rfl)
   exact Zi rfl
  ·replace h:=Zk h (cf hb12)
   refine ZIe (Zd (ZIa (sr (Z6 1 ZIq rfl sc30.size rfl rfl (Z8 hC 0 (u0_1) rfl sc30 rfl rfl ?_)))))
   obtain ⟨Ad13,c12,hv14⟩:=Z1 (hC.getP 0 rfl)
   refine Zx ZIw (tr rfl hv14) (Zb (v:=.int .i64 0) rfl (dn (ZIj ?_)))
   have hN10:a0.images.length≤9223372036854775807:=Xp (hC.getP 0 rfl)
   refine Y9 (S:=Unit) _ _ (fun i10 s10 e_ w_=>Z3 e_ [(1,.pointer (some ⟨b5,0,none⟩)),(19,u0_1),(20,.int .i64 (a0.images.length:Int)),(21,.int .i64 (i10:Int))]∧Ctx Nox w0 w_ [blk b5 32 [u0_0,u0_1]] [ZH7 ZIo.sl a0.images [u0_1] fp0,ZH7 ((EI .i64).ty.sl) a0.degrees [u0_0] fp0,ZH7 TAlg a0 [u0_0,u0_1] fp0]) a0.images.length ?_ ?_ (s0:=()) ?_ h
   ·clear hC h
    rintro i10 s10 e_ w11 nx10 K10 hi10 ⟨hS_,hC⟩ h hK10
    rw [ue hS_]
    refine sr (Zt rfl rfl (dn (ZIa (Yr rfl (decide_eq_true (by omega)) (ZIe (Zd (ZIa (ZIj (sr (Zb (v:=.int .i64 (i10:Int)) rfl ?_))))))))))
    obtain ⟨Ad14,c13,hv10⟩:=Z0 (hC.getP 0 rfl) i10 hi10
    refine Xb (len:=a0.images.length) ZIw ag55.size (tr rfl hv10) rfl (ZIv _) (ZJi.2 hi10) ?_
    obtain ⟨cs_,hl10,hc10,hr10⟩:=Xs (hC.getP 0 rfl) hv10 i10 hi10
    obtain ⟨u10,rfl⟩:=ZI4.1 hl10
    clear hl10
    rw [Xt _ _ hi10] at hr10
    have hp10:=hr10
    replace hC:=hC.derive 0 rfl (ZH7 ETerm.ty.sl ((a0.images.getD i10 Zyt).terms) [u10] fp0) (fun _=>(Xi hp10)) (fun _ hb_=>hb_)
    refine Zav [u10] hc10 ag55 rfl rfl (Yj hC [.slice none 0 0] z55 rfl fun b10 w12 hB_ hC=>Zc (v:=.int .i64 (i10:Int)) rfl (Zw (v:=.agg #[u10]) hC 0 [u10] [u10] rfl ag55.size rfl rfl rfl rfl (Y6 (Zbw (hC.getP 0 rfl)) rfl) (ZIc rfl) rfl fun w13 hC=>dn (ZIa ?_)))
    refine Yg 15 Ye [0,1,0,7,15,31,63,127,63,63,575,63,3647,7743,15935,32767,65535,131071] [1,2,7,8,10,12,13] [0,4,5,6,7,8,9,10,11,12,13,14] (by kernel_rfl) (by kernel_rfl) (by kernel_rfl) (fun hM11 hM10 w14 hB_=>?_)
    replace hC:=hC.grow hB_
    refine aF 0 (.pointer (some ⟨b5,0,none⟩)) rfl rfl (hM10 0 rfl) (rfl) (fun _=>by exact Z7 0 ZIq rfl sc22.size rfl rfl) (Za 18 1) (aL 1 (u0_0) rfl rfl (hM11 1 rfl) (rfl) (fun _ hB_=>by exact Z5 (hC.grow hB_) 1 (u0_0) rfl sc22 rfl rfl) (Za 18 3) (aL 2 (.agg #[u10]) rfl rfl (hM11 2 rfl) (rfl) (fun _ hB_=>by exact Yv (hC.grow hB_) 0 [u10] rfl ag55 rfl rfl rfl) (Za 18 7) (aO 3 rfl ?_)))
    refine Zg [u0_0,.agg #[u10]] _ Tryz.func99 rfl rfl rfl (Zny a0.degrees (a0.images.getD i10 Zyt) h _ (hC.getP 2 rfl) (Yq (hC.getP 0 rfl))) (fun ret10 w15 hR10=>?_)
    obtain ⟨r10,rfl,h,hB11⟩:=hR10
    refine⟨_,rfl,?_⟩
    replace hC:=hC.grow hB11
    refine done (aK (by assumption) (Za 18 15) (aF 4 (.bool (!r10)) rfl rfl (hM10 4 rfl) (rfl) (fun _=>by exact Zjv rfl) (Za 18 31) (aF 5 (.bool (!r10)) rfl rfl (hM10 5 rfl) (rfl) (fun _=>by exact Zf (v:=.bool (!r10)) rfl) (Za 18 63) ?_)))
    refine Xh (!r10) (fun hb10=>?_) (fun hb10=>?_)
    ·replace h:=ift h (Xz (Jp hb10))
     refine Zm Z2 6 undef rfl rfl (by kernel_rfl) (hM10 6 rfl) (fun w_=>.inr ⟨Yk (b:=true) 5 31 rfl (tr rfl (congrArg _ hb10)) (by decide),rfl⟩) (l9:=(Za 18 127)) (by kernel_rfl) (Zm Z2 7 undef rfl rfl (by kernel_rfl) (hM10 7 rfl) (fun w_=>.inr ⟨Yk (b:=true) 5 31 rfl (tr rfl (congrArg _ hb10)) (by decide),rfl⟩) (l9:=(Za 18 255)) (by kernel_rfl) (Zm Z2 8 undef rfl rfl (by kernel_rfl) (hM10 8 rfl) (fun w_=>.inr ⟨Yk (b:=true) 5 31 rfl (tr rfl (congrArg _ hb10)) (by decide),rfl⟩) (l9:=(Za 18 511)) (by kernel_rfl) (Zm Z2 9 undef rfl rfl (by kernel_rfl) (hM10 9 rfl) (fun w_=>.inr ⟨Yk (b:=true) 5 31 rfl (tr rfl (congrArg _ hb10)) (by decide),rfl⟩) (l9:=(Za 18 1023)) (by kernel_rfl) (Zm Z2 10 undef rfl rfl (by kernel_rfl) (hM10 10 rfl) (fun w_=>.inr ⟨Yk (b:=true) 5 31 rfl (tr rfl (congrArg _ hb10)) (by decide),rfl⟩) (l9:=(Za 18 2047)) (by kernel_rfl) (Zm Z2 11 undef rfl rfl (by kernel_rfl) (hM10 11 rfl) (fun w_=>.inr ⟨Yk (b:=true) 5 31 rfl (tr rfl (congrArg _ hb10)) (by decide),rfl⟩) (l9:=(Za 18 4095)) (by kernel_rfl) (Zm Z2 12 undef rfl rfl (by kernel_rfl) (hM10 12 rfl) (fun w_=>.inr ⟨Yk (b:=true) 5 31 rfl (tr rfl (congrArg _ hb10)) (by decide),rfl⟩) (l9:=(Za 18 8191)) (by kernel_rfl) (Zm Z2 13 undef rfl rfl (by kernel_rfl) (hM10 13 rfl) (fun w_=>.inr ⟨Yk (b:=true) 5 31 rfl (tr rfl (congrArg _ hb10)) (by decide),rfl⟩) (l9:=(Za 18 16383)) (by kernel_rfl) ?_)))))))
     refine Zm Z2 14 undef rfl rfl (by kernel_rfl) (hM10 14 rfl) (fun w_=>.inr ⟨Yk (b:=true) 5 31 rfl (tr rfl (congrArg _ hb10)) (by decide),rfl⟩) (l9:=(Za 18 32767)) (by kernel_rfl) (Zu 15 (by decide) (by decide) (by kernel_rfl) (by kernel_rfl) rfl (Zn (b:=true) 5 31 rfl (tr rfl (congrArg _ hb10)) (by decide) (Zn (b:=true) 5 31 rfl (tr rfl (congrArg _ hb10)) (by decide) (Yc (v:=.bool true) (b:=true) (tr rfl (congrArg _ hb10)) rfl (done (Zv (Zd (Yr rfl rfl (sr (Zc (v:=.bool false) rfl (dn ?_)))))))))))
     refine ZIi (Yd (Zo (Zo (Yd (Zo ?_)))))
     refine Zp (fn:=ZOm) rfl ?_ ⟨false,rfl,h,hC.below⟩ (.inl rfl)
     exact Zi rfl
    ·replace h:=Zk h (not_not_intro ((Jq hb10)))
     refine aF 6 (.pointer (some ⟨b5,0,none⟩)) rfl rfl (hM10 6 rfl) (Yn 5 31 rfl rfl hb10) (fun _=>by exact Z7 0 ZIq rfl sc22.size rfl rfl) (Za 18 127) (aL 7 (u0_0) rfl rfl (hM11 7 rfl) (Yn 5 31 rfl rfl hb10) (fun _ hB_=>by exact Z5 (hC.grow hB_) 1 (u0_0) rfl sc22 rfl rfl) (Za 18 255) (aL 8 (.agg #[u10]) rfl rfl (hM11 8 rfl) (Yn 5 31 rfl rfl hb10) (fun _ hB_=>by exact Yv (hC.grow hB_) 0 [u10] rfl ag55 rfl rfl rfl) (Za 18 511) (aF 9 (.pointer (some ⟨b5,0,none⟩)) rfl rfl (hM10 9 rfl) (Yn 5 31 rfl rfl hb10) (fun _=>by exact Z7 0 ZIq rfl sc22.size rfl rfl) (Za 18 1023) (aL 10 (u0_0) rfl rfl (hM11 10 rfl) (Yn 5 31 rfl rfl hb10) (fun _ hB_=>by exact Z5 (hC.grow hB_) 1 (u0_0) rfl sc22 rfl rfl) (Za 18 2047) (aF 11 (.int .i64 (i10:Int)) rfl rfl (hM10 11 rfl) (Yn 5 31 rfl rfl hb10) (fun _=>by exact Zf (v:=.int .i64 (i10:Int)) rfl) (Za 18 4095) ?_)))))
     obtain ⟨⟨h10,h11⟩,h⟩:=h
     obtain ⟨Ad10,c14,hv11⟩:=Z0 (hC.getP 2 rfl) i10 (show i10 < a0.degrees.length by omega)
     refine aL 12 (.pointer (some (Ad10.add (i10 * 1)))) rfl rfl (hM11 12 rfl) (Yn 5 31 rfl rfl hb10) (fun _ hB_=>by exact Yp (len:=a0.degrees.length) ZIs sc2.size (by exact tr rfl hv11) rfl h10 h11) (Za 18 8191) (aL 13 (.int .i64 (a0.degrees.getD i10 Zyt)) rfl rfl (hM11 13 rfl) (Yn 5 31 rfl rfl hb10) (fun _ hB_=>by exact Xc (.int .i64 (a0.degrees.getD i10 Zyt)) (Yf ((hC.grow hB_).getP 2 rfl) hv11 i10 (show i10 < a0.degrees.length by omega)) sc2 rfl) (Za 18 16383) (aF 14 (.int .i64 (ZA7.wrap ((a0.degrees.getD i10 Zyt)+1))) rfl rfl (hM10 14 rfl) (Yn 5 31 rfl rfl hb10) (fun _=>by exact Zdh rfl rfl) (Za 18 32767) (Zu 15 (by decide) (by decide) (by kernel_rfl) (by kernel_rfl) rfl (Zl 5 31 rfl rfl hb10 ?_))))
     refine Zg [u0_0,.agg #[u10],.int .i64 (ZA7.wrap ((a0.degrees.getD i10 Zyt)+1))] _ Tryz.func152 rfl rfl rfl (Zs7 a0.degrees (a0.images.getD i10 Zyt) (ZA7.wrap ((a0.degrees.getD i10 Zyt)+1)) h _ (hC.getP 2 rfl) (Yq (hC.getP 0 rfl))) (fun ret11 w16 hR11=>?_)
     obtain ⟨r13,rfl,h,hB12⟩:=hR11
     refine⟨_,rfl,?_⟩
     replace hC:=hC.grow hB12
     refine Zl 5 31 rfl rfl hb10 (Jf rfl (Yc (v:=.bool (!r13)) (b:=false) (tr rfl (congrArg _ hb10)) rfl (done (Zv (Zd ?_)))))
     refine Zr rfl (fun hb13=>?_) (fun hb13=>?_)
     ·replace h:=ift h (Xz (Jp hb13))
      refine sr (Zc (v:=.bool false) rfl (dn ?_))
      refine ZIi (Yd (Zo (Zo (Yd (Zo ?_)))))
      refine Zp (fn:=ZOm) rfl ?_ ⟨false,rfl,h,hC.below⟩ (.inl rfl)
      exact Zi rfl
     ·replace h:=Zk h (not_not_intro ((Jq hb13)))
      refine ZIe (Zs (Zd (Zh (Zq rfl rfl (Zb (v:=.int .i64 (ZA7.wrap ((i10:Int)+1))) rfl (done ?_))))))
      replace hC:=hC.sM [1] (M':=[blk b5 32 [u0_0,u0_1]]) (by decide) rfl
      replace hC:=hC.sP [1,2,3] (Ps':=[ZH7 ZIo.sl a0.images [u0_1] fp0,ZH7 ((EI .i64).ty.sl) a0.degrees [u0_0] fp0,ZH7 TAlg a0 [u0_0,u0_1] fp0]) rfl
      exact hK10 () _ _ ⟨(sl ⟨rfl,rfl,rfl,(tr rfl (congrArg _ (Yh hi10 hN10))),trivial⟩),hC⟩ h
   ·clear hC h
    rintro s10 e_ w17 K10 ⟨hS_,hC⟩ h
    rw [ue hS_]
    refine sr (Zt rfl rfl (dn (ZIa (Yi rfl (decide_eq_false (by omega)) ?_))))
    refine wp_exit (Zj (Zj (Z9 ?_)))
    refine Zd (sr (Z6 1 ZIq rfl sc30.size rfl rfl (Z8 hC 0 (u0_1) rfl sc30 rfl rfl (Zj6 (g:=153) [.pointer (some ⟨b5,0,none⟩)] (Zj5 rfl rfl) ?_))))
    refine Zg [u0_1,.func (.func 153) #[] (ZH8 [.pointer (some ⟨b5,0,none⟩)])] _ Tryz.func97 rfl rfl rfl (Zn1 a0.images (fun y0_ K_=>Zgq y0_ a0 K_) h _ (hC.getP 0 rfl) Tryz.func153 rfl rfl (fun y0_ yu0_0_ yf0_ K_ w_ hb_ rq0_ hq_=>Ztv y0_ a0 hq_ w_ rq0_ (Xy ((hC.grow hb_).getP 1 rfl) ((hC.grow hb_).getP 0 rfl)) ((hC.grow hb_).getM 0 rfl))) (fun ret12 w18 hR12=>?_)
    obtain ⟨r12,rfl,h,hB13⟩:=hR12
    refine⟨_,rfl,?_⟩
    replace hC:=hC.grow hB13
    refine Jf rfl (Zc (v:=.bool (!r12)) rfl (dn (ZIi ?_)))
    refine Zp (fn:=ZOm) rfl ?_ ⟨!r12,rfl,h,hC.below⟩ (.inl rfl)
    exact Zi rfl
   ·skip
    exact⟨(sl ⟨rfl,rfl,rfl,rfl,trivial⟩),hC⟩
def Zi0 (a0:ZIb) (a1:Alg) (K:Bool→Prop):Prop :=
 Zeq a1.degrees a0 (fun r10=>K (!r10))
theorem Zty (a0:ZIb) (a1:Alg) {b1:Nat} {bp1:Nat} {u0_0:Value} {u1_0:Value} {u1_1:Value} {fp0:List Nat} {fp1:List Nat} {K:Bool→Prop} (h:Zi0 a0 a1 K) (w0:World) (q0:ZIo.rep a0 [u0_0] fp0 w0) (q1:TAlg.rep a1 [u1_0,u1_1] fp1 w0) (qb1:(blk b1 32 [u1_0,u1_1]).holds w0) (qbp1:(blk bp1 66 [.pointer (some ⟨b1,0,none⟩)]).holds w0) :
  Calls ZId 98 #[.agg #[u0_0],.pointer (some ⟨bp1,0,none⟩)] w0 fun e w'=>∃ (r0:Bool),
   e=.returned (.bool r0)∧K r0∧Bel w0 w':=by
 unfold Zi0 at h
 refine Z4 (args:=[.agg #[u0_0],.pointer (some ⟨bp1,0,none⟩)]) Tryz.func98 rfl 11 Tryz.ntmps98 (ZIc rfl) ?_
 have hC:=ZIt (X:=Nox) w0 [ZH7 TForm a0 [u0_0] fp0,ZH7 TAlg a1 [u1_0,u1_1] fp1,blk b1 32 [u1_0,u1_1],blk bp1 66 [.pointer (some ⟨b1,0,none⟩)]] (by simp only [Zyz,ZAt,or_false,forall_eq_or_imp,forall_eq]; exact⟨q0,q1,qb1,qbp1⟩)
 have hp5:=(hC.getP 0 rfl)
 replace hC:=hC.derive 0 rfl (ZH7 ETerm.ty.sl a0.terms [u0_0] fp0) (fun _=>(Xi hp5)) (fun _ hb_=>hb_)
 have hp7:=(hC.getP 2 rfl)
 replace hC:=hC.derive 2 rfl (ZH7 ((EI .i64).ty.sl) a1.degrees [u1_0] fp1) (fun _=>(Yw hp7).1) (fun _ hb_=>hb_)
 replace hC:=hC.derive 3 rfl (ZH7 ZIo.sl a1.images [u1_1] fp1) (fun _=>(Yw hp7).2) (fun _ hb_=>hb_)
 refine sr (Yl (v:=.agg #[u0_0]) hC [u0_0] rfl rfl fun b10 w10 hB_ hC=>Zc (v:=.bool false) rfl (dn (ZIa ?_)))
 refine Yg 5 Ye [0,1,3,7,0,31,63,127] [0,3,4] [1,2] (by kernel_rfl) (by kernel_rfl) (by kernel_rfl) (fun hM10 hM11 w11 hB_=>?_)
 replace hC:=hC.grow hB_
 refine aL 0 (.pointer (some ⟨b1,0,none⟩)) rfl rfl (hM10 0 rfl) (rfl) (fun _ hB_=>by exact Zaz (.pointer (some ⟨b1,0,none⟩)) ((hC.grow hB_).getP 6 rfl) sc66 rfl rfl) (Za 8 1) (aF 1 (.pointer (some ⟨b1,0,none⟩)) rfl rfl (hM11 1 rfl) (rfl) (fun _=>by exact J9 rfl) (Za 8 3) (aF 2 (.pointer (some ⟨b1,0,none⟩)) rfl rfl (hM11 2 rfl) (rfl) (fun _=>by exact Z7 0 ZIq rfl sc22.size rfl rfl) (Za 8 7) (aL 3 (u1_0) rfl rfl (hM10 3 rfl) (rfl) (fun _ hB_=>by exact Zaz (u1_0) ((hC.grow hB_).getP 5 rfl) sc22 rfl rfl) (Za 8 15) (aL 4 (.agg #[u0_0]) rfl rfl (hM10 4 rfl) (rfl) (fun _ hB_=>by exact Yv (hC.grow hB_) 0 [u0_0] rfl ag55 rfl rfl rfl) (Za 8 31) (Zu 5 (by decide) (by decide) (by kernel_rfl) (by kernel_rfl) rfl ?_)))))
 refine Zg [u1_0,.agg #[u0_0]] _ Tryz.func99 rfl rfl rfl (Zny a1.degrees a0 h _ (hC.getP 1 rfl) (Yq (hC.getP 2 rfl))) (fun ret10 w12 hR10=>?_)
 obtain ⟨r10,rfl,h,hB10⟩:=hR10
 refine⟨_,rfl,?_⟩
 replace hC:=hC.grow hB10
 refine Jf rfl (Zc (v:=.bool (!r10)) rfl (done (Zv (Zd (ZIi ?_)))))
 refine Zp (fn:=Tryz.f98) rfl ?_ ⟨!r10,rfl,h,hC.below⟩ (.inl rfl)
 exact Zi rfl
def Zgs (a0:Alg) (a1:List ZIb) (K:Int→Prop):Prop :=
 Zgr a0 (fun r11=>(if¬ (r11=true) then Zdv true 1 (fun r12=>K r12) else Zet a1 (fun y0_ K_=>Zi0 y0_ a0 K_) (fun r10=>Zdv r10 1 (fun r13=>K r13))))
theorem Ztz (a0:Alg) (a1:List ZIb) {b0:Nat} {u0_0:Value} {u0_1:Value} {u1_0:Value} {fp0:List Nat} {fp1:List Nat} {K:Int→Prop} (h:Zgs a0 a1 K) (w0:World) (q0:TAlg.rep a0 [u0_0,u0_1] fp0 w0) (qb0:(blk b0 32 [u0_0,u0_1]).holds w0) (q1:ZIo.sl.rep a1 [u1_0] fp1 w0) :
  Calls ZId 44 #[.pointer (some ⟨b0,0,none⟩),u1_0] w0 fun e w'=>∃ (r0:Int),
   e=.returned (.int .i64 r0)∧K r0∧Bel w0 w':=by
 unfold Zgs at h
 refine Z4 (args:=[.pointer (some ⟨b0,0,none⟩),u1_0]) Tryz.func44 rfl 18 Tryz.ntmps44 (ZIc rfl) ?_
 have hC:=ZIt (X:=Nox) w0 [ZH7 TAlg a0 [u0_0,u0_1] fp0,ZH7 ZIo.sl a1 [u1_0] fp1,blk b0 32 [u0_0,u0_1]] (by simp only [Zyz,ZAt,or_false,forall_eq_or_imp,forall_eq]; exact⟨q0,q1,qb0⟩)
 have hp4:=(hC.getP 0 rfl)
 replace hC:=hC.derive 0 rfl (ZH7 ((EI .i64).ty.sl) a0.degrees [u0_0] fp0) (fun _=>(Yw hp4).1) (fun _ hb_=>hb_)
 replace hC:=hC.derive 1 rfl (ZH7 ZIo.sl a0.images [u0_1] fp0) (fun _=>(Yw hp4).2) (fun _ hb_=>hb_)
 refine sr (Yl (v:=.pointer (some ⟨b0,0,none⟩)) hC [.pointer (some ⟨b0,0,none⟩)] rfl rfl fun b7 w9 hB_ hC=>Zc (v:=.int .i64 0) rfl (dn (sr (Z8 hC 0 (.pointer (some ⟨b0,0,none⟩)) rfl sc66 rfl rfl (Zaf rfl (Zqq [u0_0,u0_1] (hC.getP 4 rfl) ag32 rfl rfl rfl ?_))))))
 refine Zg [.agg #[u0_0,u0_1]] _ Tryz.func96 rfl rfl rfl (Ztx a0 h _ (Xy (hC.getP 1 rfl) (hC.getP 0 rfl))) (fun ret10 w10 hR10=>?_)
 obtain ⟨r11,rfl,h,hB10⟩:=hR10
 refine⟨_,rfl,?_⟩
 replace hC:=hC.grow hB10
 refine Jf rfl (Zb (v:=.bool (!r11)) rfl ?_)
 refine Xh (!r11) (fun hb10=>?_) (fun hb10=>?_)
 ·replace h:=ift h (Xz (Jp hb10))
  refine Zn (b:=true) 5 11 rfl (tr rfl (congrArg _ hb10)) (by decide) (Zn (b:=true) 5 11 rfl (tr rfl (congrArg _ hb10)) (by decide) (Zn (b:=true) 5 11 rfl (tr rfl (congrArg _ hb10)) (by decide) (Yc (v:=.bool true) (b:=true) (tr rfl (congrArg _ hb10)) rfl (Zc (v:=.bool true) rfl (dn (sr (Zb (v:=.bool true) rfl ?_)))))))
  refine Zg [.bool true,.int .i64 1] _ Tryz.func45 rfl rfl rfl (Zkx true 1 h _) (fun ret11 w11 hR11=>?_)
  obtain ⟨r12,rfl,h,hB11⟩:=hR11
  refine⟨_,rfl,?_⟩
  replace hC:=hC.grow hB11
  refine Zc (v:=.int .i64 r12) rfl (dn (ZIi ?_))
  refine Zp (fn:=Tryz.f44) rfl ?_ ⟨r12,rfl,h,hC.below⟩ (.inl rfl)
  exact Zi rfl
 ·replace h:=Zk h (not_not_intro ((Jq hb10)))
  refine Zl 5 11 rfl rfl hb10 (Zb (v:=u1_0) rfl (Zl 5 11 rfl rfl hb10 (Zj6 (g:=98) [.pointer (some ⟨b7,0,none⟩)] (Zj5 rfl rfl) (Zl 5 11 rfl rfl hb10 ?_))))
  refine Zg [u1_0,.func (.func 98) #[] (ZH8 [.pointer (some ⟨b7,0,none⟩)])] _ Tryz.func97 rfl rfl rfl (Zn1 a1 (fun y0_ K_=>Zi0 y0_ a0 K_) h _ (hC.getP 3 rfl) Tryz.func98 rfl rfl (fun y0_ yu0_0_ yf0_ K_ w_ hb_ rq0_ hq_=>Zty y0_ a0 hq_ w_ rq0_ (Xy ((hC.grow hb_).getP 1 rfl) ((hC.grow hb_).getP 0 rfl)) ((hC.grow hb_).getP 4 rfl) ((hC.grow hb_).getM 0 rfl))) (fun ret12 w12 hR12=>?_)
  obtain ⟨r10,rfl,h,hB12⟩:=hR12
  refine⟨_,rfl,?_⟩
  replace hC:=hC.grow hB12
  refine Yc (v:=.bool r10) (b:=false) (tr rfl (congrArg _ hb10)) rfl (Zc (v:=.bool r10) rfl (dn (sr (Zb (v:=.bool r10) rfl ?_))))
  refine Zg [.bool r10,.int .i64 1] _ Tryz.func45 rfl rfl rfl (Zkx r10 1 h _) (fun ret13 w13 hR13=>?_)
  obtain ⟨r13,rfl,h,hB13⟩:=hR13
  refine⟨_,rfl,?_⟩
  replace hC:=hC.grow hB13
  refine Zc (v:=.int .i64 r13) rfl (dn (ZIi ?_))
  refine Zp (fn:=Tryz.f44) rfl ?_ ⟨r13,rfl,h,hC.below⟩ (.inl rfl)
  exact Zi rfl
def Zi1 (a0:List Term) (a1:Int) (K:Int→Prop):Prop :=
 (if ZA7.wrap (a1 - (a0.length:Int)) < 0 then K (-1) else K (ZA7.wrap (a1 - (a0.length:Int))))
theorem Zt0 (a0:List Term) (a1:Int) {u0_0:Value} {fp0:List Nat} {K:Int→Prop} (h:Zi1 a0 a1 K) (w0:World) (q0:ETerm.ty.sl.rep a0 [u0_0] fp0 w0) :
  Calls ZId 67 #[u0_0,.int .i64 a1] w0 fun e w'=>∃ (r0:Int),
   e=.returned (.int .i64 r0)∧K r0∧Bel w0 w':=by
 unfold Zi1 at h
 refine Z4 (args:=[u0_0,.int .i64 a1]) Tryz.func67 rfl 12 Tryz.ntmps67 (ZIc rfl) ?_
 have hC:=ZIt (X:=Nox) w0 [ZH7 ETerm.ty.sl a0 [u0_0] fp0] (by simp only [Zyz,ZAt,or_false,forall_eq_or_imp,forall_eq]; exact q0)
 refine sr (Zc (v:=.int .i64 0) rfl (dn (sr (Zb (v:=.int .i64 a1) rfl (Zb (v:=u0_0) rfl ?_)))))
 obtain ⟨Ad2,c3,hv4⟩:=Z1 (hC.getP 0 rfl)
 refine Zx Tryz.underlying48 (tr rfl hv4) (Jt rfl rfl (Zc (v:=.int .i64 (ZA7.wrap (a1 - (a0.length:Int)))) rfl (dn (ZIa (sr (Zb (v:=.int .i64 (ZA7.wrap (a1 - (a0.length:Int)))) rfl (Zt rfl rfl (dn ?_))))))))
 refine Zr rfl (fun hb5=>?_) (fun hb5=>?_)
 ·replace h:=ift h (ct hb5)
  refine sr (Zc (v:=.int .i64 (-1)) rfl (dn ?_))
  refine ZIi (Zo ?_)
  refine Zp (fn:=Tryz.f67) rfl ?_ ⟨(-1),rfl,h,hC.below⟩ (.inl rfl)
  exact Zi rfl
 ·replace h:=Zk h (cf hb5)
  refine ZIe (Zd (sr (Zb (v:=.int .i64 (ZA7.wrap (a1 - (a0.length:Int)))) rfl (Zc (v:=.int .i64 (ZA7.wrap (a1 - (a0.length:Int)))) rfl (dn (ZIi ?_))))))
  refine Zp (fn:=Tryz.f67) rfl ?_ ⟨ZA7.wrap (a1 - (a0.length:Int)),rfl,h,hC.below⟩ (.inl rfl)
  exact Zi rfl
def Zeu (a0:ZIb) (a1:Int) (K:Int→Prop):Prop :=
 Zi1 a0.terms a1 (fun r10=>(if r10 < 0 then K (-1) else K r10))
theorem Zt1 (a0:ZIb) (a1:Int) {u0_0:Value} {fp0:List Nat} {K:Int→Prop} (h:Zeu a0 a1 K) (w0:World) (q0:ZIo.rep a0 [u0_0] fp0 w0) :
  Calls ZId 28 #[.agg #[u0_0],.int .i64 a1] w0 fun e w'=>∃ (r0:Int),
   e=.returned (.int .i64 r0)∧K r0∧Bel w0 w':=by
 unfold Zeu at h
 refine Z4 (args:=[.agg #[u0_0],.int .i64 a1]) Tryz.func28 rfl 12 Tryz.ntmps28 (ZIc rfl) ?_
 have hC:=ZIt (X:=Nox) w0 [ZH7 TForm a0 [u0_0] fp0] (by simp only [Zyz,ZAt,or_false,forall_eq_or_imp,forall_eq]; exact q0)
 have hp2:=(hC.getP 0 rfl)
 replace hC:=hC.derive 0 rfl (ZH7 ETerm.ty.sl a0.terms [u0_0] fp0) (fun _=>(Xi hp2)) (fun _ hb_=>hb_)
 refine sr (Yl (v:=.agg #[u0_0]) hC [u0_0] rfl rfl fun b4 w6 hB_ hC=>Zc (v:=.int .i64 0) rfl (dn (sr (Z6 0 Tryz.underlying50 rfl sc48.size rfl rfl (Z8 hC 0 (u0_0) rfl sc48 rfl rfl (Zb (v:=.int .i64 a1) rfl ?_))))))
 refine Zg [u0_0,.int .i64 a1] _ Tryz.func67 rfl rfl rfl (Zt0 a0.terms a1 h _ (hC.getP 0 rfl)) (fun ret7 w9 hR8=>?_)
 obtain ⟨r10,rfl,h,hB10⟩:=hR8
 refine⟨_,rfl,?_⟩
 replace hC:=hC.grow hB10
 refine Zc (v:=.int .i64 r10) rfl (dn (ZIa (sr (Zb (v:=.int .i64 r10) rfl (Zt rfl rfl (dn ?_))))))
 refine Zr rfl (fun hb10=>?_) (fun hb10=>?_)
 ·replace h:=ift h (ct hb10)
  refine sr (Zc (v:=.int .i64 (-1)) rfl (dn ?_))
  refine ZIi (Zo ?_)
  refine Zp (fn:=Tryz.f28) rfl ?_ ⟨(-1),rfl,h,hC.below⟩ (.inl rfl)
  exact Zi rfl
 ·replace h:=Zk h (cf hb10)
  refine ZIe (Zd (sr (Zb (v:=.int .i64 r10) rfl (Zc (v:=.int .i64 r10) rfl (dn (ZIi ?_))))))
  refine Zp (fn:=Tryz.f28) rfl ?_ ⟨r10,rfl,h,hC.below⟩ (.inl rfl)
  exact Zi rfl
def Zgt (a0:List ZIb) (a1:Int) (K:Int→Prop):Prop :=
 (if ZA7.wrap (a1 - (a0.length:Int)) < 0 then K (-1) else Yt (fun i10 (s10:Int) nx10=>Zeu (a0.getD i10 Zyt) s10 (fun r10=>(if r10 < 0 then K (-1) else nx10 r10))) (fun (s10:Int)=>K s10) a0.length 0 (ZA7.wrap (a1 - (a0.length:Int))))
theorem Zt2 (a0:List ZIb) (a1:Int) {u0_0:Value} {fp0:List Nat} {K:Int→Prop} (h:Zgt a0 a1 K) (w0:World) (q0:ZIo.sl.rep a0 [u0_0] fp0 w0) :
  Calls ZId 38 #[u0_0,.int .i64 a1] w0 fun e w'=>∃ (r0:Int),
   e=.returned (.int .i64 r0)∧K r0∧Bel w0 w':=by
 unfold Zgt at h
 refine Z4 (args:=[u0_0,.int .i64 a1]) Tryz.func38 rfl 27 Tryz.ntmps38 (ZIc rfl) ?_
 have hC:=ZIt (X:=Nox) w0 [ZH7 ZIo.sl a0 [u0_0] fp0] (by simp only [Zyz,ZAt,or_false,forall_eq_or_imp,forall_eq]; exact q0)
 refine sr (Zc (v:=.int .i64 0) rfl (dn (sr (Zb (v:=.int .i64 a1) rfl (Zb (v:=u0_0) rfl ?_)))))
 obtain ⟨Ad2,c3,hv4⟩:=Z1 (hC.getP 0 rfl)
 refine Zx ZOj (tr rfl hv4) (Jt rfl rfl (Zc (v:=.int .i64 (ZA7.wrap (a1 - (a0.length:Int)))) rfl (dn (ZIa (sr (Zb (v:=.int .i64 (ZA7.wrap (a1 - (a0.length:Int)))) rfl (Zt rfl rfl (dn ?_))))))))
 refine Zr rfl (fun hb5=>?_) (fun hb5=>?_)
 ·replace h:=ift h (ct hb5)
  refine sr (Zc (v:=.int .i64 (-1)) rfl (dn ?_))
  refine ZIi (Zo ?_)
  refine Zp (fn:=Tryz.f38) rfl ?_ ⟨(-1),rfl,h,hC.below⟩ (.inl rfl)
  exact Zi rfl
 ·replace h:=Zk h (cf hb5)
  refine ZIe (Zd (ZIa (sr (Zc (v:=.int .i64 0) rfl (dn (ZIj ?_))))))
  have hN10:a0.length≤9223372036854775807:=Xp (hC.getP 0 rfl)
  refine Y9 (S:=Int) _ _ (fun i10 s10 e_ w_=>Z3 e_ [(0,u0_0),(1,.int .i64 s10),(5,.int .i64 (i10:Int))]∧Ctx Nox w0 w_ [] [ZH7 ZIo.sl a0 [u0_0] fp0]) a0.length ?_ ?_ (s0:=(ZA7.wrap (a1 - (a0.length:Int)))) ?_ h
  ·clear hC h
   rintro i10 s10 e_ w10 nx10 K10 hi10 ⟨hS_,hC⟩ h hK10
   rw [ue hS_]
   refine ZIa (sr (Zb (v:=.int .i64 (i10:Int)) rfl (Zb (v:=u0_0) rfl ?_)))
   obtain ⟨Ad10,c10,hv11⟩:=Z1 (hC.getP 0 rfl)
   refine Zx ZOj (tr rfl hv11) (Zt rfl rfl (dn (Yr rfl (decide_eq_true (by omega)) (ZIe (Zd (ZIa (ZIj (sr (Zb (v:=u0_0) rfl (Zb (v:=.int .i64 (i10:Int)) rfl ?_))))))))))
   obtain ⟨Ad11,c11,hv10⟩:=Z0 (hC.getP 0 rfl) i10 hi10
   refine Xb (len:=a0.length) ZOj ag50.size (tr rfl hv10) rfl (ZIv _) (ZJi.2 hi10) ?_
   obtain ⟨cs_,hl10,hc10,hr10⟩:=Xs (hC.getP 0 rfl) hv10 i10 hi10
   obtain ⟨u10,rfl⟩:=ZI4.1 hl10
   clear hl10
   rw [Xt _ _ hi10] at hr10
   have hp10:=hr10
   replace hC:=hC.derive 0 rfl (ZH7 ETerm.ty.sl ((a0.getD i10 Zyt).terms) [u10] fp0) (fun _=>(Xi hp10)) (fun _ hb_=>hb_)
   refine Zav [u10] hc10 ag50 rfl rfl (Zb (v:=.int .i64 s10) rfl ?_)
   refine Zg [.agg #[u10],.int .i64 s10] _ Tryz.func28 rfl rfl rfl (Zt1 (a0.getD i10 Zyt) s10 h _ (Yq (hC.getP 0 rfl))) (fun ret10 w11 hR10=>?_)
   obtain ⟨r10,rfl,h,hB10⟩:=hR10
   refine⟨_,rfl,?_⟩
   replace hC:=hC.grow hB10
   refine Zc (v:=.int .i64 r10) rfl (dn (sr (Zb (v:=.int .i64 r10) rfl (Zt rfl rfl (dn ?_)))))
   refine Zr rfl (fun hb10=>?_) (fun hb10=>?_)
   ·replace h:=ift h (ct hb10)
    refine sr (Zc (v:=.int .i64 (-1)) rfl (dn ?_))
    refine ZIi (Yd (Zo (Zo (Yd (Zo ?_)))))
    refine Zp (fn:=Tryz.f38) rfl ?_ ⟨(-1),rfl,h,hC.below⟩ (.inl rfl)
    exact Zi rfl
   ·replace h:=Zk h (cf hb10)
    refine ZIe (Zs (Zd (Zh (Zb (v:=.int .i64 (i10:Int)) rfl (Zq rfl rfl (Zc (v:=.int .i64 (ZA7.wrap ((i10:Int)+1))) rfl (done ?_)))))))
    replace hC:=hC.sP [1] (Ps':=[ZH7 ZIo.sl a0 [u0_0] fp0]) rfl
    exact hK10 r10 _ _ ⟨(sl ⟨rfl,rfl,(tr rfl (congrArg _ (Yh hi10 hN10))),trivial⟩),hC⟩ h
  ·clear hC h
   rintro s10 e_ w12 K10 ⟨hS_,hC⟩ h
   rw [ue hS_]
   refine ZIa (sr (Zb (v:=.int .i64 (a0.length:Int)) rfl (Zb (v:=u0_0) rfl ?_)))
   obtain ⟨Ad12,c12,hv12⟩:=Z1 (hC.getP 0 rfl)
   refine Zx ZOj (tr rfl hv12) (Zt rfl rfl (dn (Yi rfl (decide_eq_false (by omega)) ?_)))
   refine wp_exit (Zj (Zj (Z9 ?_)))
   refine Zd (sr (Zb (v:=.int .i64 s10) rfl (Zc (v:=.int .i64 s10) rfl (dn (ZIi ?_)))))
   refine Zp (fn:=Tryz.f38) rfl ?_ ⟨s10,rfl,h,hC.below⟩ (.inl rfl)
   exact Zi rfl
  ·skip
   exact⟨(sl ⟨rfl,rfl,rfl,trivial⟩),hC⟩
def Zi2 (a0:List Int) (a1:Int) (K:Int→Prop):Prop :=
 (if ZA7.wrap (a1 - (a0.length:Int)) < 0 then K (-1) else K (ZA7.wrap (a1 - (a0.length:Int))))
theorem Zt3 (a0:List Int) (a1:Int) {u0_0:Value} {fp0:List Nat} {K:Int→Prop} (h:Zi2 a0 a1 K) (w0:World) (q0:((EI .i64).ty.sl).rep a0 [u0_0] fp0 w0) :
  Calls ZId 37 #[u0_0,.int .i64 a1] w0 fun e w'=>∃ (r0:Int),
   e=.returned (.int .i64 r0)∧K r0∧Bel w0 w':=by
 unfold Zi2 at h
 refine Z4 (args:=[u0_0,.int .i64 a1]) Tryz.func37 rfl 12 Tryz.ntmps37 (ZIc rfl) ?_
 have hC:=ZIt (X:=Nox) w0 [ZH7 ((EI .i64).ty.sl) a0 [u0_0] fp0] (by simp only [Zyz,ZAt,or_false,forall_eq_or_imp,forall_eq]; exact q0)
 refine sr (Zc (v:=.int .i64 0) rfl (dn (sr (Zb (v:=.int .i64 a1) rfl (Zb (v:=u0_0) rfl ?_)))))
 obtain ⟨Ad2,c3,hv4⟩:=Z1 (hC.getP 0 rfl)
 refine Zx ZIs (tr rfl hv4) (Jt rfl rfl (Zc (v:=.int .i64 (ZA7.wrap (a1 - (a0.length:Int)))) rfl (dn (ZIa (sr (Zb (v:=.int .i64 (ZA7.wrap (a1 - (a0.length:Int)))) rfl (Zt rfl rfl (dn ?_))))))))
 refine Zr rfl (fun hb5=>?_) (fun hb5=>?_)
 ·replace h:=ift h (ct hb5)
  refine sr (Zc (v:=.int .i64 (-1)) rfl (dn ?_))
  refine ZIi (Zo ?_)
  refine Zp (fn:=Tryz.f37) rfl ?_ ⟨(-1),rfl,h,hC.below⟩ (.inl rfl)
  exact Zi rfl
 ·replace h:=Zk h (cf hb5)
  refine ZIe (Zd (sr (Zb (v:=.int .i64 (ZA7.wrap (a1 - (a0.length:Int)))) rfl (Zc (v:=.int .i64 (ZA7.wrap (a1 - (a0.length:Int)))) rfl (dn (ZIi ?_))))))
  refine Zp (fn:=Tryz.f37) rfl ?_ ⟨ZA7.wrap (a1 - (a0.length:Int)),rfl,h,hC.below⟩ (.inl rfl)
  exact Zi rfl
def Zgu (a0:Alg) (a1:Int) (K:Int→Prop):Prop :=
 Zi2 a0.degrees a1 (fun r10=>(if r10 < 0 then K (-1) else Zgt a0.images r10 (fun r11=>(if r11 < 0 then K (-1) else K r11))))
theorem Zt4 (a0:Alg) (a1:Int) {u0_0:Value} {u0_1:Value} {fp0:List Nat} {K:Int→Prop} (h:Zgu a0 a1 K) (w0:World) (q0:TAlg.rep a0 [u0_0,u0_1] fp0 w0) :
  Calls ZId 10 #[.agg #[u0_0,u0_1],.int .i64 a1] w0 fun e w'=>∃ (r0:Int),
   e=.returned (.int .i64 r0)∧K r0∧Bel w0 w':=by
 unfold Zgu at h
 refine Z4 (args:=[.agg #[u0_0,u0_1],.int .i64 a1]) Tryz.func10 rfl 18 Tryz.ntmps10 (ZIc rfl) ?_
 have hC:=ZIt (X:=Nox) w0 [ZH7 TAlg a0 [u0_0,u0_1] fp0] (by simp only [Zyz,ZAt,or_false,forall_eq_or_imp,forall_eq]; exact q0)
 have hp2:=(hC.getP 0 rfl)
 replace hC:=hC.derive 0 rfl (ZH7 ((EI .i64).ty.sl) a0.degrees [u0_0] fp0) (fun _=>(Yw hp2).1) (fun _ hb_=>hb_)
 replace hC:=hC.derive 1 rfl (ZH7 ZIo.sl a0.images [u0_1] fp0) (fun _=>(Yw hp2).2) (fun _ hb_=>hb_)
 refine sr (Yl (v:=.agg #[u0_0,u0_1]) hC [u0_0,u0_1] rfl rfl fun b5 w7 hB_ hC=>Zc (v:=.int .i64 0) rfl (dn (sr (Z6 0 ZOq rfl sc22.size rfl rfl (Z8 hC 0 (u0_0) rfl sc22 rfl rfl (Zb (v:=.int .i64 a1) rfl ?_))))))
 refine Zg [u0_0,.int .i64 a1] _ Tryz.func37 rfl rfl rfl (Zt3 a0.degrees a1 h _ (hC.getP 1 rfl)) (fun ret8 w10 hR9=>?_)
 obtain ⟨r10,rfl,h,hB10⟩:=hR9
 refine⟨_,rfl,?_⟩
 replace hC:=hC.grow hB10
 refine Zc (v:=.int .i64 r10) rfl (dn (ZIa (sr (Zb (v:=.int .i64 r10) rfl (Zt rfl rfl (dn ?_))))))
 refine Zr rfl (fun hb10=>?_) (fun hb10=>?_)
 ·replace h:=ift h (ct hb10)
  refine sr (Zc (v:=.int .i64 (-1)) rfl (dn ?_))
  refine ZIi (Zo ?_)
  refine Zp (fn:=Tryz.f10) rfl ?_ ⟨(-1),rfl,h,hC.below⟩ (.inl rfl)
  exact Zi rfl
 ·replace h:=Zk h (cf hb10)
  refine ZIe (Zd (sr (Z6 1 ZOq rfl sc23.size rfl rfl (Z8 hC 0 (u0_1) rfl sc23 rfl rfl (Zb (v:=.int .i64 r10) rfl ?_)))))
  refine Zg [u0_1,.int .i64 r10] _ Tryz.func38 rfl rfl rfl (Zt2 a0.images r10 h _ (hC.getP 0 rfl)) (fun ret10 w11 hR10=>?_)
  obtain ⟨r11,rfl,h,hB11⟩:=hR10
  refine⟨_,rfl,?_⟩
  replace hC:=hC.grow hB11
  refine Zc (v:=.int .i64 r11) rfl (dn (ZIa (sr (Zb (v:=.int .i64 r11) rfl (Zt rfl rfl (dn ?_))))))
  refine Zr rfl (fun hb11=>?_) (fun hb11=>?_)
  ·replace h:=ift h (ct hb11)
   refine sr (Zc (v:=.int .i64 (-1)) rfl (dn ?_))
   refine ZIi (Zo ?_)
   refine Zp (fn:=Tryz.f10) rfl ?_ ⟨(-1),rfl,h,hC.below⟩ (.inl rfl)
   exact Zi rfl
  ·replace h:=Zk h (cf hb11)
   refine ZIe (Zd (sr (Zb (v:=.int .i64 r11) rfl (Zc (v:=.int .i64 r11) rfl (dn (ZIi ?_))))))
   refine Zp (fn:=Tryz.f10) rfl ?_ ⟨r11,rfl,h,hC.below⟩ (.inl rfl)
   exact Zi rfl
def Zgv (a0:List ZIb) (K:List ZIb→Prop):Prop :=
 ((0≤(a0.length:Int)∧(a0.length:Int) * 24≤281474976710656)∧Yt (fun i10 (s10:(List ZIb)) nx10=>Zgm (a0.getD i10 Zyt) (fun r10=>((0≤(i10:Int)∧(i10:Int) < (s10.length:Int))∧nx10 (s10.set i10 r10)))) (fun (s10:(List ZIb))=>K s10) a0.length 0 (Zy0 ((a0.length:Int).toNat) ((⟨[]⟩:ZIb):ZIb)))
theorem Zt5 (a0:List ZIb) {u0_0:Value} {fp0:List Nat} {K:List ZIb→Prop} (h:Zgv a0 K) (w0:World) (q0:ZIo.sl.rep a0 [u0_0] fp0 w0) :
  Calls ZId 42 #[u0_0] w0 fun e w'=>∃ (r0:List ZIb) (z0_0:Value) (fz0:List Nat),
   e=.returned (z0_0)∧K r0∧(ZIm (ZOd 55 (Ya 162)) r0 [z0_0] fz0).holds w'∧(∀ b,b∈fz0→w0.heap.size≤b)∧Bel w0 w':=by
 unfold Zgv at h
 refine Z4 (args:=[u0_0]) Tryz.func42 rfl 23 Tryz.ntmps42 (ZIc rfl) ?_
 have hC:=ZIt (X:=Nox) w0 [ZH7 ZIo.sl a0 [u0_0] fp0] (by simp only [Zyz,ZAt,or_false,forall_eq_or_imp,forall_eq]; exact q0)
 refine sr (Zc (v:=.slice none 0 0) rfl (dn (sr (Zb (v:=u0_0) rfl ?_))))
 obtain ⟨Ad2,c3,hv4⟩:=Z1 (hC.getP 0 rfl)
 refine Zx ZOj (tr rfl hv4) ?_
 obtain ⟨hm7,h⟩:=h
 refine Zck (sz:=1) hC (Zy0 ((a0.length:Int).toNat) (.slice none 0 0)) ZIw Zkz (tr rfl (congrArg (Value.int .i64) (Int.toNat_of_nonneg hm7.1).symm)) (tr rfl (congrArg (Value.int .i64) (Int.toNat_of_nonneg hm7.1).symm)) (by omega) (by omega) (Znp _) fun v5 w6 hB_ hC=>?_
 replace hC:=hC.pushM0 (Ym (Ya 162) (Zy0 ((a0.length:Int).toNat) ((⟨[]⟩:ZIb):ZIb)) (Zy0 ((a0.length:Int).toNat) (.slice none 0 0)) (Zy0 ((a0.length:Int).toNat) [])) (Znr (Za4 (Zbz _ _ _)) rfl _) (Znq _)
 replace hC:=hC.gather (c:=ZIm (ZOd 55 (Ya 162)) (Zy0 ((a0.length:Int).toNat) ((⟨[]⟩:ZIb):ZIb)) [v5] ((ZI5 (Zzn v5))++(Zy0 ((a0.length:Int).toNat) ([]:List Nat)).flatten)) (fun x_ hx_=>(Zzu.1 hx_).symm) (fun h1_ h2_ hd_=>Zal (by rw [List.length_replicate]; exact h2_) h1_ (fun b_ hb_ hb2_=>hd_ b_ hb2_ hb_))
 refine Zc (v:=v5) rfl (dn (ZIa (sr (Zc (v:=.int .i64 0) rfl (dn (ZIj ?_))))))
 have hN10:a0.length≤9223372036854775807:=Xp (hC.getP 0 rfl)
 refine Y9 (S:=(List ZIb)) _ _ (fun i10 s10 e_ w_=>∃ (v10:Value),∃ (f10:List Nat),Z3 e_ [(0,u0_0),(3,v10),(4,.int .i64 (i10:Int))]∧Ctx Nox w0 w_ [ZIm (ZOd 55 (Ya 162)) s10 [v10] f10] [ZH7 ZIo.sl a0 [u0_0] fp0]) a0.length ?_ ?_ (s0:=(Zy0 ((a0.length:Int).toNat) ((⟨[]⟩:ZIb):ZIb))) ?_ h
 ·clear hC h
  rintro i10 s10 e_ w10 nx10 K10 hi10 ⟨v10,f10,hS_,hC⟩ h hK10
  rw [ue hS_]
  refine ZIa (sr (Zb (v:=.int .i64 (i10:Int)) rfl (Zb (v:=u0_0) rfl ?_)))
  obtain ⟨Ad10,c10,hv12⟩:=Z1 (hC.getP 0 rfl)
  refine Zx ZOj (tr rfl hv12) (Zt rfl rfl (dn (Yr rfl (decide_eq_true (by omega)) (ZIe (Zd (ZIa (ZIj (Zh (Zb (v:=v10) rfl (Zb (v:=.int .i64 (i10:Int)) rfl (Zb (v:=u0_0) rfl ?_)))))))))))
  refine Zb (v:=.int .i64 (i10:Int)) rfl ?_
  obtain ⟨Ad11,c11,hv10⟩:=Z0 (hC.getP 0 rfl) i10 hi10
  refine Xb (len:=a0.length) ZOj ag50.size (tr rfl hv10) rfl (ZIv _) (ZJi.2 hi10) ?_
  obtain ⟨cs_,hl10,hc10,hr10⟩:=Xs (hC.getP 0 rfl) hv10 i10 hi10
  obtain ⟨u11,rfl⟩:=ZI4.1 hl10
  clear hl10
  rw [Xt _ _ hi10] at hr10
  have hp10:=hr10
  replace hC:=hC.derive 0 rfl (ZH7 ETerm.ty.sl ((a0.getD i10 Zyt).terms) [u11] fp0) (fun _=>(Xi hp10)) (fun _ hb_=>hb_)
  refine Zav [u11] hc10 ag50 rfl rfl ?_
  refine Zg [.agg #[u11]] _ Tryz.func30 rfl rfl rfl (Ztf (a0.getD i10 Zyt) h _ (Yq (hC.getP 0 rfl))) (fun ret10 w11 hR10=>?_)
  obtain ⟨r10,u10,f11,rfl,h,hr11,hf10,hB10⟩:=hR10
  refine⟨_,rfl,?_⟩
  replace hC:=hC.push hB10 (ZIm (Ya 162) r10 [u10] f11) hr11 hf10
  obtain ⟨ho10,hf11⟩:=Xf (hC.getM 0 rfl)
  subst hf11
  replace hC:=hC.recast (c:=own 162 9 u10 r10.terms.length (ETerm.encs r10.terms)) (fun _ h_=>h_) (fun _=>ho10)
  obtain ⟨⟨h10,h11⟩,h⟩:=h
  obtain ⟨g10,cap10,hv11⟩:=Znt (hC.getM 1 rfl) (Nat.lt_of_le_of_lt (Nat.zero_le _) (show i10 < s10.length by omega))
  refine Zao (i10 * 1) ZIw ag55.size (tr rfl hv11) rfl h10 h11 rfl ?_
  replace hC:=hC.recast (c:=ZIm (Ya 162) r10 [u10] (ZI5 (Zzn u10))) (fun _ h_=>h_) (fun h_=>Za4 (Jr h_))
  replace hC:=hC.sM [1,0] (M':=[ZIm (ZOd 55 (Ya 162)) s10 [v10] f10,ZIm (Ya 162) r10 [u10] (ZI5 (Zzn u10))]) (by decide) rfl
  refine Znu (u:=.agg #[u10]) hC (show i10 < s10.length by omega) hv11 ag55.size rfl rfl rfl rfl fun f12 w12 hC=>done (Zs (Zd (Zh (Zb (v:=.int .i64 (i10:Int)) rfl (Zq rfl rfl (Zc (v:=.int .i64 (ZA7.wrap ((i10:Int)+1))) rfl (done ?_)))))))
  replace hC:=hC.sP [1] (Ps':=[ZH7 ZIo.sl a0 [u0_0] fp0]) rfl
  exact hK10 (s10.set i10 r10) _ _ ⟨v10,f12,(sl ⟨rfl,rfl,(tr rfl (congrArg _ (Yh hi10 hN10))),trivial⟩),hC⟩ h
 ·clear hC h
  rintro s10 e_ w13 K10 ⟨v10,f10,hS_,hC⟩ h
  rw [ue hS_]
  refine ZIa (sr (Zb (v:=.int .i64 (a0.length:Int)) rfl (Zb (v:=u0_0) rfl ?_)))
  obtain ⟨Ad12,c12,hv13⟩:=Z1 (hC.getP 0 rfl)
  refine Zx ZOj (tr rfl hv13) (Zt rfl rfl (dn (Yi rfl (decide_eq_false (by omega)) ?_)))
  refine wp_exit (Zj (Zj (Z9 ?_)))
  refine Zd (sr (Zb (v:=v10) rfl (Zc (v:=v10) rfl (dn (ZIi ?_)))))
  refine Zp (fn:=Tryz.f42) rfl ?_ ⟨s10,v10,f10,rfl,h,(hC.getM 0 rfl),(Zbl hC 0 rfl),hC.below⟩ (.inl rfl)
  exact Zi rfl
 ·skip
  exact⟨v5,((ZI5 (Zzn v5))++(Zy0 ((a0.length:Int).toNat) ([]:List Nat)).flatten),(sl ⟨rfl,rfl,rfl,trivial⟩),hC⟩
def Zcs (a0:Alg) (K:Alg→Prop):Prop :=
 Zgh a0.degrees (fun r10=>Zgv a0.images (fun r11=>K (⟨r10,r11⟩:Alg)))
theorem Zk0 (a0:Alg) {u0_0:Value} {u0_1:Value} {fp0:List Nat} {K:Alg→Prop} (h:Zcs a0 K) (w0:World) (q0:TAlg.rep a0 [u0_0,u0_1] fp0 w0) :
  Calls ZId 12 #[.agg #[u0_0,u0_1]] w0 fun e w'=>∃ (r0:Alg) (z0_0:Value) (z0_1:Value) (fz0:List Nat),
   e=.returned (.agg #[z0_0,z0_1])∧K r0∧(ZIm (Zek 2 162 55) r0 [z0_0,z0_1] fz0).holds w'∧(∀ b,b∈fz0→w0.heap.size≤b)∧Bel w0 w':=by
 unfold Zcs at h
 refine Z4 (args:=[.agg #[u0_0,u0_1]]) Tryz.func12 rfl 13 Tryz.ntmps12 (ZIc rfl) ?_
 have hC:=ZIt (X:=Nox) w0 [ZH7 TAlg a0 [u0_0,u0_1] fp0] (by simp only [Zyz,ZAt,or_false,forall_eq_or_imp,forall_eq]; exact q0)
 have hp2:=(hC.getP 0 rfl)
 replace hC:=hC.derive 0 rfl (ZH7 ((EI .i64).ty.sl) a0.degrees [u0_0] fp0) (fun _=>(Yw hp2).1) (fun _ hb_=>hb_)
 replace hC:=hC.derive 1 rfl (ZH7 ZIo.sl a0.images [u0_1] fp0) (fun _=>(Yw hp2).2) (fun _ hb_=>hb_)
 refine sr (Yl (v:=.agg #[u0_0,u0_1]) hC [u0_0,u0_1] rfl rfl fun b5 w7 hB_ hC=>Yj hC [.slice none 0 0,.slice none 0 0] z32 rfl fun b8 w10 hB_ hC=>dn (sr (Yj hC [.slice none 0 0,.slice none 0 0] z32 rfl fun b10 w11 hB_ hC=>dn (sr (Z6 0 ZOq rfl sc22.size rfl rfl (Z8 hC 2 (u0_0) rfl sc22 rfl rfl ?_))))))
 refine Zg [u0_0] _ Tryz.func41 rfl rfl rfl (Zta a0.degrees h _ (hC.getP 1 rfl)) (fun ret10 w12 hR10=>?_)
 obtain ⟨r10,u10,f11,rfl,h,hr10,hf10,hB10⟩:=hR10
 refine⟨_,rfl,?_⟩
 replace hC:=hC.push hB10 (ZIm (ZOd 2 ((EI .i64).tr)) r10 [u10] f11) hr10 hf10
 obtain ⟨ho10,hf11⟩:=Zac (hC.getM 0 rfl).1
 subst hf11
 replace hC:=hC.recast (c:=own 2 1 u10 r10.length ((EI .i64).encs r10)) (fun _ h_=>h_) (fun _=>ho10)
 refine Z6 0 ZIq rfl sc22.size rfl rfl (Zw (v:=u10) hC 1 [u10] [u10,.slice none 0 0] rfl sc22.size rfl rfl (Zcm (hC.getM 0 rfl)) rfl (Y6 (Xn (hC.getM 0 rfl)) rfl) (ZIc rfl) rfl fun w13 hC=>dn (sr (Z6 1 ZOq rfl sc23.size rfl rfl (Z8 hC 3 (u0_1) rfl sc23 rfl rfl ?_))))
 refine Zg [u0_1] _ Tryz.func42 rfl rfl rfl (Zt5 a0.images h _ (hC.getP 0 rfl)) (fun ret11 w14 hR11=>?_)
 obtain ⟨r11,u11,f10,rfl,h,hr11,hf12,hB11⟩:=hR11
 refine⟨_,rfl,?_⟩
 replace hC:=hC.push hB11 (ZIm (ZOd 55 (Ya 162)) r11 [u11] f10) hr11 hf12
 refine Z6 1 ZIq rfl sc30.size rfl rfl (Zw (v:=u11) hC 2 [u11] [u10,u11] rfl sc30.size rfl rfl (Zff (Tr.trep _ (hC.getM 0 rfl).1)) rfl (Y6 (Zbw (Tr.trep _ (hC.getM 0 rfl).1)) rfl) (ZIc rfl) rfl fun w15 hC=>dn (sr (Yy hC 2 [u10,u11] rfl ag32 rfl rfl rfl (Zw (v:=.agg #[u10,u11]) hC 3 [u10,u11] [u10,u11] rfl ag32.size rfl rfl rfl rfl (Y6 (Xn (hC.getM 1 rfl)) (Y6 (Zbw (Tr.trep _ (hC.getM 0 rfl).1)) rfl)) (ZIc rfl) rfl fun w16 hC=>dn (ZIi ?_)))))
 refine Zp (fn:=Tryz.f12) rfl ?_ ⟨(⟨r10,r11⟩:Alg),u10,u11,((ZI5 (Zzn u10))++f10),rfl,h,(Zr8 (Jr (hC.getM 1 rfl)) (hC.getM 0 rfl) (fun x hx hx'=>hC.mm 1 0 rfl rfl (by decide) x hx hx')),(fun b hb=>(Zzu.1 hb).elim (fun hb=>(X5 hC 1 rfl) b hb) (fun hb=>(Zbl hC 0 rfl) b hb)),hC.below⟩ (.inl rfl)
 exact Zag hC 3 rfl ag32 rfl rfl
def Zdw (a0:Alg) (a1:Alg) (K:Bool→Prop):Prop :=
 Zgj a0.degrees a1.degrees (fun r10=>(if¬ (r10=true) then K false else Ziv a0.images a1.images (fun r11=>(if¬ (r11=true) then K false else K true))))
theorem Zt6 (a0:Alg) (a1:Alg) {u0_0:Value} {u0_1:Value} {u1_0:Value} {u1_1:Value} {fp0:List Nat} {fp1:List Nat} {K:Bool→Prop} (h:Zdw a0 a1 K) (w0:World) (q0:TAlg.rep a0 [u0_0,u0_1] fp0 w0) (q1:TAlg.rep a1 [u1_0,u1_1] fp1 w0) :
  Calls ZId 15 #[.agg #[u0_0,u0_1],.agg #[u1_0,u1_1]] w0 fun e w'=>∃ (r0:Bool),
   e=.returned (.bool r0)∧K r0∧Bel w0 w':=by
 unfold Zdw at h
 refine Z4 (args:=[.agg #[u0_0,u0_1],.agg #[u1_0,u1_1]]) Tryz.func15 rfl 17 Tryz.ntmps15 (ZIc rfl) ?_
 have hC:=ZIt (X:=Nox) w0 [ZH7 TAlg a0 [u0_0,u0_1] fp0,ZH7 TAlg a1 [u1_0,u1_1] fp1] (by simp only [Zyz,ZAt,or_false,forall_eq_or_imp,forall_eq]; exact⟨q0,q1⟩)
 have hp3:=(hC.getP 0 rfl)
 replace hC:=hC.derive 0 rfl (ZH7 ((EI .i64).ty.sl) a0.degrees [u0_0] fp0) (fun _=>(Yw hp3).1) (fun _ hb_=>hb_)
 replace hC:=hC.derive 1 rfl (ZH7 ZIo.sl a0.images [u0_1] fp0) (fun _=>(Yw hp3).2) (fun _ hb_=>hb_)
 have hp6:=(hC.getP 3 rfl)
 replace hC:=hC.derive 3 rfl (ZH7 ((EI .i64).ty.sl) a1.degrees [u1_0] fp1) (fun _=>(Yw hp6).1) (fun _ hb_=>hb_)
 replace hC:=hC.derive 4 rfl (ZH7 ZIo.sl a1.images [u1_1] fp1) (fun _=>(Yw hp6).2) (fun _ hb_=>hb_)
 refine sr (Yl (v:=.agg #[u0_0,u0_1]) hC [u0_0,u0_1] rfl rfl fun b9 w10 hB_ hC=>Yl (v:=.agg #[u1_0,u1_1]) hC [u1_0,u1_1] rfl rfl fun b10 w11 hB_ hC=>Zc (v:=.bool false) rfl (dn (ZIa (sr (Z6 0 ZIq rfl sc22.size rfl rfl (Z8 hC 1 (u0_0) rfl sc22 rfl rfl (Z6 0 ZIq rfl sc22.size rfl rfl (Z8 hC 0 (u1_0) rfl sc22 rfl rfl ?_))))))))
 refine Zg [u0_0,u1_0] _ Tryz.func25 rfl rfl rfl (Ztc a0.degrees a1.degrees h _ (hC.getP 3 rfl) (hC.getP 1 rfl)) (fun ret10 w12 hR10=>?_)
 obtain ⟨r10,rfl,h,hB10⟩:=hR10
 refine⟨_,rfl,?_⟩
 replace hC:=hC.grow hB10
 refine Jf rfl (dn ?_)
 refine Zr rfl (fun hb10=>?_) (fun hb10=>?_)
 ·replace h:=ift h (Xz (Jp hb10))
  refine sr (Zc (v:=.bool false) rfl (dn ?_))
  refine ZIi (Zo ?_)
  refine Zp (fn:=Tryz.f15) rfl ?_ ⟨false,rfl,h,hC.below⟩ (.inl rfl)
  exact Zi rfl
 ·replace h:=Zk h (not_not_intro ((Jq hb10)))
  refine ZIe (Zd (ZIa (sr (Z6 1 ZIq rfl sc30.size rfl rfl (Z8 hC 1 (u0_1) rfl sc30 rfl rfl (Z6 1 ZIq rfl sc30.size rfl rfl (Z8 hC 0 (u1_1) rfl sc30 rfl rfl ?_)))))))
  refine Zg [u0_1,u1_1] _ Tryz.func51 rfl rfl rfl (Ztj a0.images a1.images h _ (hC.getP 2 rfl) (hC.getP 0 rfl)) (fun ret11 w13 hR11=>?_)
  obtain ⟨r11,rfl,h,hB11⟩:=hR11
  refine⟨_,rfl,?_⟩
  replace hC:=hC.grow hB11
  refine Jf rfl (dn ?_)
  refine Zr rfl (fun hb11=>?_) (fun hb11=>?_)
  ·replace h:=ift h (Xz (Jp hb11))
   refine sr (Zc (v:=.bool false) rfl (dn ?_))
   refine ZIi (Zo ?_)
   refine Zp (fn:=Tryz.f15) rfl ?_ ⟨false,rfl,h,hC.below⟩ (.inl rfl)
   exact Zi rfl
  ·replace h:=Zk h (not_not_intro ((Jq hb11)))
   refine ZIe (Zd (sr (Zc (v:=.bool true) rfl (dn (ZIi ?_)))))
   refine Zp (fn:=Tryz.f15) rfl ?_ ⟨true,rfl,h,hC.below⟩ (.inl rfl)
   exact Zi rfl
def Zdx (a0:List Int) (K:Int→Prop):Prop :=
 Yt (fun i10 (s10:Unit) nx10=>(if a0.getD i10 Zyt≠0 then K (a0.getD i10 Zyt) else nx10 ())) (fun (s10:Unit)=>K 0) a0.length 0 ()
theorem Zk1 (a0:List Int) {u0_0:Value} {fp0:List Nat} {K:Int→Prop} (h:Zdx a0 K) (w0:World) (q0:((EI .i64).ty.sl).rep a0 [u0_0] fp0 w0) :
  Calls ZId 43 #[u0_0] w0 fun e w'=>∃ (r0:Int),
   e=.returned (.int .i64 r0)∧K r0∧Bel w0 w':=by
 unfold Zdx at h
 refine Z4 (args:=[u0_0]) Tryz.func43 rfl 15 Tryz.ntmps43 (ZIc rfl) ?_
 have hC:=ZIt (X:=Nox) w0 [ZH7 ((EI .i64).ty.sl) a0 [u0_0] fp0] (by simp only [Zyz,ZAt,or_false,forall_eq_or_imp,forall_eq]; exact q0)
 refine sr (Zc (v:=.int .i64 0) rfl (dn (ZIa (sr (Zb (v:=u0_0) rfl ?_)))))
 obtain ⟨Ad2,c3,hv4⟩:=Z1 (hC.getP 0 rfl)
 refine Zx ZIs (tr rfl hv4) (Zb (v:=.int .i64 0) rfl (dn (ZIj ?_)))
 have hN10:a0.length≤9223372036854775807:=Xp (hC.getP 0 rfl)
 refine Y9 (S:=Unit) _ _ (fun i10 s10 e_ w_=>Z3 e_ [(5,u0_0),(6,.int .i64 (a0.length:Int)),(7,.int .i64 (i10:Int))]∧Ctx Nox w0 w_ [] [ZH7 ((EI .i64).ty.sl) a0 [u0_0] fp0]) a0.length ?_ ?_ (s0:=()) ?_ h
 ·clear hC h
  rintro i10 s10 e_ w10 nx10 K10 hi10 ⟨hS_,hC⟩ h hK10
  rw [ue hS_]
  refine sr (Zt rfl rfl (dn (ZIa (Yr rfl (decide_eq_true (by omega)) (ZIe (Zd (ZIa (ZIj (sr ?_)))))))))
  obtain ⟨Ad10,c10,hv10⟩:=Z0 (hC.getP 0 rfl) i10 hi10
  refine Xb (len:=a0.length) ZIs sc2.size (tr rfl hv10) rfl (ZIv _) (ZJi.2 hi10) (Xm (.int .i64 (a0.getD i10 Zyt)) (Yf (hC.getP 0 rfl) hv10 i10 hi10) sc2 rfl (Zc (v:=.int .i64 (a0.getD i10 Zyt)) rfl (dn (sr (Zb (v:=.int .i64 (a0.getD i10 Zyt)) rfl (Xl rfl rfl (dn ?_)))))))
  refine Zr rfl (fun hb10=>?_) (fun hb10=>?_)
  ·replace h:=ift h (ct hb10)
   refine sr (Zb (v:=.int .i64 (a0.getD i10 Zyt)) rfl (Zc (v:=.int .i64 (a0.getD i10 Zyt)) rfl (dn ?_)))
   refine ZIi (Yd (Zo (Zo (Yd (Zo ?_)))))
   refine Zp (fn:=Tryz.f43) rfl ?_ ⟨a0.getD i10 Zyt,rfl,h,hC.below⟩ (.inl rfl)
   exact Zi rfl
  ·replace h:=Zk h (cf hb10)
   refine ZIe (Zs (Zd (Zh (Zq rfl rfl (Zb (v:=.int .i64 (ZA7.wrap ((i10:Int)+1))) rfl (done ?_))))))
   exact hK10 () _ _ ⟨(sl ⟨rfl,rfl,(tr rfl (congrArg _ (Yh hi10 hN10))),trivial⟩),hC⟩ h
 ·clear hC h
  rintro s10 e_ w11 K10 ⟨hS_,hC⟩ h
  rw [ue hS_]
  refine sr (Zt rfl rfl (dn (ZIa (Yi rfl (decide_eq_false (by omega)) ?_))))
  refine wp_exit (Zj (Zj (Z9 ?_)))
  refine Zd (sr (Zc (v:=.int .i64 0) rfl (dn (ZIi ?_))))
  refine Zp (fn:=Tryz.f43) rfl ?_ ⟨0,rfl,h,hC.below⟩ (.inl rfl)
  exact Zi rfl
 ·skip
  exact⟨(sl ⟨rfl,rfl,rfl,trivial⟩),hC⟩
end Go.Proofs.YtaagfepgbofmlaaGreat
namespace Go.Proofs.YtaagfepgbofmlaaGreat
open Go Vc
theorem Zk2 {a b:A8} {K:Bool→Prop} (h:K (decide (pcmp a b < 0))):Zdr a b K:=by
  simp only [Zdr,Yt,A8.get]
  simp only [pcmp,A8.list,J3] at h
  have e:∀ x y:Int,decide (x - y < 0)=decide (x < y):=fun x y=>decide_eq_decide.2 (by omega)
  repeat' split
  all_goals (simp_all)
theorem Zb0 {x:Int} {K:Int→Prop} (h:K (x % 10007)):Jh x K:=by
  unfold Jh
  have:=Zfu x
  rw [i64_in _ (by omega),Znc]
  exact h
theorem Zi3 {x:Int} {K:Int→Prop} (h:K (x % 10007)):Zak x K:=by
  unfold Zak
  have:=Zfu x
  rw [i64_in _ (by omega),Znc]
  exact h
theorem Zi4 {a b:Int} (ha:0≤a∧a≤10006) (hb:0≤b∧b≤10006):0≤a * b∧a * b≤100120036 :=
  ⟨ZOx ha.1 hb.1,by have:=ZOy ha.2 hb.2 hb.1 (by omega:(0:Int)≤10006); omega⟩
theorem Zk3 {S:Type} {c:Prop} [Decidable c] {A B:(S→Prop)→Prop} {T:S→Prop} (h:c) (k:A T):joinP (fun J=>if c then A J else B J) T:=by show if c then A T else B T; rw [if_pos h]; exact k
theorem Zi5 {S:Type} {c:Prop} [Decidable c] {A B:(S→Prop)→Prop} {T:S→Prop} (h:¬ c) (k:B T):joinP (fun J=>if c then A J else B J) T:=by show if c then A T else B T; rw [if_neg h]; exact k
theorem Zev {A B:Prop} (h:A):if true=true then A else B:=by simpa using h
theorem Zi6 {A B:Prop} (h:B):if false=true then A else B:=by simpa using h
theorem Yx {c:Prop} [Decidable c] {A B:Prop} (h:c) (k:A):if c then A else B:=by rw [if_pos h]; exact k
theorem Y4 {c:Prop} [Decidable c] {A B:Prop} (h:¬ c) (k:B):if c then A else B:=by rw [if_neg h]; exact k
theorem Zgw {f g : List Term} {k : Int} {K : ZIb → Prop} (cf : Canon f) (cg : Canon g) (hk : 0 ≤ k ∧ k ≤ 10006) (hf : f.length ≤ 100000000) (hg : g.length ≤ 100000000) (h : ∀ out, IsAdd f g k out → K ⟨out⟩) : Zah ⟨f⟩ ⟨g⟩ k K := by
  unfold Zah
  dsimp only
  refine X9 (fun (s:List Term×Int×Int)=>0≤s.2.1∧0≤s.2.2∧AddI f g k s.1 s.2.1.toNat s.2.2.toNat) (fun s=>(f.length - s.2.1.toNat)+(g.length - s.2.2.toNat)) ?_ ⟨ZOl _,ZOl _,AddI.zero f g k⟩
  rintro ⟨out,i,j⟩ next ⟨h1,h2,hI⟩ hn
  have hi:=hI.hi
  have hj:=hI.hj
  have hln:=hI.ln
  have hR:Yo (out.length+1) 16:=by unfold Yo; dsimp only at hln hi hj ⊢; omega
  dsimp only at h1 h2 hI hi hj hR hn ⊢
  have ni:(i+1).toNat=i.toNat+1:=by omega
  have nj:(j+1).toNat=j.toNat+1:=by omega
  have wi:ZA7.wrap (i+1)=i+1:=i64_in _ (by omega)
  have wj:ZA7.wrap (j+1)=j+1:=i64_in _ (by omega)
  rw [wi,wj]
  have goF:i.toNat < f.length→(j.toNat < g.length→pcmp (f.getD i.toNat Zyt).mono (g.getD j.toNat Zyt).mono < 0)→next (out++[f.getD i.toNat Zyt],i+1,j):=fun a b =>
    hn _ ⟨by dsimp only; omega,by dsimp only; omega,by dsimp only; rw [ni]; exact hI.stepF cf cg a b⟩ (by dsimp only; omega)
  have bg:j.toNat < g.length→1≤(g.getD j.toNat Zyt).factor∧(g.getD j.toNat Zyt).factor≤10006:=fun a=>cg.at_range a
  have bf:i.toNat < f.length→1≤(f.getD i.toNat Zyt).factor∧(f.getD i.toNat Zyt).factor≤10006:=fun a=>cf.at_range a
  have wk:j.toNat < g.length→ZA7.wrap (k * (g.getD j.toNat Zyt).factor)=k * (g.getD j.toNat Zyt).factor:=fun a=>by
    have:=bg a
    have:=Zi4 hk (show 0≤(g.getD j.toNat Zyt).factor∧(g.getD j.toNat Zyt).factor≤10006 by omega)
    exact i64_in _ (by omega)
  have goG:j.toNat < g.length→(i.toNat < f.length→pcmp (g.getD j.toNat Zyt).mono (f.getD i.toNat Zyt).mono < 0) →
      Jh (ZA7.wrap (k * ((g.getD j.toNat Zyt).factor))) (fun r=>(if r≠0 then((0≤j∧j < (g.length:Int))∧(Yo (out.length+1) 16∧next (out++[(⟨(g.getD j.toNat Zyt).mono,r⟩:Term)],i,j+1))) else next (out,i,j+1))):=by
    intro a b
    refine Zb0 ?_
    rw [wk a]
    split
    · rename_i q
      exact⟨by omega,hR,hn _ ⟨by dsimp only; omega,by dsimp only; omega,by dsimp only; rw [nj]; exact hI.stepG1 cf cg a b rfl q⟩ (by dsimp only; omega)⟩
    · rename_i q
      exact hn _ ⟨by dsimp only; omega,by dsimp only; omega,by dsimp only; rw [nj]; exact hI.stepG0 cf cg a (by omega)⟩ (by dsimp only; omega)
  have goB:i.toNat < f.length→j.toNat < g.length→(f.getD i.toNat Zyt).mono=(g.getD j.toNat Zyt).mono →
      ((0≤i∧i < (f.length:Int))∧((0≤j∧j < (g.length:Int))∧Jh (ZA7.wrap (k * ((g.getD j.toNat Zyt).factor))) (fun r753=>Jh (ZA7.wrap (((f.getD i.toNat Zyt).factor)+r753)) (fun r758=>(if r758≠0 then((0≤i∧i < (f.length:Int))∧(Yo (out.length+1) 16∧next (out++[(⟨(f.getD i.toNat Zyt).mono,r758⟩:Term)],i+1,j+1))) else next (out,i+1,j+1)))))):=by
    intro a b e
    refine⟨by omega,by omega,Zb0 ?_⟩
    rw [wk b]
    have:=bf a
    rw [i64_in _ (by omega)]
    refine Zb0 ?_
    rw [show ((f.getD i.toNat Zyt).factor+k * (g.getD j.toNat Zyt).factor % 10007) % 10007=((f.getD i.toNat Zyt).factor+k * (g.getD j.toNat Zyt).factor) % 10007 by omega]
    split
    · rename_i q
      exact⟨by omega,hR,hn _ ⟨by dsimp only; omega,by dsimp only; omega,by dsimp only; rw [ni,nj]; exact hI.stepB1 cf cg a b e rfl q⟩ (by dsimp only; omega)⟩
    · rename_i q
      exact hn _ ⟨by dsimp only; omega,by dsimp only; omega,by dsimp only; rw [ni,nj]; exact hI.stepB0 cf cg a b e (by omega)⟩ (by dsimp only; omega)
  by_cases hif:i < (f.length:Int)
  · refine Zk3 hif (Zev ?_)
    by_cases hjg:j=(g.length:Int)
    · exact Zk3 hjg (Zev ⟨by omega,hR,goF (by omega) (fun q=>by omega)⟩)
    · refine Zi5 hjg (Yx hif ⟨by omega,by omega,Zk2 ?_⟩)
      by_cases hp:pcmp (f.getD i.toNat Zyt).mono (g.getD j.toNat Zyt).mono < 0
      · rw [decide_eq_true hp]
        exact Zev ⟨by omega,hR,goF (by omega) (fun _=>hp)⟩
      · rw [decide_eq_false hp]
        refine Zi6 (Zi5 (by omega) ⟨by omega,by omega,Zk2 ?_⟩)
        by_cases hq:pcmp (g.getD j.toNat Zyt).mono (f.getD i.toNat Zyt).mono < 0
        · rw [decide_eq_true hq]
          exact Zev ⟨by omega,goG (by omega) (fun _=>hq)⟩
        · rw [decide_eq_false hq]
          exact Zi6 (goB (by omega) (by omega) (Zih hp hq))
  · refine Zi5 hif ?_
    by_cases hjg:j < (g.length:Int)
    · rw [decide_eq_true hjg]
      refine Zev (Zi5 (by omega) (Y4 hif (Zi6 (Zk3 (by omega) (Zev ⟨by omega,goG (by omega) (fun q=>by omega)⟩)))))
    · rw [decide_eq_false hjg]
      exact Zi6 (h _ (hI.done (by omega) (by omega)))
def OkForm (ds:List Int) (l:List Term):Prop:=l.length≤400∧∀ i,i < l.length→OkMono ds (l.getD i Zyt).mono∧(1≤(l.getD i Zyt).factor∧(l.getD i Zyt).factor≤10006)∧(0 < i→pcmp (l.getD (i - 1) Zyt).mono (l.getD i Zyt).mono < 0)
instance (ds:List Int) (l:List Term):Decidable (OkForm ds l):=inferInstanceAs (Decidable (_∧∀ i,i < l.length→_))
theorem OkForm.canon {ds:List Int} {l:List Term} (h:OkForm ds l):Canon l:=by
  have step:∀ n i,i+n+1 < l.length→pcmp (l.getD i Zyt).mono (l.getD (i+n+1) Zyt).mono < 0:=by
    intro n
    induction n with
    | zero=>intro i hi; have:=(h.2 (i+1) (by omega)).2.2 (by omega); simpa using this
    | succ n ih =>
      intro i hi
      have h1:=ih i (by omega)
      have h2:=(h.2 (i+(n+1)+1) (by omega)).2.2 (by omega)
      rw [show i+(n+1)+1 - 1=i+n+1 by omega] at h2
      exact Zby h1 h2
  refine⟨Zza.2 fun i j hi hj hij=>?_,fun t ht=>?_⟩
  · have:=step (j - i - 1) i (by omega)
    rw [show i+(j - i - 1)+1=j by omega] at this
    simpa [Zzm,hi,hj] using this
  · obtain ⟨i,hi,rfl⟩:=Zzo ht
    have:=(h.2 i hi).2.1
    simpa [Zzm,hi] using this
theorem OkForm.mono {ds:List Int} {l:List Term} (h:OkForm ds l) {t:Term} (ht:t∈l):OkMono ds t.mono:=by
  obtain ⟨i,hi,rfl⟩:=Zzo ht
  have:=(h.2 i hi).1
  simpa [Zzm,hi] using this
def Zew (l:List Term):Prop:=∀ t,t∈l→∀ i,i < 8→0≤t.mono.get i∧t.mono.get i≤255
theorem Zt7 {ds : List Int} {l : List Term} {K : Bool → Prop} (hd : ds.length ≤ 8) (hp : Zew l) (hl : l.length ≤ 100000000) (h : K (decide (OkForm ds l))) : Zf5 ds ⟨l⟩ K := by
  unfold Zf5
  dsimp only
  refine X9 (fun (s:Int)=>0≤s∧s≤l.length∧∀ i,i < s.toNat→OkMono ds (l.getD i Zyt).mono∧(1≤(l.getD i Zyt).factor∧(l.getD i Zyt).factor≤10006)∧(0 < i→pcmp (l.getD (i - 1) Zyt).mono (l.getD i Zyt).mono < 0)) (fun s=>l.length - s.toNat) ?_ ⟨by omega,by omega,fun i hi=>by omega⟩
  rintro i next ⟨h1,h2,h3⟩ hn
  have bad:(i.toNat < l.length)→¬ (OkMono ds (l.getD i.toNat Zyt).mono∧(1≤(l.getD i.toNat Zyt).factor∧(l.getD i.toNat Zyt).factor≤10006)∧(0 < i.toNat→pcmp (l.getD (i.toNat - 1) Zyt).mono (l.getD i.toNat Zyt).mono < 0))→K false:=by
    intro a b
    have:¬ OkForm ds l:=fun q=>b (q.2 _ a)
    rwa [decide_eq_false this] at h
  split
  · rename_i hi
    have a:i.toNat < l.length:=by omega
    refine⟨by omega,Ztl (fun q hq=>(hp _ (Ja a) q hq).1) hd ?_⟩
    split
    · rename_i q
      exact bad a fun z=>q (decide_eq_true z.1)
    · rename_i q1
      have q1:OkMono ds (l.getD i.toNat Zyt).mono:=by simpa using q1
      refine Zky ?_
      split
      · rename_i q
        exact bad a fun z=>q (decide_eq_true z.2.1)
      · rename_i q2
        have q2:1≤(l.getD i.toNat Zyt).factor∧(l.getD i.toNat Zyt).factor≤10006:=by simpa using q2
        have w1:ZA7.wrap (i+1)=i+1:=i64_in _ (by omega)
        rw [w1]
        have ok:(0 < i.toNat→pcmp (l.getD (i.toNat - 1) Zyt).mono (l.getD i.toNat Zyt).mono < 0)→next (i+1):=fun q3=>by
          refine hn _ ⟨by omega,by omega,fun j hj=>?_⟩ (by omega)
          by_cases hji:j=i.toNat
          · subst hji; exact⟨q1,q2,q3⟩
          · exact h3 j (by omega)
        split
        · have w2:ZA7.wrap (i - 1)=i - 1:=i64_in _ (by omega)
          rw [w2,show (i - 1).toNat=i.toNat - 1 by omega]
          refine⟨by omega,Zk2 ?_⟩
          split
          · rename_i q
            exact bad a fun z=>q (decide_eq_true (z.2.2 (by omega)))
          · rename_i q
            exact ok fun _=>by simpa using q
        · exact ok fun q=>by omega
  · rename_i hi
    have:OkForm ds l↔(l.length:Int)≤400:=⟨fun q=>by have:=q.1; omega,fun q=>⟨by omega,fun i hi'=>h3 i (by omega)⟩⟩
    rw [decide_eq_decide.2 this] at h
    exact h
theorem Zk4 {s a b:Int} (hs:s=1∨s=-1) (ha:1≤a∧a≤10006) (hb:1≤b∧b≤10006):ZA7.wrap (ZA7.wrap (s * a) * b)=s * (a * b):=by
  have:=Zi4 (show 0≤a∧a≤10006 by omega) (show 0≤b∧b≤10006 by omega)
  rcases hs with rfl | rfl
  · rw [i64_in (1 * a) (by omega),Int.mul_assoc,i64_in _ (by omega)]
  · rw [i64_in (-1 * a) (by omega),Int.mul_assoc,i64_in _ (by omega)]
theorem Zt8 {ds:List Int} {t:Term} {g:List Term} {K:ZIb→Prop} (hd:OkDeg ds) (ht:X2 ds t.mono) (htf:1≤t.factor∧t.factor≤10006) (pt:∀ i,i < 8→0≤t.mono.get i) (cg:Canon g) (wg:∀ u,u∈g→X2 ds u.mono) (pg:Zew g) (hl:g.length≤100000000)
    (h:∀ out,IsShift ds t g out→K ⟨out⟩):Zf4 ds t ⟨g⟩ K:=by
  unfold Zf4
  dsimp only
  refine X9 (fun (s:List Term×Int)=>0≤s.2∧s.2≤g.length∧IsShift ds t (g.take s.2.toNat) s.1) (fun s=>g.length - s.2.toNat) ?_ ⟨by omega,by omega,by simpa using IsShift.nil ds t⟩
  rintro ⟨out,i⟩ next ⟨h1,h2,hI⟩ hn
  dsimp only at h1 h2 hI hn ⊢
  split
  · rename_i hi
    have a:i.toNat < g.length:=by omega
    have hu:=Ja a
    have ni:(i+1).toNat=i.toNat+1:=by omega
    have wi:ZA7.wrap (i+1)=i+1:=i64_in _ (by omega)
    rw [wi]
    have hct:Canon (g.take i.toNat++[g.getD i.toNat Zyt]):=by
      rw [← J4 a]
      exact⟨cg.1.sublist (List.take_sublist _ _),fun s hs=>cg.2 s (ZOz hs)⟩
    refine⟨by omega,Ztt hd ht (wg _ hu) pt (fun q hq=>(pg _ hu q hq).1) ?_⟩
    split
    · rename_i hs
      have hf:=cg.at_range a
      have hln:=hI.ln
      simp only [ZOn] at hln
      refine⟨by omega,Zb0 ?_⟩
      rw [Zk4 (Zfv hs).2.2 htf hf]
      refine⟨by unfold Yo; omega,hn _ ⟨by dsimp only; omega,by dsimp only; omega,?_⟩ (by dsimp only; omega)⟩
      dsimp only
      rw [ni,J4 a]
      exact hI.put hct htf hs rfl
    · rename_i hs
      refine hn _ ⟨by dsimp only; omega,by dsimp only; omega,?_⟩ (by dsimp only; omega)
      dsimp only
      rw [ni,J4 a]
      exact hI.skip (by simpa using hs)
  · rename_i hi
    rw [Zzz (by omega)] at hI
    exact h _ hI
theorem Zi7 {ds:List Int} {f g:List Term} {K:ZIb→Prop} (hd:OkDeg ds) (cf:Canon f) (wf:∀ u,u∈f→X2 ds u.mono) (pf:Zew f) (cg:Canon g) (wg:∀ u,u∈g→X2 ds u.mono) (pg:Zew g) (hf:f.length≤10000) (hg:g.length≤10000)
    (h:∀ out,IsProd ds f g out→K ⟨out⟩):Jk ds ⟨f⟩ ⟨g⟩ K:=by
  unfold Jk
  dsimp only
  refine X9 (fun (s:List Term×Int)=>0≤s.2∧s.2≤f.length∧IsProd ds (f.take s.2.toNat) g s.1) (fun s=>f.length - s.2.toNat) ?_ ⟨by omega,by omega,by simpa using IsProd.nil ds g⟩
  rintro ⟨out,i⟩ next ⟨h1,h2,hI⟩ hn
  dsimp only at h1 h2 hI hn ⊢
  split
  · rename_i hi
    have a:i.toNat < f.length:=by omega
    have hu:=Ja a
    have ni:(i+1).toNat=i.toNat+1:=by omega
    have wi:ZA7.wrap (i+1)=i+1:=i64_in _ (by omega)
    rw [wi]
    refine⟨by omega,Zt8 hd (wf _ hu) (cf.at_range a) (fun q hq=>(pf _ hu q hq).1) cg wg pg (by omega) fun sh hsh=>?_⟩
    have hln:=hI.ln
    have hls:=hsh.ln
    have:(f.take i.toNat).length * g.length≤10000 * 10000:=Nat.mul_le_mul (by rw [ZOn]; omega) hg
    refine Zgw hI.can hsh.can (by omega) (by omega) (by omega) fun out' ho=>?_
    refine hn _ ⟨by dsimp only; omega,by dsimp only; omega,?_⟩ (by dsimp only; omega)
    dsimp only
    rw [ni,J4 a]
    exact hI.step hsh ho
  · rename_i hi
    rw [Zzz (by omega)] at hI
    exact h _ hI
end Go.Proofs.YtaagfepgbofmlaaGreat
namespace Go.Proofs.YtaagfepgbofmlaaGreat
open Go Vc
theorem Zt9 {a b:A8} {K:Int→Prop} (ha:OkP a) (hb:OkP b) (h:K (pcmp a b)):Zip a b K:=Zq5 ha hb h
def FitT (l:List Term):Prop:=∀ t,t∈l→Za0 .u8 t.mono
theorem FitT.pos {l:List Term} (h:FitT l):Zew l:=fun t ht i hi=>Zkb (Zkc (h t ht) hi)
theorem Zn2 {a:A8} (h:Za0 .u8 a):OkP a:=fun x hx=>by
  obtain ⟨i,hi,rfl⟩:=A8.mem_list.1 hx
  have:=Zkb (Zkc h hi)
  omega
theorem Zua {x:Int} {K:Bool→Prop} (h:K (decide (1≤x∧x≤10006))):Zit x K:=Ziw h
theorem Zub {ds : List Int} {l : List Term} {K : Bool → Prop} (hd : OkDeg ds) (hp : FitT l) (h : K (decide (OkForm ds l))) : Zeq ds ⟨l⟩ K := by
  unfold Zeq
  dsimp only
  split
  · rename_i q
    have:¬ OkForm ds l:=fun z=>by have:=z.1; omega
    rwa [decide_eq_false this] at h
  · rename_i q0
    refine Xe (fun i _=>∀ j,j < i→OkMono ds (l.getD j Zyt).mono∧(1≤(l.getD j Zyt).factor∧(l.getD j Zyt).factor≤10006)∧(0 < j→pcmp (l.getD (j - 1) Zyt).mono (l.getD j Zyt).mono < 0)) l.length ?_ ?_ _ _ _ (by omega) (by intro j hj; omega)
    · intro i s next hi hI hn
      have bad:¬ (OkMono ds (l.getD i Zyt).mono∧(1≤(l.getD i Zyt).factor∧(l.getD i Zyt).factor≤10006)∧(0 < i→pcmp (l.getD (i - 1) Zyt).mono (l.getD i Zyt).mono < 0))→K false:=by
        intro b
        have:¬ OkForm ds l:=fun q=>b (q.2 _ hi)
        rwa [decide_eq_false this] at h
      refine Ztm hd (fun q hq=>(hp.pos _ (Ja hi) q hq).1) ?_
      split
      · rename_i q
        exact bad fun z=>q (decide_eq_true z.1)
      · rename_i q1
        have q1:OkMono ds (l.getD i Zyt).mono:=of_decide_eq_true (ZOh.1 q1)
        refine Zua ?_
        split
        · rename_i q
          exact bad fun z=>q (decide_eq_true z.2.1)
        · rename_i q2
          have q2:1≤(l.getD i Zyt).factor∧(l.getD i Zyt).factor≤10006:=of_decide_eq_true (ZOh.1 q2)
          have ok:(0 < i→pcmp (l.getD (i - 1) Zyt).mono (l.getD i Zyt).mono < 0)→next ():=fun q3=>by
            refine hn _ fun j hj=>?_
            by_cases hji:j=i
            · subst hji; exact⟨q1,q2,q3⟩
            · exact hI j (by omega)
          split
          · have w2:ZA7.wrap ((i:Int) - 1)=(i:Int) - 1:=i64_in _ (by omega)
            rw [w2,show ((i:Int) - 1).toNat=i - 1 by omega]
            have f1:=hp _ (Ja (show i - 1 < l.length by omega))
            have f2:=hp _ (Ja hi)
            refine⟨by omega,Zix f1 (Zix f2 (Zt9 (Zn2 f1) (Zn2 f2) ?_))⟩
            split
            · rename_i q
              exact bad fun z=>by have:=z.2.2 (by omega); omega
            · rename_i q
              exact ok fun _=>by omega
          · exact ok fun q=>by omega
    · intro s hI
      have:OkForm ds l:=⟨by omega,hI⟩
      rwa [decide_eq_true this] at h
structure IsMap (l:List Term) (m:List (A8×Int)):Prop where
  ok:MapOk m
  cf:∀ x,co m x=coT l x
  ks:∀ p,p∈m→∃ t,t∈l∧t.mono=p.1
theorem Zk5 {l : List Term} {K : List (A8 × Int) → Prop} (hc : Canon l) (hp : FitT l) (h : ∀ m, IsMap l m → K m) : Zdt ⟨l⟩ K := by
  unfold Zdt
  dsimp only
  refine Xe (fun i (s:List (A8×Int))=>IsMap (l.take i) s) l.length ?_ ?_ _ _ _ (by omega) ⟨MapOk.nil,by intro x; rfl,by simp⟩
  · intro i s next hi hI hn
    refine Zix (hp _ (Ja hi)) (hn _ ?_)
    rw [J4 hi]
    have hnew:co s (l.getD i Zyt).mono=0:=by
      rw [hI.cf]
      refine Zdm fun t ht=>?_
      obtain ⟨j,hj,rfl⟩:=Zzo ht
      rw [ZOn] at hj
      have:=hc.at_lt (show j < i by omega) hi
      have hjl:j < l.length:=by omega
      simp only [List.getElem_take]
      rw [show l.getD j Zyt=l[j] by simp [Zzm,hjl]] at this
      exact Zcn this
    refine⟨hI.ok.put (hc.at_range hi),fun x=>?_,fun p hpm=>?_⟩
    · rw [Zng hI.ok.1,Zcp,← hI.cf]
      by_cases hx:x=(l.getD i Zyt).mono
      · subst hx; rw [if_pos rfl,if_pos rfl,hnew,ZAd]
      · rw [if_neg hx,if_neg (fun e=>hx e.symm),ZOk]
    · rcases Zkg hpm with rfl | q
      · exact⟨_,by simp,rfl⟩
      · obtain ⟨t,ht,e⟩:=hI.ks p q
        exact⟨t,by simp [ht],e⟩
  · intro s hI
    rw [List.take_length] at hI
    exact h _ hI
theorem Zn3 {l:List (A8×Int)} {x:A8} {c:Int} {K:List (A8×Int)→Prop} (hl:MapOk l) (hc:-100000000000≤c∧c≤100000000000) (h:∀ l',IsPut l x c l'→K l'):Zep l x c K:=by
  unfold Zep
  rw [Zdn hl.1]
  have:=hl.range x
  rw [i64_in _ (by omega)]
  refine Zi3 ?_
  split
  · rename_i q; exact h _ (IsPut.put hl rfl q)
  · rename_i q; exact h _ (IsPut.del hl (by omega))
structure IsSum (s t:List (A8×Int)) (k:Int) (out:List (A8×Int)):Prop where
  ok:MapOk out
  cf:∀ m,co out m % 10007=(co s m+k * co t m) % 10007
  ks:∀ p,p∈out→∃ q,(q∈s∨q∈t)∧q.1=p.1
  ln:out.length≤s.length+t.length
theorem Zk6 {s t : List (A8 × Int)} {k : Int} {K : List (A8 × Int) → Prop} (hs : MapOk s) (ht : MapOk t) (hk : 0 ≤ k ∧ k ≤ 10006) (h : ∀ out, IsSum s t k out → K out) : Zam s t k K := by
  unfold Zam
  refine Zfp (fun l' (out:List (A8×Int))=>(∀ p,p∈l'→p∈t)∧MapOk out∧(∀ m,(co out m+k * co l' m) % 10007=(co s m+k * co t m) % 10007)∧(∀ p,p∈out→∃ q,(q∈s∨q∈t)∧q.1=p.1)∧out.length+l'.length≤s.length+t.length) ?_ ?_ t s ⟨fun _ h=>h,hs,fun _=>rfl,fun p hp=>⟨p,.inl hp,rfl⟩,by omega⟩
  · intro l' p l'' out next hp ⟨h0,h1,h2,h3,h4⟩ hn
    have hperm:=Zfq hp
    have hpm:p∈l':=hperm.mem_iff.2 (by simp)
    have hpt:=ht.2 p (h0 p hpm)
    have hb:=Zi4 (show 0≤p.2∧p.2≤10006 by omega) hk
    rw [i64_in _ (by omega)]
    have htm:=Zfu (p.2 * k)
    refine Zn3 h1 (by omega) fun out' ho=>hn _ ⟨fun q hq=>h0 q (hperm.mem_iff.2 (by simp [hq])),ho.ok,fun m=>?_,fun q hq=>?_,?_⟩
    · have e1:=ho.cf m
      have e2:=h2 m
      have e3:co l' m=(if p.1=m then p.2 else 0)+co l'' m:=by rw [co,Zdj _ hperm]; rfl
      rw [e3,Int.mul_add] at e2
      by_cases hm:p.1=m
      · rw [if_pos hm] at e1 e2
        have e4:=Znd (p.2 * k)
        rw [Int.mul_comm k p.2] at e2
        omega
      · rw [if_neg hm] at e1 e2
        omega
    · rcases ho.ks q hq with e | ⟨q',hq',e⟩
      · exact⟨p,.inr (h0 p hpm),e.symm⟩
      · obtain ⟨z,hz,e'⟩:=h3 q' hq'
        exact⟨z,hz,e'.trans e⟩
    · have:=ho.ln
      have:=Zfn hp
      omega
  · intro out ⟨_,h1,h2,h3,h4⟩
    exact h _ ⟨h1,fun m=>by have:=h2 m; rw [Zdl,Int.mul_zero,ZOk] at this; exact this,h3,by simpa using h4⟩
def shM (ds:List Int) (p:A8×Int) (t:List (A8×Int)) (m:A8):Int:=tot (fun q=>pr1 ds p.1 p.2 q.1 q.2 m) t
def prM (ds:List Int) (s t:List (A8×Int)) (m:A8):Int:=tot (fun p=>shM ds p t m) s
structure IsProdM (ds:List Int) (s t out:List (A8×Int)):Prop where
  ok:MapOk out
  cf:∀ m,co out m % 10007=prM ds s t m % 10007
  ks:∀ p,p∈out→∃ a b,a∈s∧b∈t∧p.1=a.1.add b.1∧¬ Clash ds a.1 b.1
theorem Zi8 {ds : List Int} {s t : List (A8 × Int)} {K : List (A8 × Int) → Prop} (hd : OkDeg ds) (hs : MapOk s) (ws : ∀ p, p ∈ s → X2 ds p.1) (ps : ∀ p, p ∈ s → ∀ i, i < 8 → 0 ≤ p.1.get i) (ht : MapOk t) (wt : ∀ p, p ∈ t → X2 ds p.1) (pt : ∀ p, p ∈ t → ∀ i, i < 8 → 0 ≤ p.1.get i)
    (h:∀ out,IsProdM ds s t out→K out):Jc s ds t K:=by
  unfold Jc
  refine Zfp (fun l' (out:List (A8×Int))=>(∀ p,p∈l'→p∈s)∧MapOk out∧(∀ m,(co out m+prM ds l' t m) % 10007=prM ds s t m % 10007)∧(∀ p,p∈out→∃ a b,a∈s∧b∈t∧p.1=a.1.add b.1∧¬ Clash ds a.1 b.1)) ?_ ?_ s [] ⟨fun _ h=>h,MapOk.nil,fun m=>by rw [Zdl,ZAd],by simp⟩
  · intro l' p l'' out next hp ⟨h0, h1, h2, h3⟩ hn
    have hperm:=Zfq hp
    have hpm:p∈s:=h0 p (hperm.mem_iff.2 (by simp))
    have hpf:=hs.2 p hpm
    have e3:∀ m,prM ds l' t m=shM ds p t m+prM ds l'' t m:=fun m=>by rw [prM,Zdj _ hperm]; rfl
    refine Zfp (fun k' (o2:List (A8×Int))=>(∀ q,q∈k'→q∈t)∧MapOk o2∧(∀ m,(co o2 m+shM ds p k' m) % 10007=(co out m+shM ds p t m) % 10007)∧(∀ q,q∈o2→∃ a b,a∈s∧b∈t∧q.1=a.1.add b.1∧¬ Clash ds a.1 b.1)) ?_ ?_ t out ⟨fun _ h=>h,h1,fun _=>rfl,h3⟩
    · intro k' q k'' o2 next' hq ⟨g0, g1, g2, g3⟩ hn'
      have hperm2:=Zfq hq
      have hqm:q∈t:=g0 q (hperm2.mem_iff.2 (by simp))
      have hqf:=ht.2 q hqm
      have e4:∀ m,shM ds p k' m=pr1 ds p.1 p.2 q.1 q.2 m+shM ds p k'' m:=fun m=>by rw [shM,Zdj _ hperm2]; rfl
      refine Ztu hd (ws p hpm) (wt q hqm) (ps p hpm) (pt q hqm) ?_
      split
      · rename_i hsg
        rw [Zk4 (Zfv hsg).2.2 hpf hqf]
        have htm:=Zfu ((Y1 ds p.1 q.1).2 * (p.2 * q.2))
        refine Zn3 g1 (by omega) fun o3 ho=>hn' _ ⟨fun z hz=>g0 z (hperm2.mem_iff.2 (by simp [hz])),ho.ok,fun m=>?_,fun z hz=>?_⟩
        · have e1:=ho.cf m
          have e2:=g2 m
          rw [e4,pr1] at e2
          by_cases hm:(Y1 ds p.1 q.1).1=m
          · rw [if_pos hm] at e1 e2
            have e5:=Znd ((Y1 ds p.1 q.1).2 * (p.2 * q.2))
            omega
          · rw [if_neg hm] at e1 e2
            omega
        · rcases ho.ks z hz with e | ⟨z',hz',e⟩
          · exact⟨p,q,hpm,hqm,by rw [e,(Zfv hsg).2.1],(Zfv hsg).1⟩
          · obtain ⟨a,b,ha,hb,e',hc⟩:=g3 z' hz'
            exact⟨a,b,ha,hb,e ▸ e',hc⟩
      · rename_i hsg
        refine hn' _ ⟨fun z hz=>g0 z (hperm2.mem_iff.2 (by simp [hz])),g1,fun m=>?_,g3⟩
        have e2:=g2 m
        rw [e4,pr1,show (Y1 ds p.1 q.1).2=0 by simpa using hsg] at e2
        simpa using e2
    · intro o2 ⟨_,g1,g2,g3⟩
      refine hn _ ⟨fun q hq=>h0 q (hperm.mem_iff.2 (by simp [hq])),g1,fun m=>?_,g3⟩
      have e1:=g2 m
      have e2:=h2 m
      rw [e3] at e2
      rw [show shM ds p [] m=0 from rfl] at e1
      omega
  · intro out ⟨_,h1,h2,h3⟩
    exact h _ ⟨h1,fun m=>by have:=h2 m; rw [show prM ds [] t m=0 from rfl,ZOk] at this; exact this,h3⟩
theorem Zgx {l : List Term} {k : List (A8 × Int)} (hk : IsMap l k) (hc : Canon l) (F : A8 → Int → Int) (hF : ∀ a, F a 0 = 0) : tot (fun p => F p.1 p.2) k = tot (fun t => F t.mono t.factor) l := by
  have hnd:(l.map fun t=>(t.mono,t.factor)).Nodup:=by
    refine ZO1.2 (hc.1.imp fun {a b} h e=>?_)
    exact Zcn h (congrArg Prod.fst e)
  have hperm:k.Perm (l.map fun t=>(t.mono,t.factor)):=by
    have hkn:k.Nodup:=by
      have:=hk.ok.1
      exact List.Pairwise.imp (fun {a b} h e=>h (congrArg Prod.fst e)) (ZO1.1 this)
    refine(List.perm_ext_iff_of_nodup hkn hnd).2 fun p=>?_
    have atk:∀ p,p∈k→co k p.1=p.2:=by
      intro p hp
      obtain ⟨i,hi,rfl⟩:=Zzo hp
      have hkk:=hk.ok.1
      clear hk hkn
      induction k generalizing i with
      | nil=>simp at hi
      | cons q k ih =>
        simp only [List.map_cons,Zzk] at hkk
        rw [Zbc]
        cases i with
        | zero=>rw [List.getElem_cons_zero,if_pos rfl,Zc0 fun t ht e=>hkk.1 (Zy2.2 ⟨t,ht,e⟩),ZOk]
        | succ i =>
          have hi':i < k.length:=by simpa using hi
          rw [List.getElem_cons_succ,if_neg (fun e=>hkk.1 (Zy2.2 ⟨_,List.getElem_mem hi',e.symm⟩)),ZAd]
          exact ih i hi' (List.getElem_mem hi') hkk.2
    have atl:∀ t,t∈l→coT l t.mono=t.factor:=by
      intro t ht
      clear hk hkn hnd atk
      induction l with
      | nil=>simp at ht
      | cons q l ih =>
        rcases Zyz.1 ht with rfl | ht
        · exact hc.at_head
        · rw [Zdk,if_neg (Zcn (hc.head t ht)),ZAd]; exact ih hc.tail ht
    constructor
    · intro hp
      obtain ⟨t,ht,e⟩:=hk.ks p hp
      refine Zy2.2 ⟨t,ht,?_⟩
      have h1:=atk p hp
      rw [hk.cf,← e,atl t ht] at h1
      rw [e,h1]
    · intro hp
      obtain ⟨t,ht,rfl⟩:=Zy2.1 hp
      have h1:=hk.cf t.mono
      rw [atl t ht] at h1
      have hnz:=hc.2 t ht
      have:∃ p,p∈k∧p.1=t.mono:=by
        refine ZO2 fun hno=>?_
        rw [Zc0 (fun p hp e=>hno ⟨p,hp,e⟩)] at h1
        omega
      obtain ⟨p,hp,e⟩:=this
      have h2:=atk p hp
      rw [e,h1] at h2
      rw [← e,h2]; exact hp
  rw [Zdj _ hperm,Zco]
def Low (a:A8):Prop:=∀ i,i < 8→a.get i≤20
instance (a:A8):Decidable (Low a):=inferInstanceAs (Decidable (∀ i,i < 8→_))
end Go.Proofs.YtaagfepgbofmlaaGreat
namespace Go.Proofs.YtaagfepgbofmlaaGreat
open Go Vc
def asT (m:List (A8×Int)):List Term:=m.map fun p=>⟨p.1,p.2⟩
theorem Zk7 (m:List (A8×Int)) (x:A8):coT (asT m) x=co m x:=by rw [coT,asT,Zco]; rfl
theorem Zk8 {l : List Term} {out : List (A8 × Int)} (hc : Canon l) (ho : MapOk out) (h : ∀ x, co out x % 10007 = coT l x % 10007) : IsMap l out := by
  have hcf:∀ x,co out x=coT l x:=fun x=>by have:=h x; have:=ho.range x; have:=hc.range x; omega
  refine⟨ho,hcf,fun p hp=>ZO2 fun hno=>?_⟩
  have h1:coT l p.1=0:=Zdm fun t ht e=>hno ⟨t,ht,e⟩
  rw [← hcf,← Zdn ho.1] at h1
  have h2:=ho.2 p hp
  have h3:(Xu out p.1).getD 0=p.2:=by
    rw [Zdn ho.1]
    have hk:=ho.1
    clear h hcf hno h1 h2 ho
    induction out with
    | nil=>simp at hp
    | cons q k ih =>
      simp only [List.map_cons,Zzk] at hk
      rw [Zbc]
      rcases Zyz.1 hp with rfl | hp
      · rw [if_pos rfl,Zc0 fun t ht e=>hk.1 (Zy2.2 ⟨t,ht,e⟩),ZOk]
      · rw [if_neg (fun e=>hk.1 (Zy2.2 ⟨p,hp,e.symm⟩)),ZAd]
        exact ih hp hk.2
  omega
theorem Zn4 {ds:List Int} {l b:A8} {img:List Term} {s own t:List (A8×Int)} (hs:IsMap img s) (hc:Canon img) (h1:IsProdM ds [(l,1)] s own) (h2:IsProdM ds own [(b,1)] t) (x:A8):co t x % 10007=triC ds l b img x % 10007:=by
  rw [← Zk7]
  refine Zki (own:=asT own) (fun y=>?_) (fun x=>?_) x
  · rw [Zk7,h1.cf]
    unfold prM shM shC
    simp only [tot,ZOk]
    rw [Zgx hs hc (fun a n=>pr1 ds l 1 a n y) (fun a=>by unfold pr1; split <;> simp)]
  · rw [Zk7,h2.cf]
    unfold prM shM prC shC asT
    rw [Zco]
    simp only [tot,ZOk]
structure IsDM (ds:List Int) (imgs:List (List Term)) (s out:List (A8×Int)):Prop where
  ok:MapOk out
  cf:∀ x,co out x % 10007=tot (fun p=>dT ds imgs p.1 p.2 x) s % 10007
  mo:∀ y,y∈out→∃ t,t∈s∧DMono ds imgs y.1 t.1
theorem Zuc {ds:List Int} {imgs:List (List Term)} {f:List Term} {s out':List (A8×Int)} {out:List Term} (hs:IsMap f s) (hc:Canon f) (h:IsD ds imgs f out) (h':IsDM ds imgs s out'):IsMap out out' :=
  Zk8 h.can h'.ok fun x=>by
    rw [h'.cf,h.cf,Zgx hs hc (fun a n=>dT ds imgs a n x) (fun a=>Zkj ds imgs a x)]
theorem Zn5 {l:List Term} {m:List (A8×Int)} (h:IsMap l m) (hc:Canon l):m=[]↔l=[]:=by
  constructor
  · intro e
    cases l with
    | nil=>rfl
    | cons t l =>
      have h1:=h.cf t.mono
      rw [hc.at_head,e,Zdl] at h1
      have:=hc.2 t (by simp)
      omega
  · intro e
    cases m with
    | nil=>rfl
    | cons p m =>
      obtain ⟨t,ht,_⟩:=h.ks p (by simp)
      rw [e] at ht; cases ht
end Go.Proofs.YtaagfepgbofmlaaGreat
namespace Go.Proofs.YtaagfepgbofmlaaGreat
open Go Vc
theorem Zud {a b:Term} {K:Bool→Prop} (h:K (decide (a=b))):Zgn a b K:=by
  unfold Zgn
  refine Ztq ?_
  cases a with | mk m x=>cases b with | mk n y =>
  by_cases h1:m=n
  · by_cases h2:x=y
    · simpa [h1,h2] using h
    · simpa [h1,h2] using h
  · simpa [h1] using h
theorem Zn6 {α : Type} [DecidableEq α] [Inhabited α] {a b : List α} {K : Bool → Prop} {eq : α → α → (Bool → Prop) → Prop} (he : ∀ x y K, K (decide (x = y)) → eq x y K) (h : K (decide (a = b))) :
    (if(a.length:Int)≠(b.length:Int) then K false else Yt (fun i (s:Unit) next=>((0≤(i:Int)∧(i:Int) < (b.length:Int))∧eq (a.getD i Zyt) (b.getD i Zyt) (fun r=>(if¬ (r=true) then K false else next ())))) (fun (s:Unit)=>K true) a.length 0 ()):=by
  split
  · rename_i h1
    have:¬ a=b:=fun e=>h1 (by rw [e])
    simpa [this] using h
  · rename_i h1
    have hl:a.length=b.length:=by omega
    refine Xe (fun i _=>∀ j,j < i→a.getD j Zyt=b.getD j Zyt) a.length ?_ ?_ _ _ _ (by omega) (by intro j hj; omega)
    · intro i s next hi hI hn
      refine⟨by omega,he _ _ _ ?_⟩
      split
      · rename_i h1
        have:¬ a=b:=fun e=>h1 (by rw [e]; simp)
        simpa [this] using h
      · rename_i h1
        refine hn _ fun j hj=>?_
        by_cases hji:j=i
        · subst hji; simpa only [decide_eq_true_eq,ZOh] using h1
        · exact hI j (by omega)
    · intro s hI
      have:a=b:=by
        apply ZBg hl
        intro i h1 h2
        have:=hI i h1
        simpa [Zzm,h1,h2] using this
      simpa [this] using h
theorem Zue {a b:List Term} {K:Bool→Prop} (h:K (decide (a=b))):Ziu a b K:=Zn6 (fun _ _ _ h=>Zud h) h
theorem Zuf {a b:ZIb} {K:Bool→Prop} (h:K (decide (a=b))):Zgo a b K:=by
  unfold Zgo
  refine Zue ?_
  cases a with | mk s=>cases b with | mk t =>
  by_cases h1:s=t
  · simpa [h1] using h
  · simpa [h1] using h
theorem Zug {a b:List ZIb} {K:Bool→Prop} (h:K (decide (a=b))):Ziv a b K:=Zn6 (fun _ _ _ h=>Zuf h) h
theorem Zuh {a b:Alg} {K:Bool→Prop} (h:K (decide (a=b))):Zdw a b K:=by
  unfold Zdw
  refine Ztr ?_
  cases a with | mk s t=>cases b with | mk u v =>
  dsimp only
  by_cases h1:s=u
  · simp only [h1,decide_true,not_true_eq_false,if_false]
    refine Zug ?_
    by_cases h2:t=v
    · simpa [h1,h2] using h
    · simpa [h2] using h
  · simpa [h1] using h
theorem Zk9 {α:Type} [Inhabited α] {xs:List α} {i j:Nat} {x:α} (hi:i < xs.length):(xs.set i x).getD j Zyt=if j=i then x else xs.getD j Zyt:=by
  by_cases h:j=i
  · subst h; simp [Zzm,hi]
  · simp [Zzm,List.getElem?_set_ne (fun e=>h e.symm),h]
end Go.Proofs.YtaagfepgbofmlaaGreat
namespace Go.Proofs.YtaagfepgbofmlaaGreat
open Go Vc
theorem Zui {t:Term} {K:Term→Prop} (h:K t):Zgk t K:=by
  unfold Zgk
  exact Zto h
theorem Zuj {l:List Term} {K:List Term→Prop} (hl:l.length≤1048576) (h:K l):Zgl l K:=by
  unfold Zgl
  refine⟨by omega,?_⟩
  refine Xe (fun i (s:List Term)=>s.length=l.length∧∀ j,j < i→s.getD j Zyt=l.getD j Zyt) l.length ?_ ?_ _ _ _ (by omega) ⟨by simp,by intro j hj; omega⟩
  · intro i s next hi ⟨h1,h2⟩ hn
    refine Zui ⟨by omega,hn _ ⟨by simpa using h1,fun j hj=>?_⟩⟩
    rw [Zk9 (by omega)]
    by_cases e:j=i
    · rw [if_pos e,e]
    · rw [if_neg e]; exact h2 j (by omega)
  · intro s ⟨h1,h2⟩
    have:s=l:=ZBg h1 fun j hj hj'=>by have:=h2 j (by omega); simpa [Zzm,hj,hj'] using this
    rw [this]; exact h
theorem Zuk {f:ZIb} {K:ZIb→Prop} (hl:f.terms.length≤1048576) (h:K f):Zgm f K:=by
  unfold Zgm
  exact Zuj hl h
theorem Zul {f:ZIb} {n:Int} {K:Int→Prop} (hl:(f.terms.length:Int)≤9223372036854775807) (hn:0≤n∧n≤1048576) (h1:(f.terms.length:Int)≤n→K (n - f.terms.length)) (h2:∀ r,r < 0→K r):Zeu f n K:=by
  unfold Zeu Zi1
  rw [i64_in _ (by omega)]
  split
  · exact h2 _ (by omega)
  · dsimp only
    rw [if_neg (by assumption)]
    exact h1 (by omega)
theorem FitT.map {l:List Term} {m:List (A8×Int)} (h:FitT l) (hm:IsMap l m):∀ p,p∈m→∀ i,i < 8→0≤p.1.get i∧p.1.get i≤255:=fun p hp=>by
  obtain ⟨t,ht,e⟩:=hm.ks p hp
  rw [← e]; exact h.pos t ht
theorem Zbe {ds:List Int} {a:A8} (h:OkMono ds a):Low a:=fun i hi=>by
  by_cases hl:i < ds.length
  · exact((h i hi).1 hl).1
  · rw [(h i hi).2 (by omega)]; omega
theorem Zi9 {b:Bool} {c:Int} {K:Int→Prop} (h:K (if b=true then c else 0)):Zdv b c K:=by
  unfold Zdv
  split
  · rename_i q; rwa [if_pos q] at h
  · rename_i q; rwa [if_neg q] at h
theorem Zum {A B:Prop} (h:B):if¬ (true=true) then A else B:=by simpa using h
theorem Zn7 {c:Int} {A B:Prop} (h:B):if c≠c then A else B:=by simpa using h
end Go.Proofs.YtaagfepgbofmlaaGreat
namespace Go.Proofs.YtaagfepgbofmlaaGreat
open Go Vc
def imgsT (a:Alg):List (List Term):=a.images.map Vc.Form.terms
theorem Zdy (a:Alg) {i:Nat} (h:i < a.images.length):(imgsT a).getD i Zyt=(a.images.getD i Zyt).terms:=by
  simp [imgsT,Zzm,h]
structure AlgF (a:Alg):Prop where
  deg:OkDeg a.degrees
  len:a.images.length=a.degrees.length
  frm:∀ i,i < a.images.length→OkForm a.degrees (a.images.getD i Zyt).terms
  fit:∀ i,i < a.images.length→FitT (a.images.getD i Zyt).terms
theorem Zja {m:A8} {K:ZIb→Prop} (h:K ⟨[⟨m,1⟩]⟩):Jb m 1 K:=by
  unfold Jb
  refine Zb0 ?_
  rw [if_neg (by decide)]
  exact Zb0 h
theorem Zc8 {ds:List Int} {m:A8} (hd:OkDeg ds) (hm:∀ i,i < 8→0≤m.get i∧m.get i≤255):∀ k,k≤ds.length→0≤wtU ds m k∧wtU ds m k≤3060 * k:=by
  intro k
  induction k with
  | zero=>intro _; simp [wtU]
  | succ k ih =>
    intro hk
    have h1:=ih (by omega)
    have h2:=hd.2 k (by omega)
    have h3:=hm k (by have:=hd.1; omega)
    have h4:0≤ds.getD k Zyt * m.get k:=ZOx (by omega) h3.1
    have h5:ds.getD k Zyt * m.get k≤12 * 255:=ZOy h2.2 h3.2 h3.1 (by omega)
    simp only [wtU]
    omega
theorem Zla {ds:List Int} {m:A8} (hd:OkDeg ds) (hm:∀ i,i < 8→0≤m.get i∧m.get i≤255) {k:Nat} (hk:k < ds.length):0≤ds.getD k Zyt * m.get k∧ds.getD k Zyt * m.get k≤3060:=by
  have h2:=hd.2 k hk
  have h3:=hm k (by have:=hd.1; omega)
  exact⟨ZOx (by omega) h3.1,ZOy h2.2 h3.2 h3.1 (by omega)⟩
theorem Zlb {ds:List Int} {m:A8} {K:Int→Prop} (hd:OkDeg ds) (hm:∀ i,i < 8→0≤m.get i∧m.get i≤255) (h:K (wtU ds m ds.length)):Zc6 ds m K:=by
  unfold Zc6
  have h8:=hd.1
  refine Xe (fun i (s:Int)=>s=wtU ds m i) ds.length ?_ ?_ _ _ _ (by omega) rfl
  · intro i s next hi hs hn
    have h1:=hm i (by omega)
    have h2:=Zla hd hm hi
    have h3:=Zc8 hd hm i (by omega)
    refine⟨by omega,?_⟩
    rw [i64_in (m.get i) (by omega),i64_in (ds.getD i Zyt * m.get i) (by omega),i64_in _ (by omega)]
    exact hn _ (by simp only [wtU]; rw [hs])
  · intro s hs; rw [hs]; exact h
theorem Zn8 {ds:List Int} {m:A8} {K:Int→Prop} (hd:OkDeg ds) (hm:∀ i,i < 8→0≤m.get i∧m.get i≤255) (h:K (wtU ds m ds.length)):Zer m ds K:=by
  unfold Zer
  have h8:=hd.1
  refine Xe (fun i (s:Int)=>s=wtU ds m i) ds.length ?_ ?_ _ _ _ (by omega) rfl
  · intro i s next hi hs hn
    have h2:=Zla hd hm hi
    have h3:=Zc8 hd hm i (by omega)
    refine⟨by omega,?_⟩
    rw [i64_in (ds.getD i Zyt * m.get i) (by omega),i64_in _ (by omega)]
    exact hn _ (by simp only [wtU]; rw [hs])
  · intro s hs; rw [hs]; exact h
theorem Zn9 {ds:List Int} {m:A8} {i:Nat} (h8:ds.length≤8):∀ k,k≤ds.length→wtU ds (frontA m i) k=wtU ds m (min i k):=by
  intro k
  induction k with
  | zero=>intro _; simp [wtU]
  | succ k ih =>
    intro hk
    simp only [wtU]
    rw [ih (by omega),frontA,ZOf _ (by omega)]
    by_cases h:k < i
    · rw [if_pos h,show min i (k+1)=k+1 by omega,show min i k=k by omega]
      simp only [wtU]
    · rw [if_neg h,show min i (k+1)=i by omega,show min i k=i by omega]
      simp
theorem Zjb (m:A8):Canon [⟨m,1⟩]:=⟨by simp,by intro t ht; obtain rfl:=ZAs.1 ht; simp⟩
theorem Zun {l g:List Term} {m:A8} (h:l.length≤([⟨m,1⟩]:List Term).length * g.length):l.length≤g.length:=by simpa using h
theorem Zb1 {a:A8} (h:Low a) (p:∀ i,i < 8→0≤a.get i∧a.get i≤255):∀ i,i < 8→0≤a.get i∧a.get i≤20:=fun i hi=>⟨(p i hi).1,h i hi⟩
theorem Zjc {m:A8} {i:Nat} (hm:∀ i,i < 8→0≤m.get i∧m.get i≤20) (hp:0 < m.get i):(∀ j,j < 8→0≤(leftA m i).get j∧(leftA m i).get j≤20)∧(∀ j,j < 8→0≤(backA m i).get j∧(backA m i).get j≤20)∧∀ j,j < 8→(leftA m i).get j+(backA m i).get j≤20:=by
  refine⟨fun j hj=>?_,fun j hj=>?_,fun j hj=>?_⟩
  · rw [leftA,ZOf _ hj]
    have:=hm j hj
    split
    · exact this
    · split
      · rename_i e; subst e; omega
      · omega
  · rw [backA,ZOf _ hj]
    have:=hm j hj
    split <;> omega
  · rw [leftA,backA,ZOf _ hj,ZOf _ hj]
    have:=hm j hj
    split
    · rw [if_neg (by omega)]; omega
    · split
      · rename_i e; subst e; rw [if_neg (by omega)]; omega
      · split <;> omega
theorem Zoa (ds:List Int) (m:A8) (n:Int) (i:Nat):0≤dK ds m n i∧dK ds m n i≤10006:=by unfold dK; omega
theorem Zlc {w:Int} (hw:0≤w):(Zyy w 2≠0∧sg w=-1)∨(¬ Zyy w 2≠0∧sg w=1):=by
  rw [ZAy hw]
  unfold sg
  by_cases h:w % 2=0
  · right; rw [if_pos h]; exact⟨by omega,rfl⟩
  · left; rw [if_neg h]; exact⟨h,rfl⟩
structure StepD (ds:List Int) (imgs:List (List Term)) (m:A8) (n:Int) (i:Nat) (out out':List Term):Prop where
  can:Canon out'
  cf:∀ x,coT out' x % 10007=(coT out x+dK ds m n i * triC ds (leftA m i) (backA m i) (imgs.getD i Zyt) x) % 10007
  mo:∀ y,y∈out'→(∃ z,z∈out∧z.mono=y.mono)∨DMono ds imgs y.mono m
  ln:out'.length≤out.length+400
theorem Zuo {a:Alg} {K:ZIb→Prop} {m:A8} {n v:Int} {i:Nat} {out:List Term} (ha:AlgF a) (hi:i < a.images.length) (hm:OkMono a.degrees m) (pm:∀ i,i < 8→0≤m.get i∧m.get i≤255) (hp:0 < m.get i) (hc:Canon out) (hl:out.length≤50000000) (hv:v % 10007=dK a.degrees m n i)
    (h:∀ out',StepD a.degrees (imgsT a) m n i out out'→K ⟨out'⟩) :
    Jb (leftA m i) 1 (fun r=>Jk a.degrees r (a.images.getD i Zyt) (fun r'=>Jb (backA m i) 1 (fun r2=>Jk a.degrees r' r2 (fun r3=>Jh v (fun k=>Zah ⟨out⟩ r3 k K))))):=by
  have hd:=ha.deg
  have hi8:i < 8:=by have:=hd.1; have:=ha.len; omega
  have hf:=ha.frm i hi
  have ff:=ha.fit i hi
  have hm20:=Zb1 (Zbe hm) pm
  obtain ⟨lb,bb,lbb⟩:=Zjc hm20 hp
  obtain ⟨wl,wb⟩:=Zik hm hi8 hp
  refine Zja ?_
  have hL:(⟨(a.images.getD i Zyt).terms⟩:ZIb)=a.images.getD i Zyt:=rfl
  rw [← hL]
  refine Zi7 hd (Zjb _) (fun u hu=>by obtain rfl:=ZAs.1 hu; exact wl) (fun u hu q hq=>by obtain rfl:=ZAs.1 hu; have:=lb q hq; dsimp only; omega) hf.canon (fun u hu=>(hf.mono hu).wk) ff.pos (by simp) (by have:=hf.1; omega) fun own ho=>?_
  refine Zja ?_
  have hown:∀ u,u∈own→∃ z,z∈(a.images.getD i Zyt).terms∧u.mono=(leftA m i).add z.mono∧¬ Clash a.degrees (leftA m i) z.mono∧(∀ q,q < 8→0≤z.mono.get q∧z.mono.get q≤20):=fun u hu=>by
    obtain ⟨t,z,ht,hz,e,hcl⟩:=ho.mo u hu
    obtain rfl:=ZAs.1 ht
    exact⟨z,hz,e,hcl,Zb1 (Zbe (hf.mono hz)) (ff.pos z hz)⟩
  have wown:∀ u,u∈own→X2 a.degrees u.mono∧∀ q,q < 8→0≤u.mono.get q∧u.mono.get q≤40:=fun u hu=>by
    obtain ⟨z,hz,e,hcl,hz20⟩:=hown u hu
    rw [e]
    refine⟨Zc1 wl (hf.mono hz).wk (fun q hq=>(lb q hq).1) (fun q hq=>(hz20 q hq).1) (fun q hq=>by have:=lb q hq; have:=hz20 q hq; omega) hcl,fun q hq=>?_⟩
    rw [A8.get_add]
    have:=lb q hq
    have:=hz20 q hq
    omega
  have lo:=Zun ho.ln
  refine Zi7 hd ho.can (fun u hu=>(wown u hu).1) (fun u hu q hq=>by have:=(wown u hu).2 q hq; omega) (Zjb _) (fun u hu=>by obtain rfl:=ZAs.1 hu; exact wb) (fun u hu q hq=>by obtain rfl:=ZAs.1 hu; have:=bb q hq; dsimp only; omega) (by have:=hf.1; omega) (by simp) fun prod hpr=>?_
  have lp:prod.length≤400:=by have h1:=hpr.ln; have:=hf.1; simp at h1; omega
  refine Zb0 ?_
  rw [hv]
  refine Zgw hc hpr.can (Zoa _ _ _ _) (by omega) (by omega) fun out' hout=>h out' ⟨hout.can,fun x=>?_,fun y hy=>?_,by have:=hout.ln; omega⟩
  · rw [hout.cf]
    have e1:=Zki (ds:=a.degrees) (l:=leftA m i) (b:=backA m i) (img:=(a.images.getD i Zyt).terms) (own:=own) (prod:=prod) (fun y=>by rw [ho.cf]; simp [prC,tot]) (fun x=>hpr.cf x) x
    rw [Zdy a hi,ZOr,ZOo,e1,← ZOo,← ZOr]
  · obtain ⟨z,hz,e⟩:=hout.mo y hy
    rcases hz with hz | hz
    · exact .inl ⟨z,hz,e⟩
    · obtain ⟨t,b,ht,hb,e2,hcl2⟩:=hpr.mo z hz
      obtain rfl:=ZAs.1 hb
      obtain ⟨u,hu,e3,hcl,_⟩:=hown t ht
      refine .inr ⟨i,u,hi8,hp,by rw [Zdy a hi]; exact hu,by rw [← e,e2,e3],hcl,?_⟩
      rw [← e3]; exact hcl2
theorem Zob {a : Alg} {f : List Term} {K : ZIb → Prop} (ha : AlgF a) (hf : OkForm a.degrees f) (ff : FitT f) (h : ∀ out, IsD a.degrees (imgsT a) f out → out.length ≤ 1280000 → K ⟨out⟩) : Zeo a ⟨f⟩ K := by
  have hd:=ha.deg
  have h8:=hd.1
  have hlen:=ha.len
  have hl4:=hf.1
  unfold Zeo
  dsimp only
  refine X9 (fun (s:List Term×Int)=>0≤s.2∧s.2≤f.length∧IsD a.degrees (imgsT a) (f.take s.2.toNat) s.1∧s.1.length≤3200 * s.2.toNat) (fun s=>f.length - s.2.toNat) ?_ ⟨ZOl _,by dsimp only; omega,⟨Canon.nil,by intro x; rfl,by intro y hy; cases hy⟩,by simp⟩
  rintro ⟨out0,k⟩ next ⟨h1,h2,hI,hL⟩ hn
  dsimp only at h1 h2 hI hL hn ⊢
  split
  · rename_i hk
    have kn:k.toNat < f.length:=by omega
    refine⟨by omega,?_⟩
    have tm:=Ja kn
    have hm:=hf.mono tm
    have pm:=ff.pos _ tm
    have hfac:=hf.canon.at_range kn
    generalize hgm:(f.getD k.toNat Zyt).mono=m at hm pm ⊢
    generalize hgn:(f.getD k.toNat Zyt).factor=n at hfac ⊢
    have nk:(k+1).toNat=k.toNat+1:=by omega
    have wk1:ZA7.wrap (k+1)=k+1:=i64_in _ (by omega)
    refine X9 (fun (s:List Term×Int)=>0≤s.2∧s.2≤a.degrees.length∧Canon s.1∧(∀ x,(coT s.1 x+dS a.degrees (imgsT a) m n x (8 - s.2.toNat) s.2.toNat) % 10007=(tot (fun t=>dT a.degrees (imgsT a) t.mono t.factor x) (f.take k.toNat)+dT a.degrees (imgsT a) m n x) % 10007)∧(∀ y,y∈s.1→∃ t,t∈f.take (k.toNat+1)∧DMono a.degrees (imgsT a) y.mono t.mono)∧s.1.length≤3200 * k.toNat+400 * s.2.toNat)
      (fun s=>a.degrees.length - s.2.toNat) ?_ ⟨ZOl _,by dsimp only; omega,hI.can,fun x=>?_,fun y hy=>?_,by dsimp only; omega⟩
    · rintro ⟨out,i⟩ next' ⟨g1,g2,gc,gf,gm,gl⟩ hn'
      dsimp only at g1 g2 gc gf gm gl hn' ⊢
      have ni:(i+1).toNat=i.toNat+1:=by omega
      have wi:ZA7.wrap (i+1)=i+1:=i64_in _ (by omega)
      rw [wi,wk1]
      split
      · rename_i hi
        have hin:i.toNat < a.degrees.length:=by omega
        have hi8:i.toNat < 8:=by omega
        have pmi:=pm i.toNat hi8
        have hdS:∀ x,dS a.degrees (imgsT a) m n x (8 - i.toNat) i.toNat=(if m.get i.toNat > 0 then dK a.degrees m n i.toNat * triC a.degrees (leftA m i.toNat) (backA m i.toNat) ((imgsT a).getD i.toNat Zyt) x else 0)+dS a.degrees (imgsT a) m n x (8 - (i.toNat+1)) (i.toNat+1):=fun x=>by
          rw [show 8 - i.toNat=(8 - (i.toNat+1))+1 by omega]; rfl
        refine⟨by omega,?_⟩
        split
        · rename_i he
          refine hn' _ ⟨by dsimp only; omega,by dsimp only; omega,gc,fun x=>?_,gm,by dsimp only; omega⟩ (by dsimp only; omega)
          dsimp only
          rw [ni]
          have:=gf x
          rw [hdS,if_neg (by omega),ZAd] at this
          exact this
        · rename_i he
          have hp:0 < m.get i.toNat:=by omega
          refine Xe (fun j (s:A8×A8)=>∀ q,q < 8→(s.1.get q=if q < j∧i.toNat≤q then 0 else m.get q)∧(s.2.get q=if q < j∧q≤i.toNat then 0 else m.get q)) 8 ?_ ?_ _ _ _ (by omega) (fun q hq=>⟨by rw [if_neg (by omega)],by rw [if_neg (by omega)]⟩)
          · rintro j ⟨s1,s2⟩ nx hj hs hnx
            dsimp only at hs ⊢
            have fin:∀ t1 t2:A8,(∀ q,q < 8→t1.get q=if q=j∧i.toNat≤j then 0 else s1.get q)→(∀ q,q < 8→t2.get q=if q=j∧j≤i.toNat then 0 else s2.get q)→nx (t1,t2):=fun t1 t2 e1 e2=>hnx _ fun q hq=>by
              obtain ⟨a1,a2⟩:=hs q hq
              dsimp only
              rw [e1 q hq,e2 q hq]
              constructor
              · by_cases c1:q=j∧i.toNat≤j
                · rw [if_pos c1,if_pos ⟨by omega,by omega⟩]
                · rw [if_neg c1,a1]
                  by_cases c2:q < j∧i.toNat≤q
                  · rw [if_pos c2,if_pos ⟨by omega,c2.2⟩]
                  · rw [if_neg c2,if_neg (by omega)]
              · by_cases c1:q=j∧j≤i.toNat
                · rw [if_pos c1,if_pos ⟨by omega,by omega⟩]
                · rw [if_neg c1,a2]
                  by_cases c2:q < j∧q≤i.toNat
                  · rw [if_pos c2,if_pos ⟨by omega,c2.2⟩]
                  · rw [if_neg c2,if_neg (by omega)]
            have z0:∀ (s:A8) q,(s.set j 0).get q=if q=j then 0 else s.get q:=fun s q=>ZK0 hj
            split
            · rename_i hge
              split
              · rename_i hle
                exact fin _ _ (fun q hq=>by rw [z0]; by_cases e:q=j <;> simp [e]; omega) (fun q hq=>by rw [z0]; by_cases e:q=j <;> simp [e]; omega)
              · rename_i hle
                exact fin _ _ (fun q hq=>by rw [z0]; by_cases e:q=j <;> simp [e]; omega) (fun q hq=>by rw [if_neg (by omega)])
            · rename_i hge
              split
              · rename_i hle
                exact fin _ _ (fun q hq=>by rw [if_neg (by omega)]) (fun q hq=>by rw [z0]; by_cases e:q=j <;> simp [e]; omega)
              · rename_i hle
                exact fin _ _ (fun q hq=>by rw [if_neg (by omega)]) (fun q hq=>by rw [if_neg (by omega)])
          · rintro ⟨s1,s2⟩ hs
            have e1:s1=frontA m i.toNat:=ZK1 fun q hq=>by
              rw [(hs q hq).1,frontA,ZOf _ hq]
              by_cases hh:q < i.toNat
              · rw [if_neg (by omega),if_pos hh]
              · rw [if_pos ⟨hq,by omega⟩,if_neg hh]
            have e2:s2=backA m i.toNat:=ZK1 fun q hq=>by
              rw [(hs q hq).2,backA,ZOf _ hq]
              by_cases hh:i.toNat < q
              · rw [if_neg (by omega),if_pos hh]
              · rw [if_pos ⟨hq,by omega⟩,if_neg hh]
            dsimp only
            rw [e1,e2]
            have hw:∀ q,q < 8→0≤(frontA m i.toNat).get q∧(frontA m i.toNat).get q≤255:=fun q hq=>by
              rw [frontA,ZOf _ hq]
              have:=pm q hq
              split <;> omega
            have hwt:wtU a.degrees (frontA m i.toNat) a.degrees.length=wtU a.degrees m i.toNat:=by rw [Zn9 h8 _ (Zy1 _),show min i.toNat a.degrees.length=i.toNat by omega]
            have hwb:=Zc8 hd pm i.toNat (by omega)
            have hml:=Zbe hm i.toNat hi8
            have hset:(frontA m i.toNat).set i.toNat (IntKind.u8.wrap (m.get i.toNat - 1))=leftA m i.toNat:=ZK1 fun q hq=>by
              rw [ZK0 hi8,Zif _ (by omega),frontA,leftA,ZOf _ hq,ZOf _ hq]
              by_cases e:q=i.toNat
              · subst e; rw [if_pos rfl,if_neg (by omega),if_pos rfl]
              · rw [if_neg e]
                by_cases hh:q < i.toNat
                · rw [if_pos hh,if_pos hh]
                · rw [if_neg hh,if_neg hh,if_neg e]
            rw [hset]
            have hwm:ZA7.wrap (m.get i.toNat)=m.get i.toNat:=i64_in _ (by omega)
            have hpb:0≤n * m.get i.toNat∧n * m.get i.toNat≤100120036:=Zi4 (by omega) (by omega)
            rw [hwm,i64_in (n * m.get i.toNat) (by omega),i64_in (0 - n * m.get i.toNat) (by omega)]
            refine⟨by omega,by omega,by omega,by omega,Zlb hd hw ?_⟩
            rw [hwt]
            have key:∀ v,v % 10007=dK a.degrees m n i.toNat→Jb (leftA m i.toNat) 1 (fun r=>Jk a.degrees r (a.images.getD i.toNat Zyt) (fun r'=>Jb (backA m i.toNat) 1 (fun r2=>Jk a.degrees r' r2 (fun r3=>Jh v (fun k=>Zah ⟨out⟩ r3 k (fun r=>next' (r.terms,i+1))))))):=fun v hv =>
              Zuo ha (by omega) hm pm hp gc (by omega) hv fun out' hs' => by
                refine hn' _ ⟨by dsimp only; omega,by dsimp only; omega,hs'.can,fun x=>?_,fun y hy=>?_,by have:=hs'.ln; dsimp only; omega⟩ (by dsimp only; omega)
                · dsimp only
                  rw [ni]
                  have b1:=gf x
                  have b2:=hs'.cf x
                  rw [hdS,if_pos (by omega)] at b1
                  omega
                · rcases hs'.mo y hy with ⟨z,hz,e⟩ | hD
                  · obtain ⟨t,ht,q⟩:=gm z hz
                    exact⟨t,ht,e ▸ q⟩
                  · exact⟨f.getD k.toNat Zyt,by rw [J4 kn]; exact ZA2 _ (ZAs.2 rfl),by rw [hgm]; exact hD⟩
            rcases Zlc hwb.1 with ⟨q1,q2⟩ | ⟨q1,q2⟩
            · rw [if_pos q1]
              refine⟨by omega,key _ ?_⟩
              unfold dK; rw [q2]; congr 1; omega
            · rw [if_neg q1]
              refine⟨by omega,key _ ?_⟩
              unfold dK; rw [q2]; congr 1; omega
      · rename_i hi
        refine hn _ ⟨by dsimp only; omega,by dsimp only; omega,⟨gc,fun x=>?_,fun y hy=>?_⟩,by dsimp only; omega⟩ (by dsimp only; omega)
        · dsimp only
          rw [nk,J4 kn,Zfs]
          simp only [tot]
          rw [hgm,hgn]
          have:=gf x
          rw [Zrx _ _ (fun j hj1 hj2=>(hm j (by omega)).2 (by omega))] at this
          omega
        · dsimp only
          rw [nk]; exact gm y hy
    · dsimp only
      have:=hI.cf x
      show (coT out0 x+dT a.degrees (imgsT a) m n x) % 10007=_
      omega
    · obtain ⟨t,ht,q⟩:=hI.mo y hy
      exact⟨t,ZOz (i:=k.toNat) (by rw [List.take_take,show min k.toNat (k.toNat+1)=k.toNat by omega]; exact ht),q⟩
  · rename_i hk
    rw [Zzz (by omega)] at hI
    exact h _ hI (by omega)
end Go.Proofs.YtaagfepgbofmlaaGreat
namespace Go.Proofs.YtaagfepgbofmlaaGreat
open Go Vc
theorem Zup {a:Alg} {K:List (Option (List (A8×Int)))→Prop} (ha:AlgF a) (h:∀ ls:List (Option (List (A8×Int))),(∀ i,i < a.images.length→∃ m,ls[i]?=some (some m)∧IsMap (a.images.getD i Zyt).terms m)→K ls):Zgf a K:=by
  unfold Zgf
  have h8:a.images.length≤8:=by have:=ha.deg.1; have:=ha.len; omega
  refine Xe (fun i (s:List (Option (List (A8×Int))))=>s.length=8∧∀ j,j < i→∃ m,s[j]?=some (some m)∧IsMap (a.images.getD j Zyt).terms m) a.images.length ?_ ?_ _ _ _ (by omega) ⟨by simp,by intro j hj; omega⟩
  · intro i s next hi ⟨h1,h2⟩ hn
    have hL:(⟨(a.images.getD i Zyt).terms⟩:ZIb)=a.images.getD i Zyt:=rfl
    rw [← hL]
    refine Zk5 (ha.frm i hi).canon (ha.fit i hi) fun m hm=>⟨by omega,hn _ ⟨by simpa using h1,fun j hj=>?_⟩⟩
    by_cases e:j=i
    · subst e
      exact⟨m,by rw [List.getElem?_set_self (by omega)],hm⟩
    · rw [List.getElem?_set_ne (fun q=>e q.symm)]
      exact h2 j (by omega)
  · intro s ⟨h1,h2⟩
    exact h s h2
theorem Zgy (m:A8):MapOk [(m,1)]:=⟨by simp,by intro p hp; obtain rfl:=ZAs.1 hp; simp⟩
theorem Zuq {a:Alg} {K:List (A8×Int)→Prop} {m:A8} {n v:Int} {i:Nat} {out ml:List (A8×Int)} (ha:AlgF a) (hi:i < a.images.length) (hm:OkMono a.degrees m) (pm:∀ i,i < 8→0≤m.get i∧m.get i≤255) (hp:0 < m.get i) (ho:MapOk out) (hml:IsMap (a.images.getD i Zyt).terms ml) (hv:v % 10007=dK a.degrees m n i)
    (h:∀ out',MapOk out'→(∀ x,co out' x % 10007=(co out x+dK a.degrees m n i * triC a.degrees (leftA m i) (backA m i) ((imgsT a).getD i Zyt) x) % 10007)→(∀ y,y∈out'→(∃ z,z∈out∧z.1=y.1)∨DMono a.degrees (imgsT a) y.1 m)→K out') :
    Jc (Zz ([]:List (A8×Int)) (leftA m i) 1) a.degrees ml (fun r=>Jc r a.degrees (Zz ([]:List (A8×Int)) (backA m i) 1) (fun r2=>Zak v (fun k=>Zam out r2 k K))):=by
  have hd:=ha.deg
  have hi8:i < 8:=by have:=hd.1; have:=ha.len; omega
  have hf:=ha.frm i hi
  have ff:=ha.fit i hi
  have hm20:=Zb1 (Zbe hm) pm
  obtain ⟨lb,bb,lbb⟩:=Zjc hm20 hp
  obtain ⟨wl,wb⟩:=Zik hm hi8 hp
  have hml20:∀ p,p∈ml→OkMono a.degrees p.1∧∃ t,t∈(a.images.getD i Zyt).terms∧t.mono=p.1∧∀ q,q < 8→0≤p.1.get q∧p.1.get q≤20:=fun p hpm=>by
    obtain ⟨t,ht,e⟩:=hml.ks p hpm
    rw [← e]
    exact⟨hf.mono ht,t,ht,rfl,Zb1 (Zbe (hf.mono ht)) (ff.pos t ht)⟩
  show Jc [(leftA m i,1)] a.degrees ml _
  refine Zi8 hd (Zgy _) (fun p hp'=>by obtain rfl:=ZAs.1 hp'; exact wl) (fun p hp' q hq=>by obtain rfl:=ZAs.1 hp'; exact(lb q hq).1) hml.ok (fun p hpm=>(hml20 p hpm).1.wk) (fun p hpm q hq=>by obtain ⟨_,t,_,_,b⟩:=hml20 p hpm; exact(b q hq).1) fun own hown=>?_
  have wown:∀ u,u∈own→∃ z,z∈(a.images.getD i Zyt).terms∧u.1=(leftA m i).add z.mono∧¬ Clash a.degrees (leftA m i) z.mono∧X2 a.degrees u.1∧∀ q,q < 8→0≤u.1.get q∧u.1.get q≤40:=fun u hu=>by
    obtain ⟨t,z,ht,hz,e,hcl⟩:=hown.ks u hu
    obtain rfl:=ZAs.1 ht
    obtain ⟨hzm,tt,htt,ett,hz20⟩:=hml20 z hz
    refine⟨tt,htt,by rw [ett]; exact e,by rw [ett]; exact hcl,?_,fun q hq=>?_⟩
    · rw [e]
      exact Zc1 wl hzm.wk (fun q hq=>(lb q hq).1) (fun q hq=>(hz20 q hq).1) (fun q hq=>by have:=lb q hq; have:=hz20 q hq; dsimp only; omega) hcl
    · rw [e,A8.get_add]
      have:=lb q hq
      have:=hz20 q hq
      dsimp only
      omega
  show Jc own a.degrees [(backA m i,1)] _
  refine Zi8 hd hown.ok (fun u hu=>by obtain ⟨_,_,_,_,w,_⟩:=wown u hu; exact w) (fun u hu q hq=>by obtain ⟨_,_,_,_,_,b⟩:=wown u hu; exact(b q hq).1) (Zgy _) (fun p hp'=>by obtain rfl:=ZAs.1 hp'; exact wb) (fun p hp' q hq=>by obtain rfl:=ZAs.1 hp'; exact(bb q hq).1) fun prod hpr=>?_
  refine Zi3 ?_
  rw [hv]
  refine Zk6 ho hpr.ok (Zoa _ _ _ _) fun out' hout=>h out' hout.ok (fun x=>?_) fun y hy=>?_
  · rw [hout.cf,Zdy a hi]
    have e1:=Zn4 hml hf.canon hown hpr x
    rw [ZOr,ZOo,e1,← ZOo,← ZOr]
  · obtain ⟨z,hz,e⟩:=hout.ks y hy
    rcases hz with hz | hz
    · exact .inl ⟨z,hz,e⟩
    · obtain ⟨t,b,ht,hb,e2,hcl2⟩:=hpr.ks z hz
      obtain rfl:=ZAs.1 hb
      obtain ⟨u,hu,e3,hcl,_⟩:=wown t ht
      refine .inr ⟨i,u,hi8,hp,by rw [Zdy a hi]; exact hu,by rw [← e,e2,e3],hcl,?_⟩
      rw [← e3]; exact hcl2
theorem Zld (m:A8):A8.zero=frontA m 0:=ZK1 fun q hq=>by rw [A8.get_zero,frontA,ZOf _ hq,if_neg (by omega)]
theorem Zjd {m:A8} {i:Nat} (hi:i < 8):(frontA m i).set i (m.get i)=frontA m (i+1):=ZK1 fun q hq=>by
  rw [ZK0 hi,frontA,frontA,ZOf _ hq,ZOf _ hq]
  by_cases e:q=i
  · subst e; rw [if_pos rfl,if_pos (by omega)]
  · rw [if_neg e]
    by_cases hh:q < i
    · rw [if_pos hh,if_pos (by omega)]
    · rw [if_neg hh,if_neg (by omega)]
theorem Zur {d e:Int} (hd:1≤d∧d≤12) (he:0≤e):sg (d * e)=if Zyy d 2=1∧Zyy e 2=1 then -1 else 1:=by
  rw [ZAy (by omega),ZAy he]
  unfold sg
  have h:=ZOo d e 2
  rcases (by omega:d % 2=0∨d % 2=1) with a | a <;> rcases (by omega:e % 2=0∨e % 2=1) with b | b <;> rw [a,b] at h <;> simp [h,a,b]
theorem m_d {a : Alg} {f : List Term} {s : List (A8 × Int)} {K : List (A8 × Int) → Prop} (ha : AlgF a) (hs : IsMap f s) (hf : OkForm a.degrees f) (ff : FitT f) (h : ∀ out, IsDM a.degrees (imgsT a) s out → K out) : Zes a s K := by
  have hd:=ha.deg
  have h8:=hd.1
  have hlen:=ha.len
  unfold Zes
  refine Zup ha fun ls hls=>?_
  refine Zfp (fun l' (out:List (A8×Int))=>(∀ p,p∈l'→p∈s)∧MapOk out∧(∀ x,(co out x+tot (fun p=>dT a.degrees (imgsT a) p.1 p.2 x) l') % 10007=tot (fun p=>dT a.degrees (imgsT a) p.1 p.2 x) s % 10007)∧(∀ y,y∈out→∃ t,t∈s∧DMono a.degrees (imgsT a) y.1 t.1)) ?_ ?_ s [] ⟨fun _ h=>h,MapOk.nil,fun x=>by rw [Zdl,ZAd],by simp⟩
  · intro l' p l'' out next hpk ⟨h0, h1, h2, h3⟩ hn
    have hperm:=Zfq hpk
    have hpm:p∈s:=h0 p (hperm.mem_iff.2 (by simp))
    have hpf:=hs.ok.2 p hpm
    obtain ⟨t,ht,et⟩:=hs.ks p hpm
    have hm:OkMono a.degrees p.1:=by rw [← et]; exact hf.mono ht
    have pm:∀ i,i < 8→0≤p.1.get i∧p.1.get i≤255:=by rw [← et]; exact ff.pos t ht
    have e3:∀ x,tot (fun p=>dT a.degrees (imgsT a) p.1 p.2 x) l'=dT a.degrees (imgsT a) p.1 p.2 x+tot (fun p=>dT a.degrees (imgsT a) p.1 p.2 x) l'':=fun x=>by rw [Zdj _ hperm]; rfl
    refine Xe (fun i (t:A8×(List (A8×Int))×Int)=>t.1=frontA p.1 i∧MapOk t.2.1∧t.2.2=sg (wtU a.degrees p.1 i)∧(∀ x,(co t.2.1 x+dS a.degrees (imgsT a) p.1 p.2 x (8 - i) i) % 10007=(co out x+dT a.degrees (imgsT a) p.1 p.2 x) % 10007)∧(∀ y,y∈t.2.1→∃ t,t∈s∧DMono a.degrees (imgsT a) y.1 t.1)) 8 ?_ ?_ _ _ _ (by omega) ⟨Zld _,h1,rfl,fun x=>rfl,h3⟩
    · rintro i ⟨t1,o1,sg1⟩ nx hi ⟨g1,g2,g3,g4,g5⟩ hnx
      dsimp only at g1 g2 g3 g4 g5 ⊢
      subst g1 g3
      have pmi:=pm i hi
      have hdS:∀ x,dS a.degrees (imgsT a) p.1 p.2 x (8 - i) i=(if p.1.get i > 0 then dK a.degrees p.1 p.2 i * triC a.degrees (leftA p.1 i) (backA p.1 i) ((imgsT a).getD i Zyt) x else 0)+dS a.degrees (imgsT a) p.1 p.2 x (8 - (i+1)) (i+1):=fun x=>by
        rw [show 8 - i=(8 - (i+1))+1 by omega]; rfl
      have hspm:=Zkd (wtU a.degrees p.1 i)
      have tail:∀ o2:List (A8×Int),MapOk o2→(∀ x,(co o2 x+dS a.degrees (imgsT a) p.1 p.2 x (8 - (i+1)) (i+1)) % 10007=(co out x+dT a.degrees (imgsT a) p.1 p.2 x) % 10007)→(∀ y,y∈o2→∃ t,t∈s∧DMono a.degrees (imgsT a) y.1 t.1) →
          (if(i:Int) < (a.degrees.length:Int) then((0≤(i:Int)∧(i:Int) < (a.degrees.length:Int))∧(if Zyy (a.degrees.getD i Zyt) 2=1 then(if Zyy (p.1.get i) 2=1 then nx ((frontA p.1 i).set i (p.1.get i),o2,ZA7.wrap (0 - sg (wtU a.degrees p.1 i))) else nx ((frontA p.1 i).set i (p.1.get i),o2,sg (wtU a.degrees p.1 i))) else nx ((frontA p.1 i).set i (p.1.get i),o2,sg (wtU a.degrees p.1 i)))) else nx ((frontA p.1 i).set i (p.1.get i),o2,sg (wtU a.degrees p.1 i))):=by
        intro o2 k1 k2 k3
        rw [Zjd hi]
        have go:∀ z,z=sg (wtU a.degrees p.1 (i+1))→nx (frontA p.1 (i+1),o2,z):=fun z hz=>hnx _ ⟨rfl,k1,hz,k2,k3⟩
        have hw:wtU a.degrees p.1 (i+1)=wtU a.degrees p.1 i+a.degrees.getD i Zyt * p.1.get i:=rfl
        split
        · rename_i hin
          have hdi:=hd.2 i (by omega)
          have hstep:=Zur hdi pmi.1
          refine⟨by omega,?_⟩
          split
          · rename_i q1
            split
            · rename_i q2
              rw [if_pos ⟨q1,q2⟩] at hstep
              rw [i64_in _ (by omega)]
              exact go _ (by rw [hw,Zig,hstep]; omega)
            · rename_i q2
              rw [if_neg (fun z=>q2 z.2)] at hstep
              exact go _ (by rw [hw,Zig,hstep,Int.mul_one])
          · rename_i q1
            rw [if_neg (fun z=>q1 z.1)] at hstep
            exact go _ (by rw [hw,Zig,hstep,Int.mul_one])
        · rename_i hin
          have:=(hm i hi).2 (by omega)
          exact go _ (by rw [hw,this,Int.mul_zero,ZOk])
      split
      · rename_i hp0
        have hp0':0 < p.1.get i:=hp0
        have hin:i < a.images.length:=by
          rcases Nat.lt_or_ge i a.images.length with q | q
          · exact q
          · have:=(hm i hi).2 (by omega); omega
        have wi:ZA7.wrap ((i:Int)+1)=(i:Int)+1:=i64_in _ (by omega)
        rw [wi]
        refine X9 (fun (t:A8×Int)=>0≤t.2∧t.2≤i+1∧∀ q,q < 8→t.1.get q=if(q:Int) < t.2 then 0 else p.1.get q) (fun t=>i+1 - t.2.toNat) ?_ ⟨ZOl _,by dsimp only; omega,fun q hq=>by rw [if_neg (by dsimp only; omega)]⟩
        rintro ⟨t1,k⟩ nk ⟨b1,b2,b3⟩ hnk
        dsimp only at b1 b2 b3 hnk ⊢
        split
        · rename_i hk
          refine⟨by omega,?_⟩
          rw [i64_in (k+1) (by omega)]
          refine hnk _ ⟨by dsimp only; omega,by dsimp only; omega,fun q hq=>?_⟩ (by dsimp only; omega)
          dsimp only
          rw [ZK0 (by omega),b3 q hq]
          by_cases e:q=k.toNat
          · rw [if_pos e,if_pos (by omega)]
          · rw [if_neg e]
            by_cases hh:(q:Int) < k
            · rw [if_pos hh,if_pos (by omega)]
            · rw [if_neg hh,if_neg (by omega)]
        · rename_i hk
          have eb:t1=backA p.1 i:=ZK1 fun q hq=>by
            rw [b3 q hq,backA,ZOf _ hq]
            by_cases hh:i < q
            · rw [if_neg (by omega),if_pos hh]
            · rw [if_pos (by omega),if_neg hh]
          have hml:=Zbe hm i hi
          have el:(frontA p.1 i).set i (ZA7.wrap (p.1.get i - 1))=leftA p.1 i:=ZK1 fun q hq=>by
            rw [ZK0 hi,i64_in _ (by omega),frontA,leftA,ZOf _ hq,ZOf _ hq]
            by_cases e:q=i
            · subst e; rw [if_pos rfl,if_neg (by omega),if_pos rfl]
            · rw [if_neg e]
              by_cases hh:q < i
              · rw [if_pos hh,if_pos hh]
              · rw [if_neg hh,if_neg hh,if_neg e]
          rw [eb,el]
          obtain ⟨ml,hml1,hml2⟩:=hls i hin
          refine⟨ml,hml1,?_⟩
          refine Zuq (n:=p.2) ha hin hm pm hp0' g2 hml2 ?_ fun o2 k1 k2 k3=>?_
          · rw [Zk4 hspm hpf (by omega)]; rfl
          · refine tail o2 k1 (fun x=>?_) fun y hy=>?_
            · have c1:=g4 x
              have c2:=k2 x
              rw [hdS,if_pos hp0] at c1
              omega
            · rcases k3 y hy with ⟨z,hz,e⟩ | hD
              · obtain ⟨t,ht,q⟩:=g5 z hz
                exact⟨t,ht,e ▸ q⟩
              · exact⟨p,hpm,hD⟩
      · rename_i hp0
        refine tail o1 g2 (fun x=>?_) g5
        have c1:=g4 x
        rw [hdS,if_neg hp0,ZAd] at c1
        exact c1
    · rintro ⟨t1,o1,sg1⟩ ⟨g1,g2,g3,g4,g5⟩
      dsimp only at g2 g4 g5 ⊢
      refine hn _ ⟨fun q hq=>h0 q (hperm.mem_iff.2 (by simp [hq])),g2,fun x=>?_,g5⟩
      have c1:=g4 x
      have c2:=h2 x
      rw [e3] at c2
      simp only [Nat.sub_self,dS] at c1
      omega
  · intro out ⟨_,h1,h2,h3⟩
    exact h _ ⟨h1,fun x=>by have:=h2 x; simp only [tot,ZOk] at this; exact this,h3⟩
theorem Zoc {m:List (A8×Int)} (hm:MapOk m):∃ l,Canon l∧(∀ x,coT l x=co m x)∧∀ t,t∈l→∃ p,p∈m∧p.1=t.mono:=by
  obtain ⟨xs,hxs,hw⟩:=Zni (m.map (·.1))
  obtain ⟨h1,h2⟩:=Zrt hm hxs hw
  refine⟨_,h1,h2,fun t ht=>?_⟩
  obtain ⟨x,hx,rfl⟩:=Zy2.1 ht
  obtain ⟨p,hpm,e⟩:=Zy2.1 (hxs.mem_iff.1 hx)
  exact⟨p,hpm,e⟩
theorem Zus {ds:List Int} {imgs:List (List Term)} {f:List Term} {s out':List (A8×Int)} (hs:IsMap f s) (hc:Canon f) (h':IsDM ds imgs s out'):out'=[]↔∀ out,IsD ds imgs f out→out=[]:=by
  constructor
  · intro e out ho
    exact(Zn5 (Zuc hs hc ho h') ho.can).1 e
  · intro hall
    obtain ⟨l,hl,hcf,hks⟩:=Zoc h'.ok
    have hd:IsD ds imgs f l:=⟨hl,fun x=>by rw [hcf,h'.cf,Zgx hs hc (fun a n=>dT ds imgs a n x) (fun a=>Zkj ds imgs a x)],fun y hy=>by
      obtain ⟨p,hp,e⟩:=hks y hy
      obtain ⟨t,ht,q⟩:=h'.mo p hp
      obtain ⟨u,hu,e2⟩:=hs.ks t ht
      exact⟨u,hu,by rw [← e,e2]; exact q⟩⟩
    have e:=hall l hd
    have hm:IsMap l out':=Zk8 hl h'.ok fun x=>by rw [hcf]
    exact(Zn5 hm hl).2 e
theorem Zut {ds:List Int} {imgs:List (List Term)} {f out out2:List Term} (h:IsD ds imgs f out) (k:IsD ds imgs f out2):out=out2:=Zrj h.can k.can fun x=>by rw [h.cf,k.cf]
def Hom (ds:List Int) (l:List Term) (n:Int):Prop:=∀ i,i < l.length→wtU ds (l.getD i Zyt).mono ds.length=n
instance (ds:List Int) (l:List Term) (n:Int):Decidable (Hom ds l n):=inferInstanceAs (Decidable (∀ i,i < l.length→_))
theorem Zuu {ds : List Int} {l : List Term} {K : Int → Bool → Prop} (hd : OkDeg ds) (hp : FitT l) (h0 : l.length = 0 → K (-1) true) (h1 : 0 < l.length → Hom ds l (wtU ds (l.getD 0 Zyt).mono ds.length) → K (wtU ds (l.getD 0 Zyt).mono ds.length) true) (h2 : (∀ n, ¬ Hom ds l n) → K 0 false) : Zgd ds ⟨l⟩ K := by
  unfold Zgd
  dsimp only
  refine Xe (fun i (s:Int)=>(i=0∧s=-1)∨(0 < i∧s=wtU ds (l.getD 0 Zyt).mono ds.length∧∀ j,j < i→wtU ds (l.getD j Zyt).mono ds.length=wtU ds (l.getD 0 Zyt).mono ds.length)) l.length ?_ ?_ _ _ _ (by omega) (.inl ⟨rfl,rfl⟩)
  · intro i s next hi hI hn
    have f1:=hp _ (Ja hi)
    have b0:=hp.pos _ (Ja hi)
    have hw:=Zc8 hd b0 ds.length (Zy1 _)
    refine Zix f1 (Zn8 hd b0 ?_)
    rcases hI with ⟨e1,e2⟩ | ⟨e1,e2,e3⟩
    · subst e1 e2
      rw [if_neg (by omega)]
      exact hn _ (.inr ⟨by omega, rfl, fun j hj => by obtain rfl : j = 0 := by omega
                                                      rfl⟩)
    · have hw0:=Zc8 hd (hp.pos _ (Ja (show 0 < l.length by omega))) ds.length (Zy1 _)
      rw [if_pos (by omega)]
      split
      · rename_i q
        refine h2 fun n hn'=>q ?_
        rw [hn' i hi,e2,hn' 0 (by omega)]
      · rename_i q
        have q:wtU ds (l.getD i Zyt).mono ds.length=s:=ZOh.1 q
        refine hn _ (.inr ⟨by omega,by rw [q,e2],fun j hj=>?_⟩)
        by_cases e:j=i
        · subst e; rw [q,e2]
        · exact e3 j (by omega)
  · intro s hI
    rcases hI with ⟨e1,e2⟩ | ⟨e1,e2,e3⟩
    · rw [e2]; exact h0 e1
    · rw [e2]; exact h1 e1 e3
theorem Zuv {ds:List Int} {l:List Term} {n:Int} {K:Bool→Prop} (hd:OkDeg ds) (hp:FitT l) (h:K (decide (Hom ds l n))):Zge ds ⟨l⟩ n K:=by
  unfold Zge
  refine Zuu hd hp (fun e=>?_) (fun e hh=>?_) (fun hno=>?_)
  · rw [if_pos rfl,if_pos rfl]
    have:Hom ds l n:=fun i hi=>by omega
    rwa [decide_eq_true this] at h
  · have hw0:=Zc8 hd (hp.pos _ (Ja e)) ds.length (Zy1 _)
    rw [if_pos rfl,if_neg (by omega)]
    have:Hom ds l n↔wtU ds (l.getD 0 Zyt).mono ds.length=n:=⟨fun q=>q 0 e,fun q=>q ▸ hh⟩
    rwa [decide_eq_decide.2 this] at h
  · rw [if_neg (by simp)]
    rwa [decide_eq_false (hno n)] at h
theorem Zuw {ds : List Int} {l : List Term} {K : Int → Bool → Prop} (hd : OkDeg ds) (hp : Zew l) (hl : l.length ≤ 100000000) (h0 : l.length = 0 → K (-1) true) (h1 : 0 < l.length → Hom ds l (wtU ds (l.getD 0 Zyt).mono ds.length) → K (wtU ds (l.getD 0 Zyt).mono ds.length) true) (h2 : (∀ n, ¬ Hom ds l n) → K 0 false) : Zf6 ds ⟨l⟩ K := by
  unfold Zf6
  dsimp only
  split
  · exact h0 (by omega)
  · rename_i q0
    have hpos:0 < l.length:=by omega
    refine⟨by omega,Zlb hd (hp _ (Ja hpos)) ?_⟩
    refine X9 (fun (s:Int)=>1≤s∧s≤l.length∧∀ j:Nat,(j:Int) < s→wtU ds (l.getD j Zyt).mono ds.length=wtU ds (l.getD 0 Zyt).mono ds.length) (fun s=>l.length - s.toNat) ?_ ⟨ZOl _,by omega,fun j hj=>by
      have hj':(j:Int) < 1:=hj
      obtain rfl:j=0:=by omega
      rfl⟩
    rintro i next ⟨g1,g2,g3⟩ hn
    split
    · rename_i hi
      have a:i.toNat < l.length:=by omega
      refine⟨by omega,Zlb hd (hp _ (Ja a)) ?_⟩
      split
      · rename_i q
        refine h2 fun n hn'=>q ?_
        rw [hn' _ a,hn' 0 hpos]
      · rename_i q
        have q:=ZOh.1 q
        rw [i64_in _ (by omega)]
        refine hn _ ⟨by omega,by omega,fun j hj=>?_⟩ (by omega)
        by_cases e:j=i.toNat
        · subst e; exact q
        · exact g3 j (by omega)
    · exact h1 hpos fun j hj=>g3 j (by omega)
structure OkAlg (a:Alg):Prop where
  deg:OkDeg a.degrees
  len:a.images.length=a.degrees.length
  frm:∀ i,i < a.images.length→OkForm a.degrees (a.images.getD i Zyt).terms
  hom:∀ i,i < a.images.length→Hom a.degrees (a.images.getD i Zyt).terms (a.degrees.getD i Zyt+1)
  clo:∀ i,i < a.images.length→∀ out,IsD a.degrees (imgsT a) (a.images.getD i Zyt).terms out→out=[]
def Zbo (a:Alg):Prop:=∀ i,i < a.images.length→FitT (a.images.getD i Zyt).terms∧(a.images.getD i Zyt).terms.length≤1048576
theorem OkAlg.algF {a:Alg} (h:OkAlg a) (hf:Zbo a):AlgF a:=⟨h.deg,h.len,h.frm,fun i hi=>(hf i hi).1⟩
theorem Zux {a : Alg} {K : Bool → Prop} (hf : Zbo a) (h1 : OkAlg a → K true) (h2 : ¬ OkAlg a → K false) : Zf7 a K := by
  unfold Zf7
  refine Ztk ?_
  split
  · rename_i q; exact h2 fun z=>q (decide_eq_true z.deg)
  · rename_i q1
    have q1:=of_decide_eq_true (ZOh.1 q1)
    have h8:=q1.1
    split
    · rename_i q; exact h2 fun z=>q (by rw [z.len])
    · rename_i q2
      have q2:a.images.length=a.degrees.length:=by have:=ZOh.1 q2; omega
      refine X9 (fun (s:Int)=>0≤s∧s≤a.images.length∧∀ i:Nat,(i:Int) < s→OkForm a.degrees (a.images.getD i Zyt).terms∧Hom a.degrees (a.images.getD i Zyt).terms (a.degrees.getD i Zyt+1)) (fun s=>a.images.length - s.toNat) ?_ ⟨ZOl _,by omega,fun i hi=>by omega⟩
      rintro i next ⟨g1,g2,g3⟩ hn
      split
      · rename_i hi
        have hin:i.toNat < a.images.length:=by omega
        obtain ⟨hft,hfl⟩:=hf i.toNat hin
        have hL:(⟨(a.images.getD i.toNat Zyt).terms⟩:ZIb)=a.images.getD i.toNat Zyt:=rfl
        have hdi:=q1.2 i.toNat (by omega)
        have wi:ZA7.wrap (i+1)=i+1:=i64_in _ (by omega)
        rw [wi,← hL]
        refine⟨by omega,Zt7 h8 hft.pos (by omega) ?_⟩
        split
        · rename_i q; exact h2 fun z=>q (decide_eq_true (z.frm _ hin))
        · rename_i q3
          have q3:=of_decide_eq_true (ZOh.1 q3)
          have good:Hom a.degrees (a.images.getD i.toNat Zyt).terms (a.degrees.getD i.toNat Zyt+1)→next (i+1):=fun hh=>hn _ ⟨by omega,by omega,fun j hj=>by
            by_cases e:j=i.toNat
            · subst e; exact⟨q3,hh⟩
            · exact g3 j (by omega)⟩ (by omega)
          have hwd:ZA7.wrap (a.degrees.getD i.toNat Zyt+1)=a.degrees.getD i.toNat Zyt+1:=i64_in _ (by omega)
          rw [hwd]
          refine⟨by omega,Zuw q1 hft.pos (by omega) (fun e=>?_) (fun e hh=>?_) (fun hno=>?_)⟩
          · rw [if_neg (by simp)]
            dsimp only
            refine⟨by omega,?_⟩
            rw [if_neg (by omega)]
            exact good fun j hj=>by omega
          · rw [if_neg (by simp)]
            dsimp only
            refine⟨by omega,?_⟩
            rw [if_pos (by omega)]
            refine⟨by omega,?_⟩
            split
            · rename_i q
              exact h2 fun z=>q (z.hom _ hin 0 e)
            · rename_i q
              have q:=ZOh.1 q
              exact good (q ▸ hh)
          · rw [if_pos (by simp)]
            exact h2 fun z=>hno _ (z.hom _ hin)
      · rename_i hi
        have hF:AlgF a:=⟨q1,q2,fun i hi=>(g3 i (by omega)).1,fun i hi=>(hf i hi).1⟩
        refine X9 (fun (s:Int)=>0≤s∧s≤a.images.length∧∀ i:Nat,(i:Int) < s→∀ out,IsD a.degrees (imgsT a) (a.images.getD i Zyt).terms out→out=[]) (fun s=>a.images.length - s.toNat) ?_ ⟨ZOl _,by omega,fun i hi=>by omega⟩
        rintro k next' ⟨k1,k2,k3⟩ hn'
        split
        · rename_i hk
          have hkn:k.toNat < a.images.length:=by omega
          have hL:(⟨(a.images.getD k.toNat Zyt).terms⟩:ZIb)=a.images.getD k.toNat Zyt:=rfl
          rw [← hL]
          refine⟨by omega,Zob hF (hF.frm _ hkn) (hF.fit _ hkn) fun out ho _=>?_⟩
          dsimp only
          split
          · rename_i q
            refine h2 fun z=>?_
            have:=z.clo _ hkn out ho
            rw [this] at q; simp at q
          · rename_i q
            rw [i64_in _ (by omega)]
            have e:out=[]:=List.length_eq_zero_iff.1 (by omega)
            refine hn' _ ⟨by omega,by omega,fun j hj=>?_⟩ (by omega)
            by_cases ej:j=k.toNat
            · subst ej; intro o2 ho2; rw [Zut ho2 ho,e]
            · exact k3 j (by omega)
        · rename_i hk
          exact h1 ⟨q1,q2,hF.frm,fun i hi=>(g3 i (by omega)).2,fun i hi=>k3 i (by omega)⟩
theorem Zod {l:List ZIb} {p:ZIb→(Bool→Prop)→Prop} {K:Bool→Prop} {Q:ZIb→Prop} (hp:∀ i,i < l.length→∀ K':Bool→Prop,(Q (l.getD i Zyt)→K' true)→(¬ Q (l.getD i Zyt)→K' false)→p (l.getD i Zyt) K')
    (h1:(∃ i,i < l.length∧Q (l.getD i Zyt))→K true) (h2:(∀ i,i < l.length→¬ Q (l.getD i Zyt))→K false):Zet l p K:=by
  unfold Zet Ziz
  refine Xe (fun i (_:Unit)=>∀ j,j < i→¬ Q (l.getD j Zyt)) l.length ?_ ?_ _ _ _ (by omega) (by intro j hj; omega)
  · intro i s next hi hI hn
    refine hp i hi _ (fun q=>?_) (fun q=>?_)
    · rw [if_pos rfl]
      show K (decide ((i:Int)≥0))
      rw [decide_eq_true (show (i:Int)≥0 by omega)]
      exact h1 ⟨i,hi,q⟩
    · rw [if_neg (by simp)]
      refine hn _ fun j hj=>?_
      by_cases e:j=i
      · subst e; exact q
      · exact hI j (by omega)
  · intro s hI
    show K (decide ((-1:Int)≥0))
    rw [decide_eq_false (show ¬ (-1:Int)≥0 by omega)]
    exact h2 hI
theorem Zuy {a : Alg} {K : Bool → Prop} (hf : Zbo a) (h1 : OkAlg a → K true) (h2 : ¬ OkAlg a → K false) : Zgr a K := by
  unfold Zgr
  refine Ztn ?_
  split
  · rename_i q; exact h2 fun z=>q (decide_eq_true z.deg)
  · rename_i q1
    have q1:=of_decide_eq_true (ZOh.1 q1)
    have h8:=q1.1
    split
    · rename_i q; exact h2 fun z=>q (by rw [z.len])
    · rename_i q2
      have q2:a.images.length=a.degrees.length:=by have:=ZOh.1 q2; omega
      refine Xe (fun i (_:Unit)=>∀ j:Nat,j < i→OkForm a.degrees (a.images.getD j Zyt).terms∧Hom a.degrees (a.images.getD j Zyt).terms (a.degrees.getD j Zyt+1)) a.images.length ?_ ?_ _ _ _ (by omega) (by intro j hj; omega)
      · intro i s next hi hI hn
        obtain ⟨hft,hfl⟩:=hf i hi
        have hL:(⟨(a.images.getD i Zyt).terms⟩:ZIb)=a.images.getD i Zyt:=rfl
        have hdi:=q1.2 i (by omega)
        rw [← hL]
        refine Zub q1 hft ?_
        split
        · rename_i q; exact h2 fun z=>q (decide_eq_true (z.frm _ hi))
        · rename_i q3
          have q3:=of_decide_eq_true (ZOh.1 q3)
          rw [i64_in _ (by omega)]
          refine⟨by omega,Zuv q1 hft ?_⟩
          split
          · rename_i q; exact h2 fun z=>q (decide_eq_true (z.hom _ hi))
          · rename_i q4
            have q4:=of_decide_eq_true (ZOh.1 q4)
            refine hn _ fun j hj=>?_
            by_cases e:j=i
            · subst e; exact⟨q3,q4⟩
            · exact hI j (by omega)
      · intro s hI
        have hF:AlgF a:=⟨q1,q2,fun i hi=>(hI i hi).1,fun i hi=>(hf i hi).1⟩
        refine Zod (Q:=fun f=>¬ ∀ out,IsD a.degrees (imgsT a) f.terms out→out=[]) (fun i hi K' c1 c2=>?_) (fun hex=>?_) (fun hall=>?_)
        · unfold Zgq
          have hL:(⟨(a.images.getD i Zyt).terms⟩:ZIb)=a.images.getD i Zyt:=rfl
          rw [← hL]
          refine Zk5 (hF.frm i hi).canon (hF.fit i hi) fun m hm=>m_d hF hm (hF.frm i hi) (hF.fit i hi) fun out ho=>?_
          have hiff:=Zus hm (hF.frm i hi).canon ho
          by_cases e:out=[]
          · subst e
            rw [decide_eq_false (by simp)]
            exact c2 fun z=>z (hiff.1 rfl)
          · have hlen:0 < out.length:=List.length_pos_iff.2 e
            rw [decide_eq_true (by omega)]
            exact c1 fun z=>e (hiff.2 z)
        · obtain ⟨i,hi,hq⟩:=hex
          exact h2 fun z=>hq (z.clo i hi)
        · exact h1 ⟨q1,q2,hF.frm,fun i hi=>(hI i hi).2,fun i hi=>ZO2 (hall i hi)⟩
theorem Zuz {a:Alg} {K:Int→Prop} (hf:Zbo a) (h1:OkAlg a→K 0) (h2:¬ OkAlg a→K 1):Zgs a [] K:=by
  unfold Zgs
  refine Zuy hf (fun z=>?_) (fun z=>?_)
  · rw [if_neg (by simp)]
    refine Zod (Q:=fun _=>True) (fun i hi=>by simp at hi) (fun hex=>by obtain ⟨i,hi,_⟩:=hex; simp at hi) (fun _=>?_)
    exact Zi9 (h1 z)
  · rw [if_pos (by simp)]
    exact Zi9 (h2 z)
end Go.Proofs.YtaagfepgbofmlaaGreat
namespace Vc
open Go Go.RowKit
section
variable {P:Program} {ops:Array Oper} {Q:Exit→Act→World→Prop} {n:Nat} {e:Env} {w w':World} {rest:List Oper}
variable {X:Nat→Prop} {w0:World} {M Ps:List Item}
variable {d ty:Nat} {pos:String} {af:Array Edge}
theorem Zu0 {t t':Nat} {x y:Operand} {k:IntKind} {a b:Int} {gd:Option (Nat×Bool)} (hx:ev n e x=.int k a) (hy:ev n e y=.int k b) :
    (execOp (ev n e) ⟨some d,.call { callee:=.builtin .min,args:=#[x,y],argTypes:=#[t,t'] }, ty,pos,af,gd⟩).run P w=.ok (.value (.int k (if b < a then b else a))) w:=by
  simp [execOp,resolve,invoke,builtin,hx,hy,Builtin.min_,Builtin.min2,Zyu]
theorem Zgz {t t':Nat} {x y:Operand} {k:IntKind} {a b:Int} (hx:ev n e x=.int k a) (hy:ev n e y=.int k b)
    (h:W P ops Q rest n (upd e d (.int k (if b < a then b else a))) w):W P ops Q (⟨some d,.call { callee:=.builtin .min,args:=#[x,y],argTypes:=#[t,t'] }, ty,pos,af,none⟩::rest) n e w :=
  Xd _ rfl rfl (Zu0 hx hy) h
end
section
variable {X:Nat→Prop} {w0 w w':World} {M Ps:List Item}
theorem Ctx.turnO {el sz n m:Nat} {v z:Value} {cs ds:List Value} (hC:Ctx X w0 w M Ps) (k:Nat) (hk:M[k]?=some (own el sz v n cs)) (hB:BelO v.ownBlock.toList w w') (ho:(own el sz z m ds).holds w') (hf:∀ b,b∈z.ownBlock.toList→b∈v.ownBlock.toList∨w.heap.size≤b) :
    Ctx X w0 w' (M.set k (own el sz z m ds)) Ps :=
  hC.turn k hk hB.os hB.tape hB.output hB.size hB.drawn (fun b hb hn=>hB.old b hb hn) ho hf
theorem Ctx.turnS {b t el sz n m : Nat} {v z : Value} {qs bs cs ds : List Value} (hC : Ctx X w0 w (blk b t qs :: own el sz v n cs :: M) Ps) (hB : BelO (b :: v.ownBlock.toList) w w') (g1 : (blk b t bs).holds w') (g2 : (own el sz z m ds).holds w') (hf : ∀ x, x ∈ z.ownBlock.toList → x ∈ v.ownBlock.toList ∨ w.heap.size ≤ x) :
    Ctx X w0 w' (blk b t bs::own el sz z m ds::M) Ps:=by
  have hb0:=hC.m (blk b t qs) (by simp)
  have ho0:=hC.m (own el sz v n cs) (by simp)
  have hd:=hC.dis
  obtain ⟨d1,d2⟩:=Zzy.1 hd
  obtain ⟨d3,d4⟩:=Zzy.1 d2
  have hX1:=hC.mfp (blk b t qs) (by simp)
  have hX2:=hC.mfp (own el sz v n cs) (by simp)
  have hbs:b < w.heap.size:=ZOc _ w hb0 b (ZOi _)
  have hnot:∀ j,j∈M→∀ x,x∈j.fp→x∉b::v.ownBlock.toList:=fun j hj x hx hx'=>by
    rcases Zyz.1 hx' with rfl | hx'
    · exact d1 j (by simp [hj]) x (ZOi _) hx
    · exact d3 j hj x hx' hx
  exact {
    os:=hB.os.trans hC.os
    tape:=hB.tape.trans hC.tape
    output:=hB.output.trans hC.output
    size:=Zy6 hC.size hB.size
    drawn:=Zy6 hC.drawn hB.drawn
    old := fun c hc hx => by
      rw [hB.old c (Nat.lt_of_lt_of_le hc hC.size) (fun q=>?_)]
      · exact hC.old c hc hx
      · rcases Zyz.1 q with rfl | q
        · rcases hX1 c (ZOi _) with r | r
          · omega
          · exact hx r
        · rcases hX2 c q with r | r
          · omega
          · exact hx r
    m := fun j hj => by
      rcases Zyz.1 hj with rfl | hj
      · exact g1
      · rcases Zyz.1 hj with rfl | hj
        · exact g2
        · exact ZOe _ w w' (fun x hx=>hB.old x (ZOc _ w (hC.m j (by simp [hj])) x hx) (hnot j hj x hx)) (hC.m j (by simp [hj]))
    p := fun j hj => ZOe _ w w' (fun x hx => hB.old x (ZOc _ w (hC.p j hj) x hx) (fun q => by
      rcases Zyz.1 q with rfl | q
      · exact hC.pd j hj x hx (blk x t qs) (by simp) (ZOi _)
      · exact hC.pd j hj x hx (own el sz v n cs) (by simp) q)) (hC.p j hj)
    mfp := fun j hj x hx => by
      rcases Zyz.1 hj with rfl | hj
      · exact hX1 x hx
      · rcases Zyz.1 hj with rfl | hj
        · rcases hf x hx with r | r
          · exact hX2 x r
          · exact .inl (Zy6 hC.size r)
        · exact hC.mfp j (by simp [hj]) x hx
    dis := by
      refine Zzy.2 ⟨fun j hj x hx hxj=>?_,Zzy.2 ⟨fun j hj x hx hxj=>?_,d4⟩⟩
      · obtain rfl:x=b:=ZAs.1 hx
        rcases Zyz.1 hj with rfl | hj
        · rcases hf x hxj with r | r
          · exact d1 (own el sz v n cs) (by simp) x (ZOi _) r
          · omega
        · exact d1 j (by simp [hj]) x (ZOi _) hxj
      · rcases hf x hx with r | r
        · exact d3 j hj x r hxj
        · have:=ZOc _ w (hC.m j (by simp [hj])) x hxj
          omega
    pd := fun j hj x hx q hq hxq => by
      rcases Zyz.1 hq with rfl | hq
      · exact hC.pd j hj x hx (blk b t qs) (by simp) hxq
      · rcases Zyz.1 hq with rfl | hq
        · rcases hf x hxq with r | r
          · exact hC.pd j hj x hx (own el sz v n cs) (by simp) r
          · have:=ZOc _ w (hC.p j hj) x hx
            omega
        · exact hC.pd j hj x hx q (by simp [hq]) hxq }
end
theorem Zu1 {P:Program} {w:World} {t el:Nat} {A:Option Addr} {m c:Nat} (ht:P.underlying t=some (.slice el)):(Op.equal t (.slice A m c) (.slice none 0 0)).run P w=.ok A.isNone w:=by
  unfold Op.equal Op.maxDepth
  rw [show (10000:Nat)=9999+1 from rfl]
  unfold Op.equalIn
  cases A <;> simp [run_underlying ht]
section
variable {P:Program} {ops:Array Oper} {Q:Exit→Act→World→Prop} {n:Nat} {e:Env} {w w':World} {rest:List Oper}
variable {d ty:Nat} {pos:String} {af:Array Edge}
theorem Zu2 {t t' el:Nat} {x y:Operand} {A:Option Addr} {m c:Nat} {b:Bool} {gd:Option (Nat×Bool)} (ht:P.underlying t=some (.slice el)) (hx:ev n e x=.slice A m c) (hy:ev n e y=.slice none 0 0) (hb:A.isNone=b) :
    (execOp (ev n e) ⟨some d,.binOp .eql t x y t',ty,pos,af,gd⟩).run P w=.ok (.value (.bool b)) w:=by
  subst hb
  have hq:(eqGuard .eql t x y (.slice A m c) (.slice none 0 0)).run P w=.ok () w:=by unfold eqGuard; simp
  have hr:(binOp .eql t (.slice A m c) (.slice none 0 0)).run P w=.ok (.bool A.isNone) w:=by
    simp [binOp,Zu1 ht]
  simp only [execOp,hx,hy,Zyu,hq,Zyv,hr,Zyw]
theorem Zoe {t t' el:Nat} {x y:Operand} {A:Option Addr} {m c:Nat} (b:Bool) (ht:P.underlying t=some (.slice el)) (hx:ev n e x=.slice A m c) (hy:ev n e y=.slice none 0 0) (hb:A.isNone=b)
    (h:W P ops Q rest n (upd e d (.bool b)) w):W P ops Q (⟨some d,.binOp .eql t x y t',ty,pos,af,none⟩::rest) n e w :=
  Xd _ rfl rfl (Zu2 ht hx hy hb) h
end
theorem Zu3 {α:Type} {t:Ty α} {xs:List α} {v:Value} {fp:List Nat} {w:World} (h:t.sl.rep xs [v] fp w):(∃ m c,v=.slice none m c∧xs=[])∨∃ A m c,v=.slice (some A) m c:=by
  obtain ⟨v',ecs,e,⟨a0,a1,a2,A,c,rfl,a3⟩,h2⟩:=h
  obtain rfl:v=_:=by simpa using e
  cases A with
  | none =>
    refine .inl ⟨_,_,rfl,?_⟩
    rcases Nat.eq_zero_or_pos xs.length with h0 | h0
    · exact List.eq_nil_of_length_eq_zero h0
    · obtain ⟨a,ha,_⟩:=a3 h0
      cases ha
  | some A=>exact .inr ⟨A,_,_,rfl⟩
def J5 (e f:Nat):Tr Der:=.iso (fun a=>(a.drop,a.images)) (.pair (EI .i64).tr (ZOd f (Ya e)))
theorem Zu4 {e f:Nat} {x:Der} {p q:Value} {fp:List Nat} {w:World} (h:((J5 e f).item x [p,q] fp).holds w):p=.int .i64 x.drop∧((ZOd f (Ya e)).item x.images [q] fp).holds w:=by
  obtain ⟨⟨c1,c2,f1,f2,hcs,rfl,h1,h2⟩,hn⟩:=h
  obtain ⟨rfl,rfl⟩:=h1
  obtain ⟨rfl,rfl⟩:p=.int .i64 x.drop∧c2=[q]:=by
    have hcs':[p,q]=.int .i64 x.drop::c2:=hcs
    simp only [ZCo] at hcs'
    exact⟨hcs'.1,hcs'.2.symm⟩
  exact⟨rfl,h2,hn⟩
theorem Zof {e f:Nat} {d:Int} {b:List Form} {u:Value} {f2:List Nat} {w:World} (h2:((ZOd f (Ya e)).item b [u] f2).holds w):((J5 e f).item ⟨d,b⟩ [.int .i64 d,u] f2).holds w :=
  ⟨⟨[.int .i64 d],[u],[],f2,rfl,rfl,⟨rfl,rfl⟩,h2.1⟩,h2.2⟩
end Vc
namespace Vc
open Go Go.RowKit
section
variable {α β:Type}
def Xv (kv : α → Value) (vv : β → Value) : Ty (List (α × β)) where
  sz:=1
  rep l cs fp w:=∃ b,cs=[.map (some b)]∧b∈fp∧(∀ c,c∈fp→c < w.heap.size)∧(Ze kv vv b l).holds w
  keep h hw:=by
    obtain ⟨b,rfl,hb,hl,hm⟩:=hw
    exact⟨b,rfl,hb,Zfc h hl,ZOe _ _ _ (fun c hc=>h c (by obtain rfl:=ZAs.1 hc; exact hb)) hm⟩
  low hw:=by
    obtain ⟨b,rfl,hb,hl,hm⟩:=hw
    exact hl
  len hw:=by obtain ⟨b,rfl,_⟩:=hw; rfl
  one hw u hu:=by
    obtain ⟨b,rfl,_⟩:=hw
    obtain rfl:=ZAs.1 hu
    rfl
  more hw h1 h2:=by
    obtain ⟨b,rfl,hb,hl,hm⟩:=hw
    exact⟨b,rfl,h1 b hb,h2,hm⟩
def Y8 (kv : α → Value) (vv : β → Value) : Tr (List (α × β)) where
  ty:=Xv kv vv
  tree l cs fp w:=∃ b,cs=[.map (some b)]∧fp=[b]∧(Ze kv vv b l).holds w
  tkeep h hw:=by
    obtain ⟨b,rfl,rfl,hm⟩:=hw
    exact⟨b,rfl,rfl,ZOe _ _ _ h hm⟩
  tlow hw:=by
    obtain ⟨b,rfl,rfl,hm⟩:=hw
    exact fun c hc=>ZOc _ _ hm c hc
  trep hw:=by
    obtain ⟨b,rfl,rfl,hm⟩:=hw
    exact⟨b,rfl,ZOi _,fun c hc=>ZOc _ _ hm c hc,hm⟩
theorem Zle {kv:α→Value} {vv:β→Value} {b:Nat} {l:List (α×β)} {w:World} (h:(Ze kv vv b l).holds w):((Y8 kv vv).item l [.map (some b)] [b]).holds w :=
  ⟨⟨b,rfl,rfl,h⟩,Zzk.2 ⟨by simp,List.nodup_nil⟩⟩
end
structure Derive where
  alg:Alg
  drop:Int
  images:List (List (A8×Int))
  deriving Inhabited
def TSum:Ty (List (A8×Int)):=Xv (kvA .i64) (vvI .i64)
def Xq (ta : Nat) : Ty Derive where
  sz:=3
  rep x cs fp w:=∃ b p q u,cs=[.pointer (some ⟨b,0,none⟩),.int .i64 x.drop,u]∧(∀ c,c∈fp→c < w.heap.size)∧b∈fp∧(blk b ta [p,q]).holds w∧TAlg.rep x.alg [p,q] fp w∧TSum.sl.rep x.images [u] fp w
  keep h hw:=by
    obtain ⟨b,p,q,u,rfl,hl,hb,h1,h2,h3⟩:=hw
    exact⟨b,p,q,u,rfl,Zfc h hl,hb,ZOe _ _ _ (fun c hc=>h c (by obtain rfl:=ZAs.1 hc; exact hb)) h1,TAlg.keep h h2,TSum.sl.keep h h3⟩
  low hw:=by
    obtain ⟨b,p,q,u,rfl,hl,_⟩:=hw
    exact hl
  len hw:=by obtain ⟨b,p,q,u,rfl,_⟩:=hw; rfl
  one hw z hz:=by
    obtain ⟨b,p,q,u,rfl,_,_,_,_,h3⟩:=hw
    simp only [Zyz,ZAt,or_false] at hz
    rcases hz with rfl | rfl | rfl
    · rfl
    · rfl
    · exact TSum.sl.one h3 _ (ZOi _)
  more hw h1 h2:=by
    obtain ⟨b,p,q,u,rfl,hl,hb,k1,k2,k3⟩:=hw
    exact⟨b,p,q,u,rfl,h2,h1 b hb,k1,TAlg.more k2 h1 h2,TSum.sl.more k3 h1 h2⟩
theorem Zog {ta:Nat} {x:Derive} {u0 u1 u2:Value} {fp:List Nat} {w:World} (h:(Xq ta).rep x [u0,u1,u2] fp w) :
    ∃ b p q,u0=.pointer (some ⟨b,0,none⟩)∧u1=.int .i64 x.drop∧b∈fp∧(blk b ta [p,q]).holds w∧TAlg.rep x.alg [p,q] fp w∧TSum.sl.rep x.images [u2] fp w:=by
  obtain ⟨b,p,q,u,hc,hl,hb,k1,k2,k3⟩:=h
  simp only [ZCo,and_true] at hc
  obtain ⟨rfl,rfl,rfl⟩:=hc
  exact⟨b,p,q,rfl,rfl,hb,k1,k2,k3⟩
theorem Zoh {ta b:Nat} {a:Alg} {d:Int} {l:List (List (A8×Int))} {p q u:Value} {f1 f2:List Nat} {w:World} (hb:(blk b ta [p,q]).holds w) (h1:TAlg.rep a [p,q] f1 w) (h2:TSum.sl.rep l [u] f2 w) :
    (Xq ta).rep ⟨a,d,l⟩ [.pointer (some ⟨b,0,none⟩),.int .i64 d,u] ((b::f1)++f2) w:=by
  have hl:∀ c,c∈(b::f1)++f2→c < w.heap.size:=fun c hc=>by
    rcases Zzu.1 hc with hc | hc
    · rcases Zyz.1 hc with rfl | hc
      · exact ZOc _ w hb c (ZOi _)
      · exact TAlg.low h1 c hc
    · exact TSum.sl.low h2 c hc
  exact⟨b,p,q,u,rfl,hl,by simp,hb,TAlg.more h1 (fun c hc=>ZA1 _ (List.mem_cons_of_mem _ hc)) hl,TSum.sl.more h2 (fun c hc=>ZA2 _ hc) hl⟩
theorem Zlf {α β:Type} {kv:α→Value} {vv:β→Value} {l:List (α×β)} {u:Value} {fp:List Nat} {w:World} (h:(Xv kv vv).rep l [u] fp w):∃ b,u=.map (some b)∧b∈fp∧(Ze kv vv b l).holds w:=by
  obtain ⟨b,hc,hb,_,hm⟩:=h
  simp only [ZCo,and_true] at hc
  exact⟨b,hc,hb,hm⟩
def Item.both (a c:Item):Item where
  fp:=a.fp++c.fp
  holds w:=a.holds w∧c.holds w
  keep w w' h hw:=⟨ZOe _ _ _ (fun b hb=>h b (ZA1 _ hb)) hw.1,ZOe _ _ _ (fun b hb=>h b (ZA2 _ hb)) hw.2⟩
  low w hw b hb:=(Zzu.1 hb).elim (ZOc _ w hw.1 b) (ZOc _ w hw.2 b)
theorem Ctx.pushD {X:Nat→Prop} {w0 w w':World} {M Ps:List Item} (hC:Ctx X w0 w M Ps) (hB:Bel w w') (a c:Item) (ha:a.holds w') (hc:c.holds w') (hd:∀ x,x∈a.fp→x∉c.fp) (hf:∀ x,x∈a.fp++c.fp→w.heap.size≤x):Ctx X w0 w' (a::c::M) Ps :=
  Ctx.split (c:=Item.both a c) (hC.push hB (Item.both a c) ⟨ha,hc⟩ hf) (fun x hx=>ZA1 _ hx) (fun x hx=>ZA2 _ hx) ⟨ha,hc,hd⟩
section
variable {α β:Type} {kv:α→Value} {vv:β→Value}
def Zdz (e : Nat) (kv : α → Value) (vv : β → Value) (v : Value) (bs : List Nat) (xs : List (List (α × β))) : Item where
  fp:=v.ownBlock.toList++bs
  holds w:=(own e 1 v xs.length (bs.map fun b=>ZKy (some b))).holds w∧bs.length=xs.length∧(∀ i,i < xs.length→(Ze kv vv (bs.getD i 0) (xs.getD i [])).holds w)∧(v.ownBlock.toList++bs).Nodup
  keep w w' h hw:=by
    refine⟨ZOe _ _ _ (fun b hb=>h b (ZA1 _ hb)) hw.1,hw.2.1,fun i hi=>ZOe _ w w' (fun b hb=>h b (ZA2 _ ?_)) (hw.2.2.1 i hi),hw.2.2.2⟩
    obtain rfl:b=bs.getD i 0:=ZAs.1 hb
    have:i < bs.length:=by rw [hw.2.1]; exact hi
    simp [Zzm,this]
  low w hw b hb := by
    rcases Zzu.1 hb with hb | hb
    · exact ZOc _ w hw.1 b hb
    · obtain ⟨i,hi,rfl⟩:=Zzo hb
      have:=ZOc _ w (hw.2.2.1 i (by rw [← hw.2.1]; exact hi)) (bs.getD i 0) (ZOi _)
      simpa [Zzm,hi] using this
theorem Zu5 {α:Type} {l:List α} {i:Nat} {x:α} (h:(l.drop (i * 1)).take 1=[x]):l[i]?=some x:=by
  have:=congrArg (fun z=>z[0]?) h
  simpa using this
theorem Zu6 {e : Nat} {xs : List (List (α × β))} {v : Value} {fp : List Nat} {w : World} (h : ((ZOd e (Y8 kv vv)).item xs [v] fp).holds w) : ∃ bs, (Zdz e kv vv v bs xs).holds w ∧ fp = v.ownBlock.toList ++ bs := by
  obtain ⟨ecs,fps,a1,⟨⟨h1,h2,h3⟩,hn⟩,rfl,a4⟩:=Zel h
  have hz:(Y8 kv vv).ty.sz=1:=rfl
  rw [hz] at h1 h3 a1
  have key:∀ i,i < xs.length→∃ b,ecs[i]?=some (ZKy (some b))∧fps[i]?=some [b]∧(Ze kv vv b (xs.getD i [])).holds w:=fun i hi=>by
    obtain ⟨b,hb,hf,hm⟩:=h3 i hi
    refine⟨b,Zu5 hb,?_,by simpa [Zzm,hi] using hm⟩
    have hi':i < fps.length:=by omega
    simpa [Zzm,hi'] using hf
  let bs:=fps.map fun f=>f.headD 0
  have hbs:∀ i b,i < xs.length→fps[i]?=some [b]→bs[i]?=some b:=fun i b hi hf=>by simp [bs,hf]
  have hfl:fps.flatten=bs:=by
    have:∀ l:List (List Nat),(∀ f,f∈l→∃ b,f=[b])→l.flatten=l.map fun f=>f.headD 0:=by
      intro l
      induction l with
      | nil=>intro _; rfl
      | cons f l ih =>
        intro hl
        obtain ⟨b,rfl⟩:=hl f (by simp)
        simp [ih fun g hg=>hl g (by simp [hg])]
    refine this fps fun f hf=>?_
    obtain ⟨i,hi,rfl⟩:=Zzo hf
    obtain ⟨b,_,hb,_⟩:=key i (by omega)
    rw [List.getElem?_eq_getElem hi] at hb
    exact⟨b,Option.some.inj hb⟩
  have hln:bs.length=xs.length:=by simp [bs,h2]
  have hec:ecs=bs.map fun b=>ZKy (some b):=by
    apply List.ext_getElem?
    intro i
    rcases Nat.lt_or_ge i xs.length with hi | hi
    · obtain ⟨b,hb1,hb2,_⟩:=key i hi
      rw [hb1,List.getElem?_map,hbs i b hi hb2]; rfl
    · rw [List.getElem?_eq_none (by omega),List.getElem?_eq_none (by simp [hln]; omega)]
  refine⟨bs,⟨hec ▸ a1,hln,fun i hi=>?_,?_⟩,by rw [hfl]⟩
  · obtain ⟨b,_,hb2,hm⟩:=key i hi
    have:=hbs i b hi hb2
    rw [Zzm,this]; exact hm
  · rw [← hfl]
    exact ZGz.2 ⟨Zkm v,hn,fun a ha b hb e=>a4 a ha (e ▸ hb)⟩
theorem Zu7 {e:Nat} {xs:List (List (α×β))} {v:Value} {bs:List Nat} {w:World} (h:(Zdz e kv vv v bs xs).holds w):((ZOd e (Y8 kv vv)).item xs [v] (v.ownBlock.toList++bs)).holds w:=by
  obtain ⟨h1,h2,h3,h4⟩:=h
  have hfl:∀ l:List Nat,(l.map fun b=>[b]).flatten=l:=by
    intro l
    induction l with
    | nil=>rfl
    | cons b l ih=>simp [ih]
  obtain ⟨n1,n2,n3⟩:=ZGz.1 h4
  have ht:(Ym (Y8 kv vv) xs (bs.map fun b=>ZKy (some b)) (bs.map fun b=>[b])).holds w:=by
    refine⟨⟨by rw [ZO3,h2]; exact(ZOp _).symm,by simp [h2],fun i hi=>?_⟩,by rw [hfl]; exact n2⟩
    have hi':i < bs.length:=by omega
    refine⟨bs.getD i 0,?_,by simp [Zzm,hi'],by have:=h3 i hi; simpa [Zzm,hi] using this⟩
    show ((bs.map fun b=>ZKy (some b)).drop (i * 1)).take 1=_
    rw [ZOp,ZPu (by simpa using hi')]
    simp [Zzm,hi']
  have:=Zal (e:=e) (T:=Y8 kv vv) (v:=v) h1 ht (fun b hb hb'=>n3 b hb b (by rwa [hfl] at hb') rfl)
  rwa [hfl] at this
theorem Zu8 {e g c n i:Nat} {xs:List (List (α×β))} {v:Value} {bs:List Nat} {w:World} (h:(Zdz e kv vv v bs xs).holds w) (hv:v=.slice (some ⟨g,0,none⟩) n c) (hi:i < xs.length):J8 w ⟨g,i * 1,none⟩ [.map (some (bs.getD i 0))]:=by
  let E:Enc Nat:=⟨1,by decide,fun b=>[.map (some b)],fun _=>rfl,fun _ u hu=>by obtain rfl:=ZAs.1 hu; rfl⟩
  have he:∀ l:List Nat,E.encs l=l.map fun b=>ZKy (some b):=by
    intro l
    induction l with
    | nil=>rfl
    | cons b l ih=>simpa [Enc.encs,E] using ih
  have h0:(own e E.sz v bs.length (E.encs bs)).holds w:=by rw [he,h.2.1]; exact h.1
  exact Zb6 (E:=E) h0 hv i (by rw [h.2.1]; exact hi)
theorem Zu9 {e i:Nat} {xs:List (List (α×β))} {v:Value} {bs:List Nat} {w:World} (h:(Zdz e kv vv v bs xs).holds w) (hi:i < xs.length):(Ze kv vv (bs.getD i 0) (xs.getD i [])).holds w∧bs.getD i 0∈(Zdz e kv vv v bs xs).fp:=by
  refine⟨h.2.2.1 i hi,ZA2 _ ?_⟩
  have:i < bs.length:=by rw [h.2.1]; exact hi
  simp [Zzm,this]
end
end Vc
namespace Vc
open Go Go.RowKit
section
variable {X:Nat→Prop} {w0 w w':World} {M Ps:List Item}
end
theorem Zoi {el sz n:Nat} {v:Value} {cs:List Value} {w:World} (h:(own el sz v n cs).holds w) (m:Nat) (hm:m≤n) :
    ∃ A c,v=.slice A n c∧n≤c∧(own el sz (.slice A m c) m (cs.take (m * sz))).holds w∧(A=none∨∃ g,A=some ⟨g,0,none⟩)∧(Value.slice A m c).ownBlock=v.ownBlock:=by
  obtain ⟨h1,h2⟩:=h
  have hl:(cs.take (m * sz)).length=m * sz:=by
    rw [ZOn,h1]
    have:=Nat.mul_le_mul_right sz hm
    omega
  rcases h2 with ⟨rfl,rfl⟩ | ⟨g,cap,cur,rfl,hbg,hg,hnc,hcm,hcs,ht⟩
  · obtain rfl:m=0:=by omega
    exact⟨none,0,rfl,Zy1 _,⟨hl,.inl ⟨rfl,rfl⟩⟩,.inl rfl,rfl⟩
  · refine⟨_,cap,rfl,hnc,⟨hl,.inr ⟨g,cap,cur,rfl,hbg,hg,by omega,hcm,hcs,?_⟩⟩,.inr ⟨g,rfl⟩,rfl⟩
    rw [← ht,List.take_take,Nat.min_eq_left (Nat.mul_le_mul_right sz hm)]
theorem Zva (A:Option Addr) (h c s:Nat) (hA:A=none∨∃ g,A=some ⟨g,0,none⟩):sliced A 0 h c s=.slice A h c:=by
  unfold sliced
  rcases hA with rfl | ⟨g,rfl⟩
  · simp
  · simp [Addr.add_lit]
section
variable {P:Program} {ops:Array Oper} {Q:Exit→Act→World→Prop} {n:Nat} {e:Env} {w w':World} {rest:List Oper}
variable {X:Nat→Prop} {w0:World} {M Ps:List Item}
variable {d ty:Nat} {pos:String} {af:Array Edge}
theorem Zje {P:Program} {t el:Nat} (ht:P.underlying t=some (.slice el)):P.underlying t=some (.slice (P.elem t)):=by
  have:P.elem t=el:=by simp [ZO4,ht]
  rw [this]; exact ht
end
section
variable {P:Program} {ops:Array Oper} {Q:Exit→Act→World→Prop} {n:Nat} {e:Env} {w w':World} {rest:List Oper}
variable {d ty:Nat} {pos:String} {af:Array Edge}
theorem Zvb {t t':Nat} {ik:IntKind} {x y:Operand} {a b:A8} {gd:Option (Nat×Bool)} (K:KeyT P t (kvA ik)) (hm:P.eqGuardType P.depth t=false) (hx:ev n e x=.agg (ZH8 (a.enc ik))) (hy:ev n e y=.agg (ZH8 (b.enc ik))) :
    (execOp (ev n e) ⟨some d,.binOp .eql t x y t',ty,pos,af,gd⟩).run P w=.ok (.value (.bool (decide (a=b)))) w:=by
  have hq:=run_eqGuard_agg (P:=P) w .eql t x y (ZH8 (a.enc ik)) (ZH8 (b.enc ik)) hm
  have hr:(Op.equalIn 10000 t (.agg (ZH8 (a.enc ik))) (.agg (ZH8 (b.enc ik)))).run P w=.ok (decide (a=b)) w:=K.equal w a b
  simp only [execOp,hx,hy,Zyu,hq,Zyv,run_eql_struct,hr,Zyw]
theorem Zvc {t t':Nat} {ik:IntKind} {x y:Operand} {a b:A8} (K:KeyT P t (kvA ik)) (hm:P.eqGuardType P.depth t=false) (hx:ev n e x=.agg (ZH8 (a.enc ik))) (hy:ev n e y=.agg (ZH8 (b.enc ik)))
    (h:W P ops Q rest n (upd e d (.bool (decide (a=b)))) w):W P ops Q (⟨some d,.binOp .eql t x y t',ty,pos,af,none⟩::rest) n e w :=
  Xd _ rfl rfl (Zvb K hm hx hy) h
end
section
variable {P:Program} {ops:Array Oper} {Q:Exit→Act→World→Prop} {n:Nat} {e:Env} {w w':World} {rest:List Oper}
variable {X:Nat→Prop} {w0:World} {M Ps:List Item}
variable {d ty:Nat} {pos:String} {af:Array Edge} {gd:Option (Nat×Bool)}
end
theorem Zg0 {α:Type} {t:Ty α} {xs:List α} {v:Value} {fp:List Nat} {w:World} (h:t.sl.rep xs [v] fp w):∃ ds,(rdr t.sz v xs.length ds fp).holds w∧t.all xs ds fp w:=by
  obtain ⟨v',ecs,e,h1,h2⟩:=h
  obtain rfl:v=v':=by simpa using e
  exact⟨ecs,h1,h2⟩
theorem Zvd {α:Type} (t:Ty α) (w:World):(t.allItem ([]:List α) [] []).holds w:=⟨by simp,by simp,by simp,fun i hi=>absurd hi (by simp)⟩
theorem Zg1 {α:Type} {t:Ty α} {xs ys:List α} {cs ds:List Value} {f g:List Nat} {w:World} (h:(t.allItem xs cs f).holds w) (k:(t.allItem ys ds g).holds w):(t.allItem (xs++ys) (cs++ds) (f++g)).holds w:=by
  have hl:∀ b,b∈f++g→b < w.heap.size:=fun b hb=>(Zzu.1 hb).elim (h.1 b) (k.1 b)
  refine⟨hl,by rw [ZBe,h.2.1,k.2.1,ZBe,Nat.add_mul],fun u hu=>(Zzu.1 hu).elim (h.2.2.1 u) (k.2.2.1 u),fun i hi=>?_⟩
  by_cases hx:i < xs.length
  · have e1:(xs++ys)[i]=xs[i]:=List.getElem_append_left hx
    have hle:i * t.sz+t.sz≤cs.length:=by rw [h.2.1]; exact Zbk hx
    rw [e1,List.drop_append_of_le_length (by omega),List.take_append_of_le_length (by rw [ZO5]; omega)]
    exact t.more (h.2.2.2 i hx) (fun b hb=>ZA1 _ hb) hl
  · have hy:i - xs.length < ys.length:=by rw [ZBe] at hi; omega
    have e1:(xs++ys)[i]=ys[i - xs.length]:=List.getElem_append_right (by omega)
    have hm:i * t.sz=cs.length+(i - xs.length) * t.sz:=by rw [h.2.1,← Nat.add_mul]; congr 1; omega
    rw [e1,hm,← List.drop_drop,List.drop_left' rfl]
    exact t.more (k.2.2.2 _ hy) (fun b hb=>ZA2 _ hb) hl
end Vc
namespace Vc
open Go Go.RowKit
section
variable {P:Program} {ops:Array Oper} {Q:Exit→Act→World→Prop} {n:Nat} {e:Env} {w w':World} {rest:List Oper}
variable {X:Nat→Prop} {w0:World} {M Ps:List Item}
variable {d ty:Nat} {pos:String} {af:Array Edge}
end
end Vc
namespace Vc
open Go Go.RowKit
structure Elem where
  gen:Int
  mono:A8
  deriving DecidableEq,Inhabited
def Elem.enc (t:Elem):List Value:=.int .i64 t.gen::A8.enc .i64 t.mono
def EElem:Enc Elem:=⟨9,by decide,Elem.enc,fun _=>rfl,fun x u hu=>by
  rcases Zyz.1 hu with rfl | hu
  · rfl
  · exact(EA .i64).one _ u hu⟩
section
variable {P:Program} {k:Nat} {ik:IntKind}
end
section
variable {P:Program} {ops:Array Oper} {Q:Exit→Act→World→Prop} {n:Nat} {e:Env} {w w':World} {rest:List Oper}
variable {X:Nat→Prop} {w0:World} {M Ps:List Item}
variable {d ty:Nat} {pos:String} {af:Array Edge}
theorem Zve {t t':Nat} {x y:Operand} {k:IntKind} {a b:Int} {gd:Option (Nat×Bool)} (hx:ev n e x=.int k a) (hy:ev n e y=.int k b) :
    (execOp (ev n e) ⟨some d,.call { callee:=.builtin .max,args:=#[x,y],argTypes:=#[t,t'] }, ty,pos,af,gd⟩).run P w=.ok (.value (.int k (if a < b then b else a))) w:=by
  simp [execOp,resolve,invoke,builtin,hx,hy,Builtin.max_,Builtin.max2,Zyu]
theorem Zvf {t t':Nat} {x y:Operand} {k:IntKind} {a b:Int} (hx:ev n e x=.int k a) (hy:ev n e y=.int k b)
    (h:W P ops Q rest n (upd e d (.int k (if a < b then b else a))) w):W P ops Q (⟨some d,.call { callee:=.builtin .max,args:=#[x,y],argTypes:=#[t,t'] }, ty,pos,af,none⟩::rest) n e w :=
  Xd _ rfl rfl (Zve hx hy) h
theorem Zvg {f:FuncId} {l:List Operand} {fn:Func} {c:Code} {at_:Array Nat} (vs:List Value) (hf:P.funcs[f]?=some fn) (hb:fn.body=some c) (hne:(fn.name == "runtime.NumGoroutine")=false) (m:Nat) (hm:fn.ntmps=m) (hl:vs.length≤m)
    (hp:l.map (ev n e)=vs) (h:c.wp P (bodyPost P fn (fun ret w''=>∃ v,ret=.returned v∧W P ops Q rest n (upd e d v) w'')) (actOf m (Zhu vs)) w) :
    W P ops Q (⟨some d,.call { callee:=.value (.func f),args:=l.toArray,argTypes:=at_ }, ty,pos,af,none⟩::rest) n e w :=
  Zg vs _ hf (by rw [hb]; rfl) hne hp (Z4 hf hb m hm hl h) (fun ret w'' h=>h)
end
section
variable {P:Program} {ops:Array Oper} {Q:Exit→Act→World→Prop} {n:Nat} {e:Env} {w w':World} {rest:List Oper}
variable {X:Nat→Prop} {w0:World} {M Ps:List Item}
variable {d ty:Nat} {pos:String} {af:Array Edge}
end
end Vc
namespace Vc
open Go Go.RowKit
def Jx (u:Value):List Nat:=u.ownBlock.toList
def J6 (v:Value) (ecs:List Value):List Nat:=v.ownBlock.toList++(ecs.map Jx).flatten
abbrev hd (ecs:List Value) (i:Nat):Value:=ecs.getD i undef
section
variable {α:Type} {E:Enc α} {t e:Nat} {v:Value} {ecs:List Value} {xs:List (List α)} {w w':World}
theorem Zjf {i:Nat} {b:Nat} (hi:i < ecs.length) (hb:b∈Jx (hd ecs i)):b∈(ecs.map Jx).flatten :=
  ZG1.2 ⟨Jx (hd ecs i),Zy2.2 ⟨hd ecs i,by simp [hd,Zzm,hi],rfl⟩,hb⟩
theorem Zoj (hn:(J6 v ecs).Nodup) {i j:Nat} (hi:i < ecs.length) (hj:j < ecs.length) (hne:i≠j):∀ b,b∈Jx (hd ecs i)→b∉Jx (hd ecs j):=by
  have hn2:=(ZGz.1 hn).2.1
  have hp:=(List.pairwise_flatten.1 hn2).2
  rw [ZO1,Zza] at hp
  intro b hb hb'
  have ei:hd ecs i=ecs[i]:=by simp [hd,Zzm,hi]
  have ej:hd ecs j=ecs[j]:=by simp [hd,Zzm,hj]
  rw [ei] at hb; rw [ej] at hb'
  rcases Nat.lt_or_gt_of_ne hne with q | q
  · exact hp i j hi hj q b hb b hb' rfl
  · exact hp j i hj hi q b hb' b hb rfl
theorem Zlg (hn:(J6 v ecs).Nodup) {i:Nat} (hi:i < ecs.length):∀ b,b∈Jx (hd ecs i)→b∉v.ownBlock.toList:=fun b hb hb' =>
  (ZGz.1 hn).2.2 b hb' b (Zjf hi hb) rfl
def mat (E : Enc α) (t e : Nat) (v : Value) (ecs : List Value) (xs : List (List α)) : Item where
  fp:=J6 v ecs
  holds w:=(own t 1 v xs.length ecs).holds w∧(∀ i,i < xs.length→(own e E.sz (hd ecs i) (xs.getD i Zyt).length (E.encs (xs.getD i Zyt))).holds w)∧(J6 v ecs).Nodup
  keep w w' h hw:=⟨ZOe _ _ _ (fun b hb=>h b (ZA1 _ hb)) hw.1,fun i hi=>ZOe _ _ _ (fun b hb=>h b (ZA2 _ (Zjf (by rw [Zfd hw.1]; omega) hb))) (hw.2.1 i hi),hw.2.2⟩
  low w hw b hb := by
    rcases Zzu.1 hb with q | q
    · exact ZOc _ _ hw.1 b q
    · obtain ⟨l,hl,hb⟩:=ZG1.1 q
      obtain ⟨u,hu,rfl⟩:=Zy2.1 hl
      obtain ⟨i,hi,rfl⟩:=Zzo hu
      have hi':i < xs.length:=by rw [Zfd hw.1] at hi; omega
      have:=hw.2.1 i hi'
      rw [show hd ecs i=ecs[i] by simp [hd,Zzm,hi]] at this
      exact ZOc _ _ this b hb
theorem Zd0 (h:(mat E t e v ecs xs).holds w):ecs.length=xs.length:=by rw [Zfd h.1]; omega
theorem Zlh {cs:List Value} {i:Nat} (h:i < cs.length):(cs.drop (i * 1)).take 1=[hd cs i]:=by
  rw [ZOp,ZPu h,List.take_succ_cons,List.take_zero]
  simp [hd,Zzm,h]
theorem Zjg {fp:List Nat} (h:(ZIm (ZOd t (ZOd e E.tr)) xs [v] fp).holds w):∃ ecs,(mat E t e v ecs xs).holds w∧fp=J6 v ecs:=by
  obtain ⟨ecs,fps,a1,a2,rfl,a4⟩:=Zel h
  have hsz:(ZOd e E.tr).ty.sz=1:=rfl
  rw [hsz] at a1
  have hl:ecs.length=xs.length:=by rw [Zfd a1]; omega
  have row:∀ i (hi:i < xs.length),(own e E.sz (hd ecs i) (xs[i]).length (E.encs xs[i])).holds w∧fps.getD i []=Jx (hd ecs i):=fun i hi=>by
    have h2:=a2.1.2.2 i hi
    rw [hsz,Zlh (by omega)] at h2
    exact Zac h2
  have hf:fps=ecs.map Jx:=by
    refine ZBg (by rw [ZO3,a2.1.2.1,hl]) fun i h1 h2=>?_
    have hi:i < xs.length:=by rw [← a2.1.2.1]; exact h1
    have:=(row i hi).2
    rw [show fps.getD i []=fps[i] by simp [Zzm,h1]] at this
    rw [this,List.getElem_map]
    simp [hd,Zzm,show i < ecs.length by omega]
  subst hf
  refine⟨ecs,⟨a1,fun i hi=>?_,h.2⟩,rfl⟩
  rw [show xs.getD i Zyt=xs[i] by simp [Zzm,hi]]
  exact(row i hi).1
theorem Zct (h:(mat E t e v ecs xs).holds w):(ZIm (ZOd t (ZOd e E.tr)) xs [v] (J6 v ecs)).holds w:=by
  have hl:=Zd0 h
  refine⟨⟨v,ecs,ecs.map Jx,rfl,h.1,⟨by rw [hl]; show _=_ * 1; omega,by rw [ZO3,hl],fun i hi=>?_⟩,rfl⟩,h.2.2⟩
  have h2:=h.2.1 i hi
  rw [show xs.getD i Zyt=xs[i] by simp [Zzm,hi]] at h2
  show (ZOd e E.tr).tree xs[i] ((ecs.drop (i * 1)).take 1) _ w
  rw [Zlh (by omega),show (ecs.map Jx).getD i []=Jx (hd ecs i) by simp [Zzm,hd,show i < ecs.length by omega]]
  exact Zno h2
theorem Zaq (h:(mat E t e v ecs xs).holds w) {i:Nat} (hi:i < xs.length):(own e E.sz (hd ecs i) (xs.getD i Zyt).length (E.encs (xs.getD i Zyt))).holds w:=h.2.1 i hi
theorem Zvh (h:(mat E t e v ecs xs).holds w):∃ A c,v=.slice A xs.length c:=J1 h.1
theorem Zca (h:(mat E t e v ecs xs).holds w) (hn:0 < xs.length):∃ g cap,v=.slice (some ⟨g,0,none⟩) xs.length cap:=Zai h.1 hn
theorem Zvi (h:(mat E t e v ecs xs).holds w):E.ty.sl.sl.rep xs [v] (J6 v ecs) w:=(ZOd t (ZOd e E.tr)).trep (Zct h).1
theorem Zcu (h:(mat E t e v ecs xs).holds w) {g nn c:Nat} (hv:v=.slice (some ⟨g,0,none⟩) nn c) {i:Nat} (hi:i < xs.length):J8 w ⟨g,i * 1,none⟩ [hd ecs i]:=by
  obtain ⟨g',cap,e1,hc⟩:=Zjz h.1 (by omega)
  rw [hv] at e1
  injection e1 with e1 e2 e3
  injection e1 with e1
  injection e1 with e1
  subst e1
  intro j u hj
  have hl:=Zd0 h
  have:=hc (i * 1+j) u (by
    rw [← Zlh (by omega),List.getElem?_take] at hj
    split at hj
    · rw [List.getElem?_drop] at hj; exact hj
    · cases hj)
  rw [Zch] at this ⊢
  rwa [Nat.zero_add] at this
end
section
variable {α:Type} {E:Enc α} {t e:Nat} {v:Value} {ecs:List Value} {xs:List (List α)} {w w':World}
theorem Zvj (h:(mat E t e v ecs xs).holds w) {i:Nat} (hi:i < xs.length) {y:List α} (ho:(own e E.sz (hd ecs i) y.length (E.encs y)).holds w') (hB:∀ c,c < w.heap.size→c∉Jx (hd ecs i)→w'.heap[c]?=w.heap[c]?):(mat E t e v ecs (xs.set i y)).holds w':=by
  have hl:=Zd0 h
  refine⟨?_,fun j hj=>?_,h.2.2⟩
  · rw [ZG0]
    exact ZOe _ _ _ (fun b hb=>hB b (ZOc _ _ h.1 b hb) (fun q=>Zlg h.2.2 (by omega) b q hb)) h.1
  · rw [ZG0] at hj
    by_cases q:i=j
    · subst q
      rw [show (xs.set i y).getD i Zyt=y by simp [Zzm,hi]]
      exact ho
    · rw [show (xs.set i y).getD j Zyt=xs.getD j Zyt by simp [Zzm,List.getElem?_set_ne q]]
      exact ZOe _ _ _ (fun b hb=>hB b (ZOc _ _ (h.2.1 j hj) b hb) (fun z=>Zoj h.2.2 (by omega) (by omega) q b z hb)) (h.2.1 j hj)
variable {X:Nat→Prop} {w0:World} {M Ps:List Item}
theorem Ctx.turnRow (hC:Ctx X w0 w M Ps) (k:Nat) (hk:M[k]?=some (mat E t e v ecs xs)) {i:Nat} (hi:i < xs.length) (hB:BelO (Jx (hd ecs i)) w w') {y:List α} (ho:(own e E.sz (hd ecs i) y.length (E.encs y)).holds w'):Ctx X w0 w' (M.set k (mat E t e v ecs (xs.set i y))) Ps:=by
  have h:=hC.getM k hk
  have hl:=Zd0 h
  exact hC.turn k hk hB.os hB.tape hB.output hB.size hB.drawn (fun b hb hn=>hB.old b hb (fun q=>hn (ZA2 _ (Zjf (by omega) q)))) (Zvj h hi ho hB.old) (fun b hb=>.inl hb)
end
section
variable {P:Program} {ops:Array Oper} {Q:Exit→Act→World→Prop} {n:Nat} {ev_:Env} {w w':World} {rest:List Oper}
variable {X:Nat→Prop} {w0:World} {M Ps:List Item}
variable {d ty:Nat} {pos:String} {af:Array Edge}
variable {α:Type} {E:Enc α} {t e:Nat} {v:Value} {ecs:List Value} {xs:List (List α)}
theorem Zvk (hC:Ctx X w0 w M Ps) (k:Nat) {ty' i q g nn cap:Nat} {x y:Operand} (a:α) {u:Value} (hk:M[k]?=some (mat E t e v ecs xs)) (hi:i < xs.length) (hv:hd ecs i=.slice (some ⟨g,0,none⟩) nn cap) (hq:q < (xs.getD i Zyt).length) (hT:X8 P ty' E.sz)
    (hx:ev n ev_ x=.pointer (some ⟨g,q * E.sz,none⟩)) (hy:ev n ev_ y=u) (hu:u.cells.toList=E.enc a)
    (h:∀ w',Ctx X w0 w' (M.set k (mat E t e v ecs (xs.set i ((xs.getD i Zyt).set q a)))) Ps→W P ops Q rest n ev_ w') :
    W P ops Q (⟨none,.store ty' x y,ty,pos,af,none⟩::rest) n ev_ w:=by
  have hm:=hC.getM k hk
  have ho:=Zaq hm hi
  have hnn:nn=(xs.getD i Zyt).length:=by
    obtain ⟨A,c,e1⟩:=J1 ho
    rw [hv] at e1; injection e1
  subst hnn
  rw [hv] at ho
  obtain ⟨w',hr,hb,hos,hta,hou,hsz,hother⟩:=Zh1 (P:=P) (v:=u) hT ho hu (E.len a) (List.all_eq_true.2 fun z hz=>E.one a z hz) (by rw [E.encs_len]; exact Zbk hq)
  have hdr:=Zcf _ _ _ _ hr
  refine Zcv rfl rfl ?_ (h w' (hC.turnRow k hk hi (w':=w') (y:=(xs.getD i Zyt).set q a) ⟨hos,hta,hou,by omega,hdr,fun c _ hc=>hother c (fun z=>hc (by rw [hv,z]; simp [Jx,Zzn]))⟩ ?_))
  · simp [execOp,hx,hy,Instr.storeAt,Instr.sureAddr,hr]
  · rw [Zed _ _ _ hq] at hb
    rw [hv,ZG0]
    exact hb
def Xo {β:Type} (d:β) (l:List β) (i j:Nat):List β:=(l.set i (l.getD j d)).set j (l.getD i d)
theorem Zok {β:Type} (d:β) (l:List β) (i j:Nat):(Xo d l i j).length=l.length:=by simp [Xo]
theorem Zol {β:Type} (d:β) {l:List β} {i j:Nat} (hi:i < l.length) (hj:j < l.length) (k:Nat):(Xo d l i j).getD k d=if k=j then l.getD i d else if k=i then l.getD j d else l.getD k d:=by
  unfold Xo
  simp only [Zzm]
  by_cases a:k=j
  · subst a; rw [if_pos rfl,List.getElem?_set_self (by simpa using hj)]; rfl
  · rw [if_neg a,List.getElem?_set_ne (fun z=>a z.symm)]
    by_cases b:k=i
    · subst b; rw [if_pos rfl,List.getElem?_set_self hi]; rfl
    · rw [if_neg b,List.getElem?_set_ne (fun z=>b z.symm)]
theorem Zvl {β:Type} (d:β) {l:List β} {i j:Nat} (hi:i < l.length) (hj:j < l.length):(Xo d l i j).Perm l:=by
  have e1:l.getD j d=l[j]:=by simp [Zzm,hj]
  have e2:l.getD i d=l[i]:=by simp [Zzm,hi]
  unfold Xo
  rw [e1,e2]
  exact List.set_set_perm hi hj
theorem Zom {cs:List Value} {i:Nat} (hi:i < cs.length) (u:Value):Xx cs (i * 1) [u]=cs.set i u:=Zns hi (ZOp i)
theorem Zon {ty':Nat} {x y:Operand} {a:Addr} {u:Value} {w w':World} (hx:ev n ev_ x=.pointer (some a)) (hy:ev n ev_ y=u) (hr:(storeVar ty' a u).run P w=.ok () w'):(execOp (ev n ev_) ⟨none,.store ty' x y,ty,pos,af,none⟩).run P w=.ok .skip w':=by
  simp [execOp,hx,hy,Instr.storeAt,Instr.sureAddr,hr]
theorem Zoo {u:Value} (h:u.oneCell'=true):[u].all (·.oneCell')=true:=by rw [List.all_cons,h]; rfl
def Zli (E : Enc α) (t e : Nat) (v : Value) (ecs2 ecs : List Value) (xs : List (List α)) : Item where
  fp:=J6 v ecs
  holds w:=(own t 1 v xs.length ecs2).holds w∧(mat E t e v ecs xs).fp.Nodup∧ecs.length=xs.length∧∀ i,i < xs.length→(own e E.sz (hd ecs i) (xs.getD i Zyt).length (E.encs (xs.getD i Zyt))).holds w
  keep w w' h hw:=⟨ZOe _ _ _ (fun b hb=>h b (ZA1 _ hb)) hw.1,hw.2.1,hw.2.2.1,fun i hi=>ZOe _ _ _ (fun b hb=>h b (ZA2 _ (Zjf (by rw [hw.2.2.1]; omega) hb))) (hw.2.2.2 i hi)⟩
  low w hw b hb := by
    rcases Zzu.1 hb with q | q
    · exact ZOc _ _ hw.1 b q
    · obtain ⟨l,hl,hb⟩:=ZG1.1 q
      obtain ⟨u,hu,rfl⟩:=Zy2.1 hl
      obtain ⟨i,hi,rfl⟩:=Zzo hu
      have this:=hw.2.2.2 i (by rw [hw.2.2.1] at hi; exact hi)
      rw [show hd ecs i=ecs[i] by simp [hd,Zzm,hi]] at this
      exact ZOc _ _ this b hb
theorem Zvm {w:World} {ecs2:List Value} (h:(Zli E t e v ecs2 ecs xs).holds w) (hn:0 < xs.length):∃ g cap,v=.slice (some ⟨g,0,none⟩) xs.length cap:=Zai h.1 hn
theorem Zvn (hC:Ctx X w0 w M Ps) (k:Nat) {ty' i j g cap nn:Nat} {x y:Operand} (hk:M[k]?=some (mat E t e v ecs xs)) (hi:i < xs.length) (hj:j < xs.length) (hv:v=.slice (some ⟨g,0,none⟩) nn cap) (hT:X8 P ty' 1)
    (hx:ev n ev_ x=.pointer (some ⟨g,i * 1,none⟩)) (hy:ev n ev_ y=hd ecs j)
    (h:∀ w',Ctx X w0 w' (M.set k (Zli E t e v (ecs.set i (hd ecs j)) ecs xs)) Ps→W P ops Q rest n ev_ w') :
    W P ops Q (⟨none,.store ty' x y,ty,pos,af,none⟩::rest) n ev_ w:=by
  have hm:=hC.getM k hk
  have hl:=Zd0 hm
  have hnn:nn=xs.length:=by
    obtain ⟨A,c,e1⟩:=Zvh hm
    rw [hv] at e1; injection e1
  subst hnn
  have o1:=hm.1
  rw [hv] at o1
  obtain ⟨w1,hr1,hb1,hos1,hta1,hou1,hsz1,hother1⟩:=Zh1 (P:=P) (v:=hd ecs j) hT o1 (Zcm (Zaq hm hj)) rfl (Zoo (Xn (Zaq hm hj))) (show i * 1+1≤ecs.length by omega)
  rw [Zom (by omega)] at hb1
  have hoth:∀ c,c < w.heap.size→c∉v.ownBlock.toList→w1.heap[c]?=w.heap[c]?:=fun c hc hn=>hother1 c (fun z=>hn (by rw [hv,z]; simp [Zzn]))
  refine Zcv (w':=w1) rfl rfl (Zon hx hy hr1) (h w1 (hC.turn k hk hos1 hta1 hou1 (by omega) (Zcf _ _ _ _ hr1) (fun b hb hn=>hoth b hb (fun q=>hn (ZA1 _ q))) ⟨?_,hm.2.2,hl,fun q hq=>?_⟩ (fun b hb=>.inl hb)))
  · rw [hv]; exact hb1
  · exact ZOe _ _ _ (fun b hb=>hoth b (ZOc _ _ (hm.2.1 q hq) b hb) (Zlg hm.2.2 (by omega) b hb)) (hm.2.1 q hq)
theorem Zvo (hC:Ctx X w0 w M Ps) (k:Nat) {ty' i j g cap nn:Nat} {x y:Operand} (hk:M[k]?=some (Zli E t e v (ecs.set i (hd ecs j)) ecs xs)) (hi:i < xs.length) (hj:j < xs.length) (hv:v=.slice (some ⟨g,0,none⟩) nn cap) (hT:X8 P ty' 1)
    (hx:ev n ev_ x=.pointer (some ⟨g,j * 1,none⟩)) (hy:ev n ev_ y=hd ecs i)
    (h:∀ w',Ctx X w0 w' (M.set k (mat E t e v (Xo undef ecs i j) (Xo Zyt xs i j))) Ps→W P ops Q rest n ev_ w') :
    W P ops Q (⟨none,.store ty' x y,ty,pos,af,none⟩::rest) n ev_ w:=by
  have hm:=hC.getM k hk
  have hl:=hm.2.2.1
  have hnn:nn=xs.length:=by
    obtain ⟨A,c,e1⟩:=J1 hm.1
    rw [hv] at e1; injection e1
  subst hnn
  have hmat:(mat E t e v ecs xs).fp.Nodup:=hm.2.1
  have o1:=hm.1
  rw [hv] at o1
  have hl2:(ecs.set i (hd ecs j)).length=xs.length:=by rw [ZG0]; exact hl
  obtain ⟨w2,hr2,hb2,hos2,hta2,hou2,hsz2,hother2⟩:=Zh1 (P:=P) (v:=hd ecs i) hT o1 (Zcm (hm.2.2.2 i hi)) rfl (Zoo (Xn (hm.2.2.2 i hi))) (show j * 1+1≤(ecs.set i (hd ecs j)).length by omega)
  rw [Zom (by omega)] at hb2
  have hoth:∀ c,c < w.heap.size→c∉v.ownBlock.toList→w2.heap[c]?=w.heap[c]?:=fun c hc hn=>hother2 c (fun z=>hn (by rw [hv,z]; simp [Zzn]))
  have hp:((Xo undef ecs i j).map Jx).flatten.Perm (ecs.map Jx).flatten:=((Zvl undef (by omega) (by omega)).map Jx).flatten
  have keep:∀ q,q < xs.length→(own e E.sz (hd ecs q) (xs.getD q Zyt).length (E.encs (xs.getD q Zyt))).holds w2:=fun q hq =>
    ZOe _ _ _ (fun b hb=>hoth b (ZOc _ _ (hm.2.2.2 q hq) b hb) (Zlg hmat (by omega) b hb)) (hm.2.2.2 q hq)
  refine Zcv (w':=w2) rfl rfl (Zon hx hy hr2) (h w2 (hC.turn k hk hos2 hta2 hou2 (by omega) (Zcf _ _ _ _ hr2) (fun b hb hn=>hoth b hb (fun q=>hn (ZA1 _ q))) ⟨?_,fun q hq=>?_,(hp.append_left v.ownBlock.toList).nodup_iff.2 hmat⟩ (fun b hb=>?_)))
  · rw [Zok,hv]; exact hb2
  · rw [Zok] at hq
    rw [show hd (Xo undef ecs i j) q=_ from Zol undef (by omega) (by omega) q,Zol Zyt hi hj q]
    split
    · exact keep i hi
    · split
      · exact keep j hj
      · exact keep q hq
  · rcases Zzu.1 hb with q | q
    · exact .inl (ZA1 _ q)
    · exact .inl (ZA2 _ (hp.mem_iff.1 q))
theorem Zop (hC:Ctx X w0 w M Ps) (k:Nat) {t2:Nat} {kq:IntKind} {hi:Int} {x y:Operand} (hk:M[k]?=some (mat E t e v ecs xs)) (ht:P.underlying t2=some (.slice t)) (hz:X8 P t 1)
    (hx:ev n ev_ x=v) (hy:ev n ev_ y=.int kq hi) (h0:0≤hi) (h1:hi≤xs.length)
    (h:∀ v',Ctx X w0 w (M.set k (mat E t e v' (ecs.take hi.toNat) (xs.take hi.toNat))) Ps→W P ops Q rest n (upd ev_ d v') w) :
    W P ops Q (⟨some d,.slice t2 x none (some y) none,ty,pos,af,none⟩::rest) n ev_ w:=by
  have hm:=hC.getM k hk
  have hl:=Zd0 hm
  obtain ⟨A,c,rfl,hnc,ho,hA,hb⟩:=Zoi hm.1 hi.toNat (by omega)
  have hel:P.elem t2=t:=by simp [ZO4,ht]
  have hr:=run_slice_h (P:=P) w t2 A xs.length c (Zje ht) kq hi h0 (by omega)
  rw [hel,Za1 hz,Zyv,Zva A _ _ _ hA] at hr
  have sub:∀ b,b∈((ecs.take hi.toNat).map Jx).flatten→b∈(ecs.map Jx).flatten:=fun b hb=>by
    obtain ⟨l,hl',hb⟩:=ZG1.1 hb
    obtain ⟨u,hu,rfl⟩:=Zy2.1 hl'
    exact ZG1.2 ⟨_,Zy2.2 ⟨u,ZOz hu,rfl⟩,hb⟩
  have e1:J6 (.slice A hi.toNat c) (ecs.take hi.toNat)=(Value.slice A xs.length c).ownBlock.toList++((ecs.take hi.toNat).map Jx).flatten:=by unfold J6; rw [hb]
  have hlt:(xs.take hi.toNat).length=hi.toNat:=by rw [ZOn]; omega
  refine Xd (.slice A hi.toNat c) rfl rfl ?_ (h _ (hC.turn k hk rfl rfl rfl (Zy1 _) (Zy1 _) (fun _ _ _=>rfl) ⟨?_,fun i hi'=>?_,?_⟩ (fun b hb'=>.inl ?_)))
  · simp only [execOp,hx,hy,Option.map_some,Option.map_none,Zyu,run_sliceAt_slice w t2 _ _ _ _ (Zje ht),hr,Zyv,Zyw]
  · rw [hlt]; rw [ZOp] at ho; exact ho
  · rw [hlt] at hi'
    have e2:(xs.take hi.toNat).getD i Zyt=xs.getD i Zyt:=by simp only [Zzm]; rw [List.getElem?_take,if_pos hi']
    have e3:hd (ecs.take hi.toNat) i=hd ecs i:=by simp only [hd,Zzm]; rw [List.getElem?_take,if_pos hi']
    rw [e2,e3]
    exact Zaq hm (by omega)
  · rw [e1]
    have hn:=hm.2.2
    refine List.Nodup.sublist ?_ hn
    refine List.Sublist.append (List.Sublist.refl _) ?_
    have:((ecs.take hi.toNat).map Jx).flatten++((ecs.drop hi.toNat).map Jx).flatten=(ecs.map Jx).flatten:=by
      rw [← List.flatten_append,← List.map_append,List.take_append_drop]
    rw [← this]
    exact List.sublist_append_left _ _
  · have hb2:b∈J6 (.slice A hi.toNat c) (ecs.take hi.toNat):=hb'
    rw [e1] at hb2
    rcases Zzu.1 hb2 with q | q
    · exact ZA1 _ q
    · exact ZA2 _ (sub b q)
end
section
variable {α:Type}
theorem Zoq {E:Enc α} {t e:Nat} {v:Value} {ecs:List Value} {xs:List (List α)} {w:World} (h:(mat E t e v ecs xs).holds w) {i:Nat} (hi:i < xs.length):i < ecs.length:=by rw [Zd0 h]; exact hi
theorem Zvp {t : Ty α} {xs : List α} {v : Value} {fp : List Nat} {w : World} (h : t.sl.rep xs [v] fp w) {A : Option Addr} {c l : Nat} (hv : v = .slice A xs.length c) (hl : l ≤ xs.length) (hc : xs.length ≤ c) : t.sl.rep (xs.drop l) [sliced A l xs.length c t.sz] fp w := by
  obtain ⟨v',ecs,e1,⟨a0,a1,a2,A',c',e2,a3⟩,h2⟩:=h
  obtain rfl:v=v':=by simpa using e1
  rw [hv] at e2
  injection e2 with e3 e4 e5
  subst e3 e5
  have hlen:(xs.drop l).length=xs.length - l:=ZO5 ..
  have hcl:(ecs.drop (l * t.sz)).length=(xs.length - l) * t.sz:=by rw [ZO5,a1,Nat.sub_mul]
  refine⟨_,ecs.drop (l * t.sz),rfl,⟨a0,by rw [hlen]; exact hcl,by rw [hlen]; omega,?_⟩,?_⟩
  · rw [hlen]
    by_cases q:c=l
    · refine⟨A,c - l,by unfold sliced; rw [if_pos q],fun hn=>by omega⟩
    · refine⟨A.map (·.add (l * t.sz)),c - l,by unfold sliced; rw [if_neg q],fun hn=>?_⟩
      obtain ⟨a,ha,hb,hcell⟩:=a3 (by omega)
      subst ha
      refine⟨a.add (l * t.sz),rfl,?_,fun j u hj=>?_⟩
      · have:(a.add (l * t.sz)).block=a.block:=by unfold Addr.add; split <;> rfl
        rw [this]; exact hb
      · rw [Zdf]
        refine hcell _ u ?_
        rwa [List.getElem?_drop] at hj
  · obtain ⟨b1,b2,b3,b4⟩:=h2
    refine⟨b1,by rw [hlen]; exact hcl,fun u hu=>b3 u (List.mem_of_mem_drop hu),fun i hi=>?_⟩
    have hi':l+i < xs.length:=by rw [hlen] at hi; omega
    have:=b4 (l+i) hi'
    rw [List.getElem_drop,List.drop_drop]
    rw [Nat.add_mul] at this
    exact this
theorem Zvq {E:Enc α} {t e:Nat} {v:Value} {ecs:List Value} {xs:List (List α)} {w:World} (h:(mat E t e v ecs xs).holds w):∃ A c,v=.slice A xs.length c∧xs.length≤c:=by
  obtain ⟨A,c,h1,h2,_⟩:=Zoi h.1 xs.length (Zy1 _)
  exact⟨A,c,h1,h2⟩
end
section
variable {P:Program} {ops:Array Oper} {Q:Exit→Act→World→Prop} {n:Nat} {ev_:Env} {w:World} {rest:List Oper}
variable {d ty:Nat} {pos:String} {af:Array Edge}
theorem Zvr {t2 el sz nv c:Nat} {kq:IntKind} {lo:Int} {x y:Operand} {A:Option Addr} (ht:P.underlying t2=some (.slice el)) (hz:X8 P el sz) (hx:ev n ev_ x=.slice A nv c) (hy:ev n ev_ y=.int kq lo) (h0:0≤lo) (h1:lo≤nv)
    (h:W P ops Q rest n (upd ev_ d (sliced A lo.toNat nv c sz)) w):W P ops Q (⟨some d,.slice t2 x (some y) none none,ty,pos,af,none⟩::rest) n ev_ w:=by
  have hel:P.elem t2=el:=by simp [ZO4,ht]
  have hr:=run_slice_l (P:=P) w t2 A nv c (Zje ht) kq lo h0 h1
  rw [hel,Za1 hz,Zyv] at hr
  refine Xd _ rfl rfl ?_ h
  simp only [execOp,hx,hy,Option.map_some,Option.map_none,Zyu,run_sliceAt_slice w t2 _ _ _ _ (Zje ht),hr,Zyv,Zyw]
end
end Vc
