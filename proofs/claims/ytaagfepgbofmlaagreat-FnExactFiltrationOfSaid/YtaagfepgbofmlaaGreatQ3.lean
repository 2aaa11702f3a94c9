import Derived.Test.YtaagfepgbofmlaaGreatQ2
set_option linter.unusedSectionVars false
set_option linter.unusedSimpArgs false
set_option linter.unusedVariables false
open Bool renaming false_ne_true→ZT9,noConfusion→ZUn
open Go renaming wp_seq→ZMu,wp_skip→ZMy,wp_block→ZM0,wp_ret→ZM3,wp_exit→ZM9
open Go.Addr renaming add_lit→ZUz
open Go.Builtin renaming zeroCells→ZUg,append_→ZHo
open Go.Instr renaming storeAt→ZUk,sureAddr→ZEy,lookup→ZUq,buildSlice→ZUr
open Go.IntKind renaming i64→ZHf,wrap_i64→ZUp
open Go.Program renaming elem→ZUh
open Go.Proofs.Tryz renaming prog→ZMx,underlying122→ZT5,underlying125→ZUa,underlying187→ZUc,underlying22→ZNd,underlying73→ZNh,underlying123→ZUs,func159→ZUt,underlying198→ZUv,underlying85→ZUw,underlying196→ZU2,func115→ZU3
open Go.Result renaming andThen_ok→ZEo
open Go.Sem renaming run_bind→ZEm,run_pure→ZEq
open Go.Value renaming ownBlock→ZFo,slice→ZU0
open Inhabited renaming default→ZEu
open Int renaming tdiv→ZT1,natCast_nonneg→ZNb,ofNat_lt→ZNt
open List renaming mem_cons→ZEn,mem_append→ZEt,mem_append_left→ZE7,toArray→ZHu,mem_append_right→ZE6,mem_cons_of_mem→ZT3,mem_map→ZE1,mem_singleton→ZFn,getD→ZE0,replicate→ZEp,map_append→ZT6,pairwise_cons→ZEx,mem_singleton_self→ZT7,mem_cons_self→ZUb,length_take→ZUe,nodup_append→ZFu,mem_or_eq_of_mem_set→ZN9,append_nil→ZUi,length_append→ZFj,map_cons→ZFw,mem_flatten→ZNv,append_of_mem→ZUm,not_mem_nil→ZGz,getElem_of_mem→ZE8,length_replicate→ZUo,length_drop→ZGw,length_set→ZNp,mem_of_mem_take→ZUx,all_eq_true→ZFs,nodup_cons→ZP3,pairwise_iff_getElem→ZE2,take_of_length_le→ZF0,eq_nil_of_length_eq_zero→ZU8,pairwise_singleton→ZVj
open Nat renaming le_refl→ZEs,le_trans→ZEv,not_lt→ZFd,le_of_ble_eq_true→ZM2,mul_le_mul_right→ZHm,add_mul→ZE4
open Option renaming toList→ZNu,map_some→ZF4,map_none→ZUj
open Vc.A8 renaming enc→ZMs,zero→ZMz
open Vc.Ctx renaming start→ZNf
open Vc.Enc renaming encs→ZUf,encs_append→ZNm
open Vc.Item renaming low→ZT2,keep→ZT4
open Vc.Tr renaming sl→ZT0,item→ZM8,trep→ZUd
open Vc.Ty renaming item→ZMt,more→ZT8
namespace Go.Proofs.YtaagfepgbofmlaaGreat
open Go Vc
theorem Zm6 {a b:A8} {K:Bool→Prop} (h:K (decide (pcmp a b < 0))):Zet a b K:=by
 simp only [Zet,Z9,A8.get];simp only [pcmp,A8.list,Ju] at h
 have e:∀ x y:Int,decide (x - y < 0)=decide (x < y):=λx y=>decide_eq_decide.2 (by omega)
 repeat' split
 all_goals (simp_all)
theorem Zdc {x:Int} {K:Int→Prop} (h:K (x % 10007)):X8 x K:=by
 unfold X8;have:=Zic x;rw [i64_in _ (by omega),Zqu]
 exact h
theorem Zm7 {x:Int} {K:Int→Prop} (h:K (x % 10007)):Zc8 x K:=by
 unfold Zc8;have:=Zic x;rw [i64_in _ (by omega),Zqu]
 exact h
theorem Zkr {a b:Int} (ha:0≤a∧a≤10006) (hb:0≤b∧b≤10006):0≤a * b∧a * b≤100120036 :=
 ⟨Int.mul_nonneg ha.1 hb.1,by have:=Int.mul_le_mul ha.2 hb.2 hb.1 (by omega:(0:Int)≤10006); omega⟩
theorem Zm8 {S:Type} {c:Prop} [Decidable c] {A B:(S→Prop)→Prop} {T:S→Prop} (h:c) (k:A T):joinP (λJ=>if c then A J else B J) T:=by show if c then A T else B T; rw [if_pos h]; exact k
theorem Zks {S:Type} {c:Prop} [Decidable c] {A B:(S→Prop)→Prop} {T:S→Prop} (h:¬ c) (k:B T):joinP (λJ=>if c then A J else B J) T:=by show if c then A T else B T; rw [if_neg h]; exact k
theorem Zga {A B:Prop} (h:A):if true=true then A else B:=by simpa using h
theorem Zkt {A B:Prop} (h:B):if false=true then A else B:=by simpa using h
theorem Yy {c:Prop} [Decidable c] {A B:Prop} (h:c) (k:A):if c then A else B:=by rw [if_pos h]; exact k
theorem Yw {c:Prop} [Decidable c] {A B:Prop} (h:¬ c) (k:B):if c then A else B:=by rw [if_neg h]; exact k
theorem Zq2 {f g:List Term} {k:Int} {K:Vc.Form→Prop} (cf:Canon f) (cg:Canon g) (hk:0≤k∧k≤10006) (hf:f.length≤100000000) (hg:g.length≤100000000) (h:∀ out,IsAdd f g k out→K ⟨out⟩):Zbd ⟨f⟩ ⟨g⟩ k K:=by
 unfold Zbd;dsimp only;refine Jg (λ(s:List Term×Int×Int)=>0≤s.2.1∧0≤s.2.2∧AddI f g k s.1 s.2.1.toNat s.2.2.toNat) (λs=>(f.length - s.2.1.toNat)+(g.length - s.2.2.toNat)) ?_ ⟨Int.le_refl _,Int.le_refl _,AddI.zero f g k⟩
 rintro ⟨out,i,j⟩ next ⟨G,I,A⟩ hn;have hi:=A.hi;have hj:=A.hj;have hln:=A.ln;have B:Z4 (out.length+1) 16:=by unfold Z4; dsimp only at hln hi hj ⊢; omega
 dsimp only at G I A hi hj B hn ⊢
 have ni:(i+1).toNat=i.toNat+1:=by omega
 have nj:(j+1).toNat=j.toNat+1:=by omega
 have wi:ZHf.wrap (i+1)=i+1:=i64_in _ (by omega)
 have wj:ZHf.wrap (j+1)=j+1:=i64_in _ (by omega)
 rw [wi,wj]
 have goF:i.toNat < f.length→(j.toNat < g.length→pcmp (f.getD i.toNat ZEu).mono (g.getD j.toNat ZEu).mono < 0)→next (out++[f.getD i.toNat ZEu],i+1,j):=λa b =>
  hn _ ⟨by dsimp only; omega,by dsimp only; omega,by dsimp only; rw [ni]; exact A.stepF cf cg a b⟩ (by dsimp only; omega)
 have bg:j.toNat < g.length→1≤(g.getD j.toNat ZEu).factor∧(g.getD j.toNat ZEu).factor≤10006:=λa=>cg.at_range a
 have bf:i.toNat < f.length→1≤(f.getD i.toNat ZEu).factor∧(f.getD i.toNat ZEu).factor≤10006:=λa=>cf.at_range a
 have wk:j.toNat < g.length→ZHf.wrap (k * (g.getD j.toNat ZEu).factor)=k * (g.getD j.toNat ZEu).factor:=λa=>by
  have:=bg a;have:=Zkr hk (show 0≤(g.getD j.toNat ZEu).factor∧(g.getD j.toNat ZEu).factor≤10006 by omega)
  exact i64_in _ (by omega)
 have goG:j.toNat < g.length→(i.toNat < f.length→pcmp (g.getD j.toNat ZEu).mono (f.getD i.toNat ZEu).mono < 0) →
   X8 (ZHf.wrap (k * ((g.getD j.toNat ZEu).factor))) (λr=>(if r≠0 then((0≤j∧j < (g.length:Int))∧(Z4 (out.length+1) 16∧next (out++[(⟨(g.getD j.toNat ZEu).mono,r⟩:Term)],i,j+1))) else next (out,i,j+1))):=by
  intro a b;refine Zdc ?_
  rw [wk a];split
  ·rename_i q;exact⟨by omega,B,hn _ ⟨by dsimp only; omega,by dsimp only; omega,by dsimp only; rw [nj]; exact A.stepG1 cf cg a b rfl q⟩ (by dsimp only; omega)⟩
  ·rename_i q;exact hn _ ⟨by dsimp only; omega,by dsimp only; omega,by dsimp only; rw [nj]; exact A.stepG0 cf cg a (by omega)⟩ (by dsimp only; omega)
 have goB:i.toNat < f.length→j.toNat < g.length→(f.getD i.toNat ZEu).mono=(g.getD j.toNat ZEu).mono →
   ((0≤i∧i < (f.length:Int))∧((0≤j∧j < (g.length:Int))∧X8 (ZHf.wrap (k * ((g.getD j.toNat ZEu).factor))) (λr753=>X8 (ZHf.wrap (((f.getD i.toNat ZEu).factor)+r753)) (λr758=>(if r758≠0 then((0≤i∧i < (f.length:Int))∧(Z4 (out.length+1) 16∧next (out++[(⟨(f.getD i.toNat ZEu).mono,r758⟩:Term)],i+1,j+1))) else next (out,i+1,j+1)))))):=by
  intro a b e;refine⟨by omega,by omega,Zdc ?_⟩
  rw [wk b];have:=bf a;rw [i64_in _ (by omega)]
  refine Zdc ?_
  rw [show ((f.getD i.toNat ZEu).factor+k * (g.getD j.toNat ZEu).factor % 10007) % 10007=((f.getD i.toNat ZEu).factor+k * (g.getD j.toNat ZEu).factor) % 10007 by omega]
  split
  ·rename_i q;exact⟨by omega,B,hn _ ⟨by dsimp only; omega,by dsimp only; omega,by dsimp only; rw [ni,nj]; exact A.stepB1 cf cg a b e rfl q⟩ (by dsimp only; omega)⟩
  ·rename_i q;exact hn _ ⟨by dsimp only; omega,by dsimp only; omega,by dsimp only; rw [ni,nj]; exact A.stepB0 cf cg a b e (by omega)⟩ (by dsimp only; omega)
 by_cases hif:i < (f.length:Int)
 ·refine Zm8 hif (Zga ?_)
  by_cases hjg:j=(g.length:Int)
  ·exact Zm8 hjg (Zga ⟨by omega,B,goF (by omega) (λq=>by omega)⟩)
  ·refine Zks hjg (Yy hif ⟨by omega,by omega,Zm6 ?_⟩)
   by_cases hp:pcmp (f.getD i.toNat ZEu).mono (g.getD j.toNat ZEu).mono < 0
   ·rw [decide_eq_true hp];exact Zga ⟨by omega,B,goF (by omega) (λ_=>hp)⟩
   ·rw [decide_eq_false hp];refine Zkt (Zks (by omega) ⟨by omega,by omega,Zm6 ?_⟩)
    by_cases hq:pcmp (g.getD j.toNat ZEu).mono (f.getD i.toNat ZEu).mono < 0
    ·rw [decide_eq_true hq];exact Zga ⟨by omega,goG (by omega) (λ_=>hq)⟩
    ·rw [decide_eq_false hq];exact Zkt (goB (by omega) (by omega) (Zkk hp hq))
 ·refine Zks hif ?_
  by_cases hjg:j < (g.length:Int)
  ·rw [decide_eq_true hjg];refine Zga (Zks (by omega) (Yw hif (Zkt (Zm8 (by omega) (Zga ⟨by omega,goG (by omega) (λq=>by omega)⟩)))))
  ·rw [decide_eq_false hjg];exact Zkt (h _ (A.done (by omega) (by omega)))
def OkForm (ds:List Int) (l:List Term):Prop:=l.length≤400∧∀ i,i < l.length→OkMono ds (l.getD i ZEu).mono∧(1≤(l.getD i ZEu).factor∧(l.getD i ZEu).factor≤10006)∧(0 < i→pcmp (l.getD (i - 1) ZEu).mono (l.getD i ZEu).mono < 0)
instance (ds:List Int) (l:List Term):Decidable (OkForm ds l):=inferInstanceAs (Decidable (_∧∀ i,i < l.length→_))
theorem OkForm.canon {ds:List Int} {l:List Term} (h:OkForm ds l):Canon l:=by
 have step:∀ n i,i+n+1 < l.length→pcmp (l.getD i ZEu).mono (l.getD (i+n+1) ZEu).mono < 0:=by
  intro n
  induction n with
  | zero=>intro i hi; have:=(h.2 (i+1) (by omega)).2.2 (by omega); simpa using this
  | succ n ih =>
   intro i hi;have B:=ih i (by omega)
   have A:=(h.2 (i+(n+1)+1) (by omega)).2.2 (by omega)
   rw [show i+(n+1)+1 - 1=i+n+1 by omega] at A
   exact Zb7 B A
 refine⟨ZE2.2 λi j hi hj hij=>?_,λt ht=>?_⟩
 ·have:=step (j - i - 1) i (by omega)
  rw [show i+(j - i - 1)+1=j by omega] at this
  simpa [ZE0,hi,hj] using this
 ·obtain ⟨i,hi,rfl⟩:=ZE8 ht;have:=(h.2 i hi).2.1;simpa [ZE0,hi] using this
theorem OkForm.mono {ds:List Int} {l:List Term} (h:OkForm ds l) {t:Term} (ht:t∈l):OkMono ds t.mono:=by
 obtain ⟨i,hi,rfl⟩:=ZE8 ht;have:=(h.2 i hi).1;simpa [ZE0,hi] using this
theorem Zx9 {ds:List Int} {l:List Term} (hc:Canon l) (hl:l.length≤400) (hm:∀ t,t∈l→OkMono ds t.mono):OkForm ds l :=
 ⟨hl,λi hi=>⟨hm _ (Yx hi),hc.at_range hi,λh=>hc.at_lt (by omega) hi⟩⟩
def Ze1 (l:List Term):Prop:=∀ t,t∈l→∀ i,i < 8→0≤t.mono.get i∧t.mono.get i≤255
theorem Zq3 {ds:List Int} {l:List Term} {K:Bool→Prop} (hd:ds.length≤8) (hp:Ze1 l) (hl:l.length≤100000000) (h:K (decide (OkForm ds l))):Zfx ds ⟨l⟩ K:=by
 unfold Zfx;dsimp only;refine Jg (λ(s:Int)=>0≤s∧s≤l.length∧∀ i,i < s.toNat→OkMono ds (l.getD i ZEu).mono∧(1≤(l.getD i ZEu).factor∧(l.getD i ZEu).factor≤10006)∧(0 < i→pcmp (l.getD (i - 1) ZEu).mono (l.getD i ZEu).mono < 0)) (λs=>l.length - s.toNat) ?_ ⟨by omega,by omega,λi hi=>by omega⟩
 rintro i next ⟨U,V,G⟩ hn
 have bad:(i.toNat < l.length)→¬ (OkMono ds (l.getD i.toNat ZEu).mono∧(1≤(l.getD i.toNat ZEu).factor∧(l.getD i.toNat ZEu).factor≤10006)∧(0 < i.toNat→pcmp (l.getD (i.toNat - 1) ZEu).mono (l.getD i.toNat ZEu).mono < 0))→K false:=by
  intro a b;have:¬ OkForm ds l:=λq=>b (q.2 _ a)
  rwa [decide_eq_false this] at h
 split
 ·rename_i hi;have a:i.toNat < l.length:=by omega
  refine⟨by omega,Zw8 (λq hq=>(hp _ (Yx a) q hq).1) hd ?_⟩
  split
  ·rename_i q;exact bad a λz=>q (decide_eq_true z.1)
  ·rename_i A;have A:OkMono ds (l.getD i.toNat ZEu).mono:=by simpa using A
   refine Zmz ?_
   split
   ·rename_i q;exact bad a λz=>q (decide_eq_true z.2.1)
   ·rename_i B;have B:1≤(l.getD i.toNat ZEu).factor∧(l.getD i.toNat ZEu).factor≤10006:=by simpa using B
    have I:ZHf.wrap (i+1)=i+1:=i64_in _ (by omega)
    rw [I]
    have ok:(0 < i.toNat→pcmp (l.getD (i.toNat - 1) ZEu).mono (l.getD i.toNat ZEu).mono < 0)→next (i+1):=λL=>by
     refine hn _ ⟨by omega,by omega,λj hj=>?_⟩ (by omega)
     by_cases hji:j=i.toNat
     ·subst hji; exact⟨A,B,L⟩
     ·exact G j (by omega)
    split
    ·have O:ZHf.wrap (i - 1)=i - 1:=i64_in _ (by omega)
     rw [O,show (i - 1).toNat=i.toNat - 1 by omega]
     refine⟨by omega,Zm6 ?_⟩
     split
     ·rename_i q;exact bad a λz=>q (decide_eq_true (z.2.2 (by omega)))
     ·rename_i q;exact ok λ_=>by simpa using q
    ·exact ok λq=>by omega
 ·rename_i hi;have:OkForm ds l↔(l.length:Int)≤400:=⟨λq=>by have:=q.1; omega,λq=>⟨by omega,λi hi'=>G i (by omega)⟩⟩
  rw [decide_eq_decide.2 this] at h
  exact h
theorem Zm9 {s a b:Int} (hs:s=1∨s=-1) (ha:1≤a∧a≤10006) (hb:1≤b∧b≤10006):ZHf.wrap (ZHf.wrap (s * a) * b)=s * (a * b):=by
 have:=Zkr (show 0≤a∧a≤10006 by omega) (show 0≤b∧b≤10006 by omega)
 rcases hs with rfl | rfl
 ·rw [i64_in (1 * a) (by omega),Int.mul_assoc,i64_in _ (by omega)]
 ·rw [i64_in (-1 * a) (by omega),Int.mul_assoc,i64_in _ (by omega)]
theorem Zya {ds:List Int} {t:Term} {g:List Term} {K:Vc.Form→Prop} (hd:OkDeg ds) (ht:Jh ds t.mono) (htf:1≤t.factor∧t.factor≤10006) (pt:∀ i,i < 8→0≤t.mono.get i) (cg:Canon g) (wg:∀ u,u∈g→Jh ds u.mono) (pg:Ze1 g) (hl:g.length≤100000000)
  (h:∀ out,IsShift ds t g out→K ⟨out⟩):Zhu ds t ⟨g⟩ K:=by
 unfold Zhu;dsimp only;refine Jg (λ(s:List Term×Int)=>0≤s.2∧s.2≤g.length∧IsShift ds t (g.take s.2.toNat) s.1) (λs=>g.length - s.2.toNat) ?_ ⟨by omega,by omega,by simpa using IsShift.nil ds t⟩
 rintro ⟨out,i⟩ next ⟨B,G,A⟩ hn;dsimp only at B G A hn ⊢
 split
 ·rename_i hi;have a:i.toNat < g.length:=by omega
  have hu:=Yx a;have ni:(i+1).toNat=i.toNat+1:=by omega
  have wi:ZHf.wrap (i+1)=i+1:=i64_in _ (by omega)
  rw [wi]
  have hct:Canon (g.take i.toNat++[g.getD i.toNat ZEu]):=by
   rw [← Xu a]
   exact⟨cg.1.sublist (List.take_sublist _ _),λs hs=>cg.2 s (ZUx hs)⟩
  refine⟨by omega,Zxg hd ht (wg _ hu) pt (λq hq=>(pg _ hu q hq).1) ?_⟩
  split
  ·rename_i hs;have hf:=cg.at_range a;have hln:=A.ln;simp only [ZUe] at hln
   refine⟨by omega,Zdc ?_⟩
   rw [Zm9 (Zid hs).2.2 htf hf];refine⟨by unfold Z4; omega,hn _ ⟨by dsimp only; omega,by dsimp only; omega,?_⟩ (by dsimp only; omega)⟩
   dsimp only;rw [ni,Xu a];exact A.put hct htf hs rfl
  ·rename_i hs;refine hn _ ⟨by dsimp only; omega,by dsimp only; omega,?_⟩ (by dsimp only; omega)
   dsimp only;rw [ni,Xu a];exact A.skip (by simpa using hs)
 ·rename_i hi;rw [ZF0 (by omega)] at A
  exact h _ A
theorem Zq4 {ds:List Int} {f g:List Term} {K:Vc.Form→Prop} (hd:OkDeg ds) (cf:Canon f) (wf:∀ u,u∈f→Jh ds u.mono) (pf:Ze1 f) (cg:Canon g) (wg:∀ u,u∈g→Jh ds u.mono) (pg:Ze1 g) (hf:f.length≤10000) (hg:g.length≤10000)
  (h:∀ out,IsProd ds f g out→K ⟨out⟩):Zai ds ⟨f⟩ ⟨g⟩ K:=by
 unfold Zai;dsimp only;refine Jg (λ(s:List Term×Int)=>0≤s.2∧s.2≤f.length∧IsProd ds (f.take s.2.toNat) g s.1) (λs=>f.length - s.2.toNat) ?_ ⟨by omega,by omega,by simpa using IsProd.nil ds g⟩
 rintro ⟨out,i⟩ next ⟨B,G,A⟩ hn;dsimp only at B G A hn ⊢
 split
 ·rename_i hi;have a:i.toNat < f.length:=by omega
  have hu:=Yx a;have ni:(i+1).toNat=i.toNat+1:=by omega
  have wi:ZHf.wrap (i+1)=i+1:=i64_in _ (by omega)
  rw [wi];refine⟨by omega,Zya hd (wf _ hu) (cf.at_range a) (λq hq=>(pf _ hu q hq).1) cg wg pg (by omega) λsh hsh=>?_⟩
  have hln:=A.ln;have hls:=hsh.ln;have:(f.take i.toNat).length * g.length≤10000 * 10000:=Nat.mul_le_mul (by rw [ZUe]; omega) hg
  refine Zq2 A.can hsh.can (by omega) (by omega) (by omega) λout' ho=>?_
  refine hn _ ⟨by dsimp only; omega,by dsimp only; omega,?_⟩ (by dsimp only; omega)
  dsimp only;rw [ni,Xu a];exact A.step hsh ho
 ·rename_i hi;rw [ZF0 (by omega)] at A
  exact h _ A
end Go.Proofs.YtaagfepgbofmlaaGreat
namespace Vc
open Go Go.RowKit
theorem Zik (zc:Value) (m:Nat):ZUg #[zc] m=(ZEp m zc).toArray:=by
 unfold ZUg;apply Array.ext
 ·simp
 ·intro i h A;simp [Nat.mod_one]
theorem Zyb {P:Program} {w:World} (t tn ty e:TypeId) (i:TypeInfo) (z zc:Value) (kq kn:IntKind) (ht:P.underlying t=some (.slice e)) (htn:P.underlying tn=some (.int kn)) (hi:P.info? e=some i) (hz:i.zero=some z) (hzc:z.cells=#[zc]) (A:zc.oneCell'=true)
  (bytes:Nat) (hsize:i.size=1) (hby:i.bytes=bytes) (v:Value) (n:Nat) (xs:List Value) (hown:w.ownsRow 0 e 1 v n xs) (m:Nat) (h:n+m≤maxLen) (hbytes:(n+m) * bytes≤140737488355328) :
  ∃ v' w',(ZHo #[t,tn] ty #[v,.int kq m]).run P w=.ok v' w'∧w'.ownsRow 0 e 1 v' (n+m) (xs++ZEp m zc)∧w.grownBy w' v.ownBlock∧(v'.ownBlock=v.ownBlock∨v'.ownBlock=some w.heap.size):=by
 subst hby;have hsmall:n+m≤9223372036854775807:=by simp only [maxLen] at h; omega
 have hlen:(xs++ZEp m zc).length=(n+m) * 1:=by rw [ZFj,hown.1,ZUo]; omega
 have hmb:m * i.bytes≤140737488355328:=ZEv (ZHm _ (Nat.le_add_left _ _)) hbytes
 have grown:∀ (old:Nat),old < n+m→∀ (row:Option Nat),
   (w.drew.alloc (.cells (xs.toArray++ZUg z.cells m++ZUg z.cells (grownCap w (n+m) old e - (n+m))) e)).ownsRow 0 e 1
    (.slice (some ⟨w.heap.size,0,none⟩) (n+m) (grownCap w (n+m) old e)) (n+m) (xs++ZEp m zc) ∧
   w.grownBy (w.drew.alloc (.cells (xs.toArray++ZUg z.cells m++ZUg z.cells (grownCap w (n+m) old e - (n+m))) e)) row:=by
  intro old ho row;have hge:=grownCap_ge w (n+m) old e;have hcm:grownCap w (n+m) old e≤maxLen:=grownCap_le_maxLen w (n+m) old e h;have hx:=hown.1;refine⟨⟨hlen,.inr ⟨w.heap.size,_,_,rfl,Nat.zero_le _,heap_alloc_new w.drew _,hge,hcm,?_,?_⟩⟩,⟨rfl,rfl,rfl,by simp,λk hk _=>heap_alloc_old w.drew _ hk⟩⟩
  ·rw [hzc,Zik,Zik];simp only [Array.size_append,List.size_toArray,ZUo];omega
  ·rw [hzc,Zik,Zik];simp only [Array.toList_append,List.append_assoc];rw [← List.append_assoc,← hlen]
   exact List.take_left
 have hw:ZHf.wrap (m:Int)=m:=by rw [ZUp]; omega
 have h48i:¬ (281474976710656 < (m:Int) * (i.bytes:Int)):=by rw [← Int.natCast_mul]; omega
 have hneg:¬ ((m:Int) < 0):=by omega
 rcases hown.2 with ⟨rfl,rfl⟩ | ⟨g,cap,cur,rfl,hbg,hg,hnc,hcm,hcs,htake⟩
 ·have hx:xs=[]:=ZU8 (by simpa using hown.1)
  subst hx;by_cases hm:m=0
  ·subst hm;refine⟨.slice none 0 0,w,?_,World.ownsRow_nil w 0 e 1,⟨rfl,rfl,rfl,ZEs _,λ_ _ _=>rfl⟩,Or.inl rfl⟩
   simp [ZHo,run_underlying ht,run_underlying htn,Go.sizeOf,typeInfo,hi,asInt,asIntOf,ZUp]
  ·have hr:=Lib.run_append_nil_zeros (P:=P) w t tn ty e i z kq kn ht htn hi hz m (by omega) (by omega) (by omega) (by omega)
   have hgr:=grown 0 (by omega) (ZFo (.slice none 0 0))
   simp only [Nat.zero_add,List.nil_append,Array.empty_append] at hgr ⊢
   exact⟨_,_,hr,hgr.1,hgr.2,Or.inr rfl⟩
 ·by_cases hroom:n+m≤cap
  ·have hfit:n * 1+(ZEp m zc).length≤cur.size:=by rw [hcs,ZUo]; omega
   have hst:=run_storeCells_at P g (n * 1) e (ZEp m zc) 0 cur w hg (by simpa using hfit) (λu hu=>by rw [(List.mem_replicate.1 hu).2]; exact A)
   simp only [Nat.add_zero] at hst
   have hr:(ZHo #[t,tn] ty #[.slice (some ⟨g,0,none⟩) n cap,.int kq m]).run P w=.ok (.slice (some ⟨g,0,none⟩) (n+m) cap) (w.setRow g (cur.toList.take (n * 1)++ZEp m zc++cur.toList.drop (n * 1+(ZEp m zc).length)).toArray):=by
    by_cases hm:m=0
    ·subst hm;simp only [List.replicate_zero] at hst
     simp [ZHo,run_underlying ht,run_underlying htn,Go.sizeOf,typeInfo,hi,hsize,asInt,asIntOf,ZUp,hnc,ZUz] at hst ⊢
     rw [hst]
     rfl
    ·have hns:¬ (m * 1=0):=by omega
     simp [ZHo,run_underlying ht,run_underlying htn,Go.sizeOf,typeInfo,zeroValue,hi,hz,hsize,hzc,Zik,asInt,asIntOf,hw,hneg,h48i,hm,hroom,ZUz] at hst ⊢
     rw [hst]
     rfl
   refine⟨_,_,hr,⟨hlen,.inr ⟨g,cap,_,rfl,hbg,setRow_heap w g cur _ e _ hg,hroom,hcm,?_,?_⟩⟩,⟨rfl,rfl,rfl,by simp,λk _ hk=>setRow_other w g k _ (λe=>hk (by simp [ZFo,e]))⟩,Or.inl rfl⟩
   ·simp only [List.size_toArray,ZFj,ZUe,ZGw,Array.length_toList,ZUo];omega
   ·rw [htake,← hlen]
    exact List.take_left
  ·have holds:∀ j u,xs[j]? = some u→w.cell? ((⟨g,0,none⟩:Addr).add j)=some u:=hown.cells (g:=g) rfl;have hold:(Builtin.firstCells i.size n (.slice (some ⟨g,0,none⟩) n cap)).run P w.drew=.ok xs.toArray w.drew:=run_firstCells_some (P:=P) w.drew i.size n ⟨g,0,none⟩ n cap xs (by rw [hown.1,hsize]) holds
   have hr:=Lib.run_append_grow_zeros (P:=P) w t tn ty e i z kq kn ht htn hi hz (some ⟨g,0,none⟩) n cap xs hold m (by omega) (by omega) (by omega) (by omega) (by omega) (growslice_fits (by omega) hbytes)
   have hgr:=grown cap (by omega) (ZFo (.slice (some ⟨g,0,none⟩) n cap))
   exact⟨_,_,hr,hgr.1,hgr.2,Or.inr rfl⟩
section
variable {P:Program} {ops:Array Oper} {Q:Exit→Act→World→Prop} {n:Nat} {e:Env} {w w':World} {rest:List Oper}
variable {X:Nat→Prop} {w0:World} {M Ps:List Item}
variable {d ty:Nat} {pos:String} {af:Array Edge}
theorem Zyc (A:Ctx X w0 w M Ps) (k:Nat) {t tn el bytes nv m:Nat} {kq kn:IntKind} {z zc:Value} {x y:Operand} {v:Value} {cs:List Value} (ht:P.underlying t=some (.slice el)) (htn:P.underlying tn=some (.int kn)) (G:Zah P el z 1 bytes) (hzc:z.cells=#[zc]) (I:zc.oneCell'=true) (hby:0 < bytes)
  (hk:M[k]? = some (own el 1 v nv cs)) (hx:ev n e x=v) (hy:ev n e y=.int kq m) (hb:(nv+m) * bytes≤140737488355328)
  (h:∀ v' w',Ctx X w0 w' (M.set k (own el 1 v' (nv+m) (cs++ZEp m zc))) Ps→W P ops Q rest n (upd e d v') w') :
  W P ops Q (⟨some d,.call { callee:=.builtin .append,args:=#[x,y],argTypes:=#[t,tn] }, ty,pos,af,none⟩::rest) n e w:=by
 obtain ⟨L,hi,hzz⟩:=Option.map_eq_some_iff.1 G;simp only [Prod.mk.injEq] at hzz
 have HO:w.ownsRow 0 el 1 v nv cs:=A.getM k hk;have hlen:nv+m≤140737488355328:=ZEv (Nat.le_mul_of_pos_right _ hby) hb;obtain ⟨B,O,hr,hown,hg,hat⟩:=Zyb (P:=P) t tn ty el L z zc kq kn ht htn hi hzz.1 hzc I bytes hzz.2.1 hzz.2.2 v nv cs HO m (by unfold maxLen; omega) hb
 refine Yv B rfl rfl ?_ (h B O (A.turn k hk hg.os hg.tape hg.output hg.size (Zbb _ _ _ _ hr) (λb hb' hnb=>hg.block b hb' ?_) hown ?_))
 ·simp only [execOp,resolve,invoke,builtin,ZEm,ZEq,ZEo,List.map_toArray,ZFw,List.map_nil,hx,hy,hr]
 ·intro e;exact hnb (by simp [own,← e])
 ·intro b hbm;simp only [own] at hbm ⊢
  rcases hat with hat | hat
  ·rw [hat] at hbm; exact .inl hbm
  ·rw [hat] at hbm
   have:b=w.heap.size:=by simpa using hbm
   omega
theorem Zyd {t t':Nat} {x y:Operand} {k:IntKind} {a b:Int} {gd:Option (Nat×Bool)} (hx:ev n e x=.int k a) (hy:ev n e y=.int k b) :
  (execOp (ev n e) ⟨some d,.call { callee:=.builtin .min,args:=#[x,y],argTypes:=#[t,t'] }, ty,pos,af,gd⟩).run P w=.ok (.value (.int k (if b < a then b else a))) w:=by
 simp [execOp,resolve,invoke,builtin,hx,hy,Builtin.min_,Builtin.min2,ZEm]
theorem Zil {t t':Nat} {x y:Operand} {k:IntKind} {a b:Int} (hx:ev n e x=.int k a) (hy:ev n e y=.int k b)
  (h:W P ops Q rest n (upd e d (.int k (if b < a then b else a))) w):W P ops Q (⟨some d,.call { callee:=.builtin .min,args:=#[x,y],argTypes:=#[t,t'] }, ty,pos,af,none⟩::rest) n e w :=
 Yv _ rfl rfl (Zyd hx hy) h
end
section
variable {X:Nat→Prop} {w0 w w':World} {M Ps:List Item}
theorem Ctx.turnO {el sz n m:Nat} {v z:Value} {cs ds:List Value} (A:Ctx X w0 w M Ps) (k:Nat) (hk:M[k]? = some (own el sz v n cs)) (h:BelO v.ownBlock.toList w w') (ho:(own el sz z m ds).holds w') (hf:∀ b,b∈z.ownBlock.toList→b∈v.ownBlock.toList∨w.heap.size≤b) :
  Ctx X w0 w' (M.set k (own el sz z m ds)) Ps :=
 A.turn k hk h.os h.tape h.output h.size h.drawn (λb hb hn=>h.old b hb hn) ho hf
theorem Ctx.turnS {b t el sz n m:Nat} {v z:Value} {qs bs cs ds:List Value} (hC:Ctx X w0 w (blk b t qs::own el sz v n cs::M) Ps) (hB:BelO (b::v.ownBlock.toList) w w') (g1:(blk b t bs).holds w') (g2:(own el sz z m ds).holds w') (hf:∀ x,x∈z.ownBlock.toList→x∈v.ownBlock.toList∨w.heap.size≤x) :
    Ctx X w0 w' (blk b t bs::own el sz z m ds::M) Ps:=by
  have hb0:=hC.m (blk b t qs) (by simp)
  have ho0:=hC.m (own el sz v n cs) (by simp)
  have hd:=hC.dis
  obtain ⟨d1,d2⟩:=ZEx.1 hd
  obtain ⟨d3,d4⟩:=ZEx.1 d2
  have hX1:=hC.mfp (blk b t qs) (by simp)
  have hX2:=hC.mfp (own el sz v n cs) (by simp)
  have hbs:b < w.heap.size:=ZT2 _ w hb0 b (ZT7 _)
  have hnot:∀ j,j∈M→∀ x,x∈j.fp→x∉b::v.ownBlock.toList:=fun j hj x hx hx'=>by
    rcases ZEn.1 hx' with rfl | hx'
    · exact d1 j (by simp [hj]) x (ZT7 _) hx
    · exact d3 j hj x hx' hx
  exact {
    os:=hB.os.trans hC.os
    tape:=hB.tape.trans hC.tape
    output:=hB.output.trans hC.output
    size:=ZEv hC.size hB.size
    drawn:=ZEv hC.drawn hB.drawn
    old:=fun c hc hx=>by
      rw [hB.old c (Nat.lt_of_lt_of_le hc hC.size) (fun q=>?_)]
      · exact hC.old c hc hx
      · rcases ZEn.1 q with rfl | q
        · rcases hX1 c (ZT7 _) with r | r
          · omega
          · exact hx r
        · rcases hX2 c q with r | r
          · omega
          · exact hx r
    m := fun j hj => by
      rcases ZEn.1 hj with rfl | hj
      · exact g1
      · rcases ZEn.1 hj with rfl | hj
        · exact g2
        · exact ZT4 _ w w' (fun x hx=>hB.old x (ZT2 _ w (hC.m j (by simp [hj])) x hx) (hnot j hj x hx)) (hC.m j (by simp [hj]))
    p := fun j hj => ZT4 _ w w' (fun x hx => hB.old x (ZT2 _ w (hC.p j hj) x hx) (fun q => by
      rcases ZEn.1 q with rfl | q
      · exact hC.pd j hj x hx (blk x t qs) (by simp) (ZT7 _)
      · exact hC.pd j hj x hx (own el sz v n cs) (by simp) q)) (hC.p j hj)
    mfp:=fun j hj x hx=>by
      rcases ZEn.1 hj with rfl | hj
      · exact hX1 x hx
      · rcases ZEn.1 hj with rfl | hj
        · rcases hf x hx with r | r
          · exact hX2 x r
          · exact .inl (ZEv hC.size r)
        · exact hC.mfp j (by simp [hj]) x hx
    dis:=by
      refine ZEx.2 ⟨fun j hj x hx hxj=>?_,ZEx.2 ⟨fun j hj x hx hxj=>?_,d4⟩⟩
      · obtain rfl:x=b:=ZFn.1 hx
        rcases ZEn.1 hj with rfl | hj
        · rcases hf x hxj with r | r
          · exact d1 (own el sz v n cs) (by simp) x (ZT7 _) r
          · omega
        · exact d1 j (by simp [hj]) x (ZT7 _) hxj
      · rcases hf x hx with r | r
        · exact d3 j hj x r hxj
        · have:=ZT2 _ w (hC.m j (by simp [hj])) x hxj
          omega
    pd:=fun j hj x hx q hq hxq=>by
      rcases ZEn.1 hq with rfl | hq
      · exact hC.pd j hj x hx (blk b t qs) (by simp) hxq
      · rcases ZEn.1 hq with rfl | hq
        · rcases hf x hxq with r | r
          · exact hC.pd j hj x hx (own el sz v n cs) (by simp) r
          · have:=ZT2 _ w (hC.p j hj) x hx
            omega
        · exact hC.pd j hj x hx q (by simp [hq]) hxq }
end
theorem Zq5 {P:Program} {w:World} {t el:Nat} {A:Option Addr} {m c:Nat} (ht:P.underlying t=some (.slice el)):(Op.equal t (.slice A m c) (.slice none 0 0)).run P w=.ok A.isNone w:=by
 unfold Op.equal Op.maxDepth;rw [show (10000:Nat)=9999+1 from rfl]
 unfold Op.equalIn;cases A <;> simp [run_underlying ht]
section
variable {P:Program} {ops:Array Oper} {Q:Exit→Act→World→Prop} {n:Nat} {e:Env} {w w':World} {rest:List Oper}
variable {d ty:Nat} {pos:String} {af:Array Edge}
theorem Zye {t t' el:Nat} {x y:Operand} {A:Option Addr} {m c:Nat} {b:Bool} {gd:Option (Nat×Bool)} (ht:P.underlying t=some (.slice el)) (hx:ev n e x=.slice A m c) (hy:ev n e y=.slice none 0 0) (hb:A.isNone=b) :
  (execOp (ev n e) ⟨some d,.binOp .eql t x y t',ty,pos,af,gd⟩).run P w=.ok (.value (.bool b)) w:=by
 subst hb;have hq:(eqGuard .eql t x y (.slice A m c) (.slice none 0 0)).run P w=.ok () w:=by unfold eqGuard; simp
 have hr:(binOp .eql t (.slice A m c) (.slice none 0 0)).run P w=.ok (.bool A.isNone) w:=by
  simp [binOp,Zq5 ht]
 simp only [execOp,hx,hy,ZEm,hq,ZEo,hr,ZEq]
theorem Zku {t t' el:Nat} {x y:Operand} {A:Option Addr} {m c:Nat} (b:Bool) (ht:P.underlying t=some (.slice el)) (hx:ev n e x=.slice A m c) (hy:ev n e y=.slice none 0 0) (hb:A.isNone=b)
  (h:W P ops Q rest n (upd e d (.bool b)) w):W P ops Q (⟨some d,.binOp .eql t x y t',ty,pos,af,none⟩::rest) n e w :=
 Yv _ rfl rfl (Zye ht hx hy hb) h
end
theorem Zyf {α:Type} {t:Ty α} {xs:List α} {v:Value} {fp:List Nat} {w:World} (h:t.sl.rep xs [v] fp w):(∃ m c,v=.slice none m c∧xs=[])∨∃ A m c,v=.slice (some A) m c:=by
 obtain ⟨v',ecs,e,⟨I,L,O,A,c,rfl,anc,G⟩,U⟩:=h;obtain rfl:v=_:=by simpa using e
 cases A with
 | none =>
  refine .inl ⟨_,_,rfl,?_⟩
  rcases Nat.eq_zero_or_pos xs.length with B | B
  ·exact ZU8 B
  ·obtain ⟨a,ha,_⟩:=G B;cases ha
 | some A=>exact .inr ⟨A,_,_,rfl⟩
end Vc
namespace Vc
open Go Go.RowKit
section
variable {α β:Type}
def Zq6 (kv:α→Value) (vv:β→Value):Ty (List (α×β)) where
 sz:=1
 rep l cs fp w:=∃ b,cs=[.map (some b)]∧b∈fp∧(∀ c,c∈fp→c < w.heap.size)∧(Z6 kv vv b l).holds w
 keep h hw:=by
  obtain ⟨b,rfl,hb,hl,hm⟩:=hw;exact⟨b,rfl,hb,Zfo h hl,ZT4 _ _ _ (λc hc=>h c (by obtain rfl:=ZFn.1 hc; exact hb)) hm⟩
 low hw:=by
  obtain ⟨b,rfl,hb,hl,hm⟩:=hw;exact hl
 len hw:=by obtain ⟨b,rfl,_⟩:=hw; rfl
 one hw u hu:=by
  obtain ⟨b,rfl,_⟩:=hw;obtain rfl:=ZFn.1 hu
  rfl
 more hw A B:=by
  obtain ⟨b,rfl,hb,hl,hm⟩:=hw;exact⟨b,rfl,A b hb,B,hm⟩
end
structure Derive where
 alg:Alg
 drop:Int
 images:List (List (A8×Int))
 deriving Inhabited
def TSum:Ty (List (A8×Int)):=Zq6 (kvA .i64) (vvI .i64)
theorem Zyg {α:Type} {t:Ty α} {x y:α} {cs ds:List Value} {f g:List Nat} {w:World} (h:t.rep x cs f w) (k:t.rep y ds g w):t.all [x,y] (cs++ds) (f++g) w:=Zuz (Za6 h) k
theorem Zyh {α:Type} {t:Ty α} {x y:α} {cs ds:List Value} {f g:List Nat} {w:World} (h:(t.item x cs f).holds w) (k:(t.item y ds g).holds w):(t.allItem [x,y] (cs++ds) (f++g)).holds w:=Zyg h k
theorem Zq7 {α β:Type} {kv:α→Value} {vv:β→Value} {l:List (α×β)} {u:Value} {fp:List Nat} {w:World} (h:(Zq6 kv vv).rep l [u] fp w):∃ b,u=.map (some b)∧b∈fp∧(Z6 kv vv b l).holds w:=by
 obtain ⟨b,hc,hb,_,hm⟩:=h;simp only [List.cons.injEq,and_true] at hc
 exact⟨b,hc,hb,hm⟩
section
variable {α β:Type} {kv:α→Value} {vv:β→Value}
theorem Ctx.turnI {X:Nat→Prop} {w0 w w':World} {M Ps:List Item} {it jt:Item} (A:Ctx X w0 w M Ps) (k:Nat) (hk:M[k]? = some it) (h:BelO it.fp w w') (hj:jt.holds w') (hf:∀ b,b∈jt.fp→b∈it.fp∨w.heap.size≤b):Ctx X w0 w' (M.set k jt) Ps :=
 A.turn k hk h.os h.tape h.output h.size h.drawn (λb hb hn=>h.old b hb hn) hj hf
end
end Vc
namespace Vc
open Go Go.RowKit
section
variable {X:Nat→Prop} {w0 w w':World} {M Ps:List Item}
end
theorem Zna {el sz n:Nat} {v:Value} {cs:List Value} {w:World} (h:(own el sz v n cs).holds w) (m:Nat) (hm:m≤n) :
  ∃ A c,v=.slice A n c∧n≤c∧(own el sz (.slice A m c) m (cs.take (m * sz))).holds w∧(A=none∨∃ g,A=some ⟨g,0,none⟩)∧(ZU0 A m c).ownBlock=v.ownBlock:=by
 obtain ⟨B,G⟩:=h
 have hl:(cs.take (m * sz)).length=m * sz:=by
  rw [ZUe,B];have:=ZHm sz hm;omega
 rcases G with ⟨rfl,rfl⟩ | ⟨g,cap,cur,rfl,hbg,hg,hnc,hcm,hcs,ht⟩
 ·obtain rfl:m=0:=by omega
  exact⟨none,0,rfl,ZEs _,⟨hl,.inl ⟨rfl,rfl⟩⟩,.inl rfl,rfl⟩
 ·refine⟨_,cap,rfl,hnc,⟨hl,.inr ⟨g,cap,cur,rfl,hbg,hg,by omega,hcm,hcs,?_⟩⟩,.inr ⟨g,rfl⟩,rfl⟩
  rw [← ht,List.take_take,Nat.min_eq_left (ZHm sz hm)]
theorem Znb (A:Option Addr) (h c s:Nat) (B:A=none∨∃ g,A=some ⟨g,0,none⟩):sliced A 0 h c s=.slice A h c:=by
 unfold sliced;rcases B with rfl | ⟨g,rfl⟩
 ·simp
 ·simp [ZUz]
section
variable {P:Program} {ops:Array Oper} {Q:Exit→Act→World→Prop} {n:Nat} {e:Env} {w w':World} {rest:List Oper}
variable {X:Nat→Prop} {w0:World} {M Ps:List Item}
variable {d ty:Nat} {pos:String} {af:Array Edge}
theorem Zb8 {P:Program} {t el:Nat} (ht:P.underlying t=some (.slice el)):P.underlying t=some (.slice (P.elem t)):=by
 have:P.elem t=el:=by simp [ZUh,ht]
 rw [this]; exact ht
theorem Zyi (B:Ctx X w0 w M Ps) (k:Nat) {t el sz nv:Nat} {kq:IntKind} {hi:Int} {x y:Operand} {v:Value} {cs:List Value} (hk:M[k]? = some (own el sz v nv cs)) (ht:P.underlying t=some (.slice el)) (hz:Xo P el sz)
  (hx:ev n e x=v) (hy:ev n e y=.int kq hi) (G:0≤hi) (L:hi≤nv)
  (h:∀ v',Ctx X w0 w (M.set k (own el sz v' hi.toNat (cs.take (hi.toNat * sz)))) Ps→W P ops Q rest n (upd e d v') w) :
  W P ops Q (⟨some d,.slice t x none (some y) none,ty,pos,af,none⟩::rest) n e w:=by
 have hown:(own el sz v nv cs).holds w:=B.getM k hk;obtain ⟨A,c,rfl,hnc,ho,I,hb⟩:=Zna hown hi.toNat (by omega)
 have hel:P.elem t=el:=by simp [ZUh,ht]
 have hr:=run_slice_h (P:=P) w t A nv c (Zb8 ht) kq hi G (by omega)
 rw [hel,Zak hz,ZEo,Znb A _ _ _ I] at hr
 refine Yv (.slice A hi.toNat c) rfl rfl ?_ (h _ (B.turn k hk rfl rfl rfl (ZEs _) (ZEs _) (λ_ _ _=>rfl) ho (λb hb'=>.inl ?_)))
 ·simp only [execOp,hx,hy,ZF4,ZUj,ZEm,run_sliceAt_slice w t _ _ _ _ (Zb8 ht),hr,ZEo,ZEq]
 ·show b∈(ZU0 A nv c).ownBlock.toList
  rw [← hb]; exact hb'
theorem Zyj {t el sz:Nat} {kq:IntKind} {x y:Operand} (ht:P.underlying t=some (.slice el)) (hz:Xo P el sz) (hx:ev n e x=.slice none 0 0) (hy:ev n e y=.int kq 0)
  (h:W P ops Q rest n (upd e d (.slice none 0 0)) w):W P ops Q (⟨some d,.slice t x none (some y) none,ty,pos,af,none⟩::rest) n e w:=by
 have hel:P.elem t=el:=by simp [ZUh,ht]
 have hr:=run_slice_h (P:=P) w t none 0 0 (Zb8 ht) kq 0 (by omega) (by omega)
 rw [hel,Zak hz,ZEo,Znb none _ _ _ (.inl rfl)] at hr
 refine Yv (.slice none 0 0) rfl rfl ?_ h
 simp only [execOp,hx,hy,ZF4,ZUj,ZEm,run_sliceAt_slice w t _ _ _ _ (Zb8 ht),hr,ZEo,ZEq]
 rfl
theorem Zq8 {t el:Nat} {x:Operand} {A:Option Addr} {m c:Nat} (ht:P.underlying t=some (.slice el)) (hx:ev n e x=.slice A m c)
  (h:W P ops Q rest n (upd e d (.int .i64 c)) w):W P ops Q (⟨some d,.call { callee:=.builtin .cap,args:=#[x],argTypes:=#[t] }, ty,pos,af,none⟩::rest) n e w:=by
 refine Yv _ rfl rfl ?_ h
 have hr:=run_cap_slice (P:=P) w t ty A m c (Zb8 ht);simp only [execOp,resolve,invoke,builtin,ZEm,ZEq,ZEo,List.map_toArray,ZFw,List.map_nil,hx,hr]
 rfl
end
theorem _root_.Vc.Enc.encs_take {α:Type} (E:Enc α) (xs:List α) (m:Nat):(E.encs xs).take (m * E.sz)=E.encs (xs.take m):=by
 induction xs generalizing m with
 | nil=>simp [ZUf]
 | cons x xs ih =>
  cases m with
  | zero=>simp [ZUf]
  | succ m =>
   have e:E.encs (x::xs)=E.enc x++E.encs xs:=by simp [ZUf]
   have hl:=E.len x;rw [e,List.take_succ_cons,show E.encs (x::xs.take m)=E.enc x++E.encs (xs.take m) by simp [ZUf],ZE4,Nat.one_mul,Nat.add_comm,← hl,List.take_length_add_append,hl,ih]
section
variable {P:Program} {ops:Array Oper} {Q:Exit→Act→World→Prop} {n:Nat} {e:Env} {w w':World} {rest:List Oper}
variable {d ty:Nat} {pos:String} {af:Array Edge}
theorem Zyk {t t':Nat} {ik:IntKind} {x y:Operand} {a b:A8} {gd:Option (Nat×Bool)} (K:KeyT P t (kvA ik)) (hm:P.eqGuardType P.depth t=false) (hx:ev n e x=.agg (ZHu (a.enc ik))) (hy:ev n e y=.agg (ZHu (b.enc ik))) :
  (execOp (ev n e) ⟨some d,.binOp .eql t x y t',ty,pos,af,gd⟩).run P w=.ok (.value (.bool (decide (a=b)))) w:=by
 have hq:=run_eqGuard_agg (P:=P) w .eql t x y (ZHu (a.enc ik)) (ZHu (b.enc ik)) hm;have hr:(Op.equalIn 10000 t (.agg (ZHu (a.enc ik))) (.agg (ZHu (b.enc ik)))).run P w=.ok (decide (a=b)) w:=K.equal w a b;simp only [execOp,hx,hy,ZEm,hq,ZEo,run_eql_struct,hr,ZEq]
theorem Zyl {t t':Nat} {ik:IntKind} {x y:Operand} {a b:A8} (K:KeyT P t (kvA ik)) (hm:P.eqGuardType P.depth t=false) (hx:ev n e x=.agg (ZHu (a.enc ik))) (hy:ev n e y=.agg (ZHu (b.enc ik)))
  (h:W P ops Q rest n (upd e d (.bool (decide (a=b)))) w):W P ops Q (⟨some d,.binOp .eql t x y t',ty,pos,af,none⟩::rest) n e w :=
 Yv _ rfl rfl (Zyk K hm hx hy) h
end
section
variable {P:Program} {ops:Array Oper} {Q:Exit→Act→World→Prop} {n:Nat} {e:Env} {w w':World} {rest:List Oper}
variable {X:Nat→Prop} {w0:World} {M Ps:List Item}
variable {d ty:Nat} {pos:String} {af:Array Edge} {gd:Option (Nat×Bool)}
end
theorem Zax {α:Type} {t:Ty α} {xs:List α} {v:Value} {fp:List Nat} {w:World} (h:t.sl.rep xs [v] fp w):∃ ds,(rdr t.sz v xs.length ds fp).holds w∧t.all xs ds fp w:=by
 obtain ⟨v',ecs,e,A,B⟩:=h;obtain rfl:v=v':=by simpa using e
 exact⟨ecs,A,B⟩
theorem Zgb {α:Type} (t:Ty α) (w:World):(t.allItem ([]:List α) [] []).holds w:=⟨by simp,by simp,by simp,λi hi=>absurd hi (by simp)⟩
theorem Zym (k:IntKind) (xs:List Int) (m:Nat):(EI k).encs xs++ZEp m (.int k 0)=(EI k).encs (xs++ZEp m 0):=by
 rw [ZNm]
 congr 1
 induction m with
 | zero=>rfl
 | succ m ih=>rw [List.replicate_succ,List.replicate_succ,ih]; simp [ZUf,EI]
theorem Zay {α:Type} {t:Ty α} {xs ys:List α} {cs ds:List Value} {f g:List Nat} {w:World} (h:(t.allItem xs cs f).holds w) (k:(t.allItem ys ds g).holds w):(t.allItem (xs++ys) (cs++ds) (f++g)).holds w:=by
 have hl:∀ b,b∈f++g→b < w.heap.size:=λb hb=>(ZEt.1 hb).elim (h.1 b) (k.1 b)
 refine⟨hl,by rw [ZFj,h.2.1,k.2.1,ZFj,ZE4],λu hu=>(ZEt.1 hu).elim (h.2.2.1 u) (k.2.2.1 u),λi hi=>?_⟩
 by_cases hx:i < xs.length
 ·have A:(xs++ys)[i]=xs[i]:=List.getElem_append_left hx;have hle:i * t.sz+t.sz≤cs.length:=by rw [h.2.1]; exact Za3 hx
  rw [A,List.drop_append_of_le_length (by omega),List.take_append_of_le_length (by rw [ZGw]; omega)]
  exact t.more (h.2.2.2 i hx) (λb hb=>ZE7 _ hb) hl
 ·have hy:i - xs.length < ys.length:=by rw [ZFj] at hi; omega
  have A:(xs++ys)[i]=ys[i - xs.length]:=List.getElem_append_right (by omega)
  have hm:i * t.sz=cs.length+(i - xs.length) * t.sz:=by rw [h.2.1,← ZE4]; congr 1; omega
  rw [A,hm,← List.drop_drop,List.drop_left' rfl]
  exact t.more (k.2.2.2 _ hy) (λb hb=>ZE6 _ hb) hl
end Vc
namespace Vc
open Go Go.RowKit
section
variable {P:Program} {ops:Array Oper} {Q:Exit→Act→World→Prop} {n:Nat} {e:Env} {w w':World} {rest:List Oper}
variable {X:Nat→Prop} {w0:World} {M Ps:List Item}
variable {d ty:Nat} {pos:String} {af:Array Edge}
end
end Vc
namespace Vc
open Go Go.RowKit
abbrev vvP (b:Nat):Value:=.pointer (some ⟨b,0,none⟩)
def EB:Enc Bool:=⟨1,by decide,λx=>[.bool x],λ_=>rfl,λx u hu=>by obtain rfl:u=_:=ZFn.1 hu; rfl⟩
structure Elem where
 gen:Int
 mono:A8
 deriving DecidableEq,Inhabited
def Elem.enc (t:Elem):List Value:=.int .i64 t.gen::ZMs .i64 t.mono
section
variable {P:Program} {k:Nat} {ik:IntKind}
theorem Zyn (hk:P.underlying k=some (.int ik)):KeyT P k (vvI ik) where
 under:=⟨_,hk,.inr λx y=>by simp [Instr.sameNow,Bool.beq_eq_decide_eq]⟩
 check em w x:=by
  show (Instr.checkKey em (9999+1) k _).run P w=_
  unfold Instr.checkKey; simp [ZEm,run_underlying hk]
 equal w x y:=Zpu (d:=9999) hk w x y
 stays x:=by simp [Instr.sameBits]
end
section
variable {P:Program} {ops:Array Oper} {Q:Exit→Act→World→Prop} {n:Nat} {e:Env} {w w':World} {rest:List Oper}
variable {X:Nat→Prop} {w0:World} {M Ps:List Item}
variable {d ty:Nat} {pos:String} {af:Array Edge}
theorem Zyo {t t':Nat} {x y:Operand} {k:IntKind} {a b:Int} {gd:Option (Nat×Bool)} (hx:ev n e x=.int k a) (hy:ev n e y=.int k b) :
  (execOp (ev n e) ⟨some d,.call { callee:=.builtin .max,args:=#[x,y],argTypes:=#[t,t'] }, ty,pos,af,gd⟩).run P w=.ok (.value (.int k (if a < b then b else a))) w:=by
 simp [execOp,resolve,invoke,builtin,hx,hy,Builtin.max_,Builtin.max2,ZEm]
theorem Zq9 {t t':Nat} {x y:Operand} {k:IntKind} {a b:Int} (hx:ev n e x=.int k a) (hy:ev n e y=.int k b)
  (h:W P ops Q rest n (upd e d (.int k (if a < b then b else a))) w):W P ops Q (⟨some d,.call { callee:=.builtin .max,args:=#[x,y],argTypes:=#[t,t'] }, ty,pos,af,none⟩::rest) n e w :=
 Yv _ rfl rfl (Zyo hx hy) h
theorem Zgc {f:FuncId} {l:List Operand} {fn:Func} {c:Code} {at_:Array Nat} (vs:List Value) (hf:P.funcs[f]? = some fn) (hb:fn.body=some c) (hne:(fn.name == "runtime.NumGoroutine")=false) (m:Nat) (hm:fn.ntmps=m) (hl:vs.length≤m)
  (hp:l.map (ev n e)=vs) (h:c.wp P (bodyPost P fn (λret w''=>∃ v,ret=.returned v∧W P ops Q rest n (upd e d v) w'')) (actOf m (Zg6 vs)) w) :
  W P ops Q (⟨some d,.call { callee:=.value (.func f),args:=l.toArray,argTypes:=at_ }, ty,pos,af,none⟩::rest) n e w :=
 Zf vs _ hf (by rw [hb]; rfl) hne hp (Zlu hf hb m hm hl h) (λret w'' h=>h)
end
section
variable {P:Program} {ops:Array Oper} {Q:Exit→Act→World→Prop} {n:Nat} {e:Env} {w w':World} {rest:List Oper}
variable {X:Nat→Prop} {w0:World} {M Ps:List Item}
variable {d ty:Nat} {pos:String} {af:Array Edge}
end
end Vc
namespace Vc
open Go Go.RowKit
def Jo (u:Value):List Nat:=u.ownBlock.toList
def Jv (v:Value) (ecs:List Value):List Nat:=v.ownBlock.toList++(ecs.map Jo).flatten
abbrev hd (ecs:List Value) (i:Nat):Value:=ecs.getD i undef
section
variable {α:Type} {E:Enc α} {t e:Nat} {v:Value} {ecs:List Value} {xs:List (List α)} {w w':World}
theorem Zkv {i:Nat} {b:Nat} (hi:i < ecs.length) (hb:b∈Jo (hd ecs i)):b∈(ecs.map Jo).flatten :=
 ZNv.2 ⟨Jo (hd ecs i),ZE1.2 ⟨hd ecs i,by simp [hd,ZE0,hi],rfl⟩,hb⟩
theorem Zra (hn:(Jv v ecs).Nodup) {i j:Nat} (hi:i < ecs.length) (hj:j < ecs.length) (hne:i≠j):∀ b,b∈Jo (hd ecs i)→b∉Jo (hd ecs j):=by
 have h:=(ZFu.1 hn).2.1;have hp:=(List.pairwise_flatten.1 h).2;rw [List.pairwise_map,ZE2] at hp
 intro b hb hb';have ei:hd ecs i=ecs[i]:=by simp [hd,ZE0,hi]
 have ej:hd ecs j=ecs[j]:=by simp [hd,ZE0,hj]
 rw [ei] at hb; rw [ej] at hb'
 rcases Nat.lt_or_gt_of_ne hne with q | q
 ·exact hp i j hi hj q b hb b hb' rfl
 ·exact hp j i hj hi q b hb' b hb rfl
theorem Znc (hn:(Jv v ecs).Nodup) {i:Nat} (hi:i < ecs.length):∀ b,b∈Jo (hd ecs i)→b∉v.ownBlock.toList:=λb hb hb' =>
 (ZFu.1 hn).2.2 b hb' b (Zkv hi hb) rfl
def mat (E:Enc α) (t e:Nat) (v:Value) (ecs:List Value) (xs:List (List α)):Item where
 fp:=Jv v ecs
 holds w:=(own t 1 v xs.length ecs).holds w∧(∀ i,i < xs.length→(own e E.sz (hd ecs i) (xs.getD i ZEu).length (E.encs (xs.getD i ZEu))).holds w)∧(Jv v ecs).Nodup
 keep w w' h hw:=⟨ZT4 _ _ _ (λb hb=>h b (ZE7 _ hb)) hw.1,λi hi=>ZT4 _ _ _ (λb hb=>h b (ZE6 _ (Zkv (by rw [Zhb hw.1]; omega) hb))) (hw.2.1 i hi),hw.2.2⟩
 low w hw b hb:=by
  rcases ZEt.1 hb with q | q
  ·exact ZT2 _ _ hw.1 b q
  ·obtain ⟨l,hl,hb⟩:=ZNv.1 q;obtain ⟨u,hu,rfl⟩:=ZE1.1 hl;obtain ⟨i,hi,rfl⟩:=ZE8 hu;have hi':i < xs.length:=by rw [Zhb hw.1] at hi; omega
   have:=hw.2.1 i hi';rw [show hd ecs i=ecs[i] by simp [hd,ZE0,hi]] at this
   exact ZT2 _ _ this b hb
theorem Ze2 (h:(mat E t e v ecs xs).holds w):ecs.length=xs.length:=by rw [Zhb h.1]; omega
theorem Znd {cs:List Value} {i:Nat} (h:i < cs.length):(cs.drop (i * 1)).take 1=[hd cs i]:=by
 rw [Nat.mul_one,List.drop_eq_getElem_cons h,List.take_succ_cons,List.take_zero];simp [hd,ZE0,h]
theorem Zkw {fp:List Nat} (h:(ZM8 (ZT0 t (ZT0 e E.tr)) xs [v] fp).holds w):∃ ecs,(mat E t e v ecs xs).holds w∧fp=Jv v ecs:=by
 obtain ⟨ecs,fps,A,I,rfl,L⟩:=Zhm h;have hsz:(ZT0 e E.tr).ty.sz=1:=rfl;rw [hsz] at A
 have hl:ecs.length=xs.length:=by rw [Zhb A]; omega
 have row:∀ i (hi:i < xs.length),(own e E.sz (hd ecs i) (xs[i]).length (E.encs xs[i])).holds w∧fps.getD i []=Jo (hd ecs i):=λi hi=>by
  have B:=I.1.2.2 i hi;rw [hsz,Znd (by omega)] at B
  exact Y4 B
 have hf:fps=ecs.map Jo:=by
  refine List.ext_getElem (by rw [List.length_map,I.1.2.1,hl]) λi G B=>?_
  have hi:i < xs.length:=by rw [← I.1.2.1]; exact G
  have:=(row i hi).2;rw [show fps.getD i []=fps[i] by simp [ZE0,G]] at this
  rw [this,List.getElem_map];simp [hd,ZE0,show i < ecs.length by omega]
 subst hf;refine⟨ecs,⟨A,λi hi=>?_,h.2⟩,rfl⟩
 rw [show xs.getD i ZEu=xs[i] by simp [ZE0,hi]]
 exact(row i hi).1
theorem Zdd (h:(mat E t e v ecs xs).holds w):(ZM8 (ZT0 t (ZT0 e E.tr)) xs [v] (Jv v ecs)).holds w:=by
 have hl:=Ze2 h;refine⟨⟨v,ecs,ecs.map Jo,rfl,h.1,⟨by rw [hl]; show _=_ * 1; omega,by rw [List.length_map,hl],λi hi=>?_⟩,rfl⟩,h.2.2⟩
 have A:=h.2.1 i hi;rw [show xs.getD i ZEu=xs[i] by simp [ZE0,hi]] at A
 show (ZT0 e E.tr).tree xs[i] ((ecs.drop (i * 1)).take 1) _ w
 rw [Znd (by omega),show (ecs.map Jo).getD i []=Jo (hd ecs i) by simp [ZE0,hd,show i < ecs.length by omega]]
 exact Zp3 A
theorem Zan (h:(mat E t e v ecs xs).holds w) {i:Nat} (hi:i < xs.length):(own e E.sz (hd ecs i) (xs.getD i ZEu).length (E.encs (xs.getD i ZEu))).holds w:=h.2.1 i hi
theorem Zyp (h:(mat E t e v ecs xs).holds w):∃ A c,v=.slice A xs.length c:=Zbj h.1
theorem Zco (h:(mat E t e v ecs xs).holds w) (hn:0 < xs.length):∃ g cap,v=.slice (some ⟨g,0,none⟩) xs.length cap:=Jf h.1 hn
theorem Zyq (h:(mat E t e v ecs xs).holds w):E.ty.sl.sl.rep xs [v] (Jv v ecs) w:=(ZT0 t (ZT0 e E.tr)).trep (Zdd h).1
theorem Zde (h:(mat E t e v ecs xs).holds w) {g nn c:Nat} (hv:v=.slice (some ⟨g,0,none⟩) nn c) {i:Nat} (hi:i < xs.length):J3 w ⟨g,i * 1,none⟩ [hd ecs i]:=by
 obtain ⟨g',cap,A,hc⟩:=Zlz h.1 (by omega)
 rw [hv] at A
 injection A with A B G
 injection A with A
 injection A with A
 subst A;intro j u hj;have hl:=Ze2 h
 have:=hc (i * 1+j) u (by
  rw [← Znd (by omega),List.getElem?_take] at hj
  split at hj
  ·rw [List.getElem?_drop] at hj; exact hj
  ·cases hj)
 rw [Zcx] at this ⊢
 rwa [Nat.zero_add] at this
end
section
variable {α:Type} {E:Enc α} {t e:Nat} {v:Value} {ecs:List Value} {xs:List (List α)} {w w':World}
theorem Zyr (h:(mat E t e v ecs xs).holds w) {i:Nat} (hi:i < xs.length) {y:List α} (ho:(own e E.sz (hd ecs i) y.length (E.encs y)).holds w') (A:∀ c,c < w.heap.size→c∉Jo (hd ecs i)→w'.heap[c]? = w.heap[c]?):(mat E t e v ecs (xs.set i y)).holds w':=by
 have hl:=Ze2 h;refine⟨?_,λj hj=>?_,h.2.2⟩
 ·rw [ZNp];exact ZT4 _ _ _ (λb hb=>A b (ZT2 _ _ h.1 b hb) (λq=>Znc h.2.2 (by omega) b q hb)) h.1
 ·rw [ZNp] at hj
  by_cases q:i=j
  ·subst q;rw [show (xs.set i y).getD i ZEu=y by simp [ZE0,hi]]
   exact ho
  ·rw [show (xs.set i y).getD j ZEu=xs.getD j ZEu by simp [ZE0,List.getElem?_set_ne q]]
   exact ZT4 _ _ _ (λb hb=>A b (ZT2 _ _ (h.2.1 j hj) b hb) (λz=>Zra h.2.2 (by omega) (by omega) q b z hb)) (h.2.1 j hj)
variable {X:Nat→Prop} {w0:World} {M Ps:List Item}
theorem Ctx.turnRow (B:Ctx X w0 w M Ps) (k:Nat) (hk:M[k]? = some (mat E t e v ecs xs)) {i:Nat} (hi:i < xs.length) (A:BelO (Jo (hd ecs i)) w w') {y:List α} (ho:(own e E.sz (hd ecs i) y.length (E.encs y)).holds w'):Ctx X w0 w' (M.set k (mat E t e v ecs (xs.set i y))) Ps:=by
 have h:=B.getM k hk;have hl:=Ze2 h;exact B.turn k hk A.os A.tape A.output A.size A.drawn (λb hb hn=>A.old b hb (λq=>hn (ZE6 _ (Zkv (by omega) q)))) (Zyr h hi ho A.old) (λb hb=>.inl hb)
end
section
variable {P:Program} {ops:Array Oper} {Q:Exit→Act→World→Prop} {n:Nat} {ev_:Env} {w w':World} {rest:List Oper}
variable {X:Nat→Prop} {w0:World} {M Ps:List Item}
variable {d ty:Nat} {pos:String} {af:Array Edge}
variable {α:Type} {E:Enc α} {t e:Nat} {v:Value} {ecs:List Value} {xs:List (List α)}
theorem Zys (B:Ctx X w0 w M Ps) (k:Nat) {ty' i q g nn cap:Nat} {x y:Operand} (a:α) {u:Value} (hk:M[k]? = some (mat E t e v ecs xs)) (hi:i < xs.length) (hv:hd ecs i=.slice (some ⟨g,0,none⟩) nn cap) (hq:q < (xs.getD i ZEu).length) (I:Xo P ty' E.sz)
  (hx:ev n ev_ x=.pointer (some ⟨g,q * E.sz,none⟩)) (hy:ev n ev_ y=u) (hu:u.cells.toList=E.enc a)
  (h:∀ w',Ctx X w0 w' (M.set k (mat E t e v ecs (xs.set i ((xs.getD i ZEu).set q a)))) Ps→W P ops Q rest n ev_ w') :
  W P ops Q (⟨none,.store ty' x y,ty,pos,af,none⟩::rest) n ev_ w:=by
 have hm:=B.getM k hk;have ho:=Zan hm hi
 have hnn:nn=(xs.getD i ZEu).length:=by
  obtain ⟨A,c,G⟩:=Zbj ho;rw [hv] at G; injection G
 subst hnn;rw [hv] at ho
 obtain ⟨w',hr,hb,hos,hta,hou,hsz,hother⟩:=Zjw (P:=P) (v:=u) I ho hu (E.len a) (ZFs.2 λz hz=>E.one a z hz) (by rw [E.encs_len]; exact Za3 hq)
 have hdr:=Zbb _ _ _ _ hr;refine Zb1 rfl rfl ?_ (h w' (B.turnRow k hk hi (w':=w') (y:=(xs.getD i ZEu).set q a) ⟨hos,hta,hou,by omega,hdr,λc _ hc=>hother c (λz=>hc (by rw [hv,z]; simp [Jo,ZFo]))⟩ ?_))
 ·simp [execOp,hx,hy,ZUk,ZEy,hr]
 ·rw [Zdp _ _ _ hq] at hb
  rw [hv,ZNp];exact hb
def Xl {β:Type} (d:β) (l:List β) (i j:Nat):List β:=(l.set i (l.getD j d)).set j (l.getD i d)
theorem Zrb {β:Type} (d:β) (l:List β) (i j:Nat):(Xl d l i j).length=l.length:=by simp [Xl]
theorem Zrc {β:Type} (d:β) {l:List β} {i j:Nat} (hi:i < l.length) (hj:j < l.length) (k:Nat):(Xl d l i j).getD k d=if k=j then l.getD i d else if k=i then l.getD j d else l.getD k d:=by
 unfold Xl;simp only [ZE0];by_cases a:k=j
 ·subst a; rw [if_pos rfl,List.getElem?_set_self (by simpa using hj)]; rfl
 ·rw [if_neg a,List.getElem?_set_ne (λz=>a z.symm)]
  by_cases b:k=i
  ·subst b; rw [if_pos rfl,List.getElem?_set_self hi]; rfl
  ·rw [if_neg b,List.getElem?_set_ne (λz=>b z.symm)]
theorem Zyt {β:Type} (d:β) {l:List β} {i j:Nat} (hi:i < l.length) (hj:j < l.length):(Xl d l i j).Perm l:=by
 have h:l.getD j d=l[j]:=by simp [ZE0,hj]
 have A:l.getD i d=l[i]:=by simp [ZE0,hi]
 unfold Xl;rw [h,A];exact List.set_set_perm hi hj
theorem Zrd {cs:List Value} {i:Nat} (hi:i < cs.length) (u:Value):Xq cs (i * 1) [u]=cs.set i u:=Zqa hi (Nat.mul_one i)
theorem Zre {ty':Nat} {x y:Operand} {a:Addr} {u:Value} {w w':World} (hx:ev n ev_ x=.pointer (some a)) (hy:ev n ev_ y=u) (hr:(storeVar ty' a u).run P w=.ok () w'):(execOp (ev n ev_) ⟨none,.store ty' x y,ty,pos,af,none⟩).run P w=.ok .skip w':=by
 simp [execOp,hx,hy,ZUk,ZEy,hr]
theorem Zrf {u:Value} (h:u.oneCell'=true):[u].all (·.oneCell')=true:=by rw [List.all_cons,h]; rfl
def Zne (E:Enc α) (t e:Nat) (v:Value) (A ecs:List Value) (xs:List (List α)):Item where
 fp:=Jv v ecs
 holds w:=(own t 1 v xs.length A).holds w∧(mat E t e v ecs xs).fp.Nodup∧ecs.length=xs.length∧∀ i,i < xs.length→(own e E.sz (hd ecs i) (xs.getD i ZEu).length (E.encs (xs.getD i ZEu))).holds w
 keep w w' h hw:=⟨ZT4 _ _ _ (λb hb=>h b (ZE7 _ hb)) hw.1,hw.2.1,hw.2.2.1,λi hi=>ZT4 _ _ _ (λb hb=>h b (ZE6 _ (Zkv (by rw [hw.2.2.1]; omega) hb))) (hw.2.2.2 i hi)⟩
 low w hw b hb:=by
  rcases ZEt.1 hb with q | q
  ·exact ZT2 _ _ hw.1 b q
  ·obtain ⟨l,hl,hb⟩:=ZNv.1 q;obtain ⟨u,hu,rfl⟩:=ZE1.1 hl;obtain ⟨i,hi,rfl⟩:=ZE8 hu;have this:=hw.2.2.2 i (by rw [hw.2.2.1] at hi; exact hi)
   rw [show hd ecs i=ecs[i] by simp [hd,ZE0,hi]] at this
   exact ZT2 _ _ this b hb
theorem Zyu {w:World} {A:List Value} (h:(Zne E t e v A ecs xs).holds w) (hn:0 < xs.length):∃ g cap,v=.slice (some ⟨g,0,none⟩) xs.length cap:=Jf h.1 hn
theorem Zyv (U:Ctx X w0 w M Ps) (k:Nat) {ty' i j g cap nn:Nat} {x y:Operand} (hk:M[k]? = some (mat E t e v ecs xs)) (hi:i < xs.length) (hj:j < xs.length) (hv:v=.slice (some ⟨g,0,none⟩) nn cap) (hT:Xo P ty' 1)
  (hx:ev n ev_ x=.pointer (some ⟨g,i * 1,none⟩)) (hy:ev n ev_ y=hd ecs j)
  (h:∀ w',Ctx X w0 w' (M.set k (Zne E t e v (ecs.set i (hd ecs j)) ecs xs)) Ps→W P ops Q rest n ev_ w') :
  W P ops Q (⟨none,.store ty' x y,ty,pos,af,none⟩::rest) n ev_ w:=by
 have hm:=U.getM k hk;have hl:=Ze2 hm
 have hnn:nn=xs.length:=by
  obtain ⟨A,c,V⟩:=Zyp hm;rw [hv] at V; injection V
 subst hnn;have o1:=hm.1;rw [hv] at o1
 obtain ⟨w1,B,G,I,L,O,aa,hother1⟩:=Zjw (P:=P) (v:=hd ecs j) hT o1 (Zcg (Zan hm hj)) rfl (Zrf (X4 (Zan hm hj))) (show i * 1+1≤ecs.length by omega)
 rw [Zrd (by omega)] at G
 have hoth:∀ c,c < w.heap.size→c∉v.ownBlock.toList→w1.heap[c]? = w.heap[c]? := λc hc hn=>hother1 c (λz=>hn (by rw [hv,z]; simp [ZFo]))
 refine Zb1 (w':=w1) rfl rfl (Zre hx hy B) (h w1 (U.turn k hk I L O (by omega) (Zbb _ _ _ _ B) (λb hb hn=>hoth b hb (λq=>hn (ZE7 _ q))) ⟨?_,hm.2.2,hl,λq hq=>?_⟩ (λb hb=>.inl hb)))
 ·rw [hv]; exact G
 ·exact ZT4 _ _ _ (λb hb=>hoth b (ZT2 _ _ (hm.2.1 q hq) b hb) (Znc hm.2.2 (by omega) b hb)) (hm.2.1 q hq)
theorem Zyw (V:Ctx X w0 w M Ps) (k:Nat) {ty' i j g cap nn:Nat} {x y:Operand} (hk:M[k]? = some (Zne E t e v (ecs.set i (hd ecs j)) ecs xs)) (hi:i < xs.length) (hj:j < xs.length) (hv:v=.slice (some ⟨g,0,none⟩) nn cap) (hT:Xo P ty' 1)
  (hx:ev n ev_ x=.pointer (some ⟨g,j * 1,none⟩)) (hy:ev n ev_ y=hd ecs i)
  (h:∀ w',Ctx X w0 w' (M.set k (mat E t e v (Xl undef ecs i j) (Xl ZEu xs i j))) Ps→W P ops Q rest n ev_ w') :
  W P ops Q (⟨none,.store ty' x y,ty,pos,af,none⟩::rest) n ev_ w:=by
 have hm:=V.getM k hk;have hl:=hm.2.2.1
 have hnn:nn=xs.length:=by
  obtain ⟨A,c,e1⟩:=Zbj hm.1;rw [hv] at e1; injection e1
 subst hnn;have hmat:(mat E t e v ecs xs).fp.Nodup:=hm.2.1;have o1:=hm.1;rw [hv] at o1
 have ab:(ecs.set i (hd ecs j)).length=xs.length:=by rw [ZNp]; exact hl
 obtain ⟨I,B,G,L,O,U,aa,hother2⟩:=Zjw (P:=P) (v:=hd ecs i) hT o1 (Zcg (hm.2.2.2 i hi)) rfl (Zrf (X4 (hm.2.2.2 i hi))) (show j * 1+1≤(ecs.set i (hd ecs j)).length by omega)
 rw [Zrd (by omega)] at G
 have hoth:∀ c,c < w.heap.size→c∉v.ownBlock.toList→I.heap[c]? = w.heap[c]? := λc hc hn=>hother2 c (λz=>hn (by rw [hv,z]; simp [ZFo]))
 have hp:((Xl undef ecs i j).map Jo).flatten.Perm (ecs.map Jo).flatten:=((Zyt undef (by omega) (by omega)).map Jo).flatten
 have keep:∀ q,q < xs.length→(own e E.sz (hd ecs q) (xs.getD q ZEu).length (E.encs (xs.getD q ZEu))).holds I:=λq hq =>
  ZT4 _ _ _ (λb hb=>hoth b (ZT2 _ _ (hm.2.2.2 q hq) b hb) (Znc hmat (by omega) b hb)) (hm.2.2.2 q hq)
 refine Zb1 (w':=I) rfl rfl (Zre hx hy B) (h I (V.turn k hk L O U (by omega) (Zbb _ _ _ _ B) (λb hb hn=>hoth b hb (λq=>hn (ZE7 _ q))) ⟨?_,λq hq=>?_,(hp.append_left v.ownBlock.toList).nodup_iff.2 hmat⟩ (λb hb=>?_)))
 ·rw [Zrb,hv]; exact G
 ·rw [Zrb] at hq
  rw [show hd (Xl undef ecs i j) q=_ from Zrc undef (by omega) (by omega) q,Zrc ZEu hi hj q]
  split
  ·exact keep i hi
  ·split
   ·exact keep j hj
   ·exact keep q hq
 ·rcases ZEt.1 hb with q | q
  ·exact .inl (ZE7 _ q)
  ·exact .inl (ZE6 _ (hp.mem_iff.1 q))
theorem Zrg (I:Ctx X w0 w M Ps) (k:Nat) {B:Nat} {kq:IntKind} {hi:Int} {x y:Operand} (hk:M[k]? = some (mat E t e v ecs xs)) (ht:P.underlying B=some (.slice t)) (hz:Xo P t 1)
  (hx:ev n ev_ x=v) (hy:ev n ev_ y=.int kq hi) (O:0≤hi) (h1:hi≤xs.length)
  (h:∀ v',Ctx X w0 w (M.set k (mat E t e v' (ecs.take hi.toNat) (xs.take hi.toNat))) Ps→W P ops Q rest n (upd ev_ d v') w) :
  W P ops Q (⟨some d,.slice B x none (some y) none,ty,pos,af,none⟩::rest) n ev_ w:=by
 have hm:=I.getM k hk;have hl:=Ze2 hm;obtain ⟨A,c,rfl,hnc,ho,U,hb⟩:=Zna hm.1 hi.toNat (by omega)
 have hel:P.elem B=t:=by simp [ZUh,ht]
 have hr:=run_slice_h (P:=P) w B A xs.length c (Zb8 ht) kq hi O (by omega)
 rw [hel,Zak hz,ZEo,Znb A _ _ _ U] at hr
 have sub:∀ b,b∈((ecs.take hi.toNat).map Jo).flatten→b∈(ecs.map Jo).flatten:=λb hb=>by
  obtain ⟨l,hl',hb⟩:=ZNv.1 hb;obtain ⟨u,hu,rfl⟩:=ZE1.1 hl';exact ZNv.2 ⟨_,ZE1.2 ⟨u,ZUx hu,rfl⟩,hb⟩
 have L:Jv (.slice A hi.toNat c) (ecs.take hi.toNat)=(ZU0 A xs.length c).ownBlock.toList++((ecs.take hi.toNat).map Jo).flatten:=by unfold Jv; rw [hb]
 have hlt:(xs.take hi.toNat).length=hi.toNat:=by rw [ZUe]; omega
 refine Yv (.slice A hi.toNat c) rfl rfl ?_ (h _ (I.turn k hk rfl rfl rfl (ZEs _) (ZEs _) (λ_ _ _=>rfl) ⟨?_,λi hi'=>?_,?_⟩ (λb hb'=>.inl ?_)))
 ·simp only [execOp,hx,hy,ZF4,ZUj,ZEm,run_sliceAt_slice w B _ _ _ _ (Zb8 ht),hr,ZEo,ZEq]
 ·rw [hlt]; rw [Nat.mul_one] at ho; exact ho
 ·rw [hlt] at hi'
  have V:(xs.take hi.toNat).getD i ZEu=xs.getD i ZEu:=by simp only [ZE0]; rw [List.getElem?_take,if_pos hi']
  have e3:hd (ecs.take hi.toNat) i=hd ecs i:=by simp only [hd,ZE0]; rw [List.getElem?_take,if_pos hi']
  rw [V,e3];exact Zan hm (by omega)
 ·rw [L];have hn:=hm.2.2;refine List.Nodup.sublist ?_ hn
  refine List.Sublist.append (List.Sublist.refl _) ?_
  have:((ecs.take hi.toNat).map Jo).flatten++((ecs.drop hi.toNat).map Jo).flatten=(ecs.map Jo).flatten:=by
   rw [← List.flatten_append,← ZT6,List.take_append_drop]
  rw [← this]
  exact List.sublist_append_left _ _
 ·have G:b∈Jv (.slice A hi.toNat c) (ecs.take hi.toNat):=hb';rw [L] at G
  rcases ZEt.1 G with q | q
  ·exact ZE7 _ q
  ·exact ZE6 _ (sub b q)
end
section
variable {α:Type}
theorem Zrh {E:Enc α} {t e:Nat} {v:Value} {ecs:List Value} {xs:List (List α)} {w:World} (h:(mat E t e v ecs xs).holds w) {i:Nat} (hi:i < xs.length):i < ecs.length:=by rw [Ze2 h]; exact hi
theorem Zri {t:Ty α} {xs:List α} {v:Value} {fp:List Nat} {w:World} (h:t.sl.rep xs [v] fp w) {A:Option Addr} {c l:Nat} (hv:v=.slice A xs.length c) (hl:l≤xs.length) (hc:xs.length≤c):t.sl.rep (xs.drop l) [sliced A l xs.length c t.sz] fp w:=by
 obtain ⟨v',ecs,G,⟨I,L,a2,A',c',B,anc,O⟩,U⟩:=h;obtain rfl:v=v':=by simpa using G
 rw [hv] at B
 injection B with V e4 e5
 subst V e5;have hlen:(xs.drop l).length=xs.length - l:=ZGw ..;have hcl:(ecs.drop (l * t.sz)).length=(xs.length - l) * t.sz:=by rw [ZGw,L,Nat.sub_mul]
 refine⟨_,ecs.drop (l * t.sz),rfl,⟨I,by rw [hlen]; exact hcl,by rw [hlen]; omega,?_⟩,?_⟩
 ·rw [hlen];by_cases q:c=l
  ·refine⟨A,c - l,by unfold sliced; rw [if_pos q],by omega,λhn=>by omega⟩
  ·refine⟨A.map (·.add (l * t.sz)),c - l,by unfold sliced; rw [if_neg q],by omega,λhn=>?_⟩
   obtain ⟨a,ha,hb,hcell⟩:=O (by omega)
   subst ha;refine⟨a.add (l * t.sz),rfl,?_,λj u hj=>?_⟩
   ·have:(a.add (l * t.sz)).block=a.block:=by unfold Addr.add; split <;> rfl
    rw [this]; exact hb
   ·rw [Zeh];refine hcell _ u ?_
    rwa [List.getElem?_drop] at hj
 ·obtain ⟨b1,b2,b3,b4⟩:=U;refine⟨b1,by rw [hlen]; exact hcl,λu hu=>b3 u (List.mem_of_mem_drop hu),λi hi=>?_⟩
  have hi':l+i < xs.length:=by rw [hlen] at hi; omega
  have:=b4 (l+i) hi';rw [List.getElem_drop,List.drop_drop];rw [ZE4] at this
  exact this
theorem Zrj {t:Ty α} {xs:List α} {v:Value} {fp:List Nat} {w:World} (h:t.sl.rep xs [v] fp w):∃ A c,v=.slice A xs.length c∧xs.length≤c:=by
 obtain ⟨v',ecs,B,⟨I,L,O,A',c',G,anc,U⟩,V⟩:=h;obtain rfl:v=v':=by simpa using B
 exact⟨A',c',G,anc⟩
theorem Zyx {t:Ty α} {xs:List α} {v:Value} {fp:List Nat} {w:World} (h:t.sl.rep xs [v] fp w) {A:Option Addr} {c l:Nat} (hv:v=.slice A xs.length c) (hl:l≤xs.length) (hc:xs.length≤c):t.sl.rep (xs.take l) [sliced A 0 l c t.sz] fp w:=by
 obtain ⟨v',ecs,I,⟨L,O,a2,A',c',B,anc,U⟩,V⟩:=h;obtain rfl:v=v':=by simpa using I
 rw [hv] at B
 injection B with e3 e4 e5
 subst e3 e5;have hlen:(xs.take l).length=l:=by rw [ZUe]; omega
 have hle:l * t.sz≤xs.length * t.sz:=ZHm _ hl;have hcl:(ecs.take (l * t.sz)).length=l * t.sz:=by rw [ZUe,O]; omega
 refine⟨_,ecs.take (l * t.sz),rfl,⟨L,by rw [hlen]; exact hcl,by rw [hlen]; omega,?_⟩,?_⟩
 ·rw [hlen];refine⟨_,c,rfl,by omega,λhn=>?_⟩
  obtain ⟨a,ha,hb,hcell⟩:=U (by omega)
  subst ha
  have e0:(if c=0 then some a else(some a).map (·.add (0 * t.sz)))=some a:=by
   split
   ·rfl
   ·show some (a.add (0 * t.sz))=some a
    rw [Nat.zero_mul]; simp [Addr.add]
  refine⟨a,e0,hb,λj u hj=>?_⟩
  refine hcell j u ?_
  rw [List.getElem?_take] at hj
  split at hj
  ·exact hj
  ·cases hj
 ·obtain ⟨b1,b2,b3,b4⟩:=V;refine⟨b1,by rw [hlen]; exact hcl,λu hu=>b3 u (ZUx hu),λi hi=>?_⟩
  have hi':i < xs.length:=by rw [hlen] at hi; omega
  have:=b4 i hi';rw [List.getElem_take];have G:(i+1) * t.sz≤l * t.sz:=ZHm _ (by rw [hlen] at hi; omega)
  have e:((ecs.take (l * t.sz)).drop (i * t.sz)).take t.sz=(ecs.drop (i * t.sz)).take t.sz:=by
   rw [List.drop_take,List.take_take,Nat.min_eq_left];rw [ZE4,Nat.one_mul] at G; omega
  rw [e]; exact this
theorem Zyy {E:Enc α} {t e:Nat} {v:Value} {ecs:List Value} {xs:List (List α)} {w:World} (h:(mat E t e v ecs xs).holds w):∃ A c,v=.slice A xs.length c∧xs.length≤c:=by
 obtain ⟨A,c,B,G,_⟩:=Zna h.1 xs.length (ZEs _);exact⟨A,c,B,G⟩
end
section
variable {P:Program} {ops:Array Oper} {Q:Exit→Act→World→Prop} {n:Nat} {ev_:Env} {w:World} {rest:List Oper}
variable {d ty:Nat} {pos:String} {af:Array Edge}
theorem Zrk {B el sz nv c:Nat} {kq:IntKind} {lo:Int} {x y:Operand} {A:Option Addr} (ht:P.underlying B=some (.slice el)) (hz:Xo P el sz) (hx:ev n ev_ x=.slice A nv c) (hy:ev n ev_ y=.int kq lo) (G:0≤lo) (I:lo≤nv)
  (h:W P ops Q rest n (upd ev_ d (sliced A lo.toNat nv c sz)) w):W P ops Q (⟨some d,.slice B x (some y) none none,ty,pos,af,none⟩::rest) n ev_ w:=by
 have hel:P.elem B=el:=by simp [ZUh,ht]
 have hr:=run_slice_l (P:=P) w B A nv c (Zb8 ht) kq lo G I;rw [hel,Zak hz,ZEo] at hr
 refine Yv _ rfl rfl ?_ h
 simp only [execOp,hx,hy,ZF4,ZUj,ZEm,run_sliceAt_slice w B _ _ _ _ (Zb8 ht),hr,ZEo,ZEq]
theorem Zyz {B el sz nv c:Nat} {kq:IntKind} {hi:Int} {x y:Operand} {A:Option Addr} (ht:P.underlying B=some (.slice el)) (hz:Xo P el sz) (hx:ev n ev_ x=.slice A nv c) (hy:ev n ev_ y=.int kq hi) (G:0≤hi) (I:hi≤nv) (hc:nv≤c)
  (h:W P ops Q rest n (upd ev_ d (sliced A 0 hi.toNat c sz)) w):W P ops Q (⟨some d,.slice B x none (some y) none,ty,pos,af,none⟩::rest) n ev_ w:=by
 have hel:P.elem B=el:=by simp [ZUh,ht]
 have hr:=run_slice_h (P:=P) w B A nv c (Zb8 ht) kq hi G (by omega)
 rw [hel,Zak hz,ZEo] at hr
 refine Yv _ rfl rfl ?_ h
 simp only [execOp,hx,hy,ZF4,ZUj,ZEm,run_sliceAt_slice w B _ _ _ _ (Zb8 ht),hr,ZEo,ZEq]
end
end Vc
namespace Vc
open Go Go.RowKit
theorem Zgd {a b:Int} (h:decide (a≠b)=true):decide (a=b)=false:=by simpa using h
theorem Zy0 {a b:Int} (h:decide (a=b)=false):decide (a≠b)=true:=by simpa using h
structure Lvl where
 list:List A8
 place:List (A8×Int)
 deriving Inhabited
def THead:Ty Unit where
 sz:=1
 rep _ cs fp w:=(∀ b,b∈fp→b < w.heap.size)∧∃ A n c,cs=[.slice A n c]
 keep h hw:=⟨Zfo h hw.1,hw.2⟩
 low hw:=hw.1
 len hw:=by obtain ⟨_,A,n,c,rfl⟩:=hw; rfl
 one hw u hu:=by
  obtain ⟨_,A,n,c,rfl⟩:=hw;obtain rfl:u=_:=by simpa using hu
  rfl
 more hw h h':=⟨h',hw.2⟩
def TLvl:Ty Lvl:=.iso (λl=>(l.list,l.place,(),(),(),())) (.pair ((EA .i64).ty.sl) (.pair TSum (.pair THead (.pair THead (.pair THead THead)))))
theorem Zrl {x:Lvl} {B A G I L O:Value} {fp:List Nat} {w:World} (h:TLvl.rep x [B,A,G,I,L,O] fp w) :
  ((EA .i64).ty.sl).rep x.list [B] fp w∧TSum.rep x.place [A] fp w:=by
 obtain ⟨U,V⟩:=Zl1 (c1:=[B]) (c2:=[A,G,I,L,O]) h rfl;obtain ⟨a1,h2⟩:=Zl1 (c1:=[A]) (c2:=[G,I,L,O]) V rfl;exact⟨U,a1⟩
theorem Zy1 {x:Lvl} {B G I L O U:Value} {fp:List Nat} {w:World} (V:((EA .i64).ty.sl).rep x.list [B] fp w) (h1:TSum.rep x.place [G] fp w)
  (h2:∃ A n c,I=.slice A n c) (h3:∃ A n c,L=.slice A n c) (h4:∃ A n c,O=.slice A n c) (h5:∃ A n c,U=.slice A n c):TLvl.rep x [B,G,I,L,O,U] fp w:=by
 have hl:=λb hb=>Ty.low _ V b hb
 have up:∀ {v:Value}, (∃ A n c,v=.slice A n c)→THead.rep () [v] fp w:=λh=>by
  obtain ⟨A,n,c,rfl⟩:=h;exact⟨hl,A,n,c,rfl⟩
 have k5:=Zem (x:=((),())) (up h4) (up h5);have k4:=Zem (x:=((),((),()))) (up h3) k5;have k3:=Zem (x:=((),((),((),())))) (up h2) k4;have k2:=Zem (x:=(x.place,((),((),((),()))))) h1 k3;have k1:TLvl.rep x _ _ w:=Zem (x:=(x.list,(x.place,((),((),((),())))))) V k2;exact TLvl.more k1 (λb hb=>by simpa using hb) hl
structure Lev where
 n:Int
 b:Nat
 pb:Nat
 vl:Value
 vm:Value
 vc:Value
 vd:Value
 vk:Value
 md:Bool
 c3:Bool
 c4:Bool
 c5:Bool
def Lev.cells (e:Lev):List Value:=[e.vl,.map (some e.pb),e.vm,e.vc,e.vd,e.vk]
def Lev.key (e:Lev):Int×Nat:=(e.n,e.b)
structure Cx where
 LV:Int→List A8
 PL:Int→List (A8×Int)
 MX:Int→List (List Int)
 CL:Int→List (List Int)
 BD:Int→List (List Int)
 KL:Int→List (List Int)
def lvB (lt:Nat) (D:List Lev):Item where
 fp:=D.map (·.b)
 holds w:=(∀ e,e∈D→(blk e.b lt e.cells).holds w)∧(D.map (·.b)).Nodup
 keep w w' h hw:=by
  refine⟨λe he=>(blk e.b lt e.cells).keep w w' (λc hc=>h c ?_) (hw.1 e he),hw.2⟩
  obtain rfl:c=e.b:=by simpa [blk] using hc
  exact ZE1.2 ⟨e,he,rfl⟩
 low w hw b hb:=by
  obtain ⟨e,he,rfl⟩:=ZE1.1 hb;exact Zb2 (hw.1 e he)
section
variable {lt:Nat} {D D1 D2:List Lev} {e:Lev} {w w':World}
theorem Zrm (lt:Nat) (w:World):(lvB lt []).holds w:=⟨by simp,by simp⟩
theorem Zdf (h:(lvB lt D).holds w) (he:e∈D):(blk e.b lt e.cells).holds w:=h.1 e he
theorem Zy2 (h:(blk e.b lt e.cells).holds w):(lvB lt [e]).holds w:=⟨by simpa using h,by simp⟩
theorem Zrn (h:(lvB lt D1).holds w) (A:(lvB lt D2).holds w) (hd:∀ x,x∈(lvB lt D1).fp→x∉(lvB lt D2).fp):(lvB lt (D1++D2)).holds w:=by
 refine⟨λe he=>(ZEt.1 he).elim (h.1 e) (A.1 e),?_⟩
 rw [ZT6,ZFu];exact⟨h.2,A.2,λa ha b hb e=>hd a ha (e ▸ hb)⟩
theorem Znf (h:(lvB lt (D1++e::D2)).holds w):(blk e.b lt e.cells).holds w∧(lvB lt (D1++D2)).holds w∧∀ x,x∈(blk e.b lt e.cells).fp→x∉(lvB lt (D1++D2)).fp:=by
 obtain ⟨B,G⟩:=h;rw [ZT6,ZFw,ZFu,ZP3] at G
 obtain ⟨L,⟨O,U⟩,I⟩:=G;refine⟨B e (by simp),⟨λx hx=>B x ?_,?_⟩,?_⟩
 ·rcases ZEt.1 hx with q | q
  ·exact ZE7 _ q
  ·exact ZE6 _ (ZT3 _ q)
 ·rw [ZT6,ZFu];exact⟨L,U,λa ha b hb=>I a ha b (ZT3 _ hb)⟩
 ·intro x hx A;obtain rfl:x=e.b:=by simpa [blk] using hx
  have A:e.b∈(D1++D2).map (·.b):=A;rw [ZT6] at A
  rcases ZEt.1 A with q | q
  ·exact I _ q _ (by simp) rfl
  ·exact O q
theorem Zng (A:(blk e.b lt e.cells).holds w) (B:(lvB lt (D1++D2)).holds w) (hd:∀ x,x∈(blk e.b lt e.cells).fp→x∉(lvB lt (D1++D2)).fp):(lvB lt (D1++e::D2)).holds w:=by
 have hne:∀ x,x∈D1++D2→x.b≠e.b:=λx hx q=>hd e.b (by simp [blk]) (ZE1.2 ⟨x,hx,q⟩)
 obtain ⟨h,G⟩:=B;rw [ZT6,ZFu] at G
 refine⟨λx hx=>?_,?_⟩
 ·rcases ZEt.1 hx with q | q
  ·exact h x (ZE7 _ q)
  ·rcases ZEn.1 q with rfl | q
   ·exact A
   ·exact h x (ZE6 _ q)
 ·rw [ZT6,ZFw,ZFu,ZP3];refine⟨G.1,⟨λq=>?_,G.2.1⟩,λa ha b hb=>?_⟩
  ·obtain ⟨x,hx,I⟩:=ZE1.1 q;exact hne x (ZE6 _ hx) I
  ·rcases ZEn.1 hb with rfl | hb
   ·obtain ⟨x,hx,rfl⟩:=ZE1.1 ha;exact hne x (ZE7 _ hx)
   ·exact G.2.2 a ha b hb
end
def LvC (C:Cx) (F:List Nat) (e:Lev) (w:World):Prop :=
 ((EA .i64).ty.sl).rep (C.LV e.n) [e.vl] F w∧(e.pb∈F∧(Z6 (kvA .i64) (vvI .i64) e.pb (C.PL e.n)).holds w) ∧
 (e.md=false→e.vm=.slice none 0 0)∧(e.md=true→(((EI .i64).ty.sl).sl).rep (C.MX e.n) [e.vm] F w) ∧
 (e.c3=false→e.vc=.slice none 0 0)∧(e.c3=true→(((EI .i64).ty.sl).sl).rep (C.CL e.n) [e.vc] F w) ∧
 (e.c4=false→e.vd=.slice none 0 0)∧(e.c4=true→(((EI .i64).ty.sl).sl).rep (C.BD e.n) [e.vd] F w) ∧
 (e.c5=false→e.vk=.slice none 0 0)∧(e.c5=true→(((EI .i64).ty.sl).sl).rep (C.KL e.n) [e.vk] F w)
theorem LvC.keep {C:Cx} {F:List Nat} {e:Lev} {w w':World} (h:∀ b,b∈F→w'.heap[b]? = w.heap[b]?) (hc:LvC C F e w):LvC C F e w':=by
 obtain ⟨B,⟨A,G⟩,I,L,O,b3,U,b4,V,b5⟩:=hc;exact⟨Ty.keep _ h B,⟨A,Zp9 (h _ A) G⟩,I,λq=>Ty.keep _ h (L q),O,λq=>Ty.keep _ h (b3 q),U,λq=>Ty.keep _ h (b4 q),V,λq=>Ty.keep _ h (b5 q)⟩
theorem LvC.more {C:Cx} {F F':List Nat} {e:Lev} {w:World} (hc:LvC C F e w) (h:∀ b,b∈F→b∈F') (hl:∀ b,b∈F'→b < w.heap.size):LvC C F' e w:=by
 obtain ⟨A,⟨B,G⟩,I,L,O,b3,U,b4,V,b5⟩:=hc;exact⟨ZT8 _ A h hl,⟨h _ B,G⟩,I,λq=>ZT8 _ (L q) h hl,O,λq=>ZT8 _ (b3 q) h hl,U,λq=>ZT8 _ (b4 q) h hl,V,λq=>ZT8 _ (b5 q) h hl⟩
def cpP (C:Cx) (D:List Lev) (F:List Nat):Item where
 fp:=F
 holds w:=(∀ b,b∈F→b < w.heap.size)∧∀ e,e∈D→LvC C F e w
 keep w w' h hw:=⟨Zfo h hw.1,λe he=>(hw.2 e he).keep h⟩
 low w hw:=hw.1
section
variable {C:Cx} {D:List Lev} {F:List Nat} {e:Lev} {w:World}
theorem Zy3 (C:Cx) (w:World):(cpP C [] []).holds w:=⟨by simp,by simp⟩
theorem Zy4 (h:(cpP C D F).holds w) (he:e∈D):((EA .i64).ty.sl).rep (C.LV e.n) [e.vl] F w:=(h.2 e he).1
theorem Zy5 {F1:List Nat} (h:(cpP C D F).holds w) (A:LvC C F1 e w) (hl:∀ b,b∈F1→b < w.heap.size):(cpP C (D++[e]) (F++F1)).holds w:=by
 have hl':∀ b,b∈F++F1→b < w.heap.size:=λb hb=>(ZEt.1 hb).elim (h.1 b) (hl b)
 refine⟨hl',λx hx=>?_⟩
 rcases ZEt.1 hx with q | q
 ·exact(h.2 x q).more (λb hb=>ZE7 _ hb) hl'
 ·obtain rfl:x=e:=by simpa using q
  exact A.more (λb hb=>ZE6 _ hb) hl'
theorem Znh {D1 D2:List Lev} {F1:List Nat} {e':Lev} (h:(cpP C (D1++e::D2) F).holds w) (hl:∀ b,b∈F1→b < w.heap.size) (A:LvC C F e w→LvC C (F++F1) e' w):(cpP C (D1++e'::D2) (F++F1)).holds w:=by
 have hl':∀ b,b∈F++F1→b < w.heap.size:=λb hb=>(ZEt.1 hb).elim (h.1 b) (hl b)
 refine⟨hl',λx hx=>?_⟩
 have up:∀ x,x∈D1++e::D2→LvC C (F++F1) x w:=λx hx=>(h.2 x hx).more (λb hb=>ZE7 _ hb) hl'
 rcases ZEt.1 hx with q | q
 ·exact up x (ZE7 _ q)
 ·rcases ZEn.1 q with rfl | q
  ·exact A (h.2 e (by simp))
  ·exact up x (ZE6 _ (ZT3 _ q))
end
section
variable {C:Cx} {D:List Lev} {F:List Nat} {e:Lev} {w:World} {n:Int}
theorem Zy6 (h:(cpP C D F).holds w) (he:e∈D) (hn:e.n=n):((EA .i64).ty.sl).rep (C.LV n) [e.vl] F w:=hn ▸ Zy4 h he
theorem Zge {α:Type} {t:Ty α} {xs:List α} {v:Value} {fp:List Nat} {w:World} (h:t.sl.rep xs [v] fp w):∃ A n c,v=.slice A n c:=by
 obtain ⟨A,c,e⟩:=Zdn h;exact⟨A,_,c,e⟩
theorem Zro (h:(cpP C D F).holds w) (he:e∈D) (hn:e.n=n):TLvl.rep ⟨C.LV n,C.PL n⟩ [e.vl,.map (some e.pb),e.vm,e.vc,e.vd,e.vk] F w:=by
 subst hn;obtain ⟨B,⟨G,I⟩,L,O,U,b3,V,b4,a5,b5⟩:=h.2 e he
 have two:∀ {d:Bool} {v:Value} {xs:List (List Int)}, (d=false→v=.slice none 0 0)→(d=true→(((EI .i64).ty.sl).sl).rep xs [v] F w)→∃ A n c,v=.slice A n c:=λ{d v xs} ha hb=>by
  cases q:d with
  | false=>exact⟨_,_,_,ha q⟩
  | true=>exact Zge (hb q)
 exact Zy1 B ⟨e.pb,rfl,G,h.1,I⟩ (two L O) (two U b3) (two V b4) (two a5 b5)
end
theorem Zy7 {D:List Lev} {n:Int} {b:Nat} (h:Y8 (D.map Lev.key) n=some b):∃ e,e∈D∧e.n=n∧e.b=b:=by
 cases hf:J9 (D.map Lev.key) n 0 with
 | none=>rw [(Zc3 hf).1] at h; cases h
 | some q =>
  obtain ⟨j,v⟩:=q;obtain ⟨_,B,G,_⟩:=Zc4 hf;rw [G] at h
  obtain rfl:v=b:=by simpa using h
  obtain ⟨e,he,A⟩:=ZE1.1 (List.mem_of_getElem? B);have I:=congrArg Prod.fst A;have L:=congrArg Prod.snd A;exact⟨e,he,I,L⟩
theorem Zy8 {D:List Lev} {n:Int} {b:Nat} (h:Y8 (D.map Lev.key) n=none):Yo (D.map Lev.key) n b=D.map Lev.key++[(n,b)]:=by
 cases hf:J9 (D.map Lev.key) n 0 with
 | none=>exact(Zc3 hf).2.1 b
 | some q=>obtain ⟨j,v⟩:=q; rw [(Zc4 hf).2.2.1] at h; cases h
section
variable {P:Program} {ops:Array Oper} {Q:Exit→Act→World→Prop} {n:Nat} {e:Env} {w w':World} {rest:List Oper}
variable {X:Nat→Prop} {w0:World} {M Ps:List Item}
variable {d ty:Nat} {pos:String} {af:Array Edge}
theorem Zy9 {α β:Type} [DecidableEq α] {kv:α→Value} {vv:β→Value} {t k el b:Nat} {l:List (α×β)} {x y:Operand} (kx:α) (z:Value) (hh:(Z6 kv vv b l).holds w) (K:KeyT P k kv) (ht:P.underlying t=some (.map k el)) (hz:X2 P el z)
  (hx:ev n e x=.map (some b)) (hy:ev n e y=kv kx) (A:∀ c,Y8 l kx=some c→W P ops Q rest n (upd e d (.tuple #[vv c,.bool true])) w) (B:Y8 l kx=none→W P ops Q rest n (upd e d (.tuple #[z,.bool false])) w) :
  W P ops Q (⟨some d,.lookup t x y true,ty,pos,af,none⟩::rest) n e w:=by
 obtain ⟨es,clock,G,h,I⟩:=hh;have hg:(getObj b).run P w=.ok (.map es clock) w:=by simp [getObj,Sem.run,G]
 cases hf:J9 l kx 0 with
 | none =>
  refine Yv _ rfl rfl ?_ (B (Zc3 hf).1)
  have hl:(ZUq t (.map (some b)) (kv kx) true).run P w=.ok (.tuple #[z,.bool false]) w:=by
   simp only [ZUq,ZEm,run_underlying ht,ZEo,hg,ZEq,K.check,Zep K w kx es.toList l h];simp [hf,Zjp hz]
  simp [execOp,hx,hy,hl]
 | some q =>
  obtain ⟨j,v⟩:=q;refine Yv _ rfl rfl ?_ (A v (Zc4 hf).2.2.1)
  have hl:(ZUq t (.map (some b)) (kv kx) true).run P w=.ok (.tuple #[vv v,.bool true]) w:=by
   simp only [ZUq,ZEm,run_underlying ht,ZEo,hg,ZEq,K.check,Zep K w kx es.toList l h];simp [hf]
  simp [execOp,hx,hy,hl]
end
section
variable {X:Nat→Prop} {w0 w w':World} {M Ps:List Item}
theorem Ctx.turnMP (h:Ctx X w0 w M Ps) (k j:Nat) {it jt pt qt:Item} (hk:M[k]? = some it) (hj:Ps[j]? = some pt) (A:BelO it.fp w w') (hh:jt.holds w') (hq:qt.holds w')
  (hf:∀ b,b∈jt.fp→b∈it.fp∨w.heap.size≤b) (hg:∀ b,b∈qt.fp→b∈pt.fp∨w.heap.size≤b) (hd:∀ b,b∈qt.fp→b∉jt.fp):Ctx X w0 w' (M.set k jt) (Ps.set j qt):=by
 have B:=h.turn k hk A.os A.tape A.output A.size A.drawn A.old hh hf;refine { B with p:=λx hx=>?_,pd:=λx hx b hb m hm=>?_ }
 ·rcases ZN9 hx with q | q
  ·exact B.p x q
  ·subst q; exact hq
 ·rcases ZN9 hx with q | q
  ·exact B.pd x q b hb m hm
  ·subst q;rcases hg b hb with g | g
   ·rcases ZN9 hm with z | z
    ·exact h.pd pt (List.mem_of_getElem? hj) b g m z
    ·subst z; exact hd b hb
   ·rcases ZN9 hm with z | z
    ·exact λhbm=>absurd (m.low w (h.m m z) b hbm) (ZFd.2 g)
    ·subst z; exact hd b hb
theorem Ctx.turnMPN (h:Ctx X w0 w M Ps) (k j:Nat) {it jt pt qt nt:Item} (hk:M[k]? = some it) (hj:Ps[j]? = some pt) (A:BelO it.fp w w') (hh:jt.holds w') (hq:qt.holds w') (hn:nt.holds w')
  (hf:∀ b,b∈jt.fp→b∈it.fp∨w.heap.size≤b) (hg:∀ b,b∈qt.fp→b∈pt.fp∨w.heap.size≤b) (hd:∀ b,b∈qt.fp→b∉jt.fp) (hnf:∀ b,b∈nt.fp→w.heap.size≤b) (hnj:∀ b,b∈nt.fp→b∉jt.fp∧b∉qt.fp) :
  Ctx X w0 w' (nt::M.set k jt) (Ps.set j qt):=by
 have B:=h.turnMP k j hk hj A hh hq hf hg hd;refine { B with m:=λx hx=>?_,mfp:=λx hx b hb=>?_,dis:=?_,pd:=λx hx b hb m hm=>?_ }
 ·rcases ZEn.1 hx with rfl | hx
  ·exact hn
  ·exact B.m x hx
 ·rcases ZEn.1 hx with rfl | hx
  ·exact .inl (ZEv h.size (hnf b hb))
  ·exact B.mfp x hx b hb
 ·refine ZEx.2 ⟨λm hm x hx hxm=>?_,B.dis⟩
  rcases ZN9 hm with z | z
  ·exact absurd (m.low w (h.m m z) x hxm) (ZFd.2 (hnf x hx))
  ·subst z; exact(hnj x hx).1 hxm
 ·rcases ZEn.1 hm with rfl | hm
  ·intro hbm;rcases ZN9 hx with z | z
   ·exact absurd (x.low w (h.p x z) b hb) (ZFd.2 (hnf b hbm))
   ·subst z; exact(hnj b hbm).2 hb
  ·exact B.pd x hx b hb m hm
theorem Ctx.permM (h:Ctx X w0 w M Ps) {M':List Item} (hp:M.Perm M'):Ctx X w0 w M' Ps :=
  { h with
    m:=fun x hx=>h.m x (hp.mem_iff.2 hx)
    mfp:=fun x hx=>h.mfp x (hp.mem_iff.2 hx)
    dis:=(hp.pairwise_iff (fun {a b} hab x hx hx2=>hab x hx2 hx)).1 h.dis
    pd:=fun x hx b hb m hm=>h.pd x hx b hb m (hp.mem_iff.2 hm) }
theorem Zbr (b:Nat):PreW (BelB b) :=
 ⟨λw=>⟨rfl,rfl,rfl,ZEs _,ZEs _,λ_ _ _=>rfl⟩,λh k=>⟨k.os.trans h.os,k.tape.trans h.tape,k.output.trans h.output,ZEv h.size k.size,ZEv h.drawn k.drawn,λc hc hne=>(k.old c (Nat.lt_of_lt_of_le hc h.size) hne).trans (h.old c hc hne)⟩⟩
end
def cpx (C:Cx) (lt mb:Nat) (D:List Lev) (F:List Nat):Item where
 fp:=mb::(D.map (·.b)++F)
 holds w:=(Z6 (vvI .i64) vvP mb (D.map Lev.key)).holds w∧(lvB lt D).holds w∧(cpP C D F).holds w∧(mb∉D.map (·.b)∧mb∉F∧∀ b,b∈D.map (·.b)→b∉F)
 keep w w' h hw:=by
  refine⟨ZT4 _ w w' (λb hb=>h b ?_) hw.1,ZT4 _ w w' (λb hb=>h b (ZT3 _ (ZE7 _ hb))) hw.2.1,ZT4 _ w w' (λb hb=>h b (ZT3 _ (ZE6 _ hb))) hw.2.2.1,hw.2.2.2⟩
  obtain rfl:b=mb:=by simpa [Z6] using hb
  exact ZUb
 low w hw b hb:=by
  rcases ZEn.1 hb with rfl | hb
  ·exact ZT2 _ w hw.1 b (by simp [Z6])
  ·rcases ZEt.1 hb with hb | hb
   ·exact ZT2 _ w hw.2.1 b hb
   ·exact ZT2 _ w hw.2.2.1 b hb
def LvAt (D:List Lev) (n:Int) (b:Nat) (md cd:Bool):Prop:=∃ e,e∈D∧e.n=n∧e.b=b∧(md=true→e.md=true)∧(cd=true→e.c3=true∧e.c4=true∧e.c5=true)
structure Lev.Le (e e':Lev):Prop where
 n:e'.n=e.n
 b:e'.b=e.b
 md:e.md=true→e'.md=true
 c3:e.c3=true→e'.c3=true
 c4:e.c4=true→e'.c4=true
 c5:e.c5=true→e'.c5=true
theorem Lev.Le.refl (e:Lev):e.Le e:=⟨rfl,rfl,id,id,id,id⟩
theorem Lev.Le.trans {a b c:Lev} (h:a.Le b) (k:b.Le c):a.Le c:=⟨k.n.trans h.n,k.b.trans h.b,λq=>k.md (h.md q),λq=>k.c3 (h.c3 q),λq=>k.c4 (h.c4 q),λq=>k.c5 (h.c5 q)⟩
structure CpX (S:Nat→Prop) (D D':List Lev) (F F':List Nat):Prop where
 up:∀ e,e∈D→∃ e',e'∈D'∧e.Le e'
 dn:∀ e',e'∈D'→¬ S e'.b→e'.c3=true→(e'.c4=true∧e'.c5=true)∨∃ e,e∈D∧e.b=e'.b∧e.c3=true∧(e.c4=true→e'.c4=true)∧(e.c5=true→e'.c5=true)
 fp:∀ x,x∈F→x∈F'
abbrev CpLe (D D':List Lev) (F F':List Nat):Prop:=CpX (λ_=>False) D D' F F'
def Ze3 (D:List Lev):Prop:=∀ e,e∈D→e.c3=true→e.c4=true∧e.c5=true
theorem CpX.refl {S:Nat→Prop} (D:List Lev) (F:List Nat):CpX S D D F F:=⟨λe he=>⟨e,he,.refl e⟩,λe he _ A=>.inr ⟨e,he,rfl,A,id,id⟩,λ_ h=>h⟩
theorem CpX.trans {S:Nat→Prop} {D D' D2:List Lev} {F F' F2:List Nat} (h:CpX S D D' F F') (k:CpX S D' D2 F' F2):CpX S D D2 F F2:=by
 refine⟨λe he=>?_,λe he hs h3=>?_,λx hx=>k.fp x (h.fp x hx)⟩
 ·obtain ⟨A,B,G⟩:=h.up e he;obtain ⟨I,L,O⟩:=k.up A B;exact⟨I,L,G.trans O⟩
 ·rcases k.dn e he hs h3 with q | ⟨A,B,G,q3,U,V⟩
  ·exact .inl q
  ·rcases h.dn A B (G ▸ hs) q3 with q | ⟨I,L,O,k3,k4,k5⟩
   ·exact .inl ⟨U q.1,V q.2⟩
   ·exact .inr ⟨I,L,O.trans G,k3,λq=>U (k4 q),λq=>V (k5 q)⟩
theorem CpX.some {S T:Nat→Prop} {D D':List Lev} {F F':List Nat} (h:CpX S D D' F F') (hs:∀ b,S b→T b):CpX T D D' F F':=⟨h.up,λe he ht A=>h.dn e he (λq=>ht (hs _ q)) A,h.fp⟩
theorem CpX.done {S:Nat→Prop} {D D':List Lev} {F F':List Nat} (h:CpX S D D' F F') (hd:∀ e,e∈D'→S e.b→e.c4=true∧e.c5=true):CpLe D D' F F' :=
 ⟨h.up,λe he _ A=>by
  by_cases q:S e.b
  ·exact .inl (hd e he q)
  ·exact h.dn e he q A,h.fp⟩
theorem CpX.rest {D D':List Lev} {F F':List Nat} (h:CpLe D D' F F') (hr:Ze3 D):Ze3 D':=λe he hc=>by
 rcases h.dn e he id hc with q | ⟨A,B,O,G,I,L⟩
 ·exact q
 ·exact⟨I (hr A B G).1,L (hr A B G).2⟩
theorem Zrp:Ze3 []:=λ_ h=>by cases h
theorem LvAt.up {S:Nat→Prop} {D D':List Lev} {F F':List Nat} {n:Int} {b:Nat} {md cd:Bool} (h:LvAt D n b md cd) (k:CpX S D D' F F'):LvAt D' n b md cd:=by
 obtain ⟨e,B,G,I,L,A⟩:=h;obtain ⟨O,U,V⟩:=k.up e B;exact⟨O,U,V.n.trans G,V.b.trans I,λq=>V.md (L q),λq=>⟨V.c3 (A q).1,V.c4 (A q).2.1,V.c5 (A q).2.2⟩⟩
section
variable {C:Cx} {lt mb:Nat} {D:List Lev} {F:List Nat} {w:World} {n:Int} {b:Nat} {md cd:Bool}
theorem Zza (h:(Z6 (vvI .i64) vvP mb ([]:List (Int×Nat))).holds w):(cpx C lt mb [] []).holds w:=⟨h,Zrm _ _,Zy3 _ _,by simp⟩
theorem Zni (h:(cpx C lt mb D F).holds w) (hl:LvAt D n b md cd):∃ A B G I L O,TLvl.rep ⟨C.LV n,C.PL n⟩ [A,B,G,I,L,O] F w∧(blk b lt [A,B,G,I,L,O]).holds w:=by
 obtain ⟨e,U,V,rfl,_,_⟩:=hl;exact⟨_,_,_,_,_,_,Zro h.2.2.1 U V,Zdf h.2.1 U⟩
theorem Zim (h:(cpx C lt mb D F).holds w) (hl:LvAt D n b md cd):∃ B V G I L O,(blk b lt [B,V,G,I,L,O]).holds w∧((EA .i64).ty.sl).rep (C.LV n) [B] F w∧(md=true→(((EI .i64).ty.sl).sl).rep (C.MX n) [G] F w) ∧
  (cd=true→(((EI .i64).ty.sl).sl).rep (C.CL n) [I] F w∧(((EI .i64).ty.sl).sl).rep (C.BD n) [L] F w∧(((EI .i64).ty.sl).sl).rep (C.KL n) [O] F w):=by
 obtain ⟨e,U,rfl,rfl,h2,A⟩:=hl;obtain ⟨g1,g2,g3,g4,_,b3,_,b4,_,b5⟩:=h.2.2.1.2 e U;exact⟨_,_,_,_,_,_,Zdf h.2.1 U,g1,λq=>g4 (h2 q),λq=>⟨b3 (A q).1,b4 (A q).2.1,b5 (A q).2.2⟩⟩
theorem Zzb (h:(cpx C lt mb D F).holds w) (hl:LvAt D n b md cd):∃ L O I U V v5,(blk b lt [L,O,I,U,V,v5]).holds w∧∃ A m c,I=.slice A m c∧∀ a,A=some a→LvAt D n b true cd:=by
 obtain ⟨e,B,rfl,rfl,h2,h3⟩:=hl;obtain ⟨g1,g2,g3,g4,_⟩:=h.2.2.1.2 e B;refine⟨_,_,_,_,_,_,Zdf h.2.1 B,?_⟩
 cases q:e.md with
 | false=>exact⟨none,0,0,g3 q,λa G=>by cases G⟩
 | true =>
  obtain ⟨A,m,c,G⟩:=Zge (g4 q);exact⟨A,m,c,G,λa _=>⟨e,B,rfl,rfl,λ_=>q,h3⟩⟩
theorem Zcp {x:Nat} (h:x∈F):x∈(cpx C lt mb D F).fp:=ZT3 _ (ZE6 _ h)
theorem Zcq:mb∈(cpx C lt mb D F).fp:=ZUb
end
section
variable {X:Nat→Prop} {w0 w w':World} {M Ps:List Item}
theorem Ctx.focus {C:Cx} {lt mb:Nat} {D:List Lev} {F:List Nat} {n:Int} {b:Nat} {md cd:Bool} (h:Ctx X w0 w (cpx C lt mb D F::M) Ps) (hl:LvAt D n b md cd) :
    ∃ (D1 D2 : List Lev) (ev : Lev), D = D1 ++ ev :: D2 ∧ ev.n = n ∧ ev.b = b ∧ (∀ x, x ∈ F → w0.heap.size ≤ x ∨ X x) ∧
      Ctx X w0 w (blk b lt [ev.vl,.map (some ev.pb),ev.vm,ev.vc,ev.vd,ev.vk]::lvB lt (D1++D2)::Z6 (vvI .i64) vvP mb ((D1++ev::D2).map Lev.key)::M) (cpP C (D1++ev::D2) F::Ps):=by
  obtain ⟨ev,he,rfl,rfl,_,_⟩:=hl
  obtain ⟨D1,D2,rfl⟩:=ZUm he
  have hx:=h.m _ ZUb
  obtain ⟨q1,q2,q3⟩:=Znf hx.2.1
  have fx:=h.mfp _ ZUb
  obtain ⟨d1,d2⟩:=ZEx.1 h.dis
  have inB:∀ x,x∈(lvB lt (D1++D2)).fp→x∈(D1++ev::D2).map (·.b):=fun x hx=>by
    obtain ⟨z,hz,rfl⟩:=ZE1.1 hx
    refine ZE1.2 ⟨z,?_,rfl⟩
    rcases ZEt.1 hz with q | q
    · exact ZE7 _ q
    · exact ZE6 _ (ZT3 _ q)
  have inE:∀ x,x∈(blk ev.b lt ev.cells).fp→x∈(D1++ev::D2).map (·.b):=fun x hx=>by
    obtain rfl:x=ev.b:=by simpa [blk] using hx
    exact ZE1.2 ⟨ev,by simp,rfl⟩
  have inM:∀ x,x∈(Z6 (vvI .i64) vvP mb ((D1++ev::D2).map Lev.key)).fp→x=mb:=fun x hx=>by simpa [Z6] using hx
  have upD:∀ x,x∈(D1++ev::D2).map (·.b)→x∈(cpx C lt mb (D1++ev::D2) F).fp:=fun x hx=>ZT3 _ (ZE7 _ hx)
  have upI:∀ it,it=blk ev.b lt ev.cells∨it=lvB lt (D1++D2)∨it=Z6 (vvI .i64) vvP mb ((D1++ev::D2).map Lev.key)→∀ x,x∈it.fp→x∈(cpx C lt mb (D1++ev::D2) F).fp:=by
    rintro it (rfl | rfl | rfl) x hx
    · exact upD x (inE x hx)
    · exact upD x (inB x hx)
    · rw [inM x hx]; exact Zcq
  refine⟨D1,D2,ev,rfl,rfl,rfl,fun x hx=>fx x (Zcp hx),{ h with m:=?_,p:=?_,mfp:=?_,dis:=?_,pd:=?_ }⟩
  · intro it hi
    rcases ZEn.1 hi with rfl | hi
    · exact q1
    · rcases ZEn.1 hi with rfl | hi
      · exact q2
      · rcases ZEn.1 hi with rfl | hi
        · exact hx.1
        · exact h.m it (ZT3 _ hi)
  · intro it hi
    rcases ZEn.1 hi with rfl | hi
    · exact hx.2.2.1
    · exact h.p it hi
  · intro it hi x hxf
    rcases ZEn.1 hi with q | hi
    · exact fx x (upI it (.inl q) x hxf)
    · rcases ZEn.1 hi with q | hi
      · exact fx x (upI it (.inr (.inl q)) x hxf)
      · rcases ZEn.1 hi with q | hi
        · exact fx x (upI it (.inr (.inr q)) x hxf)
        · exact h.mfp it (ZT3 _ hi) x hxf
  · refine ZEx.2 ⟨fun it hi x hxe hxi=>?_,ZEx.2 ⟨fun it hi x hxe hxi=>?_,ZEx.2 ⟨fun it hi x hxe hxi=>?_,d2⟩⟩⟩
    · rcases ZEn.1 hi with rfl | hi
      · exact q3 x hxe hxi
      · rcases ZEn.1 hi with rfl | hi
        · rw [inM x hxi] at hxe; exact hx.2.2.2.1 (inE _ hxe)
        · exact d1 it hi x (upI _ (.inl rfl) x hxe) hxi
    · rcases ZEn.1 hi with rfl | hi
      · rw [inM x hxi] at hxe; exact hx.2.2.2.1 (inB _ hxe)
      · exact d1 it hi x (upI _ (.inr (.inl rfl)) x hxe) hxi
    · exact d1 it hi x (upI _ (.inr (.inr rfl)) x hxe) hxi
  · intro it hi x hxi m hm hxm
    have key:∀ it,it∈Ps→∀ x,x∈it.fp→∀ m,m=blk ev.b lt ev.cells∨m=lvB lt (D1++D2)∨m=Z6 (vvI .i64) vvP mb ((D1++ev::D2).map Lev.key)→x∉m.fp:=fun it hi x hxi m hm hxm=>h.pd it hi x hxi _ ZUb (upI m hm x hxm)
    have kF:∀ x,x∈F→∀ m,m=blk ev.b lt ev.cells∨m=lvB lt (D1++D2)∨m=Z6 (vvI .i64) vvP mb ((D1++ev::D2).map Lev.key)→x∉m.fp:=by
      rintro x hxF m (rfl | rfl | rfl) hxm
      · exact hx.2.2.2.2.2 x (inE x hxm) hxF
      · exact hx.2.2.2.2.2 x (inB x hxm) hxF
      · rw [inM x hxm] at hxF; exact hx.2.2.2.2.1 hxF
    have rest:∀ m,m∈M→x∉m.fp:=fun m hm hxm=>by
      rcases ZEn.1 hi with rfl | hi
      · exact d1 m hm x (Zcp hxi) hxm
      · exact h.pd it hi x hxi m (ZT3 _ hm) hxm
    have front:∀ m,m=blk ev.b lt ev.cells∨m=lvB lt (D1++D2)∨m=Z6 (vvI .i64) vvP mb ((D1++ev::D2).map Lev.key)→x∉m.fp:=fun m hm=>by
      rcases ZEn.1 hi with rfl | hi
      · exact kF x hxi m hm
      · exact key it hi x hxi m hm
    rcases ZEn.1 hm with q | hm
    · exact front m (.inl q) hxm
    · rcases ZEn.1 hm with q | hm
      · exact front m (.inr (.inl q)) hxm
      · rcases ZEn.1 hm with q | hm
        · exact front m (.inr (.inr q)) hxm
        · exact rest m hm hxm
theorem Zzc {D1 D2 new:List Lev} {ev v:Lev} (h:v∈(D1++ev::D2)++new) (hne:v≠ev):v∈(D1++D2)++new:=by
 simp only [ZEt,ZEn] at h ⊢
 rcases h with (h | h | h) | h
 ·exact .inl (.inl h)
 ·exact absurd h hne
 ·exact .inl (.inr h)
 ·exact .inr h
theorem Zzd (n:Int):ZHf.wrap (n+1)≠n:=by
 rw [ZUp]; omega
theorem Zze {C:Cx} {lt mb a e:Nat} {D1 D2 new:List Lev} {ev:Lev} {n:Int} {b:Nat} {v:Value} {F F1 f:List Nat} {w:World}
    (hm:(Z6 (vvI .i64) vvP mb (((D1++ev::D2)++new).map Lev.key)).holds w) (hl:(lvB lt ((D1++D2)++new)).holds w) (hb:(blk b lt [ev.vl,.map (some ev.pb),v,ev.vc,ev.vd,ev.vk]).holds w)
    (hp:(cpP C ((D1++ev::D2)++new) (F++F1)).holds w) (ht:(ZM8 (ZT0 a (ZT0 e (EI .i64).tr)) (C.MX n) [v] f).holds w) (hn:ev.n=n) (hbb:ev.b=b)
    (d1:∀ x,x∈(Z6 (vvI .i64) vvP mb (((D1++ev::D2)++new).map Lev.key)).fp→x∉(blk b lt [ev.vl,.map (some ev.pb),v,ev.vc,ev.vd,ev.vk]).fp)
    (d2:∀ x,x∈(Z6 (vvI .i64) vvP mb (((D1++ev::D2)++new).map Lev.key)).fp→x∉(lvB lt ((D1++D2)++new)).fp)
    (d3:∀ x,x∈(Z6 (vvI .i64) vvP mb (((D1++ev::D2)++new).map Lev.key)).fp→x∉f)
    (d4:∀ x,x∈(blk b lt [ev.vl,.map (some ev.pb),v,ev.vc,ev.vd,ev.vk]).fp→x∉(lvB lt ((D1++D2)++new)).fp)
    (d5:∀ x,x∈(blk b lt [ev.vl,.map (some ev.pb),v,ev.vc,ev.vd,ev.vk]).fp→x∉f) (d6:∀ x,x∈(lvB lt ((D1++D2)++new)).fp→x∉f)
    (p1:∀ x,x∈F++F1→x∉(Z6 (vvI .i64) vvP mb (((D1++ev::D2)++new).map Lev.key)).fp) (p2:∀ x,x∈F++F1→x∉(blk b lt [ev.vl,.map (some ev.pb),v,ev.vc,ev.vd,ev.vk]).fp)
    (p3:∀ x,x∈F++F1→x∉(lvB lt ((D1++D2)++new)).fp) (hnw:∀ z,z∈new→z.c3=false) :
    ∃ (D' : List Lev) (F' : List Nat), CpLe (D1 ++ ev :: D2) D' F F' ∧ LvAt D' n b true false ∧ (cpx C lt mb D' F').holds w ∧
      ∀ x,x∈(cpx C lt mb D' F').fp→x∈(Z6 (vvI .i64) vvP mb (((D1++ev::D2)++new).map Lev.key)).fp∨x∈(blk b lt [ev.vl,.map (some ev.pb),v,ev.vc,ev.vd,ev.vk]).fp∨x∈(lvB lt ((D1++D2)++new)).fp∨x∈F∨x∈F1∨x∈f:=by
  subst hn hbb
  have e1:(D1++ev::D2)++new=D1++ev::(D2++new):=by simp
  have e2:(D1++D2)++new=D1++(D2++new):=by simp
  rw [e1] at hm hp d1 d2 d3 p1
  rw [e2] at hl d2 d4 d6 p3
  rw [e1,e2]
  have hmb:mb∈(Z6 (vvI .i64) vvP mb ((D1++ev::(D2++new)).map Lev.key)).fp:=by simp [Z6]
  have inS:∀ x,x∈(D1++({ ev with vm:=v,md:=true }:Lev)::(D2++new)).map (·.b)→x=ev.b∨x∈(lvB lt (D1++(D2++new))).fp:=fun x hx=>by
    obtain ⟨z,hz,rfl⟩:=ZE1.1 hx
    rcases ZEt.1 hz with q | q
    · exact .inr (ZE1.2 ⟨z,ZE7 _ q,rfl⟩)
    · rcases ZEn.1 q with rfl | q
      · exact .inl rfl
      · exact .inr (ZE1.2 ⟨z,ZE6 _ q,rfl⟩)
  have hbm:ev.b∈(blk ev.b lt [ev.vl,.map (some ev.pb),v,ev.vc,ev.vd,ev.vk]).fp:=by simp [blk]
  have hlow:∀ x,x∈f→x < w.heap.size:=fun x hx=>ZT2 _ w ht x hx
  refine⟨D1++{ ev with vm:=v,md:=true }::(D2++new),(F++F1)++f,⟨fun z hz=>?_,fun z hz _ h3=>?_,fun x hx=>ZE7 _ (ZE7 _ hx)⟩,⟨{ ev with vm:=v,md:=true }, by simp,rfl,rfl,fun _=>rfl,fun q=>(ZT9 q).elim⟩,⟨?_,?_,?_,?_,?_,?_⟩,?_⟩
  · rcases ZEt.1 hz with q | q
    · exact⟨z,ZE7 _ q,.refl z⟩
    · rcases ZEn.1 q with rfl | q
      · exact⟨{ z with vm:=v,md:=true }, ZE6 _ ZUb,rfl,rfl,fun _=>rfl,id,id,id⟩
      · exact⟨z,ZE6 _ (ZT3 _ (ZE7 _ q)),.refl z⟩
  · rcases ZEt.1 hz with q | q
    · exact .inr ⟨z,ZE7 _ q,rfl,h3,id,id⟩
    · rcases ZEn.1 q with rfl | q
      · exact .inr ⟨ev,by simp,rfl,h3,id,id⟩
      · rcases ZEt.1 q with q | q
        · exact .inr ⟨z,ZE6 _ (ZT3 _ q),rfl,h3,id,id⟩
        · exact absurd h3 (by rw [hnw z q]; exact ZT9)
  · have:(D1++({ ev with vm:=v,md:=true }:Lev)::(D2++new)).map Lev.key=(D1++ev::(D2++new)).map Lev.key:=by simp [Lev.key]
    rw [this]; exact hm
  · exact Zng hb hl d4
  · refine Znh (e:=ev) (e':={ ev with vm:=v,md:=true }) hp hlow fun hc=>?_
    obtain ⟨h1,⟨h2,h3⟩,h4,h5,h6⟩:=hc.more (F':=(F++F1)++f) (fun b hb=>ZE7 _ hb) (fun b hb=>(ZEt.1 hb).elim (hp.1 b) (hlow b))
    exact⟨h1,⟨h2,h3⟩,fun q=>(ZUn q),fun _=>ZT8 _ (ZUd _ ht.1) (fun b hb=>ZE6 _ hb) (fun b hb=>(ZEt.1 hb).elim (hp.1 b) (hlow b)),h6⟩
  · intro q
    rcases inS _ q with q | q
    · exact d1 mb hmb (q ▸ hbm)
    · exact d2 mb hmb q
  · intro q
    rcases ZEt.1 q with q | q
    · exact p1 mb q hmb
    · exact d3 mb hmb q
  · intro x hx q
    rcases inS x hx with rfl | hx
    · rcases ZEt.1 q with q | q
      · exact p2 _ q hbm
      · exact d5 _ hbm q
    · rcases ZEt.1 q with q | q
      · exact p3 _ q hx
      · exact d6 _ hx q
  · intro x hx
    rcases ZEn.1 hx with rfl | hx
    · exact .inl hmb
    · rcases ZEt.1 hx with q | q
      · rcases inS x q with rfl | q
        · exact .inr (.inl hbm)
        · exact .inr (.inr (.inl q))
      · rcases ZEt.1 q with q | q
        · rcases ZEt.1 q with q | q
          · exact .inr (.inr (.inr (.inl q)))
          · exact .inr (.inr (.inr (.inr (.inl q))))
        · exact .inr (.inr (.inr (.inr (.inr q))))
theorem Ctx.anyX (h:Ctx X w0 w M Ps) (k:Nat) {it:Item} (hk:M[k]? = some it):∀ b,b∈it.fp→w0.heap.size≤b∨X b:=h.mfp it (List.mem_of_getElem? hk)
theorem Zrq {b:Nat} (h:Bel w w'):BelB b w w':=⟨h.os,h.tape,h.output,h.size,h.drawn,λc hc _=>h.block c hc⟩
theorem Zzf {P:Program} {Q:Exit→Act→World→Prop} {l:List Oper} {n:Nat} {e:Env} (b:Nat) {id:Nat} (m:Nat) (hm:P.follows .mixedOrders=true) (rows lk lf:List Nat) (hro:Zen l rows=true) (hk:lk.all (Zbk rows l m)=true) (hf:lf.all (Zbk rows l l.length)=true)
  (h:(∀ i,lk.contains i=true→Jb .any l.toArray m i=true)→(∀ i,lf.contains i=true→Jb .any l.toArray l.toArray.size i=true)→∀ w',Bel w w'→AE (BelB b) P .any l.toArray Q m n l.length (ZEp l.length false).toArray e w'):(Code.region id l.toArray true).wp P Q (actOf n e) w:=by
 refine wp_region_any hm ?_
 have:=(h (λi hi=>Zft hro (ZFs.1 hk i (by simpa using hi))) (λi hi=>Zft (m:=l.length) hro (ZFs.1 hf i (by simpa using hi))) { w with drawn:=w.drawn+1 } ⟨⟨rfl,rfl,rfl,ZEs _,λ_ _=>rfl⟩,Nat.le_succ _⟩).out (Zl4 _)
 have A:=Zl2 _ _ _ _ this;simpa using A
theorem BelB.belO {b:Nat} {l:List Nat} (h:BelB b w w') (hb:b∈l):BelO l w w':=⟨h.os,h.tape,h.output,h.size,h.drawn,λc hc hn=>h.old c hc (λe=>hn (e ▸ hb))⟩
end
end Vc
set_option maxRecDepth 4000
set_option maxHeartbeats 4000000
namespace Go.Proofs.YtaagfepgbofmlaaGreat
open Go Go.RowKit Vc
variable {b0 bp0 b1 bp1 b2 bp2 b3 bp3 b4 bp4 b5 bp5 b6 bp6 b7 bp7 mb0:Nat} {u0_0 u0_1 u0_2 u0_3 u0_4 u0_5 u1_0 u1_1 u1_2 u1_3 u1_4 u1_5 u2_0 u2_1 u2_2 u2_3 u2_4 u2_5 u3_0 u3_1 u3_2 u3_3 u3_4 u3_5 u4_0 u4_1 u4_2 u4_3 u4_4 u4_5 u5_0 u5_1 u5_2 u5_3 u5_4 u5_5 u6_0 u6_1 u6_2 u6_3 u6_4 u6_5 u7_0 u7_1 u7_2 u7_3 u7_4 u7_5:Value} {fp0 fp1 fp2 fp3 fp4 fp5 fp6 fp7 fp0_0 fp0_1 fp0_2 fp0_3 fp0_4 fp0_5 fp1_0 fp1_1 fp1_2 fp1_3 fp1_4 fp1_5 F0:List Nat} {D0:List Lev}
theorem sc122:ScaT ZMx 122:=⟨⟨_,ZT5,rfl⟩,by kernel_rfl⟩
theorem Zzg (x0:Value) (x1:Int) (h:Zdv x0) (w:World):(Instr.build 187 #[(0,x0),(1,.int .i64 x1)]).run ZMx w=.ok (.agg #[x0,.int .i64 x1,.slice none 0 0]) w:=by obtain ⟨_,_,_,rfl⟩:=h; kernel_rfl
theorem Zzh  (w:World):(ZUr 120 0 #[]).run ZMx w=.ok (.slice (some ⟨w.heap.size,0,none⟩) 0 0) (w.alloc (.cells (ZHu (EB.encs [])) 4)):=by kernel_rfl
theorem Zzi (x0:Bool) (w:World):(ZUr 120 1 #[(0,.bool x0)]).run ZMx w=.ok (.slice (some ⟨w.heap.size,0,none⟩) 1 1) (w.alloc (.cells (ZHu (EB.encs [x0])) 4)):=by kernel_rfl
theorem el4:Zah ZMx 4 (.bool false) 1 1:=by unfold Zah; kernel_rfl
theorem sc123:ScaT ZMx 123:=⟨⟨_,ZUs,rfl⟩,by kernel_rfl⟩
theorem z3:X2 ZMx 3 (.int .i64 0):=by unfold X2; kernel_rfl
def f_impl_lister_from (I:Nat) (a0:List Int×Int×List A8) (B:Int) (L:A8) (G:Int) (K:List A8→Prop):Prop :=
 match I with
 | 0=>False
 | I+1=>(if(a0.2.2.length:Int) > a0.2.1 then K a0.2.2 else(if B=(a0.1.length:Int) then(if G=0 then(Z4 (a0.2.2.length+1) 64∧K (a0.2.2++[L])) else K a0.2.2) else((0≤B∧B < (a0.1.length:Int))∧((a0.1.getD B.toNat ZEu)≠0∧(if Int.tmod (a0.1.getD B.toNat ZEu) 2=1 then Xt (λ(h:A8×(List A8)×Int) O=>(if h.2.2≥0 then((0≤B∧B < 8)∧f_impl_lister_from I (⟨a0.1,a0.2.1,h.2.1⟩:List Int×Int×List A8) (ZHf.wrap (B+1)) (h.1.set B.toNat h.2.2) (ZHf.wrap (G - (ZHf.wrap (h.2.2 * (a0.1.getD B.toNat ZEu))))) (λV=>O (h.1.set B.toNat h.2.2,V,ZHf.wrap (h.2.2 - 1)))) else K h.2.1)) (L,a0.2.2,(if 1 < (if 20 < ZHf.wrap (ZT1 G (a0.1.getD B.toNat ZEu)) then 20 else ZHf.wrap (ZT1 G (a0.1.getD B.toNat ZEu))) then 1 else(if 20 < ZHf.wrap (ZT1 G (a0.1.getD B.toNat ZEu)) then 20 else ZHf.wrap (ZT1 G (a0.1.getD B.toNat ZEu))))) else Xt (λ(A:A8×(List A8)×Int) U=>(if A.2.2≥0 then((0≤B∧B < 8)∧f_impl_lister_from I (⟨a0.1,a0.2.1,A.2.1⟩:List Int×Int×List A8) (ZHf.wrap (B+1)) (A.1.set B.toNat A.2.2) (ZHf.wrap (G - (ZHf.wrap (A.2.2 * (a0.1.getD B.toNat ZEu))))) (λaa=>U (A.1.set B.toNat A.2.2,aa,ZHf.wrap (A.2.2 - 1)))) else K A.2.1)) (L,a0.2.2,(if 20 < ZHf.wrap (ZT1 G (a0.1.getD B.toNat ZEu)) then 20 else ZHf.wrap (ZT1 G (a0.1.getD B.toNat ZEu)))))))))
theorem Zzj (an:Nat):∀ (a0:List Int×Int×List A8) (a1:Int) (a2:A8) (L:Int) {b0:Nat} {u0_0:Value} {u0_2:Value} {fp0:List Nat} {K:List A8→Prop} (h:f_impl_lister_from an a0 a1 a2 L K) (w0:World) (q0:(ZMt TInts a0.1 [u0_0] fp0).holds w0) (ao:(blk b0 187 [u0_0,vI a0.2.1,u0_2]).holds w0) (ap:(own 73 8 u0_2 a0.2.2.length ((EA .i64).encs a0.2.2)).holds w0) (aq:b0∉ZNu (ZFo u0_2)) (ar:∀ b,b∈fp0→b∉b0::ZNu (ZFo u0_2)),
  Calls ZMx 159 #[vQ b0,vI a1,.agg (ZHu (ZMs .i64 a2)),vI L] w0 λe w'=>∃ (m0:List A8) (y0:Value),
   e=.returned (.tuple #[])∧K m0∧(blk b0 187 [u0_0,vI a0.2.1,y0]).holds w'∧(own 73 8 y0 m0.length ((EA .i64).encs m0)).holds w'∧(∀ b,b∈ZNu (ZFo y0)→b∈ZNu (ZFo u0_2)∨w0.heap.size≤b)∧BelO (b0::ZNu (ZFo u0_2)) w0 w':=by
 induction an with
 | zero =>
  intro a0 a1 a2 L b0 u0_0 u0_2 fp0 K h w0 q0 ao ap aq ar;exact False.elim h
 | succ an ax =>
  intro a0 a1 a2 L b0 u0_0 u0_2 fp0 K h w0 q0 ao ap aq ar;rw [f_impl_lister_from.eq_2] at h
  refine cof ZUt rfl 74 Tryz.ntmps159 ?_
  have A:=Ctx.startL w0 (b0::ZNu (ZFo u0_2)) [blk b0 187 [u0_0,vI a0.2.1,u0_2],own 73 8 u0_2 a0.2.2.length ((EA .i64).encs a0.2.2)] [ZMt TInts a0.1 [u0_0] fp0] (by simp only [ZEn,ZGz,or_false,forall_eq_or_imp,forall_eq]; exact⟨ao,ap⟩) (by simp only [ZEn,ZGz,or_false,forall_eq_or_imp,forall_eq]; exact q0) (λay ab O B=>(ZEn.1 ab).elim (λV=>by subst V; exact ZEn.2 (.inl (ZFn.1 B))) (λab=>by obtain rfl:=ZFn.1 ab; exact ZT3 _ B)) (ZEx.2 ⟨(λay ab O B aa=>by obtain rfl:=ZFn.1 ab; exact aq (ZFn.1 B ▸ aa)),ZVj _ _⟩) (λay ab O B=>by obtain rfl:=ZFn.1 ab; exact ar O B)
  refine sr (Ya (v:=.agg (ZHu (ZMs .i64 a2))) A (ZMs .i64 a2) rfl rfl λb4 w6 U A=>dn (ZMu (ZMu ?_)))
  refine cwd 9 Yh [0,1,3,7,15,0,32,96,224,511] [3,4,8] [0,1,2,5,6,7] (λhM8 hM9 w7 U=>?_)
  replace A:=A.grow U;refine bM 0 (vQ b0) rfl hM9 (Zb 10 1) (bF 1 (vQ b0) rfl rfl hM9 (λ_=>by exact J7 rfl) (Zb 10 3) (bF 2 (.pointer (some ⟨b0,2,none⟩)) rfl rfl hM9 (λ_=>by exact Yk 2 ZUc rfl sc122.size rfl rfl) (Zb 10 7) (bL 3 (u0_2) rfl rfl hM8 (λ_ U=>by exact Yc (A.grow U) 1 (u0_2) rfl sc122 rfl rfl) (Zb 10 15) (bL 4 (vI (a0.2.2.length:Int)) rfl rfl hM8 (λ_ U=>by exact Zqc (A.grow U) 2 rfl ZT5 rfl) (Zb 10 31) (bM 5 (vQ b0) rfl hM9 (Zb 10 63) (bF 6 (vQ b0) rfl rfl hM9 (λ_=>by exact J7 rfl) (Zb 10 127) (bF 7 (.pointer (some ⟨b0,1,none⟩)) rfl rfl hM9 (λ_=>by exact Yk 1 ZUc rfl sc3.size rfl rfl) (Zb 10 255) (bL 8 (vI a0.2.1) rfl rfl hM8 (λ_ U=>by exact Yc (A.grow U) 1 (vI a0.2.1) rfl sc3 rfl rfl) (Zb 10 511) (Z0 9 (by decide) (by decide) (by kernel_rfl) (by kernel_rfl) rfl (Ja rfl rfl (done (Z1 (Zd ?_)))))))))))))
  refine Zp rfl (λag=>?_) (λag=>?_)
  ·replace h:=ift h (ct ag);refine ZM3 (Zl ?_)
   exact Zc0 rfl  ⟨a0.2.2,u0_2,rfl,h,(A.getM 1 rfl),(A.getM 2 rfl),(λO B=>(A.mfk 2 rfl O B).elim .inr (λq_=>(ZEn.1 q_).elim (λV=>absurd B (λB=>A.mm 1 2 rfl rfl (by decide) O (ZFn.2 V) B)) .inl)),A.belO⟩ (.inl rfl)
  ·replace h:=Zm h (cf ag);refine ZMy (Zd (ZMu (sr (Za (v:=vI a1) rfl (Za (v:=vQ b0) rfl (Xf rfl (Zu 0 ZUc rfl sc22.size rfl rfl (Z5 A 1 (u0_0) rfl sc22 rfl rfl (Zw A 0 rfl ZNd rfl (Xg rfl rfl (dn ?_)))))))))))
   refine Zp rfl (λah=>?_) (λah=>?_)
   ·replace h:=ift h (ct ah);refine ZMu (sr (Za (v:=vI L) rfl (Xg rfl rfl (dn ?_))))
    refine Zp rfl (λai=>?_) (λai=>?_)
    ·replace h:=ift h (ct ai);refine cwd 7 Yh [0,0,2,6,14,0,32,126,255,511,1023] [4,5] [0,1,2,3] (λau ae bu U=>?_)
     replace A:=A.grow U;refine bM 0 (vQ b0) rfl ae (Zb 11 1) (bM 1 (vQ b0) rfl ae (Zb 11 3) (bF 2 (vQ b0) rfl rfl ae (λ_=>by exact J7 rfl) (Zb 11 7) (bF 3 (.pointer (some ⟨b0,2,none⟩)) rfl rfl ae (λ_=>by exact Yk 2 ZUc rfl sc122.size rfl rfl) (Zb 11 15) (bL 4 (u0_2) rfl rfl au (λ_ U=>by exact Yc (A.grow U) 1 (u0_2) rfl sc122 rfl rfl) (Zb 11 31) (bL 5 (.agg (ZHu (ZMs .i64 a2))) rfl rfl au (λ_ U=>by exact Xa (A.grow U) 0 (ZMs .i64 a2) rfl ag73 rfl rfl rfl) (Zb 11 63) (aO 6 rfl (Yn (sz:=8) A [(0,.agg (ZHu (ZMs .i64 a2)))] ((EA .i64).encs [a2]) rfl (λ_=>Zwi a2 _) rfl (by decide) λbv bw U A=>done (aK (by assumption) (Zb 11 127) (aO 7 rfl ?_)))))))))
     obtain ⟨az,h⟩:=h;refine X1 A 3 ZT5 Zwj rfl (by decide) (by decide) rfl (Zav (A.getM 0 rfl)) (λq hq=>Enc.encs_one' (E:=(EA .i64)) _ q hq) rfl rfl az λam bx A=>?_
     replace A:=Y7 A 3 ((a0.2.2++[a2]).length) ((EA .i64).encs (a0.2.2++[a2])) rfl (by simp) (by first | (simp [ZNm]; done) | simp [ZNm,ZUf])
     refine done (Jc (by decide) (l9:=(Zb 11 255)) (by kernel_rfl) (Z0 8 (by decide) (by decide) (by kernel_rfl) (by kernel_rfl) rfl (Xf rfl (Zu 2 ZUc rfl sc122.size rfl rfl (Zz (v:=am) A 2 [am] [u0_0,vI a0.2.1,am] rfl sc122.size rfl rfl (Zcg (A.getM 3 rfl)) rfl (Xr (X4 (A.getM 3 rfl)) rfl) (ZM2 rfl) rfl λbz A=>done (Z1 (Zd ?_)))))))
     refine ZM3 (Zl ?_)
     exact Zc0 rfl  ⟨a0.2.2++[a2],am,rfl,h,(A.getM 2 rfl),(A.getM 3 rfl),(λO B=>(A.mfk 3 rfl O B).elim .inr (λq_=>(ZEn.1 q_).elim (λV=>absurd B (λB=>A.mm 2 3 rfl rfl (by decide) O (ZFn.2 V) B)) .inl)),A.belO⟩ (.inl rfl)
    ·replace h:=Zm h (cf ai);refine ZMy (Zd ?_)
     refine ZM3 (Zl ?_)
     exact Zc0 rfl  ⟨a0.2.2,u0_2,rfl,h,(A.getM 1 rfl),(A.getM 2 rfl),(λO B=>(A.mfk 2 rfl O B).elim .inr (λq_=>(ZEn.1 q_).elim (λV=>absurd B (λB=>A.mm 1 2 rfl rfl (by decide) O (ZFn.2 V) B)) .inl)),A.belO⟩ (.inl rfl)
   ·replace h:=Zm h (cf ah);refine ZMy (Zd (sr (Za (v:=vQ b0) rfl (Xf rfl (Zu 0 ZUc rfl sc22.size rfl rfl (Z5 A 1 (u0_0) rfl sc22 rfl rfl (Za (v:=vI a1) rfl ?_)))))))
    obtain ⟨⟨be,bh⟩,h⟩:=h;obtain ⟨br,b8,av⟩:=Zx (A.getP 0 rfl) a1.toNat (show a1.toNat < a0.1.length by omega)
    refine Ys (len:=a0.1.length) ZNd sc2.size (tr rfl av) rfl be bh (Yr (vI (a0.1.getD a1.toNat ZEu)) (Ye (A.getP 0 rfl) av a1.toNat (show a1.toNat < a0.1.length by omega)) sc2 rfl (Zc (v:=vI (a0.1.getD a1.toNat ZEu)) rfl (dn (sr (Za (v:=vI L) rfl (Za (v:=vI (a0.1.getD a1.toNat ZEu)) rfl ?_))))))
    obtain ⟨bi,h⟩:=h;refine Zfn rfl rfl bi (Zil rfl rfl (Zc (v:=vI (if 20 < ZHf.wrap (ZT1 L (a0.1.getD a1.toNat ZEu)) then 20 else ZHf.wrap (ZT1 L (a0.1.getD a1.toNat ZEu)))) rfl (dn (ZMu (sr (Za (v:=vI (a0.1.getD a1.toNat ZEu)) rfl (X3 rfl rfl (by decide) (Xg rfl rfl (dn ?_)))))))))
    refine Zp rfl (λaj=>?_) (λaj=>?_)
    ·replace h:=ift h (ct aj);refine Zj (Za (v:=vI (if 20 < ZHf.wrap (ZT1 L (a0.1.getD a1.toNat ZEu)) then 20 else ZHf.wrap (ZT1 L (a0.1.getD a1.toNat ZEu)))) rfl (Zil rfl rfl (Zc (v:=vI (if 1 < (if 20 < ZHf.wrap (ZT1 L (a0.1.getD a1.toNat ZEu)) then 20 else ZHf.wrap (ZT1 L (a0.1.getD a1.toNat ZEu))) then 1 else(if 20 < ZHf.wrap (ZT1 L (a0.1.getD a1.toNat ZEu)) then 20 else ZHf.wrap (ZT1 L (a0.1.getD a1.toNat ZEu))))) rfl (dn (sr (Za (v:=vI (if 1 < (if 20 < ZHf.wrap (ZT1 L (a0.1.getD a1.toNat ZEu)) then 20 else ZHf.wrap (ZT1 L (a0.1.getD a1.toNat ZEu))) then 1 else(if 20 < ZHf.wrap (ZT1 L (a0.1.getD a1.toNat ZEu)) then 20 else ZHf.wrap (ZT1 L (a0.1.getD a1.toNat ZEu))))) rfl (Zc (v:=vI (if 1 < (if 20 < ZHf.wrap (ZT1 L (a0.1.getD a1.toNat ZEu)) then 20 else ZHf.wrap (ZT1 L (a0.1.getD a1.toNat ZEu))) then 1 else(if 20 < ZHf.wrap (ZT1 L (a0.1.getD a1.toNat ZEu)) then 20 else ZHf.wrap (ZT1 L (a0.1.getD a1.toNat ZEu))))) rfl (dn (ZM0 ?_)))))))))
     refine X6 (S:=A8×(List A8)×Int) _ (λG V w_=>∃ (ac:Value),Zt V [(0,vQ b0),(1,vI a1),(3,vI L),(6,vQ b4),(8,vI (a0.1.getD a1.toNat ZEu)),(10,vI G.2.2)]∧Ctx (λc_=>c_∈b0::ZNu (ZFo u0_2)) w0 w_ [blk b4 73 (ZMs .i64 G.1),blk b0 187 [u0_0,vI a0.2.1,ac],own 73 8 ac G.2.1.length ((EA .i64).encs G.2.1)] [ZMt TInts a0.1 [u0_0] fp0]) ?_ (s0:=(a2,a0.2.2,(if 1 < (if 20 < ZHf.wrap (ZT1 L (a0.1.getD a1.toNat ZEu)) then 20 else ZHf.wrap (ZT1 L (a0.1.getD a1.toNat ZEu))) then 1 else(if 20 < ZHf.wrap (ZT1 L (a0.1.getD a1.toNat ZEu)) then 20 else ZHf.wrap (ZT1 L (a0.1.getD a1.toNat ZEu)))))) ?_ h
     ·clear A h;rintro G V b9 bs ca ⟨ac,aw,A⟩ h a4;rw [ue aw];refine ZMu (sr (Za (v:=vI G.2.2) rfl (Zae rfl rfl (dn ?_))))
      refine Zp rfl (λak=>?_) (λak=>?_)
      ·replace h:=ift h (ct ak);refine ZMy (Zd (ZMu (ZM0 (sr (Za (v:=vI a1) rfl (Za (v:=vI G.2.2) rfl ?_))))))
       obtain ⟨⟨bj,bk⟩,h⟩:=h;refine Xs a1.toNat ZNh sc3.size rfl rfl bj bk (by omega) (Zz (v:=vI G.2.2) A 0 [vI G.2.2] (ZMs .i64 (G.1.set a1.toNat G.2.2)) rfl sc3.size rfl rfl rfl rfl rfl (show a1.toNat < 8 by omega) (A8.enc_set _ _ _ (show a1.toNat < 8 by omega)) λcb A=>dn (Zj (Za (v:=vQ b0) rfl (Za (v:=vI a1) rfl (Zo rfl rfl (Yb A 0 (ZMs .i64 (G.1.set a1.toNat G.2.2)) rfl ag73 rfl rfl rfl (Za (v:=vI L) rfl (Za (v:=vI G.2.2) rfl (Za (v:=vI (a0.1.getD a1.toNat ZEu)) rfl (Zal rfl rfl (J4 rfl rfl ?_)))))))))))
       replace A:=A.sM [1,2,0] (M':=[blk b0 187 [u0_0,vI a0.2.1,ac],own 73 8 ac G.2.1.length ((EA .i64).encs G.2.1),blk b4 73 (ZMs .i64 (G.1.set a1.toNat G.2.2))]) (by decide) rfl
       refine Zf [vQ b0,vI (ZHf.wrap (a1+1)),.agg (ZHu (ZMs .i64 (G.1.set a1.toNat G.2.2))),vI (ZHf.wrap (L - (ZHf.wrap (G.2.2 * (a0.1.getD a1.toNat ZEu)))))] _ ZUt rfl rfl rfl (ax (⟨a0.1,a0.2.1,G.2.1⟩:List Int×Int×List A8) (ZHf.wrap (a1+1)) (G.1.set a1.toNat G.2.2) (ZHf.wrap (L - (ZHf.wrap (G.2.2 * (a0.1.getD a1.toNat ZEu))))) h _ (A.getP 0 rfl) (A.getM 0 rfl) (A.getM 1 rfl) (λB=>A.mm 0 1 rfl rfl (by decide) _ (ZT7 _) B) (λO B aa=>(ZEn.1 aa).elim (λV=>A.pdk 0 0 rfl rfl O B (ZFn.2 V)) (λaa=>A.pdk 0 1 rfl rfl O B aa))) ?_
       rintro _ cc ⟨bl,bm,rfl,h,a5,a6,a7,a8⟩;refine rt ?_
       replace A:=A.turnS a8 a5 a6 a7;refine done (Zq (Zd (Zj (Za (v:=vI G.2.2) rfl (J4 rfl rfl (Zc (v:=vI (ZHf.wrap (G.2.2 - 1))) rfl (done ?_)))))))
       exact a4 (G.1.set a1.toNat G.2.2,bl,ZHf.wrap (G.2.2 - 1)) _ _ ⟨bm,(slq rfl),(A.xM [2,0,1] rfl)⟩ h
      ·replace h:=Zm h (cf ak);refine ZM9 (Zk (Zk (Zy ?_)))
       exact Zc0 rfl  ⟨G.2.1,ac,rfl,h,(A.getM 1 rfl),(A.getM 2 rfl),(λO B=>(A.mfk 2 rfl O B).elim .inr (λq_=>(ZEn.1 q_).elim (λV=>absurd B (λB=>A.mm 1 2 rfl rfl (by decide) O (ZFn.2 V) B)) .inl)),A.belO⟩ (.inr rfl)
     ·skip;exact⟨u0_2,(slq rfl),A⟩
    ·replace h:=Zm h (cf aj);refine ZMy (Zd (sr (Za (v:=vI (if 20 < ZHf.wrap (ZT1 L (a0.1.getD a1.toNat ZEu)) then 20 else ZHf.wrap (ZT1 L (a0.1.getD a1.toNat ZEu)))) rfl (Zc (v:=vI (if 20 < ZHf.wrap (ZT1 L (a0.1.getD a1.toNat ZEu)) then 20 else ZHf.wrap (ZT1 L (a0.1.getD a1.toNat ZEu)))) rfl (dn (ZM0 ?_))))))
     refine X6 (S:=A8×(List A8)×Int) _ (λI V w_=>∃ (ad:Value),Zt V [(0,vQ b0),(1,vI a1),(3,vI L),(6,vQ b4),(8,vI (a0.1.getD a1.toNat ZEu)),(10,vI I.2.2)]∧Ctx (λc_=>c_∈b0::ZNu (ZFo u0_2)) w0 w_ [blk b4 73 (ZMs .i64 I.1),blk b0 187 [u0_0,vI a0.2.1,ad],own 73 8 ad I.2.1.length ((EA .i64).encs I.2.1)] [ZMt TInts a0.1 [u0_0] fp0]) ?_ (s0:=(a2,a0.2.2,(if 20 < ZHf.wrap (ZT1 L (a0.1.getD a1.toNat ZEu)) then 20 else ZHf.wrap (ZT1 L (a0.1.getD a1.toNat ZEu))))) ?_ h
     ·clear A h;rintro I V ce bt cg ⟨ad,aw,A⟩ h a9;rw [ue aw];refine ZMu (sr (Za (v:=vI I.2.2) rfl (Zae rfl rfl (dn ?_))))
      refine Zp rfl (λal=>?_) (λal=>?_)
      ·replace h:=ift h (ct al);refine ZMy (Zd (ZMu (ZM0 (sr (Za (v:=vI a1) rfl (Za (v:=vI I.2.2) rfl ?_))))))
       obtain ⟨⟨bn,bo⟩,h⟩:=h;refine Xs a1.toNat ZNh sc3.size rfl rfl bn bo (by omega) (Zz (v:=vI I.2.2) A 0 [vI I.2.2] (ZMs .i64 (I.1.set a1.toNat I.2.2)) rfl sc3.size rfl rfl rfl rfl rfl (show a1.toNat < 8 by omega) (A8.enc_set _ _ _ (show a1.toNat < 8 by omega)) λch A=>dn (Zj (Za (v:=vQ b0) rfl (Za (v:=vI a1) rfl (Zo rfl rfl (Yb A 0 (ZMs .i64 (I.1.set a1.toNat I.2.2)) rfl ag73 rfl rfl rfl (Za (v:=vI L) rfl (Za (v:=vI I.2.2) rfl (Za (v:=vI (a0.1.getD a1.toNat ZEu)) rfl (Zal rfl rfl (J4 rfl rfl ?_)))))))))))
       replace A:=A.sM [1,2,0] (M':=[blk b0 187 [u0_0,vI a0.2.1,ad],own 73 8 ad I.2.1.length ((EA .i64).encs I.2.1),blk b4 73 (ZMs .i64 (I.1.set a1.toNat I.2.2))]) (by decide) rfl
       refine Zf [vQ b0,vI (ZHf.wrap (a1+1)),.agg (ZHu (ZMs .i64 (I.1.set a1.toNat I.2.2))),vI (ZHf.wrap (L - (ZHf.wrap (I.2.2 * (a0.1.getD a1.toNat ZEu)))))] _ ZUt rfl rfl rfl (ax (⟨a0.1,a0.2.1,I.2.1⟩:List Int×Int×List A8) (ZHf.wrap (a1+1)) (I.1.set a1.toNat I.2.2) (ZHf.wrap (L - (ZHf.wrap (I.2.2 * (a0.1.getD a1.toNat ZEu))))) h _ (A.getP 0 rfl) (A.getM 0 rfl) (A.getM 1 rfl) (λB=>A.mm 0 1 rfl rfl (by decide) _ (ZT7 _) B) (λO B aa=>(ZEn.1 aa).elim (λV=>A.pdk 0 0 rfl rfl O B (ZFn.2 V)) (λaa=>A.pdk 0 1 rfl rfl O B aa))) ?_
       rintro _ ci ⟨bp,bq,rfl,h,ba,bb,bc,bd⟩;refine rt ?_
       replace A:=A.turnS bd ba bb bc;refine done (Zq (Zd (Zj (Za (v:=vI I.2.2) rfl (J4 rfl rfl (Zc (v:=vI (ZHf.wrap (I.2.2 - 1))) rfl (done ?_)))))))
       exact a9 (I.1.set a1.toNat I.2.2,bp,ZHf.wrap (I.2.2 - 1)) _ _ ⟨bq,(slq rfl),(A.xM [2,0,1] rfl)⟩ h
      ·replace h:=Zm h (cf al);refine ZM9 (Zk (Zk (Zy ?_)))
       exact Zc0 rfl  ⟨I.2.1,ad,rfl,h,(A.getM 1 rfl),(A.getM 2 rfl),(λO B=>(A.mfk 2 rfl O B).elim .inr (λq_=>(ZEn.1 q_).elim (λV=>absurd B (λB=>A.mm 1 2 rfl rfl (by decide) O (ZFn.2 V) B)) .inl)),A.belO⟩ (.inr rfl)
     ·skip;exact⟨u0_2,(slq rfl),A⟩
def Za7 (G:List Int) (B:Int) (A:Int) (K:List A8→Bool→Prop):Prop :=
 (if B≥0 then f_impl_lister_from 9 (⟨G,A,[]⟩:List Int×Int×List A8) 0 ZMz B (λh=>K h (decide ((h.length:Int)≤A))) else K [] (decide (0≤A)))
theorem Zkx (a0:List Int) (a1:Int) (L:Int)  {K:List A8→Bool→Prop} (h:Za7 a0 a1 L K) (w0:World) (q0:TInts.rep a0 [u0_0] fp0 w0) :
  Calls ZMx 100 #[u0_0,vI a1,vI L] w0 λe w'=>∃ (r0:List A8) (z0_0:Value) (ae:List Nat) (r1:Bool),
   e=.returned (.tuple #[z0_0,.bool r1])∧K r0 r1∧(ZM8 (ZT0 73 ((EA .i64).tr)) r0 [z0_0] ae).holds w'∧(∀ b,b∈ae→w0.heap.size≤b)∧Bel w0 w':=by
 unfold Za7 at h
 refine cof Tryz.func100 rfl 30 Tryz.ntmps100 ?_
 have A:=ZNf (X:=Nox) w0 [ZMt TInts a0 [u0_0] fp0] (al1 q0);refine sr (Zc (v:=.slice none 0 0) rfl (Zc (v:=.bool false) rfl (dn (sr (Za (v:=u0_0) rfl (Za (v:=vI L) rfl (J8 [(0,u0_0),(1,vI L)] rfl (Zzg u0_0 L (Zat (A.getP 0 rfl)) _) (Ya (v:=.agg #[u0_0,vI L,.slice none 0 0]) A [u0_0,vI L,.slice none 0 0] rfl rfl λb2 w4 B A=>Zc (v:=vQ b2) rfl (dn (ZMu (sr (Za (v:=vI a1) rfl (Zae rfl rfl (dn ?_))))))))))))))
 refine Zp rfl (λad=>?_) (λad=>?_)
 ·replace h:=ift h (ct ad);refine Zj (Za (v:=vQ b2) rfl (J8 [] rfl (Zhq   _) (Za (v:=vI a1) rfl ?_)))
  replace A:=A.pushNil 73 8;replace A:=A.sM [1,0] (M':=[blk b2 187 [u0_0,vI L,.slice none 0 0],own 73 8 (.slice none 0 0) 0 ((EA .i64).encs [])]) (by decide) rfl
  refine Zf [vQ b2,vI 0,.agg (ZHu (ZMs .i64 ZMz)),vI a1] _ ZUt rfl rfl rfl (Zzj 9 (⟨a0,L,[]⟩:List Int×Int×List A8) 0 ZMz a1 h _ (A.getP 0 rfl) (A.getM 0 rfl) (A.getM 1 rfl) (λac=>A.mm 0 1 rfl rfl (by decide) _ (ZT7 _) ac) (λb_ ac V=>(ZEn.1 V).elim (λe_=>A.pdk 0 0 rfl rfl b_ ac (ZFn.2 e_)) (λV=>A.pdk 0 1 rfl rfl b_ ac V))) ?_
  rintro _ w9 ⟨U,O,rfl,h,ag,ah,ai,aj⟩;refine rt ?_
  replace A:=A.turnS aj ag ah ai;refine dn (ZMu ?_)
  refine cwd 12 Yh [0,1,3,7,0,16,48,112,240,0,1008,15,4095] [3,7,8] [0,1,2,4,5,6,9,10,11] (λaa G ak B=>?_)
  replace A:=A.grow B;refine bM 0 (vQ b2) rfl G (Zb 13 1) (bF 1 (vQ b2) rfl rfl G (λ_=>by exact J7 rfl) (Zb 13 3) (bF 2 (.pointer (some ⟨b2,2,none⟩)) rfl rfl G (λ_=>by exact Yk 2 ZUc rfl sc122.size rfl rfl) (Zb 13 7) (bL 3 (O) rfl rfl aa (λ_ B=>by exact Yc (A.grow B) 0 (O) rfl sc122 rfl rfl) (Zb 13 15) (bM 4 (vQ b2) rfl G (Zb 13 31) (bF 5 (vQ b2) rfl rfl G (λ_=>by exact J7 rfl) (Zb 13 63) (bF 6 (.pointer (some ⟨b2,2,none⟩)) rfl rfl G (λ_=>by exact Yk 2 ZUc rfl sc122.size rfl rfl) (Zb 13 127) (bL 7 (O) rfl rfl aa (λ_ B=>by exact Yc (A.grow B) 0 (O) rfl sc122 rfl rfl) (Zb 13 255) (bL 8 (vI (U.length:Int)) rfl rfl aa (λ_ B=>by exact Zqc (A.grow B) 1 rfl ZT5 rfl) (Zb 13 511) (bM 9 (vI L) rfl G (Zb 13 1023) (bF 10 (.bool (decide ((U.length:Int)≤L))) rfl rfl G (λ_=>by exact Zo9 rfl rfl) (Zb 13 2047) (bA 11 (O) rfl G (Zb 13 4095) (Z0 12 (by decide) (by decide) (by kernel_rfl) (by kernel_rfl) rfl (Zc (v:=.bool (decide ((U.length:Int)≤L))) rfl (done (Z1 (Zd (ZM3 ?_)))))))))))))))))
  exact Xv rfl (Ze rfl) (Ze rfl) ⟨U,O,(ZNu (ZFo O)),decide ((U.length:Int)≤L),rfl,h,(Xx (A.getM 1 rfl)),(Yt A 1 rfl),A.below⟩ (.inl rfl)
 ·replace h:=Zm h (cf ad);refine ZMy (Zd (ZMu ?_))
  refine cwd 12 Yh [0,1,3,7,0,16,48,112,240,0,1008,15,4095] [3,7,8] [0,1,2,4,5,6,9,10,11] (λab I al B=>?_)
  replace A:=A.grow B;refine bM 0 (vQ b2) rfl I (Zb 13 1) (bF 1 (vQ b2) rfl rfl I (λ_=>by exact J7 rfl) (Zb 13 3) (bF 2 (.pointer (some ⟨b2,2,none⟩)) rfl rfl I (λ_=>by exact Yk 2 ZUc rfl sc122.size rfl rfl) (Zb 13 7) (bL 3 (.slice none 0 0) rfl rfl ab (λ_ B=>by exact Yc (A.grow B) 0 (.slice none 0 0) rfl sc122 rfl rfl) (Zb 13 15) (bM 4 (vQ b2) rfl I (Zb 13 31) (bF 5 (vQ b2) rfl rfl I (λ_=>by exact J7 rfl) (Zb 13 63) (bF 6 (.pointer (some ⟨b2,2,none⟩)) rfl rfl I (λ_=>by exact Yk 2 ZUc rfl sc122.size rfl rfl) (Zb 13 127) (bL 7 (.slice none 0 0) rfl rfl ab (λ_ B=>by exact Yc (A.grow B) 0 (.slice none 0 0) rfl sc122 rfl rfl) (Zb 13 255) (bL 8 (vI 0) rfl rfl ab (λ_ B=>by exact Zek ZT5 rfl) (Zb 13 511) (bM 9 (vI L) rfl I (Zb 13 1023) (bF 10 (.bool (decide (0≤L))) rfl rfl I (λ_=>by exact Zo9 rfl rfl) (Zb 13 2047) (bA 11 (.slice none 0 0) rfl I (Zb 13 4095) (Z0 12 (by decide) (by decide) (by kernel_rfl) (by kernel_rfl) rfl (Zc (v:=.bool (decide (0≤L))) rfl (done (Z1 (Zd (ZM3 ?_)))))))))))))))))
  exact Xv rfl (Ze rfl) (Ze rfl) ⟨[],.slice none 0 0,[],decide (0≤L),rfl,h,(Zhl _ _ _),(λb hb=>absurd hb (by simp)),A.below⟩ (.inl rfl)
def Ze4 (G:A8) (K:Int→Prop):Prop :=
 Z9 (λB (h:Int) A=>A (ZHf.wrap (h+(G.get B)))) (λ(h:Int)=>K h) 8 0 0
theorem Zrr (I:A8)  {K:Int→Prop} (h:Ze4 I K) (w0:World)  :
  Calls ZMx 137 #[.agg (ZHu (ZMs .i64 I))] w0 λe w'=>∃ (r0:Int),
   e=.returned (vI r0)∧K r0∧Bel w0 w':=by
 unfold Ze4 at h
 refine cof Tryz.func137 rfl 15 Tryz.ntmps137 ?_
 have G:=ZNf (X:=Nox) w0 [] (by simp)
 refine sr (Ya (v:=.agg (ZHu (ZMs .i64 I))) G (ZMs .i64 I) rfl rfl λb1 w3 ac G=>Zc (v:=vI 0) rfl (dn (sr (Zc (v:=vI 0) rfl (dn (ZMu (sr (Yb G 0 (ZMs .i64 I) rfl ag73 rfl rfl rfl (Za (v:=vI 0) rfl (dn (ZM0 ?_)))))))))))
 refine Yp (S:=Int) _ _ (λB A U w_=>Zt U [(3,vI A),(6,.agg (ZHu (ZMs .i64 I))),(7,vI (B:Int))]∧Ctx Nox w0 w_ [] []) 8 ?_ ?_ (s0:=0) ?_ h
 ·clear G h;rintro B A U ad ab aa L ⟨O,G⟩ h V;rw [ue O];refine sr (Zn rfl rfl (dn (ZMu (Z3 rfl (decide_eq_true (by omega)) (ZMy (Zd (ZMu (ZM0 (sr (Zjs (vI (I.get B)) ZNh rfl rfl (ZNb _) (by omega) sc3 (A8.enc_get _ _ L) (Zc (v:=vI (I.get B)) rfl (dn (Zj (Za (v:=vI A) rfl (Za (v:=vI (I.get B)) rfl (Zo rfl rfl (Zc (v:=vI (ZHf.wrap (A+(I.get B)))) rfl (done (Zq (Zd (Zj (Zo rfl rfl (Za (v:=vI (ZHf.wrap ((B:Int)+1))) rfl (done ?_))))))))))))))))))))))))
  exact V (ZHf.wrap (A+(I.get B))) _ _ ⟨(sl ⟨rfl,rfl,(tr rfl (congrArg _ (Z7 L (by decide)))),trivial⟩),G⟩ h
 ·clear G h;rintro A U ae aa ⟨O,G⟩ h;rw [ue O];refine sr (Zn rfl rfl (dn (ZMu (Z2 rfl (decide_eq_false (by omega)) ?_))))
  refine ZM9 (Zk (Zk (Zy ?_)))
  refine Zd (sr (Za (v:=vI A) rfl (Zc (v:=vI A) rfl (dn (ZM3 ?_)))))
  exact Zi rfl (Ze rfl) ⟨A,rfl,h,G.below⟩ (.inl rfl)
 ·skip;exact⟨(slq rfl),(G.xM [] rfl)⟩
def Zgf (L:Vc.Lvl) (I:Int) (K:List Bool→Prop):Prop :=
 Z9 (λB (h:(List Bool)) A=>Ze4 (L.list.getD B ZEu) (λG=>(Z4 (h.length+1) 1∧A (h++[decide (G≥I)])))) (λ(h:(List Bool))=>K h) L.list.length 0 []
theorem Zzk (a0:Vc.Lvl) (L:Int)  {K:List Bool→Prop} (h:Zgf a0 L K) (w0:World) (q0:TLvl.rep a0 [u0_0,u0_1,u0_2,u0_3,u0_4,u0_5] fp0 w0) (al:(blk b0 125 [u0_0,u0_1,u0_2,u0_3,u0_4,u0_5]).holds w0) :
  Calls ZMx 81 #[vQ b0,vI L] w0 λe w'=>∃ (r0:List Bool) (z0_0:Value) (ab:List Nat),
   e=.returned (z0_0)∧K r0∧(ZM8 (ZT0 4 EB.tr) r0 [z0_0] ab).holds w'∧(∀ b,b∈ab→w0.heap.size≤b)∧Bel w0 w':=by
 unfold Zgf at h
 refine cof Tryz.func81 rfl 27 Tryz.ntmps81 ?_
 have A:=ZNf (X:=Nox) w0 [ZMt TLvl a0 [u0_0,u0_1,u0_2,u0_3,u0_4,u0_5] fp0,blk b0 125 [u0_0,u0_1,u0_2,u0_3,u0_4,u0_5]] (alc q0 (al1 al));have am:=(A.getP 0 rfl);have av:=Zrl am;replace A:=A.derive 0 rfl (ZMt ((EA .i64).ty.sl) a0.list [u0_0] fp0) (λ_=>av.1) (λ_ an=>an)
 obtain ⟨b6,rfl,ag,ao⟩:=Zq7 av.2;replace A:=A.derive 1 rfl (mapS b6 a0.place) (λ_=>ao) (λc_ ap=>by obtain rfl:=ZFn.1 ap; exact ag)
 refine sr (Zc (v:=.slice none 0 0) rfl (dn (sr (Yn (sz:=1) A [] (EB.encs []) rfl (λ_=>Zzh  _) rfl (by decide) λac aw ad A=>Zc (v:=.slice (some ⟨ac,0,none⟩) 0 0) rfl (dn (ZMu (sr (Za (v:=vQ b0) rfl (Xf rfl (Zu 0 ZUa rfl sc122.size rfl rfl (Zc2 (u0_0) (A.getP 3 rfl) sc122 rfl rfl (Zw A 1 rfl ZT5 rfl (Za (v:=vI 0) rfl (dn (ZM0 ?_)))))))))))))))
 have ah:a0.list.length≤9223372036854775807:=Y5 (A.getP 1 rfl);refine Yp (S:=(List Bool)) _ _ (λB I e_ w_=>∃ (G:Value),Zt e_ [(1,vI L),(5,G),(12,u0_0),(13,vI (a0.list.length:Int)),(14,vI (B:Int))]∧Ctx Nox w0 w_ [own 4 1 G I.length (EB.encs I)] [ZMt ((EA .i64).ty.sl) a0.list [u0_0] fp0,ZMt TLvl a0 [u0_0,.map (some b6),u0_2,u0_3,u0_4,u0_5] fp0,blk b0 125 [u0_0,.map (some b6),u0_2,u0_3,u0_4,u0_5]]) a0.list.length ?_ ?_ (s0:=[]) ?_ h
 ·clear A h;rintro B I e_ ax ar aq U ⟨G,V,A⟩ h ai;rw [ue V];refine sr (Zn rfl rfl (dn (ZMu (Z3 rfl (decide_eq_true (by omega)) (ZMy (Zd (ZMu (ZM0 (sr ?_)))))))))
  obtain ⟨au,ay,aa⟩:=Zx (A.getP 0 rfl) B U;refine Ys (len:=a0.list.length) ZT5 ag73.size (tr rfl aa) rfl (ZNb _) (ZNt.2 U) (Je (ZMs .i64 (a0.list.getD B ZEu)) (Ye (A.getP 0 rfl) aa B U) ag73 rfl rfl (Yl A (ZMs .i64 ZMz) z73 rfl λaz a2 ad A=>Zz (v:=.agg (ZHu (ZMs .i64 (a0.list.getD B ZEu)))) A 0 (ZMs .i64 (a0.list.getD B ZEu)) (ZMs .i64 (a0.list.getD B ZEu)) rfl ag73.size rfl rfl rfl rfl rfl (ZM2 rfl) rfl λa3 A=>dn (Zj (Za (v:=G) rfl (Yb A 0 (ZMs .i64 (a0.list.getD B ZEu)) rfl ag73 rfl rfl rfl (Zf [.agg (ZHu (ZMs .i64 (a0.list.getD B ZEu)))] _ Tryz.func137 rfl rfl rfl (Zrr (a0.list.getD B ZEu) h _) ?_))))))
  rintro _ a4 ⟨O,rfl,h,aj⟩;refine rt ?_
  replace A:=A.grow aj;refine Za (v:=vI L) rfl (Zae rfl rfl (Yn (sz:=1) A [(0,.bool (decide (O≥L)))] (EB.encs [decide (O≥L)]) rfl (λ_=>Zzi (decide (O≥L)) _) rfl (by decide) λa5 a6 ad A=>?_))
  obtain ⟨ak,h⟩:=h;refine X1 A 2 Tryz.underlying120 el4 rfl (by decide) (by decide) rfl (Zav (A.getM 0 rfl)) (λq hq=>Enc.encs_one' (E:=EB) _ q hq) rfl rfl ak λae a7 A=>?_
  replace A:=Y7 A 2 ((I++[decide (O≥L)]).length) (EB.encs (I++[decide (O≥L)])) rfl (by simp) (by first | (simp [ZNm]; done) | simp [ZNm,ZUf])
  refine Zc (v:=ae) rfl (done (Zq (Zd (Zj (Zo rfl rfl (Za (v:=vI (ZHf.wrap ((B:Int)+1))) rfl (done ?_)))))))
  exact ai (I++[decide (O≥L)]) _ _ ⟨ae,(sl ⟨rfl,rfl,rfl,rfl,(tr rfl (congrArg _ (Z7 U ah))),trivial⟩),(A.xM [2] rfl)⟩ h
 ·clear A h;rintro I e_ a8 aq ⟨G,V,A⟩ h;rw [ue V];refine sr (Zn rfl rfl (dn (ZMu (Z2 rfl (decide_eq_false (by omega)) ?_))))
  refine ZM9 (Zk (Zk (Zy ?_)))
  refine Zd (sr (Za (v:=G) rfl (Zc (v:=G) rfl (dn (ZM3 ?_)))))
  exact Zi rfl (Ze rfl) ⟨I,G,(ZNu (ZFo G)),rfl,h,(Xx (A.getM 0 rfl)),(Yt A 0 rfl),A.below⟩ (.inl rfl)
 ·skip;exact⟨.slice (some ⟨ac,0,none⟩) 0 0,(slq rfl),(A.sP [1,2,3] rfl)⟩
def Zb9 (I:Vc.Lvl) (G:List (A8×Int)) (K:List Int→Prop):Prop :=
 ((0≤(I.list.length:Int)∧(I.list.length:Int) * 8≤281474976710656)∧Zb5 (λ(h:A8×Int) (A:(List Int)) B=>((0≤(Y8 I.place h.1).getD 0∧(Y8 I.place h.1).getD 0 < (A.length:Int))∧B (A.set (((Y8 I.place h.1).getD 0).toNat) h.2))) (λ(A:(List Int))=>K A) G.length G (ZEp ((I.list.length:Int).toNat) (0:Int)))
theorem Znj (a0:Vc.Lvl) (V:List (A8×Int))  {K:List Int→Prop} (h:Zb9 a0 V K) (w0:World) (q0:TLvl.rep a0 [u0_0,u0_1,u0_2,u0_3,u0_4,u0_5] fp0 w0) (aw:(blk b0 125 [u0_0,u0_1,u0_2,u0_3,u0_4,u0_5]).holds w0) (q1:(mapS b1 V).holds w0) :
  Calls ZMx 85 #[vQ b0,.map (some b1)] w0 λe w'=>∃ (r0:List Int) (z0_0:Value) (ak:List Nat),
   e=.returned (z0_0)∧K r0∧(ZM8 (ZT0 2 (eI.tr)) r0 [z0_0] ak).holds w'∧(∀ b,b∈ak→w0.heap.size≤b)∧Bel w0 w':=by
 unfold Zb9 at h
 refine cof Tryz.func85 rfl 31 Tryz.ntmps85 ?_
 have B:=ZNf (X:=Nox) w0 [ZMt TLvl a0 [u0_0,u0_1,u0_2,u0_3,u0_4,u0_5] fp0,blk b0 125 [u0_0,u0_1,u0_2,u0_3,u0_4,u0_5],mapS b1 V] (alc q0 (alc aw (al1 q1)));have ax:=(B.getP 0 rfl);have a8:=Zrl ax;replace B:=B.derive 0 rfl (ZMt ((EA .i64).ty.sl) a0.list [u0_0] fp0) (λ_=>a8.1) (λ_ ay=>ay)
 obtain ⟨b7,rfl,ap,az⟩:=Zq7 a8.2;replace B:=B.derive 1 rfl (mapS b7 a0.place) (λ_=>az) (λc_ a2=>by obtain rfl:=ZFn.1 a2; exact ap)
 refine sr (Zc (v:=.slice none 0 0) rfl (dn (sr (Za (v:=vQ b0) rfl (Xf rfl (Zu 0 ZUa rfl sc122.size rfl rfl (Zc2 (u0_0) (B.getP 3 rfl) sc122 rfl rfl (Zw B 1 rfl ZT5 rfl ?_))))))))
 obtain ⟨aa,h⟩:=h;refine Zcf (sz:=1) B (eI.encs (ZEp ((a0.list.length:Int).toNat) (0:Int))) ZNd el2 (tr rfl (congrArg (Value.int .i64) (Int.toNat_of_nonneg aa.1).symm)) (tr rfl (congrArg (Value.int .i64) (Int.toNat_of_nonneg aa.1).symm)) (by omega) (by omega) (Zb4 (E:=eI) _ _) λal a9 I B=>?_
 replace B:=Y7 B 0 ((ZEp ((a0.list.length:Int).toNat) (0:Int)).length) (eI.encs (ZEp ((a0.list.length:Int).toNat) (0:Int))) rfl (by simp) rfl
 refine Zc (v:=al) rfl (dn (ZMu (sr (Za (v:=.map (some b1)) rfl (Zhf B 4 rfl Tryz.underlying115 rfl λam ab ac ba I ad ai B=>dn (ZM0 ?_))))))
 refine Zhj (S:=(List Int)) _ _ (λan G e_ w_=>∃ (L:Value),∃ (ae:Option MapEntry),Zt e_ [(0,vQ b0),(5,L),(15,vQ am)]∧Ctx Nox w0 w_ [itI (kvA .i64) (vvI .i64) am b1 ab ac ae an,own 2 1 L G.length (eI.encs G)] [Zbc b1 ab ac,mapS b7 a0.place,ZMt ((EA .i64).ty.sl) a0.list [u0_0] fp0,ZMt TLvl a0 [u0_0,.map (some b7),u0_2,u0_3,u0_4,u0_5] fp0,blk b0 125 [u0_0,.map (some b7),u0_2,u0_3,u0_4,u0_5],mapS b1 V]) ?_ (l0:=V) (s0:=(ZEp ((a0.list.length:Int).toNat) (0:Int))) ?_ h
 ·clear B h;rintro an G e_ bb a6 bc ⟨L,ae,a3,B⟩ h aq;rw [ue a3];refine sr ?_
  refine Zhg B 0 0 rfl rfl ad ai rfl (λar=>?_) (λA ao aj bd ag au av B=>?_)
  ·replace h:=h.1 ar;refine Yj (v:=.bool false) rfl rfl (dn (ZMu (Z2 rfl rfl ?_)))
   refine ZM9 (Zk (Zk (Zy ?_)))
   refine Zd (sr (Za (v:=L) rfl (Zc (v:=L) rfl (dn (ZM3 ?_)))))
   exact Zi rfl (Ze rfl) ⟨G,L,(ZNu (ZFo L)),rfl,h,(Xx (B.getM 1 rfl)),(Yt B 1 rfl),B.below⟩ (.inl rfl)
  ·replace h:=h.2 A ao ag;refine Yj (v:=.bool true) rfl rfl (dn (ZMu (Z3 rfl rfl (ZMy (Zd (ZM0 (sr (Zhh B 0 0 A rfl rfl ad rfl au av (Yj (v:=.agg (ZHu (ZMs .i64 A.1))) rfl rfl (Yj (v:=vI A.2) rfl rfl (Yl B (ZMs .i64 ZMz) z73 rfl λbe bh I B=>Zz (v:=.agg (ZHu (ZMs .i64 A.1))) B 0 (ZMs .i64 A.1) (ZMs .i64 A.1) rfl ag73.size rfl rfl rfl rfl rfl (ZM2 rfl) rfl λbi B=>Zc (v:=vI A.2) rfl (dn ?_))))))))))))
   refine cwd 8 Yh [0,0,2,6,14,0,62,0,255,511] [4,5,6] [0,1,2,3,7] (λU O bj I=>?_)
   replace B:=B.grow I;refine bM 0 (L) rfl O (Zb 10 1) (bM 1 (vQ b0) rfl O (Zb 10 3) (bF 2 (vQ b0) rfl rfl O (λ_=>by exact J7 rfl) (Zb 10 7) (bF 3 (.pointer (some ⟨b0,1,none⟩)) rfl rfl O (λ_=>by exact Yk 1 ZUa rfl sc123.size rfl rfl) (Zb 10 15) (bL 4 (.map (some b7)) rfl rfl U (λ_ I=>by exact Zds (.map (some b7)) ((B.grow I).getP 4 rfl) sc123 rfl rfl) (Zb 10 31) (bL 5 (.agg (ZHu (ZMs .i64 A.1))) rfl rfl U (λ_ I=>by exact Xa (B.grow I) 0 (ZMs .i64 A.1) rfl ag73 rfl rfl rfl) (Zb 10 63) (bL 6 (vI ((Y8 a0.place A.1).getD 0)) rfl rfl U (λ_ I=>by exact Zpr A.1 0 ((B.grow I).getP 1 rfl) Jt ZUs z3 rfl rfl) (Zb 10 127) (bM 7 (vI A.2) rfl O (Zb 10 255) (Z0 8 (by decide) (by decide) (by kernel_rfl) (by kernel_rfl) rfl ?_))))))))
   obtain ⟨⟨a4,a5⟩,h⟩:=h;obtain ⟨a7,bk,ah⟩:=Jf (B.getM 2 rfl) (Nat.lt_of_le_of_lt (Nat.zero_le _) (show ((Y8 a0.place A.1).getD 0).toNat < G.length by omega))
   refine Js (((Y8 a0.place A.1).getD 0).toNat * 1) ZNd sc2.size (tr rfl ah) rfl a4 a5 rfl (Zdo (v:=vI A.2) B 2 [vI A.2] (eI.encs (G.set (((Y8 a0.place A.1).getD 0).toNat) A.2)) rfl ah sc2.size rfl rfl rfl rfl rfl (by rw [Enc.encs_len]; exact Za3 (sz:=1) (show ((Y8 a0.place A.1).getD 0).toNat < G.length by omega)) (Zdp _ _ _ (show ((Y8 a0.place A.1).getD 0).toNat < G.length by omega)) λbl B=>?_)
   replace B:=Y7 B 2 ((G.set (((Y8 a0.place A.1).getD 0).toNat) A.2).length) (eI.encs (G.set (((Y8 a0.place A.1).getD 0).toNat) A.2)) rfl (by simp) rfl
   refine done (Z1 (Zq ?_))
   exact aq A ao (G.set (((Y8 a0.place A.1).getD 0).toNat) A.2) _ _ ag ⟨L,(some aj),(slq rfl),(B.xM [1,2] rfl)⟩ h
 ·skip;exact⟨al,none,(slq rfl),B⟩
end Go.Proofs.YtaagfepgbofmlaaGreat
set_option maxRecDepth 4000
set_option maxHeartbeats 4000000
namespace Go.Proofs.YtaagfepgbofmlaaGreat
open Go Go.RowKit Vc
theorem Zzl:X2 ZMx 117 (.pointer none):=by unfold X2; kernel_rfl
theorem bsc196:ScaT ZMx 196:=⟨⟨_,ZU2,rfl⟩,by kernel_rfl⟩
theorem bsc66:ScaT ZMx 66:=⟨⟨_,Tryz.underlying66,rfl⟩,by kernel_rfl⟩
theorem bsc22:ScaT ZMx 22:=⟨⟨_,ZNd,rfl⟩,by kernel_rfl⟩
theorem bsc122:ScaT ZMx 122:=⟨⟨_,ZT5,rfl⟩,by kernel_rfl⟩
theorem bsc123:ScaT ZMx 123:=⟨⟨_,ZUs,rfl⟩,by kernel_rfl⟩
theorem Zrs:KeyT ZMx 2 (vvI .i64):=Zyn Tryz.underlying2
theorem Zzm:ScaT ZMx 3:=⟨⟨_,Tryz.underlying3,rfl⟩,by kernel_rfl⟩
theorem Zzn:KeyT ZMx 73 (kvA .i64):=Zmd ZNh Tryz.underlying3 Zzm
theorem bag73:AggT ZMx 73 8:=⟨⟨_,ZNh,rfl⟩,by kernel_rfl⟩
theorem Zzo:X2 ZMx 73 (.agg (ZHu (ZMs .i64 ZMz))):=by unfold X2; kernel_rfl
theorem Zzp:ZMx.follows .mixedOrders=true:=by kernel_rfl
theorem Zzq (x0:Nat) (w:World):(Instr.build 125 #[(1,.map (some x0))]).run ZMx w=.ok (.agg #[.slice none 0 0,.map (some x0),.slice none 0 0,.slice none 0 0,.slice none 0 0,.slice none 0 0]) w:=by kernel_rfl
def Znk (l:List A8) (p:List (A8×Int)):Prop:=Z9 (λi (s:List (A8×Int)) nx=>nx (Yo s (l.getD i ZEu) (i:Int))) (λs=>s=p) l.length 0 []
def Zd9 (C:Cx) (ds:List Int) (n:Int):Prop:=Za7 ds n 120 (λl _=>l=C.LV n∧Znk l (C.PL n))
theorem Zrt (C:Cx) (a:Alg) (n:Int) {cb ab mb:Nat} {I O:Value} {fpA:List Nat} {D:List Lev} {F:List Nat} (h:Zd9 C a.degrees n) (w0:World)
  (qc:(blk cb 198 [.pointer (some ⟨ab,0,none⟩),.map (some mb)]).holds w0) (qa:(blk ab 32 [I,O]).holds w0) (q0:TAlg.rep a [I,O] fpA w0)
  (qm:(Z6 (vvI .i64) vvP mb (D.map Lev.key)).holds w0) (qp:(cpP C D F).holds w0) (hd:cb≠mb∧ab≠mb∧mb∉fpA∧mb∉F) :
  Calls ZMx 115 #[.pointer (some ⟨cb,0,none⟩),.int .i64 n] w0 λe w'=>∃ (ev:Lev) (new:List Lev) (F1:List Nat),
   e=.returned (vvP ev.b)∧ev.n=n∧ev∈D++new∧(Z6 (vvI .i64) vvP mb ((D++new).map Lev.key)).holds w'∧(cpP C (D++new) (F++F1)).holds w'∧(lvB 125 new).holds w' ∧
   (∀ b,b∈new.map (·.b)→w0.heap.size≤b)∧(∀ b,b∈F1→w0.heap.size≤b)∧(∀ b,b∈new.map (·.b)→b∉F1)∧(∀ e,e∈new→e.c3=false)∧BelB mb w0 w':=by
 refine Zlu (args:=[.pointer (some ⟨cb,0,none⟩),.int .i64 n]) ZU3 rfl 63 Tryz.ntmps115 (ZM2 rfl) ?_
 have A:=Ctx.start1 w0 mb (it:=Z6 (vvI .i64) vvP mb (D.map Lev.key)) rfl [cpP C D F,blk cb 198 [.pointer (some ⟨ab,0,none⟩),.map (some mb)],blk ab 32 [I,O],ZMt TAlg a [I,O] fpA] qm
  (by simp only [ZEn,ZGz,or_false,forall_eq_or_imp,forall_eq]; exact⟨qp,qc,qa,q0⟩)
  (by
   simp only [ZEn,ZGz,or_false,forall_eq_or_imp,forall_eq];exact⟨λc hc e=>hd.2.2.2 (e ▸ hc),λc hc e=>hd.1 ((ZFn.1 hc).symm.trans e),λc hc e=>hd.2.1 ((ZFn.1 hc).symm.trans e),λc hc e=>hd.2.2.1 (e ▸ hc)⟩)
 refine sr ?_
 refine Zc (v:=.pointer none) rfl ?_
 refine dn ?_
 refine ZMu ?_
 refine sr ?_
 refine Za (v:=.pointer (some ⟨cb,0,none⟩)) rfl ?_
 refine Xf rfl ?_
 refine Zu 1 ZUv rfl bsc196.size rfl rfl ?_
 refine Yr (.map (some mb)) (Jq (off:=1) (sz:=1) (A.getP 1 rfl) rfl) bsc196 rfl ?_
 refine Za (v:=.int .i64 n) rfl ?_
 refine Zy9 n (.pointer none) (A.getM 0 rfl) Zrs ZU2 Zzl rfl rfl (λb hg=>?_) (λhg=>?_)
 ·refine Za (v:=.tuple #[vvP b,.bool true]) rfl ?_
  refine Yj (v:=vvP b) rfl rfl ?_
  refine Yj (v:=.bool true) rfl rfl ?_
  refine Zc (v:=vvP b) rfl ?_
  refine Zc (v:=.bool true) rfl ?_
  refine dn ?_
  refine sr ?_
  refine Za (v:=.bool true) rfl ?_
  refine dn ?_
  refine Z3 rfl rfl ?_
  refine ZMu ?_
  refine Zj ?_
  refine Za (v:=vvP b) rfl ?_
  refine Zc (v:=vvP b) rfl ?_
  refine dn ?_
  refine ZM3 ?_
  obtain ⟨ev,he,hn,rfl⟩:=Zy7 hg;refine Zl (Zi (fn:=Tryz.f115) (v:=vvP ev.b) rfl (Ze rfl) ⟨ev,[],[],rfl,hn,by simpa using he,?_,?_,Zrm _ _,by simp,by simp,by simp,by simp,A.belB⟩ (.inl rfl))
  ·rw [ZUi]; exact A.getM 0 rfl
  ·rw [ZUi,ZUi]; exact A.getP 0 rfl
 ·refine Za (v:=.tuple #[.pointer none,.bool false]) rfl ?_
  refine Yj (v:=.pointer none) rfl rfl ?_
  refine Yj (v:=.bool false) rfl rfl ?_
  refine Zc (v:=.pointer none) rfl ?_
  refine Zc (v:=.bool false) rfl ?_
  refine dn ?_
  refine sr ?_
  refine Za (v:=.bool false) rfl ?_
  refine dn ?_
  refine Z2 rfl rfl ?_
  refine ZMy ?_
  refine Zd ?_
  refine sr ?_
  refine Zhe A (kvA .i64) (vvI .i64) λpb w1 G A=>?_
  refine J8 [(1,.map (some pb))] rfl (Zzq pb _) ?_
  refine Ya (v:=.agg #[.slice none 0 0,.map (some pb),.slice none 0 0,.slice none 0 0,.slice none 0 0,.slice none 0 0]) A [.slice none 0 0,.map (some pb),.slice none 0 0,.slice none 0 0,.slice none 0 0,.slice none 0 0] rfl rfl λbx w2 G A=>?_
  refine Zc (v:=.pointer (some ⟨bx,0,none⟩)) rfl ?_
  refine dn ?_
  refine sr ?_
  refine Za (v:=.pointer (some ⟨bx,0,none⟩)) rfl ?_
  refine Za (v:=.pointer (some ⟨cb,0,none⟩)) rfl ?_
  refine Xf rfl ?_
  refine Zu 0 ZUv rfl bsc66.size rfl rfl ?_
  refine Yr (.pointer (some ⟨ab,0,none⟩)) (Jq (off:=0) (sz:=1) (A.getP 1 rfl) rfl) bsc66 rfl ?_
  refine Xf rfl ?_
  refine Zu 0 Tryz.underlying32 rfl bsc22.size rfl rfl ?_
  refine Yr (I) (Jq (off:=0) (sz:=1) (A.getP 2 rfl) rfl) bsc22 rfl ?_
  refine Za (v:=.int .i64 n) rfl ?_
  refine Zf [I,.int .i64 n,.int .i64 120] _ Tryz.func100 rfl rfl rfl (Zkx a.degrees n 120 h _ (Zfq (A.getP 3 rfl)).1) (λret w3 hR=>?_)
  obtain ⟨r,u,f1,rb,rfl,⟨hrL,h⟩,ac,ad,hB3⟩:=hR;refine⟨_,rfl,?_⟩
  replace A:=A.push hB3 (ZM8 (ZT0 73 ((EA .i64).tr)) r [u] f1) ac ad;obtain ⟨ho,ae⟩:=Y4 (A.getM 0 rfl).1;subst ae;replace A:=A.recast (c:=own 73 8 u r.length ((EA .i64).encs r)) (λ_ h_=>h_) (λ_=>ho)
  refine Za (v:=.tuple #[u,.bool rb]) rfl ?_
  refine Yj (v:=u) rfl rfl ?_
  refine Yj (v:=.bool rb) rfl rfl ?_
  refine Xf rfl ?_
  refine Zu 0 ZUa rfl bsc122.size rfl rfl ?_
  refine Zz (v:=u) A 1 [u] [u,.map (some pb),.slice none 0 0,.slice none 0 0,.slice none 0 0,.slice none 0 0] rfl bsc122.size rfl rfl (Zcg (A.getM 0 rfl)) rfl (Xr (X4 (A.getM 0 rfl)) rfl) (ZM2 rfl) rfl λw4 A=>?_
  refine dn ?_
  refine ZMu ?_
  refine sr ?_
  refine Za (v:=.pointer (some ⟨bx,0,none⟩)) rfl ?_
  refine Xf rfl ?_
  refine Zu 0 ZUa rfl bsc122.size rfl rfl ?_
  refine Z5 A 1 (u) rfl bsc122 rfl rfl ?_
  obtain ⟨Ad,c9,ag⟩:=Zbj (A.getM 0 rfl);refine Zel ZT5 (tr rfl ag) ?_
  refine Za (v:=.int .i64 0) rfl ?_
  refine dn ?_
  refine ZM0 ?_
  have hN:r.length≤9223372036854775807:=Zfp (A.getM 0 rfl);refine Yp (S:=(List (A8×Int))) _ _ (λi s e_ w_=>Zt e_ [(0,.pointer (some ⟨cb,0,none⟩)),(1,.int .i64 n),(7,.pointer (some ⟨bx,0,none⟩)),(42,u),(43,.int .i64 (r.length:Int)),(44,.int .i64 (i:Int))]∧Ctx (λc=>c=mb) w0 w_ [own 73 8 u r.length ((EA .i64).encs r),blk bx 125 [u,.map (some pb),.slice none 0 0,.slice none 0 0,.slice none 0 0,.slice none 0 0],Z6 (kvA .i64) (vvI .i64) pb s,Z6 (vvI .i64) vvP mb (D.map Lev.key)] [cpP C D F,blk cb 198 [.pointer (some ⟨ab,0,none⟩),.map (some mb)],blk ab 32 [I,O],ZMt TAlg a [I,O] fpA]) r.length ?_ ?_ (s0:=([]:List (A8×Int))) ?_ h
  ·clear A h;rintro i s e_ w5 next K5 L ⟨B,A⟩ h hK5;refine sr ?_
   refine Zn (sx B 5 rfl) (sx B 4 rfl) ?_
   refine dn ?_
   refine ZMu ?_
   refine Z3 rfl (decide_eq_true (by omega)) ?_
   refine ZMy ?_
   refine Zd ?_
   refine ZMu ?_
   refine ZM0 ?_
   refine sr ?_
   refine Za (v:=.int .i64 (i:Int)) (sx B 5 rfl) ?_
   obtain ⟨Ad6,c6,U⟩:=Jf (A.getM 0 rfl) (Nat.lt_of_le_of_lt (Nat.zero_le _) L);refine Js (i * 8) ZT5 bag73.size (tr (sx B 3 rfl) U) (sx B 5 rfl) (ZNb _) (ZNt.2 L) rfl ?_
   refine Je (ZMs .i64 (r.getD i ZEu)) (Za2 (A.getM 0 rfl) U i L) bag73 rfl rfl ?_
   refine Yl A (ZMs .i64 ZMz) Zzo rfl λb7 w7 G A=>?_
   refine Zc (v:=.int .i64 (i:Int)) rfl ?_
   refine Zz (v:=.agg (ZHu (ZMs .i64 (r.getD i ZEu)))) A 0 (ZMs .i64 (r.getD i ZEu)) (ZMs .i64 (r.getD i ZEu)) rfl bag73.size rfl rfl rfl rfl rfl (ZM2 rfl) rfl λw8 A=>?_
   refine dn ?_
   refine Zpk 6 Zzp [0,1,3,7,0,0,63] [3,4] [0,1,2,5] (by kernel_rfl) (by kernel_rfl) (by kernel_rfl) (λhM1 hM2 w9 G=>?_)
   replace A:=A.grow G;refine aF 0 (.pointer (some ⟨bx,0,none⟩)) rfl rfl (hM2 0 rfl) (rfl) (λ_=>by exact Zau (v:=.pointer (some ⟨bx,0,none⟩)) (sx B 2 rfl)) (Zb 7 1) ?_
   refine aF 1 (.pointer (some ⟨bx,0,none⟩)) rfl rfl (hM2 1 rfl) (rfl) (λ_=>by exact J7 rfl) (Zb 7 3) ?_
   refine aF 2 (.pointer (some ⟨bx,1,none⟩)) rfl rfl (hM2 2 rfl) (rfl) (λ_=>by exact Yk 1 ZUa rfl bsc123.size rfl rfl) (Zb 7 7) ?_
   refine aL 3 (.map (some pb)) rfl rfl (hM1 3 rfl) (rfl) (λ_ G=>by exact Yc (A.grow G) 2 (.map (some pb)) rfl bsc123 rfl rfl) (Zb 7 15) ?_
   refine aL 4 (.agg (ZHu (ZMs .i64 (r.getD i ZEu)))) rfl rfl (hM1 4 rfl) (rfl) (λ_ G=>by exact Xa (A.grow G) 0 (ZMs .i64 (r.getD i ZEu)) rfl bag73 rfl rfl rfl) (Zb 7 31) ?_
   refine aF 5 (.int .i64 (i:Int)) rfl rfl (hM2 5 rfl) (rfl) (λ_=>by exact Zau (v:=.int .i64 (i:Int)) rfl) (Zb 7 63) ?_
   refine Z0 6 (by decide) (by decide) (by kernel_rfl) (by kernel_rfl) rfl ?_
   refine Zj5 A 3 (r.getD i ZEu) (i:Int) rfl Zzn ZUs rfl rfl rfl (λai A=>?_) (.inl rfl)
   refine done ?_
   refine Z1 ?_
   refine Zq ?_
   refine Zd ?_
   refine Zj ?_
   refine Zo (sx B 5 rfl) rfl ?_
   refine Za (v:=.int .i64 (ZHf.wrap ((i:Int)+1))) rfl ?_
   refine done ?_
   replace A:=A.sM [1,2,3,4] (M':=[own 73 8 u r.length ((EA .i64).encs r),blk bx 125 [u,.map (some pb),.slice none 0 0,.slice none 0 0,.slice none 0 0,.slice none 0 0],Z6 (kvA .i64) (vvI .i64) pb (Yo s (r.getD i ZEu) (i:Int)),Z6 (vvI .i64) vvP mb (D.map Lev.key)]) (by decide) rfl
   exact hK5 (Yo s (r.getD i ZEu) (i:Int)) _ _ ⟨(sk (sx B 0 rfl) (sk (sx B 1 rfl) (sk (sx B 2 rfl) (sk (sx B 3 rfl) (sk (sx B 4 rfl) (sk (tr rfl (congrArg _ (Z7 L hN))) sn)))))),A⟩ h
  ·clear A h;rintro s e_ aj ak ⟨B,A⟩ h;refine sr ?_
   refine Zn (sx B 5 rfl) (sx B 4 rfl) ?_
   refine dn ?_
   refine ZMu ?_
   refine Z2 rfl (decide_eq_false (by omega)) ?_
   refine ZM9 (Zk (Zk (Zy ?_)))
   refine Zd ?_
   refine sr ?_
   refine Za (v:=.pointer (some ⟨cb,0,none⟩)) (sx B 0 rfl) ?_
   refine Xf rfl ?_
   refine Zu 1 ZUv rfl bsc196.size rfl rfl ?_
   refine Yr (.map (some mb)) (Jq (off:=1) (sz:=1) (A.getP 1 rfl) rfl) bsc196 rfl ?_
   refine Za (v:=.int .i64 n) (sx B 1 rfl) ?_
   refine Za (v:=.pointer (some ⟨bx,0,none⟩)) (sx B 2 rfl) ?_
   refine Zj5 A 3 n bx rfl Zrs ZU2 rfl rfl rfl (λV A=>?_) (.inl rfl)
   refine dn ?_
   refine sr ?_
   refine Za (v:=.pointer (some ⟨bx,0,none⟩)) (sx B 2 rfl) ?_
   refine Zc (v:=.pointer (some ⟨bx,0,none⟩)) rfl ?_
   refine dn ?_
   refine ZM3 ?_
   have e1:=A.getM 0 rfl;have e2:=A.getM 1 rfl;have e3:=A.getM 2 rfl;have e4:=A.getM 3 rfl;have d1:=A.mm 0 3 rfl rfl (by decide)
   have d2:=A.mm 1 3 rfl rfl (by decide)
   have d3:=A.mm 2 3 rfl rfl (by decide)
   have d4:=A.mm 1 0 rfl rfl (by decide)
   have d5:=A.mm 1 2 rfl rfl (by decide)
   have fr:∀ it,it∈[own 73 8 u r.length ((EA .i64).encs r),blk bx 125 [u,.map (some pb),.slice none 0 0,.slice none 0 0,.slice none 0 0,.slice none 0 0],Z6 (kvA .i64) (vvI .i64) pb s]→(∀ x,x∈it.fp→x∉(Z6 (vvI .i64) vvP mb (Yo (D.map Lev.key) n bx)).fp)→∀ b,b∈it.fp→w0.heap.size≤b:=λit hit hds b hb =>
    (A.mfp it (by
     simp only [ZEn,ZGz,or_false] at hit
     rcases hit with rfl | rfl | rfl
     ·exact List.mem_of_getElem? (i:=0) rfl
     ·exact List.mem_of_getElem? (i:=1) rfl
     ·exact List.mem_of_getElem? (i:=2) rfl) b hb).elim id λe=>absurd (by simp [Z6,e]) (hds b hb)
   have aa:∀ b,b∈u.ownBlock.toList++[pb]→b < V.heap.size:=by
    intro b hb;rcases ZEt.1 hb with q | q
    ·exact ZT2 _ _ e1 b q
    ·exact ZT2 _ _ e3 b q
   refine Zi (fn:=Tryz.f115) (v:=vvP bx) rfl (Ze rfl) ⟨⟨n,bx,pb,u,.slice none 0 0,.slice none 0 0,.slice none 0 0,.slice none 0 0,false,false,false,false⟩,[⟨n,bx,pb,u,.slice none 0 0,.slice none 0 0,.slice none 0 0,.slice none 0 0,false,false,false,false⟩],u.ownBlock.toList++[pb],rfl,rfl,by simp,?_,Zy5 (A.getP 0 rfl) ⟨?_,⟨by simp,?_⟩,λ_=>rfl,λq=>(ZT9 q).elim,λ_=>rfl,λq=>(ZT9 q).elim,λ_=>rfl,λq=>(ZT9 q).elim,λ_=>rfl,λq=>(ZT9 q).elim⟩ aa,Zy2 e2,?_,?_,?_,by simp,A.belB⟩ (.inl rfl)
   ·have e5:=e4;rw [Zy8 hg] at e5
    rw [ZT6]; exact e5
   ·show ((EA .i64).ty.sl).rep (C.LV n) [u] _ _
    rw [← hrL]
    exact ZT8 _ (Ym e1) (λb hb=>ZE7 _ hb) aa
   ·have hs:s=C.PL n:=h
    show (Z6 (kvA .i64) (vvI .i64) pb (C.PL n)).holds V
    rw [← hs]; exact e3
   ·intro b hb;obtain rfl:b=bx:=by simpa using hb
    exact fr _ (by simp) d2 b (by simp [blk])
   ·intro b hb;rcases ZEt.1 hb with q | q
    ·exact fr _ (by simp) d1 b q
    ·exact fr _ (by simp) d3 b (by simpa [Z6] using q)
   ·intro b hb ah;obtain rfl:b=bx:=by simpa using hb
    rcases ZEt.1 ah with q | q
    ·exact d4 b (by simp [blk]) q
    ·exact d5 b (by simp [blk]) (by simpa [Z6] using q)
  ·exact⟨(sk rfl (sk rfl (sk rfl (sk rfl (sk rfl (sk rfl sn)))))),A⟩
theorem Znl (C:Cx) (a:Alg) (n:Int) {cb ab mb:Nat} {L O:Value} {fpA:List Nat} {D:List Lev} {F:List Nat} (h:Zd9 C a.degrees n) (w0:World)
  (q0:TAlg.rep a [L,O] fpA w0) (qa:(blk ab 32 [L,O]).holds w0) (qc:(blk cb 198 [.pointer (some ⟨ab,0,none⟩),.map (some mb)]).holds w0) (qx:(cpx C 125 mb D F).holds w0)
  (dq:∀ b,b∈fpA→b∉(cpx C 125 mb D F).fp) (da:ab∉(cpx C 125 mb D F).fp) (dc:cb∉(cpx C 125 mb D F).fp) :
  Calls ZMx 115 #[.pointer (some ⟨cb,0,none⟩),.int .i64 n] w0 λe w'=>∃ (b:Nat) (D':List Lev) (F':List Nat),
   e=.returned (vvP b)∧LvAt D' n b false false∧CpLe D D' F F'∧(cpx C 125 mb D' F').holds w'∧(∀ x,x∈(cpx C 125 mb D' F').fp→x∈(cpx C 125 mb D F).fp∨w0.heap.size≤x)∧BelB mb w0 w':=by
 refine(Zrt C a n h w0 qc qa q0 qx.1 qx.2.2.1 ⟨λe=>dc (e ▸ Zcq),λe=>da (e ▸ Zcq),λq=>dq _ q Zcq,qx.2.2.2.2.1⟩).mono ?_
 rintro e w' ⟨v,new,F1,rfl,h1,h2,h3,h4,h5,B,I,h8,h9,U⟩;have lmb:mb < w0.heap.size:=ZT2 _ w0 qx mb Zcq;have lD:∀ b,b∈D.map (·.b)→b < w0.heap.size:=λb hb=>ZT2 _ w0 qx.2.1 b hb
 have lF:∀ b,b∈F→b < w0.heap.size:=λb hb=>ZT2 _ w0 qx.2.2.1 b hb
 refine⟨v.b,D++new,F++F1,rfl,⟨v,h2,h1,rfl,λq=>(ZT9 q).elim,λq=>(ZT9 q).elim⟩,⟨λe he=>⟨e,ZE7 _ he,.refl e⟩,λe he _ h3'=>?_,λx hx=>ZE7 _ hx⟩,⟨h3,Zrn (ZT4 _ w0 w' (λb hb=>U.old b (lD b hb) (λe=>qx.2.2.2.1 (e ▸ hb))) qx.2.1) h5 (λx hx V=>absurd (lD x hx) (ZFd.2 (B x V))),h4,?_,?_,?_⟩,λx hx=>?_,U⟩
 ·rcases ZEt.1 he with q | q
  ·exact .inr ⟨e,q,rfl,h3',id,id⟩
  ·exact absurd h3' (by rw [h9 e q]; exact ZT9)
 ·intro q;rw [ZT6] at q
  rcases ZEt.1 q with q | q
  ·exact qx.2.2.2.1 q
  ·exact absurd lmb (ZFd.2 (B _ q))
 ·intro q;rcases ZEt.1 q with q | q
  ·exact qx.2.2.2.2.1 q
  ·exact absurd lmb (ZFd.2 (I _ q))
 ·intro b hb G;rw [ZT6] at hb
  rcases ZEt.1 hb with q | q
  ·rcases ZEt.1 G with A | A
   ·exact qx.2.2.2.2.2 b q A
   ·exact absurd (lD b q) (ZFd.2 (I _ A))
  ·rcases ZEt.1 G with A | A
   ·exact absurd (lF b A) (ZFd.2 (B _ q))
   ·exact h8 b q A
 ·rcases ZEn.1 hx with rfl | hx
  ·exact .inl ZUb
  ·rcases ZEt.1 hx with q | q
   ·rw [ZT6] at q
    rcases ZEt.1 q with q | q
    ·exact .inl (ZT3 _ (ZE7 _ q))
    ·exact .inr (B _ q)
   ·rcases ZEt.1 q with q | q
    ·exact .inl (ZT3 _ (ZE6 _ q))
    ·exact .inr (I _ q)
section
variable {ops:Array Oper} {Q:Exit→Act→World→Prop} {m:Nat} {e:Env} {w:World} {rest:List Oper}
variable {X:Nat→Prop} {w0:World} {M Ps:List Vc.Item}
variable {d ty:Nat} {pos:String} {af:Array Edge}
theorem Zzr {C:Cx} {a:Alg} {n:Int} {cb ab mb:Nat} {G I:Value} {fpA:List Nat} {D B:List Lev} {F:List Nat} {x y:Operand} {at_:Array Nat} (hok:Zd9 C a.degrees n)
  (h:Ctx X w0 w (Z6 (vvI .i64) vvP mb (D.map Lev.key)::lvB 125 B::M) (cpP C D F::blk cb 198 [.pointer (some ⟨ab,0,none⟩),.map (some mb)]::blk ab 32 [G,I]::ZMt TAlg a [G,I] fpA::Ps))
  (hx:ev m e x=.pointer (some ⟨cb,0,none⟩)) (hy:ev m e y=.int .i64 n)
  (k:∀ (v:Lev) (new:List Lev) (F1:List Nat) (w':World),v.n=n→v∈D++new→(∀ x,x∈F1→w.heap.size≤x)→(∀ z,z∈new→z.c3=false)→Ctx X w0 w' (Z6 (vvI .i64) vvP mb ((D++new).map Lev.key)::lvB 125 (B++new)::M) (cpP C (D++new) (F++F1)::blk cb 198 [.pointer (some ⟨ab,0,none⟩),.map (some mb)]::blk ab 32 [G,I]::ZMt TAlg a [G,I] fpA::Ps) →
   BelB mb w w'→W ZMx ops Q rest m (upd e d (vvP v.b)) w') :
  W ZMx ops Q (⟨some d,.call { callee:=.value (.func 115),args:=#[x,y],argTypes:=at_ }, ty,pos,af,none⟩::rest) m e w:=by
 have hm:Z6 (vvI .i64) vvP mb (D.map Lev.key)∈Z6 (vvI .i64) vvP mb (D.map Lev.key)::lvB 125 B::M:=by simp
 have hd:cb≠mb∧ab≠mb∧mb∉fpA∧mb∉F :=
  ⟨λq=>h.pd _ (List.mem_of_getElem? (i:=1) rfl) cb (by simp [blk]) _ hm (by simp [Z6,q]),λq=>h.pd _ (List.mem_of_getElem? (i:=2) rfl) ab (by simp [blk]) _ hm (by simp [Z6,q]),
   λq=>h.pd _ (List.mem_of_getElem? (i:=3) rfl) mb q _ hm (by simp [Z6]),λq=>h.pd _ (List.mem_of_getElem? (i:=0) rfl) mb q _ hm (by simp [Z6])⟩
 refine Zf (l:=[x,y]) [.pointer (some ⟨cb,0,none⟩),.int .i64 n] _ ZU3 rfl rfl (by simp [hx,hy]) (Zrt C a n hok w (h.getP 1 rfl) (h.getP 2 rfl) (h.getP 3 rfl) (h.getM 0 rfl) (h.getP 0 rfl) hd) (λret w' V=>?_)
 obtain ⟨v,new,F1,rfl,h1,h2,h3,h4,h5,L,O,h8,h9,A⟩:=V;have hlow:mb < w.heap.size:=ZT2 _ _ (h.getM 0 rfl) mb (by simp [Z6])
 refine⟨_,rfl,k v new F1 w' h1 h2 O h9 ?_ A⟩
 have hT:=h.turnMPN 0 0 (jt:=Z6 (vvI .i64) vvP mb ((D++new).map Lev.key)) (qt:=cpP C (D++new) (F++F1)) (nt:=lvB 125 new) rfl rfl ⟨A.os,A.tape,A.output,A.size,A.drawn,λc hc hne=>A.old c hc (λq=>hne (by simp [Z6,q]))⟩ h3 h4 h5 (λb hb=>.inl hb)
  (λb hb=>(ZEt.1 hb).elim .inl λq=>.inr (O b q)) (λb hb U=>by
   obtain rfl:b=mb:=by simpa [Z6] using U
   rcases ZEt.1 hb with q | q
   ·exact hd.2.2.2 q
   ·have:=O _ q; omega) L (λb hb=>⟨λq=>by
    obtain rfl:b=mb:=by simpa [Z6] using q
    have:=L _ hb; omega,λq=>by
    rcases ZEt.1 q with q | q
    ·exact absurd (ZT2 _ _ (h.getP 0 rfl) b q) (ZFd.2 (L b hb))
    ·exact h8 b hb q⟩)
 have hT2:=(hT.permM ((List.Perm.cons _ (.swap _ _ _)).trans (.swap _ _ _))).gather (c:=lvB 125 (B++new)) (λx hx=>by
  rw [show (lvB 125 (B++new)).fp=B.map (·.b)++new.map (·.b) from ZT6] at hx
  exact ZEt.1 hx) (λg1 g2 gd=>Zrn g1 g2 gd)
 exact hT2.permM (.swap _ _ _)
end
end Go.Proofs.YtaagfepgbofmlaaGreat
set_option maxRecDepth 4000
set_option maxHeartbeats 4000000
namespace Go.Proofs.YtaagfepgbofmlaaGreat
open Go Go.RowKit Vc
variable {b0 bp0 b1 bp1 b2 bp2 b3 bp3 b4 bp4 b5 bp5 b6 bp6 b7 bp7 mb0:Nat} {u0_0 u0_1 u0_2 u0_3 u0_4 u0_5 u1_0 u1_1 u1_2 u1_3 u1_4 u1_5 u2_0 u2_1 u2_2 u2_3 u2_4 u2_5 u3_0 u3_1 u3_2 u3_3 u3_4 u3_5 u4_0 u4_1 u4_2 u4_3 u4_4 u4_5 u5_0 u5_1 u5_2 u5_3 u5_4 u5_5 u6_0 u6_1 u6_2 u6_3 u6_4 u6_5 u7_0 u7_1 u7_2 u7_3 u7_4 u7_5:Value} {fp0 fp1 fp2 fp3 fp4 fp5 fp6 fp7 fp0_0 fp0_1 fp0_2 fp0_3 fp0_4 fp0_5 fp1_0 fp1_1 fp1_2 fp1_3 fp1_4 fp1_5 F0:List Nat} {D0:List Lev}
theorem sc85:ScaT ZMx 85:=⟨⟨_,ZUw,rfl⟩,by kernel_rfl⟩
theorem Zao (w:World):(ZUr 85 0 #[]).run ZMx w=.ok (.slice (some ⟨w.heap.size,0,none⟩) 0 0) (w.alloc (.cells (ZHu []) 22)):=by kernel_rfl
theorem Zaj (x0:Value) (h:Zdv x0) (w:World):(ZUr 85 1 #[(0,x0)]).run ZMx w=.ok (.slice (some ⟨w.heap.size,0,none⟩) 1 1) (w.alloc (.cells (ZHu [x0]) 22)):=by obtain ⟨_,_,_,rfl⟩:=h; kernel_rfl
theorem Jw:Zah ZMx 22 (.slice none 0 0) 1 24:=by unfold Zah; kernel_rfl
def Zky (C:Cx) (O:Alg) (h:Int) (K:Prop):Prop :=
 (Zd9 C O.degrees h∧((Zd9 C O.degrees (ZHf.wrap (h+1))∧Z9 (λG (A:(List (List Int))) B=>Zd4 O (Yo ([]:List (A8×Int)) ((C.LV h).getD G ZEu) 1) (λI=>Zb9 (⟨C.LV (ZHf.wrap (h+1)),C.PL (ZHf.wrap (h+1))⟩:Vc.Lvl) I (λL=>(Z4 (A.length+1) 24∧B (A++[L]))))) (λ(A:(List (List Int)))=>(A=C.MX h∧K)) ((C.LV h).length) 0 [])∧K))
theorem Zzs (C:Cx) (a0:Alg) (G:Int)  {K:Prop} (h:Zky C a0 G K) (w0:World) (q0:TAlg.rep a0 [u0_0,u0_1] fp0 w0) (cn:(blk b0 32 [u0_0,u0_1]).holds w0) (bl:(blk bp0 198 [vQ b0,.map (some mb0)]).holds w0) (cp:(cpx C 125 mb0 D0 F0).holds w0) (cq:∀ b,b∈fp0→b∉(cpx C 125 mb0 D0 F0).fp) (cr:b0∉(cpx C 125 mb0 D0 F0).fp) (bm:bp0∉(cpx C 125 mb0 D0 F0).fp) :
  Calls ZMx 135 #[vQ bp0,vI G] w0 λe w'=>∃ (bi:Nat) (Dz:List Lev) (Fz:List Nat),
   e=.returned (vvP bi)∧K∧LvAt Dz G bi true false∧CpLe D0 Dz F0 Fz∧(cpx C 125 mb0 Dz Fz).holds w'∧(∀ x,x∈(cpx C 125 mb0 Dz Fz).fp→x∈(cpx C 125 mb0 D0 F0).fp∨w0.heap.size≤x)∧BelO ((cpx C 125 mb0 D0 F0).fp) w0 w':=by
 unfold Zky at h
 refine cof Tryz.func135 rfl 55 Tryz.ntmps135 ?_
 have A:=Ctx.startL w0 ((cpx C 125 mb0 D0 F0).fp) [cpx C 125 mb0 D0 F0] [ZMt TAlg a0 [u0_0,u0_1] fp0,blk b0 32 [u0_0,u0_1],blk bp0 198 [vQ b0,.map (some mb0)]] (al1 cp) (alc q0 (alc cn (al1 bl))) (al1 (λb_ aj=>aj)) (ZVj _ _) (alc (λb_ aj=>cq b_ aj) (alc (Zdy cr) (al1 (Zdy bm))))
 replace A:=A.dAlg 0 rfl;refine sr (Zc (v:=.pointer none) rfl (dn (sr (Za (v:=vQ bp0) rfl (Za (v:=vI G) rfl ?_)))))
 obtain ⟨bn,h⟩:=h;refine Zf [vQ bp0,vI G] _ ZU3 rfl rfl rfl (Znl C a0 G bn _ (Y3 (A.getP 1 rfl) (A.getP 0 rfl)) (A.getP 3 rfl) (A.getP 4 rfl) (A.getM 0 rfl) (λb_ hb ap=>(ZEt.1 hb).elim (λhb=>A.pdk 1 0 rfl rfl b_ hb ap) (λhb=>A.pdk 0 0 rfl rfl b_ hb ap)) (λL=>A.pdk 3 0 rfl rfl _ (ZT7 _) L) (λL=>A.pdk 4 0 rfl rfl _ (ZT7 _) L)) ?_
 rintro _ w9 ⟨I,bj,ak,rfl,a4,a5,bo,bp,bq⟩;refine rt ?_
 replace A:=A.turnI 0 rfl (bq.belO Zcq) bo bp;refine Zc (v:=vvP I) rfl (dn (ZMu (sr (Za (v:=vvP I) rfl (Xf rfl (Zu 2 ZUa rfl sc85.size rfl rfl ?_))))))
 obtain ⟨c9,da,cu,db,dc,dd,br,bs,de,dh,a7,bd⟩:=Zzb (A.getM 0 rfl) a4;refine Yr (cu) (Jq (off:=2) (sz:=1) br rfl) sc85 rfl ?_
 rcases bs with _ | c0
 ·replace h:=h.1;refine Zku true ZUw (tr rfl a7) rfl rfl (dn (Z3 rfl rfl (sr (Za (v:=vvP I) rfl (Yn (sz:=1) A [] [] rfl (λ_=>Zao _) rfl (by decide) λad di ag A=>?_)))))
  replace A:=A.pushM0 (Yf (ZT0 2 (eI.tr)) ([]:List (List Int)) [] []) (Zaa _ _) rfl;replace A:=A.gather (c:=ZM8 (ZT0 22 (ZT0 2 (eI.tr))) [] [.slice (some ⟨ad,0,none⟩) 0 0] ((ZNu (ZFo (.slice (some ⟨ad,0,none⟩) 0 0)))++([]:List (List Nat)).flatten)) (λx_ L=>(ZEt.1 L).symm) (λar au av=>J0 au ar (λb_ aj ap=>av b_ ap aj))
  refine Xf rfl (Zu 2 ZUa rfl sc85.size rfl rfl ?_)
  replace A:=A.sM [1,0] (M':=[cpx C 125 mb0 bj ak,ZM8 (ZT0 22 (ZT0 2 (eI.tr))) [] [.slice (some ⟨ad,0,none⟩) 0 0] ((ZNu (ZFo (.slice (some ⟨ad,0,none⟩) 0 0)))++([]:List (List Nat)).flatten)]) (by decide) rfl
  obtain ⟨aa,ab,B,rfl,a2,bt,bu,A⟩:=A.focus a4;replace A:=A.derive 0 rfl (ZMt ((EA .i64).ty.sl) (C.LV G) [B.vl] ak) (λh_=>Zy6 h_ (by simp) a2) (λ_ h_=>h_)
  refine Zz (v:=.slice (some ⟨ad,0,none⟩) 0 0) A 0 [.slice (some ⟨ad,0,none⟩) 0 0] [B.vl,.map (some B.pb),.slice (some ⟨ad,0,none⟩) 0 0,B.vc,B.vd,B.vk] rfl sc85.size rfl rfl (Zmc (ZUd _ (A.getM 3 rfl).1)) rfl (Xr (Zdt (ZUd _ (A.getM 3 rfl).1)) rfl) (ZM2 rfl) rfl λdj A=>dn (sr (Za (v:=vQ bp0) rfl (Za (v:=vI G) rfl (Zo rfl rfl ?_))))
  replace A:=A.sM [2,1,0,3] (M':=[Z6 (vvI .i64) vvP mb0 ((aa++B::ab).map Lev.key),lvB 125 (aa++ab),blk I 125 [B.vl,.map (some B.pb),.slice (some ⟨ad,0,none⟩) 0 0,B.vc,B.vd,B.vk],ZM8 (ZT0 22 (ZT0 2 (eI.tr))) [] [.slice (some ⟨ad,0,none⟩) 0 0] ((ZNu (ZFo (.slice (some ⟨ad,0,none⟩) 0 0)))++([]:List (List Nat)).flatten)]) (by decide) rfl
  replace A:=A.sP [1,6,5,4,0,2,3] (Ps':=[cpP C (aa++B::ab) ak,blk bp0 198 [vQ b0,.map (some mb0)],blk b0 32 [u0_0,u0_1],ZMt TAlg a0 [u0_0,u0_1] fp0,ZMt ((EA .i64).ty.sl) (C.LV G) [B.vl] ak,ZMt TForm.sl a0.images [u0_1] fp0,ZMt TInts a0.degrees [u0_0] fp0]) rfl;obtain ⟨bv,h⟩:=h;have bw:=A.size;refine Zzr bv A rfl rfl (λal ah cv dk a8 a9 bx be A c6=>?_)
  have bz:al∈((aa++ab))++ah:=Zzc a9 (λq_=>Zzd G (a8.symm.trans ((congrArg Lev.n q_).trans a2)))
  refine Zc (v:=vvP al.b) rfl (dn (sr (Za (v:=vQ I) rfl (Xf rfl (Zu 0 ZUa rfl sc122.size rfl rfl (Z5 A 2 (B.vl) rfl sc122 rfl rfl (Zw A 4 rfl ZT5 rfl (Za (v:=vI 0) rfl (dn (ZM0 ?_))))))))))
  have b8:(C.LV G).length≤9223372036854775807:=Y5 (A.getP 4 rfl);refine Yp (S:=(List (List Int))) _ _ (λO am e_ w_=>∃ (ae:Value),∃ (an:List Nat),Zt e_ [(0,vQ bp0),(5,vQ I),(6,vvP al.b),(28,B.vl),(29,vI ((C.LV G).length:Int)),(30,vI (O:Int))]∧Ctx (λc_=>c_∈(cpx C 125 mb0 D0 F0).fp) w0 w_ [Z6 (vvI .i64) vvP mb0 (((aa++B::ab)++ah).map Lev.key),lvB 125 ((aa++ab)++ah),blk I 125 [B.vl,.map (some B.pb),ae,B.vc,B.vd,B.vk],ZM8 (ZT0 22 (ZT0 2 (eI.tr))) am [ae] an] [cpP C ((aa++B::ab)++ah) (ak++cv),blk bp0 198 [vQ b0,.map (some mb0)],blk b0 32 [u0_0,u0_1],ZMt TAlg a0 [u0_0,u0_1] fp0,ZMt ((EA .i64).ty.sl) (C.LV G) [B.vl] ak,ZMt TForm.sl a0.images [u0_1] fp0,ZMt TInts a0.degrees [u0_0] fp0]) ((C.LV G).length) ?_ ?_ (s0:=[]) ?_ h
  ·clear A h;rintro O am e_ dm c7 cw aq ⟨ae,an,ba,A⟩ h b9;rw [ue ba];refine sr (Zn rfl rfl (dn (ZMu (Z3 rfl (decide_eq_true (by omega)) (ZMy (Zd (ZMu (ZM0 (sr ?_)))))))))
   obtain ⟨c8,dp,bb⟩:=Zx (A.getP 4 rfl) O aq;refine Ys (len:=(C.LV G).length) ZT5 ag73.size (tr rfl bb) rfl (ZNb _) (ZNt.2 aq) (Je (ZMs .i64 ((C.LV G).getD O ZEu)) (Ye (A.getP 4 rfl) bb O aq) ag73 rfl rfl (Yl A (ZMs .i64 ZMz) z73 rfl λbc dq ag A=>Zz (v:=.agg (ZHu (ZMs .i64 ((C.LV G).getD O ZEu)))) A 0 (ZMs .i64 ((C.LV G).getD O ZEu)) (ZMs .i64 ((C.LV G).getD O ZEu)) rfl ag73.size rfl rfl rfl rfl rfl (ZM2 rfl) rfl λdr A=>dn ?_))
   refine Zmp 17 Yh [0,0,2,6,14,0,0,64,192,448,0,0,3072,7168,16320,32736,65504,131070,262143,524287,1048575] [4,9,11] [0,1,2,3,5,6,7,8,13] (λa3 ac bk ag=>?_)
   replace A:=A.grow ag;have U:bk.heap.size≤bk.heap.size:=ZEs _;refine bMR (Xc _) 0 (vQ I) rfl ac (Zb 21 1) (bMR (Xc _) 1 (vQ I) rfl ac (Zb 21 3) (Zr (Xc _) 2 (vQ I) rfl rfl (by kernel_rfl) (ac 2 rfl) (λw_=>.inl ⟨rfl,by exact J7 rfl⟩) (l9:=(Zb 21 7)) (by kernel_rfl) (Zr (Xc _) 3 (.pointer (some ⟨I,2,none⟩)) rfl rfl (by kernel_rfl) (ac 3 rfl) (λw_=>.inl ⟨rfl,by exact Yk 2 ZUa rfl sc85.size rfl rfl⟩) (l9:=(Zb 21 15)) (by kernel_rfl) (Zar (Xc _) 4 (ae) rfl rfl (by kernel_rfl) (a3 4 rfl) (λw_ ag=>.inl ⟨rfl,by exact Yc (A.grow (Zcj ag)) 3 (ae) rfl sc85 rfl rfl⟩) (l9:=(Zb 21 31)) (by kernel_rfl) (bMR (Xc _) 5 (vvP al.b) rfl ac (Zb 21 63) (bMR (Xc _) 6 (vQ bp0) rfl ac (Zb 21 127) (Zr (Xc _) 7 (vQ bp0) rfl rfl (by kernel_rfl) (ac 7 rfl) (λw_=>.inl ⟨rfl,by exact J7 rfl⟩) (l9:=(Zb 21 255)) (by kernel_rfl) (Zr (Xc _) 8 (vQ bp0) rfl rfl (by kernel_rfl) (ac 8 rfl) (λw_=>.inl ⟨rfl,by exact Yk 0 ZUv rfl sc66.size rfl rfl⟩) (l9:=(Zb 21 511)) (by kernel_rfl) (Zar (Xc _) 9 (vQ b0) rfl rfl (by kernel_rfl) (a3 9 rfl) (λw_ ag=>.inl ⟨rfl,by exact Zds (vQ b0) ((A.grow (Zcj ag)).getP 1 rfl) sc66 rfl rfl⟩) (l9:=(Zb 21 1023)) (by kernel_rfl) (Zar (Xc _) 11 (.agg (ZHu (ZMs .i64 ((C.LV G).getD O ZEu)))) rfl rfl (by kernel_rfl) (a3 11 rfl) (λw_ ag=>.inl ⟨rfl,by exact Xa (A.grow (Zcj ag)) 0 (ZMs .i64 ((C.LV G).getD O ZEu)) rfl ag73 rfl rfl rfl⟩) (l9:=(Zb 21 3071)) (by kernel_rfl) (aO 10 rfl (Zdx A (kvA .i64) (vvI .i64) λaw dt cx ag A=>?_))))))))))))
   have hnb_b197:=ZEv U cx;refine done ?_
   refine Xb (Ji U (by assumption)) U (l9:=(Zb 21 4095)) (by kernel_rfl) (λU=>?_)
   refine aO 12 rfl ?_
   refine Zam A 0 ((C.LV G).getD O ZEu) 1 rfl Jt Tryz.underlying115 rfl rfl rfl (λdu ca A=>?_) (.inr rfl)
   refine done ?_
   refine Xb (Zac U hnb_b197 ca) U (l9:=(Zb 21 8191)) (by kernel_rfl) (λU=>?_)
   refine bMR (Xc _) 13 (.map (some aw)) rfl ac (Zb 21 16383) (aO 14 rfl (Zf [vQ b0,.map (some aw)] _ Tryz.func154 rfl rfl rfl (Zmy a0 (Yo ([]:List (A8×Int)) ((C.LV G).getD O ZEu) 1) h _ (Y3 (A.getP 6 rfl) (A.getP 5 rfl)) (A.getP 2 rfl) (A.getM 0 rfl)) ?_))
   rintro _ dv ⟨ax,ay,rfl,h,cb,cc,ce⟩;refine rt ?_
   replace A:=A.push ce (mapS ay ax) cb (λb_ aj=>by obtain rfl:=ZFn.1 aj; exact cc)
   refine done ?_
   refine Xb (Ji U (by assumption)) U (l9:=(Zb 21 32767)) (by kernel_rfl) (λU=>?_)
   refine aO 15 rfl (Zf [vvP al.b,.map (some ay)] _ Tryz.func85 rfl rfl rfl (Znj (⟨C.LV (ZHf.wrap (G+1)),C.PL (ZHf.wrap (G+1))⟩:Vc.Lvl) ax h _ (Zro (A.getP 0 rfl) a9 a8) (Zdf (A.getM 4 rfl) bz) (A.getM 0 rfl)) ?_)
   rintro _ dw ⟨ai,V,cy,rfl,h,cg,ch,ci⟩;refine rt ?_
   replace A:=A.push ci (ZM8 (ZT0 2 (eI.tr)) ai [V] cy) cg ch;obtain ⟨cj,ck⟩:=Y4 (A.getM 0 rfl).1;subst ck;replace A:=A.recast (c:=own 2 1 V ai.length (eI.encs ai)) (λ_ h_=>h_) (λ_=>cj)
   refine done ?_
   refine Xb (Ji U (by assumption)) U (l9:=(Zb 21 65535)) (by kernel_rfl) (λU=>?_)
   refine aO 16 rfl (Yn (sz:=1) A [(0,V)] [V] rfl (λ_=>Zaj V (Zdw (A.getM 0 rfl)) _) rfl (by decide) λao dx ag A=>?_)
   replace A:=A.pushM0 (Yf (ZT0 2 (eI.tr)) [] [] []) (Zaa _ _) rfl;replace A:=A.sM [2,0,1,3,4,5,6,7,8,9] (M':=[own 2 1 V ai.length (eI.encs ai),Yf (ZT0 2 (eI.tr)) [] [] [],own 22 1 (.slice (some ⟨ao,0,none⟩) 1 1) 1 [V],mapS ay ax,mapS aw (Yo ([]:List (A8×Int)) ((C.LV G).getD O ZEu) 1),blk bc 73 (ZMs .i64 ((C.LV G).getD O ZEu)),Z6 (vvI .i64) vvP mb0 (((aa++B::ab)++ah).map Lev.key),lvB 125 ((aa++ab)++ah),blk I 125 [B.vl,.map (some B.pb),ae,B.vc,B.vd,B.vk],ZM8 (ZT0 22 (ZT0 2 (eI.tr))) am [ae] an]) (by decide) rfl
   replace A:=A.gather (c:=Yf (ZT0 2 (eI.tr)) [ai] [V] [(ZNu (ZFo V))]) (λx_ L=>Zer L) (λar au av=>Zdu (c:=[V]) (id (Xx ar)) au av)
   replace A:=A.sM [1,0,2,3,4,5,6,7,8] (M':=[own 22 1 (.slice (some ⟨ao,0,none⟩) 1 1) 1 [V],Yf (ZT0 2 (eI.tr)) [ai] [V] [(ZNu (ZFo V))],mapS ay ax,mapS aw (Yo ([]:List (A8×Int)) ((C.LV G).getD O ZEu) 1),blk bc 73 (ZMs .i64 ((C.LV G).getD O ZEu)),Z6 (vvI .i64) vvP mb0 (((aa++B::ab)++ah).map Lev.key),lvB 125 ((aa++ab)++ah),blk I 125 [B.vl,.map (some B.pb),ae,B.vc,B.vd,B.vk],ZM8 (ZT0 22 (ZT0 2 (eI.tr))) am [ae] an]) (by decide) rfl
   replace A:=A.gather (c:=ZM8 (ZT0 22 (ZT0 2 (eI.tr))) [ai] [.slice (some ⟨ao,0,none⟩) 1 1] ((ZNu (ZFo (.slice (some ⟨ao,0,none⟩) 1 1)))++([(ZNu (ZFo V))]:List (List Nat)).flatten)) (λx_ L=>ZEt.1 L) (λar au av=>J0 ar au av)
   refine done ?_
   refine Xb (Ji U (by assumption)) U (l9:=(Zb 21 131071)) (by kernel_rfl) (λU=>?_)
   refine aO 17 rfl ?_
   replace A:=A.sM [7,0,1,2,3,4,5,6] (M':=[ZM8 (ZT0 22 (ZT0 2 (eI.tr))) am [ae] an,ZM8 (ZT0 22 (ZT0 2 (eI.tr))) [ai] [.slice (some ⟨ao,0,none⟩) 1 1] ((ZNu (ZFo (.slice (some ⟨ao,0,none⟩) 1 1)))++([(ZNu (ZFo V))]:List (List Nat)).flatten),mapS ay ax,mapS aw (Yo ([]:List (A8×Int)) ((C.LV G).getD O ZEu) 1),blk bc 73 (ZMs .i64 ((C.LV G).getD O ZEu)),Z6 (vvI .i64) vvP mb0 (((aa++B::ab)++ah).map Lev.key),lvB 125 ((aa++ab)++ah),blk I 125 [B.vl,.map (some B.pb),ae,B.vc,B.vd,B.vk]]) (by decide) rfl
   obtain ⟨cl,h⟩:=h;refine Zeq A ZUw Jw rfl (by decide) (by decide) rfl rfl cl λa6 cz dy A=>done (Jc (by decide) (l9:=(Zb 21 262143)) (by kernel_rfl) (Z0 18 (by decide) (by decide) (by kernel_rfl) (by kernel_rfl) rfl (Xf rfl (Zu 2 ZUa rfl sc85.size rfl rfl (Zz (v:=a6) A 6 [a6] [B.vl,.map (some B.pb),a6,B.vc,B.vd,B.vk] rfl sc85.size rfl rfl (Zmc (ZUd _ (A.getM 0 rfl).1)) rfl (Xr (Zdt (ZUd _ (A.getM 0 rfl).1)) rfl) (ZM2 rfl) rfl λdz A=>done (Z1 (Zq (Zd (Zj (Zo rfl rfl (Za (v:=vI (ZHf.wrap ((O:Int)+1))) rfl (done ?_))))))))))))
   exact b9 (am++[ai]) _ _ ⟨a6,cz,(sl ⟨rfl,rfl,rfl,rfl,rfl,(tr rfl (congrArg _ (Z7 aq b8))),trivial⟩),(A.xM [4,5,6,0] rfl)⟩ h
  ·clear A h;rintro am e_ d0 cw ⟨ae,an,ba,A⟩ h;rw [ue ba];refine sr (Zn rfl rfl (dn (ZMu (Z2 rfl (decide_eq_false (by omega)) ?_))))
   refine ZM9 (Zk (Zk (Zy ?_)))
   refine Zd (sr (Za (v:=vQ I) rfl (Zc (v:=vQ I) rfl (dn (ZM3 ?_)))))
   obtain ⟨hmx234,h⟩:=h;obtain ⟨D235,F236,hle237,hat238,hx239,cm⟩:=Zze (n:=G) (A.getM 0 rfl) (A.getM 1 rfl) (A.getM 2 rfl) (A.getP 0 rfl) (hmx234 ▸ (A.getM 3 rfl)) a2 bt (A.mm 0 2 rfl rfl (by decide)) (A.mm 0 1 rfl rfl (by decide)) (A.mm 0 3 rfl rfl (by decide)) (A.mm 2 1 rfl rfl (by decide)) (A.mm 2 3 rfl rfl (by decide)) (A.mm 1 3 rfl rfl (by decide)) (λx_ L az=>A.pdk 0 0 rfl rfl x_ L az) (λx_ L az=>A.pdk 0 2 rfl rfl x_ L az) (λx_ L az=>A.pdk 0 1 rfl rfl x_ L az) be
   exact Zi rfl (Ze rfl) ⟨I,D235,F236,rfl,h,hat238,(a5.trans hle237),hx239,(λx_ L=>((cm x_ L).elim (A.anyX 0 rfl x_) (λq_=>q_.elim (A.anyX 2 rfl x_) (λq_=>q_.elim (A.anyX 1 rfl x_) (λq_=>q_.elim (bu x_) (λq_=>q_.elim (λq_=>.inl (ZEv bw (bx x_ q_))) (A.anyX 3 rfl x_)))))).symm),A.belO⟩ (.inl rfl)
  ·skip;exact⟨.slice (some ⟨ad,0,none⟩) 0 0,((ZNu (ZFo (.slice (some ⟨ad,0,none⟩) 0 0)))++([]:List (List Nat)).flatten),(slq rfl),A⟩
 ·replace h:=h.2;refine Zku false ZUw (tr rfl a7) rfl rfl ?_
  have bh:=bd _ rfl;refine dn (Z2 rfl rfl (ZMy (Zd (sr (Za (v:=vvP I) rfl (Zc (v:=vvP I) rfl (dn (ZM3 ?_))))))))
  exact Zi rfl (Ze rfl) ⟨I,bj,ak,rfl,h,bh,a5,(A.getM 0 rfl),(λx_ L=>(A.anyX 0 rfl x_ L).symm),A.belO⟩ (.inl rfl)
end Go.Proofs.YtaagfepgbofmlaaGreat
namespace Go.Proofs.YtaagfepgbofmlaaGreat
open Go Go.RowKit Vc
def Zin (C:Cx) (a:Alg) (n:Int):Prop:=Zky C a n True
theorem Zru (C:Cx) (a:Alg) (n:Int) {cb ab mb:Nat} {A B:Value} {fpA:List Nat} {D:List Lev} {F:List Nat} (h:Zin C a n) (w0:World)
  (G:TAlg.rep a [A,B] fpA w0) (qa:(blk ab 32 [A,B]).holds w0) (qc:(blk cb 198 [.pointer (some ⟨ab,0,none⟩),.map (some mb)]).holds w0) (qx:(cpx C 125 mb D F).holds w0)
  (dq:∀ b,b∈fpA→b∉(cpx C 125 mb D F).fp) (da:ab∉(cpx C 125 mb D F).fp) (dc:cb∉(cpx C 125 mb D F).fp) :
  Calls ZMx 135 #[.pointer (some ⟨cb,0,none⟩),.int .i64 n] w0 λe w'=>∃ (b:Nat) (D':List Lev) (F':List Nat),
   e=.returned (vvP b)∧LvAt D' n b true false∧CpLe D D' F F'∧(cpx C 125 mb D' F').holds w'∧(∀ x,x∈(cpx C 125 mb D' F').fp→x∈(cpx C 125 mb D F).fp∨w0.heap.size≤x)∧BelO (cpx C 125 mb D F).fp w0 w':=by
 refine(Zzs C a n h w0 G qa qc qx dq da dc).mono ?_
 rintro e w' ⟨b,D',F',I,_,L⟩;exact⟨b,D',F',I,L⟩
end Go.Proofs.YtaagfepgbofmlaaGreat
namespace Vc
open Go Go.RowKit
def LvIn (D:List Lev) (n:Int) (b:Nat) (c3 c4:Bool):Prop:=∃ e,e∈D∧e.n=n∧e.b=b∧e.md=true∧(c3=true→e.c3=true)∧(c4=true→e.c4=true)
theorem LvIn.up {S:Nat→Prop} {D D':List Lev} {F F':List Nat} {n:Int} {b:Nat} {c3 c4:Bool} (h:LvIn D n b c3 c4) (k:CpX S D D' F F'):LvIn D' n b c3 c4:=by
 obtain ⟨e,A,B,G,I,L,O⟩:=h;obtain ⟨U,V,k2⟩:=k.up e A;exact⟨U,V,k2.n.trans B,k2.b.trans G,k2.md I,λq=>k2.c3 (L q),λq=>k2.c4 (O q)⟩
theorem LvAt.inn {D:List Lev} {n:Int} {b:Nat} (h:LvAt D n b true false):LvIn D n b false false:=by
 obtain ⟨e,A,B,G,I,_⟩:=h;exact⟨e,A,B,G,I rfl,λq=>(ZT9 q).elim,λq=>(ZT9 q).elim⟩
section
variable {C:Cx} {lt mb:Nat} {D:List Lev} {F:List Nat} {w:World} {n:Int} {b:Nat} {c3 c4 md:Bool}
theorem Zzt (h:(cpx C lt mb D F).holds w) (hl:LvAt D n b true false) (hr:Ze3 D):∃ L O U I V v5,(blk b lt [L,O,U,I,V,v5]).holds w∧∃ A m c,I=.slice A m c∧∀ a,A=some a→LvAt D n b true true:=by
 obtain ⟨e,B,rfl,rfl,h2,_⟩:=hl;obtain ⟨_,_,_,_,a3,b3,_⟩:=h.2.2.1.2 e B;refine⟨_,_,_,_,_,_,Zdf h.2.1 B,?_⟩
 cases q:e.c3 with
 | false=>exact⟨none,0,0,a3 q,λa G=>by cases G⟩
 | true =>
  obtain ⟨A,m,c,G⟩:=Zge (b3 q);exact⟨A,m,c,G,λa _=>⟨e,B,rfl,rfl,h2,λ_=>⟨q,hr e B q⟩⟩⟩
theorem Zio (h:(cpx C lt mb D F).holds w) (hl:LvIn D n b c3 c4):∃ A O B G I U,(blk b lt [A,O,B,G,I,U]).holds w∧((EA .i64).ty.sl).rep (C.LV n) [A] F w∧(((EI .i64).ty.sl).sl).rep (C.MX n) [B] F w ∧
  (c3=true→(((EI .i64).ty.sl).sl).rep (C.CL n) [G] F w)∧(c4=true→(((EI .i64).ty.sl).sl).rep (C.BD n) [I] F w):=by
 obtain ⟨e,L,rfl,rfl,V,h3,h4⟩:=hl;obtain ⟨g1,g2,g3,g4,_,b3,_,b4,_⟩:=h.2.2.1.2 e L;exact⟨_,_,_,_,_,_,Zdf h.2.1 L,g1,g4 V,λq=>b3 (h3 q),λq=>b4 (h4 q)⟩
theorem Zrv {cd:Bool} (h:(cpx C lt mb D F).holds w) (hl:LvAt D n b md cd):b≠mb:=by
 obtain ⟨e,A,_,rfl,_⟩:=hl;exact λq=>h.2.2.2.1 (q ▸ ZE1.2 ⟨e,A,rfl⟩)
theorem Zzu (h:(cpx C lt mb D F).holds w) (hl:LvIn D n b c3 c4):b≠mb:=by
 obtain ⟨e,A,_,rfl,_⟩:=hl;exact λq=>h.2.2.2.1 (q ▸ ZE1.2 ⟨e,A,rfl⟩)
theorem Zrw {t:Nat} {cs:List Value} {w':World} (A:BelB mb w w') (h:(blk b t cs).holds w) (hne:b≠mb):(blk b t cs).holds w':=(A.old b (Zb2 h) hne).trans h
theorem Zzv {α:Type} {T:Ty α} {x:α} {cs:List Value} {w':World} (h:T.rep x cs F w) (A:BelB mb w w') (hm:mb∉F):T.rep x cs F w':=T.keep (λc hc=>A.old c (T.low h c hc) (λe=>hm (e ▸ hc))) h
theorem Zzw {D:List Lev} (hd:(D.map (·.b)).Nodup) {e e':Lev} (h:e∈D) (h':e'∈D) (hb:e.b=e'.b):e=e':=by
 induction D with
 | nil=>cases h
 | cons x D ih =>
  rw [ZFw,ZP3] at hd
  rcases ZEn.1 h with q | q <;> rcases ZEn.1 h' with z | z
  ·exact q.trans z.symm
  ·exact absurd (show x.b∈D.map (·.b) from ZE1.2 ⟨e',z,by rw [← q]; exact hb.symm⟩) hd.1
  ·exact absurd (show x.b∈D.map (·.b) from ZE1.2 ⟨e,q,by rw [← z]; exact hb⟩) hd.1
  ·exact ih hd.2 q z
theorem Zrx (h:(cpx C lt mb D F).holds w) (hl:LvAt D n b md true):∀ e,e∈D→e.b=b→e.c4=true∧e.c5=true:=λe he hb=>by
 obtain ⟨G,A,_,I,_,B⟩:=hl;obtain rfl:=Zzw h.2.1.2 he A (hb.trans I.symm);exact(B rfl).2
end
theorem Zzx {C:Cx} {lt mb a e0:Nat} {D1 D2:List Lev} {ev ev':Lev} {F f:List Nat} {v:Value} {xs:List (List Int)} {w w':World} (h:(cpx C lt mb (D1++ev::D2) F).holds w) (ht:(ZM8 (ZT0 a (ZT0 e0 (EI .i64).tr)) xs [v] f).holds w)
  (hd:∀ x,x∈(cpx C lt mb (D1++ev::D2) F).fp→x∉f) (hn:ev'.n=ev.n) (hb:ev'.b=ev.b) (hblk:(blk ev.b lt ev'.cells).holds w') (ho:∀ k,k≠ev.b→w'.heap[k]? = w.heap[k]?)
  (hlc:LvC C F ev w→(∀ b,b∈F++f→b < w.heap.size)→(((EI .i64).ty.sl).sl).rep xs [v] f w→LvC C (F++f) ev' w):(cpx C lt mb (D1++ev'::D2) (F++f)).holds w':=by
 have hbs:(D1++ev'::D2).map (·.b)=(D1++ev::D2).map (·.b):=by simp [hb]
 have hks:(D1++ev'::D2).map Lev.key=(D1++ev::D2).map Lev.key:=by simp [Lev.key,hb,hn]
 have inD:ev.b∈(D1++ev::D2).map (·.b):=ZE1.2 ⟨ev,by simp,rfl⟩
 have inF:ev.b∈(cpx C lt mb (D1++ev::D2) F).fp:=ZT3 _ (ZE7 _ inD);have hlow:∀ x,x∈f→x < w.heap.size:=λx hx=>ZT2 _ w ht x hx
 have hlF:∀ x,x∈F→x < w.heap.size:=λx hx=>h.2.2.1.1 x hx
 have hlA:∀ b,b∈F++f→b < w.heap.size:=λb hb=>(ZEt.1 hb).elim (hlF b) (hlow b)
 have neF:∀ x,x∈F++f→x≠ev.b:=λx hx e=>by
  subst e;rcases ZEt.1 hx with q | q
  ·exact h.2.2.2.2.2 _ inD q
  ·exact hd _ inF q
 obtain ⟨G,B,A⟩:=Znf h.2.1;refine⟨?_,?_,?_,?_,?_,?_⟩
 ·rw [hks]
  exact ZT4 _ w w' (λc hc=>ho c (λe=>by
   have:c=mb:=by simpa [Z6] using hc
   exact h.2.2.2.1 (this ▸ e ▸ inD))) h.1
 ·refine Zng (e:=ev') (by rw [hb]; exact hblk) (ZT4 _ w w' (λc hc=>ho c (λe=>A c (by simp [blk,e]) hc)) B) (λx hx=>A x ?_)
  have:x=ev.b:=by rw [← hb]; simpa [blk] using hx
  simp [blk,this]
 ·exact ZT4 _ w w' (λc hc=>ho c (neF c hc)) (Znh (e:=ev) (e':=ev') h.2.2.1 hlow λhc=>hlc hc hlA (ZUd _ ht.1))
 ·rw [hbs]; exact h.2.2.2.1
 ·intro q;rcases ZEt.1 q with q | q
  ·exact h.2.2.2.2.1 q
  ·exact hd mb Zcq q
 ·intro b hbm q;rw [hbs] at hbm
  rcases ZEt.1 q with q | q
  ·exact h.2.2.2.2.2 b hbm q
  ·exact hd b (ZT3 _ (ZE7 _ hbm)) q
section
variable {X:Nat→Prop} {w0 w w':World} {M Ps:List Item}
theorem Ctx.put {C:Cx} {lt mb a e0:Nat} {D1 D2:List Lev} {ev ev':Lev} {F f:List Nat} {v:Value} {xs:List (List Int)} (h:Ctx X w0 w (cpx C lt mb (D1++ev::D2) F::ZM8 (ZT0 a (ZT0 e0 (EI .i64).tr)) xs [v] f::M) Ps)
  (hn:ev'.n=ev.n) (hb:ev'.b=ev.b) (hos:w'.os=w.os) (hta:w'.tape=w.tape) (hou:w'.output=w.output) (hsz:w'.heap.size=w.heap.size) (hdr:w.drawn≤w'.drawn) (hblk:(blk ev.b lt ev'.cells).holds w') (ho:∀ k,k≠ev.b→w'.heap[k]? = w.heap[k]?)
  (hlc:LvC C F ev w→(∀ b,b∈F++f→b < w.heap.size)→(((EI .i64).ty.sl).sl).rep xs [v] f w→LvC C (F++f) ev' w):Ctx X w0 w' (cpx C lt mb (D1++ev'::D2) (F++f)::M) Ps:=by
 have hbs:(D1++ev'::D2).map (·.b)=(D1++ev::D2).map (·.b):=by simp [hb]
 have inF:ev.b∈(cpx C lt mb (D1++ev::D2) F).fp:=ZT3 _ (ZE7 _ (ZE1.2 ⟨ev,by simp,rfl⟩))
 have A:=h.gather (c:=Item.and (cpx C lt mb (D1++ev::D2) F) (ZM8 (ZT0 a (ZT0 e0 (EI .i64).tr)) xs [v] f)) (λx hx=>ZEt.1 hx) (λp q _=>⟨p,q⟩)
 exact A.turn 0 rfl hos hta hou (by omega) hdr (λc _ hc=>ho c (λe=>hc (ZE7 _ (e ▸ inF)))) (Zzx (h.getM 0 rfl) (h.getM 1 rfl) (h.mm 0 1 rfl rfl (by decide)) hn hb hblk ho hlc) (λx hx=>.inl (by
  rcases ZEn.1 hx with rfl | hx
  ·exact ZE7 _ Zcq
  ·rcases ZEt.1 hx with q | q
   ·rw [hbs] at q; exact ZE7 _ (ZT3 _ (ZE7 _ q))
   ·rcases ZEt.1 q with q | q
    ·exact ZE7 _ (Zcp q)
    ·exact ZE6 _ q))
theorem Zkz {D1 D2:List Lev} {ev ev':Lev} {F f:List Nat} (h:ev.Le ev'):CpX (λx=>x=ev.b) (D1++ev::D2) (D1++ev'::D2) F (F++f):=by
 refine⟨λz hz=>?_,λz hz hs A=>?_,λx hx=>ZE7 _ hx⟩
 ·rcases ZEt.1 hz with q | q
  ·exact⟨z,ZE7 _ q,.refl z⟩
  ·rcases ZEn.1 q with rfl | q
   ·exact⟨ev',ZE6 _ ZUb,h⟩
   ·exact⟨z,ZE6 _ (ZT3 _ q),.refl z⟩
 ·rcases ZEt.1 hz with q | q
  ·exact .inr ⟨z,ZE7 _ q,rfl,A,id,id⟩
  ·rcases ZEn.1 q with rfl | q
   ·exact absurd h.b hs
   ·exact .inr ⟨z,ZE6 _ (ZT3 _ q),rfl,A,id,id⟩
theorem Ctx.noBd {C:Cx} {lt mb:Nat} {D:List Lev} {F:List Nat} {n:Int} {b:Nat} (A:Ctx X w0 w (cpx C lt mb D F::M) Ps) (hl:LvIn D n b true false) (hb:C.BD n=[]) :
  ∃ D',CpX (λx=>x=b) D D' F F∧LvIn D' n b true true∧Ctx X w0 w (cpx C lt mb D' F::M) Ps:=by
 obtain ⟨e,B,rfl,rfl,G,I,_⟩:=hl;cases q:e.c4 with
 | true=>exact⟨D,.refl _ _,⟨e,B,rfl,rfl,G,I,λ_=>q⟩,A⟩
 | false =>
  obtain ⟨D1,D2,rfl⟩:=ZUm B;have hle:e.Le { e with c4:=true }:=⟨rfl,rfl,id,id,λ_=>rfl,id⟩
  have L:=Zkz (D1:=D1) (D2:=D2) (F:=F) (f:=[]) hle;rw [ZUi] at L
  refine⟨D1++{ e with c4:=true }::D2,L,⟨{ e with c4:=true }, by simp,rfl,rfl,G,I,λ_=>rfl⟩,A.recast (λx hx=>?_) (λh=>?_)⟩
  ·have:(D1++({ e with c4:=true }:Lev)::D2).map (·.b)=(D1++e::D2).map (·.b):=by simp
   simpa [cpx,this] using hx
  ·have hbs:(D1++({ e with c4:=true }:Lev)::D2).map (·.b)=(D1++e::D2).map (·.b):=by simp
   have hks:(D1++({ e with c4:=true }:Lev)::D2).map Lev.key=(D1++e::D2).map Lev.key:=by simp [Lev.key]
   obtain ⟨O,U,V⟩:=Znf h.2.1;refine⟨by rw [hks]; exact h.1,Zng (e:={ e with c4:=true }) O U V,?_,by rw [hbs]; exact h.2.2.2.1,h.2.2.2.2.1,by rw [hbs]; exact h.2.2.2.2.2⟩
   have:=Znh (F1:=[]) (e':={ e with c4:=true }) h.2.2.1 (by simp) (λhc=>by
    rw [ZUi];obtain ⟨g1,g2,g3,g4,a3,b3,a4,b4,a5,b5⟩:=hc
    exact⟨g1,g2,g3,g4,a3,b3,λz=>ZUn z,λ_=>by
     show (((EI .i64).ty.sl).sl).rep (C.BD e.n) [e.vd] F w
     rw [hb,a4 q];exact ZT8 _ (Zl0 _ _) (by simp) h.2.2.1.1,a5,b5⟩)
   rwa [ZUi] at this
theorem Ctx.back {it:Item} (h:Ctx X w0 w M (it::Ps)) (hz:∀ b,b∈it.fp→w0.heap.size≤b∨X b) (hp:∀ jt,jt∈Ps→∀ b,b∈jt.fp→b∉it.fp):Ctx X w0 w (it::M) Ps :=
  { h with
    m:=fun x hx=>(ZEn.1 hx).elim (fun e=>e ▸ h.p it ZUb) (h.m x)
    p:=fun x hx=>h.p x (ZT3 _ hx)
    mfp:=fun x hx=>(ZEn.1 hx).elim (fun e=>e ▸ hz) (h.mfp x)
    dis:=ZEx.2 ⟨fun m hm x hx=>h.pd it ZUb x hx m hm,h.dis⟩
    pd:=fun x hx b hb m hm=>(ZEn.1 hm).elim (fun e=>e ▸ hp x hx b hb) (h.pd x (ZT3 _ hx) b hb m) }
theorem Ctx.off (h:Ctx X w0 w M Ps) (k:Nat) {it:Item} (hk:M[k]? = some it):∀ jt,jt∈Ps→∀ b,b∈jt.fp→b∉it.fp:=λjt hj b hb=>h.pd jt hj b hb it (List.mem_of_getElem? hk)
variable {P:Program} {ops:Array Oper} {Q:Exit→Act→World→Prop} {m:Nat} {e:Env} {rest:List Oper} {d ty:Nat} {pos:String} {af:Array Edge} {x y:Operand} {ty':Nat}
variable {C:Cx} {lt mb a e0:Nat} {D:List Lev} {F f:List Nat} {n:Int} {b:Nat} {c3 c4:Bool} {v:Value}
theorem Zzy (B:Ctx X w0 w (cpx C lt mb D F::ZM8 (ZT0 a (ZT0 e0 (EI .i64).tr)) (C.CL n) [v] f::M) Ps) (hl:LvIn D n b c3 c4) (L:Xo P ty' 1) (hx:ev m e x=.pointer (some ⟨b,3,none⟩)) (hy:ev m e y=v)
  (h:∀ D' w',CpX (λx=>x=b) D D' F (F++f)→LvIn D' n b true c4→Ctx X w0 w' (cpx C lt mb D' (F++f)::M) Ps→W P ops Q rest m e w'):W P ops Q (⟨none,.store ty' x y,ty,pos,af,none⟩::rest) m e w:=by
 obtain ⟨ev,G,rfl,rfl,O,h3,U⟩:=hl;obtain ⟨D1,D2,rfl⟩:=ZUm G;obtain ⟨A,q,c,I⟩:=Zge (ZUd _ (B.getM 1 rfl).1);obtain ⟨w',hr,hb,hos,hta,hou,hsz,hother⟩:=Zg9 (P:=P) (off:=3) (v:=v) (vc:=[v]) L (Zdf (B.getM 0 rfl).2.1 G) (by rw [I]; rfl) rfl (by rw [I]; rfl) (by simp [Lev.cells])
 refine Zb1 rfl rfl ?_ (h _ w' (Zkz (ev':={ ev with vc:=v,c3:=true }) ⟨rfl,rfl,id,λ_=>rfl,id,id⟩) ⟨{ ev with vc:=v,c3:=true }, by simp,rfl,rfl,O,λ_=>rfl,U⟩ (B.put rfl rfl hos hta hou hsz (Zbb _ _ _ _ hr) hb hother λhc hlA hrp=>?_))
 ·simp [execOp,hx,hy,ZUk,ZEy,hr]
 ·obtain ⟨V,g2,g3,g4,a3,b3,a4,b4,a5,b5⟩:=hc.more (F':=F++f) (λb hb=>ZE7 _ hb) hlA
  exact⟨V,g2,g3,g4,λz=>ZUn z,λ_=>ZT8 _ hrp (λb hb=>ZE6 _ hb) hlA,a4,b4,a5,b5⟩
theorem Zzz (B:Ctx X w0 w (cpx C lt mb D F::ZM8 (ZT0 a (ZT0 e0 (EI .i64).tr)) (C.BD n) [v] f::M) Ps) (hl:LvIn D n b c3 c4) (L:Xo P ty' 1) (hx:ev m e x=.pointer (some ⟨b,4,none⟩)) (hy:ev m e y=v)
  (h:∀ D' w',CpX (λx=>x=b) D D' F (F++f)→LvIn D' n b c3 true→Ctx X w0 w' (cpx C lt mb D' (F++f)::M) Ps→W P ops Q rest m e w'):W P ops Q (⟨none,.store ty' x y,ty,pos,af,none⟩::rest) m e w:=by
 obtain ⟨ev,G,rfl,rfl,O,U,h4⟩:=hl;obtain ⟨D1,D2,rfl⟩:=ZUm G;obtain ⟨A,q,c,I⟩:=Zge (ZUd _ (B.getM 1 rfl).1);obtain ⟨w',hr,hb,hos,hta,hou,hsz,hother⟩:=Zg9 (P:=P) (off:=4) (v:=v) (vc:=[v]) L (Zdf (B.getM 0 rfl).2.1 G) (by rw [I]; rfl) rfl (by rw [I]; rfl) (by simp [Lev.cells])
 refine Zb1 rfl rfl ?_ (h _ w' (Zkz (ev':={ ev with vd:=v,c4:=true }) ⟨rfl,rfl,id,id,λ_=>rfl,id⟩) ⟨{ ev with vd:=v,c4:=true }, by simp,rfl,rfl,O,U,λ_=>rfl⟩ (B.put rfl rfl hos hta hou hsz (Zbb _ _ _ _ hr) hb hother λhc hlA hrp=>?_))
 ·simp [execOp,hx,hy,ZUk,ZEy,hr]
 ·obtain ⟨V,g2,g3,g4,a3,b3,a4,b4,a5,b5⟩:=hc.more (F':=F++f) (λb hb=>ZE7 _ hb) hlA
  exact⟨V,g2,g3,g4,a3,b3,λz=>ZUn z,λ_=>ZT8 _ hrp (λb hb=>ZE6 _ hb) hlA,a5,b5⟩
theorem Zry (B:Ctx X w0 w (cpx C lt mb D F::ZM8 (ZT0 a (ZT0 e0 (EI .i64).tr)) (C.KL n) [v] f::M) Ps) (hl:LvIn D n b true true) (L:Xo P ty' 1) (hx:ev m e x=.pointer (some ⟨b,5,none⟩)) (hy:ev m e y=v)
  (h:∀ D' w',CpX (λx=>x=b) D D' F (F++f)→LvAt D' n b true true→Ctx X w0 w' (cpx C lt mb D' (F++f)::M) Ps→W P ops Q rest m e w'):W P ops Q (⟨none,.store ty' x y,ty,pos,af,none⟩::rest) m e w:=by
 obtain ⟨ev,G,rfl,rfl,O,U,V⟩:=hl;obtain ⟨D1,D2,rfl⟩:=ZUm G;obtain ⟨A,q,c,I⟩:=Zge (ZUd _ (B.getM 1 rfl).1);obtain ⟨w',hr,hb,hos,hta,hou,hsz,hother⟩:=Zg9 (P:=P) (off:=5) (v:=v) (vc:=[v]) L (Zdf (B.getM 0 rfl).2.1 G) (by rw [I]; rfl) rfl (by rw [I]; rfl) (by simp [Lev.cells])
 refine Zb1 rfl rfl ?_ (h _ w' (Zkz (ev':={ ev with vk:=v,c5:=true }) ⟨rfl,rfl,id,id,id,λ_=>rfl⟩) ⟨{ ev with vk:=v,c5:=true }, by simp,rfl,rfl,λ_=>O,λ_=>⟨U rfl,V rfl,rfl⟩⟩ (B.put rfl rfl hos hta hou hsz (Zbb _ _ _ _ hr) hb hother λhc hlA hrp=>?_))
 ·simp [execOp,hx,hy,ZUk,ZEy,hr]
 ·obtain ⟨g1,g2,g3,g4,a3,b3,a4,b4,a5,b5⟩:=hc.more (F':=F++f) (λb hb=>ZE7 _ hb) hlA
  exact⟨g1,g2,g3,g4,a3,b3,a4,b4,λz=>ZUn z,λ_=>ZT8 _ hrp (λb hb=>ZE6 _ hb) hlA⟩
theorem Zrz {t t' el:Nat} {A:Option Addr} {m' c:Nat} (b:Bool) (ht:P.underlying t=some (.slice el)) (hx:ev m e x=.slice A m' c) (hy:ev m e y=.slice none 0 0) (hb:(!A.isNone)=b)
  (h:W P ops Q rest m (upd e d (.bool b)) w):W P ops Q (⟨some d,.binOp .neq t x y t',ty,pos,af,none⟩::rest) m e w:=by
 subst hb;have hq:(eqGuard .neq t x y (.slice A m' c) (.slice none 0 0)).run P w=.ok () w:=by unfold eqGuard; simp
 have hr:(binOp .neq t (.slice A m' c) (.slice none 0 0)).run P w=.ok (.bool !A.isNone) w:=by
  simp [binOp,Zq5 ht]
 exact Yv _ rfl rfl (by simp only [execOp,hx,hy,ZEm,hq,ZEo,hr,ZEq]) h
end
end Vc
