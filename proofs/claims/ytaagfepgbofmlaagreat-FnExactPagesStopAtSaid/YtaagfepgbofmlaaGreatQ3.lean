import Derived.Test.YtaagfepgbofmlaaGreatQ2
set_option linter.unusedSectionVars false
set_option linter.unusedSimpArgs false
set_option linter.unusedVariables false
open Bool renaming false_ne_true→ZJr,noConfusion→ZJ4
open Go renaming wp_seq→ZB9,wp_block→ZCf,wp_skip→ZCd,wp_ret→ZCi,wp_exit→ZCo
open Go.Addr renaming add_lit→ZKg
open Go.Builtin renaming zeroCells→ZJx,append_→Zwy
open Go.Instr renaming storeAt→ZJ1,sureAddr→Cm,lookup→ZJ7,buildSlice→ZJ8
open Go.IntKind renaming i64→Zwt,wrap_i64→ZJ6
open Go.Program renaming elem→ZJy
open Go.Proofs.Tryz renaming prog→ZCc,underlying122→ZJm,underlying125→ZJo,underlying187→ZJt,underlying22→ZCs,underlying73→ZCw,underlying123→ZJ9,func159→ZKa,underlying198→ZKc,underlying85→ZKd,underlying196→ZKj,func115→ZKk
open Go.Result renaming andThen_ok→Cc
open Go.Sem renaming run_bind→Ca,run_pure→Ce
open Go.Value renaming ownBlock→Fe,slice→ZKh
open Inhabited renaming default→Ci
open Int renaming tdiv→ZJi,natCast_nonneg→ZCq,ofNat_lt→ZC9
open List renaming mem_cons→Cb,mem_append→Ch,mem_append_left→Cv,toArray→ZB7,mem_append_right→Cu,mem_cons_of_mem→ZJk,mem_singleton→Fc,mem_map→Cp,getD→Co,replicate→Cd,pairwise_cons→Cl,map_append→ZJn,mem_singleton_self→ZJp,mem_cons_self→ZJs,length_take→ZJv,nodup_append→Fk,pairwise_iff_getElem→Cq,getElem_of_mem→Cw,mem_or_eq_of_mem_set→ZDp,append_nil→ZJz,length_append→C8,map_cons→Fm,mem_flatten→ZDb,append_of_mem→ZJ3,not_mem_nil→Zwd,length_replicate→ZJ5,length_drop→Zwa,length_set→ZC4,mem_of_mem_take→ZKe,all_eq_true→Fi,nodup_cons→ZFj,take_of_length_le→Fs,eq_nil_of_length_eq_zero→ZKp,pairwise_singleton→ZK0
open Nat renaming le_trans→Cj,le_refl→Cg,not_lt→C2,le_of_ble_eq_true→ZCh,mul_le_mul_right→Zww,add_mul→Cs,zero_le→Fq,lt_of_lt_of_le→Zwo
open Option renaming toList→ZDa,map_some→Fw,map_none→ZJ0
open Vc.A8 renaming enc→ZB6,zero→ZCe
open Vc.Ctx renaming start→ZCu
open Vc.Enc renaming encs→ZJw,encs_append→ZC1
open Vc.Item renaming low→ZJj,keep→ZJl
open Vc.Tr renaming sl→ZJh,item→ZCn,trep→ZJu
open Vc.Ty renaming item→ZB8,more→ZJq
namespace Go.Proofs.YtaagfepgbofmlaaGreat
open Go Vc
theorem Zbj {a b:A8} {K:Bool->Prop} (h:K (decide (pcmp a b < 0))):Qu a b K:=by
 simp only [Qu,Z1,A8.get];simp only [pcmp,A8.list,J8] at h
 have e:∀ x y:Int,decide (x - y < 0)=decide (x < y):=λx y=>decide_eq_decide.2 (by omega)
 repeat' split
 all_goals (simp_all)
theorem T8 {x:Int} {K:Int->Prop} (h:K (x % 10007)):Jk x K:=by
 unfold Jk;have:=Ha x;rw [i64_in _ (by omega),Zfu]
 exact h
theorem Zbk {x:Int} {K:Int->Prop} (h:K (x % 10007)):T3 x K:=by
 unfold T3;have:=Ha x;rw [i64_in _ (by omega),Zfu]
 exact h
theorem E6 {a b:Int} (ha:0<=a/\a<=10006) (hb:0<=b/\b<=10006):0<=a * b/\a * b<=100120036 :=
 ⟨Int.mul_nonneg ha.1 hb.1,by have:=Int.mul_le_mul ha.2 hb.2 hb.1 (by omega:(0:Int)<=10006); omega⟩
theorem Zbl {S:Type} {c:Prop} [Decidable c] {A B:(S->Prop)->Prop} {T:S->Prop} (h:c) (k:A T):joinP (λJ=>if c then A J else B J) T:=by show if c then A T else B T; rw [if_pos h]; exact k
theorem E7 {S:Type} {c:Prop} [Decidable c] {A B:(S->Prop)->Prop} {T:S->Prop} (h:¬ c) (k:B T):joinP (λJ=>if c then A J else B J) T:=by show if c then A T else B T; rw [if_neg h]; exact k
theorem Mu {A B:Prop} (h:A):if true=true then A else B:=by simpa using h
theorem E8 {A B:Prop} (h:B):if false=true then A else B:=by simpa using h
theorem Y4 {c:Prop} [Decidable c] {A B:Prop} (h:c) (k:A):if c then A else B:=by rw [if_pos h]; exact k
theorem Y8 {c:Prop} [Decidable c] {A B:Prop} (h:¬ c) (k:B):if c then A else B:=by rw [if_neg h]; exact k
theorem Zf1 {f g:List Term} {k:Int} {K:Vc.Form->Prop} (cf:Canon f) (cg:Canon g) (hk:0<=k/\k<=10006) (hf:f.length<=100000000) (hg:g.length<=100000000) (h:∀ out,IsAdd f g k out->K ⟨out⟩):V3 ⟨f⟩ ⟨g⟩ k K:=by
 unfold V3;dsimp only;refine Jj (λ(s:List Term×Int×Int)=>0<=s.2.1/\0<=s.2.2/\AddI f g k s.1 s.2.1.toNat s.2.2.toNat) (λs=>(f.length - s.2.1.toNat)+(g.length - s.2.2.toNat)) ?_ ⟨Int.le_refl _,Int.le_refl _,AddI.zero f g k⟩
 rintro ⟨out,i,j⟩ next ⟨I,L,A⟩ hn;have hi:=A.hi;have hj:=A.hj;have hln:=A.ln;have B:Zw (out.length+1) 16:=by unfold Zw; dsimp only at hln hi hj ⊢; omega
 dsimp only at I L A hi hj B hn ⊢
 have ni:(i+1).toNat=i.toNat+1:=by omega
 have nj:(j+1).toNat=j.toNat+1:=by omega
 have wi:Zwt.wrap (i+1)=i+1:=i64_in _ (by omega)
 have wj:Zwt.wrap (j+1)=j+1:=i64_in _ (by omega)
 rw [wi,wj]
 have goF:i.toNat < f.length->(j.toNat < g.length->pcmp (f.getD i.toNat Ci).mono (g.getD j.toNat Ci).mono < 0)->next (out++[f.getD i.toNat Ci],i+1,j):=λa b =>
  hn _ ⟨by dsimp only; omega,by dsimp only; omega,by dsimp only; rw [ni]; exact A.stepF cf cg a b⟩ (by dsimp only; omega)
 have bg:j.toNat < g.length->1<=(g.getD j.toNat Ci).factor/\(g.getD j.toNat Ci).factor<=10006:=λa=>cg.at_range a
 have bf:i.toNat < f.length->1<=(f.getD i.toNat Ci).factor/\(f.getD i.toNat Ci).factor<=10006:=λa=>cf.at_range a
 have wk:j.toNat < g.length->Zwt.wrap (k * (g.getD j.toNat Ci).factor)=k * (g.getD j.toNat Ci).factor:=λa=>by
  have:=bg a;have:=E6 hk (show 0<=(g.getD j.toNat Ci).factor/\(g.getD j.toNat Ci).factor<=10006 by omega)
  exact i64_in _ (by omega)
 have goG:j.toNat < g.length->(i.toNat < f.length->pcmp (g.getD j.toNat Ci).mono (f.getD i.toNat Ci).mono < 0) ->
   Jk (Zwt.wrap (k * ((g.getD j.toNat Ci).factor))) (λr=>(if r≠0 then((0<=j/\j < (g.length:Int))/\(Zw (out.length+1) 16/\next (out++[(⟨(g.getD j.toNat Ci).mono,r⟩:Term)],i,j+1))) else next (out,i,j+1))):=by
  intro a b;refine T8 ?_
  rw [wk a];split
  ·rename_i q;exact⟨by omega,B,hn _ ⟨by dsimp only; omega,by dsimp only; omega,by dsimp only; rw [nj]; exact A.stepG1 cf cg a b rfl q⟩ (by dsimp only; omega)⟩
  ·rename_i q;exact hn _ ⟨by dsimp only; omega,by dsimp only; omega,by dsimp only; rw [nj]; exact A.stepG0 cf cg a (by omega)⟩ (by dsimp only; omega)
 have goB:i.toNat < f.length->j.toNat < g.length->(f.getD i.toNat Ci).mono=(g.getD j.toNat Ci).mono ->
   ((0<=i/\i < (f.length:Int))/\((0<=j/\j < (g.length:Int))/\Jk (Zwt.wrap (k * ((g.getD j.toNat Ci).factor))) (λr753=>Jk (Zwt.wrap (((f.getD i.toNat Ci).factor)+r753)) (λr758=>(if r758≠0 then((0<=i/\i < (f.length:Int))/\(Zw (out.length+1) 16/\next (out++[(⟨(f.getD i.toNat Ci).mono,r758⟩:Term)],i+1,j+1))) else next (out,i+1,j+1)))))):=by
  intro a b e;refine⟨by omega,by omega,T8 ?_⟩
  rw [wk b];have:=bf a;rw [i64_in _ (by omega)]
  refine T8 ?_
  rw [show ((f.getD i.toNat Ci).factor+k * (g.getD j.toNat Ci).factor % 10007) % 10007=((f.getD i.toNat Ci).factor+k * (g.getD j.toNat Ci).factor) % 10007 by omega]
  split
  ·rename_i q;exact⟨by omega,B,hn _ ⟨by dsimp only; omega,by dsimp only; omega,by dsimp only; rw [ni,nj]; exact A.stepB1 cf cg a b e rfl q⟩ (by dsimp only; omega)⟩
  ·rename_i q;exact hn _ ⟨by dsimp only; omega,by dsimp only; omega,by dsimp only; rw [ni,nj]; exact A.stepB0 cf cg a b e (by omega)⟩ (by dsimp only; omega)
 by_cases hif:i < (f.length:Int)
 ·refine Zbl hif (Mu ?_)
  by_cases hjg:j=(g.length:Int)
  ·exact Zbl hjg (Mu ⟨by omega,B,goF (by omega) (λq=>by omega)⟩)
  ·refine E7 hjg (Y4 hif ⟨by omega,by omega,Zbj ?_⟩)
   by_cases hp:pcmp (f.getD i.toNat Ci).mono (g.getD j.toNat Ci).mono < 0
   ·rw [decide_eq_true hp];exact Mu ⟨by omega,B,goF (by omega) (λ_=>hp)⟩
   ·rw [decide_eq_false hp];refine E8 (E7 (by omega) ⟨by omega,by omega,Zbj ?_⟩)
    by_cases hq:pcmp (g.getD j.toNat Ci).mono (f.getD i.toNat Ci).mono < 0
    ·rw [decide_eq_true hq];exact Mu ⟨by omega,goG (by omega) (λ_=>hq)⟩
    ·rw [decide_eq_false hq];exact E8 (goB (by omega) (by omega) (Ez hp hq))
 ·refine E7 hif ?_
  by_cases hjg:j < (g.length:Int)
  ·rw [decide_eq_true hjg];refine Mu (E7 (by omega) (Y8 hif (E8 (Zbl (by omega) (Mu ⟨by omega,goG (by omega) (λq=>by omega)⟩)))))
  ·rw [decide_eq_false hjg];exact E8 (h _ (A.done (by omega) (by omega)))
def OkForm (ds:List Int) (l:List Term):Prop:=l.length<=400/\∀ i,i < l.length->OkMono ds (l.getD i Ci).mono/\(1<=(l.getD i Ci).factor/\(l.getD i Ci).factor<=10006)/\(0 < i->pcmp (l.getD (i - 1) Ci).mono (l.getD i Ci).mono < 0)
instance (ds:List Int) (l:List Term):Decidable (OkForm ds l):=inferInstanceAs (Decidable (_/\∀ i,i < l.length->_))
theorem OkForm.canon {ds:List Int} {l:List Term} (h:OkForm ds l):Canon l:=by
 have step:∀ n i,i+n+1 < l.length->pcmp (l.getD i Ci).mono (l.getD (i+n+1) Ci).mono < 0:=by
  intro n
  induction n with
  | zero=>intro i hi; have:=(h.2 (i+1) (by omega)).2.2 (by omega); simpa using this
  | succ n ih =>
   intro i hi;have B:=ih i (by omega)
   have A:=(h.2 (i+(n+1)+1) (by omega)).2.2 (by omega)
   rw [show i+(n+1)+1 - 1=i+n+1 by omega] at A
   exact Uz B A
 refine⟨Cq.2 λi j hi hj hij=>?_,λt ht=>?_⟩
 ·have:=step (j - i - 1) i (by omega)
  rw [show i+(j - i - 1)+1=j by omega] at this
  simpa [Co,hi,hj] using this
 ·obtain ⟨i,hi,rfl⟩:=Cw ht;have:=(h.2 i hi).2.1;simpa [Co,hi] using this
theorem OkForm.mono {ds:List Int} {l:List Term} (h:OkForm ds l) {t:Term} (ht:t∈l):OkMono ds t.mono:=by
 obtain ⟨i,hi,rfl⟩:=Cw ht;have:=(h.2 i hi).1;simpa [Co,hi] using this
theorem Zn2 {ds:List Int} {l:List Term} (hc:Canon l) (hl:l.length<=400) (hm:∀ t,t∈l->OkMono ds t.mono):OkForm ds l :=
 ⟨hl,λi hi=>⟨hm _ (Yw hi),hc.at_range hi,λh=>hc.at_lt (by omega) hi⟩⟩
def Q6 (l:List Term):Prop:=∀ t,t∈l->∀ i,i < 8->0<=t.mono.get i/\t.mono.get i<=255
theorem Zn3 {ds:List Int} {l:List Term} {K:Bool->Prop} (hd:ds.length<=8) (hp:Q6 l) (hl:l.length<=100000000) (h:K (decide (OkForm ds l))):Ki ds ⟨l⟩ K:=by
 unfold Ki;dsimp only;refine Jj (λ(s:Int)=>0<=s/\s<=l.length/\∀ i,i < s.toNat->OkMono ds (l.getD i Ci).mono/\(1<=(l.getD i Ci).factor/\(l.getD i Ci).factor<=10006)/\(0 < i->pcmp (l.getD (i - 1) Ci).mono (l.getD i Ci).mono < 0)) (λs=>l.length - s.toNat) ?_ ⟨by omega,by omega,λi hi=>by omega⟩
 rintro i next ⟨V,h2,I⟩ hn
 have bad:(i.toNat < l.length)->¬ (OkMono ds (l.getD i.toNat Ci).mono/\(1<=(l.getD i.toNat Ci).factor/\(l.getD i.toNat Ci).factor<=10006)/\(0 < i.toNat->pcmp (l.getD (i.toNat - 1) Ci).mono (l.getD i.toNat Ci).mono < 0))->K false:=by
  intro a b;have:¬ OkForm ds l:=λq=>b (q.2 _ a)
  rwa [decide_eq_false this] at h
 split
 ·rename_i hi;have a:i.toNat < l.length:=by omega
  refine⟨by omega,Zm2 (λq hq=>(hp _ (Yw a) q hq).1) hd ?_⟩
  split
  ·rename_i q;exact bad a λz=>q (decide_eq_true z.1)
  ·rename_i A;have A:OkMono ds (l.getD i.toNat Ci).mono:=by simpa using A
   refine Zbc ?_
   split
   ·rename_i q;exact bad a λz=>q (decide_eq_true z.2.1)
   ·rename_i B;have B:1<=(l.getD i.toNat Ci).factor/\(l.getD i.toNat Ci).factor<=10006:=by simpa using B
    have L:Zwt.wrap (i+1)=i+1:=i64_in _ (by omega)
    rw [L]
    have ok:(0 < i.toNat->pcmp (l.getD (i.toNat - 1) Ci).mono (l.getD i.toNat Ci).mono < 0)->next (i+1):=λO=>by
     refine hn _ ⟨by omega,by omega,λj hj=>?_⟩ (by omega)
     by_cases hji:j=i.toNat
     ·subst hji; exact⟨A,B,O⟩
     ·exact I j (by omega)
    split
    ·have U:Zwt.wrap (i - 1)=i - 1:=i64_in _ (by omega)
     rw [U,show (i - 1).toNat=i.toNat - 1 by omega]
     refine⟨by omega,Zbj ?_⟩
     split
     ·rename_i q;exact bad a λz=>q (decide_eq_true (z.2.2 (by omega)))
     ·rename_i q;exact ok λ_=>by simpa using q
    ·exact ok λq=>by omega
 ·rename_i hi;have:OkForm ds l↔(l.length:Int)<=400:=⟨λq=>by have:=q.1; omega,λq=>⟨by omega,λi hi'=>I i (by omega)⟩⟩
  rw [decide_eq_decide.2 this] at h
  exact h
theorem Zbm {s a b:Int} (hs:s=1\/s=-1) (ha:1<=a/\a<=10006) (hb:1<=b/\b<=10006):Zwt.wrap (Zwt.wrap (s * a) * b)=s * (a * b):=by
 have:=E6 (show 0<=a/\a<=10006 by omega) (show 0<=b/\b<=10006 by omega)
 rcases hs with rfl | rfl
 ·rw [i64_in (1 * a) (by omega),Int.mul_assoc,i64_in _ (by omega)]
 ·rw [i64_in (-1 * a) (by omega),Int.mul_assoc,i64_in _ (by omega)]
theorem Zn4 {ds:List Int} {t:Term} {g:List Term} {K:Vc.Form->Prop} (hd:OkDeg ds) (ht:Jr ds t.mono) (htf:1<=t.factor/\t.factor<=10006) (pt:∀ i,i < 8->0<=t.mono.get i) (cg:Canon g) (wg:∀ u,u∈g->Jr ds u.mono) (pg:Q6 g) (hl:g.length<=100000000)
  (h:∀ out,IsShift ds t g out->K ⟨out⟩):Kh ds t ⟨g⟩ K:=by
 unfold Kh;dsimp only;refine Jj (λ(s:List Term×Int)=>0<=s.2/\s.2<=g.length/\IsShift ds t (g.take s.2.toNat) s.1) (λs=>g.length - s.2.toNat) ?_ ⟨by omega,by omega,by simpa using IsShift.nil ds t⟩
 rintro ⟨out,i⟩ next ⟨B,I,A⟩ hn;dsimp only at B I A hn ⊢
 split
 ·rename_i hi;have a:i.toNat < g.length:=by omega
  have hu:=Yw a;have ni:(i+1).toNat=i.toNat+1:=by omega
  have wi:Zwt.wrap (i+1)=i+1:=i64_in _ (by omega)
  rw [wi]
  have hct:Canon (g.take i.toNat++[g.getD i.toNat Ci]):=by
   rw [<- Xk a]
   exact⟨cg.1.sublist (List.take_sublist _ _),λs hs=>cg.2 s (ZKe hs)⟩
  refine⟨by omega,Zna hd ht (wg _ hu) pt (λq hq=>(pg _ hu q hq).1) ?_⟩
  split
  ·rename_i hs;have hf:=cg.at_range a;have hln:=A.ln;simp only [ZJv] at hln
   refine⟨by omega,T8 ?_⟩
   rw [Zbm (Q2 hs).2.2 htf hf];refine⟨by unfold Zw; omega,hn _ ⟨by dsimp only; omega,by dsimp only; omega,?_⟩ (by dsimp only; omega)⟩
   dsimp only;rw [ni,Xk a];exact A.put hct htf hs rfl
  ·rename_i hs;refine hn _ ⟨by dsimp only; omega,by dsimp only; omega,?_⟩ (by dsimp only; omega)
   dsimp only;rw [ni,Xk a];exact A.skip (by simpa using hs)
 ·rename_i hi;rw [Fs (by omega)] at A
  exact h _ A
theorem Zf2 {ds:List Int} {f g:List Term} {K:Vc.Form->Prop} (hd:OkDeg ds) (cf:Canon f) (wf:∀ u,u∈f->Jr ds u.mono) (pf:Q6 f) (cg:Canon g) (wg:∀ u,u∈g->Jr ds u.mono) (pg:Q6 g) (hf:f.length<=10000) (hg:g.length<=10000)
  (h:∀ out,IsProd ds f g out->K ⟨out⟩):Ww ds ⟨f⟩ ⟨g⟩ K:=by
 unfold Ww;dsimp only;refine Jj (λ(s:List Term×Int)=>0<=s.2/\s.2<=f.length/\IsProd ds (f.take s.2.toNat) g s.1) (λs=>f.length - s.2.toNat) ?_ ⟨by omega,by omega,by simpa using IsProd.nil ds g⟩
 rintro ⟨out,i⟩ next ⟨B,I,A⟩ hn;dsimp only at B I A hn ⊢
 split
 ·rename_i hi;have a:i.toNat < f.length:=by omega
  have hu:=Yw a;have ni:(i+1).toNat=i.toNat+1:=by omega
  have wi:Zwt.wrap (i+1)=i+1:=i64_in _ (by omega)
  rw [wi];refine⟨by omega,Zn4 hd (wf _ hu) (cf.at_range a) (λq hq=>(pf _ hu q hq).1) cg wg pg (by omega) λsh hsh=>?_⟩
  have hln:=A.ln;have hls:=hsh.ln;have:(f.take i.toNat).length * g.length<=10000 * 10000:=Nat.mul_le_mul (by rw [ZJv]; omega) hg
  refine Zf1 A.can hsh.can (by omega) (by omega) (by omega) λout' ho=>?_
  refine hn _ ⟨by dsimp only; omega,by dsimp only; omega,?_⟩ (by dsimp only; omega)
  dsimp only;rw [ni,Xk a];exact A.step hsh ho
 ·rename_i hi;rw [Fs (by omega)] at A
  exact h _ A
end Go.Proofs.YtaagfepgbofmlaaGreat
namespace Vc
open Go Go.RowKit
theorem Hh (zc:Value) (m:Nat):ZJx #[zc] m=(Cd m zc).toArray:=by
 unfold ZJx;apply Array.ext
 ·simp
 ·intro i h A;simp [Nat.mod_one]
theorem Zn5 {P:Program} {w:World} (t tn ty e:TypeId) (i:TypeInfo) (z zc:Value) (kq kn:IntKind) (ht:P.underlying t=some (.slice e)) (htn:P.underlying tn=some (.int kn)) (hi:P.info? e=some i) (hz:i.zero=some z) (hzc:z.cells=#[zc]) (A:zc.oneCell'=true)
  (bytes:Nat) (hsize:i.size=1) (hby:i.bytes=bytes) (v:Value) (n:Nat) (xs:List Value) (hown:w.ownsRow 0 e 1 v n xs) (m:Nat) (h:n+m<=maxLen) (hbytes:(n+m) * bytes<=140737488355328) :
  ∃ v' w',(Zwy #[t,tn] ty #[v,.int kq m]).run P w=.ok v' w'/\w'.ownsRow 0 e 1 v' (n+m) (xs++Cd m zc)/\w.grownBy w' v.ownBlock/\(v'.ownBlock=v.ownBlock\/v'.ownBlock=some w.heap.size):=by
 subst hby;have hsmall:n+m<=9223372036854775807:=by simp only [maxLen] at h; omega
 have hlen:(xs++Cd m zc).length=(n+m) * 1:=by rw [C8,hown.1,ZJ5]; omega
 have hmb:m * i.bytes<=140737488355328:=Cj (Zww _ (Nat.le_add_left _ _)) hbytes
 have grown:∀ (old:Nat),old < n+m->∀ (row:Option Nat),
   (w.drew.alloc (.cells (xs.toArray++ZJx z.cells m++ZJx z.cells (grownCap w (n+m) old e - (n+m))) e)).ownsRow 0 e 1
    (.slice (some ⟨w.heap.size,0,none⟩) (n+m) (grownCap w (n+m) old e)) (n+m) (xs++Cd m zc) /\
   w.grownBy (w.drew.alloc (.cells (xs.toArray++ZJx z.cells m++ZJx z.cells (grownCap w (n+m) old e - (n+m))) e)) row:=by
  intro old ho row;have hge:=grownCap_ge w (n+m) old e;have hcm:grownCap w (n+m) old e<=maxLen:=grownCap_le_maxLen w (n+m) old e h;have hx:=hown.1;refine⟨⟨hlen,.inr ⟨w.heap.size,_,_,rfl,Fq _,heap_alloc_new w.drew _,hge,hcm,?_,?_⟩⟩,⟨rfl,rfl,rfl,by simp,λk hk _=>heap_alloc_old w.drew _ hk⟩⟩
  ·rw [hzc,Hh,Hh];simp only [Array.size_append,List.size_toArray,ZJ5];omega
  ·rw [hzc,Hh,Hh];simp only [Array.toList_append,List.append_assoc];rw [<- List.append_assoc,<- hlen]
   exact List.take_left
 have hw:Zwt.wrap (m:Int)=m:=by rw [ZJ6]; omega
 have h48i:¬ (281474976710656 < (m:Int) * (i.bytes:Int)):=by rw [<- Int.natCast_mul]; omega
 have hneg:¬ ((m:Int) < 0):=by omega
 rcases hown.2 with ⟨rfl,rfl⟩ | ⟨g,cap,cur,rfl,hbg,hg,hnc,hcm,hcs,htake⟩
 ·have hx:xs=[]:=ZKp (by simpa using hown.1)
  subst hx;by_cases hm:m=0
  ·subst hm;refine⟨.slice none 0 0,w,?_,World.ownsRow_nil w 0 e 1,⟨rfl,rfl,rfl,Cg _,λ_ _ _=>rfl⟩,Or.inl rfl⟩
   simp [Zwy,run_underlying ht,run_underlying htn,Go.sizeOf,typeInfo,hi,asInt,asIntOf,ZJ6]
  ·have hr:=Lib.run_append_nil_zeros (P:=P) w t tn ty e i z kq kn ht htn hi hz m (by omega) (by omega) (by omega) (by omega)
   have hgr:=grown 0 (by omega) (Fe (.slice none 0 0))
   simp only [Nat.zero_add,List.nil_append,Array.empty_append] at hgr ⊢
   exact⟨_,_,hr,hgr.1,hgr.2,Or.inr rfl⟩
 ·by_cases hroom:n+m<=cap
  ·have hfit:n * 1+(Cd m zc).length<=cur.size:=by rw [hcs,ZJ5]; omega
   have hst:=run_storeCells_at P g (n * 1) e (Cd m zc) 0 cur w hg (by simpa using hfit) (λu hu=>by rw [(List.mem_replicate.1 hu).2]; exact A)
   simp only [Nat.add_zero] at hst
   have hr:(Zwy #[t,tn] ty #[.slice (some ⟨g,0,none⟩) n cap,.int kq m]).run P w=.ok (.slice (some ⟨g,0,none⟩) (n+m) cap) (w.setRow g (cur.toList.take (n * 1)++Cd m zc++cur.toList.drop (n * 1+(Cd m zc).length)).toArray):=by
    by_cases hm:m=0
    ·subst hm;simp only [List.replicate_zero] at hst
     simp [Zwy,run_underlying ht,run_underlying htn,Go.sizeOf,typeInfo,hi,hsize,asInt,asIntOf,ZJ6,hnc,ZKg] at hst ⊢
     rw [hst]
     rfl
    ·have hns:¬ (m * 1=0):=by omega
     simp [Zwy,run_underlying ht,run_underlying htn,Go.sizeOf,typeInfo,zeroValue,hi,hz,hsize,hzc,Hh,asInt,asIntOf,hw,hneg,h48i,hm,hroom,ZKg] at hst ⊢
     rw [hst]
     rfl
   refine⟨_,_,hr,⟨hlen,.inr ⟨g,cap,_,rfl,hbg,setRow_heap w g cur _ e _ hg,hroom,hcm,?_,?_⟩⟩,⟨rfl,rfl,rfl,by simp,λk _ hk=>setRow_other w g k _ (λe=>hk (by simp [Fe,e]))⟩,Or.inl rfl⟩
   ·simp only [List.size_toArray,C8,ZJv,Zwa,Array.length_toList,ZJ5];omega
   ·rw [htake,<- hlen]
    exact List.take_left
  ·have holds:∀ j u,xs[j]? = some u->w.cell? ((⟨g,0,none⟩:Addr).add j)=some u:=hown.cells (g:=g) rfl;have hold:(Builtin.firstCells i.size n (.slice (some ⟨g,0,none⟩) n cap)).run P w.drew=.ok xs.toArray w.drew:=run_firstCells_some (P:=P) w.drew i.size n ⟨g,0,none⟩ n cap xs (by rw [hown.1,hsize]) holds
   have hr:=Lib.run_append_grow_zeros (P:=P) w t tn ty e i z kq kn ht htn hi hz (some ⟨g,0,none⟩) n cap xs hold m (by omega) (by omega) (by omega) (by omega) (by omega) (growslice_fits (by omega) hbytes)
   have hgr:=grown cap (by omega) (Fe (.slice (some ⟨g,0,none⟩) n cap))
   exact⟨_,_,hr,hgr.1,hgr.2,Or.inr rfl⟩
section
variable {P:Program} {ops:Array Oper} {Q:Exit->Act->World->Prop} {n:Nat} {e:Env} {w w':World} {rest:List Oper}
variable {X:Nat->Prop} {w0:World} {M Ps:List Item}
variable {d ty:Nat} {pos:String} {af:Array Edge}
theorem Zf3 (A:Ctx X w0 w M Ps) (k:Nat) {t tn el bytes nv m:Nat} {kq kn:IntKind} {z zc:Value} {x y:Operand} {v:Value} {cs:List Value} (ht:P.underlying t=some (.slice el)) (htn:P.underlying tn=some (.int kn)) (I:Wm P el z 1 bytes) (hzc:z.cells=#[zc]) (L:zc.oneCell'=true) (hby:0 < bytes)
  (hk:M[k]? = some (own el 1 v nv cs)) (hx:ev n e x=v) (hy:ev n e y=.int kq m) (hb:(nv+m) * bytes<=140737488355328)
  (h:∀ v' w',Ctx X w0 w' (M.set k (own el 1 v' (nv+m) (cs++Cd m zc))) Ps->W P ops Q rest n (upd e d v') w') :
  W P ops Q (⟨some d,.call { callee:=.builtin .append,args:=#[x,y],argTypes:=#[t,tn] }, ty,pos,af,none⟩::rest) n e w:=by
 obtain ⟨O,hi,hzz⟩:=Option.map_eq_some_iff.1 I;simp only [Prod.mk.injEq] at hzz
 have HO:w.ownsRow 0 el 1 v nv cs:=A.Ix k hk;have hlen:nv+m<=140737488355328:=Cj (Nat.le_mul_of_pos_right _ hby) hb;obtain ⟨B,U,hr,hown,hg,hat⟩:=Zn5 (P:=P) t tn ty el O z zc kq kn ht htn hi hzz.1 hzc L bytes hzz.2.1 hzz.2.2 v nv cs HO m (by unfold maxLen; omega) hb
 refine Y2 B rfl rfl ?_ (h B U (A.turn k hk hg.os hg.tape hg.output hg.size (Vy _ _ _ _ hr) (λb hb' hnb=>hg.block b hb' ?_) hown ?_))
 ·simp only [execOp,resolve,invoke,builtin,Ca,Ce,Cc,List.map_toArray,Fm,List.map_nil,hx,hy,hr]
 ·intro e;exact hnb (by simp [own,<- e])
 ·intro b hbm;simp only [own] at hbm ⊢
  rcases hat with hat | hat
  ·rw [hat] at hbm; exact .inl hbm
  ·rw [hat] at hbm
   have:b=w.heap.size:=by simpa using hbm
   omega
theorem Zn6 {t t':Nat} {x y:Operand} {k:IntKind} {a b:Int} {gd:Option (Nat×Bool)} (hx:ev n e x=.int k a) (hy:ev n e y=.int k b) :
  (execOp (ev n e) ⟨some d,.call { callee:=.builtin .min,args:=#[x,y],argTypes:=#[t,t'] }, ty,pos,af,gd⟩).run P w=.ok (.value (.int k (if b < a then b else a))) w:=by
 simp [execOp,resolve,invoke,builtin,hx,hy,Builtin.min_,Builtin.min2,Ca]
theorem Hi {t t':Nat} {x y:Operand} {k:IntKind} {a b:Int} (hx:ev n e x=.int k a) (hy:ev n e y=.int k b)
  (h:W P ops Q rest n (upd e d (.int k (if b < a then b else a))) w):W P ops Q (⟨some d,.call { callee:=.builtin .min,args:=#[x,y],argTypes:=#[t,t'] }, ty,pos,af,none⟩::rest) n e w :=
 Y2 _ rfl rfl (Zn6 hx hy) h
end
section
variable {X:Nat->Prop} {w0 w w':World} {M Ps:List Item}
theorem Ctx.turnO {el sz n m:Nat} {v z:Value} {cs ds:List Value} (A:Ctx X w0 w M Ps) (k:Nat) (hk:M[k]? = some (own el sz v n cs)) (h:BelO v.ownBlock.toList w w') (ho:(own el sz z m ds).holds w') (hf:∀ b,b∈z.ownBlock.toList->b∈v.ownBlock.toList\/w.heap.size<=b) :
  Ctx X w0 w' (M.set k (own el sz z m ds)) Ps :=
 A.turn k hk h.os h.tape h.output h.size h.drawn (λb hb hn=>h.old b hb hn) ho hf
theorem Ctx.turnS {b t el sz n m:Nat} {v z:Value} {qs bs cs ds:List Value} (hC:Ctx X w0 w (blk b t qs::own el sz v n cs::M) Ps) (hB:BelO (b::v.ownBlock.toList) w w') (g1:(blk b t bs).holds w') (g2:(own el sz z m ds).holds w') (hf:∀ x,x∈z.ownBlock.toList→x∈v.ownBlock.toList∨w.heap.size≤x) :
    Ctx X w0 w' (blk b t bs::own el sz z m ds::M) Ps:=by
  have hb0:=hC.m (blk b t qs) (by simp)
  have ho0:=hC.m (own el sz v n cs) (by simp)
  have hd:=hC.dis
  obtain ⟨d1,d2⟩:=Cl.1 hd
  obtain ⟨d3,d4⟩:=Cl.1 d2
  have hX1:=hC.mfp (blk b t qs) (by simp)
  have hX2:=hC.mfp (own el sz v n cs) (by simp)
  have hbs:b < w.heap.size:=ZJj _ w hb0 b (ZJp _)
  have hnot:∀ j,j∈M→∀ x,x∈j.fp→x∉b::v.ownBlock.toList:=fun j hj x hx hx'=>by
    rcases Cb.1 hx' with rfl | hx'
    · exact d1 j (by simp [hj]) x (ZJp _) hx
    · exact d3 j hj x hx' hx
  exact {
    os:=hB.os.trans hC.os
    tape:=hB.tape.trans hC.tape
    output:=hB.output.trans hC.output
    size:=Cj hC.size hB.size
    drawn:=Cj hC.drawn hB.drawn
    old:=fun c hc hx=>by
      rw [hB.old c (Zwo hc hC.size) (fun q=>?_)]
      · exact hC.old c hc hx
      · rcases Cb.1 q with rfl | q
        · rcases hX1 c (ZJp _) with r | r
          · omega
          · exact hx r
        · rcases hX2 c q with r | r
          · omega
          · exact hx r
    m := fun j hj => by
      rcases Cb.1 hj with rfl | hj
      · exact g1
      · rcases Cb.1 hj with rfl | hj
        · exact g2
        · exact ZJl _ w w' (fun x hx=>hB.old x (ZJj _ w (hC.m j (by simp [hj])) x hx) (hnot j hj x hx)) (hC.m j (by simp [hj]))
    p := fun j hj => ZJl _ w w' (fun x hx => hB.old x (ZJj _ w (hC.p j hj) x hx) (fun q => by
      rcases Cb.1 q with rfl | q
      · exact hC.pd j hj x hx (blk x t qs) (by simp) (ZJp _)
      · exact hC.pd j hj x hx (own el sz v n cs) (by simp) q)) (hC.p j hj)
    mfp:=fun j hj x hx=>by
      rcases Cb.1 hj with rfl | hj
      · exact hX1 x hx
      · rcases Cb.1 hj with rfl | hj
        · rcases hf x hx with r | r
          · exact hX2 x r
          · exact .inl (Cj hC.size r)
        · exact hC.mfp j (by simp [hj]) x hx
    dis:=by
      refine Cl.2 ⟨fun j hj x hx hxj=>?_,Cl.2 ⟨fun j hj x hx hxj=>?_,d4⟩⟩
      · obtain rfl:x=b:=Fc.1 hx
        rcases Cb.1 hj with rfl | hj
        · rcases hf x hxj with r | r
          · exact d1 (own el sz v n cs) (by simp) x (ZJp _) r
          · omega
        · exact d1 j (by simp [hj]) x (ZJp _) hxj
      · rcases hf x hx with r | r
        · exact d3 j hj x r hxj
        · have:=ZJj _ w (hC.m j (by simp [hj])) x hxj
          omega
    pd:=fun j hj x hx q hq hxq=>by
      rcases Cb.1 hq with rfl | hq
      · exact hC.pd j hj x hx (blk b t qs) (by simp) hxq
      · rcases Cb.1 hq with rfl | hq
        · rcases hf x hxq with r | r
          · exact hC.pd j hj x hx (own el sz v n cs) (by simp) r
          · have:=ZJj _ w (hC.p j hj) x hx
            omega
        · exact hC.pd j hj x hx q (by simp [hq]) hxq }
end
theorem Zf4 {P:Program} {w:World} {t el:Nat} {A:Option Addr} {m c:Nat} (ht:P.underlying t=some (.slice el)):(Op.equal t (.slice A m c) (.slice none 0 0)).run P w=.ok A.isNone w:=by
 unfold Op.equal Op.maxDepth;rw [show (10000:Nat)=9999+1 from rfl]
 unfold Op.equalIn;cases A <;> simp [run_underlying ht]
section
variable {P:Program} {ops:Array Oper} {Q:Exit->Act->World->Prop} {n:Nat} {e:Env} {w w':World} {rest:List Oper}
variable {d ty:Nat} {pos:String} {af:Array Edge}
theorem Zn7 {t t' el:Nat} {x y:Operand} {A:Option Addr} {m c:Nat} {b:Bool} {gd:Option (Nat×Bool)} (ht:P.underlying t=some (.slice el)) (hx:ev n e x=.slice A m c) (hy:ev n e y=.slice none 0 0) (hb:A.isNone=b) :
  (execOp (ev n e) ⟨some d,.binOp .eql t x y t',ty,pos,af,gd⟩).run P w=.ok (.value (.bool b)) w:=by
 subst hb;have hq:(eqGuard .eql t x y (.slice A m c) (.slice none 0 0)).run P w=.ok () w:=by unfold eqGuard; simp
 have hr:(binOp .eql t (.slice A m c) (.slice none 0 0)).run P w=.ok (.bool A.isNone) w:=by
  simp [binOp,Zf4 ht]
 simp only [execOp,hx,hy,Ca,hq,Cc,hr,Ce]
theorem E9 {t t' el:Nat} {x y:Operand} {A:Option Addr} {m c:Nat} (b:Bool) (ht:P.underlying t=some (.slice el)) (hx:ev n e x=.slice A m c) (hy:ev n e y=.slice none 0 0) (hb:A.isNone=b)
  (h:W P ops Q rest n (upd e d (.bool b)) w):W P ops Q (⟨some d,.binOp .eql t x y t',ty,pos,af,none⟩::rest) n e w :=
 Y2 _ rfl rfl (Zn7 ht hx hy hb) h
end
theorem Zn8 {α:Type} {t:Ty α} {xs:List α} {v:Value} {fp:List Nat} {w:World} (h:t.sl.rep xs [v] fp w):(∃ m c,v=.slice none m c/\xs=[])\/∃ A m c,v=.slice (some A) m c:=by
 obtain ⟨v',ecs,e,⟨L,O,U,A,c,rfl,anc,I⟩,V⟩:=h;obtain rfl:v=_:=by simpa using e
 cases A with
 | none =>
  refine .inl ⟨_,_,rfl,?_⟩
  rcases Nat.eq_zero_or_pos xs.length with B | B
  ·exact ZKp B
  ·obtain ⟨a,ha,_⟩:=I B;cases ha
 | some A=>exact .inr ⟨A,_,_,rfl⟩
section
variable {α β:Type}
def Zf5 (kv:α->Value) (vv:β->Value):Ty (List (α×β)) where
 sz:=1
 rep l cs fp w:=∃ b,cs=[.map (some b)]/\b∈fp/\(∀ c,c∈fp->c < w.heap.size)/\(Yb kv vv b l).holds w
 keep h hw:=by
  obtain ⟨b,rfl,hb,hl,hm⟩:=hw;exact⟨b,rfl,hb,N7 h hl,ZJl _ _ _ (λc hc=>h c (by obtain rfl:=Fc.1 hc; exact hb)) hm⟩
 low hw:=by
  obtain ⟨b,rfl,hb,hl,hm⟩:=hw;exact hl
 len hw:=by obtain ⟨b,rfl,_⟩:=hw; rfl
 one hw u hu:=by
  obtain ⟨b,rfl,_⟩:=hw;obtain rfl:=Fc.1 hu
  rfl
 more hw A B:=by
  obtain ⟨b,rfl,hb,hl,hm⟩:=hw;exact⟨b,rfl,A b hb,B,hm⟩
end
structure Derive where
 alg:Alg
 drop:Int
 images:List (List (A8×Int))
 deriving Inhabited
def TSum:Ty (List (A8×Int)):=Zf5 (kvA .i64) (vvI .i64)
theorem Zn9 {α:Type} {t:Ty α} {x y:α} {cs ds:List Value} {f g:List Nat} {w:World} (h:t.rep x cs f w) (k:t.rep y ds g w):t.all [x,y] (cs++ds) (f++g) w:=Zkn (Sv h) k
theorem Zoa {α:Type} {t:Ty α} {x y:α} {cs ds:List Value} {f g:List Nat} {w:World} (h:(t.item x cs f).holds w) (k:(t.item y ds g).holds w):(t.allItem [x,y] (cs++ds) (f++g)).holds w:=Zn9 h k
theorem Zbn {α β:Type} {kv:α->Value} {vv:β->Value} {l:List (α×β)} {u:Value} {fp:List Nat} {w:World} (h:(Zf5 kv vv).rep l [u] fp w):∃ b,u=.map (some b)/\b∈fp/\(Yb kv vv b l).holds w:=by
 obtain ⟨b,hc,hb,_,hm⟩:=h;simp only [List.cons.injEq,and_true] at hc
 exact⟨b,hc,hb,hm⟩
section
variable {α β:Type} {kv:α->Value} {vv:β->Value}
theorem Ctx.turnI {X:Nat->Prop} {w0 w w':World} {M Ps:List Item} {it jt:Item} (A:Ctx X w0 w M Ps) (k:Nat) (hk:M[k]? = some it) (h:BelO it.fp w w') (hj:jt.holds w') (hf:∀ b,b∈jt.fp->b∈it.fp\/w.heap.size<=b):Ctx X w0 w' (M.set k jt) Ps :=
 A.turn k hk h.os h.tape h.output h.size h.drawn (λb hb hn=>h.old b hb hn) hj hf
end
section
variable {X:Nat->Prop} {w0 w w':World} {M Ps:List Item}
end
theorem Zbo {el sz n:Nat} {v:Value} {cs:List Value} {w:World} (h:(own el sz v n cs).holds w) (m:Nat) (hm:m<=n) :
  ∃ A c,v=.slice A n c/\n<=c/\(own el sz (.slice A m c) m (cs.take (m * sz))).holds w/\(A=none\/∃ g,A=some ⟨g,0,none⟩)/\(ZKh A m c).ownBlock=v.ownBlock:=by
 obtain ⟨B,I⟩:=h
 have hl:(cs.take (m * sz)).length=m * sz:=by
  rw [ZJv,B];have:=Zww sz hm;omega
 rcases I with ⟨rfl,rfl⟩ | ⟨g,cap,cur,rfl,hbg,hg,hnc,hcm,hcs,ht⟩
 ·obtain rfl:m=0:=by omega
  exact⟨none,0,rfl,Cg _,⟨hl,.inl ⟨rfl,rfl⟩⟩,.inl rfl,rfl⟩
 ·refine⟨_,cap,rfl,hnc,⟨hl,.inr ⟨g,cap,cur,rfl,hbg,hg,by omega,hcm,hcs,?_⟩⟩,.inr ⟨g,rfl⟩,rfl⟩
  rw [<- ht,List.take_take,Nat.min_eq_left (Zww sz hm)]
theorem Zbp (A:Option Addr) (h c s:Nat) (B:A=none\/∃ g,A=some ⟨g,0,none⟩):sliced A 0 h c s=.slice A h c:=by
 unfold sliced;rcases B with rfl | ⟨g,rfl⟩
 ·simp
 ·simp [ZKg]
section
variable {P:Program} {ops:Array Oper} {Q:Exit->Act->World->Prop} {n:Nat} {e:Env} {w w':World} {rest:List Oper}
variable {X:Nat->Prop} {w0:World} {M Ps:List Item}
variable {d ty:Nat} {pos:String} {af:Array Edge}
theorem U0 {P:Program} {t el:Nat} (ht:P.underlying t=some (.slice el)):P.underlying t=some (.slice (P.elem t)):=by
 have:P.elem t=el:=by simp [ZJy,ht]
 rw [this]; exact ht
theorem Zob (B:Ctx X w0 w M Ps) (k:Nat) {t el sz nv:Nat} {kq:IntKind} {hi:Int} {x y:Operand} {v:Value} {cs:List Value} (hk:M[k]? = some (own el sz v nv cs)) (ht:P.underlying t=some (.slice el)) (hz:Xu P el sz)
  (hx:ev n e x=v) (hy:ev n e y=.int kq hi) (I:0<=hi) (O:hi<=nv)
  (h:∀ v',Ctx X w0 w (M.set k (own el sz v' hi.toNat (cs.take (hi.toNat * sz)))) Ps->W P ops Q rest n (upd e d v') w) :
  W P ops Q (⟨some d,.slice t x none (some y) none,ty,pos,af,none⟩::rest) n e w:=by
 have hown:(own el sz v nv cs).holds w:=B.Ix k hk;obtain ⟨A,c,rfl,hnc,ho,L,hb⟩:=Zbo hown hi.toNat (by omega)
 have hel:P.elem t=el:=by simp [ZJy,ht]
 have hr:=run_slice_h (P:=P) w t A nv c (U0 ht) kq hi I (by omega)
 rw [hel,Wy hz,Cc,Zbp A _ _ _ L] at hr
 refine Y2 (.slice A hi.toNat c) rfl rfl ?_ (h _ (B.turn k hk rfl rfl rfl (Cg _) (Cg _) (λ_ _ _=>rfl) ho (λb hb'=>.inl ?_)))
 ·simp only [execOp,hx,hy,Fw,ZJ0,Ca,run_sliceAt_slice w t _ _ _ _ (U0 ht),hr,Cc,Ce]
 ·show b∈(ZKh A nv c).ownBlock.toList
  rw [<- hb]; exact hb'
theorem Zoc {t el sz:Nat} {kq:IntKind} {x y:Operand} (ht:P.underlying t=some (.slice el)) (hz:Xu P el sz) (hx:ev n e x=.slice none 0 0) (hy:ev n e y=.int kq 0)
  (h:W P ops Q rest n (upd e d (.slice none 0 0)) w):W P ops Q (⟨some d,.slice t x none (some y) none,ty,pos,af,none⟩::rest) n e w:=by
 have hel:P.elem t=el:=by simp [ZJy,ht]
 have hr:=run_slice_h (P:=P) w t none 0 0 (U0 ht) kq 0 (by omega) (by omega)
 rw [hel,Wy hz,Cc,Zbp none _ _ _ (.inl rfl)] at hr
 refine Y2 (.slice none 0 0) rfl rfl ?_ h
 simp only [execOp,hx,hy,Fw,ZJ0,Ca,run_sliceAt_slice w t _ _ _ _ (U0 ht),hr,Cc,Ce]
 rfl
theorem Zf6 {t el:Nat} {x:Operand} {A:Option Addr} {m c:Nat} (ht:P.underlying t=some (.slice el)) (hx:ev n e x=.slice A m c)
  (h:W P ops Q rest n (upd e d (.int .i64 c)) w):W P ops Q (⟨some d,.call { callee:=.builtin .cap,args:=#[x],argTypes:=#[t] }, ty,pos,af,none⟩::rest) n e w:=by
 refine Y2 _ rfl rfl ?_ h
 have hr:=run_cap_slice (P:=P) w t ty A m c (U0 ht);simp only [execOp,resolve,invoke,builtin,Ca,Ce,Cc,List.map_toArray,Fm,List.map_nil,hx,hr]
 rfl
end
theorem _root_.Vc.Enc.encs_take {α:Type} (E:Enc α) (xs:List α) (m:Nat):(E.encs xs).take (m * E.sz)=E.encs (xs.take m):=by
 induction xs generalizing m with
 | nil=>simp [ZJw]
 | cons x xs ih =>
  cases m with
  | zero=>simp [ZJw]
  | succ m =>
   have e:E.encs (x::xs)=E.enc x++E.encs xs:=by simp [ZJw]
   have hl:=E.len x;rw [e,List.take_succ_cons,show E.encs (x::xs.take m)=E.enc x++E.encs (xs.take m) by simp [ZJw],Cs,Nat.one_mul,Nat.add_comm,<- hl,List.take_length_add_append,hl,ih]
section
variable {P:Program} {ops:Array Oper} {Q:Exit->Act->World->Prop} {n:Nat} {e:Env} {w w':World} {rest:List Oper}
variable {d ty:Nat} {pos:String} {af:Array Edge}
theorem Zod {t t':Nat} {ik:IntKind} {x y:Operand} {a b:A8} {gd:Option (Nat×Bool)} (K:KeyT P t (kvA ik)) (hm:P.eqGuardType P.depth t=false) (hx:ev n e x=.agg (ZB7 (a.enc ik))) (hy:ev n e y=.agg (ZB7 (b.enc ik))) :
  (execOp (ev n e) ⟨some d,.binOp .eql t x y t',ty,pos,af,gd⟩).run P w=.ok (.value (.bool (decide (a=b)))) w:=by
 have hq:=run_eqGuard_agg (P:=P) w .eql t x y (ZB7 (a.enc ik)) (ZB7 (b.enc ik)) hm;have hr:(Op.equalIn 10000 t (.agg (ZB7 (a.enc ik))) (.agg (ZB7 (b.enc ik)))).run P w=.ok (decide (a=b)) w:=K.equal w a b;simp only [execOp,hx,hy,Ca,hq,Cc,run_eql_struct,hr,Ce]
theorem Zoe {t t':Nat} {ik:IntKind} {x y:Operand} {a b:A8} (K:KeyT P t (kvA ik)) (hm:P.eqGuardType P.depth t=false) (hx:ev n e x=.agg (ZB7 (a.enc ik))) (hy:ev n e y=.agg (ZB7 (b.enc ik)))
  (h:W P ops Q rest n (upd e d (.bool (decide (a=b)))) w):W P ops Q (⟨some d,.binOp .eql t x y t',ty,pos,af,none⟩::rest) n e w :=
 Y2 _ rfl rfl (Zod K hm hx hy) h
end
section
variable {P:Program} {ops:Array Oper} {Q:Exit->Act->World->Prop} {n:Nat} {e:Env} {w w':World} {rest:List Oper}
variable {X:Nat->Prop} {w0:World} {M Ps:List Item}
variable {d ty:Nat} {pos:String} {af:Array Edge} {gd:Option (Nat×Bool)}
end
theorem Q7 {α:Type} {t:Ty α} {xs:List α} {v:Value} {fp:List Nat} {w:World} (h:t.sl.rep xs [v] fp w):∃ ds,(rdr t.sz v xs.length ds fp).holds w/\t.all xs ds fp w:=by
 obtain ⟨v',ecs,e,A,B⟩:=h;obtain rfl:v=v':=by simpa using e
 exact⟨ecs,A,B⟩
theorem Zbq {α:Type} (t:Ty α) (w:World):(t.allItem ([]:List α) [] []).holds w:=⟨by simp,by simp,by simp,λi hi=>absurd hi (by simp)⟩
theorem Zf7 (k:IntKind) (xs:List Int) (m:Nat):(EI k).encs xs++Cd m (.int k 0)=(EI k).encs (xs++Cd m 0):=by
 rw [ZC1]
 congr 1
 induction m with
 | zero=>rfl
 | succ m ih=>rw [List.replicate_succ,List.replicate_succ,ih]; simp [ZJw,EI]
theorem Q8 {α:Type} {t:Ty α} {xs ys:List α} {cs ds:List Value} {f g:List Nat} {w:World} (h:(t.allItem xs cs f).holds w) (k:(t.allItem ys ds g).holds w):(t.allItem (xs++ys) (cs++ds) (f++g)).holds w:=by
 have hl:∀ b,b∈f++g->b < w.heap.size:=λb hb=>(Ch.1 hb).elim (h.1 b) (k.1 b)
 refine⟨hl,by rw [C8,h.2.1,k.2.1,C8,Cs],λu hu=>(Ch.1 hu).elim (h.2.2.1 u) (k.2.2.1 u),λi hi=>?_⟩
 by_cases hx:i < xs.length
 ·have A:(xs++ys)[i]=xs[i]:=List.getElem_append_left hx;have hle:i * t.sz+t.sz<=cs.length:=by rw [h.2.1]; exact W8 hx
  rw [A,List.drop_append_of_le_length (by omega),List.take_append_of_le_length (by rw [Zwa]; omega)]
  exact t.more (h.2.2.2 i hx) (λb hb=>Cv _ hb) hl
 ·have hy:i - xs.length < ys.length:=by rw [C8] at hi; omega
  have A:(xs++ys)[i]=ys[i - xs.length]:=List.getElem_append_right (by omega)
  have hm:i * t.sz=cs.length+(i - xs.length) * t.sz:=by rw [h.2.1,<- Cs]; congr 1; omega
  rw [A,hm,<- List.drop_drop,List.drop_left' rfl]
  exact t.more (k.2.2.2 _ hy) (λb hb=>Cu _ hb) hl
section
variable {P:Program} {ops:Array Oper} {Q:Exit->Act->World->Prop} {n:Nat} {e:Env} {w w':World} {rest:List Oper}
variable {X:Nat->Prop} {w0:World} {M Ps:List Item}
variable {d ty:Nat} {pos:String} {af:Array Edge}
end
abbrev vvP (b:Nat):Value:=.pointer (some ⟨b,0,none⟩)
def EB:Enc Bool:=⟨1,by decide,λx=>[.bool x],λ_=>rfl,λx u hu=>by obtain rfl:u=_:=Fc.1 hu; rfl⟩
structure Elem where
 gen:Int
 mono:A8
 deriving DecidableEq,Inhabited
def Elem.enc (t:Elem):List Value:=.int .i64 t.gen::ZB6 .i64 t.mono
section
variable {P:Program} {k:Nat} {ik:IntKind}
theorem Zof (hk:P.underlying k=some (.int ik)):KeyT P k (vvI ik) where
 under:=⟨_,hk,.inr λx y=>by simp [Instr.sameNow,Bool.beq_eq_decide_eq]⟩
 check em w x:=by
  show (Instr.checkKey em (9999+1) k _).run P w=_
  unfold Instr.checkKey; simp [Ca,run_underlying hk]
 equal w x y:=Ze4 (d:=9999) hk w x y
 stays x:=by simp [Instr.sameBits]
end
section
variable {P:Program} {ops:Array Oper} {Q:Exit->Act->World->Prop} {n:Nat} {e:Env} {w w':World} {rest:List Oper}
variable {X:Nat->Prop} {w0:World} {M Ps:List Item}
variable {d ty:Nat} {pos:String} {af:Array Edge}
theorem Zog {t t':Nat} {x y:Operand} {k:IntKind} {a b:Int} {gd:Option (Nat×Bool)} (hx:ev n e x=.int k a) (hy:ev n e y=.int k b) :
  (execOp (ev n e) ⟨some d,.call { callee:=.builtin .max,args:=#[x,y],argTypes:=#[t,t'] }, ty,pos,af,gd⟩).run P w=.ok (.value (.int k (if a < b then b else a))) w:=by
 simp [execOp,resolve,invoke,builtin,hx,hy,Builtin.max_,Builtin.max2,Ca]
theorem Zbr {t t':Nat} {x y:Operand} {k:IntKind} {a b:Int} (hx:ev n e x=.int k a) (hy:ev n e y=.int k b)
  (h:W P ops Q rest n (upd e d (.int k (if a < b then b else a))) w):W P ops Q (⟨some d,.call { callee:=.builtin .max,args:=#[x,y],argTypes:=#[t,t'] }, ty,pos,af,none⟩::rest) n e w :=
 Y2 _ rfl rfl (Zog hx hy) h
theorem Mv {f:FuncId} {l:List Operand} {fn:Func} {c:Code} {at_:Array Nat} (vs:List Value) (hf:P.funcs[f]? = some fn) (hb:fn.body=some c) (hne:(fn.name == "runtime.NumGoroutine")=false) (m:Nat) (hm:fn.ntmps=m) (hl:vs.length<=m)
  (hp:l.map (ev n e)=vs) (h:c.wp P (bodyPost P fn (λret w''=>∃ v,ret=.returned v/\W P ops Q rest n (upd e d v) w'')) (actOf m (Lw vs)) w) :
  W P ops Q (⟨some d,.call { callee:=.value (.func f),args:=l.toArray,argTypes:=at_ }, ty,pos,af,none⟩::rest) n e w :=
 Zf vs _ hf (by rw [hb]; rfl) hne hp (B8 hf hb m hm hl h) (λret w'' h=>h)
end
section
variable {P:Program} {ops:Array Oper} {Q:Exit->Act->World->Prop} {n:Nat} {e:Env} {w w':World} {rest:List Oper}
variable {X:Nat->Prop} {w0:World} {M Ps:List Item}
variable {d ty:Nat} {pos:String} {af:Array Edge}
end
def Jz (u:Value):List Nat:=u.ownBlock.toList
def Wb (v:Value) (ecs:List Value):List Nat:=v.ownBlock.toList++(ecs.map Jz).flatten
abbrev hd (ecs:List Value) (i:Nat):Value:=ecs.getD i undef
section
variable {α:Type} {E:Enc α} {t e:Nat} {v:Value} {ecs:List Value} {xs:List (List α)} {w w':World}
theorem Da {i:Nat} {b:Nat} (hi:i < ecs.length) (hb:b∈Jz (hd ecs i)):b∈(ecs.map Jz).flatten :=
 ZDb.2 ⟨Jz (hd ecs i),Cp.2 ⟨hd ecs i,by simp [hd,Co,hi],rfl⟩,hb⟩
theorem Zf8 (hn:(Wb v ecs).Nodup) {i j:Nat} (hi:i < ecs.length) (hj:j < ecs.length) (hne:i≠j):∀ b,b∈Jz (hd ecs i)->b∉Jz (hd ecs j):=by
 have h:=(Fk.1 hn).2.1;have hp:=(List.pairwise_flatten.1 h).2;rw [List.pairwise_map,Cq] at hp
 intro b hb hb';have ei:hd ecs i=ecs[i]:=by simp [hd,Co,hi]
 have ej:hd ecs j=ecs[j]:=by simp [hd,Co,hj]
 rw [ei] at hb; rw [ej] at hb'
 rcases Nat.lt_or_gt_of_ne hne with q | q
 ·exact hp i j hi hj q b hb b hb' rfl
 ·exact hp j i hj hi q b hb' b hb rfl
theorem Zbs (hn:(Wb v ecs).Nodup) {i:Nat} (hi:i < ecs.length):∀ b,b∈Jz (hd ecs i)->b∉v.ownBlock.toList:=λb hb hb' =>
 (Fk.1 hn).2.2 b hb' b (Da hi hb) rfl
def mat (E:Enc α) (t e:Nat) (v:Value) (ecs:List Value) (xs:List (List α)):Item where
 fp:=Wb v ecs
 holds w:=(own t 1 v xs.length ecs).holds w/\(∀ i,i < xs.length->(own e E.sz (hd ecs i) (xs.getD i Ci).length (E.encs (xs.getD i Ci))).holds w)/\(Wb v ecs).Nodup
 keep w w' h hw:=⟨ZJl _ _ _ (λb hb=>h b (Cv _ hb)) hw.1,λi hi=>ZJl _ _ _ (λb hb=>h b (Cu _ (Da (by rw [L0 hw.1]; omega) hb))) (hw.2.1 i hi),hw.2.2⟩
 low w hw b hb:=by
  rcases Ch.1 hb with q | q
  ·exact ZJj _ _ hw.1 b q
  ·obtain ⟨l,hl,hb⟩:=ZDb.1 q;obtain ⟨u,hu,rfl⟩:=Cp.1 hl;obtain ⟨i,hi,rfl⟩:=Cw hu;have hi':i < xs.length:=by rw [L0 hw.1] at hi; omega
   have:=hw.2.1 i hi';rw [show hd ecs i=ecs[i] by simp [hd,Co,hi]] at this
   exact ZJj _ _ this b hb
theorem Q9 (h:(mat E t e v ecs xs).holds w):ecs.length=xs.length:=by rw [L0 h.1]; omega
theorem Zbt {cs:List Value} {i:Nat} (h:i < cs.length):(cs.drop (i * 1)).take 1=[hd cs i]:=by
 rw [Nat.mul_one,List.drop_eq_getElem_cons h,List.take_succ_cons,List.take_zero];simp [hd,Co,h]
theorem Db {fp:List Nat} (h:(ZCn (ZJh t (ZJh e E.tr)) xs [v] fp).holds w):∃ ecs,(mat E t e v ecs xs).holds w/\fp=Wb v ecs:=by
 obtain ⟨ecs,fps,A,L,rfl,O⟩:=Kb h;have hsz:(ZJh e E.tr).ty.sz=1:=rfl;rw [hsz] at A
 have hl:ecs.length=xs.length:=by rw [L0 A]; omega
 have row:∀ i (hi:i < xs.length),(own e E.sz (hd ecs i) (xs[i]).length (E.encs xs[i])).holds w/\fps.getD i []=Jz (hd ecs i):=λi hi=>by
  have B:=L.1.2.2 i hi;rw [hsz,Zbt (by omega)] at B
  exact Yx B
 have hf:fps=ecs.map Jz:=by
  refine List.ext_getElem (by rw [List.length_map,L.1.2.1,hl]) λi I B=>?_
  have hi:i < xs.length:=by rw [<- L.1.2.1]; exact I
  have:=(row i hi).2;rw [show fps.getD i []=fps[i] by simp [Co,I]] at this
  rw [this,List.getElem_map];simp [hd,Co,show i < ecs.length by omega]
 subst hf;refine⟨ecs,⟨A,λi hi=>?_,h.2⟩,rfl⟩
 rw [show xs.getD i Ci=xs[i] by simp [Co,hi]]
 exact(row i hi).1
theorem T9 (h:(mat E t e v ecs xs).holds w):(ZCn (ZJh t (ZJh e E.tr)) xs [v] (Wb v ecs)).holds w:=by
 have hl:=Q9 h;refine⟨⟨v,ecs,ecs.map Jz,rfl,h.1,⟨by rw [hl]; show _=_ * 1; omega,by rw [List.length_map,hl],λi hi=>?_⟩,rfl⟩,h.2.2⟩
 have A:=h.2.1 i hi;rw [show xs.getD i Ci=xs[i] by simp [Co,hi]] at A
 show (ZJh e E.tr).tree xs[i] ((ecs.drop (i * 1)).take 1) _ w
 rw [Zbt (by omega),show (ecs.map Jz).getD i []=Jz (hd ecs i) by simp [Co,hd,show i < ecs.length by omega]]
 exact Zfc A
theorem W4 (h:(mat E t e v ecs xs).holds w) {i:Nat} (hi:i < xs.length):(own e E.sz (hd ecs i) (xs.getD i Ci).length (E.encs (xs.getD i Ci))).holds w:=h.2.1 i hi
theorem Zoh (h:(mat E t e v ecs xs).holds w):∃ A c,v=.slice A xs.length c:=V8 h.1
theorem Tj (h:(mat E t e v ecs xs).holds w) (hn:0 < xs.length):∃ g cap,v=.slice (some ⟨g,0,none⟩) xs.length cap:=Xx h.1 hn
theorem Zoi (h:(mat E t e v ecs xs).holds w):E.ty.sl.sl.rep xs [v] (Wb v ecs) w:=(ZJh t (ZJh e E.tr)).trep (T9 h).1
theorem Sa (h:(mat E t e v ecs xs).holds w) {g nn c:Nat} (hv:v=.slice (some ⟨g,0,none⟩) nn c) {i:Nat} (hi:i < xs.length):Wi w ⟨g,i * 1,none⟩ [hd ecs i]:=by
 obtain ⟨g',cap,A,hc⟩:=Zab h.1 (by omega)
 rw [hv] at A
 injection A with A B I
 injection A with A
 injection A with A
 subst A;intro j u hj;have hl:=Q9 h
 have:=hc (i * 1+j) u (by
  rw [<- Zbt (by omega),List.getElem?_take] at hj
  split at hj
  ·rw [List.getElem?_drop] at hj; exact hj
  ·cases hj)
 rw [Tt] at this ⊢
 rwa [Nat.zero_add] at this
end
section
variable {α:Type} {E:Enc α} {t e:Nat} {v:Value} {ecs:List Value} {xs:List (List α)} {w w':World}
theorem Zoj (h:(mat E t e v ecs xs).holds w) {i:Nat} (hi:i < xs.length) {y:List α} (ho:(own e E.sz (hd ecs i) y.length (E.encs y)).holds w') (A:∀ c,c < w.heap.size->c∉Jz (hd ecs i)->w'.heap[c]? = w.heap[c]?):(mat E t e v ecs (xs.set i y)).holds w':=by
 have hl:=Q9 h;refine⟨?_,λj hj=>?_,h.2.2⟩
 ·rw [ZC4];exact ZJl _ _ _ (λb hb=>A b (ZJj _ _ h.1 b hb) (λq=>Zbs h.2.2 (by omega) b q hb)) h.1
 ·rw [ZC4] at hj
  by_cases q:i=j
  ·subst q;rw [show (xs.set i y).getD i Ci=y by simp [Co,hi]]
   exact ho
  ·rw [show (xs.set i y).getD j Ci=xs.getD j Ci by simp [Co,List.getElem?_set_ne q]]
   exact ZJl _ _ _ (λb hb=>A b (ZJj _ _ (h.2.1 j hj) b hb) (λz=>Zf8 h.2.2 (by omega) (by omega) q b z hb)) (h.2.1 j hj)
variable {X:Nat->Prop} {w0:World} {M Ps:List Item}
theorem Ctx.turnRow (B:Ctx X w0 w M Ps) (k:Nat) (hk:M[k]? = some (mat E t e v ecs xs)) {i:Nat} (hi:i < xs.length) (A:BelO (Jz (hd ecs i)) w w') {y:List α} (ho:(own e E.sz (hd ecs i) y.length (E.encs y)).holds w'):Ctx X w0 w' (M.set k (mat E t e v ecs (xs.set i y))) Ps:=by
 have h:=B.Ix k hk;have hl:=Q9 h;exact B.turn k hk A.os A.tape A.output A.size A.drawn (λb hb hn=>A.old b hb (λq=>hn (Cu _ (Da (by omega) q)))) (Zoj h hi ho A.old) (λb hb=>.inl hb)
end
section
variable {P:Program} {ops:Array Oper} {Q:Exit->Act->World->Prop} {n:Nat} {ev_:Env} {w w':World} {rest:List Oper}
variable {X:Nat->Prop} {w0:World} {M Ps:List Item}
variable {d ty:Nat} {pos:String} {af:Array Edge}
variable {α:Type} {E:Enc α} {t e:Nat} {v:Value} {ecs:List Value} {xs:List (List α)}
theorem Zok (B:Ctx X w0 w M Ps) (k:Nat) {ty' i q g nn cap:Nat} {x y:Operand} (a:α) {u:Value} (hk:M[k]? = some (mat E t e v ecs xs)) (hi:i < xs.length) (hv:hd ecs i=.slice (some ⟨g,0,none⟩) nn cap) (hq:q < (xs.getD i Ci).length) (L:Xu P ty' E.sz)
  (hx:ev n ev_ x=.pointer (some ⟨g,q * E.sz,none⟩)) (hy:ev n ev_ y=u) (hu:u.cells.toList=E.enc a)
  (h:∀ w',Ctx X w0 w' (M.set k (mat E t e v ecs (xs.set i ((xs.getD i Ci).set q a)))) Ps->W P ops Q rest n ev_ w') :
  W P ops Q (⟨none,.store ty' x y,ty,pos,af,none⟩::rest) n ev_ w:=by
 have hm:=B.Ix k hk;have ho:=W4 hm hi
 have hnn:nn=(xs.getD i Ci).length:=by
  obtain ⟨A,c,I⟩:=V8 ho;rw [hv] at I; injection I
 subst hnn;rw [hv] at ho
 obtain ⟨w',hr,hb,hos,hta,hou,hsz,hother⟩:=Eb (P:=P) (v:=u) L ho hu (E.len a) (Fi.2 λz hz=>E.one a z hz) (by rw [E.encs_len]; exact W8 hq)
 have hdr:=Vy _ _ _ _ hr;refine Uq rfl rfl ?_ (h w' (B.turnRow k hk hi (w':=w') (y:=(xs.getD i Ci).set q a) ⟨hos,hta,hou,by omega,hdr,λc _ hc=>hother c (λz=>hc (by rw [hv,z]; simp [Jz,Fe]))⟩ ?_))
 ·simp [execOp,hx,hy,ZJ1,Cm,hr]
 ·rw [U7 _ _ _ hq] at hb
  rw [hv,ZC4];exact hb
def Xr {β:Type} (d:β) (l:List β) (i j:Nat):List β:=(l.set i (l.getD j d)).set j (l.getD i d)
theorem Zf9 {β:Type} (d:β) (l:List β) (i j:Nat):(Xr d l i j).length=l.length:=by simp [Xr]
theorem Zga {β:Type} (d:β) {l:List β} {i j:Nat} (hi:i < l.length) (hj:j < l.length) (k:Nat):(Xr d l i j).getD k d=if k=j then l.getD i d else if k=i then l.getD j d else l.getD k d:=by
 unfold Xr;simp only [Co];by_cases a:k=j
 ·subst a; rw [if_pos rfl,List.getElem?_set_self (by simpa using hj)]; rfl
 ·rw [if_neg a,List.getElem?_set_ne (λz=>a z.symm)]
  by_cases b:k=i
  ·subst b; rw [if_pos rfl,List.getElem?_set_self hi]; rfl
  ·rw [if_neg b,List.getElem?_set_ne (λz=>b z.symm)]
theorem Zol {β:Type} (d:β) {l:List β} {i j:Nat} (hi:i < l.length) (hj:j < l.length):(Xr d l i j).Perm l:=by
 have h:l.getD j d=l[j]:=by simp [Co,hj]
 have A:l.getD i d=l[i]:=by simp [Co,hi]
 unfold Xr;rw [h,A];exact List.set_set_perm hi hj
theorem Zgb {cs:List Value} {i:Nat} (hi:i < cs.length) (u:Value):Xz cs (i * 1) [u]=cs.set i u:=Zfi hi (Nat.mul_one i)
theorem Zgc {ty':Nat} {x y:Operand} {a:Addr} {u:Value} {w w':World} (hx:ev n ev_ x=.pointer (some a)) (hy:ev n ev_ y=u) (hr:(storeVar ty' a u).run P w=.ok () w'):(execOp (ev n ev_) ⟨none,.store ty' x y,ty,pos,af,none⟩).run P w=.ok .skip w':=by
 simp [execOp,hx,hy,ZJ1,Cm,hr]
theorem Zgd {u:Value} (h:u.oneCell'=true):[u].all (·.oneCell')=true:=by rw [List.all_cons,h]; rfl
def Zbu (E:Enc α) (t e:Nat) (v:Value) (A ecs:List Value) (xs:List (List α)):Item where
 fp:=Wb v ecs
 holds w:=(own t 1 v xs.length A).holds w/\(mat E t e v ecs xs).fp.Nodup/\ecs.length=xs.length/\∀ i,i < xs.length->(own e E.sz (hd ecs i) (xs.getD i Ci).length (E.encs (xs.getD i Ci))).holds w
 keep w w' h hw:=⟨ZJl _ _ _ (λb hb=>h b (Cv _ hb)) hw.1,hw.2.1,hw.2.2.1,λi hi=>ZJl _ _ _ (λb hb=>h b (Cu _ (Da (by rw [hw.2.2.1]; omega) hb))) (hw.2.2.2 i hi)⟩
 low w hw b hb:=by
  rcases Ch.1 hb with q | q
  ·exact ZJj _ _ hw.1 b q
  ·obtain ⟨l,hl,hb⟩:=ZDb.1 q;obtain ⟨u,hu,rfl⟩:=Cp.1 hl;obtain ⟨i,hi,rfl⟩:=Cw hu;have this:=hw.2.2.2 i (by rw [hw.2.2.1] at hi; exact hi)
   rw [show hd ecs i=ecs[i] by simp [hd,Co,hi]] at this
   exact ZJj _ _ this b hb
theorem Zom {w:World} {A:List Value} (h:(Zbu E t e v A ecs xs).holds w) (hn:0 < xs.length):∃ g cap,v=.slice (some ⟨g,0,none⟩) xs.length cap:=Xx h.1 hn
theorem Zon (V:Ctx X w0 w M Ps) (k:Nat) {ty' i j g cap nn:Nat} {x y:Operand} (hk:M[k]? = some (mat E t e v ecs xs)) (hi:i < xs.length) (hj:j < xs.length) (hv:v=.slice (some ⟨g,0,none⟩) nn cap) (hT:Xu P ty' 1)
  (hx:ev n ev_ x=.pointer (some ⟨g,i * 1,none⟩)) (hy:ev n ev_ y=hd ecs j)
  (h:∀ w',Ctx X w0 w' (M.set k (Zbu E t e v (ecs.set i (hd ecs j)) ecs xs)) Ps->W P ops Q rest n ev_ w') :
  W P ops Q (⟨none,.store ty' x y,ty,pos,af,none⟩::rest) n ev_ w:=by
 have hm:=V.Ix k hk;have hl:=Q9 hm
 have hnn:nn=xs.length:=by
  obtain ⟨A,c,e1⟩:=Zoh hm;rw [hv] at e1; injection e1
 subst hnn;have o1:=hm.1;rw [hv] at o1
 obtain ⟨w1,B,I,L,O,U,aa,hother1⟩:=Eb (P:=P) (v:=hd ecs j) hT o1 (Uw (W4 hm hj)) rfl (Zgd (Jc (W4 hm hj))) (show i * 1+1<=ecs.length by omega)
 rw [Zgb (by omega)] at I
 have hoth:∀ c,c < w.heap.size->c∉v.ownBlock.toList->w1.heap[c]? = w.heap[c]? := λc hc hn=>hother1 c (λz=>hn (by rw [hv,z]; simp [Fe]))
 refine Uq (w':=w1) rfl rfl (Zgc hx hy B) (h w1 (V.turn k hk L O U (by omega) (Vy _ _ _ _ B) (λb hb hn=>hoth b hb (λq=>hn (Cv _ q))) ⟨?_,hm.2.2,hl,λq hq=>?_⟩ (λb hb=>.inl hb)))
 ·rw [hv]; exact I
 ·exact ZJl _ _ _ (λb hb=>hoth b (ZJj _ _ (hm.2.1 q hq) b hb) (Zbs hm.2.2 (by omega) b hb)) (hm.2.1 q hq)
theorem Zoo (hC:Ctx X w0 w M Ps) (k:Nat) {ty' i j g cap nn:Nat} {x y:Operand} (hk:M[k]? = some (Zbu E t e v (ecs.set i (hd ecs j)) ecs xs)) (hi:i < xs.length) (hj:j < xs.length) (hv:v=.slice (some ⟨g,0,none⟩) nn cap) (hT:Xu P ty' 1)
  (hx:ev n ev_ x=.pointer (some ⟨g,j * 1,none⟩)) (hy:ev n ev_ y=hd ecs i)
  (h:∀ w',Ctx X w0 w' (M.set k (mat E t e v (Xr undef ecs i j) (Xr Ci xs i j))) Ps->W P ops Q rest n ev_ w') :
  W P ops Q (⟨none,.store ty' x y,ty,pos,af,none⟩::rest) n ev_ w:=by
 have hm:=hC.Ix k hk;have hl:=hm.2.2.1
 have hnn:nn=xs.length:=by
  obtain ⟨A,c,e1⟩:=V8 hm.1;rw [hv] at e1; injection e1
 subst hnn;have hmat:(mat E t e v ecs xs).fp.Nodup:=hm.2.1;have o1:=hm.1;rw [hv] at o1
 have ab:(ecs.set i (hd ecs j)).length=xs.length:=by rw [ZC4]; exact hl
 obtain ⟨L,B,I,O,U,V,aa,hother2⟩:=Eb (P:=P) (v:=hd ecs i) hT o1 (Uw (hm.2.2.2 i hi)) rfl (Zgd (Jc (hm.2.2.2 i hi))) (show j * 1+1<=(ecs.set i (hd ecs j)).length by omega)
 rw [Zgb (by omega)] at I
 have hoth:∀ c,c < w.heap.size->c∉v.ownBlock.toList->L.heap[c]? = w.heap[c]? := λc hc hn=>hother2 c (λz=>hn (by rw [hv,z]; simp [Fe]))
 have hp:((Xr undef ecs i j).map Jz).flatten.Perm (ecs.map Jz).flatten:=((Zol undef (by omega) (by omega)).map Jz).flatten
 have keep:∀ q,q < xs.length->(own e E.sz (hd ecs q) (xs.getD q Ci).length (E.encs (xs.getD q Ci))).holds L:=λq hq =>
  ZJl _ _ _ (λb hb=>hoth b (ZJj _ _ (hm.2.2.2 q hq) b hb) (Zbs hmat (by omega) b hb)) (hm.2.2.2 q hq)
 refine Uq (w':=L) rfl rfl (Zgc hx hy B) (h L (hC.turn k hk O U V (by omega) (Vy _ _ _ _ B) (λb hb hn=>hoth b hb (λq=>hn (Cv _ q))) ⟨?_,λq hq=>?_,(hp.append_left v.ownBlock.toList).nodup_iff.2 hmat⟩ (λb hb=>?_)))
 ·rw [Zf9,hv]; exact I
 ·rw [Zf9] at hq
  rw [show hd (Xr undef ecs i j) q=_ from Zga undef (by omega) (by omega) q,Zga Ci hi hj q]
  split
  ·exact keep i hi
  ·split
   ·exact keep j hj
   ·exact keep q hq
 ·rcases Ch.1 hb with q | q
  ·exact .inl (Cv _ q)
  ·exact .inl (Cu _ (hp.mem_iff.1 q))
theorem Zge (L:Ctx X w0 w M Ps) (k:Nat) {B:Nat} {kq:IntKind} {hi:Int} {x y:Operand} (hk:M[k]? = some (mat E t e v ecs xs)) (ht:P.underlying B=some (.slice t)) (hz:Xu P t 1)
  (hx:ev n ev_ x=v) (hy:ev n ev_ y=.int kq hi) (U:0<=hi) (h1:hi<=xs.length)
  (h:∀ v',Ctx X w0 w (M.set k (mat E t e v' (ecs.take hi.toNat) (xs.take hi.toNat))) Ps->W P ops Q rest n (upd ev_ d v') w) :
  W P ops Q (⟨some d,.slice B x none (some y) none,ty,pos,af,none⟩::rest) n ev_ w:=by
 have hm:=L.Ix k hk;have hl:=Q9 hm;obtain ⟨A,c,rfl,hnc,ho,V,hb⟩:=Zbo hm.1 hi.toNat (by omega)
 have hel:P.elem B=t:=by simp [ZJy,ht]
 have hr:=run_slice_h (P:=P) w B A xs.length c (U0 ht) kq hi U (by omega)
 rw [hel,Wy hz,Cc,Zbp A _ _ _ V] at hr
 have sub:∀ b,b∈((ecs.take hi.toNat).map Jz).flatten->b∈(ecs.map Jz).flatten:=λb hb=>by
  obtain ⟨l,hl',hb⟩:=ZDb.1 hb;obtain ⟨u,hu,rfl⟩:=Cp.1 hl';exact ZDb.2 ⟨_,Cp.2 ⟨u,ZKe hu,rfl⟩,hb⟩
 have O:Wb (.slice A hi.toNat c) (ecs.take hi.toNat)=(ZKh A xs.length c).ownBlock.toList++((ecs.take hi.toNat).map Jz).flatten:=by unfold Wb; rw [hb]
 have hlt:(xs.take hi.toNat).length=hi.toNat:=by rw [ZJv]; omega
 refine Y2 (.slice A hi.toNat c) rfl rfl ?_ (h _ (L.turn k hk rfl rfl rfl (Cg _) (Cg _) (λ_ _ _=>rfl) ⟨?_,λi hi'=>?_,?_⟩ (λb hb'=>.inl ?_)))
 ·simp only [execOp,hx,hy,Fw,ZJ0,Ca,run_sliceAt_slice w B _ _ _ _ (U0 ht),hr,Cc,Ce]
 ·rw [hlt]; rw [Nat.mul_one] at ho; exact ho
 ·rw [hlt] at hi'
  have e2:(xs.take hi.toNat).getD i Ci=xs.getD i Ci:=by simp only [Co]; rw [List.getElem?_take,if_pos hi']
  have e3:hd (ecs.take hi.toNat) i=hd ecs i:=by simp only [hd,Co]; rw [List.getElem?_take,if_pos hi']
  rw [e2,e3];exact W4 hm (by omega)
 ·rw [O];have hn:=hm.2.2;refine List.Nodup.sublist ?_ hn
  refine List.Sublist.append (List.Sublist.refl _) ?_
  have:((ecs.take hi.toNat).map Jz).flatten++((ecs.drop hi.toNat).map Jz).flatten=(ecs.map Jz).flatten:=by
   rw [<- List.flatten_append,<- ZJn,List.take_append_drop]
  rw [<- this]
  exact List.sublist_append_left _ _
 ·have I:b∈Wb (.slice A hi.toNat c) (ecs.take hi.toNat):=hb';rw [O] at I
  rcases Ch.1 I with q | q
  ·exact Cv _ q
  ·exact Cu _ (sub b q)
end
section
variable {α:Type}
theorem Zgf {E:Enc α} {t e:Nat} {v:Value} {ecs:List Value} {xs:List (List α)} {w:World} (h:(mat E t e v ecs xs).holds w) {i:Nat} (hi:i < xs.length):i < ecs.length:=by rw [Q9 h]; exact hi
theorem Zbv {t:Ty α} {xs:List α} {v:Value} {fp:List Nat} {w:World} (h:t.sl.rep xs [v] fp w) {A:Option Addr} {c l:Nat} (hv:v=.slice A xs.length c) (hl:l<=xs.length) (hc:xs.length<=c):t.sl.rep (xs.drop l) [sliced A l xs.length c t.sz] fp w:=by
 obtain ⟨v',ecs,I,⟨L,O,a2,A',c',B,anc,U⟩,V⟩:=h;obtain rfl:v=v':=by simpa using I
 rw [hv] at B
 injection B with e3 e4 e5
 subst e3 e5;have hlen:(xs.drop l).length=xs.length - l:=Zwa ..;have hcl:(ecs.drop (l * t.sz)).length=(xs.length - l) * t.sz:=by rw [Zwa,O,Nat.sub_mul]
 refine⟨_,ecs.drop (l * t.sz),rfl,⟨L,by rw [hlen]; exact hcl,by rw [hlen]; omega,?_⟩,?_⟩
 ·rw [hlen];by_cases q:c=l
  ·refine⟨A,c - l,by unfold sliced; rw [if_pos q],by omega,λhn=>by omega⟩
  ·refine⟨A.map (·.add (l * t.sz)),c - l,by unfold sliced; rw [if_neg q],by omega,λhn=>?_⟩
   obtain ⟨a,ha,hb,hcell⟩:=U (by omega)
   subst ha;refine⟨a.add (l * t.sz),rfl,?_,λj u hj=>?_⟩
   ·have:(a.add (l * t.sz)).block=a.block:=by unfold Addr.add; split <;> rfl
    rw [this]; exact hb
   ·rw [Ql];refine hcell _ u ?_
    rwa [List.getElem?_drop] at hj
 ·obtain ⟨b1,b2,b3,b4⟩:=V;refine⟨b1,by rw [hlen]; exact hcl,λu hu=>b3 u (List.mem_of_mem_drop hu),λi hi=>?_⟩
  have hi':l+i < xs.length:=by rw [hlen] at hi; omega
  have:=b4 (l+i) hi';rw [List.getElem_drop,List.drop_drop];rw [Cs] at this
  exact this
theorem Zbw {t:Ty α} {xs:List α} {v:Value} {fp:List Nat} {w:World} (h:t.sl.rep xs [v] fp w):∃ A c,v=.slice A xs.length c/\xs.length<=c:=by
 obtain ⟨v',ecs,B,⟨L,O,U,A',c',I,anc,V⟩,h2⟩:=h;obtain rfl:v=v':=by simpa using B
 exact⟨A',c',I,anc⟩
theorem Zop {t:Ty α} {xs:List α} {v:Value} {fp:List Nat} {w:World} (h:t.sl.rep xs [v] fp w) {A:Option Addr} {c l:Nat} (hv:v=.slice A xs.length c) (hl:l<=xs.length) (hc:xs.length<=c):t.sl.rep (xs.take l) [sliced A 0 l c t.sz] fp w:=by
 obtain ⟨v',ecs,L,⟨O,U,a2,A',c',B,anc,V⟩,h2⟩:=h;obtain rfl:v=v':=by simpa using L
 rw [hv] at B
 injection B with e3 e4 e5
 subst e3 e5;have hlen:(xs.take l).length=l:=by rw [ZJv]; omega
 have hle:l * t.sz<=xs.length * t.sz:=Zww _ hl;have hcl:(ecs.take (l * t.sz)).length=l * t.sz:=by rw [ZJv,U]; omega
 refine⟨_,ecs.take (l * t.sz),rfl,⟨O,by rw [hlen]; exact hcl,by rw [hlen]; omega,?_⟩,?_⟩
 ·rw [hlen];refine⟨_,c,rfl,by omega,λhn=>?_⟩
  obtain ⟨a,ha,hb,hcell⟩:=V (by omega)
  subst ha
  have e0:(if c=0 then some a else(some a).map (·.add (0 * t.sz)))=some a:=by
   split
   ·rfl
   ·show some (a.add (0 * t.sz))=some a
    rw [Nat.zero_mul]; simp [Addr.add]
  refine⟨a,e0,hb,λj u hj=>?_⟩
  refine hcell j u ?_
  rw [List.getElem?_take] at hj
  split at hj
  ·exact hj
  ·cases hj
 ·obtain ⟨b1,b2,b3,b4⟩:=h2;refine⟨b1,by rw [hlen]; exact hcl,λu hu=>b3 u (ZKe hu),λi hi=>?_⟩
  have hi':i < xs.length:=by rw [hlen] at hi; omega
  have:=b4 i hi';rw [List.getElem_take];have I:(i+1) * t.sz<=l * t.sz:=Zww _ (by rw [hlen] at hi; omega)
  have e:((ecs.take (l * t.sz)).drop (i * t.sz)).take t.sz=(ecs.drop (i * t.sz)).take t.sz:=by
   rw [List.drop_take,List.take_take,Nat.min_eq_left];rw [Cs,Nat.one_mul] at I; omega
  rw [e]; exact this
theorem Zoq {E:Enc α} {t e:Nat} {v:Value} {ecs:List Value} {xs:List (List α)} {w:World} (h:(mat E t e v ecs xs).holds w):∃ A c,v=.slice A xs.length c/\xs.length<=c:=by
 obtain ⟨A,c,B,I,_⟩:=Zbo h.1 xs.length (Cg _);exact⟨A,c,B,I⟩
end
section
variable {P:Program} {ops:Array Oper} {Q:Exit->Act->World->Prop} {n:Nat} {ev_:Env} {w:World} {rest:List Oper}
variable {d ty:Nat} {pos:String} {af:Array Edge}
theorem Zbx {B el sz nv c:Nat} {kq:IntKind} {lo:Int} {x y:Operand} {A:Option Addr} (ht:P.underlying B=some (.slice el)) (hz:Xu P el sz) (hx:ev n ev_ x=.slice A nv c) (hy:ev n ev_ y=.int kq lo) (I:0<=lo) (L:lo<=nv)
  (h:W P ops Q rest n (upd ev_ d (sliced A lo.toNat nv c sz)) w):W P ops Q (⟨some d,.slice B x (some y) none none,ty,pos,af,none⟩::rest) n ev_ w:=by
 have hel:P.elem B=el:=by simp [ZJy,ht]
 have hr:=run_slice_l (P:=P) w B A nv c (U0 ht) kq lo I L;rw [hel,Wy hz,Cc] at hr
 refine Y2 _ rfl rfl ?_ h
 simp only [execOp,hx,hy,Fw,ZJ0,Ca,run_sliceAt_slice w B _ _ _ _ (U0 ht),hr,Cc,Ce]
theorem Zor {B el sz nv c:Nat} {kq:IntKind} {hi:Int} {x y:Operand} {A:Option Addr} (ht:P.underlying B=some (.slice el)) (hz:Xu P el sz) (hx:ev n ev_ x=.slice A nv c) (hy:ev n ev_ y=.int kq hi) (I:0<=hi) (L:hi<=nv) (hc:nv<=c)
  (h:W P ops Q rest n (upd ev_ d (sliced A 0 hi.toNat c sz)) w):W P ops Q (⟨some d,.slice B x none (some y) none,ty,pos,af,none⟩::rest) n ev_ w:=by
 have hel:P.elem B=el:=by simp [ZJy,ht]
 have hr:=run_slice_h (P:=P) w B A nv c (U0 ht) kq hi I (by omega)
 rw [hel,Wy hz,Cc] at hr
 refine Y2 _ rfl rfl ?_ h
 simp only [execOp,hx,hy,Fw,ZJ0,Ca,run_sliceAt_slice w B _ _ _ _ (U0 ht),hr,Cc,Ce]
end
theorem Zos {a b:Int} (h:decide (a=b)=false):decide (a≠b)=true:=by simpa using h
structure Lvl where
 list:List A8
 place:List (A8×Int)
 deriving Inhabited
def THead:Ty Unit where
 sz:=1
 rep _ cs fp w:=(∀ b,b∈fp->b < w.heap.size)/\∃ A n c,cs=[.slice A n c]
 keep h hw:=⟨N7 h hw.1,hw.2⟩
 low hw:=hw.1
 len hw:=by obtain ⟨_,A,n,c,rfl⟩:=hw; rfl
 one hw u hu:=by
  obtain ⟨_,A,n,c,rfl⟩:=hw;obtain rfl:u=_:=by simpa using hu
  rfl
 more hw h h':=⟨h',hw.2⟩
def TLvl:Ty Lvl:=.iso (λl=>(l.list,l.place,(),(),(),())) (.pair ((EA .i64).ty.sl) (.pair TSum (.pair THead (.pair THead (.pair THead THead)))))
theorem Zby {x:Lvl} {B A I L O U:Value} {fp:List Nat} {w:World} (h:TLvl.rep x [B,A,I,L,O,U] fp w) :
  ((EA .i64).ty.sl).rep x.list [B] fp w/\TSum.rep x.place [A] fp w:=by
 obtain ⟨V,h1⟩:=Zad (c1:=[B]) (c2:=[A,I,L,O,U]) h rfl;obtain ⟨a1,h2⟩:=Zad (c1:=[A]) (c2:=[I,L,O,U]) h1 rfl;exact⟨V,a1⟩
theorem Zot {x:Lvl} {B I L O U V:Value} {fp:List Nat} {w:World} (h0:((EA .i64).ty.sl).rep x.list [B] fp w) (h1:TSum.rep x.place [I] fp w)
  (h2:∃ A n c,L=.slice A n c) (h3:∃ A n c,O=.slice A n c) (h4:∃ A n c,U=.slice A n c) (h5:∃ A n c,V=.slice A n c):TLvl.rep x [B,I,L,O,U,V] fp w:=by
 have hl:=λb hb=>Ty.low _ h0 b hb
 have up:∀ {v:Value}, (∃ A n c,v=.slice A n c)->THead.rep () [v] fp w:=λh=>by
  obtain ⟨A,n,c,rfl⟩:=h;exact⟨hl,A,n,c,rfl⟩
 have k5:=Qn (x:=((),())) (up h4) (up h5);have k4:=Qn (x:=((),((),()))) (up h3) k5;have k3:=Qn (x:=((),((),((),())))) (up h2) k4;have k2:=Qn (x:=(x.place,((),((),((),()))))) h1 k3;have k1:TLvl.rep x _ _ w:=Qn (x:=(x.list,(x.place,((),((),((),())))))) h0 k2;exact TLvl.more k1 (λb hb=>by simpa using hb) hl
structure Lev where
 n:Int
 b:Nat
 pb:Nat
 vl:Value
 vm:Value
 vc:Value
 vd:Value
 vk:Value
 md:Bool
 c3:Bool
 c4:Bool
 c5:Bool
def Lev.cells (e:Lev):List Value:=[e.vl,.map (some e.pb),e.vm,e.vc,e.vd,e.vk]
def Lev.key (e:Lev):Int×Nat:=(e.n,e.b)
structure Cx where
 LV:Int->List A8
 PL:Int->List (A8×Int)
 MX:Int->List (List Int)
 CL:Int->List (List Int)
 BD:Int->List (List Int)
 KL:Int->List (List Int)
def lvB (lt:Nat) (D:List Lev):Item where
 fp:=D.map (·.b)
 holds w:=(∀ e,e∈D->(blk e.b lt e.cells).holds w)/\(D.map (·.b)).Nodup
 keep w w' h hw:=by
  refine⟨λe he=>(blk e.b lt e.cells).keep w w' (λc hc=>h c ?_) (hw.1 e he),hw.2⟩
  obtain rfl:c=e.b:=by simpa [blk] using hc
  exact Cp.2 ⟨e,he,rfl⟩
 low w hw b hb:=by
  obtain ⟨e,he,rfl⟩:=Cp.1 hb;exact Ur (hw.1 e he)
section
variable {lt:Nat} {D D1 D2:List Lev} {e:Lev} {w w':World}
theorem Zgg (lt:Nat) (w:World):(lvB lt []).holds w:=⟨by simp,by simp⟩
theorem Sb (h:(lvB lt D).holds w) (he:e∈D):(blk e.b lt e.cells).holds w:=h.1 e he
theorem Zou (h:(blk e.b lt e.cells).holds w):(lvB lt [e]).holds w:=⟨by simpa using h,by simp⟩
theorem Zgh (h:(lvB lt D1).holds w) (A:(lvB lt D2).holds w) (hd:∀ x,x∈(lvB lt D1).fp->x∉(lvB lt D2).fp):(lvB lt (D1++D2)).holds w:=by
 refine⟨λe he=>(Ch.1 he).elim (h.1 e) (A.1 e),?_⟩
 rw [ZJn,Fk];exact⟨h.2,A.2,λa ha b hb e=>hd a ha (e ▸ hb)⟩
theorem Zbz (h:(lvB lt (D1++e::D2)).holds w):(blk e.b lt e.cells).holds w/\(lvB lt (D1++D2)).holds w/\∀ x,x∈(blk e.b lt e.cells).fp->x∉(lvB lt (D1++D2)).fp:=by
 obtain ⟨B,I⟩:=h;rw [ZJn,Fm,Fk,ZFj] at I
 obtain ⟨O,⟨U,V⟩,L⟩:=I;refine⟨B e (by simp),⟨λx hx=>B x ?_,?_⟩,?_⟩
 ·rcases Ch.1 hx with q | q
  ·exact Cv _ q
  ·exact Cu _ (ZJk _ q)
 ·rw [ZJn,Fk];exact⟨O,V,λa ha b hb=>L a ha b (ZJk _ hb)⟩
 ·intro x hx A;obtain rfl:x=e.b:=by simpa [blk] using hx
  have A:e.b∈(D1++D2).map (·.b):=A;rw [ZJn] at A
  rcases Ch.1 A with q | q
  ·exact L _ q _ (by simp) rfl
  ·exact U q
theorem Zb0 (A:(blk e.b lt e.cells).holds w) (B:(lvB lt (D1++D2)).holds w) (hd:∀ x,x∈(blk e.b lt e.cells).fp->x∉(lvB lt (D1++D2)).fp):(lvB lt (D1++e::D2)).holds w:=by
 have hne:∀ x,x∈D1++D2->x.b≠e.b:=λx hx q=>hd e.b (by simp [blk]) (Cp.2 ⟨x,hx,q⟩)
 obtain ⟨h,I⟩:=B;rw [ZJn,Fk] at I
 refine⟨λx hx=>?_,?_⟩
 ·rcases Ch.1 hx with q | q
  ·exact h x (Cv _ q)
  ·rcases Cb.1 q with rfl | q
   ·exact A
   ·exact h x (Cu _ q)
 ·rw [ZJn,Fm,Fk,ZFj];refine⟨I.1,⟨λq=>?_,I.2.1⟩,λa ha b hb=>?_⟩
  ·obtain ⟨x,hx,L⟩:=Cp.1 q;exact hne x (Cu _ hx) L
  ·rcases Cb.1 hb with rfl | hb
   ·obtain ⟨x,hx,rfl⟩:=Cp.1 ha;exact hne x (Cv _ hx)
   ·exact I.2.2 a ha b hb
end
def LvC (C:Cx) (F:List Nat) (e:Lev) (w:World):Prop :=
 ((EA .i64).ty.sl).rep (C.LV e.n) [e.vl] F w/\(e.pb∈F/\(Yb (kvA .i64) (vvI .i64) e.pb (C.PL e.n)).holds w) /\
 (e.md=false->e.vm=.slice none 0 0)/\(e.md=true->(((EI .i64).ty.sl).sl).rep (C.MX e.n) [e.vm] F w) /\
 (e.c3=false->e.vc=.slice none 0 0)/\(e.c3=true->(((EI .i64).ty.sl).sl).rep (C.CL e.n) [e.vc] F w) /\
 (e.c4=false->e.vd=.slice none 0 0)/\(e.c4=true->(((EI .i64).ty.sl).sl).rep (C.BD e.n) [e.vd] F w) /\
 (e.c5=false->e.vk=.slice none 0 0)/\(e.c5=true->(((EI .i64).ty.sl).sl).rep (C.KL e.n) [e.vk] F w)
theorem LvC.keep {C:Cx} {F:List Nat} {e:Lev} {w w':World} (h:∀ b,b∈F->w'.heap[b]? = w.heap[b]?) (hc:LvC C F e w):LvC C F e w':=by
 obtain ⟨B,⟨A,I⟩,L,O,U,b3,V,b4,a5,b5⟩:=hc;exact⟨Ty.keep _ h B,⟨A,Zfh (h _ A) I⟩,L,λq=>Ty.keep _ h (O q),U,λq=>Ty.keep _ h (b3 q),V,λq=>Ty.keep _ h (b4 q),a5,λq=>Ty.keep _ h (b5 q)⟩
theorem LvC.more {C:Cx} {F F':List Nat} {e:Lev} {w:World} (hc:LvC C F e w) (h:∀ b,b∈F->b∈F') (hl:∀ b,b∈F'->b < w.heap.size):LvC C F' e w:=by
 obtain ⟨A,⟨B,I⟩,L,O,U,b3,V,b4,a5,b5⟩:=hc;exact⟨ZJq _ A h hl,⟨h _ B,I⟩,L,λq=>ZJq _ (O q) h hl,U,λq=>ZJq _ (b3 q) h hl,V,λq=>ZJq _ (b4 q) h hl,a5,λq=>ZJq _ (b5 q) h hl⟩
def cpP (C:Cx) (D:List Lev) (F:List Nat):Item where
 fp:=F
 holds w:=(∀ b,b∈F->b < w.heap.size)/\∀ e,e∈D->LvC C F e w
 keep w w' h hw:=⟨N7 h hw.1,λe he=>(hw.2 e he).keep h⟩
 low w hw:=hw.1
section
variable {C:Cx} {D:List Lev} {F:List Nat} {e:Lev} {w:World}
theorem Zov (C:Cx) (w:World):(cpP C [] []).holds w:=⟨by simp,by simp⟩
theorem Zow (h:(cpP C D F).holds w) (he:e∈D):((EA .i64).ty.sl).rep (C.LV e.n) [e.vl] F w:=(h.2 e he).1
theorem Zox {F1:List Nat} (h:(cpP C D F).holds w) (A:LvC C F1 e w) (hl:∀ b,b∈F1->b < w.heap.size):(cpP C (D++[e]) (F++F1)).holds w:=by
 have hl':∀ b,b∈F++F1->b < w.heap.size:=λb hb=>(Ch.1 hb).elim (h.1 b) (hl b)
 refine⟨hl',λx hx=>?_⟩
 rcases Ch.1 hx with q | q
 ·exact(h.2 x q).more (λb hb=>Cv _ hb) hl'
 ·obtain rfl:x=e:=by simpa using q
  exact A.more (λb hb=>Cu _ hb) hl'
theorem Zb1 {D1 D2:List Lev} {F1:List Nat} {e':Lev} (h:(cpP C (D1++e::D2) F).holds w) (hl:∀ b,b∈F1->b < w.heap.size) (A:LvC C F e w->LvC C (F++F1) e' w):(cpP C (D1++e'::D2) (F++F1)).holds w:=by
 have hl':∀ b,b∈F++F1->b < w.heap.size:=λb hb=>(Ch.1 hb).elim (h.1 b) (hl b)
 refine⟨hl',λx hx=>?_⟩
 have up:∀ x,x∈D1++e::D2->LvC C (F++F1) x w:=λx hx=>(h.2 x hx).more (λb hb=>Cv _ hb) hl'
 rcases Ch.1 hx with q | q
 ·exact up x (Cv _ q)
 ·rcases Cb.1 q with rfl | q
  ·exact A (h.2 e (by simp))
  ·exact up x (Cu _ (ZJk _ q))
end
section
variable {C:Cx} {D:List Lev} {F:List Nat} {e:Lev} {w:World} {n:Int}
theorem Zoy (h:(cpP C D F).holds w) (he:e∈D) (hn:e.n=n):((EA .i64).ty.sl).rep (C.LV n) [e.vl] F w:=hn ▸ Zow h he
theorem Mw {α:Type} {t:Ty α} {xs:List α} {v:Value} {fp:List Nat} {w:World} (h:t.sl.rep xs [v] fp w):∃ A n c,v=.slice A n c:=by
 obtain ⟨A,c,e⟩:=Sk h;exact⟨A,_,c,e⟩
theorem Zgi (h:(cpP C D F).holds w) (he:e∈D) (hn:e.n=n):TLvl.rep ⟨C.LV n,C.PL n⟩ [e.vl,.map (some e.pb),e.vm,e.vc,e.vd,e.vk] F w:=by
 subst hn;obtain ⟨B,⟨I,L⟩,O,U,V,b3,a4,b4,a5,b5⟩:=h.2 e he
 have two:∀ {d:Bool} {v:Value} {xs:List (List Int)}, (d=false->v=.slice none 0 0)->(d=true->(((EI .i64).ty.sl).sl).rep xs [v] F w)->∃ A n c,v=.slice A n c:=λ{d v xs} ha hb=>by
  cases q:d with
  | false=>exact⟨_,_,_,ha q⟩
  | true=>exact Mw (hb q)
 exact Zot B ⟨e.pb,rfl,I,h.1,L⟩ (two O U) (two V b3) (two a4 b4) (two a5 b5)
end
theorem Zoz {D:List Lev} {n:Int} {b:Nat} (h:Xa (D.map Lev.key) n=some b):∃ e,e∈D/\e.n=n/\e.b=b:=by
 cases hf:Wr (D.map Lev.key) n 0 with
 | none=>rw [(Tz hf).1] at h; cases h
 | some q =>
  obtain ⟨j,v⟩:=q;obtain ⟨_,B,I,_⟩:=T0 hf;rw [I] at h
  obtain rfl:v=b:=by simpa using h
  obtain ⟨e,he,A⟩:=Cp.1 (List.mem_of_getElem? B);have L:=I1 Prod.fst A;have O:=I1 Prod.snd A;exact⟨e,he,L,O⟩
theorem Zo0 {D:List Lev} {n:Int} {b:Nat} (h:Xa (D.map Lev.key) n=none):Yv (D.map Lev.key) n b=D.map Lev.key++[(n,b)]:=by
 cases hf:Wr (D.map Lev.key) n 0 with
 | none=>exact(Tz hf).2.1 b
 | some q=>obtain ⟨j,v⟩:=q; rw [(T0 hf).2.2.1] at h; cases h
section
variable {P:Program} {ops:Array Oper} {Q:Exit->Act->World->Prop} {n:Nat} {e:Env} {w w':World} {rest:List Oper}
variable {X:Nat->Prop} {w0:World} {M Ps:List Item}
variable {d ty:Nat} {pos:String} {af:Array Edge}
theorem Zo1 {α β:Type} [DecidableEq α] {kv:α->Value} {vv:β->Value} {t k el b:Nat} {l:List (α×β)} {x y:Operand} (kx:α) (z:Value) (hh:(Yb kv vv b l).holds w) (K:KeyT P k kv) (ht:P.underlying t=some (.map k el)) (hz:Je P el z)
  (hx:ev n e x=.map (some b)) (hy:ev n e y=kv kx) (A:∀ c,Xa l kx=some c->W P ops Q rest n (upd e d (.tuple #[vv c,.bool true])) w) (B:Xa l kx=none->W P ops Q rest n (upd e d (.tuple #[z,.bool false])) w) :
  W P ops Q (⟨some d,.lookup t x y true,ty,pos,af,none⟩::rest) n e w:=by
 obtain ⟨es,clock,I,h,L⟩:=hh;have hg:(getObj b).run P w=.ok (.map es clock) w:=by simp [getObj,Sem.run,I]
 cases hf:Wr l kx 0 with
 | none =>
  refine Y2 _ rfl rfl ?_ (B (Tz hf).1)
  have hl:(ZJ7 t (.map (some b)) (kv kx) true).run P w=.ok (.tuple #[z,.bool false]) w:=by
   simp only [ZJ7,Ca,run_underlying ht,Cc,hg,Ce,K.check,Qq K w kx es.toList l h];simp [hf,G2 hz]
  simp [execOp,hx,hy,hl]
 | some q =>
  obtain ⟨j,v⟩:=q;refine Y2 _ rfl rfl ?_ (A v (T0 hf).2.2.1)
  have hl:(ZJ7 t (.map (some b)) (kv kx) true).run P w=.ok (.tuple #[vv v,.bool true]) w:=by
   simp only [ZJ7,Ca,run_underlying ht,Cc,hg,Ce,K.check,Qq K w kx es.toList l h];simp [hf]
  simp [execOp,hx,hy,hl]
end
section
variable {X:Nat->Prop} {w0 w w':World} {M Ps:List Item}
theorem Ctx.turnMP (h:Ctx X w0 w M Ps) (k j:Nat) {it jt pt qt:Item} (hk:M[k]? = some it) (hj:Ps[j]? = some pt) (A:BelO it.fp w w') (hh:jt.holds w') (hq:qt.holds w')
  (hf:∀ b,b∈jt.fp->b∈it.fp\/w.heap.size<=b) (hg:∀ b,b∈qt.fp->b∈pt.fp\/w.heap.size<=b) (hd:∀ b,b∈qt.fp->b∉jt.fp):Ctx X w0 w' (M.set k jt) (Ps.set j qt):=by
 have B:=h.turn k hk A.os A.tape A.output A.size A.drawn A.old hh hf;refine { B with p:=λx hx=>?_,pd:=λx hx b hb m hm=>?_ }
 ·rcases ZDp hx with q | q
  ·exact B.p x q
  ·subst q; exact hq
 ·rcases ZDp hx with q | q
  ·exact B.pd x q b hb m hm
  ·subst q;rcases hg b hb with g | g
   ·rcases ZDp hm with z | z
    ·exact h.pd pt (List.mem_of_getElem? hj) b g m z
    ·subst z; exact hd b hb
   ·rcases ZDp hm with z | z
    ·exact λhbm=>absurd (m.low w (h.m m z) b hbm) (C2.2 g)
    ·subst z; exact hd b hb
theorem Ctx.turnMPN (h:Ctx X w0 w M Ps) (k j:Nat) {it jt pt qt nt:Item} (hk:M[k]? = some it) (hj:Ps[j]? = some pt) (A:BelO it.fp w w') (hh:jt.holds w') (hq:qt.holds w') (hn:nt.holds w')
  (hf:∀ b,b∈jt.fp->b∈it.fp\/w.heap.size<=b) (hg:∀ b,b∈qt.fp->b∈pt.fp\/w.heap.size<=b) (hd:∀ b,b∈qt.fp->b∉jt.fp) (hnf:∀ b,b∈nt.fp->w.heap.size<=b) (hnj:∀ b,b∈nt.fp->b∉jt.fp/\b∉qt.fp) :
  Ctx X w0 w' (nt::M.set k jt) (Ps.set j qt):=by
 have B:=h.turnMP k j hk hj A hh hq hf hg hd;refine { B with m:=λx hx=>?_,mfp:=λx hx b hb=>?_,dis:=?_,pd:=λx hx b hb m hm=>?_ }
 ·rcases Cb.1 hx with rfl | hx
  ·exact hn
  ·exact B.m x hx
 ·rcases Cb.1 hx with rfl | hx
  ·exact .inl (Cj h.size (hnf b hb))
  ·exact B.mfp x hx b hb
 ·refine Cl.2 ⟨λm hm x hx hxm=>?_,B.dis⟩
  rcases ZDp hm with z | z
  ·exact absurd (m.low w (h.m m z) x hxm) (C2.2 (hnf x hx))
  ·subst z; exact(hnj x hx).1 hxm
 ·rcases Cb.1 hm with rfl | hm
  ·intro hbm;rcases ZDp hx with z | z
   ·exact absurd (x.low w (h.p x z) b hb) (C2.2 (hnf b hbm))
   ·subst z; exact(hnj b hbm).2 hb
  ·exact B.pd x hx b hb m hm
theorem Ctx.permM (h:Ctx X w0 w M Ps) {M':List Item} (hp:M.Perm M'):Ctx X w0 w M' Ps :=
  { h with
    m:=fun x hx=>h.m x (hp.mem_iff.2 hx)
    mfp:=fun x hx=>h.mfp x (hp.mem_iff.2 hx)
    dis:=(hp.pairwise_iff (fun {a b} hab x hx hx2=>hab x hx2 hx)).1 h.dis
    pd:=fun x hx b hb m hm=>h.pd x hx b hb m (hp.mem_iff.2 hm) }
theorem J5 (b:Nat):PreW (BelB b) :=
 ⟨λw=>⟨rfl,rfl,rfl,Cg _,Cg _,λ_ _ _=>rfl⟩,λh k=>⟨k.os.trans h.os,k.tape.trans h.tape,k.output.trans h.output,Cj h.size k.size,Cj h.drawn k.drawn,λc hc hne=>(k.old c (Zwo hc h.size) hne).trans (h.old c hc hne)⟩⟩
end
def cpx (C:Cx) (lt mb:Nat) (D:List Lev) (F:List Nat):Item where
 fp:=mb::(D.map (·.b)++F)
 holds w:=(Yb (vvI .i64) vvP mb (D.map Lev.key)).holds w/\(lvB lt D).holds w/\(cpP C D F).holds w/\(mb∉D.map (·.b)/\mb∉F/\∀ b,b∈D.map (·.b)->b∉F)
 keep w w' h hw:=by
  refine⟨ZJl _ w w' (λb hb=>h b ?_) hw.1,ZJl _ w w' (λb hb=>h b (ZJk _ (Cv _ hb))) hw.2.1,ZJl _ w w' (λb hb=>h b (ZJk _ (Cu _ hb))) hw.2.2.1,hw.2.2.2⟩
  obtain rfl:b=mb:=by simpa [Yb] using hb
  exact ZJs
 low w hw b hb:=by
  rcases Cb.1 hb with rfl | hb
  ·exact ZJj _ w hw.1 b (by simp [Yb])
  ·rcases Ch.1 hb with hb | hb
   ·exact ZJj _ w hw.2.1 b hb
   ·exact ZJj _ w hw.2.2.1 b hb
def LvAt (D:List Lev) (n:Int) (b:Nat) (md cd:Bool):Prop:=∃ e,e∈D/\e.n=n/\e.b=b/\(md=true->e.md=true)/\(cd=true->e.c3=true/\e.c4=true/\e.c5=true)
structure Lev.Le (e e':Lev):Prop where
 n:e'.n=e.n
 b:e'.b=e.b
 md:e.md=true->e'.md=true
 c3:e.c3=true->e'.c3=true
 c4:e.c4=true->e'.c4=true
 c5:e.c5=true->e'.c5=true
theorem Lev.Le.refl (e:Lev):e.Le e:=⟨rfl,rfl,id,id,id,id⟩
theorem Lev.Le.trans {a b c:Lev} (h:a.Le b) (k:b.Le c):a.Le c:=⟨k.n.trans h.n,k.b.trans h.b,λq=>k.md (h.md q),λq=>k.c3 (h.c3 q),λq=>k.c4 (h.c4 q),λq=>k.c5 (h.c5 q)⟩
structure CpX (S:Nat->Prop) (D D':List Lev) (F F':List Nat):Prop where
 up:∀ e,e∈D->∃ e',e'∈D'/\e.Le e'
 dn:∀ e',e'∈D'->¬ S e'.b->e'.c3=true->(e'.c4=true/\e'.c5=true)\/∃ e,e∈D/\e.b=e'.b/\e.c3=true/\(e.c4=true->e'.c4=true)/\(e.c5=true->e'.c5=true)
 fp:∀ x,x∈F->x∈F'
abbrev CpLe (D D':List Lev) (F F':List Nat):Prop:=CpX (λ_=>False) D D' F F'
def Mx (D:List Lev):Prop:=∀ e,e∈D->e.c3=true->e.c4=true/\e.c5=true
theorem CpX.refl {S:Nat->Prop} (D:List Lev) (F:List Nat):CpX S D D F F:=⟨λe he=>⟨e,he,.refl e⟩,λe he _ A=>.inr ⟨e,he,rfl,A,id,id⟩,λ_ h=>h⟩
theorem CpX.trans {S:Nat->Prop} {D D' D2:List Lev} {F F' F2:List Nat} (h:CpX S D D' F F') (k:CpX S D' D2 F' F2):CpX S D D2 F F2:=by
 refine⟨λe he=>?_,λe he hs h3=>?_,λx hx=>k.fp x (h.fp x hx)⟩
 ·obtain ⟨A,B,I⟩:=h.up e he;obtain ⟨L,O,U⟩:=k.up A B;exact⟨L,O,I.trans U⟩
 ·rcases k.dn e he hs h3 with q | ⟨A,B,I,q3,V,h5⟩
  ·exact .inl q
  ·rcases h.dn A B (I ▸ hs) q3 with q | ⟨L,O,U,k3,k4,k5⟩
   ·exact .inl ⟨V q.1,h5 q.2⟩
   ·exact .inr ⟨L,O,U.trans I,k3,λq=>V (k4 q),λq=>h5 (k5 q)⟩
theorem CpX.some {S T:Nat->Prop} {D D':List Lev} {F F':List Nat} (h:CpX S D D' F F') (hs:∀ b,S b->T b):CpX T D D' F F':=⟨h.up,λe he ht A=>h.dn e he (λq=>ht (hs _ q)) A,h.fp⟩
theorem CpX.done {S:Nat->Prop} {D D':List Lev} {F F':List Nat} (h:CpX S D D' F F') (hd:∀ e,e∈D'->S e.b->e.c4=true/\e.c5=true):CpLe D D' F F' :=
 ⟨h.up,λe he _ A=>by
  by_cases q:S e.b
  ·exact .inl (hd e he q)
  ·exact h.dn e he q A,h.fp⟩
theorem CpX.rest {D D':List Lev} {F F':List Nat} (h:CpLe D D' F F') (hr:Mx D):Mx D':=λe he hc=>by
 rcases h.dn e he id hc with q | ⟨A,B,U,I,L,O⟩
 ·exact q
 ·exact⟨L (hr A B I).1,O (hr A B I).2⟩
theorem Zo2:Mx []:=λ_ h=>by cases h
theorem LvAt.up {S:Nat->Prop} {D D':List Lev} {F F':List Nat} {n:Int} {b:Nat} {md cd:Bool} (h:LvAt D n b md cd) (k:CpX S D D' F F'):LvAt D' n b md cd:=by
 obtain ⟨e,B,I,L,O,A⟩:=h;obtain ⟨U,V,k2⟩:=k.up e B;exact⟨U,V,k2.n.trans I,k2.b.trans L,λq=>k2.md (O q),λq=>⟨k2.c3 (A q).1,k2.c4 (A q).2.1,k2.c5 (A q).2.2⟩⟩
section
variable {C:Cx} {lt mb:Nat} {D:List Lev} {F:List Nat} {w:World} {n:Int} {b:Nat} {md cd:Bool}
theorem Zo3 (h:(Yb (vvI .i64) vvP mb ([]:List (Int×Nat))).holds w):(cpx C lt mb [] []).holds w:=⟨h,Zgg _ _,Zov _ _,by simp⟩
theorem My (h:(cpx C lt mb D F).holds w) (hl:LvAt D n b md cd):∃ A B I L O U,TLvl.rep ⟨C.LV n,C.PL n⟩ [A,B,I,L,O,U] F w/\(blk b lt [A,B,I,L,O,U]).holds w:=by
 obtain ⟨e,V,h2,rfl,_,_⟩:=hl;exact⟨_,_,_,_,_,_,Zgi h.2.2.1 V h2,Sb h.2.1 V⟩
theorem Mz (h:(cpx C lt mb D F).holds w) (hl:LvAt D n b md cd):∃ B v1 I L O U,(blk b lt [B,v1,I,L,O,U]).holds w/\((EA .i64).ty.sl).rep (C.LV n) [B] F w/\(md=true->(((EI .i64).ty.sl).sl).rep (C.MX n) [I] F w) /\
  (cd=true->(((EI .i64).ty.sl).sl).rep (C.CL n) [L] F w/\(((EI .i64).ty.sl).sl).rep (C.BD n) [O] F w/\(((EI .i64).ty.sl).sl).rep (C.KL n) [U] F w):=by
 obtain ⟨e,V,rfl,rfl,h2,A⟩:=hl;obtain ⟨g1,g2,g3,g4,_,b3,_,b4,_,b5⟩:=h.2.2.1.2 e V;exact⟨_,_,_,_,_,_,Sb h.2.1 V,g1,λq=>g4 (h2 q),λq=>⟨b3 (A q).1,b4 (A q).2.1,b5 (A q).2.2⟩⟩
theorem Zo4 (h:(cpx C lt mb D F).holds w) (hl:LvAt D n b md cd):∃ O U L V v4 v5,(blk b lt [O,U,L,V,v4,v5]).holds w/\∃ A m c,L=.slice A m c/\∀ a,A=some a->LvAt D n b true cd:=by
 obtain ⟨e,B,rfl,rfl,h2,h3⟩:=hl;obtain ⟨g1,g2,g3,g4,_⟩:=h.2.2.1.2 e B;refine⟨_,_,_,_,_,_,Sb h.2.1 B,?_⟩
 cases q:e.md with
 | false=>exact⟨none,0,0,g3 q,λa I=>by cases I⟩
 | true =>
  obtain ⟨A,m,c,I⟩:=Mw (g4 q);exact⟨A,m,c,I,λa _=>⟨e,B,rfl,rfl,λ_=>q,h3⟩⟩
theorem Tk {x:Nat} (h:x∈F):x∈(cpx C lt mb D F).fp:=ZJk _ (Cu _ h)
theorem Vg:mb∈(cpx C lt mb D F).fp:=ZJs
end
section
variable {X:Nat->Prop} {w0 w w':World} {M Ps:List Item}
theorem Ctx.turnPush (h:Ctx X w0 w M Ps) (k:Nat) {it jt nt:Item} (hk:M[k]? = some it) (A:BelO it.fp w w') (hh:jt.holds w') (hf:∀ b,b∈jt.fp->b∈it.fp\/w.heap.size<=b)
  (hn:nt.holds w') (hfn:∀ b,b∈nt.fp->b∈it.fp\/w.heap.size<=b) (hd:∀ b,b∈nt.fp->b∉jt.fp):Ctx X w0 w' (nt::M.set k jt) Ps:=by
 have B:=h.turn k hk A.os A.tape A.output A.size A.drawn A.old hh hf;have hmem:it∈M:=List.mem_of_getElem? hk;have hlt:k < M.length:=(List.getElem?_eq_some_iff.1 hk).1
 have hget:M[k]=it:=(List.getElem?_eq_some_iff.1 hk).2
 refine { B with m:=λx hx=>?_,mfp:=λx hx b hb=>?_,dis:=?_,pd:=λx hx b hb m hm=>?_ }
 ·rcases Cb.1 hx with rfl | hx
  ·exact hn
  ·exact B.m x hx
 ·rcases Cb.1 hx with rfl | hx
  ·rcases hfn b hb with q | q
   ·exact h.mfp it hmem b q
   ·exact .inl (Cj h.size q)
  ·exact B.mfp x hx b hb
 ·refine Cl.2 ⟨λm hm x hx hxm=>?_,B.dis⟩
  obtain ⟨i,hi,hmi⟩:=Cw hm;rw [List.getElem_set] at hmi
  split at hmi
  ·subst hmi; exact hd x hx hxm
  ·rename_i hne;have hi':i < M.length:=by simpa using hi
   subst hmi;rcases hfn x hx with q | q
   ·rcases Nat.lt_or_gt_of_ne hne with hl | hl
    ·exact(Cq.1 h.dis k i hlt hi' hl) x (hget ▸ q) hxm
    ·exact(Cq.1 h.dis i k hi' hlt hl) x hxm (hget ▸ q)
   ·exact absurd ((M[i]).low w (h.m _ (List.getElem_mem hi')) x hxm) (C2.2 q)
 ·rcases Cb.1 hm with rfl | hm
  ·intro hbm;rcases hfn b hbm with q | q
   ·exact h.pd x hx b hb it hmem q
   ·exact absurd (x.low w (h.p x hx) b hb) (C2.2 q)
  ·exact B.pd x hx b hb m hm
theorem Ctx.focus {C:Cx} {lt mb:Nat} {D:List Lev} {F:List Nat} {n:Int} {b:Nat} {md cd:Bool} (h:Ctx X w0 w (cpx C lt mb D F::M) Ps) (hl:LvAt D n b md cd) :
    ∃ (D1 D2 : List Lev) (ev : Lev), D = D1 ++ ev :: D2 ∧ ev.n = n ∧ ev.b = b ∧ (∀ x, x ∈ F → w0.heap.size ≤ x ∨ X x) ∧
      Ctx X w0 w (blk b lt [ev.vl,.map (some ev.pb),ev.vm,ev.vc,ev.vd,ev.vk]::lvB lt (D1++D2)::Yb (vvI .i64) vvP mb ((D1++ev::D2).map Lev.key)::M) (cpP C (D1++ev::D2) F::Ps):=by
  obtain ⟨ev,he,rfl,rfl,_,_⟩:=hl
  obtain ⟨D1,D2,rfl⟩:=ZJ3 he
  have hx:=h.m _ ZJs
  obtain ⟨q1,q2,q3⟩:=Zbz hx.2.1
  have fx:=h.mfp _ ZJs
  obtain ⟨d1,d2⟩:=Cl.1 h.dis
  have inB:∀ x,x∈(lvB lt (D1++D2)).fp→x∈(D1++ev::D2).map (·.b):=fun x hx=>by
    obtain ⟨z,hz,rfl⟩:=Cp.1 hx
    refine Cp.2 ⟨z,?_,rfl⟩
    rcases Ch.1 hz with q | q
    · exact Cv _ q
    · exact Cu _ (ZJk _ q)
  have inE:∀ x,x∈(blk ev.b lt ev.cells).fp→x∈(D1++ev::D2).map (·.b):=fun x hx=>by
    obtain rfl:x=ev.b:=by simpa [blk] using hx
    exact Cp.2 ⟨ev,by simp,rfl⟩
  have inM:∀ x,x∈(Yb (vvI .i64) vvP mb ((D1++ev::D2).map Lev.key)).fp→x=mb:=fun x hx=>by simpa [Yb] using hx
  have upD:∀ x,x∈(D1++ev::D2).map (·.b)→x∈(cpx C lt mb (D1++ev::D2) F).fp:=fun x hx=>ZJk _ (Cv _ hx)
  have upI:∀ it,it=blk ev.b lt ev.cells∨it=lvB lt (D1++D2)∨it=Yb (vvI .i64) vvP mb ((D1++ev::D2).map Lev.key)→∀ x,x∈it.fp→x∈(cpx C lt mb (D1++ev::D2) F).fp:=by
    rintro it (rfl | rfl | rfl) x hx
    · exact upD x (inE x hx)
    · exact upD x (inB x hx)
    · rw [inM x hx]; exact Vg
  refine⟨D1,D2,ev,rfl,rfl,rfl,fun x hx=>fx x (Tk hx),{ h with m:=?_,p:=?_,mfp:=?_,dis:=?_,pd:=?_ }⟩
  · intro it hi
    rcases Cb.1 hi with rfl | hi
    · exact q1
    · rcases Cb.1 hi with rfl | hi
      · exact q2
      · rcases Cb.1 hi with rfl | hi
        · exact hx.1
        · exact h.m it (ZJk _ hi)
  · intro it hi
    rcases Cb.1 hi with rfl | hi
    · exact hx.2.2.1
    · exact h.p it hi
  · intro it hi x hxf
    rcases Cb.1 hi with q | hi
    · exact fx x (upI it (.inl q) x hxf)
    · rcases Cb.1 hi with q | hi
      · exact fx x (upI it (.inr (.inl q)) x hxf)
      · rcases Cb.1 hi with q | hi
        · exact fx x (upI it (.inr (.inr q)) x hxf)
        · exact h.mfp it (ZJk _ hi) x hxf
  · refine Cl.2 ⟨fun it hi x hxe hxi=>?_,Cl.2 ⟨fun it hi x hxe hxi=>?_,Cl.2 ⟨fun it hi x hxe hxi=>?_,d2⟩⟩⟩
    · rcases Cb.1 hi with rfl | hi
      · exact q3 x hxe hxi
      · rcases Cb.1 hi with rfl | hi
        · rw [inM x hxi] at hxe; exact hx.2.2.2.1 (inE _ hxe)
        · exact d1 it hi x (upI _ (.inl rfl) x hxe) hxi
    · rcases Cb.1 hi with rfl | hi
      · rw [inM x hxi] at hxe; exact hx.2.2.2.1 (inB _ hxe)
      · exact d1 it hi x (upI _ (.inr (.inl rfl)) x hxe) hxi
    · exact d1 it hi x (upI _ (.inr (.inr rfl)) x hxe) hxi
  · intro it hi x hxi m hm hxm
    have key:∀ it,it∈Ps→∀ x,x∈it.fp→∀ m,m=blk ev.b lt ev.cells∨m=lvB lt (D1++D2)∨m=Yb (vvI .i64) vvP mb ((D1++ev::D2).map Lev.key)→x∉m.fp:=fun it hi x hxi m hm hxm=>h.pd it hi x hxi _ ZJs (upI m hm x hxm)
    have kF:∀ x,x∈F→∀ m,m=blk ev.b lt ev.cells∨m=lvB lt (D1++D2)∨m=Yb (vvI .i64) vvP mb ((D1++ev::D2).map Lev.key)→x∉m.fp:=by
      rintro x hxF m (rfl | rfl | rfl) hxm
      · exact hx.2.2.2.2.2 x (inE x hxm) hxF
      · exact hx.2.2.2.2.2 x (inB x hxm) hxF
      · rw [inM x hxm] at hxF; exact hx.2.2.2.2.1 hxF
    have rest:∀ m,m∈M→x∉m.fp:=fun m hm hxm=>by
      rcases Cb.1 hi with rfl | hi
      · exact d1 m hm x (Tk hxi) hxm
      · exact h.pd it hi x hxi m (ZJk _ hm) hxm
    have front:∀ m,m=blk ev.b lt ev.cells∨m=lvB lt (D1++D2)∨m=Yb (vvI .i64) vvP mb ((D1++ev::D2).map Lev.key)→x∉m.fp:=fun m hm=>by
      rcases Cb.1 hi with rfl | hi
      · exact kF x hxi m hm
      · exact key it hi x hxi m hm
    rcases Cb.1 hm with q | hm
    · exact front m (.inl q) hxm
    · rcases Cb.1 hm with q | hm
      · exact front m (.inr (.inl q)) hxm
      · rcases Cb.1 hm with q | hm
        · exact front m (.inr (.inr q)) hxm
        · exact rest m hm hxm
theorem Zo5 {D1 D2 new:List Lev} {ev v:Lev} (h:v∈(D1++ev::D2)++new) (hne:v≠ev):v∈(D1++D2)++new:=by
 simp only [Ch,Cb] at h ⊢
 rcases h with (h | h | h) | h
 ·exact .inl (.inl h)
 ·exact absurd h hne
 ·exact .inl (.inr h)
 ·exact .inr h
theorem Zo6 (n:Int):Zwt.wrap (n+1)≠n:=by
 rw [ZJ6]; omega
theorem Zo7 {C:Cx} {lt mb a e:Nat} {D1 D2 new:List Lev} {ev:Lev} {n:Int} {b:Nat} {v:Value} {F F1 f:List Nat} {w:World}
    (hm:(Yb (vvI .i64) vvP mb (((D1++ev::D2)++new).map Lev.key)).holds w) (hl:(lvB lt ((D1++D2)++new)).holds w) (hb:(blk b lt [ev.vl,.map (some ev.pb),v,ev.vc,ev.vd,ev.vk]).holds w)
    (hp:(cpP C ((D1++ev::D2)++new) (F++F1)).holds w) (ht:(ZCn (ZJh a (ZJh e (EI .i64).tr)) (C.MX n) [v] f).holds w) (hn:ev.n=n) (hbb:ev.b=b)
    (d1:∀ x,x∈(Yb (vvI .i64) vvP mb (((D1++ev::D2)++new).map Lev.key)).fp→x∉(blk b lt [ev.vl,.map (some ev.pb),v,ev.vc,ev.vd,ev.vk]).fp)
    (d2:∀ x,x∈(Yb (vvI .i64) vvP mb (((D1++ev::D2)++new).map Lev.key)).fp→x∉(lvB lt ((D1++D2)++new)).fp)
    (d3:∀ x,x∈(Yb (vvI .i64) vvP mb (((D1++ev::D2)++new).map Lev.key)).fp→x∉f)
    (d4:∀ x,x∈(blk b lt [ev.vl,.map (some ev.pb),v,ev.vc,ev.vd,ev.vk]).fp→x∉(lvB lt ((D1++D2)++new)).fp)
    (d5:∀ x,x∈(blk b lt [ev.vl,.map (some ev.pb),v,ev.vc,ev.vd,ev.vk]).fp→x∉f) (d6:∀ x,x∈(lvB lt ((D1++D2)++new)).fp→x∉f)
    (p1:∀ x,x∈F++F1→x∉(Yb (vvI .i64) vvP mb (((D1++ev::D2)++new).map Lev.key)).fp) (p2:∀ x,x∈F++F1→x∉(blk b lt [ev.vl,.map (some ev.pb),v,ev.vc,ev.vd,ev.vk]).fp)
    (p3:∀ x,x∈F++F1→x∉(lvB lt ((D1++D2)++new)).fp) (hnw:∀ z,z∈new→z.c3=false) :
    ∃ (D' : List Lev) (F' : List Nat), CpLe (D1 ++ ev :: D2) D' F F' ∧ LvAt D' n b true false ∧ (cpx C lt mb D' F').holds w ∧
      ∀ x,x∈(cpx C lt mb D' F').fp→x∈(Yb (vvI .i64) vvP mb (((D1++ev::D2)++new).map Lev.key)).fp∨x∈(blk b lt [ev.vl,.map (some ev.pb),v,ev.vc,ev.vd,ev.vk]).fp∨x∈(lvB lt ((D1++D2)++new)).fp∨x∈F∨x∈F1∨x∈f:=by
  subst hn hbb
  have e1:(D1++ev::D2)++new=D1++ev::(D2++new):=by simp
  have e2:(D1++D2)++new=D1++(D2++new):=by simp
  rw [e1] at hm hp d1 d2 d3 p1
  rw [e2] at hl d2 d4 d6 p3
  rw [e1,e2]
  have hmb:mb∈(Yb (vvI .i64) vvP mb ((D1++ev::(D2++new)).map Lev.key)).fp:=by simp [Yb]
  have inS:∀ x,x∈(D1++({ ev with vm:=v,md:=true }:Lev)::(D2++new)).map (·.b)→x=ev.b∨x∈(lvB lt (D1++(D2++new))).fp:=fun x hx=>by
    obtain ⟨z,hz,rfl⟩:=Cp.1 hx
    rcases Ch.1 hz with q | q
    · exact .inr (Cp.2 ⟨z,Cv _ q,rfl⟩)
    · rcases Cb.1 q with rfl | q
      · exact .inl rfl
      · exact .inr (Cp.2 ⟨z,Cu _ q,rfl⟩)
  have hbm:ev.b∈(blk ev.b lt [ev.vl,.map (some ev.pb),v,ev.vc,ev.vd,ev.vk]).fp:=by simp [blk]
  have hlow:∀ x,x∈f→x < w.heap.size:=fun x hx=>ZJj _ w ht x hx
  refine⟨D1++{ ev with vm:=v,md:=true }::(D2++new),(F++F1)++f,⟨fun z hz=>?_,fun z hz _ h3=>?_,fun x hx=>Cv _ (Cv _ hx)⟩,⟨{ ev with vm:=v,md:=true }, by simp,rfl,rfl,fun _=>rfl,fun q=>(ZJr q).elim⟩,⟨?_,?_,?_,?_,?_,?_⟩,?_⟩
  · rcases Ch.1 hz with q | q
    · exact⟨z,Cv _ q,.refl z⟩
    · rcases Cb.1 q with rfl | q
      · exact⟨{ z with vm:=v,md:=true }, Cu _ ZJs,rfl,rfl,fun _=>rfl,id,id,id⟩
      · exact⟨z,Cu _ (ZJk _ (Cv _ q)),.refl z⟩
  · rcases Ch.1 hz with q | q
    · exact .inr ⟨z,Cv _ q,rfl,h3,id,id⟩
    · rcases Cb.1 q with rfl | q
      · exact .inr ⟨ev,by simp,rfl,h3,id,id⟩
      · rcases Ch.1 q with q | q
        · exact .inr ⟨z,Cu _ (ZJk _ q),rfl,h3,id,id⟩
        · exact absurd h3 (by rw [hnw z q]; exact ZJr)
  · have:(D1++({ ev with vm:=v,md:=true }:Lev)::(D2++new)).map Lev.key=(D1++ev::(D2++new)).map Lev.key:=by simp [Lev.key]
    rw [this]; exact hm
  · exact Zb0 hb hl d4
  · refine Zb1 (e:=ev) (e':={ ev with vm:=v,md:=true }) hp hlow fun hc=>?_
    obtain ⟨h1,⟨h2,h3⟩,h4,h5,h6⟩:=hc.more (F':=(F++F1)++f) (fun b hb=>Cv _ hb) (fun b hb=>(Ch.1 hb).elim (hp.1 b) (hlow b))
    exact⟨h1,⟨h2,h3⟩,fun q=>(ZJ4 q),fun _=>ZJq _ (ZJu _ ht.1) (fun b hb=>Cu _ hb) (fun b hb=>(Ch.1 hb).elim (hp.1 b) (hlow b)),h6⟩
  · intro q
    rcases inS _ q with q | q
    · exact d1 mb hmb (q ▸ hbm)
    · exact d2 mb hmb q
  · intro q
    rcases Ch.1 q with q | q
    · exact p1 mb q hmb
    · exact d3 mb hmb q
  · intro x hx q
    rcases inS x hx with rfl | hx
    · rcases Ch.1 q with q | q
      · exact p2 _ q hbm
      · exact d5 _ hbm q
    · rcases Ch.1 q with q | q
      · exact p3 _ q hx
      · exact d6 _ hx q
  · intro x hx
    rcases Cb.1 hx with rfl | hx
    · exact .inl hmb
    · rcases Ch.1 hx with q | q
      · rcases inS x q with rfl | q
        · exact .inr (.inl hbm)
        · exact .inr (.inr (.inl q))
      · rcases Ch.1 q with q | q
        · rcases Ch.1 q with q | q
          · exact .inr (.inr (.inr (.inl q)))
          · exact .inr (.inr (.inr (.inr (.inl q))))
        · exact .inr (.inr (.inr (.inr (.inr q))))
theorem Ctx.growC (h:Ctx X w0 w M Ps) (k:Nat) {it:Item} {b:Nat} (hk:M[k]? = some it) (hb:b∈it.fp) (A:BelB b w w'):Ctx X w0 w' (M.eraseIdx k) Ps:=by
 have hlt:k < M.length:=(List.getElem?_eq_some_iff.1 hk).1
 have hget:M[k]=it:=(List.getElem?_eq_some_iff.1 hk).2
 have hmem:it∈M:=List.mem_of_getElem? hk;have g:=h.sub (M':=M.eraseIdx k) (Ps':=Ps) (List.eraseIdx_sublist ..) (λ_ x=>x)
 have sep:∀ m,m∈M.eraseIdx k->b∉m.fp:=by
  intro m hm hbm;obtain ⟨i,hi,hmi⟩:=Cw hm;rw [List.getElem_eraseIdx] at hmi
  split at hmi
  ·rename_i hik;subst hmi;exact(Cq.1 h.dis i k (by omega) hlt hik) b hbm (hget ▸ hb)
  ·rename_i hik;have B:i < M.length - 1:=by rw [List.length_eraseIdx_of_lt hlt] at hi; exact hi
   subst hmi;exact(Cq.1 h.dis k (i+1) hlt (by omega) (by omega)) b (hget ▸ hb) hbm
 refine { g with os:=A.os.trans h.os,tape:=A.tape.trans h.tape,output:=A.output.trans h.output,size:=Cj h.size A.size,drawn:=Cj h.drawn A.drawn,old:=λc hc hx=>?_,m:=λx hx=>?_,p:=λx hx=>?_ }
 ·by_cases e:c=b
  ·subst e;rcases h.mfp it hmem c hb with q | q
   ·omega
   ·exact absurd q hx
  ·rw [A.old c (Zwo hc h.size) e]; exact h.old c hc hx
 ·exact x.keep w w' (λc hc=>A.old c (x.low w (g.m x hx) c hc) (λe=>sep x hx (e ▸ hc))) (g.m x hx)
 ·exact x.keep w w' (λc hc=>A.old c (x.low w (h.p x hx) c hc) (λe=>h.pd x hx c hc it hmem (e ▸ hb))) (h.p x hx)
theorem Ctx.anyX (h:Ctx X w0 w M Ps) (k:Nat) {it:Item} (hk:M[k]? = some it):∀ b,b∈it.fp->w0.heap.size<=b\/X b:=h.mfp it (List.mem_of_getElem? hk)
theorem Sw {b:Nat} (h:Bel w w'):BelB b w w':=⟨h.os,h.tape,h.output,h.size,h.drawn,λc hc _=>h.block c hc⟩
theorem Zgj {P:Program} {Q:Exit->Act->World->Prop} {l:List Oper} {n:Nat} {e:Env} (b:Nat) {id:Nat} (m:Nat) (hm:P.follows .mixedOrders=true) (rows lk lf:List Nat) (hro:Qo l rows=true) (hk:lk.all (Ua rows l m)=true) (hf:lf.all (Ua rows l l.length)=true)
  (h:(∀ i,lk.contains i=true->Jo .any l.toArray m i=true)->(∀ i,lf.contains i=true->Jo .any l.toArray l.toArray.size i=true)->∀ w',Bel w w'->AE (BelB b) P .any l.toArray Q m n l.length (Cd l.length false).toArray e w'):(Code.region id l.toArray true).wp P Q (actOf n e) w:=by
 refine wp_region_any hm ?_
 have:=(h (λi hi=>Mc hro (Fi.1 hk i (by simpa using hi))) (λi hi=>Mc (m:=l.length) hro (Fi.1 hf i (by simpa using hi))) { w with drawn:=w.drawn+1 } ⟨⟨rfl,rfl,rfl,Cg _,λ_ _=>rfl⟩,Nat.le_succ _⟩).out (Zag _)
 have A:=Zae _ _ _ _ this;simpa using A
theorem BelB.belO {b:Nat} {l:List Nat} (h:BelB b w w') (hb:b∈l):BelO l w w':=⟨h.os,h.tape,h.output,h.size,h.drawn,λc hc hn=>h.old c hc (λe=>hn (e ▸ hb))⟩
end
end Vc
set_option maxRecDepth 4000
set_option maxHeartbeats 4000000
namespace Go.Proofs.YtaagfepgbofmlaaGreat
open Go Go.RowKit Vc
variable {b0 bp0 b1 bp1 b2 bp2 b3 bp3 b4 bp4 b5 bp5 b6 bp6 b7 bp7 mb0:Nat} {Ia Ic Ij Ip Iq Ir Ie Iu u1_2 u1_3 u1_4 u1_5 Ik u2_1 u2_2 u2_3 u2_4 u2_5 u3_0 u3_1 u3_2 u3_3 u3_4 u3_5 Is u4_1 u4_2 u4_3 u4_4 u4_5 u5_0 u5_1 u5_2 u5_3 u5_4 u5_5 u6_0 u6_1 u6_2 u6_3 u6_4 u6_5 u7_0 u7_1 u7_2 u7_3 u7_4 u7_5:Value} {Ib Ig It fp3 fp4 fp5 fp6 fp7 fp0_0 fp0_1 fp0_2 fp0_3 fp0_4 fp0_5 fp1_0 fp1_1 fp1_2 fp1_3 fp1_4 fp1_5 F0:List Nat} {D0:List Lev}
theorem Io:ScaT ZCc 122:=⟨⟨_,ZJm,rfl⟩,by kernel_rfl⟩
theorem Zo8 (x0:Value) (x1:Int) (h:Qr x0) (w:World):(Instr.build 187 #[(0,x0),(1,.int .i64 x1)]).run ZCc w=.ok (.agg #[x0,.int .i64 x1,.slice none 0 0]) w:=by obtain ⟨_,_,_,rfl⟩:=h; kernel_rfl
theorem Zo9  (w:World):(ZJ8 120 0 #[]).run ZCc w=.ok (.slice (some ⟨w.heap.size,0,none⟩) 0 0) (w.alloc (.cells (ZB7 (EB.encs [])) 4)):=by kernel_rfl
theorem Zpa (x0:Bool) (w:World):(ZJ8 120 1 #[(0,.bool x0)]).run ZCc w=.ok (.slice (some ⟨w.heap.size,0,none⟩) 1 1) (w.alloc (.cells (ZB7 (EB.encs [x0])) 4)):=by kernel_rfl
theorem el4:Wm ZCc 4 (.bool false) 1 1:=by unfold Wm; kernel_rfl
theorem sc123:ScaT ZCc 123:=⟨⟨_,ZJ9,rfl⟩,by kernel_rfl⟩
theorem z3:Je ZCc 3 (.int .i64 0):=by unfold Je; kernel_rfl
def f_impl_lister_from (L:Nat) (a0:List Int×Int×List A8) (B:Int) (O:A8) (I:Int) (K:List A8->Prop):Prop :=
 match L with
 | 0=>False
 | L+1=>(if(a0.2.2.length:Int) > a0.2.1 then K a0.2.2 else(if B=(a0.1.length:Int) then(if I=0 then(Zw (a0.2.2.length+1) 64/\K (a0.2.2++[O])) else K a0.2.2) else((0<=B/\B < (a0.1.length:Int))/\((a0.1.getD B.toNat Ci)≠0/\(if Int.tmod (a0.1.getD B.toNat Ci) 2=1 then Xv (λ(h:A8×(List A8)×Int) U=>(if h.2.2≥0 then((0<=B/\B < 8)/\f_impl_lister_from L (⟨a0.1,a0.2.1,h.2.1⟩:List Int×Int×List A8) (Zwt.wrap (B+1)) (h.1.set B.toNat h.2.2) (Zwt.wrap (I - (Zwt.wrap (h.2.2 * (a0.1.getD B.toNat Ci))))) (λaa=>U (h.1.set B.toNat h.2.2,aa,Zwt.wrap (h.2.2 - 1)))) else K h.2.1)) (O,a0.2.2,(if 1 < (if 20 < Zwt.wrap (ZJi I (a0.1.getD B.toNat Ci)) then 20 else Zwt.wrap (ZJi I (a0.1.getD B.toNat Ci))) then 1 else(if 20 < Zwt.wrap (ZJi I (a0.1.getD B.toNat Ci)) then 20 else Zwt.wrap (ZJi I (a0.1.getD B.toNat Ci))))) else Xv (λ(A:A8×(List A8)×Int) V=>(if A.2.2≥0 then((0<=B/\B < 8)/\f_impl_lister_from L (⟨a0.1,a0.2.1,A.2.1⟩:List Int×Int×List A8) (Zwt.wrap (B+1)) (A.1.set B.toNat A.2.2) (Zwt.wrap (I - (Zwt.wrap (A.2.2 * (a0.1.getD B.toNat Ci))))) (λab=>V (A.1.set B.toNat A.2.2,ab,Zwt.wrap (A.2.2 - 1)))) else K A.2.1)) (O,a0.2.2,(if 20 < Zwt.wrap (ZJi I (a0.1.getD B.toNat Ci)) then 20 else Zwt.wrap (ZJi I (a0.1.getD B.toNat Ci)))))))))
theorem Zpb (an:Nat):∀ (a0:List Int×Int×List A8) (a1:Int) (a2:A8) (O:Int) {b0:Nat} {Ia:Value} {Ij:Value} {Ib:List Nat} {K:List A8->Prop} (h:f_impl_lister_from an a0 a1 a2 O K) (w0:World) (q0:(ZB8 TInts a0.1 [Ia] Ib).holds w0) (ao:(blk b0 187 [Ia,vI a0.2.1,Ij]).holds w0) (ap:(own 73 8 Ij a0.2.2.length ((EA .i64).encs a0.2.2)).holds w0) (aq:b0∉ZDa (Fe Ij)) (ar:∀ b,b∈Ib->b∉b0::ZDa (Fe Ij)),
  Calls ZCc 159 #[vQ b0,vI a1,.agg (ZB7 (ZB6 .i64 a2)),vI O] w0 λe w'=>∃ (m0:List A8) (y0:Value),
   e=.returned (.tuple #[])/\K m0/\(blk b0 187 [Ia,vI a0.2.1,y0]).holds w'/\(own 73 8 y0 m0.length ((EA .i64).encs m0)).holds w'/\(∀ b,b∈ZDa (Fe y0)->b∈ZDa (Fe Ij)\/w0.heap.size<=b)/\BelO (b0::ZDa (Fe Ij)) w0 w':=by
 induction an with
 | zero =>
  intro a0 a1 a2 O b0 Ia Ij Ib K h w0 q0 ao ap aq ar;exact False.elim h
 | succ an ax =>
  intro a0 a1 a2 O b0 Ia Ij Ib K h w0 q0 ao ap aq ar;rw [f_impl_lister_from.eq_2] at h
  refine cof ZKa rfl 74 Tryz.ntmps159 ?_
  have A:=Ctx.startL w0 (b0::ZDa (Fe Ij)) [blk b0 187 [Ia,vI a0.2.1,Ij],own 73 8 Ij a0.2.2.length ((EA .i64).encs a0.2.2)] [ZB8 TInts a0.1 [Ia] Ib] (by simp only [Cb,Zwd,or_false,forall_eq_or_imp,forall_eq]; exact⟨ao,ap⟩) (by simp only [Cb,Zwd,or_false,forall_eq_or_imp,forall_eq]; exact q0) (λay ab U B=>(Cb.1 ab).elim (λe_=>by subst e_; exact Cb.2 (.inl (Fc.1 B))) (λab=>by obtain rfl:=Fc.1 ab; exact ZJk _ B)) (Cl.2 ⟨(λay ab U B aa=>by obtain rfl:=Fc.1 ab; exact aq (Fc.1 B ▸ aa)),ZK0 _ _⟩) (λay ab U B=>by obtain rfl:=Fc.1 ab; exact ar U B)
  refine sr (Yg (v:=.agg (ZB7 (ZB6 .i64 a2))) A (ZB6 .i64 a2) rfl rfl λb4 w6 V A=>dn (ZB9 (ZB9 ?_)))
  refine cwd 9 Ym [0,1,3,7,15,0,32,96,224,511] [3,4,8] [0,1,2,5,6,7] (λhM8 hM9 w7 V=>?_)
  replace A:=A.Iy V;refine bM 0 (vQ b0) rfl hM9 (Zc 10 1) (bF 1 (vQ b0) rfl rfl hM9 (λ_=>by exact Wu rfl) (Zc 10 3) (bF 2 (.pointer (some ⟨b0,2,none⟩)) rfl rfl hM9 (λ_=>by exact Yq 2 ZJt rfl Io.size rfl rfl) (Zc 10 7) (bL 3 (Ij) rfl rfl hM8 (λ_ V=>by exact Yj (A.Iy V) 1 (Ij) rfl Io rfl rfl) (Zc 10 15) (bL 4 (vI (a0.2.2.length:Int)) rfl rfl hM8 (λ_ V=>by exact Er (A.Iy V) 2 rfl ZJm rfl) (Zc 10 31) (bM 5 (vQ b0) rfl hM9 (Zc 10 63) (bF 6 (vQ b0) rfl rfl hM9 (λ_=>by exact Wu rfl) (Zc 10 127) (bF 7 (.pointer (some ⟨b0,1,none⟩)) rfl rfl hM9 (λ_=>by exact Yq 1 ZJt rfl sc3.size rfl rfl) (Zc 10 255) (bL 8 (vI a0.2.1) rfl rfl hM8 (λ_ V=>by exact Yj (A.Iy V) 1 (vI a0.2.1) rfl sc3 rfl rfl) (Zc 10 511) (Z5 9 (by decide) (by decide) (by kernel_rfl) (by kernel_rfl) rfl (Jn rfl rfl (done (Z6 (Ze ?_)))))))))))))
  refine Zs rfl (λag=>?_) (λag=>?_)
  ·replace h:=ift h (ct ag);refine ZCi (Zn ?_)
   exact Tw rfl  ⟨a0.2.2,Ij,rfl,h,(A.Ix 1 rfl),(A.Ix 2 rfl),(λU B=>(A.mfk 2 rfl U B).elim .inr (λq_=>(Cb.1 q_).elim (λe_=>absurd B (λB=>A.mm 1 2 rfl rfl (by decide) U (Fc.2 e_) B)) .inl)),A.belO⟩ (.inl rfl)
  ·replace h:=Zk h (cf ag);refine ZCd (Ze (ZB9 (sr (Za (v:=vI a1) rfl (Za (v:=vQ b0) rfl (Xd rfl (Z0 0 ZJt rfl If.size rfl rfl (Yc A 1 (Ia) rfl If rfl rfl (Zu A 0 rfl ZCs rfl (X6 rfl rfl (dn ?_)))))))))))
   refine Zs rfl (λah=>?_) (λah=>?_)
   ·replace h:=ift h (ct ah);refine ZB9 (sr (Za (v:=vI O) rfl (X6 rfl rfl (dn ?_))))
    refine Zs rfl (λai=>?_) (λai=>?_)
    ·replace h:=ift h (ct ai);refine cwd 7 Ym [0,0,2,6,14,0,32,126,255,511,1023] [4,5] [0,1,2,3] (λau ae bu V=>?_)
     replace A:=A.Iy V;refine bM 0 (vQ b0) rfl ae (Zc 11 1) (bM 1 (vQ b0) rfl ae (Zc 11 3) (bF 2 (vQ b0) rfl rfl ae (λ_=>by exact Wu rfl) (Zc 11 7) (bF 3 (.pointer (some ⟨b0,2,none⟩)) rfl rfl ae (λ_=>by exact Yq 2 ZJt rfl Io.size rfl rfl) (Zc 11 15) (bL 4 (Ij) rfl rfl au (λ_ V=>by exact Yj (A.Iy V) 1 (Ij) rfl Io rfl rfl) (Zc 11 31) (bL 5 (.agg (ZB7 (ZB6 .i64 a2))) rfl rfl au (λ_ V=>by exact Y6 (A.Iy V) 0 (ZB6 .i64 a2) rfl ag73 rfl rfl rfl) (Zc 11 63) (aO 6 rfl (Yd (sz:=8) A [(0,.agg (ZB7 (ZB6 .i64 a2)))] ((EA .i64).encs [a2]) rfl (λ_=>Zl7 a2 _) rfl (by decide) λbv bw V A=>done (aK (by assumption) (Zc 11 127) (aO 7 rfl ?_)))))))))
     obtain ⟨az,h⟩:=h;refine Jg A 3 ZJm Zl8 rfl (by decide) (by decide) rfl (Wl (A.Ix 0 rfl)) (λq hq=>Enc.encs_one' (E:=(EA .i64)) _ q hq) rfl rfl az λam bx A=>?_
     replace A:=Y7 A 3 ((a0.2.2++[a2]).length) ((EA .i64).encs (a0.2.2++[a2])) rfl (by simp) (by first | (simp [ZC1]; done) | simp [ZC1,ZJw])
     refine done (L1 (by decide) (l9:=(Zc 11 255)) (by kernel_rfl) (Z5 8 (by decide) (by decide) (by kernel_rfl) (by kernel_rfl) rfl (Xd rfl (Z0 2 ZJt rfl Io.size rfl rfl (Z7 (v:=am) A 2 [am] [Ia,vI a0.2.1,am] rfl Io.size rfl rfl (Uw (A.Ix 3 rfl)) rfl (Xy (Jc (A.Ix 3 rfl)) rfl) (ZCh rfl) rfl λbz A=>done (Z6 (Ze ?_)))))))
     refine ZCi (Zn ?_)
     exact Tw rfl  ⟨a0.2.2++[a2],am,rfl,h,(A.Ix 2 rfl),(A.Ix 3 rfl),(λU B=>(A.mfk 3 rfl U B).elim .inr (λq_=>(Cb.1 q_).elim (λe_=>absurd B (λB=>A.mm 2 3 rfl rfl (by decide) U (Fc.2 e_) B)) .inl)),A.belO⟩ (.inl rfl)
    ·replace h:=Zk h (cf ai);refine ZCd (Ze ?_)
     refine ZCi (Zn ?_)
     exact Tw rfl  ⟨a0.2.2,Ij,rfl,h,(A.Ix 1 rfl),(A.Ix 2 rfl),(λU B=>(A.mfk 2 rfl U B).elim .inr (λq_=>(Cb.1 q_).elim (λe_=>absurd B (λB=>A.mm 1 2 rfl rfl (by decide) U (Fc.2 e_) B)) .inl)),A.belO⟩ (.inl rfl)
   ·replace h:=Zk h (cf ah);refine ZCd (Ze (sr (Za (v:=vQ b0) rfl (Xd rfl (Z0 0 ZJt rfl If.size rfl rfl (Yc A 1 (Ia) rfl If rfl rfl (Za (v:=vI a1) rfl ?_)))))))
    obtain ⟨⟨be,bh⟩,h⟩:=h;obtain ⟨br,b8,av⟩:=Zx (A.Iw 0 rfl) a1.toNat (show a1.toNat < a0.1.length by omega)
    refine Yn (len:=a0.1.length) ZCs sc2.size (tr rfl av) rfl be bh (Ye (vI (a0.1.getD a1.toNat Ci)) (Yi (A.Iw 0 rfl) av a1.toNat (show a1.toNat < a0.1.length by omega)) sc2 rfl (Zd (v:=vI (a0.1.getD a1.toNat Ci)) rfl (dn (sr (Za (v:=vI O) rfl (Za (v:=vI (a0.1.getD a1.toNat Ci)) rfl ?_))))))
    obtain ⟨bi,h⟩:=h;refine N4 rfl rfl bi (Hi rfl rfl (Zd (v:=vI (if 20 < Zwt.wrap (ZJi O (a0.1.getD a1.toNat Ci)) then 20 else Zwt.wrap (ZJi O (a0.1.getD a1.toNat Ci)))) rfl (dn (ZB9 (sr (Za (v:=vI (a0.1.getD a1.toNat Ci)) rfl (Jf rfl rfl (by decide) (X6 rfl rfl (dn ?_)))))))))
    refine Zs rfl (λaj=>?_) (λaj=>?_)
    ·replace h:=ift h (ct aj);refine Zh (Za (v:=vI (if 20 < Zwt.wrap (ZJi O (a0.1.getD a1.toNat Ci)) then 20 else Zwt.wrap (ZJi O (a0.1.getD a1.toNat Ci)))) rfl (Hi rfl rfl (Zd (v:=vI (if 1 < (if 20 < Zwt.wrap (ZJi O (a0.1.getD a1.toNat Ci)) then 20 else Zwt.wrap (ZJi O (a0.1.getD a1.toNat Ci))) then 1 else(if 20 < Zwt.wrap (ZJi O (a0.1.getD a1.toNat Ci)) then 20 else Zwt.wrap (ZJi O (a0.1.getD a1.toNat Ci))))) rfl (dn (sr (Za (v:=vI (if 1 < (if 20 < Zwt.wrap (ZJi O (a0.1.getD a1.toNat Ci)) then 20 else Zwt.wrap (ZJi O (a0.1.getD a1.toNat Ci))) then 1 else(if 20 < Zwt.wrap (ZJi O (a0.1.getD a1.toNat Ci)) then 20 else Zwt.wrap (ZJi O (a0.1.getD a1.toNat Ci))))) rfl (Zd (v:=vI (if 1 < (if 20 < Zwt.wrap (ZJi O (a0.1.getD a1.toNat Ci)) then 20 else Zwt.wrap (ZJi O (a0.1.getD a1.toNat Ci))) then 1 else(if 20 < Zwt.wrap (ZJi O (a0.1.getD a1.toNat Ci)) then 20 else Zwt.wrap (ZJi O (a0.1.getD a1.toNat Ci))))) rfl (dn (ZCf ?_)))))))))
     refine Jb (S:=A8×(List A8)×Int) _ (λI e_ w_=>∃ (ac:Value),Zt e_ [(0,vQ b0),(1,vI a1),(3,vI O),(6,vQ b4),(8,vI (a0.1.getD a1.toNat Ci)),(10,vI I.2.2)]/\Ctx (λc_=>c_∈b0::ZDa (Fe Ij)) w0 w_ [blk b4 73 (ZB6 .i64 I.1),blk b0 187 [Ia,vI a0.2.1,ac],own 73 8 ac I.2.1.length ((EA .i64).encs I.2.1)] [ZB8 TInts a0.1 [Ia] Ib]) ?_ (s0:=(a2,a0.2.2,(if 1 < (if 20 < Zwt.wrap (ZJi O (a0.1.getD a1.toNat Ci)) then 20 else Zwt.wrap (ZJi O (a0.1.getD a1.toNat Ci))) then 1 else(if 20 < Zwt.wrap (ZJi O (a0.1.getD a1.toNat Ci)) then 20 else Zwt.wrap (ZJi O (a0.1.getD a1.toNat Ci)))))) ?_ h
     ·clear A h;rintro I e_ b9 bs ca ⟨ac,aw,A⟩ h a4;rw [ue aw];refine ZB9 (sr (Za (v:=vI I.2.2) rfl (Wp rfl rfl (dn ?_))))
      refine Zs rfl (λak=>?_) (λak=>?_)
      ·replace h:=ift h (ct ak);refine ZCd (Ze (ZB9 (ZCf (sr (Za (v:=vI a1) rfl (Za (v:=vI I.2.2) rfl ?_))))))
       obtain ⟨⟨bj,bk⟩,h⟩:=h;refine X0 a1.toNat ZCw sc3.size rfl rfl bj bk (by omega) (Z7 (v:=vI I.2.2) A 0 [vI I.2.2] (ZB6 .i64 (I.1.set a1.toNat I.2.2)) rfl sc3.size rfl rfl rfl rfl rfl (show a1.toNat < 8 by omega) (A8.enc_set _ _ _ (show a1.toNat < 8 by omega)) λcb A=>dn (Zh (Za (v:=vQ b0) rfl (Za (v:=vI a1) rfl (Zm rfl rfl (Yr A 0 (ZB6 .i64 (I.1.set a1.toNat I.2.2)) rfl ag73 rfl rfl rfl (Za (v:=vI O) rfl (Za (v:=vI I.2.2) rfl (Za (v:=vI (a0.1.getD a1.toNat Ci)) rfl (Wz rfl rfl (X5 rfl rfl ?_)))))))))))
       replace A:=A.sM [1,2,0] (M':=[blk b0 187 [Ia,vI a0.2.1,ac],own 73 8 ac I.2.1.length ((EA .i64).encs I.2.1),blk b4 73 (ZB6 .i64 (I.1.set a1.toNat I.2.2))]) (by decide) rfl
       refine Zf [vQ b0,vI (Zwt.wrap (a1+1)),.agg (ZB7 (ZB6 .i64 (I.1.set a1.toNat I.2.2))),vI (Zwt.wrap (O - (Zwt.wrap (I.2.2 * (a0.1.getD a1.toNat Ci)))))] _ ZKa rfl rfl rfl (ax (⟨a0.1,a0.2.1,I.2.1⟩:List Int×Int×List A8) (Zwt.wrap (a1+1)) (I.1.set a1.toNat I.2.2) (Zwt.wrap (O - (Zwt.wrap (I.2.2 * (a0.1.getD a1.toNat Ci))))) h _ (A.Iw 0 rfl) (A.Ix 0 rfl) (A.Ix 1 rfl) (λB=>A.mm 0 1 rfl rfl (by decide) _ (ZJp _) B) (λU B aa=>(Cb.1 aa).elim (λe_=>A.pdk 0 0 rfl rfl U B (Fc.2 e_)) (λaa=>A.pdk 0 1 rfl rfl U B aa))) ?_
       rintro _ cc ⟨bl,bm,rfl,h,a5,a6,a7,a8⟩;refine rt ?_
       replace A:=A.turnS a8 a5 a6 a7;refine done (Zr (Ze (Zh (Za (v:=vI I.2.2) rfl (X5 rfl rfl (Zd (v:=vI (Zwt.wrap (I.2.2 - 1))) rfl (done ?_)))))))
       exact a4 (I.1.set a1.toNat I.2.2,bl,Zwt.wrap (I.2.2 - 1)) _ _ ⟨bm,(slq rfl),(A.xM [2,0,1] rfl)⟩ h
      ·replace h:=Zk h (cf ak);refine ZCo (Zi (Zi (Zy ?_)))
       exact Tw rfl  ⟨I.2.1,ac,rfl,h,(A.Ix 1 rfl),(A.Ix 2 rfl),(λU B=>(A.mfk 2 rfl U B).elim .inr (λq_=>(Cb.1 q_).elim (λe_=>absurd B (λB=>A.mm 1 2 rfl rfl (by decide) U (Fc.2 e_) B)) .inl)),A.belO⟩ (.inr rfl)
     ·skip;exact⟨Ij,(slq rfl),A⟩
    ·replace h:=Zk h (cf aj);refine ZCd (Ze (sr (Za (v:=vI (if 20 < Zwt.wrap (ZJi O (a0.1.getD a1.toNat Ci)) then 20 else Zwt.wrap (ZJi O (a0.1.getD a1.toNat Ci)))) rfl (Zd (v:=vI (if 20 < Zwt.wrap (ZJi O (a0.1.getD a1.toNat Ci)) then 20 else Zwt.wrap (ZJi O (a0.1.getD a1.toNat Ci)))) rfl (dn (ZCf ?_))))))
     refine Jb (S:=A8×(List A8)×Int) _ (λL e_ w_=>∃ (ad:Value),Zt e_ [(0,vQ b0),(1,vI a1),(3,vI O),(6,vQ b4),(8,vI (a0.1.getD a1.toNat Ci)),(10,vI L.2.2)]/\Ctx (λc_=>c_∈b0::ZDa (Fe Ij)) w0 w_ [blk b4 73 (ZB6 .i64 L.1),blk b0 187 [Ia,vI a0.2.1,ad],own 73 8 ad L.2.1.length ((EA .i64).encs L.2.1)] [ZB8 TInts a0.1 [Ia] Ib]) ?_ (s0:=(a2,a0.2.2,(if 20 < Zwt.wrap (ZJi O (a0.1.getD a1.toNat Ci)) then 20 else Zwt.wrap (ZJi O (a0.1.getD a1.toNat Ci))))) ?_ h
     ·clear A h;rintro L e_ ce bt cg ⟨ad,aw,A⟩ h a9;rw [ue aw];refine ZB9 (sr (Za (v:=vI L.2.2) rfl (Wp rfl rfl (dn ?_))))
      refine Zs rfl (λal=>?_) (λal=>?_)
      ·replace h:=ift h (ct al);refine ZCd (Ze (ZB9 (ZCf (sr (Za (v:=vI a1) rfl (Za (v:=vI L.2.2) rfl ?_))))))
       obtain ⟨⟨bn,bo⟩,h⟩:=h;refine X0 a1.toNat ZCw sc3.size rfl rfl bn bo (by omega) (Z7 (v:=vI L.2.2) A 0 [vI L.2.2] (ZB6 .i64 (L.1.set a1.toNat L.2.2)) rfl sc3.size rfl rfl rfl rfl rfl (show a1.toNat < 8 by omega) (A8.enc_set _ _ _ (show a1.toNat < 8 by omega)) λch A=>dn (Zh (Za (v:=vQ b0) rfl (Za (v:=vI a1) rfl (Zm rfl rfl (Yr A 0 (ZB6 .i64 (L.1.set a1.toNat L.2.2)) rfl ag73 rfl rfl rfl (Za (v:=vI O) rfl (Za (v:=vI L.2.2) rfl (Za (v:=vI (a0.1.getD a1.toNat Ci)) rfl (Wz rfl rfl (X5 rfl rfl ?_)))))))))))
       replace A:=A.sM [1,2,0] (M':=[blk b0 187 [Ia,vI a0.2.1,ad],own 73 8 ad L.2.1.length ((EA .i64).encs L.2.1),blk b4 73 (ZB6 .i64 (L.1.set a1.toNat L.2.2))]) (by decide) rfl
       refine Zf [vQ b0,vI (Zwt.wrap (a1+1)),.agg (ZB7 (ZB6 .i64 (L.1.set a1.toNat L.2.2))),vI (Zwt.wrap (O - (Zwt.wrap (L.2.2 * (a0.1.getD a1.toNat Ci)))))] _ ZKa rfl rfl rfl (ax (⟨a0.1,a0.2.1,L.2.1⟩:List Int×Int×List A8) (Zwt.wrap (a1+1)) (L.1.set a1.toNat L.2.2) (Zwt.wrap (O - (Zwt.wrap (L.2.2 * (a0.1.getD a1.toNat Ci))))) h _ (A.Iw 0 rfl) (A.Ix 0 rfl) (A.Ix 1 rfl) (λB=>A.mm 0 1 rfl rfl (by decide) _ (ZJp _) B) (λU B aa=>(Cb.1 aa).elim (λe_=>A.pdk 0 0 rfl rfl U B (Fc.2 e_)) (λaa=>A.pdk 0 1 rfl rfl U B aa))) ?_
       rintro _ ci ⟨bp,bq,rfl,h,ba,bb,bc,bd⟩;refine rt ?_
       replace A:=A.turnS bd ba bb bc;refine done (Zr (Ze (Zh (Za (v:=vI L.2.2) rfl (X5 rfl rfl (Zd (v:=vI (Zwt.wrap (L.2.2 - 1))) rfl (done ?_)))))))
       exact a9 (L.1.set a1.toNat L.2.2,bp,Zwt.wrap (L.2.2 - 1)) _ _ ⟨bq,(slq rfl),(A.xM [2,0,1] rfl)⟩ h
      ·replace h:=Zk h (cf al);refine ZCo (Zi (Zi (Zy ?_)))
       exact Tw rfl  ⟨L.2.1,ad,rfl,h,(A.Ix 1 rfl),(A.Ix 2 rfl),(λU B=>(A.mfk 2 rfl U B).elim .inr (λq_=>(Cb.1 q_).elim (λe_=>absurd B (λB=>A.mm 1 2 rfl rfl (by decide) U (Fc.2 e_) B)) .inl)),A.belO⟩ (.inr rfl)
     ·skip;exact⟨Ij,(slq rfl),A⟩
def Vt (I:List Int) (B:Int) (A:Int) (K:List A8->Bool->Prop):Prop :=
 (if B≥0 then f_impl_lister_from 9 (⟨I,A,[]⟩:List Int×Int×List A8) 0 ZCe B (λh=>K h (decide ((h.length:Int)<=A))) else K [] (decide (0<=A)))
theorem Dc (a0:List Int) (a1:Int) (O:Int)  {K:List A8->Bool->Prop} (h:Vt a0 a1 O K) (w0:World) (q0:TInts.rep a0 [Ia] Ib w0) :
  Calls ZCc 100 #[Ia,vI a1,vI O] w0 λe w'=>∃ (r0:List A8) (Ih:Value) (ag:List Nat) (r1:Bool),
   e=.returned (.tuple #[Ih,.bool r1])/\K r0 r1/\(ZCn (ZJh 73 ((EA .i64).tr)) r0 [Ih] ag).holds w'/\(∀ b,b∈ag->w0.heap.size<=b)/\Bel w0 w':=by
 unfold Vt at h
 refine cof Tryz.func100 rfl 30 Tryz.ntmps100 ?_
 have A:=ZCu (X:=Nox) w0 [ZB8 TInts a0 [Ia] Ib] (al1 q0);refine sr (Zd (v:=.slice none 0 0) rfl (Zd (v:=.bool false) rfl (dn (sr (Za (v:=Ia) rfl (Za (v:=vI O) rfl (Wk [(0,Ia),(1,vI O)] rfl (Zo8 Ia O (Tc (A.Iw 0 rfl)) _) (Yg (v:=.agg #[Ia,vI O,.slice none 0 0]) A [Ia,vI O,.slice none 0 0] rfl rfl λb2 w4 B A=>Zd (v:=vQ b2) rfl (dn (ZB9 (sr (Za (v:=vI a1) rfl (Wp rfl rfl (dn ?_))))))))))))))
 refine Zs rfl (λae=>?_) (λae=>?_)
 ·replace h:=ift h (ct ae);refine Zh (Za (v:=vQ b2) rfl (Wk [] rfl (Kd   _) (Za (v:=vI a1) rfl ?_)))
  replace A:=A.pushNil 73 8;replace A:=A.sM [1,0] (M':=[blk b2 187 [Ia,vI O,.slice none 0 0],own 73 8 (.slice none 0 0) 0 ((EA .i64).encs [])]) (by decide) rfl
  refine Zf [vQ b2,vI 0,.agg (ZB7 (ZB6 .i64 ZCe)),vI a1] _ ZKa rfl rfl rfl (Zpb 9 (⟨a0,O,[]⟩:List Int×Int×List A8) 0 ZCe a1 h _ (A.Iw 0 rfl) (A.Ix 0 rfl) (A.Ix 1 rfl) (λad=>A.mm 0 1 rfl rfl (by decide) _ (ZJp _) ad) (λb_ ad aa=>(Cb.1 aa).elim (λe_=>A.pdk 0 0 rfl rfl b_ ad (Fc.2 e_)) (λaa=>A.pdk 0 1 rfl rfl b_ ad aa))) ?_
  rintro _ w9 ⟨V,U,rfl,h,ah,ai,aj,ak⟩;refine rt ?_
  replace A:=A.turnS ak ah ai aj;refine dn (ZB9 ?_)
  refine cwd 12 Ym [0,1,3,7,0,16,48,112,240,0,1008,15,4095] [3,7,8] [0,1,2,4,5,6,9,10,11] (λab I al B=>?_)
  replace A:=A.Iy B;refine bM 0 (vQ b2) rfl I (Zc 13 1) (bF 1 (vQ b2) rfl rfl I (λ_=>by exact Wu rfl) (Zc 13 3) (bF 2 (.pointer (some ⟨b2,2,none⟩)) rfl rfl I (λ_=>by exact Yq 2 ZJt rfl Io.size rfl rfl) (Zc 13 7) (bL 3 (U) rfl rfl ab (λ_ B=>by exact Yj (A.Iy B) 0 (U) rfl Io rfl rfl) (Zc 13 15) (bM 4 (vQ b2) rfl I (Zc 13 31) (bF 5 (vQ b2) rfl rfl I (λ_=>by exact Wu rfl) (Zc 13 63) (bF 6 (.pointer (some ⟨b2,2,none⟩)) rfl rfl I (λ_=>by exact Yq 2 ZJt rfl Io.size rfl rfl) (Zc 13 127) (bL 7 (U) rfl rfl ab (λ_ B=>by exact Yj (A.Iy B) 0 (U) rfl Io rfl rfl) (Zc 13 255) (bL 8 (vI (V.length:Int)) rfl rfl ab (λ_ B=>by exact Er (A.Iy B) 1 rfl ZJm rfl) (Zc 13 511) (bM 9 (vI O) rfl I (Zc 13 1023) (bF 10 (.bool (decide ((V.length:Int)<=O))) rfl rfl I (λ_=>by exact Zek rfl rfl) (Zc 13 2047) (bA 11 (U) rfl I (Zc 13 4095) (Z5 12 (by decide) (by decide) (by kernel_rfl) (by kernel_rfl) rfl (Zd (v:=.bool (decide ((V.length:Int)<=O))) rfl (done (Z6 (Ze (ZCi ?_)))))))))))))))))
  exact Jw rfl (Zg rfl) (Zg rfl) ⟨V,U,(ZDa (Fe U)),decide ((V.length:Int)<=O),rfl,h,(Xi (A.Ix 1 rfl)),(Xg A 1 rfl),A.below⟩ (.inl rfl)
 ·replace h:=Zk h (cf ae);refine ZCd (Ze (ZB9 ?_))
  refine cwd 12 Ym [0,1,3,7,0,16,48,112,240,0,1008,15,4095] [3,7,8] [0,1,2,4,5,6,9,10,11] (λac L am B=>?_)
  replace A:=A.Iy B;refine bM 0 (vQ b2) rfl L (Zc 13 1) (bF 1 (vQ b2) rfl rfl L (λ_=>by exact Wu rfl) (Zc 13 3) (bF 2 (.pointer (some ⟨b2,2,none⟩)) rfl rfl L (λ_=>by exact Yq 2 ZJt rfl Io.size rfl rfl) (Zc 13 7) (bL 3 (.slice none 0 0) rfl rfl ac (λ_ B=>by exact Yj (A.Iy B) 0 (.slice none 0 0) rfl Io rfl rfl) (Zc 13 15) (bM 4 (vQ b2) rfl L (Zc 13 31) (bF 5 (vQ b2) rfl rfl L (λ_=>by exact Wu rfl) (Zc 13 63) (bF 6 (.pointer (some ⟨b2,2,none⟩)) rfl rfl L (λ_=>by exact Yq 2 ZJt rfl Io.size rfl rfl) (Zc 13 127) (bL 7 (.slice none 0 0) rfl rfl ac (λ_ B=>by exact Yj (A.Iy B) 0 (.slice none 0 0) rfl Io rfl rfl) (Zc 13 255) (bL 8 (vI 0) rfl rfl ac (λ_ B=>by exact N8 ZJm rfl) (Zc 13 511) (bM 9 (vI O) rfl L (Zc 13 1023) (bF 10 (.bool (decide (0<=O))) rfl rfl L (λ_=>by exact Zek rfl rfl) (Zc 13 2047) (bA 11 (.slice none 0 0) rfl L (Zc 13 4095) (Z5 12 (by decide) (by decide) (by kernel_rfl) (by kernel_rfl) rfl (Zd (v:=.bool (decide (0<=O))) rfl (done (Z6 (Ze (ZCi ?_)))))))))))))))))
  exact Jw rfl (Zg rfl) (Zg rfl) ⟨[],.slice none 0 0,[],decide (0<=O),rfl,h,(Mg _ _ _),(λb hb=>absurd hb (by simp)),A.below⟩ (.inl rfl)
def Na (I:A8) (K:Int->Prop):Prop :=
 Z1 (λB (h:Int) A=>A (Zwt.wrap (h+(I.get B)))) (λ(h:Int)=>K h) 8 0 0
theorem Zgk (L:A8)  {K:Int->Prop} (h:Na L K) (w0:World)  :
  Calls ZCc 137 #[.agg (ZB7 (ZB6 .i64 L))] w0 λe w'=>∃ (r0:Int),
   e=.returned (vI r0)/\K r0/\Bel w0 w':=by
 unfold Na at h
 refine cof Tryz.func137 rfl 15 Tryz.ntmps137 ?_
 have I:=ZCu (X:=Nox) w0 [] (by simp)
 refine sr (Yg (v:=.agg (ZB7 (ZB6 .i64 L))) I (ZB6 .i64 L) rfl rfl λb1 w3 ad I=>Zd (v:=vI 0) rfl (dn (sr (Zd (v:=vI 0) rfl (dn (ZB9 (sr (Yr I 0 (ZB6 .i64 L) rfl ag73 rfl rfl rfl (Za (v:=vI 0) rfl (dn (ZCf ?_)))))))))))
 refine Yh (S:=Int) _ _ (λB A V w_=>Zt V [(3,vI A),(6,.agg (ZB7 (ZB6 .i64 L))),(7,vI (B:Int))]/\Ctx Nox w0 w_ [] []) 8 ?_ ?_ (s0:=0) ?_ h
 ·clear I h;rintro B A V ae ac ab O ⟨U,I⟩ h aa;rw [ue U];refine sr (Zl rfl rfl (dn (ZB9 (Z8 rfl (decide_eq_true (by omega)) (ZCd (Ze (ZB9 (ZCf (sr (G5 (vI (L.get B)) ZCw rfl rfl (ZCq _) (by omega) sc3 (A8.enc_get _ _ O) (Zd (v:=vI (L.get B)) rfl (dn (Zh (Za (v:=vI A) rfl (Za (v:=vI (L.get B)) rfl (Zm rfl rfl (Zd (v:=vI (Zwt.wrap (A+(L.get B)))) rfl (done (Zr (Ze (Zh (Zm rfl rfl (Za (v:=vI (Zwt.wrap ((B:Int)+1))) rfl (done ?_))))))))))))))))))))))))
  exact aa (Zwt.wrap (A+(L.get B))) _ _ ⟨(sl ⟨rfl,rfl,(tr rfl (I1 _ (Z2 O (by decide)))),trivial⟩),I⟩ h
 ·clear I h;rintro A V ag ab ⟨U,I⟩ h;rw [ue U];refine sr (Zl rfl rfl (dn (ZB9 (Z4 rfl (decide_eq_false (by omega)) ?_))))
  refine ZCo (Zi (Zi (Zy ?_)))
  refine Ze (sr (Za (v:=vI A) rfl (Zd (v:=vI A) rfl (dn (ZCi ?_)))))
  exact Zj rfl (Zg rfl) ⟨A,rfl,h,I.below⟩ (.inl rfl)
 ·skip;exact⟨(slq rfl),(I.xM [] rfl)⟩
def Sx (O:Vc.Lvl) (L:Int) (K:List Bool->Prop):Prop :=
 Z1 (λB (h:(List Bool)) A=>Na (O.list.getD B Ci) (λI=>(Zw (h.length+1) 1/\A (h++[decide (I≥L)])))) (λ(h:(List Bool))=>K h) O.list.length 0 []
theorem Dd (a0:Vc.Lvl) (O:Int)  {K:List Bool->Prop} (h:Sx a0 O K) (w0:World) (q0:TLvl.rep a0 [Ia,Ic,Ij,Ip,Iq,Ir] Ib w0) (am:(blk b0 125 [Ia,Ic,Ij,Ip,Iq,Ir]).holds w0) :
  Calls ZCc 81 #[vQ b0,vI O] w0 λe w'=>∃ (r0:List Bool) (Ih:Value) (ac:List Nat),
   e=.returned (Ih)/\K r0/\(ZCn (ZJh 4 EB.tr) r0 [Ih] ac).holds w'/\(∀ b,b∈ac->w0.heap.size<=b)/\Bel w0 w':=by
 unfold Sx at h
 refine cof Tryz.func81 rfl 27 Tryz.ntmps81 ?_
 have A:=ZCu (X:=Nox) w0 [ZB8 TLvl a0 [Ia,Ic,Ij,Ip,Iq,Ir] Ib,blk b0 125 [Ia,Ic,Ij,Ip,Iq,Ir]] (alc q0 (al1 am));have an:=(A.Iw 0 rfl);have aw:=Zby an;replace A:=A.I0 0 rfl (ZB8 ((EA .i64).ty.sl) a0.list [Ia] Ib) (λ_=>aw.1) (λ_ ao=>ao)
 obtain ⟨b6,rfl,ah,ap⟩:=Zbn aw.2;replace A:=A.I0 1 rfl (mapS b6 a0.place) (λ_=>ap) (λc_ aq=>by obtain rfl:=Fc.1 aq; exact ah)
 refine sr (Zd (v:=.slice none 0 0) rfl (dn (sr (Yd (sz:=1) A [] (EB.encs []) rfl (λ_=>Zo9  _) rfl (by decide) λad ax ae A=>Zd (v:=.slice (some ⟨ad,0,none⟩) 0 0) rfl (dn (ZB9 (sr (Za (v:=vQ b0) rfl (Xd rfl (Z0 0 ZJo rfl Io.size rfl rfl (U9 (Ia) (A.Iw 3 rfl) Io rfl rfl (Zu A 1 rfl ZJm rfl (Za (v:=vI 0) rfl (dn (ZCf ?_)))))))))))))))
 have ai:a0.list.length<=9223372036854775807:=Yz (A.Iw 1 rfl);refine Yh (S:=(List Bool)) _ _ (λB L e_ w_=>∃ (I:Value),Zt e_ [(1,vI O),(5,I),(12,Ia),(13,vI (a0.list.length:Int)),(14,vI (B:Int))]/\Ctx Nox w0 w_ [own 4 1 I L.length (EB.encs L)] [ZB8 ((EA .i64).ty.sl) a0.list [Ia] Ib,ZB8 TLvl a0 [Ia,.map (some b6),Ij,Ip,Iq,Ir] Ib,blk b0 125 [Ia,.map (some b6),Ij,Ip,Iq,Ir]]) a0.list.length ?_ ?_ (s0:=[]) ?_ h
 ·clear A h;rintro B L e_ ay au ar V ⟨I,aa,A⟩ h aj;rw [ue aa];refine sr (Zl rfl rfl (dn (ZB9 (Z8 rfl (decide_eq_true (by omega)) (ZCd (Ze (ZB9 (ZCf (sr ?_)))))))))
  obtain ⟨av,az,ab⟩:=Zx (A.Iw 0 rfl) B V;refine Yn (len:=a0.list.length) ZJm ag73.size (tr rfl ab) rfl (ZCq _) (ZC9.2 V) (Ji (ZB6 .i64 (a0.list.getD B Ci)) (Yi (A.Iw 0 rfl) ab B V) ag73 rfl rfl (Yt A (ZB6 .i64 ZCe) z73 rfl λa2 a3 ae A=>Z7 (v:=.agg (ZB7 (ZB6 .i64 (a0.list.getD B Ci)))) A 0 (ZB6 .i64 (a0.list.getD B Ci)) (ZB6 .i64 (a0.list.getD B Ci)) rfl ag73.size rfl rfl rfl rfl rfl (ZCh rfl) rfl λa4 A=>dn (Zh (Za (v:=I) rfl (Yr A 0 (ZB6 .i64 (a0.list.getD B Ci)) rfl ag73 rfl rfl rfl (Zf [.agg (ZB7 (ZB6 .i64 (a0.list.getD B Ci)))] _ Tryz.func137 rfl rfl rfl (Zgk (a0.list.getD B Ci) h _) ?_))))))
  rintro _ a5 ⟨U,rfl,h,ak⟩;refine rt ?_
  replace A:=A.Iy ak;refine Za (v:=vI O) rfl (Wp rfl rfl (Yd (sz:=1) A [(0,.bool (decide (U≥O)))] (EB.encs [decide (U≥O)]) rfl (λ_=>Zpa (decide (U≥O)) _) rfl (by decide) λa6 a7 ae A=>?_))
  obtain ⟨al,h⟩:=h;refine Jg A 2 Tryz.underlying120 el4 rfl (by decide) (by decide) rfl (Wl (A.Ix 0 rfl)) (λq hq=>Enc.encs_one' (E:=EB) _ q hq) rfl rfl al λag a8 A=>?_
  replace A:=Y7 A 2 ((L++[decide (U≥O)]).length) (EB.encs (L++[decide (U≥O)])) rfl (by simp) (by first | (simp [ZC1]; done) | simp [ZC1,ZJw])
  refine Zd (v:=ag) rfl (done (Zr (Ze (Zh (Zm rfl rfl (Za (v:=vI (Zwt.wrap ((B:Int)+1))) rfl (done ?_)))))))
  exact aj (L++[decide (U≥O)]) _ _ ⟨ag,(sl ⟨rfl,rfl,rfl,rfl,(tr rfl (I1 _ (Z2 V ai))),trivial⟩),(A.xM [2] rfl)⟩ h
 ·clear A h;rintro L e_ a9 ar ⟨I,aa,A⟩ h;rw [ue aa];refine sr (Zl rfl rfl (dn (ZB9 (Z4 rfl (decide_eq_false (by omega)) ?_))))
  refine ZCo (Zi (Zi (Zy ?_)))
  refine Ze (sr (Za (v:=I) rfl (Zd (v:=I) rfl (dn (ZCi ?_)))))
  exact Zj rfl (Zg rfl) ⟨L,I,(ZDa (Fe I)),rfl,h,(Xi (A.Ix 0 rfl)),(Xg A 0 rfl),A.below⟩ (.inl rfl)
 ·skip;exact⟨.slice (some ⟨ad,0,none⟩) 0 0,(slq rfl),(A.sP [1,2,3] rfl)⟩
def Nb (L:Vc.Lvl) (I:List (A8×Int)) (K:List Int->Prop):Prop :=
 ((0<=(L.list.length:Int)/\(L.list.length:Int) * 8<=281474976710656)/\Ux (λ(h:A8×Int) (A:(List Int)) B=>((0<=(Xa L.place h.1).getD 0/\(Xa L.place h.1).getD 0 < (A.length:Int))/\B (A.set (((Xa L.place h.1).getD 0).toNat) h.2))) (λ(A:(List Int))=>K A) I.length I (Cd ((L.list.length:Int).toNat) (0:Int)))
theorem Zgl (a0:Vc.Lvl) (a1:List (A8×Int))  {K:List Int->Prop} (h:Nb a0 a1 K) (w0:World) (q0:TLvl.rep a0 [Ia,Ic,Ij,Ip,Iq,Ir] Ib w0) (aw:(blk b0 125 [Ia,Ic,Ij,Ip,Iq,Ir]).holds w0) (q1:(mapS b1 a1).holds w0) :
  Calls ZCc 85 #[vQ b0,.map (some b1)] w0 λe w'=>∃ (r0:List Int) (Ih:Value) (ak:List Nat),
   e=.returned (Ih)/\K r0/\(ZCn (ZJh 2 (eI.tr)) r0 [Ih] ak).holds w'/\(∀ b,b∈ak->w0.heap.size<=b)/\Bel w0 w':=by
 unfold Nb at h
 refine cof Tryz.func85 rfl 31 Tryz.ntmps85 ?_
 have B:=ZCu (X:=Nox) w0 [ZB8 TLvl a0 [Ia,Ic,Ij,Ip,Iq,Ir] Ib,blk b0 125 [Ia,Ic,Ij,Ip,Iq,Ir],mapS b1 a1] (alc q0 (alc aw (al1 q1)));have ax:=(B.Iw 0 rfl);have a8:=Zby ax;replace B:=B.I0 0 rfl (ZB8 ((EA .i64).ty.sl) a0.list [Ia] Ib) (λ_=>a8.1) (λ_ ay=>ay)
 obtain ⟨b7,rfl,ap,az⟩:=Zbn a8.2;replace B:=B.I0 1 rfl (mapS b7 a0.place) (λ_=>az) (λc_ a2=>by obtain rfl:=Fc.1 a2; exact ap)
 refine sr (Zd (v:=.slice none 0 0) rfl (dn (sr (Za (v:=vQ b0) rfl (Xd rfl (Z0 0 ZJo rfl Io.size rfl rfl (U9 (Ia) (B.Iw 3 rfl) Io rfl rfl (Zu B 1 rfl ZJm rfl ?_))))))))
 obtain ⟨aa,h⟩:=h;refine Uu (sz:=1) B (eI.encs (Cd ((a0.list.length:Int).toNat) (0:Int))) ZCs el2 (tr rfl (I1 (Value.int .i64) (Int.toNat_of_nonneg aa.1).symm)) (tr rfl (I1 (Value.int .i64) (Int.toNat_of_nonneg aa.1).symm)) (by omega) (by omega) (V9 (E:=eI) _ _) λal a9 L B=>?_
 replace B:=Y7 B 0 ((Cd ((a0.list.length:Int).toNat) (0:Int)).length) (eI.encs (Cd ((a0.list.length:Int).toNat) (0:Int))) rfl (by simp) rfl
 refine Zd (v:=al) rfl (dn (ZB9 (sr (Za (v:=.map (some b1)) rfl (L5 B 4 rfl Tryz.underlying115 rfl λam ab ac ba L ad ai B=>dn (ZCf ?_))))))
 refine L9 (S:=(List Int)) _ _ (λan I e_ w_=>∃ (O:Value),∃ (ae:Option MapEntry),Zt e_ [(0,vQ b0),(5,O),(15,vQ am)]/\Ctx Nox w0 w_ [itI (kvA .i64) (vvI .i64) am b1 ab ac ae an,own 2 1 O I.length (eI.encs I)] [V0 b1 ab ac,mapS b7 a0.place,ZB8 ((EA .i64).ty.sl) a0.list [Ia] Ib,ZB8 TLvl a0 [Ia,.map (some b7),Ij,Ip,Iq,Ir] Ib,blk b0 125 [Ia,.map (some b7),Ij,Ip,Iq,Ir],mapS b1 a1]) ?_ (l0:=a1) (s0:=(Cd ((a0.list.length:Int).toNat) (0:Int))) ?_ h
 ·clear B h;rintro an I e_ bb a6 bc ⟨O,ae,a3,B⟩ h aq;rw [ue a3];refine sr ?_
  refine L6 B 0 0 rfl rfl ad ai rfl (λar=>?_) (λA ao aj bd ag au av B=>?_)
  ·replace h:=h.1 ar;refine Y5 (v:=.bool false) rfl rfl (dn (ZB9 (Z4 rfl rfl ?_)))
   refine ZCo (Zi (Zi (Zy ?_)))
   refine Ze (sr (Za (v:=O) rfl (Zd (v:=O) rfl (dn (ZCi ?_)))))
   exact Zj rfl (Zg rfl) ⟨I,O,(ZDa (Fe O)),rfl,h,(Xi (B.Ix 1 rfl)),(Xg B 1 rfl),B.below⟩ (.inl rfl)
  ·replace h:=h.2 A ao ag;refine Y5 (v:=.bool true) rfl rfl (dn (ZB9 (Z8 rfl rfl (ZCd (Ze (ZCf (sr (L7 B 0 0 A rfl rfl ad rfl au av (Y5 (v:=.agg (ZB7 (ZB6 .i64 A.1))) rfl rfl (Y5 (v:=vI A.2) rfl rfl (Yt B (ZB6 .i64 ZCe) z73 rfl λbe bh L B=>Z7 (v:=.agg (ZB7 (ZB6 .i64 A.1))) B 0 (ZB6 .i64 A.1) (ZB6 .i64 A.1) rfl ag73.size rfl rfl rfl rfl rfl (ZCh rfl) rfl λbi B=>Zd (v:=vI A.2) rfl (dn ?_))))))))))))
   refine cwd 8 Ym [0,0,2,6,14,0,62,0,255,511] [4,5,6] [0,1,2,3,7] (λV U bj L=>?_)
   replace B:=B.Iy L;refine bM 0 (O) rfl U (Zc 10 1) (bM 1 (vQ b0) rfl U (Zc 10 3) (bF 2 (vQ b0) rfl rfl U (λ_=>by exact Wu rfl) (Zc 10 7) (bF 3 (.pointer (some ⟨b0,1,none⟩)) rfl rfl U (λ_=>by exact Yq 1 ZJo rfl sc123.size rfl rfl) (Zc 10 15) (bL 4 (.map (some b7)) rfl rfl V (λ_ L=>by exact Tx (.map (some b7)) ((B.Iy L).Iw 4 rfl) sc123 rfl rfl) (Zc 10 31) (bL 5 (.agg (ZB7 (ZB6 .i64 A.1))) rfl rfl V (λ_ L=>by exact Y6 (B.Iy L) 0 (ZB6 .i64 A.1) rfl ag73 rfl rfl rfl) (Zc 10 63) (bL 6 (vI ((Xa a0.place A.1).getD 0)) rfl rfl V (λ_ L=>by exact Ze2 A.1 0 ((B.Iy L).Iw 1 rfl) J4 ZJ9 z3 rfl rfl) (Zc 10 127) (bM 7 (vI A.2) rfl U (Zc 10 255) (Z5 8 (by decide) (by decide) (by kernel_rfl) (by kernel_rfl) rfl ?_))))))))
   obtain ⟨⟨a4,a5⟩,h⟩:=h;obtain ⟨a7,bk,ah⟩:=Xx (B.Ix 2 rfl) (Nat.lt_of_le_of_lt (Fq _) (show ((Xa a0.place A.1).getD 0).toNat < I.length by omega))
   refine X4 (((Xa a0.place A.1).getD 0).toNat * 1) ZCs sc2.size (tr rfl ah) rfl a4 a5 rfl (U6 (v:=vI A.2) B 2 [vI A.2] (eI.encs (I.set (((Xa a0.place A.1).getD 0).toNat) A.2)) rfl ah sc2.size rfl rfl rfl rfl rfl (by rw [Enc.encs_len]; exact W8 (sz:=1) (show ((Xa a0.place A.1).getD 0).toNat < I.length by omega)) (U7 _ _ _ (show ((Xa a0.place A.1).getD 0).toNat < I.length by omega)) λbl B=>?_)
   replace B:=Y7 B 2 ((I.set (((Xa a0.place A.1).getD 0).toNat) A.2).length) (eI.encs (I.set (((Xa a0.place A.1).getD 0).toNat) A.2)) rfl (by simp) rfl
   refine done (Z6 (Zr ?_))
   exact aq A ao (I.set (((Xa a0.place A.1).getD 0).toNat) A.2) _ _ ag ⟨O,(some aj),(slq rfl),(B.xM [1,2] rfl)⟩ h
 ·skip;exact⟨al,none,(slq rfl),B⟩
def Hj (L:Vc.Lvl) (O:List Int) (K:List (A8×Int)->Prop):Prop :=
 Z1 (λh (A:(List (A8×Int))) B=>((0<=(h:Int)/\(h:Int) < (L.list.length:Int))/\Qv A (L.list.getD h Ci) (O.getD h Ci) (λI=>B I))) (λ(A:(List (A8×Int)))=>K A) O.length 0 ([]:List (A8×Int))
theorem Zpc (a0:Vc.Lvl) (a1:List Int)  {K:List (A8×Int)->Prop} (h:Hj a0 a1 K) (w0:World) (q0:TLvl.rep a0 [Ia,Ic,Ij,Ip,Iq,Ir] Ib w0) (ai:(blk b0 125 [Ia,Ic,Ij,Ip,Iq,Ir]).holds w0) (q1:TInts.rep a1 [Ie] Ig w0) :
  Calls ZCc 172 #[vQ b0,Ie] w0 λe w'=>∃ (r0:List (A8×Int)) (U:Nat),
   e=.returned (.map (some U))/\K r0/\(mapS U r0).holds w'/\w0.heap.size<=U/\Bel w0 w':=by
 unfold Hj at h
 refine cof Tryz.func172 rfl 28 Tryz.ntmps172 ?_
 have B:=ZCu (X:=Nox) w0 [ZB8 TLvl a0 [Ia,Ic,Ij,Ip,Iq,Ir] Ib,ZB8 TInts a1 [Ie] Ig,blk b0 125 [Ia,Ic,Ij,Ip,Iq,Ir]] (alc q0 (alc q1 (al1 ai)));have aj:=(B.Iw 0 rfl);have aw:=Zby aj;replace B:=B.I0 0 rfl (ZB8 ((EA .i64).ty.sl) a0.list [Ia] Ib) (λ_=>aw.1) (λ_ ak=>ak)
 obtain ⟨b7,rfl,ac,al⟩:=Zbn aw.2;replace B:=B.I0 1 rfl (mapS b7 a0.place) (λ_=>al) (λc_ am=>by obtain rfl:=Fc.1 am; exact ac)
 refine sr (Zd (v:=.map none) rfl (dn (sr (Md B (kvA .i64) (vvI .i64) λI ax ay B=>Zd (v:=.map (some I)) rfl (dn (ZB9 (sr (Za (v:=Ie) rfl (Zu B 3 rfl ZCs rfl (Za (v:=vI 0) rfl (dn (ZCf ?_))))))))))))
 have ad:a1.length<=9223372036854775807:=Yz (B.Iw 3 rfl);refine Yh (S:=(List (A8×Int))) _ _ (λA O e_ w_=>Zt e_ [(0,vQ b0),(5,.map (some I)),(9,Ie),(10,vI (a1.length:Int)),(11,vI (A:Int))]/\Ctx Nox w0 w_ [mapS I O] [mapS b7 a0.place,ZB8 ((EA .i64).ty.sl) a0.list [Ia] Ib,ZB8 TLvl a0 [Ia,.map (some b7),Ij,Ip,Iq,Ir] Ib,ZB8 TInts a1 [Ie] Ig,blk b0 125 [Ia,.map (some b7),Ij,Ip,Iq,Ir]]) a1.length ?_ ?_ (s0:=([]:List (A8×Int))) ?_ h
 ·clear B h;rintro A O e_ az ar an L ⟨V,B⟩ h ae;rw [ue V];refine sr (Zl rfl rfl (dn (ZB9 (Z8 rfl (decide_eq_true (by omega)) (ZCd (Ze (ZB9 (ZCf (sr (Za (v:=vI (A:Int)) rfl ?_))))))))))
  obtain ⟨au,a2,aa⟩:=Zx (B.Iw 3 rfl) A L;refine Yn (len:=a1.length) ZCs sc2.size (tr rfl aa) rfl (ZCq _) (ZC9.2 L) (Ye (vI (a1.getD A Ci)) (Yi (B.Iw 3 rfl) aa A L) sc2 rfl (Zd (v:=vI (A:Int)) rfl (Zd (v:=vI (a1.getD A Ci)) rfl (dn (Zh (Za (v:=.map (some I)) rfl (Za (v:=vQ b0) rfl (Xd rfl (Z0 0 ZJo rfl Io.size rfl rfl (U9 (Ia) (B.Iw 4 rfl) Io rfl rfl (Za (v:=vI (A:Int)) rfl ?_)))))))))))
  obtain ⟨⟨ao,ap⟩,h⟩:=h;obtain ⟨av,a3,ab⟩:=Zx (B.Iw 1 rfl) A (show A < a0.list.length by omega)
  refine Yn (len:=a0.list.length) ZJm ag73.size (tr rfl ab) rfl ao ap (Ji (ZB6 .i64 (a0.list.getD A Ci)) (Yi (B.Iw 1 rfl) ab A (show A < a0.list.length by omega)) ag73 rfl rfl (Za (v:=vI (a1.getD A Ci)) rfl (Zf [.map (some I),.agg (ZB7 (ZB6 .i64 (a0.list.getD A Ci))),vI (a1.getD A Ci)] _ Tryz.func195 rfl rfl rfl (Za8 O (a0.list.getD A Ci) (a1.getD A Ci) h _ (B.Ix 0 rfl)) ?_)))
  rintro _ a4 ⟨aq,rfl,h,ag,ah⟩;refine rt ?_
  replace B:=B.turnB 0 rfl ah rfl rfl ag;refine done (Zr (Ze (Zh (Zm rfl rfl (Za (v:=vI (Zwt.wrap ((A:Int)+1))) rfl (done ?_))))))
  exact ae aq _ _ ⟨(sl ⟨rfl,rfl,rfl,rfl,(tr rfl (I1 _ (Z2 L ad))),trivial⟩),B⟩ h
 ·clear B h;rintro O e_ a5 an ⟨V,B⟩ h;rw [ue V];refine sr (Zl rfl rfl (dn (ZB9 (Z4 rfl (decide_eq_false (by omega)) ?_))))
  refine ZCo (Zi (Zi (Zy ?_)))
  refine Ze (sr (Za (v:=.map (some I)) rfl (Zd (v:=.map (some I)) rfl (dn (ZCi ?_)))))
  exact Zj rfl (Zg rfl) ⟨O,I,rfl,h,(B.Ix 0 rfl),(L4 B 0 rfl),B.below⟩ (.inl rfl)
 ·skip;exact⟨(slq rfl),B⟩
end Go.Proofs.YtaagfepgbofmlaaGreat
set_option maxRecDepth 4000
set_option maxHeartbeats 4000000
namespace Go.Proofs.YtaagfepgbofmlaaGreat
open Go Go.RowKit Vc
theorem Zpd:Je ZCc 117 (.pointer none):=by unfold Je; kernel_rfl
theorem bsc196:ScaT ZCc 196:=⟨⟨_,ZKj,rfl⟩,by kernel_rfl⟩
theorem bsc66:ScaT ZCc 66:=⟨⟨_,Tryz.underlying66,rfl⟩,by kernel_rfl⟩
theorem bsc22:ScaT ZCc 22:=⟨⟨_,ZCs,rfl⟩,by kernel_rfl⟩
theorem bsc122:ScaT ZCc 122:=⟨⟨_,ZJm,rfl⟩,by kernel_rfl⟩
theorem bsc123:ScaT ZCc 123:=⟨⟨_,ZJ9,rfl⟩,by kernel_rfl⟩
theorem Zgm:KeyT ZCc 2 (vvI .i64):=Zof Tryz.underlying2
theorem Zpe:ScaT ZCc 3:=⟨⟨_,Tryz.underlying3,rfl⟩,by kernel_rfl⟩
theorem Zpf:KeyT ZCc 73 (kvA .i64):=Zao ZCw Tryz.underlying3 Zpe
theorem bag73:AggT ZCc 73 8:=⟨⟨_,ZCw,rfl⟩,by kernel_rfl⟩
theorem Zpg:Je ZCc 73 (.agg (ZB7 (ZB6 .i64 ZCe))):=by unfold Je; kernel_rfl
theorem Zph:ZCc.follows .mixedOrders=true:=by kernel_rfl
theorem Zpi (x0:Nat) (w:World):(Instr.build 125 #[(1,.map (some x0))]).run ZCc w=.ok (.agg #[.slice none 0 0,.map (some x0),.slice none 0 0,.slice none 0 0,.slice none 0 0,.slice none 0 0]) w:=by kernel_rfl
def Zb2 (l:List A8) (p:List (A8×Int)):Prop:=Z1 (λi (s:List (A8×Int)) nx=>nx (Yv s (l.getD i Ci) (i:Int))) (λs=>s=p) l.length 0 []
def Ug (C:Cx) (ds:List Int) (n:Int):Prop:=Vt ds n 120 (λl _=>l=C.LV n/\Zb2 l (C.PL n))
theorem Zgn (C:Cx) (a:Alg) (n:Int) {cb ab mb:Nat} {L U:Value} {fpA:List Nat} {D:List Lev} {F:List Nat} (h:Ug C a.degrees n) (w0:World)
  (qc:(blk cb 198 [.pointer (some ⟨ab,0,none⟩),.map (some mb)]).holds w0) (qa:(blk ab 32 [L,U]).holds w0) (q0:TAlg.rep a [L,U] fpA w0)
  (qm:(Yb (vvI .i64) vvP mb (D.map Lev.key)).holds w0) (qp:(cpP C D F).holds w0) (hd:cb≠mb/\ab≠mb/\mb∉fpA/\mb∉F) :
  Calls ZCc 115 #[.pointer (some ⟨cb,0,none⟩),.int .i64 n] w0 λe w'=>∃ (ev:Lev) (new:List Lev) (F1:List Nat),
   e=.returned (vvP ev.b)/\ev.n=n/\ev∈D++new/\(Yb (vvI .i64) vvP mb ((D++new).map Lev.key)).holds w'/\(cpP C (D++new) (F++F1)).holds w'/\(lvB 125 new).holds w' /\
   (∀ b,b∈new.map (·.b)->w0.heap.size<=b)/\(∀ b,b∈F1->w0.heap.size<=b)/\(∀ b,b∈new.map (·.b)->b∉F1)/\(∀ e,e∈new->e.c3=false)/\BelB mb w0 w':=by
 refine B8 (args:=[.pointer (some ⟨cb,0,none⟩),.int .i64 n]) ZKk rfl 63 Tryz.ntmps115 (ZCh rfl) ?_
 have A:=Ctx.start1 w0 mb (it:=Yb (vvI .i64) vvP mb (D.map Lev.key)) rfl [cpP C D F,blk cb 198 [.pointer (some ⟨ab,0,none⟩),.map (some mb)],blk ab 32 [L,U],ZB8 TAlg a [L,U] fpA] qm
  (by simp only [Cb,Zwd,or_false,forall_eq_or_imp,forall_eq]; exact⟨qp,qc,qa,q0⟩)
  (by
   simp only [Cb,Zwd,or_false,forall_eq_or_imp,forall_eq];exact⟨λc hc e=>hd.2.2.2 (e ▸ hc),λc hc e=>hd.1 ((Fc.1 hc).symm.trans e),λc hc e=>hd.2.1 ((Fc.1 hc).symm.trans e),λc hc e=>hd.2.2.1 (e ▸ hc)⟩)
 refine sr ?_
 refine Zd (v:=.pointer none) rfl ?_
 refine dn ?_
 refine ZB9 ?_
 refine sr ?_
 refine Za (v:=.pointer (some ⟨cb,0,none⟩)) rfl ?_
 refine Xd rfl ?_
 refine Z0 1 ZKc rfl bsc196.size rfl rfl ?_
 refine Ye (.map (some mb)) (Jv (off:=1) (sz:=1) (A.Iw 1 rfl) rfl) bsc196 rfl ?_
 refine Za (v:=.int .i64 n) rfl ?_
 refine Zo1 n (.pointer none) (A.Ix 0 rfl) Zgm ZKj Zpd rfl rfl (λb hg=>?_) (λhg=>?_)
 ·refine Za (v:=.tuple #[vvP b,.bool true]) rfl ?_
  refine Y5 (v:=vvP b) rfl rfl ?_
  refine Y5 (v:=.bool true) rfl rfl ?_
  refine Zd (v:=vvP b) rfl ?_
  refine Zd (v:=.bool true) rfl ?_
  refine dn ?_
  refine sr ?_
  refine Za (v:=.bool true) rfl ?_
  refine dn ?_
  refine Z8 rfl rfl ?_
  refine ZB9 ?_
  refine Zh ?_
  refine Za (v:=vvP b) rfl ?_
  refine Zd (v:=vvP b) rfl ?_
  refine dn ?_
  refine ZCi ?_
  obtain ⟨ev,he,hn,rfl⟩:=Zoz hg;refine Zn (Zj (fn:=Tryz.f115) (v:=vvP ev.b) rfl (Zg rfl) ⟨ev,[],[],rfl,hn,by simpa using he,?_,?_,Zgg _ _,by simp,by simp,by simp,by simp,A.belB⟩ (.inl rfl))
  ·rw [ZJz]; exact A.Ix 0 rfl
  ·rw [ZJz,ZJz]; exact A.Iw 0 rfl
 ·refine Za (v:=.tuple #[.pointer none,.bool false]) rfl ?_
  refine Y5 (v:=.pointer none) rfl rfl ?_
  refine Y5 (v:=.bool false) rfl rfl ?_
  refine Zd (v:=.pointer none) rfl ?_
  refine Zd (v:=.bool false) rfl ?_
  refine dn ?_
  refine sr ?_
  refine Za (v:=.bool false) rfl ?_
  refine dn ?_
  refine Z4 rfl rfl ?_
  refine ZCd ?_
  refine Ze ?_
  refine sr ?_
  refine Md A (kvA .i64) (vvI .i64) λpb w1 I A=>?_
  refine Wk [(1,.map (some pb))] rfl (Zpi pb _) ?_
  refine Yg (v:=.agg #[.slice none 0 0,.map (some pb),.slice none 0 0,.slice none 0 0,.slice none 0 0,.slice none 0 0]) A [.slice none 0 0,.map (some pb),.slice none 0 0,.slice none 0 0,.slice none 0 0,.slice none 0 0] rfl rfl λbx w2 I A=>?_
  refine Zd (v:=.pointer (some ⟨bx,0,none⟩)) rfl ?_
  refine dn ?_
  refine sr ?_
  refine Za (v:=.pointer (some ⟨bx,0,none⟩)) rfl ?_
  refine Za (v:=.pointer (some ⟨cb,0,none⟩)) rfl ?_
  refine Xd rfl ?_
  refine Z0 0 ZKc rfl bsc66.size rfl rfl ?_
  refine Ye (.pointer (some ⟨ab,0,none⟩)) (Jv (off:=0) (sz:=1) (A.Iw 1 rfl) rfl) bsc66 rfl ?_
  refine Xd rfl ?_
  refine Z0 0 Tryz.underlying32 rfl bsc22.size rfl rfl ?_
  refine Ye (L) (Jv (off:=0) (sz:=1) (A.Iw 2 rfl) rfl) bsc22 rfl ?_
  refine Za (v:=.int .i64 n) rfl ?_
  refine Zf [L,.int .i64 n,.int .i64 120] _ Tryz.func100 rfl rfl rfl (Dc a.degrees n 120 h _ (N9 (A.Iw 3 rfl)).1) (λret w3 hR=>?_)
  obtain ⟨r,u,f1,rb,rfl,⟨hrL,h⟩,ad,ae,hB3⟩:=hR;refine⟨_,rfl,?_⟩
  replace A:=A.push hB3 (ZCn (ZJh 73 ((EA .i64).tr)) r [u] f1) ad ae;obtain ⟨ho,ag⟩:=Yx (A.Ix 0 rfl).1;subst ag;replace A:=A.Iz (c:=own 73 8 u r.length ((EA .i64).encs r)) (λ_ h_=>h_) (λ_=>ho)
  refine Za (v:=.tuple #[u,.bool rb]) rfl ?_
  refine Y5 (v:=u) rfl rfl ?_
  refine Y5 (v:=.bool rb) rfl rfl ?_
  refine Xd rfl ?_
  refine Z0 0 ZJo rfl bsc122.size rfl rfl ?_
  refine Z7 (v:=u) A 1 [u] [u,.map (some pb),.slice none 0 0,.slice none 0 0,.slice none 0 0,.slice none 0 0] rfl bsc122.size rfl rfl (Uw (A.Ix 0 rfl)) rfl (Xy (Jc (A.Ix 0 rfl)) rfl) (ZCh rfl) rfl λw4 A=>?_
  refine dn ?_
  refine ZB9 ?_
  refine sr ?_
  refine Za (v:=.pointer (some ⟨bx,0,none⟩)) rfl ?_
  refine Xd rfl ?_
  refine Z0 0 ZJo rfl bsc122.size rfl rfl ?_
  refine Yc A 1 (u) rfl bsc122 rfl rfl ?_
  obtain ⟨Ad,c9,ah⟩:=V8 (A.Ix 0 rfl);refine Sl ZJm (tr rfl ah) ?_
  refine Za (v:=.int .i64 0) rfl ?_
  refine dn ?_
  refine ZCf ?_
  have hN:r.length<=9223372036854775807:=Uv (A.Ix 0 rfl);refine Yh (S:=(List (A8×Int))) _ _ (λi s e_ w_=>Zt e_ [(0,.pointer (some ⟨cb,0,none⟩)),(1,.int .i64 n),(7,.pointer (some ⟨bx,0,none⟩)),(42,u),(43,.int .i64 (r.length:Int)),(44,.int .i64 (i:Int))]/\Ctx (λc=>c=mb) w0 w_ [own 73 8 u r.length ((EA .i64).encs r),blk bx 125 [u,.map (some pb),.slice none 0 0,.slice none 0 0,.slice none 0 0,.slice none 0 0],Yb (kvA .i64) (vvI .i64) pb s,Yb (vvI .i64) vvP mb (D.map Lev.key)] [cpP C D F,blk cb 198 [.pointer (some ⟨ab,0,none⟩),.map (some mb)],blk ab 32 [L,U],ZB8 TAlg a [L,U] fpA]) r.length ?_ ?_ (s0:=([]:List (A8×Int))) ?_ h
  ·clear A h;rintro i s e_ w5 next K5 O ⟨B,A⟩ h hK5;refine sr ?_
   refine Zl (sx B 5 rfl) (sx B 4 rfl) ?_
   refine dn ?_
   refine ZB9 ?_
   refine Z8 rfl (decide_eq_true (by omega)) ?_
   refine ZCd ?_
   refine Ze ?_
   refine ZB9 ?_
   refine ZCf ?_
   refine sr ?_
   refine Za (v:=.int .i64 (i:Int)) (sx B 5 rfl) ?_
   obtain ⟨Ad6,c6,V⟩:=Xx (A.Ix 0 rfl) (Nat.lt_of_le_of_lt (Fq _) O);refine X4 (i * 8) ZJm bag73.size (tr (sx B 3 rfl) V) (sx B 5 rfl) (ZCq _) (ZC9.2 O) rfl ?_
   refine Ji (ZB6 .i64 (r.getD i Ci)) (J7 (A.Ix 0 rfl) V i O) bag73 rfl rfl ?_
   refine Yt A (ZB6 .i64 ZCe) Zpg rfl λb7 w7 I A=>?_
   refine Zd (v:=.int .i64 (i:Int)) rfl ?_
   refine Z7 (v:=.agg (ZB7 (ZB6 .i64 (r.getD i Ci)))) A 0 (ZB6 .i64 (r.getD i Ci)) (ZB6 .i64 (r.getD i Ci)) rfl bag73.size rfl rfl rfl rfl rfl (ZCh rfl) rfl λw8 A=>?_
   refine dn ?_
   refine Zew 6 Zph [0,1,3,7,0,0,63] [3,4] [0,1,2,5] (by kernel_rfl) (by kernel_rfl) (by kernel_rfl) (λhM1 hM2 w9 I=>?_)
   replace A:=A.Iy I;refine aF 0 (.pointer (some ⟨bx,0,none⟩)) rfl rfl (hM2 0 rfl) (rfl) (λ_=>by exact Vb (v:=.pointer (some ⟨bx,0,none⟩)) (sx B 2 rfl)) (Zc 7 1) ?_
   refine aF 1 (.pointer (some ⟨bx,0,none⟩)) rfl rfl (hM2 1 rfl) (rfl) (λ_=>by exact Wu rfl) (Zc 7 3) ?_
   refine aF 2 (.pointer (some ⟨bx,1,none⟩)) rfl rfl (hM2 2 rfl) (rfl) (λ_=>by exact Yq 1 ZJo rfl bsc123.size rfl rfl) (Zc 7 7) ?_
   refine aL 3 (.map (some pb)) rfl rfl (hM1 3 rfl) (rfl) (λ_ I=>by exact Yj (A.Iy I) 2 (.map (some pb)) rfl bsc123 rfl rfl) (Zc 7 15) ?_
   refine aL 4 (.agg (ZB7 (ZB6 .i64 (r.getD i Ci)))) rfl rfl (hM1 4 rfl) (rfl) (λ_ I=>by exact Y6 (A.Iy I) 0 (ZB6 .i64 (r.getD i Ci)) rfl bag73 rfl rfl rfl) (Zc 7 31) ?_
   refine aF 5 (.int .i64 (i:Int)) rfl rfl (hM2 5 rfl) (rfl) (λ_=>by exact Vb (v:=.int .i64 (i:Int)) rfl) (Zc 7 63) ?_
   refine Z5 6 (by decide) (by decide) (by kernel_rfl) (by kernel_rfl) rfl ?_
   refine Ek A 3 (r.getD i Ci) (i:Int) rfl Zpf ZJ9 rfl rfl rfl (λaj A=>?_) (.inl rfl)
   refine done ?_
   refine Z6 ?_
   refine Zr ?_
   refine Ze ?_
   refine Zh ?_
   refine Zm (sx B 5 rfl) rfl ?_
   refine Za (v:=.int .i64 (Zwt.wrap ((i:Int)+1))) rfl ?_
   refine done ?_
   replace A:=A.sM [1,2,3,4] (M':=[own 73 8 u r.length ((EA .i64).encs r),blk bx 125 [u,.map (some pb),.slice none 0 0,.slice none 0 0,.slice none 0 0,.slice none 0 0],Yb (kvA .i64) (vvI .i64) pb (Yv s (r.getD i Ci) (i:Int)),Yb (vvI .i64) vvP mb (D.map Lev.key)]) (by decide) rfl
   exact hK5 (Yv s (r.getD i Ci) (i:Int)) _ _ ⟨(sk (sx B 0 rfl) (sk (sx B 1 rfl) (sk (sx B 2 rfl) (sk (sx B 3 rfl) (sk (sx B 4 rfl) (sk (tr rfl (I1 _ (Z2 O hN))) sn)))))),A⟩ h
  ·clear A h;rintro s e_ ak al ⟨B,A⟩ h;refine sr ?_
   refine Zl (sx B 5 rfl) (sx B 4 rfl) ?_
   refine dn ?_
   refine ZB9 ?_
   refine Z4 rfl (decide_eq_false (by omega)) ?_
   refine ZCo (Zi (Zi (Zy ?_)))
   refine Ze ?_
   refine sr ?_
   refine Za (v:=.pointer (some ⟨cb,0,none⟩)) (sx B 0 rfl) ?_
   refine Xd rfl ?_
   refine Z0 1 ZKc rfl bsc196.size rfl rfl ?_
   refine Ye (.map (some mb)) (Jv (off:=1) (sz:=1) (A.Iw 1 rfl) rfl) bsc196 rfl ?_
   refine Za (v:=.int .i64 n) (sx B 1 rfl) ?_
   refine Za (v:=.pointer (some ⟨bx,0,none⟩)) (sx B 2 rfl) ?_
   refine Ek A 3 n bx rfl Zgm ZKj rfl rfl rfl (λaa A=>?_) (.inl rfl)
   refine dn ?_
   refine sr ?_
   refine Za (v:=.pointer (some ⟨bx,0,none⟩)) (sx B 2 rfl) ?_
   refine Zd (v:=.pointer (some ⟨bx,0,none⟩)) rfl ?_
   refine dn ?_
   refine ZCi ?_
   have e1:=A.Ix 0 rfl;have e2:=A.Ix 1 rfl;have e3:=A.Ix 2 rfl;have e4:=A.Ix 3 rfl;have d1:=A.mm 0 3 rfl rfl (by decide)
   have d2:=A.mm 1 3 rfl rfl (by decide)
   have d3:=A.mm 2 3 rfl rfl (by decide)
   have d4:=A.mm 1 0 rfl rfl (by decide)
   have d5:=A.mm 1 2 rfl rfl (by decide)
   have fr:∀ it,it∈[own 73 8 u r.length ((EA .i64).encs r),blk bx 125 [u,.map (some pb),.slice none 0 0,.slice none 0 0,.slice none 0 0,.slice none 0 0],Yb (kvA .i64) (vvI .i64) pb s]->(∀ x,x∈it.fp->x∉(Yb (vvI .i64) vvP mb (Yv (D.map Lev.key) n bx)).fp)->∀ b,b∈it.fp->w0.heap.size<=b:=λit hit hds b hb =>
    (A.mfp it (by
     simp only [Cb,Zwd,or_false] at hit
     rcases hit with rfl | rfl | rfl
     ·exact List.mem_of_getElem? (i:=0) rfl
     ·exact List.mem_of_getElem? (i:=1) rfl
     ·exact List.mem_of_getElem? (i:=2) rfl) b hb).elim id λe=>absurd (by simp [Yb,e]) (hds b hb)
   have ac:∀ b,b∈u.ownBlock.toList++[pb]->b < aa.heap.size:=by
    intro b hb;rcases Ch.1 hb with q | q
    ·exact ZJj _ _ e1 b q
    ·exact ZJj _ _ e3 b q
   refine Zj (fn:=Tryz.f115) (v:=vvP bx) rfl (Zg rfl) ⟨⟨n,bx,pb,u,.slice none 0 0,.slice none 0 0,.slice none 0 0,.slice none 0 0,false,false,false,false⟩,[⟨n,bx,pb,u,.slice none 0 0,.slice none 0 0,.slice none 0 0,.slice none 0 0,false,false,false,false⟩],u.ownBlock.toList++[pb],rfl,rfl,by simp,?_,Zox (A.Iw 0 rfl) ⟨?_,⟨by simp,?_⟩,λ_=>rfl,λq=>(ZJr q).elim,λ_=>rfl,λq=>(ZJr q).elim,λ_=>rfl,λq=>(ZJr q).elim,λ_=>rfl,λq=>(ZJr q).elim⟩ ac,Zou e2,?_,?_,?_,by simp,A.belB⟩ (.inl rfl)
   ·have e5:=e4;rw [Zo0 hg] at e5
    rw [ZJn]; exact e5
   ·show ((EA .i64).ty.sl).rep (C.LV n) [u] _ _
    rw [<- hrL]
    exact ZJq _ (Yu e1) (λb hb=>Cv _ hb) ac
   ·have hs:s=C.PL n:=h
    show (Yb (kvA .i64) (vvI .i64) pb (C.PL n)).holds aa
    rw [<- hs]; exact e3
   ·intro b hb;obtain rfl:b=bx:=by simpa using hb
    exact fr _ (by simp) d2 b (by simp [blk])
   ·intro b hb;rcases Ch.1 hb with q | q
    ·exact fr _ (by simp) d1 b q
    ·exact fr _ (by simp) d3 b (by simpa [Yb] using q)
   ·intro b hb ai;obtain rfl:b=bx:=by simpa using hb
    rcases Ch.1 ai with q | q
    ·exact d4 b (by simp [blk]) q
    ·exact d5 b (by simp [blk]) (by simpa [Yb] using q)
  ·exact⟨(sk rfl (sk rfl (sk rfl (sk rfl (sk rfl (sk rfl sn)))))),A⟩
theorem Nc (C:Cx) (a:Alg) (n:Int) {cb ab mb:Nat} {O U:Value} {fpA:List Nat} {D:List Lev} {F:List Nat} (h:Ug C a.degrees n) (w0:World)
  (q0:TAlg.rep a [O,U] fpA w0) (qa:(blk ab 32 [O,U]).holds w0) (qc:(blk cb 198 [.pointer (some ⟨ab,0,none⟩),.map (some mb)]).holds w0) (qx:(cpx C 125 mb D F).holds w0)
  (dq:∀ b,b∈fpA->b∉(cpx C 125 mb D F).fp) (da:ab∉(cpx C 125 mb D F).fp) (dc:cb∉(cpx C 125 mb D F).fp) :
  Calls ZCc 115 #[.pointer (some ⟨cb,0,none⟩),.int .i64 n] w0 λe w'=>∃ (b:Nat) (D':List Lev) (F':List Nat),
   e=.returned (vvP b)/\LvAt D' n b false false/\CpLe D D' F F'/\(cpx C 125 mb D' F').holds w'/\(∀ x,x∈(cpx C 125 mb D' F').fp->x∈(cpx C 125 mb D F).fp\/w0.heap.size<=x)/\BelB mb w0 w':=by
 refine(Zgn C a n h w0 qc qa q0 qx.1 qx.2.2.1 ⟨λe=>dc (e ▸ Vg),λe=>da (e ▸ Vg),λq=>dq _ q Vg,qx.2.2.2.2.1⟩).mono ?_
 rintro e w' ⟨v,new,F1,rfl,h1,h2,h3,h4,h5,B,L,h8,h9,V⟩;have lmb:mb < w0.heap.size:=ZJj _ w0 qx mb Vg;have lD:∀ b,b∈D.map (·.b)->b < w0.heap.size:=λb hb=>ZJj _ w0 qx.2.1 b hb
 have lF:∀ b,b∈F->b < w0.heap.size:=λb hb=>ZJj _ w0 qx.2.2.1 b hb
 refine⟨v.b,D++new,F++F1,rfl,⟨v,h2,h1,rfl,λq=>(ZJr q).elim,λq=>(ZJr q).elim⟩,⟨λe he=>⟨e,Cv _ he,.refl e⟩,λe he _ h3'=>?_,λx hx=>Cv _ hx⟩,⟨h3,Zgh (ZJl _ w0 w' (λb hb=>V.old b (lD b hb) (λe=>qx.2.2.2.1 (e ▸ hb))) qx.2.1) h5 (λx hx aa=>absurd (lD x hx) (C2.2 (B x aa))),h4,?_,?_,?_⟩,λx hx=>?_,V⟩
 ·rcases Ch.1 he with q | q
  ·exact .inr ⟨e,q,rfl,h3',id,id⟩
  ·exact absurd h3' (by rw [h9 e q]; exact ZJr)
 ·intro q;rw [ZJn] at q
  rcases Ch.1 q with q | q
  ·exact qx.2.2.2.1 q
  ·exact absurd lmb (C2.2 (B _ q))
 ·intro q;rcases Ch.1 q with q | q
  ·exact qx.2.2.2.2.1 q
  ·exact absurd lmb (C2.2 (L _ q))
 ·intro b hb I;rw [ZJn] at hb
  rcases Ch.1 hb with q | q
  ·rcases Ch.1 I with A | A
   ·exact qx.2.2.2.2.2 b q A
   ·exact absurd (lD b q) (C2.2 (L _ A))
  ·rcases Ch.1 I with A | A
   ·exact absurd (lF b A) (C2.2 (B _ q))
   ·exact h8 b q A
 ·rcases Cb.1 hx with rfl | hx
  ·exact .inl ZJs
  ·rcases Ch.1 hx with q | q
   ·rw [ZJn] at q
    rcases Ch.1 q with q | q
    ·exact .inl (ZJk _ (Cv _ q))
    ·exact .inr (B _ q)
   ·rcases Ch.1 q with q | q
    ·exact .inl (ZJk _ (Cu _ q))
    ·exact .inr (L _ q)
section
variable {ops:Array Oper} {Q:Exit->Act->World->Prop} {m:Nat} {e:Env} {w:World} {rest:List Oper}
variable {X:Nat->Prop} {w0:World} {M Ps:List Vc.Item}
variable {d ty:Nat} {pos:String} {af:Array Edge}
theorem Zpj {C:Cx} {a:Alg} {n:Int} {cb ab mb:Nat} {I L:Value} {fpA:List Nat} {D B:List Lev} {F:List Nat} {x y:Operand} {at_:Array Nat} (hok:Ug C a.degrees n)
  (h:Ctx X w0 w (Yb (vvI .i64) vvP mb (D.map Lev.key)::lvB 125 B::M) (cpP C D F::blk cb 198 [.pointer (some ⟨ab,0,none⟩),.map (some mb)]::blk ab 32 [I,L]::ZB8 TAlg a [I,L] fpA::Ps))
  (hx:ev m e x=.pointer (some ⟨cb,0,none⟩)) (hy:ev m e y=.int .i64 n)
  (k:∀ (v:Lev) (new:List Lev) (F1:List Nat) (w':World),v.n=n->v∈D++new->(∀ x,x∈F1->w.heap.size<=x)->(∀ z,z∈new->z.c3=false)->Ctx X w0 w' (Yb (vvI .i64) vvP mb ((D++new).map Lev.key)::lvB 125 (B++new)::M) (cpP C (D++new) (F++F1)::blk cb 198 [.pointer (some ⟨ab,0,none⟩),.map (some mb)]::blk ab 32 [I,L]::ZB8 TAlg a [I,L] fpA::Ps) ->
   BelB mb w w'->W ZCc ops Q rest m (upd e d (vvP v.b)) w') :
  W ZCc ops Q (⟨some d,.call { callee:=.value (.func 115),args:=#[x,y],argTypes:=at_ }, ty,pos,af,none⟩::rest) m e w:=by
 have hm:Yb (vvI .i64) vvP mb (D.map Lev.key)∈Yb (vvI .i64) vvP mb (D.map Lev.key)::lvB 125 B::M:=by simp
 have hd:cb≠mb/\ab≠mb/\mb∉fpA/\mb∉F :=
  ⟨λq=>h.pd _ (List.mem_of_getElem? (i:=1) rfl) cb (by simp [blk]) _ hm (by simp [Yb,q]),λq=>h.pd _ (List.mem_of_getElem? (i:=2) rfl) ab (by simp [blk]) _ hm (by simp [Yb,q]),
   λq=>h.pd _ (List.mem_of_getElem? (i:=3) rfl) mb q _ hm (by simp [Yb]),λq=>h.pd _ (List.mem_of_getElem? (i:=0) rfl) mb q _ hm (by simp [Yb])⟩
 refine Zf (l:=[x,y]) [.pointer (some ⟨cb,0,none⟩),.int .i64 n] _ ZKk rfl rfl (by simp [hx,hy]) (Zgn C a n hok w (h.Iw 1 rfl) (h.Iw 2 rfl) (h.Iw 3 rfl) (h.Ix 0 rfl) (h.Iw 0 rfl) hd) (λret w' hR=>?_)
 obtain ⟨v,new,F1,rfl,h1,h2,h3,h4,h5,O,U,h8,h9,A⟩:=hR;have hlow:mb < w.heap.size:=ZJj _ _ (h.Ix 0 rfl) mb (by simp [Yb])
 refine⟨_,rfl,k v new F1 w' h1 h2 U h9 ?_ A⟩
 have hT:=h.turnMPN 0 0 (jt:=Yb (vvI .i64) vvP mb ((D++new).map Lev.key)) (qt:=cpP C (D++new) (F++F1)) (nt:=lvB 125 new) rfl rfl ⟨A.os,A.tape,A.output,A.size,A.drawn,λc hc hne=>A.old c hc (λq=>hne (by simp [Yb,q]))⟩ h3 h4 h5 (λb hb=>.inl hb)
  (λb hb=>(Ch.1 hb).elim .inl λq=>.inr (U b q)) (λb hb V=>by
   obtain rfl:b=mb:=by simpa [Yb] using V
   rcases Ch.1 hb with q | q
   ·exact hd.2.2.2 q
   ·have:=U _ q; omega) O (λb hb=>⟨λq=>by
    obtain rfl:b=mb:=by simpa [Yb] using q
    have:=O _ hb; omega,λq=>by
    rcases Ch.1 q with q | q
    ·exact absurd (ZJj _ _ (h.Iw 0 rfl) b q) (C2.2 (O b hb))
    ·exact h8 b hb q⟩)
 have hT2:=(hT.permM ((List.Perm.cons _ (.swap _ _ _)).trans (.swap _ _ _))).gather (c:=lvB 125 (B++new)) (λx hx=>by
  rw [show (lvB 125 (B++new)).fp=B.map (·.b)++new.map (·.b) from ZJn] at hx
  exact Ch.1 hx) (λg1 g2 gd=>Zgh g1 g2 gd)
 exact hT2.permM (.swap _ _ _)
end
end Go.Proofs.YtaagfepgbofmlaaGreat
set_option maxRecDepth 4000
set_option maxHeartbeats 4000000
namespace Go.Proofs.YtaagfepgbofmlaaGreat
open Go Go.RowKit Vc
variable {b0 bp0 b1 bp1 b2 bp2 b3 bp3 b4 bp4 b5 bp5 b6 bp6 b7 bp7 mb0:Nat} {Ia Ic Ij Ip Iq Ir Ie Iu u1_2 u1_3 u1_4 u1_5 Ik u2_1 u2_2 u2_3 u2_4 u2_5 u3_0 u3_1 u3_2 u3_3 u3_4 u3_5 Is u4_1 u4_2 u4_3 u4_4 u4_5 u5_0 u5_1 u5_2 u5_3 u5_4 u5_5 u6_0 u6_1 u6_2 u6_3 u6_4 u6_5 u7_0 u7_1 u7_2 u7_3 u7_4 u7_5:Value} {Ib Ig It fp3 fp4 fp5 fp6 fp7 fp0_0 fp0_1 fp0_2 fp0_3 fp0_4 fp0_5 fp1_0 fp1_1 fp1_2 fp1_3 fp1_4 fp1_5 F0:List Nat} {D0:List Lev}
theorem Im:ScaT ZCc 85:=⟨⟨_,ZKd,rfl⟩,by kernel_rfl⟩
theorem Jl (w:World):(ZJ8 85 0 #[]).run ZCc w=.ok (.slice (some ⟨w.heap.size,0,none⟩) 0 0) (w.alloc (.cells (ZB7 []) 22)):=by kernel_rfl
theorem Wc (x0:Value) (h:Qr x0) (w:World):(ZJ8 85 1 #[(0,x0)]).run ZCc w=.ok (.slice (some ⟨w.heap.size,0,none⟩) 1 1) (w.alloc (.cells (ZB7 [x0]) 22)):=by obtain ⟨_,_,_,rfl⟩:=h; kernel_rfl
theorem J0:Wm ZCc 22 (.slice none 0 0) 1 24:=by unfold Wm; kernel_rfl
def De (C:Cx) (U:Alg) (h:Int) (K:Prop):Prop :=
 (Ug C U.degrees h/\((Ug C U.degrees (Zwt.wrap (h+1))/\Z1 (λI (A:(List (List Int))) B=>Su U (Yv ([]:List (A8×Int)) ((C.LV h).getD I Ci) 1) (λL=>Nb (⟨C.LV (Zwt.wrap (h+1)),C.PL (Zwt.wrap (h+1))⟩:Vc.Lvl) L (λO=>(Zw (A.length+1) 24/\B (A++[O]))))) (λ(A:(List (List Int)))=>(A=C.MX h/\K)) ((C.LV h).length) 0 [])/\K))
theorem Zpk (C:Cx) (a0:Alg) (I:Int)  {K:Prop} (h:De C a0 I K) (w0:World) (q0:TAlg.rep a0 [Ia,Ic] Ib w0) (cp:(blk b0 32 [Ia,Ic]).holds w0) (bm:(blk bp0 198 [vQ b0,.map (some mb0)]).holds w0) (cq:(cpx C 125 mb0 D0 F0).holds w0) (cr:∀ b,b∈Ib->b∉(cpx C 125 mb0 D0 F0).fp) (cu:b0∉(cpx C 125 mb0 D0 F0).fp) (bn:bp0∉(cpx C 125 mb0 D0 F0).fp) :
  Calls ZCc 135 #[vQ bp0,vI I] w0 λe w'=>∃ (bj:Nat) (Dz:List Lev) (Fz:List Nat),
   e=.returned (vvP bj)/\K/\LvAt Dz I bj true false/\CpLe D0 Dz F0 Fz/\(cpx C 125 mb0 Dz Fz).holds w'/\(∀ x,x∈(cpx C 125 mb0 Dz Fz).fp->x∈(cpx C 125 mb0 D0 F0).fp\/w0.heap.size<=x)/\BelO ((cpx C 125 mb0 D0 F0).fp) w0 w':=by
 unfold De at h
 refine cof Tryz.func135 rfl 55 Tryz.ntmps135 ?_
 have A:=Ctx.startL w0 ((cpx C 125 mb0 D0 F0).fp) [cpx C 125 mb0 D0 F0] [ZB8 TAlg a0 [Ia,Ic] Ib,blk b0 32 [Ia,Ic],blk bp0 198 [vQ b0,.map (some mb0)]] (al1 cq) (alc q0 (alc cp (al1 bm))) (al1 (λb_ ak=>ak)) (ZK0 _ _) (alc (λb_ ak=>cr b_ ak) (alc (Vr cu) (al1 (Vr bn))))
 replace A:=A.dAlg 0 rfl;refine sr (Zd (v:=.pointer none) rfl (dn (sr (Za (v:=vQ bp0) rfl (Za (v:=vI I) rfl ?_)))))
 obtain ⟨bo,h⟩:=h;refine Zf [vQ bp0,vI I] _ ZKk rfl rfl rfl (Nc C a0 I bo _ (Yf (A.Iw 1 rfl) (A.Iw 0 rfl)) (A.Iw 3 rfl) (A.Iw 4 rfl) (A.Ix 0 rfl) (λb_ hb aq=>(Ch.1 hb).elim (λhb=>A.pdk 1 0 rfl rfl b_ hb aq) (λhb=>A.pdk 0 0 rfl rfl b_ hb aq)) (λO=>A.pdk 3 0 rfl rfl _ (ZJp _) O) (λO=>A.pdk 4 0 rfl rfl _ (ZJp _) O)) ?_
 rintro _ w9 ⟨L,bk,al,rfl,a5,a6,bp,bq,br⟩;refine rt ?_
 replace A:=A.turnI 0 rfl (br.belO Vg) bp bq;refine Zd (v:=vvP L) rfl (dn (ZB9 (sr (Za (v:=vvP L) rfl (Xd rfl (Z0 2 ZJo rfl Im.size rfl rfl ?_))))))
 obtain ⟨da,db,cv,dc,dd,de,bs,bt,dg,dh,a8,be⟩:=Zo4 (A.Ix 0 rfl) a5;refine Ye (cv) (Jv (off:=2) (sz:=1) bs rfl) Im rfl ?_
 rcases bt with _ | c6
 ·replace h:=h.1;refine E9 true ZKd (tr rfl a8) rfl rfl (dn (Z8 rfl rfl (sr (Za (v:=vvP L) rfl (Yd (sz:=1) A [] [] rfl (λ_=>Jl _) rfl (by decide) λae di ah A=>?_)))))
  replace A:=A.pushM0 (Zz (ZJh 2 (eI.tr)) ([]:List (List Int)) [] []) (Xn _ _) rfl;replace A:=A.gather (c:=ZCn (ZJh 22 (ZJh 2 (eI.tr))) [] [.slice (some ⟨ae,0,none⟩) 0 0] ((ZDa (Fe (.slice (some ⟨ae,0,none⟩) 0 0)))++([]:List (List Nat)).flatten)) (λx_ O=>(Ch.1 O).symm) (λau av aw=>Xj av au (λb_ ak aq=>aw b_ aq ak))
  refine Xd rfl (Z0 2 ZJo rfl Im.size rfl rfl ?_)
  replace A:=A.sM [1,0] (M':=[cpx C 125 mb0 bk al,ZCn (ZJh 22 (ZJh 2 (eI.tr))) [] [.slice (some ⟨ae,0,none⟩) 0 0] ((ZDa (Fe (.slice (some ⟨ae,0,none⟩) 0 0)))++([]:List (List Nat)).flatten)]) (by decide) rfl
  obtain ⟨ab,ac,B,rfl,a3,bu,bv,A⟩:=A.focus a5;replace A:=A.I0 0 rfl (ZB8 ((EA .i64).ty.sl) (C.LV I) [B.vl] al) (λh_=>Zoy h_ (by simp) a3) (λ_ h_=>h_)
  refine Z7 (v:=.slice (some ⟨ae,0,none⟩) 0 0) A 0 [.slice (some ⟨ae,0,none⟩) 0 0] [B.vl,.map (some B.pb),.slice (some ⟨ae,0,none⟩) 0 0,B.vc,B.vd,B.vk] rfl Im.size rfl rfl (Zan (ZJu _ (A.Ix 3 rfl).1)) rfl (Xy (Sn (ZJu _ (A.Ix 3 rfl).1)) rfl) (ZCh rfl) rfl λdj A=>dn (sr (Za (v:=vQ bp0) rfl (Za (v:=vI I) rfl (Zm rfl rfl ?_))))
  replace A:=A.sM [2,1,0,3] (M':=[Yb (vvI .i64) vvP mb0 ((ab++B::ac).map Lev.key),lvB 125 (ab++ac),blk L 125 [B.vl,.map (some B.pb),.slice (some ⟨ae,0,none⟩) 0 0,B.vc,B.vd,B.vk],ZCn (ZJh 22 (ZJh 2 (eI.tr))) [] [.slice (some ⟨ae,0,none⟩) 0 0] ((ZDa (Fe (.slice (some ⟨ae,0,none⟩) 0 0)))++([]:List (List Nat)).flatten)]) (by decide) rfl
  replace A:=A.sP [1,6,5,4,0,2,3] (Ps':=[cpP C (ab++B::ac) al,blk bp0 198 [vQ b0,.map (some mb0)],blk b0 32 [Ia,Ic],ZB8 TAlg a0 [Ia,Ic] Ib,ZB8 ((EA .i64).ty.sl) (C.LV I) [B.vl] al,ZB8 TForm.sl a0.images [Ic] Ib,ZB8 TInts a0.degrees [Ia] Ib]) rfl;obtain ⟨bw,h⟩:=h;have bx:=A.size;refine Zpj bw A rfl rfl (λam ai cw dk a9 ba bz bh A c7=>?_)
  have b8:am∈((ab++ac))++ai:=Zo5 ba (λq_=>Zo6 I (a9.symm.trans ((I1 Lev.n q_).trans a3)))
  refine Zd (v:=vvP am.b) rfl (dn (sr (Za (v:=vQ L) rfl (Xd rfl (Z0 0 ZJo rfl Io.size rfl rfl (Yc A 2 (B.vl) rfl Io rfl rfl (Zu A 4 rfl ZJm rfl (Za (v:=vI 0) rfl (dn (ZCf ?_))))))))))
  have b9:(C.LV I).length<=9223372036854775807:=Yz (A.Iw 4 rfl);refine Yh (S:=(List (List Int))) _ _ (λU an e_ w_=>∃ (ag:Value),∃ (ao:List Nat),Zt e_ [(0,vQ bp0),(5,vQ L),(6,vvP am.b),(28,B.vl),(29,vI ((C.LV I).length:Int)),(30,vI (U:Int))]/\Ctx (λc_=>c_∈(cpx C 125 mb0 D0 F0).fp) w0 w_ [Yb (vvI .i64) vvP mb0 (((ab++B::ac)++ai).map Lev.key),lvB 125 ((ab++ac)++ai),blk L 125 [B.vl,.map (some B.pb),ag,B.vc,B.vd,B.vk],ZCn (ZJh 22 (ZJh 2 (eI.tr))) an [ag] ao] [cpP C ((ab++B::ac)++ai) (al++cw),blk bp0 198 [vQ b0,.map (some mb0)],blk b0 32 [Ia,Ic],ZB8 TAlg a0 [Ia,Ic] Ib,ZB8 ((EA .i64).ty.sl) (C.LV I) [B.vl] al,ZB8 TForm.sl a0.images [Ic] Ib,ZB8 TInts a0.degrees [Ia] Ib]) ((C.LV I).length) ?_ ?_ (s0:=[]) ?_ h
  ·clear A h;rintro U an e_ dm c8 cx ar ⟨ag,ao,bb,A⟩ h ca;rw [ue bb];refine sr (Zl rfl rfl (dn (ZB9 (Z8 rfl (decide_eq_true (by omega)) (ZCd (Ze (ZB9 (ZCf (sr ?_)))))))))
   obtain ⟨c9,dp,bc⟩:=Zx (A.Iw 4 rfl) U ar;refine Yn (len:=(C.LV I).length) ZJm ag73.size (tr rfl bc) rfl (ZCq _) (ZC9.2 ar) (Ji (ZB6 .i64 ((C.LV I).getD U Ci)) (Yi (A.Iw 4 rfl) bc U ar) ag73 rfl rfl (Yt A (ZB6 .i64 ZCe) z73 rfl λbd dq ah A=>Z7 (v:=.agg (ZB7 (ZB6 .i64 ((C.LV I).getD U Ci)))) A 0 (ZB6 .i64 ((C.LV I).getD U Ci)) (ZB6 .i64 ((C.LV I).getD U Ci)) rfl ag73.size rfl rfl rfl rfl rfl (ZCh rfl) rfl λdr A=>dn ?_))
   refine Za0 17 Ym [0,0,2,6,14,0,0,64,192,448,0,0,3072,7168,16320,32736,65504,131070,262143,524287,1048575] [4,9,11] [0,1,2,3,5,6,7,8,13] (λa4 ad bl ah=>?_)
   replace A:=A.Iy ah;have V:bl.heap.size<=bl.heap.size:=Cg _;refine bMR (Xf _) 0 (vQ L) rfl ad (Zc 21 1) (bMR (Xf _) 1 (vQ L) rfl ad (Zc 21 3) (Zv (Xf _) 2 (vQ L) rfl rfl (by kernel_rfl) (ad 2 rfl) (λw_=>.inl ⟨rfl,by exact Wu rfl⟩) (l9:=(Zc 21 7)) (by kernel_rfl) (Zv (Xf _) 3 (.pointer (some ⟨L,2,none⟩)) rfl rfl (by kernel_rfl) (ad 3 rfl) (λw_=>.inl ⟨rfl,by exact Yq 2 ZJo rfl Im.size rfl rfl⟩) (l9:=(Zc 21 15)) (by kernel_rfl) (W0 (Xf _) 4 (ag) rfl rfl (by kernel_rfl) (a4 4 rfl) (λw_ ah=>.inl ⟨rfl,by exact Yj (A.Iy (Td ah)) 3 (ag) rfl Im rfl rfl⟩) (l9:=(Zc 21 31)) (by kernel_rfl) (bMR (Xf _) 5 (vvP am.b) rfl ad (Zc 21 63) (bMR (Xf _) 6 (vQ bp0) rfl ad (Zc 21 127) (Zv (Xf _) 7 (vQ bp0) rfl rfl (by kernel_rfl) (ad 7 rfl) (λw_=>.inl ⟨rfl,by exact Wu rfl⟩) (l9:=(Zc 21 255)) (by kernel_rfl) (Zv (Xf _) 8 (vQ bp0) rfl rfl (by kernel_rfl) (ad 8 rfl) (λw_=>.inl ⟨rfl,by exact Yq 0 ZKc rfl Iv.size rfl rfl⟩) (l9:=(Zc 21 511)) (by kernel_rfl) (W0 (Xf _) 9 (vQ b0) rfl rfl (by kernel_rfl) (a4 9 rfl) (λw_ ah=>.inl ⟨rfl,by exact Tx (vQ b0) ((A.Iy (Td ah)).Iw 1 rfl) Iv rfl rfl⟩) (l9:=(Zc 21 1023)) (by kernel_rfl) (W0 (Xf _) 11 (.agg (ZB7 (ZB6 .i64 ((C.LV I).getD U Ci)))) rfl rfl (by kernel_rfl) (a4 11 rfl) (λw_ ah=>.inl ⟨rfl,by exact Y6 (A.Iy (Td ah)) 0 (ZB6 .i64 ((C.LV I).getD U Ci)) rfl ag73 rfl rfl rfl⟩) (l9:=(Zc 21 3071)) (by kernel_rfl) (aO 10 rfl (So A (kvA .i64) (vvI .i64) λax dt cy ah A=>?_))))))))))))
   have hnb_b197:=Cj V cy;refine done ?_
   refine Xc (Js V (by assumption)) V (l9:=(Zc 21 4095)) (by kernel_rfl) (λV=>?_)
   refine aO 12 rfl ?_
   refine W3 A 0 ((C.LV I).getD U Ci) 1 rfl J4 Tryz.underlying115 rfl rfl rfl (λdu cb A=>?_) (.inr rfl)
   refine done ?_
   refine Xc (Wt V hnb_b197 cb) V (l9:=(Zc 21 8191)) (by kernel_rfl) (λV=>?_)
   refine bMR (Xf _) 13 (.map (some ax)) rfl ad (Zc 21 16383) (aO 14 rfl (Zf [vQ b0,.map (some ax)] _ Tryz.func154 rfl rfl rfl (Zbb a0 (Yv ([]:List (A8×Int)) ((C.LV I).getD U Ci) 1) h _ (Yf (A.Iw 6 rfl) (A.Iw 5 rfl)) (A.Iw 2 rfl) (A.Ix 0 rfl)) ?_))
   rintro _ dv ⟨ay,az,rfl,h,cc,ce,cg⟩;refine rt ?_
   replace A:=A.push cg (mapS az ay) cc (λb_ ak=>by obtain rfl:=Fc.1 ak; exact ce)
   refine done ?_
   refine Xc (Js V (by assumption)) V (l9:=(Zc 21 32767)) (by kernel_rfl) (λV=>?_)
   refine aO 15 rfl (Zf [vvP am.b,.map (some az)] _ Tryz.func85 rfl rfl rfl (Zgl (⟨C.LV (Zwt.wrap (I+1)),C.PL (Zwt.wrap (I+1))⟩:Vc.Lvl) ay h _ (Zgi (A.Iw 0 rfl) ba a9) (Sb (A.Ix 4 rfl) b8) (A.Ix 0 rfl)) ?_)
   rintro _ dw ⟨aj,aa,cz,rfl,h,ch,ci,cj⟩;refine rt ?_
   replace A:=A.push cj (ZCn (ZJh 2 (eI.tr)) aj [aa] cz) ch ci;obtain ⟨ck,cl⟩:=Yx (A.Ix 0 rfl).1;subst cl;replace A:=A.Iz (c:=own 2 1 aa aj.length (eI.encs aj)) (λ_ h_=>h_) (λ_=>ck)
   refine done ?_
   refine Xc (Js V (by assumption)) V (l9:=(Zc 21 65535)) (by kernel_rfl) (λV=>?_)
   refine aO 16 rfl (Yd (sz:=1) A [(0,aa)] [aa] rfl (λ_=>Wc aa (Va (A.Ix 0 rfl)) _) rfl (by decide) λap dx ah A=>?_)
   replace A:=A.pushM0 (Zz (ZJh 2 (eI.tr)) [] [] []) (Xn _ _) rfl;replace A:=A.sM [2,0,1,3,4,5,6,7,8,9] (M':=[own 2 1 aa aj.length (eI.encs aj),Zz (ZJh 2 (eI.tr)) [] [] [],own 22 1 (.slice (some ⟨ap,0,none⟩) 1 1) 1 [aa],mapS az ay,mapS ax (Yv ([]:List (A8×Int)) ((C.LV I).getD U Ci) 1),blk bd 73 (ZB6 .i64 ((C.LV I).getD U Ci)),Yb (vvI .i64) vvP mb0 (((ab++B::ac)++ai).map Lev.key),lvB 125 ((ab++ac)++ai),blk L 125 [B.vl,.map (some B.pb),ag,B.vc,B.vd,B.vk],ZCn (ZJh 22 (ZJh 2 (eI.tr))) an [ag] ao]) (by decide) rfl
   replace A:=A.gather (c:=Zz (ZJh 2 (eI.tr)) [aj] [aa] [(ZDa (Fe aa))]) (λx_ O=>Vf O) (λau av aw=>W9 (c:=[aa]) (id (Xi au)) av aw)
   replace A:=A.sM [1,0,2,3,4,5,6,7,8] (M':=[own 22 1 (.slice (some ⟨ap,0,none⟩) 1 1) 1 [aa],Zz (ZJh 2 (eI.tr)) [aj] [aa] [(ZDa (Fe aa))],mapS az ay,mapS ax (Yv ([]:List (A8×Int)) ((C.LV I).getD U Ci) 1),blk bd 73 (ZB6 .i64 ((C.LV I).getD U Ci)),Yb (vvI .i64) vvP mb0 (((ab++B::ac)++ai).map Lev.key),lvB 125 ((ab++ac)++ai),blk L 125 [B.vl,.map (some B.pb),ag,B.vc,B.vd,B.vk],ZCn (ZJh 22 (ZJh 2 (eI.tr))) an [ag] ao]) (by decide) rfl
   replace A:=A.gather (c:=ZCn (ZJh 22 (ZJh 2 (eI.tr))) [aj] [.slice (some ⟨ap,0,none⟩) 1 1] ((ZDa (Fe (.slice (some ⟨ap,0,none⟩) 1 1)))++([(ZDa (Fe aa))]:List (List Nat)).flatten)) (λx_ O=>Ch.1 O) (λau av aw=>Xj au av aw)
   refine done ?_
   refine Xc (Js V (by assumption)) V (l9:=(Zc 21 131071)) (by kernel_rfl) (λV=>?_)
   refine aO 17 rfl ?_
   replace A:=A.sM [7,0,1,2,3,4,5,6] (M':=[ZCn (ZJh 22 (ZJh 2 (eI.tr))) an [ag] ao,ZCn (ZJh 22 (ZJh 2 (eI.tr))) [aj] [.slice (some ⟨ap,0,none⟩) 1 1] ((ZDa (Fe (.slice (some ⟨ap,0,none⟩) 1 1)))++([(ZDa (Fe aa))]:List (List Nat)).flatten),mapS az ay,mapS ax (Yv ([]:List (A8×Int)) ((C.LV I).getD U Ci) 1),blk bd 73 (ZB6 .i64 ((C.LV I).getD U Ci)),Yb (vvI .i64) vvP mb0 (((ab++B::ac)++ai).map Lev.key),lvB 125 ((ab++ac)++ai),blk L 125 [B.vl,.map (some B.pb),ag,B.vc,B.vd,B.vk]]) (by decide) rfl
   obtain ⟨cm,h⟩:=h;refine W1 A ZKd J0 rfl (by decide) (by decide) rfl rfl cm λa7 c0 dy A=>done (L1 (by decide) (l9:=(Zc 21 262143)) (by kernel_rfl) (Z5 18 (by decide) (by decide) (by kernel_rfl) (by kernel_rfl) rfl (Xd rfl (Z0 2 ZJo rfl Im.size rfl rfl (Z7 (v:=a7) A 6 [a7] [B.vl,.map (some B.pb),a7,B.vc,B.vd,B.vk] rfl Im.size rfl rfl (Zan (ZJu _ (A.Ix 0 rfl).1)) rfl (Xy (Sn (ZJu _ (A.Ix 0 rfl).1)) rfl) (ZCh rfl) rfl λdz A=>done (Z6 (Zr (Ze (Zh (Zm rfl rfl (Za (v:=vI (Zwt.wrap ((U:Int)+1))) rfl (done ?_))))))))))))
   exact ca (an++[aj]) _ _ ⟨a7,c0,(sl ⟨rfl,rfl,rfl,rfl,rfl,(tr rfl (I1 _ (Z2 ar b9))),trivial⟩),(A.xM [4,5,6,0] rfl)⟩ h
  ·clear A h;rintro an e_ d0 cx ⟨ag,ao,bb,A⟩ h;rw [ue bb];refine sr (Zl rfl rfl (dn (ZB9 (Z4 rfl (decide_eq_false (by omega)) ?_))))
   refine ZCo (Zi (Zi (Zy ?_)))
   refine Ze (sr (Za (v:=vQ L) rfl (Zd (v:=vQ L) rfl (dn (ZCi ?_)))))
   obtain ⟨hmx234,h⟩:=h;obtain ⟨D235,F236,hle237,hat238,hx239,cn⟩:=Zo7 (n:=I) (A.Ix 0 rfl) (A.Ix 1 rfl) (A.Ix 2 rfl) (A.Iw 0 rfl) (hmx234 ▸ (A.Ix 3 rfl)) a3 bu (A.mm 0 2 rfl rfl (by decide)) (A.mm 0 1 rfl rfl (by decide)) (A.mm 0 3 rfl rfl (by decide)) (A.mm 2 1 rfl rfl (by decide)) (A.mm 2 3 rfl rfl (by decide)) (A.mm 1 3 rfl rfl (by decide)) (λx_ O a2=>A.pdk 0 0 rfl rfl x_ O a2) (λx_ O a2=>A.pdk 0 2 rfl rfl x_ O a2) (λx_ O a2=>A.pdk 0 1 rfl rfl x_ O a2) bh
   exact Zj rfl (Zg rfl) ⟨L,D235,F236,rfl,h,hat238,(a6.trans hle237),hx239,(λx_ O=>((cn x_ O).elim (A.anyX 0 rfl x_) (λq_=>q_.elim (A.anyX 2 rfl x_) (λq_=>q_.elim (A.anyX 1 rfl x_) (λq_=>q_.elim (bv x_) (λq_=>q_.elim (λq_=>.inl (Cj bx (bz x_ q_))) (A.anyX 3 rfl x_)))))).symm),A.belO⟩ (.inl rfl)
  ·skip;exact⟨.slice (some ⟨ae,0,none⟩) 0 0,((ZDa (Fe (.slice (some ⟨ae,0,none⟩) 0 0)))++([]:List (List Nat)).flatten),(slq rfl),A⟩
 ·replace h:=h.2;refine E9 false ZKd (tr rfl a8) rfl rfl ?_
  have bi:=be _ rfl;refine dn (Z4 rfl rfl (ZCd (Ze (sr (Za (v:=vvP L) rfl (Zd (v:=vvP L) rfl (dn (ZCi ?_))))))))
  exact Zj rfl (Zg rfl) ⟨L,bk,al,rfl,h,bi,a6,(A.Ix 0 rfl),(λx_ O=>(A.anyX 0 rfl x_ O).symm),A.belO⟩ (.inl rfl)
end Go.Proofs.YtaagfepgbofmlaaGreat
namespace Go.Proofs.YtaagfepgbofmlaaGreat
open Go Go.RowKit Vc
def M0 (C:Cx) (a:Alg) (n:Int):Prop:=De C a n True
theorem Zb3 (C:Cx) (a:Alg) (n:Int) {cb ab mb:Nat} {A B:Value} {fpA:List Nat} {D:List Lev} {F:List Nat} (h:M0 C a n) (w0:World)
  (I:TAlg.rep a [A,B] fpA w0) (qa:(blk ab 32 [A,B]).holds w0) (qc:(blk cb 198 [.pointer (some ⟨ab,0,none⟩),.map (some mb)]).holds w0) (qx:(cpx C 125 mb D F).holds w0)
  (dq:∀ b,b∈fpA->b∉(cpx C 125 mb D F).fp) (da:ab∉(cpx C 125 mb D F).fp) (dc:cb∉(cpx C 125 mb D F).fp) :
  Calls ZCc 135 #[.pointer (some ⟨cb,0,none⟩),.int .i64 n] w0 λe w'=>∃ (b:Nat) (D':List Lev) (F':List Nat),
   e=.returned (vvP b)/\LvAt D' n b true false/\CpLe D D' F F'/\(cpx C 125 mb D' F').holds w'/\(∀ x,x∈(cpx C 125 mb D' F').fp->x∈(cpx C 125 mb D F).fp\/w0.heap.size<=x)/\BelO (cpx C 125 mb D F).fp w0 w':=by
 refine(Zpk C a n h w0 I qa qc qx dq da dc).mono ?_
 rintro e w' ⟨b,D',F',L,_,O⟩;exact⟨b,D',F',L,O⟩
end Go.Proofs.YtaagfepgbofmlaaGreat
namespace Vc
open Go Go.RowKit
def LvIn (D:List Lev) (n:Int) (b:Nat) (c3 c4:Bool):Prop:=∃ e,e∈D/\e.n=n/\e.b=b/\e.md=true/\(c3=true->e.c3=true)/\(c4=true->e.c4=true)
theorem LvIn.up {S:Nat->Prop} {D D':List Lev} {F F':List Nat} {n:Int} {b:Nat} {c3 c4:Bool} (h:LvIn D n b c3 c4) (k:CpX S D D' F F'):LvIn D' n b c3 c4:=by
 obtain ⟨e,A,B,I,L,O,U⟩:=h;obtain ⟨V,k1,k2⟩:=k.up e A;exact⟨V,k1,k2.n.trans B,k2.b.trans I,k2.md L,λq=>k2.c3 (O q),λq=>k2.c4 (U q)⟩
theorem LvAt.inn {D:List Lev} {n:Int} {b:Nat} (h:LvAt D n b true false):LvIn D n b false false:=by
 obtain ⟨e,A,B,I,L,_⟩:=h;exact⟨e,A,B,I,L rfl,λq=>(ZJr q).elim,λq=>(ZJr q).elim⟩
section
variable {C:Cx} {lt mb:Nat} {D:List Lev} {F:List Nat} {w:World} {n:Int} {b:Nat} {c3 c4 md:Bool}
theorem Zpl (h:(cpx C lt mb D F).holds w) (hl:LvAt D n b true false) (hr:Mx D):∃ O U V L v4 v5,(blk b lt [O,U,V,L,v4,v5]).holds w/\∃ A m c,L=.slice A m c/\∀ a,A=some a->LvAt D n b true true:=by
 obtain ⟨e,B,rfl,rfl,h2,_⟩:=hl;obtain ⟨_,_,_,_,a3,b3,_⟩:=h.2.2.1.2 e B;refine⟨_,_,_,_,_,_,Sb h.2.1 B,?_⟩
 cases q:e.c3 with
 | false=>exact⟨none,0,0,a3 q,λa I=>by cases I⟩
 | true =>
  obtain ⟨A,m,c,I⟩:=Mw (b3 q);exact⟨A,m,c,I,λa _=>⟨e,B,rfl,rfl,h2,λ_=>⟨q,hr e B q⟩⟩⟩
theorem Hk (h:(cpx C lt mb D F).holds w) (hl:LvIn D n b c3 c4):∃ A U B I L V,(blk b lt [A,U,B,I,L,V]).holds w/\((EA .i64).ty.sl).rep (C.LV n) [A] F w/\(((EI .i64).ty.sl).sl).rep (C.MX n) [B] F w /\
  (c3=true->(((EI .i64).ty.sl).sl).rep (C.CL n) [I] F w)/\(c4=true->(((EI .i64).ty.sl).sl).rep (C.BD n) [L] F w):=by
 obtain ⟨e,O,rfl,rfl,h2,h3,h4⟩:=hl;obtain ⟨g1,g2,g3,g4,_,b3,_,b4,_⟩:=h.2.2.1.2 e O;exact⟨_,_,_,_,_,_,Sb h.2.1 O,g1,g4 h2,λq=>b3 (h3 q),λq=>b4 (h4 q)⟩
theorem Zb4 {cd:Bool} (h:(cpx C lt mb D F).holds w) (hl:LvAt D n b md cd):b≠mb:=by
 obtain ⟨e,A,_,rfl,_⟩:=hl;exact λq=>h.2.2.2.1 (q ▸ Cp.2 ⟨e,A,rfl⟩)
theorem Zpm (h:(cpx C lt mb D F).holds w) (hl:LvIn D n b c3 c4):b≠mb:=by
 obtain ⟨e,A,_,rfl,_⟩:=hl;exact λq=>h.2.2.2.1 (q ▸ Cp.2 ⟨e,A,rfl⟩)
theorem Zgo {t:Nat} {cs:List Value} {w':World} (A:BelB mb w w') (h:(blk b t cs).holds w) (hne:b≠mb):(blk b t cs).holds w':=(A.old b (Ur h) hne).trans h
theorem Zpn {α:Type} {T:Ty α} {x:α} {cs:List Value} {w':World} (h:T.rep x cs F w) (A:BelB mb w w') (hm:mb∉F):T.rep x cs F w':=T.keep (λc hc=>A.old c (T.low h c hc) (λe=>hm (e ▸ hc))) h
theorem Zpo {D:List Lev} (hd:(D.map (·.b)).Nodup) {e e':Lev} (h:e∈D) (h':e'∈D) (hb:e.b=e'.b):e=e':=by
 induction D with
 | nil=>cases h
 | cons x D ih =>
  rw [Fm,ZFj] at hd
  rcases Cb.1 h with q | q <;> rcases Cb.1 h' with z | z
  ·exact q.trans z.symm
  ·exact absurd (show x.b∈D.map (·.b) from Cp.2 ⟨e',z,by rw [<- q]; exact hb.symm⟩) hd.1
  ·exact absurd (show x.b∈D.map (·.b) from Cp.2 ⟨e,q,by rw [<- z]; exact hb⟩) hd.1
  ·exact ih hd.2 q z
theorem Zgp (h:(cpx C lt mb D F).holds w) (hl:LvAt D n b md true):∀ e,e∈D->e.b=b->e.c4=true/\e.c5=true:=λe he hb=>by
 obtain ⟨I,A,_,L,_,B⟩:=hl;obtain rfl:=Zpo h.2.1.2 he A (hb.trans L.symm);exact(B rfl).2
end
theorem Zpp {C:Cx} {lt mb a e0:Nat} {D1 D2:List Lev} {ev ev':Lev} {F f:List Nat} {v:Value} {xs:List (List Int)} {w w':World} (h:(cpx C lt mb (D1++ev::D2) F).holds w) (ht:(ZCn (ZJh a (ZJh e0 (EI .i64).tr)) xs [v] f).holds w)
  (hd:∀ x,x∈(cpx C lt mb (D1++ev::D2) F).fp->x∉f) (hn:ev'.n=ev.n) (hb:ev'.b=ev.b) (hblk:(blk ev.b lt ev'.cells).holds w') (ho:∀ k,k≠ev.b->w'.heap[k]? = w.heap[k]?)
  (hlc:LvC C F ev w->(∀ b,b∈F++f->b < w.heap.size)->(((EI .i64).ty.sl).sl).rep xs [v] f w->LvC C (F++f) ev' w):(cpx C lt mb (D1++ev'::D2) (F++f)).holds w':=by
 have hbs:(D1++ev'::D2).map (·.b)=(D1++ev::D2).map (·.b):=by simp [hb]
 have hks:(D1++ev'::D2).map Lev.key=(D1++ev::D2).map Lev.key:=by simp [Lev.key,hb,hn]
 have inD:ev.b∈(D1++ev::D2).map (·.b):=Cp.2 ⟨ev,by simp,rfl⟩
 have inF:ev.b∈(cpx C lt mb (D1++ev::D2) F).fp:=ZJk _ (Cv _ inD);have hlow:∀ x,x∈f->x < w.heap.size:=λx hx=>ZJj _ w ht x hx
 have hlF:∀ x,x∈F->x < w.heap.size:=λx hx=>h.2.2.1.1 x hx
 have hlA:∀ b,b∈F++f->b < w.heap.size:=λb hb=>(Ch.1 hb).elim (hlF b) (hlow b)
 have neF:∀ x,x∈F++f->x≠ev.b:=λx hx e=>by
  subst e;rcases Ch.1 hx with q | q
  ·exact h.2.2.2.2.2 _ inD q
  ·exact hd _ inF q
 obtain ⟨I,B,A⟩:=Zbz h.2.1;refine⟨?_,?_,?_,?_,?_,?_⟩
 ·rw [hks]
  exact ZJl _ w w' (λc hc=>ho c (λe=>by
   have:c=mb:=by simpa [Yb] using hc
   exact h.2.2.2.1 (this ▸ e ▸ inD))) h.1
 ·refine Zb0 (e:=ev') (by rw [hb]; exact hblk) (ZJl _ w w' (λc hc=>ho c (λe=>A c (by simp [blk,e]) hc)) B) (λx hx=>A x ?_)
  have:x=ev.b:=by rw [<- hb]; simpa [blk] using hx
  simp [blk,this]
 ·exact ZJl _ w w' (λc hc=>ho c (neF c hc)) (Zb1 (e:=ev) (e':=ev') h.2.2.1 hlow λhc=>hlc hc hlA (ZJu _ ht.1))
 ·rw [hbs]; exact h.2.2.2.1
 ·intro q;rcases Ch.1 q with q | q
  ·exact h.2.2.2.2.1 q
  ·exact hd mb Vg q
 ·intro b hbm q;rw [hbs] at hbm
  rcases Ch.1 q with q | q
  ·exact h.2.2.2.2.2 b hbm q
  ·exact hd b (ZJk _ (Cv _ hbm)) q
section
variable {X:Nat->Prop} {w0 w w':World} {M Ps:List Item}
theorem Ctx.put {C:Cx} {lt mb a e0:Nat} {D1 D2:List Lev} {ev ev':Lev} {F f:List Nat} {v:Value} {xs:List (List Int)} (h:Ctx X w0 w (cpx C lt mb (D1++ev::D2) F::ZCn (ZJh a (ZJh e0 (EI .i64).tr)) xs [v] f::M) Ps)
  (hn:ev'.n=ev.n) (hb:ev'.b=ev.b) (hos:w'.os=w.os) (hta:w'.tape=w.tape) (hou:w'.output=w.output) (hsz:w'.heap.size=w.heap.size) (hdr:w.drawn<=w'.drawn) (hblk:(blk ev.b lt ev'.cells).holds w') (ho:∀ k,k≠ev.b->w'.heap[k]? = w.heap[k]?)
  (hlc:LvC C F ev w->(∀ b,b∈F++f->b < w.heap.size)->(((EI .i64).ty.sl).sl).rep xs [v] f w->LvC C (F++f) ev' w):Ctx X w0 w' (cpx C lt mb (D1++ev'::D2) (F++f)::M) Ps:=by
 have hbs:(D1++ev'::D2).map (·.b)=(D1++ev::D2).map (·.b):=by simp [hb]
 have inF:ev.b∈(cpx C lt mb (D1++ev::D2) F).fp:=ZJk _ (Cv _ (Cp.2 ⟨ev,by simp,rfl⟩))
 have A:=h.gather (c:=Item.and (cpx C lt mb (D1++ev::D2) F) (ZCn (ZJh a (ZJh e0 (EI .i64).tr)) xs [v] f)) (λx hx=>Ch.1 hx) (λp q _=>⟨p,q⟩)
 exact A.turn 0 rfl hos hta hou (by omega) hdr (λc _ hc=>ho c (λe=>hc (Cv _ (e ▸ inF)))) (Zpp (h.Ix 0 rfl) (h.Ix 1 rfl) (h.mm 0 1 rfl rfl (by decide)) hn hb hblk ho hlc) (λx hx=>.inl (by
  rcases Cb.1 hx with rfl | hx
  ·exact Cv _ Vg
  ·rcases Ch.1 hx with q | q
   ·rw [hbs] at q; exact Cv _ (ZJk _ (Cv _ q))
   ·rcases Ch.1 q with q | q
    ·exact Cv _ (Tk q)
    ·exact Cu _ q))
theorem Dg {D1 D2:List Lev} {ev ev':Lev} {F f:List Nat} (h:ev.Le ev'):CpX (λx=>x=ev.b) (D1++ev::D2) (D1++ev'::D2) F (F++f):=by
 refine⟨λz hz=>?_,λz hz hs A=>?_,λx hx=>Cv _ hx⟩
 ·rcases Ch.1 hz with q | q
  ·exact⟨z,Cv _ q,.refl z⟩
  ·rcases Cb.1 q with rfl | q
   ·exact⟨ev',Cu _ ZJs,h⟩
   ·exact⟨z,Cu _ (ZJk _ q),.refl z⟩
 ·rcases Ch.1 hz with q | q
  ·exact .inr ⟨z,Cv _ q,rfl,A,id,id⟩
  ·rcases Cb.1 q with rfl | q
   ·exact absurd h.b hs
   ·exact .inr ⟨z,Cu _ (ZJk _ q),rfl,A,id,id⟩
theorem Ctx.noBd {C:Cx} {lt mb:Nat} {D:List Lev} {F:List Nat} {n:Int} {b:Nat} (A:Ctx X w0 w (cpx C lt mb D F::M) Ps) (hl:LvIn D n b true false) (hb:C.BD n=[]) :
  ∃ D',CpX (λx=>x=b) D D' F F/\LvIn D' n b true true/\Ctx X w0 w (cpx C lt mb D' F::M) Ps:=by
 obtain ⟨e,B,rfl,rfl,I,L,_⟩:=hl;cases q:e.c4 with
 | true=>exact⟨D,.refl _ _,⟨e,B,rfl,rfl,I,L,λ_=>q⟩,A⟩
 | false =>
  obtain ⟨D1,D2,rfl⟩:=ZJ3 B;have hle:e.Le { e with c4:=true }:=⟨rfl,rfl,id,id,λ_=>rfl,id⟩
  have O:=Dg (D1:=D1) (D2:=D2) (F:=F) (f:=[]) hle;rw [ZJz] at O
  refine⟨D1++{ e with c4:=true }::D2,O,⟨{ e with c4:=true }, by simp,rfl,rfl,I,L,λ_=>rfl⟩,A.Iz (λx hx=>?_) (λh=>?_)⟩
  ·have:(D1++({ e with c4:=true }:Lev)::D2).map (·.b)=(D1++e::D2).map (·.b):=by simp
   simpa [cpx,this] using hx
  ·have hbs:(D1++({ e with c4:=true }:Lev)::D2).map (·.b)=(D1++e::D2).map (·.b):=by simp
   have hks:(D1++({ e with c4:=true }:Lev)::D2).map Lev.key=(D1++e::D2).map Lev.key:=by simp [Lev.key]
   obtain ⟨U,V,q3⟩:=Zbz h.2.1;refine⟨by rw [hks]; exact h.1,Zb0 (e:={ e with c4:=true }) U V q3,?_,by rw [hbs]; exact h.2.2.2.1,h.2.2.2.2.1,by rw [hbs]; exact h.2.2.2.2.2⟩
   have:=Zb1 (F1:=[]) (e':={ e with c4:=true }) h.2.2.1 (by simp) (λhc=>by
    rw [ZJz];obtain ⟨g1,g2,g3,g4,a3,b3,a4,b4,a5,b5⟩:=hc
    exact⟨g1,g2,g3,g4,a3,b3,λz=>ZJ4 z,λ_=>by
     show (((EI .i64).ty.sl).sl).rep (C.BD e.n) [e.vd] F w
     rw [hb,a4 q];exact ZJq _ (Zac _ _) (by simp) h.2.2.1.1,a5,b5⟩)
   rwa [ZJz] at this
theorem Ctx.back {it:Item} (h:Ctx X w0 w M (it::Ps)) (hz:∀ b,b∈it.fp→w0.heap.size≤b∨X b) (hp:∀ jt,jt∈Ps→∀ b,b∈jt.fp→b∉it.fp):Ctx X w0 w (it::M) Ps :=
  { h with
    m:=fun x hx=>(Cb.1 hx).elim (fun e=>e ▸ h.p it ZJs) (h.m x)
    p:=fun x hx=>h.p x (ZJk _ hx)
    mfp:=fun x hx=>(Cb.1 hx).elim (fun e=>e ▸ hz) (h.mfp x)
    dis:=Cl.2 ⟨fun m hm x hx=>h.pd it ZJs x hx m hm,h.dis⟩
    pd:=fun x hx b hb m hm=>(Cb.1 hm).elim (fun e=>e ▸ hp x hx b hb) (h.pd x (ZJk _ hx) b hb m) }
theorem Ctx.off (h:Ctx X w0 w M Ps) (k:Nat) {it:Item} (hk:M[k]? = some it):∀ jt,jt∈Ps->∀ b,b∈jt.fp->b∉it.fp:=λjt hj b hb=>h.pd jt hj b hb it (List.mem_of_getElem? hk)
variable {P:Program} {ops:Array Oper} {Q:Exit->Act->World->Prop} {m:Nat} {e:Env} {rest:List Oper} {d ty:Nat} {pos:String} {af:Array Edge} {x y:Operand} {ty':Nat}
variable {C:Cx} {lt mb a e0:Nat} {D:List Lev} {F f:List Nat} {n:Int} {b:Nat} {c3 c4:Bool} {v:Value}
theorem Zpq (B:Ctx X w0 w (cpx C lt mb D F::ZCn (ZJh a (ZJh e0 (EI .i64).tr)) (C.CL n) [v] f::M) Ps) (hl:LvIn D n b c3 c4) (O:Xu P ty' 1) (hx:ev m e x=.pointer (some ⟨b,3,none⟩)) (hy:ev m e y=v)
  (h:∀ D' w',CpX (λx=>x=b) D D' F (F++f)->LvIn D' n b true c4->Ctx X w0 w' (cpx C lt mb D' (F++f)::M) Ps->W P ops Q rest m e w'):W P ops Q (⟨none,.store ty' x y,ty,pos,af,none⟩::rest) m e w:=by
 obtain ⟨ev,I,rfl,rfl,U,h3,V⟩:=hl;obtain ⟨D1,D2,rfl⟩:=ZJ3 I;obtain ⟨A,q,c,L⟩:=Mw (ZJu _ (B.Ix 1 rfl).1);obtain ⟨w',hr,hb,hos,hta,hou,hsz,hother⟩:=Lz (P:=P) (off:=3) (v:=v) (vc:=[v]) O (Sb (B.Ix 0 rfl).2.1 I) (by rw [L]; rfl) rfl (by rw [L]; rfl) (by simp [Lev.cells])
 refine Uq rfl rfl ?_ (h _ w' (Dg (ev':={ ev with vc:=v,c3:=true }) ⟨rfl,rfl,id,λ_=>rfl,id,id⟩) ⟨{ ev with vc:=v,c3:=true }, by simp,rfl,rfl,U,λ_=>rfl,V⟩ (B.put rfl rfl hos hta hou hsz (Vy _ _ _ _ hr) hb hother λhc hlA hrp=>?_))
 ·simp [execOp,hx,hy,ZJ1,Cm,hr]
 ·obtain ⟨g1,g2,g3,g4,a3,b3,a4,b4,a5,b5⟩:=hc.more (F':=F++f) (λb hb=>Cv _ hb) hlA
  exact⟨g1,g2,g3,g4,λz=>ZJ4 z,λ_=>ZJq _ hrp (λb hb=>Cu _ hb) hlA,a4,b4,a5,b5⟩
theorem Zpr (B:Ctx X w0 w (cpx C lt mb D F::ZCn (ZJh a (ZJh e0 (EI .i64).tr)) (C.BD n) [v] f::M) Ps) (hl:LvIn D n b c3 c4) (O:Xu P ty' 1) (hx:ev m e x=.pointer (some ⟨b,4,none⟩)) (hy:ev m e y=v)
  (h:∀ D' w',CpX (λx=>x=b) D D' F (F++f)->LvIn D' n b c3 true->Ctx X w0 w' (cpx C lt mb D' (F++f)::M) Ps->W P ops Q rest m e w'):W P ops Q (⟨none,.store ty' x y,ty,pos,af,none⟩::rest) m e w:=by
 obtain ⟨ev,I,rfl,rfl,U,V,h4⟩:=hl;obtain ⟨D1,D2,rfl⟩:=ZJ3 I;obtain ⟨A,q,c,L⟩:=Mw (ZJu _ (B.Ix 1 rfl).1);obtain ⟨w',hr,hb,hos,hta,hou,hsz,hother⟩:=Lz (P:=P) (off:=4) (v:=v) (vc:=[v]) O (Sb (B.Ix 0 rfl).2.1 I) (by rw [L]; rfl) rfl (by rw [L]; rfl) (by simp [Lev.cells])
 refine Uq rfl rfl ?_ (h _ w' (Dg (ev':={ ev with vd:=v,c4:=true }) ⟨rfl,rfl,id,id,λ_=>rfl,id⟩) ⟨{ ev with vd:=v,c4:=true }, by simp,rfl,rfl,U,V,λ_=>rfl⟩ (B.put rfl rfl hos hta hou hsz (Vy _ _ _ _ hr) hb hother λhc hlA hrp=>?_))
 ·simp [execOp,hx,hy,ZJ1,Cm,hr]
 ·obtain ⟨g1,g2,g3,g4,a3,b3,a4,b4,a5,b5⟩:=hc.more (F':=F++f) (λb hb=>Cv _ hb) hlA
  exact⟨g1,g2,g3,g4,a3,b3,λz=>ZJ4 z,λ_=>ZJq _ hrp (λb hb=>Cu _ hb) hlA,a5,b5⟩
theorem Zgq (B:Ctx X w0 w (cpx C lt mb D F::ZCn (ZJh a (ZJh e0 (EI .i64).tr)) (C.KL n) [v] f::M) Ps) (hl:LvIn D n b true true) (O:Xu P ty' 1) (hx:ev m e x=.pointer (some ⟨b,5,none⟩)) (hy:ev m e y=v)
  (h:∀ D' w',CpX (λx=>x=b) D D' F (F++f)->LvAt D' n b true true->Ctx X w0 w' (cpx C lt mb D' (F++f)::M) Ps->W P ops Q rest m e w'):W P ops Q (⟨none,.store ty' x y,ty,pos,af,none⟩::rest) m e w:=by
 obtain ⟨ev,I,rfl,rfl,U,V,h4⟩:=hl;obtain ⟨D1,D2,rfl⟩:=ZJ3 I;obtain ⟨A,q,c,L⟩:=Mw (ZJu _ (B.Ix 1 rfl).1);obtain ⟨w',hr,hb,hos,hta,hou,hsz,hother⟩:=Lz (P:=P) (off:=5) (v:=v) (vc:=[v]) O (Sb (B.Ix 0 rfl).2.1 I) (by rw [L]; rfl) rfl (by rw [L]; rfl) (by simp [Lev.cells])
 refine Uq rfl rfl ?_ (h _ w' (Dg (ev':={ ev with vk:=v,c5:=true }) ⟨rfl,rfl,id,id,id,λ_=>rfl⟩) ⟨{ ev with vk:=v,c5:=true }, by simp,rfl,rfl,λ_=>U,λ_=>⟨V rfl,h4 rfl,rfl⟩⟩ (B.put rfl rfl hos hta hou hsz (Vy _ _ _ _ hr) hb hother λhc hlA hrp=>?_))
 ·simp [execOp,hx,hy,ZJ1,Cm,hr]
 ·obtain ⟨g1,g2,g3,g4,a3,b3,a4,b4,a5,b5⟩:=hc.more (F':=F++f) (λb hb=>Cv _ hb) hlA
  exact⟨g1,g2,g3,g4,a3,b3,a4,b4,λz=>ZJ4 z,λ_=>ZJq _ hrp (λb hb=>Cu _ hb) hlA⟩
theorem Zgr {t t' el:Nat} {A:Option Addr} {m' c:Nat} (b:Bool) (ht:P.underlying t=some (.slice el)) (hx:ev m e x=.slice A m' c) (hy:ev m e y=.slice none 0 0) (hb:(!A.isNone)=b)
  (h:W P ops Q rest m (upd e d (.bool b)) w):W P ops Q (⟨some d,.binOp .neq t x y t',ty,pos,af,none⟩::rest) m e w:=by
 subst hb;have hq:(eqGuard .neq t x y (.slice A m' c) (.slice none 0 0)).run P w=.ok () w:=by unfold eqGuard; simp
 have hr:(binOp .neq t (.slice A m' c) (.slice none 0 0)).run P w=.ok (.bool !A.isNone) w:=by
  simp [binOp,Zf4 ht]
 exact Y2 _ rfl rfl (by simp only [execOp,hx,hy,Ca,hq,Cc,hr,Ce]) h
end
end Vc
