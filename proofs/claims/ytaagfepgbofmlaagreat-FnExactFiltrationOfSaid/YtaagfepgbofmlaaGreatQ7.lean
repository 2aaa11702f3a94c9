import Derived.Test.YtaagfepgbofmlaaGreatQ6
set_option linter.unusedSectionVars false
set_option linter.unusedSimpArgs false
set_option linter.unusedVariables false
open Classical renaming choose→Z2t,choose_spec→Z49
open Go.IntKind renaming i64→ZHf
open Inhabited renaming default→ZEu
open Int renaming one_mul→Z1y,mul_zero→Z1n,zero_mul→Z48
open List renaming getD→ZE0,length_map→Z08,mem_map→ZE1,take_length→Z1g,length_take→ZUe,map_append→ZT6,mem_singleton→ZFn,getElem_of_mem→ZE8,take_of_length_le→ZF0,mem_filter→Z1e,mem_append→ZEt,length_append→ZFj,mem_append_left→ZE7,pairwise_iff_getElem→ZE2,mem_append_right→ZE6,eq_nil_of_length_eq_zero→ZU8
open Nat renaming le_refl→ZEs
open Prod renaming fst→ZFx
namespace Go.Proofs.YtaagfepgbofmlaaGreat
open Go Vc
theorem Ztx {l:List A8} (hd:l.Nodup) {i j:Nat} (hi:i < l.length) (hj:j < l.length) (h:l[i]=l[j]):i=j:=by
 rcases Nat.lt_trichotomy i j with q | q | q
 ·exact absurd h (ZE2.1 hd i j hi hj q)
 ·exact q
 ·exact absurd h.symm (ZE2.1 hd j i hj hi q)
def plc (l:List A8):Nat→List (A8×Int)
 | 0=>[]
 | k+1=>Yo (plc l k) (l.getD k ZEu) (k:Int)
theorem Zos (l:List A8):∀ k,((plc l k).map ZFx).Nodup
 | 0=>by simp [plc]
 | k+1=>Zj3 (Zos l k)
theorem Zty {l:List A8} (hd:l.Nodup):∀ k,k≤l.length→∀ i,i < k→co (plc l k) (l.getD i ZEu)=i
 | 0,_,i,hi=>by omega
 | k + 1, hk, i, hi => by
  rw [plc,Zm1 (Zos l k)];by_cases e:i=k
  ·subst e; rw [if_pos rfl]
  ·rw [if_neg,Zty hd k (by omega) i (by omega)]
   intro h;have A:l.getD i ZEu=l[i]'(by omega):=by simp [ZE0,show i < l.length by omega]
   have B:l.getD k ZEu=l[k]'(by omega):=by simp [ZE0,show k < l.length by omega]
   rw [A,B] at h
   exact e (Ztx hd _ _ h)
theorem ZDn (l:List A8):Znk l (plc l l.length):=by
 unfold Znk;exact Yu (λi (s:List (A8×Int))=>s=plc l i) l.length (λi s next hi hs hn=>hn _ (by rw [hs]; rfl)) (λs hs=>hs) _ _ _ (by omega) rfl
theorem ZDo {m:List (A8×Int)} (h:(m.map ZFx).Nodup) {p:A8×Int} (hp:p∈m):co m p.1=p.2:=by
 induction m with
 | nil=>cases hp
 | cons q m ih =>
  simp only [List.map_cons,List.nodup_cons] at h
  rw [Za5];rcases List.mem_cons.1 hp with rfl | hp
  ·rw [if_pos rfl]
   have:co m p.1=0:=by
    rw [← Zcn h.2]
    cases hg:Y8 m p.1 with
    | none=>rfl
    | some v =>
     exfalso;cases hf:J9 m p.1 0 with
     | none=>rw [(Zc3 hf).1] at hg; cases hg
     | some z=>obtain ⟨j,u⟩:=z; exact h.1 (ZE1.2 ⟨_,List.mem_of_getElem? (Zc4 hf).2.1,rfl⟩)
   omega
  ·rw [if_neg (λe:q.1=p.1=>h.1 (by rw [e]; exact ZE1.2 ⟨p,hp,rfl⟩)),ih h.2 hp]; omega
theorem ZDp {m:List (A8×Int)} (h:(m.map ZFx).Nodup) {x:A8} (hx:x∉m.map ZFx):co m x=0:=by
 rw [← Zcn h]
 cases hf:J9 m x 0 with
 | none=>rw [(Zc3 hf).1]; rfl
 | some z=>obtain ⟨j,u⟩:=z; exact absurd (ZE1.2 ⟨_,List.mem_of_getElem? (Zc4 hf).2.1,rfl⟩) hx
theorem ZDq {α:Type} {l l':List α} {p:α} {i:Nat} (h:i < l.length) (hp:l[i]=p) (hl:l'=l.eraseIdx i):∀ x,x∈l→x=p∨x∈l':=by
 subst hp hl;intro x hx;obtain ⟨j,hj,rfl⟩:=ZE8 hx;by_cases e:j=i
 ·subst e; exact .inl rfl
 ·refine .inr (List.mem_eraseIdx_iff_getElem.2 ⟨j,hj,e,rfl⟩)
theorem Ztz {l:List A8} {m:List (A8×Int)} {K:List Int→Prop} (hl:l.length≤1000000) (hd:l.Nodup) (hm:(m.map ZFx).Nodup) (hin:∀ p,p∈m→p.1∈l) (h:K (l.map (co m))):Zb9 ⟨l,plc l l.length⟩ m K:=by
 unfold Zb9;dsimp only;refine⟨by omega,?_⟩
 rw [Int.toNat_natCast];refine Zhk (λl' (s:List Int)=>s.length=l.length∧(∀ p,p∈l'→p∈m)∧∀ i,i < l.length→l.getD i ZEu∉l'.map ZFx→s.getD i 0=co m (l.getD i ZEu)) ?_ ?_ m _ ⟨by simp,λ_ h=>h,λi hi hn=>?_⟩
 ·rintro l1 p l2 s next ⟨j,hj,hp,B⟩ ⟨I,L,O⟩ hn;have hpm:p∈l1:=hp ▸ List.getElem_mem hj;obtain ⟨A,G,e0⟩:=ZE8 (hin p (L p hpm));have V:l.getD A ZEu=p.1:=by rw [← e0]; simp [ZE0,G]
  have ec:(Y8 (plc l l.length) p.1).getD 0=(A:Int):=by
   rw [Zcn (Zos _ _),← V]; exact Zty hd l.length (ZEs _) A G
  rw [ec,Int.toNat_natCast];refine⟨by omega,hn _ ⟨by rw [List.length_set]; exact I,λq hq=>L q (by rw [B] at hq; exact List.mem_of_mem_eraseIdx hq),λi hi hno=>?_⟩⟩
  by_cases e:i=A
  ·subst e;rw [V,ZDo hm (L p hpm)];simp [ZE0,show i < s.length by omega]
  ·have e2:(s.set A p.2).getD i 0=s.getD i 0:=by
    simp only [ZE0]; rw [List.getElem?_set_ne (λq=>e q.symm)]
   rw [e2];refine O i hi λhmem=>?_
   obtain ⟨q,hq,eq⟩:=ZE1.1 hmem;rcases ZDq hj hp B q hq with rfl | aa
   ·have U:l.getD i ZEu=l[i]:=by simp [ZE0,hi]
    rw [U,← e0] at eq
    exact e (Ztx hd _ _ eq.symm)
   ·exact hno (ZE1.2 ⟨q,aa,eq⟩)
 ·rintro s ⟨I,_,O⟩
  have:s=l.map (co m):=by
   refine List.ext_getElem (by simp [I]) λi U h2=>?_
   have hi:i < l.length:=by omega
   have:=O i hi (by simp)
   simp only [ZE0,List.getElem?_eq_getElem U,List.getElem?_eq_getElem hi,Option.getD_some] at this
   rw [this]; simp
  rw [this]; exact h
 ·rw [ZDp hm hn];simp [ZE0,hi]
end Go.Proofs.YtaagfepgbofmlaaGreat
namespace Go.Proofs.YtaagfepgbofmlaaGreat
open Go Vc
structure IsSumOf (l:List A8) (row:List Int) (m:List (A8×Int)):Prop where
 ok:MapOk m
 cf:∀ j,j < l.length→co m (l.getD j ZEu)=vec row j
 ks:∀ p,p∈m→p.1∈l
end Go.Proofs.YtaagfepgbofmlaaGreat
namespace Go.Proofs.YtaagfepgbofmlaaGreat
open Go Vc
def Srt (l:List A8):Prop:=l.Pairwise (λa b=>pcmp a b < 0)
theorem Srt.nd {l:List A8} (h:Srt l):l.Nodup:=h.imp λq=>Zbq q
theorem Zff {α:Type} [Inhabited α] {l:List α} {q:Nat} (hq:q < l.length):l.getD q ZEu=l[q]:=by simp [ZE0,hq]
theorem Zot {α:Type} [Inhabited α] {l:List α} {x:α} (h:x∈l):∃ i,i < l.length∧l.getD i ZEu=x:=by
 obtain ⟨i,hi,rfl⟩:=ZE8 h;exact⟨i,hi,by simp [ZE0,hi]⟩
def dco (a:Alg) (f:List Term) (x:A8):Int:=tot (λt=>dT a.degrees (imgsT a) t.mono t.factor x) f % 10007
theorem ZDr (a:Alg) (f:List Term) (x:A8):0≤dco a f x∧dco a f x≤10006:=by unfold dco; omega
theorem ZDs {a:Alg} {f out:List Term} (h:IsD a.degrees (imgsT a) f out):coT out=dco a f:=funext λx=>by
 have A:=h.cf x;have B:=h.can.range x;unfold dco; omega
theorem ZDt {a:Alg} {f:List Term} {s out:List (A8×Int)} (hs:IsMap f s) (hc:Canon f) (h:IsDM a.degrees (imgsT a) s out):co out=dco a f:=funext λx=>by
 have A:=h.cf x;have B:=h.ok.range x;rw [Zlc hs hc (λb n=>dT a.degrees (imgsT a) b n x) (λb=>Zoc a.degrees (imgsT a) b x)] at A
 unfold dco; omega
theorem Zt0 {a:Alg} (ok:OkAlg a) (hf:Jk a) {n:Int} {y m:A8} (hm:m∈mons a.degrees n) (hn:n≤38) (h:DMono a.degrees (imgsT a) y m):y∈mons a.degrees (n+1):=by
 have hd:=ok.deg;have A:=hd.1;have ha:=ok.algF hf;have hl:=ok.len;obtain ⟨B,G,I⟩:=Zoq hd hm
 have smallI:∀ j u,u∈(imgsT a).getD j ZEu→OkMono a.degrees u.mono∧∀ i,i < 8→0≤u.mono.get i∧u.mono.get i≤20:=λj u hu=>by
  by_cases hj:j < a.images.length
  ·rw [Zgu a hj] at hu
   have:=(ok.frm j hj).mono hu;exact⟨this,Zjc (Zfc this) ((ha.fit j hj).pos u hu)⟩
  ·simp [imgsT,ZE0,hj] at hu; cases hu
 have homI:∀ j u,u∈(imgsT a).getD j ZEu→j < a.degrees.length→wtU a.degrees u.mono a.degrees.length=a.degrees.getD j ZEu+1:=λj u hu hj=>by
  rw [Zgu a (by omega)] at hu
  obtain ⟨q,hq,rfl⟩:=ZE8 hu;have:=ok.hom j (by omega) q hq
  rwa [Zff hq] at this
 obtain ⟨L,O⟩:=ZDk A B I smallI h;obtain ⟨j,u,hj,_,hu,ew⟩:=ZDj A B h;rw [homI j u hu hj,G] at ew
 exact Ztw hd L O (by rw [ew]; omega) (by omega)
structure InL (a:Alg) (n:Int) (f:List Term):Prop where
 can:Canon f
 mem:∀ t,t∈f→t.mono∈mons a.degrees n
theorem InL.len {a:Alg} {n:Int} {f:List Term} (h:InL a n f):f.length≤(mons a.degrees n).length:=by
 have hn:(f.map Term.mono).Nodup:=List.pairwise_map.2 (h.can.1.imp λq=>Zbq q)
 have:=hn.length_le_of_subset (l₂:=mons a.degrees n) (λx hx=>by obtain ⟨t,ht,rfl⟩:=ZE1.1 hx; exact h.mem t ht)
 rwa [Z08] at this
theorem InL.form {a:Alg} {n:Int} {f:List Term} (hd:OkDeg a.degrees) (hf:Fits a.degrees n) (h:InL a n f):OkForm a.degrees f∧FitT f :=
 ⟨Zx9 h.can (by have:=h.len; unfold Fits at hf; omega) λt ht=>(Zoq hd (h.mem t ht)).1,λt ht=>ZDh (Zoq hd (h.mem t ht)).2.2⟩
theorem Zt1 {a:Alg} {n:Int} {m:A8} (h:m∈mons a.degrees n):InL a n [⟨m,1⟩]:=⟨Zlh m,λt ht=>by obtain rfl:=ZFn.1 ht; exact h⟩
def Zcv (a:Alg) (n:Int) (f:List Term):List Int:=(mons a.degrees (n+1)).map (dco a f)
theorem ZDu (a:Alg) (n:Int) (f:List Term):RowOk (mons a.degrees (n+1)).length (Zcv a n f):=by
 refine⟨Z08 _,λj=>?_⟩
 by_cases hj:j < (mons a.degrees (n+1)).length
 ·have:vec (Zcv a n f) j=dco a f ((mons a.degrees (n+1)).getD j ZEu):=by simp [vec,Zcv,ZE0,hj]
  rw [this]; exact ZDr ..
 ·rw [Jd (by simp [Zcv]; omega)]; omega
theorem ZDv {a:Alg} {n:Int} {f:List Term} {K:List Int→Prop} (ok:OkAlg a) (hf:Jk a) (hn:0≤n∧n≤38) (B:Fits a.degrees n) (G:Fits a.degrees (n+1)) (h:InL a n f) (I:K (Zcv a n f)) :
  Zc7 a ⟨f⟩ (λr=>Zca r (mons a.degrees (n+1)) K):=by
 obtain ⟨L,O⟩:=h.form ok.deg B;refine Zoi (ok.algF hf) L O λout A _=>?_
 refine Zor A.can (Zoo ok.deg.1 _) (λt ht=>?_) (by unfold Fits at G; omega) ?_
 ·obtain ⟨s,hs,hm⟩:=A.mo t ht;exact Zt0 ok hf (h.mem s hs) hn.2 hm
 ·rw [ZDs A]; exact I
theorem ZDw {a:Alg} {n:Int} {f:List Term} {s:List (A8×Int)} {K:List Int→Prop} (ok:OkAlg a) (hf:Jk a) (hn:0≤n∧n≤38) (B:Fits a.degrees n) (G:Fits a.degrees (n+1)) (h:InL a n f) (hs:IsMap f s) (I:K (Zcv a n f)) :
  Zd4 a s (λr=>Zb9 ⟨mons a.degrees (n+1),plc (mons a.degrees (n+1)) (mons a.degrees (n+1)).length⟩ r K):=by
 obtain ⟨L,O⟩:=h.form ok.deg B;refine m_d (ok.algF hf) hs L O λout A=>?_
 refine Ztz (by unfold Fits at G; omega) (Srt.nd (Zoo ok.deg.1 _)) A.ok.1 (λp hp=>?_) ?_
 ·obtain ⟨t,ht,hm⟩:=A.mo p hp;obtain ⟨u,hu,eu⟩:=hs.ks t ht;exact Zt0 ok hf (eu ▸ h.mem u hu) hn.2 hm
 ·rw [ZDt hs h.can A]; exact I
end Go.Proofs.YtaagfepgbofmlaaGreat
namespace Vc
open Go
def par (ds:List Int) (j:Nat):Int:=ds.getD j ZEu % 2
def eA (j:Nat):A8:=A8.mkf λi=>if i=j then 1 else 0
def Zt2 (ds:List Int) (m:A8):Nat→Int
 | 0=>0
 | j+1=>Zt2 ds m j+par ds j * m.get j
def xs (ds:List Int) (j:Nat) (m:A8):Int:=if par ds j=1∧0 < m.get j then 0 else sg (par ds j * Zt2 ds m j)
def X (ds:List Int) (j:Nat) (F:A8→Int):A8→Int:=λm=>xs ds j m * F (m.add (eA j))
def Pos8 (m:A8):Prop:=∀ i,i < 8→0≤m.get i
def Xw (ds:List Int):List Nat→(A8→Int)→A8→Int
 | [],F=>F
 | j::w,F=>Xw ds w (X ds j F)
def par_w (ds:List Int):List Nat→Int
 | []=>0
 | j::w=>par ds j+par_w ds w
structure GdM (ds:List Int) (m:A8):Prop where
 pos:Pos8 m
 one:∀ i,i < 8→par ds i=1→m.get i≤1
end Vc
namespace Vc
open Go
def wdF (b:A8):Nat→Nat→List Nat
 | 0,_=>[]
 | r+1,i=>List.replicate (b.get i).toNat i++wdF b r (i+1)
def wordA (b:A8):List Nat:=wdF b 8 0
def Ph (ds:List Int) (imgs:List (List Term)) (i:Nat) (F:A8→Int):A8→Int:=λm=>tot (λu=>u.factor * Xw ds (wordA u.mono) F m) (imgs.getD i ZEu)
structure ImgOk (ds:List Int) (imgs:List (List Term)):Prop where
 odd:∀ i,i < 8→∀ u,u∈imgs.getD i ZEu→(par_w ds (wordA u.mono) - par ds i - 1) % 2=0
section
variable {ds:List Int} {imgs:List (List Term)}
def Dw (ds:List Int) (imgs:List (List Term)):List Nat→(A8→Int)→A8→Int
 | [],_,_=>0
 | j::w,F,m=>Xw ds w (Ph ds imgs j F) m+sg (par ds j) * Dw ds imgs w (X ds j F) m
structure Rel (ds:List Int) (imgs:List (List Term)) (c:Int) (w w':List Nat):Prop where
 x:∀ F m,GdM ds m→Xw ds w F m=c * Xw ds w' F m
 d:∀ F m,GdM ds m→Dw ds imgs w F m=c * Dw ds imgs w' F m
theorem Rel.cons {c:Int} {w w':List Nat} (h:Rel ds imgs c w w') (j:Nat):Rel ds imgs c (j::w) (j::w') :=
 ⟨λF m hm=>h.x _ m hm,λF m hm=>by
  simp only [Dw];rw [h.x _ m hm,h.d _ m hm,Int.mul_add]
  congr 1; exact Int.mul_left_comm _ _ _⟩
end
end Vc
namespace Vc
open Go
section
variable {ds:List Int} {imgs:List (List Term)}
end
end Vc
namespace Vc
open Go
section
variable {ds:List Int} {imgs:List (List Term)}
end
end Vc
namespace Vc
open Go
section
variable {ds:List Int}
open Classical in
end
end Vc
namespace Vc
open Go
section
variable {ds:List Int} {imgs:List (List Term)}
end
end Vc
namespace Vc
open Go
end Vc
namespace Go.Proofs.YtaagfepgbofmlaaGreat
open Go Vc
end Go.Proofs.YtaagfepgbofmlaaGreat
namespace Go.Proofs.YtaagfepgbofmlaaGreat
open Go Vc
def mx (a:Alg) (n:Int):List (List Int):=(mons a.degrees n).map λm=>Zcv a n [⟨m,1⟩]
theorem Zfg (a:Alg) (n:Int):(mx a n).length=(mons a.degrees n).length:=Z08 _
theorem Zbw (a:Alg) (n:Int):Jx (mons a.degrees (n+1)).length (mx a n):=λx hx=>by
 obtain ⟨m,_,rfl⟩:=ZE1.1 hx;exact ZDu ..
end Go.Proofs.YtaagfepgbofmlaaGreat
namespace Go.Proofs.YtaagfepgbofmlaaGreat
open Go Vc
theorem Zt3 {a:Alg} {p n:Int} (hd:OkDeg a.degrees) (hn:0≤n∧n≤40) (hf:Fits a.degrees n) {K:List A8→Prop} (h:K (J6 p (mons a.degrees n))):Zgm a p n K:=by
 unfold Zgm;rw [if_pos hn.1];have hf':(mons a.degrees n).length≤120:=hf;refine Zje hd (by omega) ?_
 rw [ZF0 (by omega)]
 refine Yu (λi s=>s=J6 p ((mons a.degrees n).take i)) (mons a.degrees n).length ?_ ?_ _ _ _ (by omega) rfl
 ·intro i s next hi hs hnx;refine Ztf (Zlm hd hi) ?_
  have hl:s.length≤120:=by
   rw [hs];have:=Ztn p ((mons a.degrees n).take i);rw [ZUe] at this
   omega
  by_cases q:p≤wdU ((mons a.degrees n).getD i ZEu) 8
  ·refine Yy q ⟨by unfold Z4; omega,hnx _ ?_⟩
   rw [hs,Ztm hi,if_pos q]
  ·refine Yw q (hnx _ ?_)
   rw [hs,Ztm hi,if_neg q]
 ·intro s hs; rw [hs,Z1g]; exact h
theorem Zfh {a:Alg} (ok:OkAlg a) (n:Int):Srt (mons a.degrees n):=Zoo ok.deg.1 n
theorem ZDx {p:Int} {l:List A8}:∀ m,m∈J6 p l→m∈l:=λm h=>(Z1e.1 h).1
def Zlo (a:Alg):Cx where
 LV:=mons a.degrees
 PL n:=plc (mons a.degrees n) (mons a.degrees n).length
 MX n:=(mons a.degrees n).map λm=>Zcv a n [⟨m,1⟩]
 CL _:=[]
 BD _:=[]
 KL _:=[]
theorem Zlp {a:Alg} (ok:OkAlg a) {n:Int} (hn:n≤40) (hf:Fits a.degrees n):Zd9 (Zlo a) a.degrees n :=
 Zll ok.deg hn (λ_=>⟨rfl,ZDn _⟩) (λno=>absurd hf no)
theorem ZDy (m:A8):IsMap [⟨m,1⟩] (Yo ([]:List (A8×Int)) m 1) :=
 ⟨Zoj m,λx=>rfl,λp hp=>by obtain rfl:=ZFn.1 hp; exact⟨_,List.mem_singleton_self _,rfl⟩⟩
theorem Zt4 {a:Alg} (ok:OkAlg a) (hf:Jk a) {n:Int} (hn:0≤n∧n≤38) (h:Fits a.degrees n) (A:Fits a.degrees (n+1)):Zin (Zlo a) a n:=by
 unfold Zin Zky;have e:ZHf.wrap (n+1)=n+1:=i64_in _ (by omega)
 rw [e];refine⟨Zlp ok (by omega) h,⟨Zlp ok (by omega) A,?_⟩,trivial⟩
 have hl:(mons a.degrees n).length≤120:=h;refine Yu (λi s=>s=((mons a.degrees n).take i).map λm=>Zcv a n [⟨m,1⟩]) (mons a.degrees n).length ?_ ?_ _ _ _ (Nat.zero_add _) rfl
 ·intro i s next hi hs hnx;refine ZDw ok hf hn h A (Zt1 (Yx hi)) (ZDy _) ⟨?_,hnx _ ?_⟩
  ·rw [hs,Z08,ZUe]; unfold Z4; omega
  ·rw [Xu hi,ZT6,hs]; rfl
 ·intro s hs; rw [hs,Z1g]; exact⟨rfl,trivial⟩
end Go.Proofs.YtaagfepgbofmlaaGreat
namespace Go.Proofs.YtaagfepgbofmlaaGreat
open Go Vc
noncomputable def Zbx (a:Alg) (n:Int):List (List Int):=Z2t (Zss (Zbw a n))
theorem Zou (a:Alg) (n:Int):IsKer (mons a.degrees (n+1)).length (mx a n) (Zbx a n):=Z49 (Zss (Zbw a n))
open Classical in
noncomputable def bdR (a:Alg) (n:Int):List (List Int):=if 0 < n then Z2t (Zcb (Zbw a (n - 1))) else []
theorem Zjf {a:Alg} {n:Int} (h:0 < n):IsRref (mons a.degrees n).length (mx a (n - 1)) (bdR a n):=by
 have:=(Z49 (Zcb (Zbw a (n - 1)))).1;rw [bdR,if_pos h];have e:n - 1+1=n:=by omega
 revert this
 generalize Z2t (Zcb (Zbw a (n - 1)))=B;intro this;rw [e] at this
 exact this
theorem Zjg {a:Alg} {n:Int} (h:¬ 0 < n):bdR a n=[]:=by rw [bdR,if_neg h]
theorem Zdi (a:Alg) (n:Int):Rref (mons a.degrees n).length (bdR a n):=by
 by_cases h:0 < n
 ·exact(Zjf h).red
 ·rw [Zjg h]; exact Rref.nil _
theorem Zt5 (a:Alg) (n:Int):Rref (mons a.degrees n).length (Zbx a n):=by
 obtain ⟨R,_,h⟩:=Zou a n;rw [Zfg] at h
 exact h.1
open Classical in
noncomputable def klR (a:Alg) (n:Int):List (List Int):=if h:∃ K,IsRref (mons a.degrees n).length (Zbf (mons a.degrees n).length (bdR a n) (Zbx a n)) K then Z2t h else []
theorem Zt6 (a:Alg) (n:Int):Jx (mons a.degrees n).length (Zbf (mons a.degrees n).length (bdR a n) (Zbx a n)):=λt ht=>by
 obtain ⟨z,_,h⟩:=(Zst (Zdi a n) λz hz=>((Zt5 a n).ok z hz).1).1 t ht
 exact h.ok
theorem ZDz (a:Alg) (n:Int):IsRref (mons a.degrees n).length (Zbf (mons a.degrees n).length (bdR a n) (Zbx a n)) (klR a n):=by
 obtain ⟨K,h,_⟩:=Zcb (Zt6 a n);have h':∃ K,IsRref (mons a.degrees n).length (Zbf (mons a.degrees n).length (bdR a n) (Zbx a n)) K:=⟨K,h⟩;rw [klR,dif_pos h'];exact Z49 h'
noncomputable def CxR (a:Alg):Cx:={ Zlo a with CL:=Zbx a,BD:=bdR a,KL:=klR a }
theorem Zt7 {a:Alg} (ok:OkAlg a) (hf:Jk a) {n:Int} (hn:0≤n∧n≤37) (G:0 < n→Fits a.degrees (n - 1)) (I:Fits a.degrees n) (O:Fits a.degrees (n+1)):Ziu (CxR a) a n:=by
 have l1:(mons a.degrees n).length≤120:=I;have l2:(mons a.degrees (n+1)).length≤120:=O;have e1:ZHf.wrap (n+1)=n+1:=i64_in _ (by omega)
 have e2:ZHf.wrap (n - 1)=n - 1:=i64_in _ (by omega)
 have kz:=Zt5 a n
 have kl:(Zbx a n).length≤120:=by
  obtain ⟨o,ho,_⟩:=Zcb (Zbw a n);have:=ZBo (Zbw a n) (Zou a n) ho;rw [Zfg] at this; omega
 have kb:(bdR a n).length≤1000:=by
  by_cases h:0 < n
  ·have l0:(mons a.degrees (n - 1)).length≤120:=G h;have r:=Zbw a (n - 1);have e:n - 1+1=n:=by omega
   rw [e] at r
   have:=Zn2 r (Zjf h);rw [Zfg] at this; omega
  ·rw [Zjg h]; simp
 have rok:=Zt6 a n;have rl:(Zbf (mons a.degrees n).length (bdR a n) (Zbx a n)).length=(Zbx a n).length:=Z08 _;unfold Ziu Zk1;rw [e1,e2];refine⟨Zt4 ok hf (by omega) I O,⟨Zlp ok (by omega) O,?_⟩,trivial⟩
 refine ZBg (m:=(mons a.degrees (n+1)).length) (rows:=mx a n) (Zbw a n) (by omega) (by rw [Zfg]; omega) λL hL hl=>⟨hL.unique (Zou a n),?_⟩
 have tail:Z9 (λV (A:(List (List Int))) U=>Zbs ((Zbx a n).getD V ZEu) (bdR a n) (λaa=>(Z4 (A.length+1) 24∧U (A++[aa])))) (λ(A:(List (List Int)))=>Za8 A (λB=>(B=klR a n∧True))) ((Zbx a n).length) 0 []:=by
  refine ZBr (K:=λA=>Za8 A (λB=>(B=klR a n∧True))) (Zdi a n) (λz hz=>(kz.ok z hz).1) (by omega) kb (by omega) ?_
  exact Zjb rok (by omega) (by omega) λout ho _=>⟨ho.unique (ZDz a n),trivial⟩
 by_cases h:n > 0
 ·refine Yy h ⟨Zt4 ok hf (by omega) (G h) (by rw [show n - 1+1=n by omega]; exact I),?_⟩
  have r:=Zbw a (n - 1);have e:n - 1+1=n:=by omega
  rw [e] at r
  have l0:(mons a.degrees (n - 1)).length≤120:=G h;exact Zjb (rows:=mx a (n - 1)) r (by omega) (by rw [Zfg]; omega) λout ho _=>⟨ho.unique (Zjf h),tail⟩
 ·exact Yw h ⟨Zjg h,tail⟩
end Go.Proofs.YtaagfepgbofmlaaGreat
namespace Go.Proofs.YtaagfepgbofmlaaGreat
open Go Vc
def InF (a:Alg) (p n:Int) (v:Vec):Prop:=∃ u,Sp (gens (bdR a n)) u∧∀ j,j < (mons a.degrees n).length→wdU ((mons a.degrees n).getD j ZEu) 8 < p→v j % 10007=u j % 10007
def Zby (p:Int) (l:List A8):List A8:=l.filter λm=>decide (wdU m 8 < p)
theorem belo_mem {q:Int} {l:List A8} {x:A8}:x∈Zby q l↔x∈l∧wdU x 8 < q:=by simp [Zby]
theorem Zt8 (q:Int) (l:List A8):(Zby q l).length≤l.length:=List.length_filter_le _ _
def Zcc (a:Alg) (p n:Int) (row:List Int):List Int:=(Zby p (mons a.degrees n)).map λm=>vec row ((mons a.degrees n).idxOf m)
def Zfi (a:Alg) (p n:Int) (k:Nat):Int:=if k < (Zby p (mons a.degrees n)).length then 1 else 0
def Zfj (a:Alg) (p n:Int) (k:Nat):Nat:=(mons a.degrees n).idxOf ((Zby p (mons a.degrees n)).getD k ZEu)
def Zbh (a:Alg) (p n:Int):List (List Int):=(J6 p (mons a.degrees n)).map λm=>(mons a.degrees n).map (coT [⟨m,1⟩])
section
variable {a:Alg} {p n:Int}
theorem InF.le {q:Int} {v:Vec} (hq:q≤p) (h:InF a p n v):InF a q n v:=by
 obtain ⟨u,A,B⟩:=h;exact⟨u,A,λj hj hw=>B j hj (by omega)⟩
theorem Zt9 (ok:OkAlg a) (hp:p≤0) (v:Vec):InF a p n v:=⟨_,Sp.nil _,λj hj hw=>by
 have:=(Zgv (Zlm ok.deg hj) 8 (ZEs _)).1;omega⟩
theorem Zua {u:Vec} (h:Sp (gens (bdR a n)) u) {j:Nat} (hj:(mons a.degrees n).length≤j):u j % 10007=0:=Zn5 (λv ⟨x,hx,e⟩=>by
 rw [e,Jd (by rw [((Zdi a n).ok x hx).1.len]; exact hj)]; rfl) h
theorem ZD0 {v:List Int} (hv:RowOk (mons a.degrees n).length v) (ht:∀ m,m∈mons a.degrees n→wdU m 8 < p) (h:InF a p n (vec v)):Sp (gens (bdR a n)) (vec v):=by
 obtain ⟨u,A,B⟩:=h;refine A.cong λj=>?_
 by_cases c:j < (mons a.degrees n).length
 ·exact B j c (ht _ (Yx c))
 ·rw [Zua A (by omega),Jd (by rw [hv.len]; omega)]; rfl
theorem ZD1 (p:Int):Jx (mons a.degrees n).length (Zbh a p n):=λx hx=>by
 obtain ⟨m,_,rfl⟩:=ZE1.1 hx;refine⟨Z08 _,λj=>?_⟩
 by_cases hj:j < (mons a.degrees n).length
 ·have:vec ((mons a.degrees n).map (coT [⟨m,1⟩])) j=coT [⟨m,1⟩] ((mons a.degrees n).getD j ZEu):=by simp [vec,ZE0,hj]
  rw [this,Zcl,Zex]; dsimp only; split <;> omega
 ·rw [Jd (by simp; omega)]; omega
theorem Zlq {m:A8} {j:Nat} (hj:j < (mons a.degrees n).length):vec ((mons a.degrees n).map (coT [⟨m,1⟩])) j=if m=(mons a.degrees n).getD j ZEu then 1 else 0:=by
 have:vec ((mons a.degrees n).map (coT [⟨m,1⟩])) j=coT [⟨m,1⟩] ((mons a.degrees n).getD j ZEu):=by simp [vec,ZE0,hj]
 rw [this,Zcl,Zex,Int.add_zero]
theorem ZD2 (ok:OkAlg a) {d:Vec} (h:∀ j,(mons a.degrees n).length≤j→d j % 10007=0) (A:∀ j,j < (mons a.degrees n).length→wdU ((mons a.degrees n).getD j ZEu) 8 < p→d j % 10007=0):Sp (gens (Zbh a p n)) d:=by
 refine(ZBs (u:=λk=>d ((mons a.degrees n).idxOf ((J6 p (mons a.degrees n)).getD k ZEu))) (Zbh a p n)).cong λj=>?_
 have hl:(Zbh a p n).length=(J6 p (mons a.degrees n)).length:=Z08 _;have hat:∀ k,k < (J6 p (mons a.degrees n)).length→at_ (Zbh a p n) k=(mons a.degrees n).map (coT [⟨(J6 p (mons a.degrees n)).getD k ZEu,1⟩]):=λk hk=>by simp [at_,Zbh,ZE0,hk]
 have nd:(J6 p (mons a.degrees n)).Nodup:=(Srt.nd (Zfh ok n)).sublist (List.filter_sublist ..);unfold wv;rw [hl];by_cases hj:j < (mons a.degrees n).length
 ·by_cases hw:wdU ((mons a.degrees n).getD j ZEu) 8 < p
  ·rw [A j hj hw]
   exact(Zgz λk hk=>by
    have hk:=List.mem_range.1 hk;have hm:decide (p≤wdU ((J6 p (mons a.degrees n)).getD k ZEu) 8)=true:=(Z1e.1 (Yx hk)).2;rw [decide_eq_true_eq] at hm
    rw [hat k hk,Zlq hj,if_neg (λe=>by rw [e] at hm; omega),Z1n]; rfl).symm
  ·obtain ⟨k,hk,ek⟩:=Zot (l:=J6 p (mons a.degrees n)) (x:=(mons a.degrees n).getD j ZEu) (Z1e.2 ⟨Yx hj,by rw [decide_eq_true_eq]; omega⟩)
   rw [ZBp hk λi hi ne=>by
    rw [hat i hi,Zlq hj,if_neg (λe=>ne ?_),Z1n]
    rw [← ek,Zff hi,Zff hk] at e
    exact(List.getElem_inj nd).1 e]
   rw [hat k hk,Zlq hj,if_pos ek,Int.mul_one];dsimp only;have:(mons a.degrees n).idxOf ((mons a.degrees n).getD j ZEu)=j:=by rw [Zff hj]; exact(Srt.nd (Zfh ok n)).idxOf_getElem j hj
   rw [ek,this]
 ·rw [h j (by omega)]
  exact(Zgz λk hk=>by
   rw [hat k (List.mem_range.1 hk),Jd (by simp; omega),Z1n]; rfl).symm
theorem ZD3 (ok:OkAlg a) {v:Vec} (hv:∀ j,(mons a.degrees n).length≤j→v j % 10007=0):Sp (gens (bdR a n++Zbh a p n)) v↔InF a p n v:=by
 constructor
 ·intro h;clear hv
  induction h with
  | zero z=>exact⟨_,Sp.nil _,λj _ _=>by rw [z]; rfl⟩
  | @add r v u k hr hv e ih =>
   obtain ⟨x,hx,rfl⟩:=hr;obtain ⟨y,A,B⟩:=ih;rcases ZEt.1 hx with q | q
   ·exact⟨λj=>y j+k * vec x j,Sp.sum k A (Xd q) λj=>rfl,λj hj hw=>by rw [e]; exact Zjk k (B j hj hw) rfl⟩
   ·refine⟨y,A,λj hj hw=>?_⟩
    obtain ⟨m,hm,rfl⟩:=ZE1.1 q;have hm:=(Z1e.1 hm).2;rw [decide_eq_true_eq] at hm
    rw [e,Zlq hj,if_neg (λe=>by rw [e] at hm; omega),Z1n,Int.add_zero]
    exact B j hj hw
 ·rintro ⟨u,A,B⟩;have G:Sp (gens (bdR a n++Zbh a p n)) u:=A.mono λr ⟨x,hx,e⟩=>.gen ⟨x,ZE7 _ hx,e⟩
  have L:Sp (gens (Zbh a p n)) (λj=>v j - u j):=ZD2 ok (λj hj=>by
   have:=hv j hj;have:=Zua A hj
   omega) λj hj hw=>by
    have:=B j hj hw;omega
  have I:Sp (gens (bdR a n++Zbh a p n)) (λj=>v j - u j):=L.mono λr ⟨x,hx,e⟩=>.gen ⟨x,ZE6 _ hx,e⟩
  exact Sp.sum 1 G I λj=>by rw [Z1y]; congr 1; omega
theorem Zjh (row:List Int) (k:Nat):vec (Zcc a p n row) k=Zfi a p n k * vec row (Zfj a p n k):=by
 unfold Zfi Zfj;by_cases c:k < (Zby p (mons a.degrees n)).length
 ·rw [if_pos c,Z1y]; simp [vec,Zcc,ZE0,c]
 ·rw [if_neg c,Z48,Jd (by simp [Zcc]; omega)]
theorem Zub {row:List Int} (h:RowOk (mons a.degrees n).length row):RowOk (Zby p (mons a.degrees n)).length (Zcc a p n row):=⟨Z08 _,λk=>by
 rw [Zjh]; unfold Zfi;split
 ·rw [Z1y]; exact h.rng _
 ·omega⟩
theorem Zuc (ok:OkAlg a) {v:List Int}:Sp (gens ((bdR a n).map (Zcc a p n))) (vec (Zcc a p n v))↔InF a p n (vec v):=by
 constructor
 ·intro h
  have key:∀ w,Sp (gens ((bdR a n).map (Zcc a p n))) w→∃ u,Sp (gens (bdR a n)) u∧∀ k,w k % 10007=(Zfi a p n k * u (Zfj a p n k)) % 10007:=λw hw=>by
   induction hw with
   | zero z=>exact⟨_,Sp.nil _,λk=>by rw [z]; simp⟩
   | @add r v u k hr hv e ih =>
    obtain ⟨x,hx,rfl⟩:=hr;obtain ⟨b,hb,rfl⟩:=ZE1.1 hx;obtain ⟨y,A,B⟩:=ih;refine⟨λj=>y j+k * vec b j,Sp.sum k A (Xd hb) λj=>rfl,λj=>?_⟩
    rw [e,Zjh,Zjk k (B j) rfl,Int.mul_add,Int.mul_left_comm]
  obtain ⟨u,A,B⟩:=key _ h;refine⟨u,A,λj hj hw=>?_⟩
  obtain ⟨k,hk,ek⟩:=Zot (belo_mem.2 ⟨Yx hj,hw⟩);have:=B k
  have ej:Zfj a p n k=j:=by
   unfold Zfj;rw [ek,Zff hj]; exact(Srt.nd (Zfh ok n)).idxOf_getElem j hj
  rw [Zjh,ej] at this
  unfold Zfi at this
  rw [if_pos hk,Z1y,Z1y] at this
  exact this
 ·rintro ⟨u,A,B⟩;refine(Zn6 (T:=gens ((bdR a n).map (Zcc a p n))) (Zfi a p n) (Zfj a p n) (λw ⟨b,hb,e⟩=>?_) A).cong λk=>?_
  ·rw [Zjh];unfold Zfi;split
   ·rename_i hk;obtain ⟨G,I⟩:=belo_mem.1 (Yx hk);rw [Z1y,Z1y];have hi:=List.idxOf_lt_length_of_mem G;refine B _ hi ?_
    unfold Zfj;rw [Zff hi,List.getElem_idxOf]; exact I
   ·rw [Z48,Z48]
  ·subst e;exact(Xd (ZE1.2 ⟨b,hb,rfl⟩)).cong λk=>by rw [Zjh]
end
theorem Zji {N:Nat} {B:List (List Int)} {v r:List Int} (A:Rref N B) (h:IsBy N B v r):(∀ j,vec r j=0)↔Sp (gens B) (vec v):=by
 constructor
 ·intro z;have:=h.df;exact this.cong λj=>by rw [z]; simp
 ·intro hv j;have hr:Sp (gens B) (vec r):=Sp.sum (-1) hv h.df λj=>by congr 1; omega
  have e:=A.comb hr j;rw [Zjm λz hz=>by rw [h.clr z hz,Z48]] at e
  rw [h.ok.mod] at e
  exact e
theorem ZD4 {N:Nat} {R R2:List (List Int)} {v:List Int} (A:Rref N R) (hv:RowOk N v) (h:IsRref N (R++[v]) R2):R2.length=R.length↔Sp (gens R) (vec v):=by
 constructor
 ·intro e;have sub:∀ x,x∈R→Sp (gens R2) (vec x):=λx hx=>(h.sp _).1 (Xd (ZE7 _ hx))
  have hr:=Zst A (λz hz=>(h.red.ok z hz).1)
  obtain ⟨K,B,_⟩:=Zcb (n:=N) (rows:=Zbf N R R2) λt ht=>by
   obtain ⟨z,_,hz⟩:=hr.1 t ht;exact hz.ok
  have qd:=ZBj h.red A sub hr.1 hr.2 B;have I:K=[]:=ZU8 (by omega)
  have all:∀ z,z∈R2→Sp (gens R) (vec z):=λz hz=>by
   obtain ⟨t,ht,hb⟩:=hr.2 z hz;refine(Zji A hb).1 λj=>?_
   have:=(B.sp _).1 (Xd ht);rw [I] at this
   have G:=Zn5 (q:=j) (λw ⟨x,hx,_⟩=>by cases hx) this
   rw [hb.ok.mod] at G
   exact G
  exact((h.sp _).1 (Xd (ZE6 _ (by simp)))).mono λw ⟨z,hz,e⟩=>e ▸ all z hz
 ·intro hs
  have:IsRref N (R++[v]) R:=⟨A,Zg0 (λx hx=>by
   rcases ZEt.1 hx with q | q
   ·exact Xd q
   ·rw [ZFn.1 q]; exact hs) λx hx=>Xd (ZE7 _ hx)⟩
  rw [h.unique this]
end Go.Proofs.YtaagfepgbofmlaaGreat
namespace Go.Proofs.YtaagfepgbofmlaaGreat
open Go Vc
theorem ZD5 {a:Alg} {n:Int} {K:List (List Int)→Prop} (ok:OkAlg a) (hf:Jk a) (hn:0≤n∧n≤38) (A:Fits a.degrees n) (B:Fits a.degrees (n+1)) (h:K (mx a n)):Zi1 a n K:=by
 have hd:=ok.deg;have I:(mons a.degrees n).length≤120:=A;have L:(mons a.degrees (n+1)).length≤120:=B;unfold Zi1;have G:ZHf.wrap (n+1)=n+1:=i64_in _ (by omega)
 rw [G];refine Zje hd (by omega) (Zje hd (by omega) ?_)
 rw [ZF0 (by omega),ZF0 (by omega)]
 refine Yu (λi s=>s=((mons a.degrees n).take i).map λm=>Zcv a n [⟨m,1⟩]) (mons a.degrees n).length ?_ ?_ _ _ _ (by omega) rfl
 ·intro i s next hi hs hnx;refine Zlg (ZDv ok hf hn A B (Zt1 (Yx hi)) ⟨?_,hnx _ ?_⟩)
  ·rw [hs,Z08,ZUe]; unfold Z4; omega
  ·rw [Xu hi,ZT6,hs]; rfl
 ·intro s hs; rw [hs,Z1g]; exact h
end Go.Proofs.YtaagfepgbofmlaaGreat
namespace Go.Proofs.YtaagfepgbofmlaaGreat
open Go Vc
def Zad (l:List A8):Int:=l.foldl (λs m=>if s < wdU m 8 then wdU m 8 else s) 0
theorem ZD6 {l:List A8} {i:Nat} (h:i < l.length):Zad (l.take (i+1))=if Zad (l.take i) < wdU (l.getD i ZEu) 8 then wdU (l.getD i ZEu) 8 else Zad (l.take i):=by
 rw [Xu h,Zad,List.foldl_append]; rfl
theorem ZD7 {r:List A8} (hp:∀ i,i < r.length→∀ j,j < 8→0≤(r.getD i ZEu).get j∧(r.getD i ZEu).get j≤255) {E:Int→Prop} (h:E (Zad r)) :
  Z9 (λi (s:Int) next=>Ze4 (r.getD i ZEu) (λA=>next (if s < A then A else s))) E r.length 0 0:=by
 refine Yu (λi s=>s=Zad (r.take i)) r.length ?_ ?_ _ _ _ (by omega) rfl
 ·intro i s next hi hs hn;refine Ztg (hp i hi) (hn _ ?_)
  rw [hs,ZD6 hi]
 ·intro s hs; rw [hs,Z1g]; exact h
theorem ZD8 {l:List A8} {c:Int} (h:∀ m,m∈l→wdU m 8≤c) (hc:0≤c):0≤Zad l∧Zad l≤c:=by
 have key:∀ (l:List A8) (s:Int),(∀ m,m∈l→wdU m 8≤c)→0≤s∧s≤c→0≤l.foldl (λs m=>if s < wdU m 8 then wdU m 8 else s) s∧l.foldl (λs m=>if s < wdU m 8 then wdU m 8 else s) s≤c:=by
  intro l
  induction l with
  | nil=>intro s _ hs; exact hs
  | cons m l ih =>
   intro s hl hs;refine ih _ (λx hx=>hl x (List.mem_cons_of_mem _ hx)) ?_
   have:=hl m List.mem_cons_self;dsimp only;split <;> omega
 exact key l 0 h ⟨Int.le_refl _,hc⟩
theorem Zud {a:Alg} (ok:OkAlg a) {n:Int}:0≤Zad (mons a.degrees n)∧Zad (mons a.degrees n)≤2040 :=
 ZD8 (λm hm=>by
  have:=(Zgv (m:=m) (λi hi=>by have:=Zlk ok.deg m hm i hi; omega) 8 (ZEs _)).2
  omega) (by omega)
theorem ZD9 {l:List A8}:∀ m,m∈l→wdU m 8≤Zad l:=by
 have mono:∀ (l:List A8) (s:Int),s≤l.foldl (λs m=>if s < wdU m 8 then wdU m 8 else s) s:=λl=>by
  induction l with
  | nil=>intro s; exact Int.le_refl _
  | cons m l ih =>
   intro s;refine Int.le_trans ?_ (ih _)
   dsimp only; split <;> omega
 have key:∀ (l:List A8) (s:Int),∀ m,m∈l→wdU m 8≤l.foldl (λs m=>if s < wdU m 8 then wdU m 8 else s) s:=λl=>by
  induction l with
  | nil=>intro s m h; cases h
  | cons x l ih =>
   intro s m h;rcases List.mem_cons.1 h with rfl | h
   ·refine Int.le_trans ?_ (mono l _)
    dsimp only; split <;> omega
   ·exact ih _ m h
 exact key l 0
theorem ZEa {a:Alg} {n:Int} {K:Int→Prop} (ok:OkAlg a) (hn:n≤40) (hf:Fits a.degrees n) (h:K (Zad (mons a.degrees n))):Zgq (Zlo a) a n K:=by
 unfold Zgq;exact⟨Zlp ok hn hf,ZD7 (λi hi=>Zlm ok.deg hi) h⟩
end Go.Proofs.YtaagfepgbofmlaaGreat
namespace Go.Proofs.YtaagfepgbofmlaaGreat
open Go Vc
section
variable {a:Alg} {n:Int}
theorem Zue {K:List (List Int)→Prop} (ok:OkAlg a) (hf:Jk a) (hn:0≤n∧n≤36) (A:Fits a.degrees (n - 1)) (B:Fits a.degrees n) (h:K (bdR a n)):Zgl a n K:=by
 have l0:(mons a.degrees (n - 1)).length≤120:=A;have I:(mons a.degrees n).length≤120:=B;unfold Zgl;by_cases c:n=0
 ·refine Yy c ?_
  have:=Zjg (a:=a) (n:=n) (by omega)
  rw [this] at h; exact h
 ·have e:n - 1+1=n:=by omega
  rw [i64_in (n - 1) (by omega)]
  refine Yw c (ZD5 ok hf (by omega) A (by rw [e]; exact B) ?_)
  have r:=Zbw a (n - 1);rw [e] at r
  refine Znx r (by omega) (by rw [Zfg]; omega) λO G _=>?_
  rw [G.unique (Zjf (by omega))]; exact h
theorem Zlr (A:Fits a.degrees (n - 1)):(bdR a n).length≤120:=by
 have l0:(mons a.degrees (n - 1)).length≤120:=A;by_cases h:0 < n
 ·have r:=Zbw a (n - 1);have e:n - 1+1=n:=by omega
  rw [e] at r
  have:=Zn2 r (Zjf h);rw [Zfg] at this; omega
 ·rw [Zjg h]; simp
def Xy (a:Alg) (n:Int) (f:List Term):List Int:=(mons a.degrees n).map (coT f)
theorem Zjj {f:List Term} (hc:Canon f):RowOk (mons a.degrees n).length (Xy a n f):=by
 refine⟨Z08 _,λj=>?_⟩
 by_cases hj:j < (mons a.degrees n).length
 ·have:vec (Xy a n f) j=coT f ((mons a.degrees n).getD j ZEu):=by simp [vec,Xy,ZE0,hj]
  rw [this]; exact hc.range _
 ·rw [Jd (by simp [Xy]; omega)]; omega
section
variable {f:List Term}
theorem Zuf {K:List Int→Prop} (ok:OkAlg a) (A:Fits a.degrees n) (h:InL a n f) (B:K (Xy a n f)):Zca ⟨f⟩ (mons a.degrees n) K :=
 Zor h.can (Zfh ok n) h.mem (by unfold Fits at A; omega) B
theorem Zug {s:List (A8×Int)} {K:List Int→Prop} (ok:OkAlg a) (A:Fits a.degrees n) (h:InL a n f) (hs:IsMap f s) (B:K (Xy a n f)):Zb9 ⟨mons a.degrees n,plc (mons a.degrees n) (mons a.degrees n).length⟩ s K:=by
 refine Ztz (by unfold Fits at A; omega) (Srt.nd (Zfh ok n)) hs.ok.1 (λp hp=>?_) ?_
 ·obtain ⟨t,ht,e⟩:=hs.ks p hp;rw [← e]; exact h.mem t ht
 ·have e:co s=coT f:=funext hs.cf;rw [e]; exact B
open Classical in
theorem ZEb {p:Int} {K:Bool→Prop} (ok:OkAlg a) (hf:Jk a) (hn:0≤n∧n≤20) (af:Zbg a.degrees n) (B:InL a n f) (L:InF a p n (vec (Xy a n f))→K true) (O:¬ InF a p n (vec (Xy a n f))→K false):Zgn a ⟨f⟩ p n K:=by
 obtain ⟨G,h,U⟩:=af;have hd:=ok.deg;have V:(mons a.degrees n).length≤120:=h;have lb:=Zlr (a:=a) (n:=n) G;have la:=Ztn p (mons a.degrees n);have ho:=Zjj (a:=a) (n:=n) B.can;unfold Zgn;refine Zt3 hd (by omega) h (Zt3 hd (by omega) h (Zue ok hf (by omega) G h ⟨by unfold Z4; omega,?_⟩))
 rw [ZC5 hd];refine Yu (λi (s:List (List Int))=>s=bdR a n++((J6 p (mons a.degrees n)).take i).map λm=>(mons a.degrees n).map (coT [⟨m,1⟩])) (J6 p (mons a.degrees n)).length ?_ ?_ _ _ _ (by omega) (by simp)
 ·intro i s next hi hs hnx
  refine Zlg (Zor (Zlh _) (Zfh ok n) (λt ht=>by
   obtain rfl:=ZFn.1 ht;exact ZDx _ (Yx hi)) (by omega) ⟨?_,hnx _ ?_⟩)
  ·rw [hs,ZFj,Z08,ZUe]; unfold Z4; omega
  ·rw [Xu hi,ZT6,hs,List.append_assoc]; rfl
 ·intro s hs;rw [Z1g] at hs
  have hs:s=bdR a n++Zbh a p n:=hs;subst hs;have ul:(Zbh a p n).length=(J6 p (mons a.degrees n)).length:=Z08 _
  have rk:Jx (mons a.degrees n).length (bdR a n++Zbh a p n):=λx hx=>by
   rcases ZEt.1 hx with q | q
   ·exact((Zdi a n).ok x q).1
   ·exact ZD1 p x q
  refine Znx rk (by omega) (by rw [ZFj]; omega) λR A hRl=>?_
  rw [ZFj] at hRl
  refine⟨by unfold Z4; omega,Zuf ok h B ⟨by unfold Z4; omega,?_⟩⟩
  have I:Jx (mons a.degrees n).length (R++[Xy a n f]):=λx hx=>by
   rcases ZEt.1 hx with q | q
   ·exact(A.red.ok x q).1
   ·rw [ZFn.1 q]; exact ho
  refine Znx I (by omega) (by rw [ZFj,List.length_singleton]; omega) λR2 hR2 _=>?_
  have key:(R2.length:Int)=(R.length:Int)↔InF a p n (vec (Xy a n f)):=by
   have:=ZD4 A.red ho hR2;rw [← A.sp,ZD3 ok (λj hj=>by rw [Jd (by rw [ho.len]; exact hj)]; rfl)] at this
   rw [← this]; omega
  by_cases c:InF a p n (vec (Xy a n f))
  ·rw [decide_eq_true (key.2 c)]; exact L c
  ·rw [decide_eq_false (λz=>c (key.1 z))]; exact O c
theorem Zuh {p:Int} {row:List Int} {K:List Int→Prop} (ok:OkAlg a) (A:Fits a.degrees n) (hr:row.length=(mons a.degrees n).length) (h:K (Zcc a p n row)):Zcs row ((mons a.degrees n).map λm=>decide (wdU m 8≥p)) K:=by
 have B:(mons a.degrees n).length≤120:=A;unfold Zcs;refine Yu (λi (s:List Int)=>s=(Zby p ((mons a.degrees n).take i)).map λm=>vec row ((mons a.degrees n).idxOf m)) (mons a.degrees n).length ?_ ?_ _ _ _ (by omega) rfl
 ·intro i s next hi hs hnx;refine⟨⟨by omega,by rw [Z08]; omega⟩,?_⟩
  have hb:((mons a.degrees n).map λm=>decide (wdU m 8≥p)).getD i ZEu=decide (wdU ((mons a.degrees n).getD i ZEu) 8≥p):=by simp [ZE0,hi]
  have hix:(mons a.degrees n).idxOf ((mons a.degrees n).getD i ZEu)=i:=by rw [Zff hi]; exact(Srt.nd (Zfh ok n)).idxOf_getElem i hi
  rw [hb];by_cases c:wdU ((mons a.degrees n).getD i ZEu) 8 < p
  ·refine Yy (by rw [decide_eq_true_eq]; omega) ⟨?_,hnx _ ?_⟩
   ·have:=Zt8 p ((mons a.degrees n).take i);rw [ZUe] at this
    rw [hs,Z08]; unfold Z4; omega
   ·rw [Xu hi,Zby,List.filter_append,ZT6,hs,List.filter_cons_of_pos (by simpa using c),List.filter_nil]
    simp only [List.map_cons,List.map_nil];rw [hix,Zaz]; rfl
  ·refine Yw (by rw [decide_eq_true_eq]; omega) (hnx _ ?_)
   rw [Xu hi,Zby,List.filter_append,List.filter_cons_of_neg (by simpa using c),List.filter_nil,List.append_nil]
   exact hs
 ·intro s hs; rw [hs,Z1g]; exact h
theorem ZEc {p:Int} {pl:List (A8×Int)} (hd:OkDeg a.degrees) (hf:Fits a.degrees n) {K:List Bool→Prop} (h:K ((mons a.degrees n).map λm=>decide (wdU m 8≥p))):Zgf ⟨mons a.degrees n,pl⟩ p K:=by
 unfold Zgf;dsimp only;have hl:(mons a.degrees n).length≤120:=hf;refine Yu (λi (s:List Bool)=>s=((mons a.degrees n).take i).map λm=>decide (wdU m 8≥p)) (mons a.degrees n).length ?_ ?_ _ _ _ (by omega) rfl
 ·intro i s next hi hs hn;refine Ztg (Zlm hd hi) ⟨?_,hn _ ?_⟩
  ·rw [hs,Z08,ZUe]; unfold Z4; omega
  ·rw [hs,Xu hi,ZT6]; rfl
 ·intro s hs; rw [hs,Z1g]; exact h
theorem Zui {N:Nat} {B:List (List Int)} {v r:List Int} {K:Bool→Prop} (A:Rref N B) (L:N≤1000) (h:IsBy N B v r) (G:Sp (gens B) (vec v)→K true) (I:¬ Sp (gens B) (vec v)→K false):Zcr r K :=
 Zsl (by rw [h.ok.len]; omega) (λz=>G ((Zji A h).1 z)) λz=>I λs=>Zdj z ((Zji A h).2 s _)
theorem ZEd {p:Int} {v:List Int} {s:List (A8×Int)} {K:Bool→Prop} (ok:OkAlg a) (f0:Fits a.degrees (n - 1)) (A:Fits a.degrees n) (G:InL a n f) (ff:FitT f) (h1:InF a p n (vec (Xy a n f))→K true) (h0:¬ InF a p n (vec (Xy a n f))→K false) :
  Z9 (λL (h:(List (List Int))) I=>Zcs ((bdR a n).getD L ZEu) ((mons a.degrees n).map λm=>decide (wdU m 8≥p)) (λO=>(Z4 (h.length+1) 24∧I (h++[O])))) (λ(h:(List (List Int)))=>Zbp ⟨f⟩ (λU=>Zb9 ⟨mons a.degrees n,plc (mons a.degrees n) (mons a.degrees n).length⟩ U (λV=>Zcs V ((mons a.degrees n).map λm=>decide (wdU m 8≥p)) (λaa=>Za8 h (λab=>Zbs aa ab (λac=>Zcr ac K)))))) ((bdR a n).length) 0 []:=by
 have l1:(mons a.degrees n).length≤120:=A;have lb:=Zlr (a:=a) (n:=n) f0;have bl:=Zt8 p (mons a.degrees n);have ho:=Zjj (a:=a) (n:=n) G.can;refine Yu (λi (s:List (List Int))=>s=((bdR a n).take i).map (Zcc a p n)) (bdR a n).length ?_ ?_ _ _ _ (by omega) rfl
 ·intro i s next hi hs hnx;refine Zuh ok A ((Zdi a n).ok _ (Yx hi)).1.len ⟨?_,hnx _ ?_⟩
  ·rw [hs,Z08,ZUe]; unfold Z4; omega
  ·rw [Xu hi,ZT6,hs]; rfl
 ·intro s hs;rw [Z1g] at hs
  subst hs;refine Zfb G.can ff λm hm=>Zug ok A G hm (Zuh ok A ho.len ?_)
  have rk:Jx (Zby p (mons a.degrees n)).length ((bdR a n).map (Zcc a p n)):=λx hx=>by
   obtain ⟨b,hb,rfl⟩:=ZE1.1 hx;exact Zub ((Zdi a n).ok b hb).1
  refine Zjb rk (by omega) (by rw [Z08]; omega) λQ B hql=>?_
  rw [Z08] at hql
  refine Zn9 B.red (by omega) (by omega) (Zub ho) λr hr=>Zui B.red (by omega) hr (λz=>h1 ?_) λz=>h0 λw=>z ?_
  ·exact(Zuc ok).1 ((B.sp _).2 z)
  ·exact(B.sp _).1 ((Zuc ok).2 w)
def FiltIs (a:Alg) (n:Int) (v:Vec) (p:Int):Prop:=0≤p∧InF a p n v∧¬ InF a (p+1) n v
theorem FiltIs.unique {v:Vec} {p q:Int} (h:FiltIs a n v p) (k:FiltIs a n v q):p=q:=by
 rcases Int.lt_trichotomy p q with c | c | c
 ·exact absurd (k.2.1.le (by omega)) h.2.2
 ·exact c
 ·exact absurd (h.2.1.le (by omega)) k.2.2
theorem Zov (ok:OkAlg a) (A:InL a n f) (nb:¬ Sp (gens (bdR a n)) (vec (Xy a n f))) {p:Int} (hp:Zad (mons a.degrees n) < p):¬ InF a p n (vec (Xy a n f)):=λh=>nb (ZD0 (Zjj A.can) (λm hm=>by have:=ZD9 m hm; omega) h)
theorem ZEe {K:Int→Int→Prop} (ok:OkAlg a) (hf:Jk a) (hn:0≤n∧n≤20) (af:Zbg a.degrees n) (B:InL a n f) (nb:¬ Sp (gens (bdR a n)) (vec (Xy a n f))) (h:∀ p,FiltIs a n (vec (Xy a n f)) p→K p 0) :
  Xt (λ(A:Int) G=>Zgn a ⟨f⟩ (ZHf.wrap (A+1)) n (λI=>(if I=true then G (ZHf.wrap (A+1)) else K A 0))) 0:=by
 have hw:=Zud ok (n:=n);refine Jg (λ(s:Int)=>0≤s∧s≤Zad (mons a.degrees n)∧InF a s n (vec (Xy a n f))) (λs=>(Zad (mons a.degrees n) - s).toNat) ?_ ⟨by omega,by omega,Zt9 ok (by omega) _⟩
 rintro s next ⟨L,U,O⟩ hnx;rw [i64_in (s+1) (by omega)]
 refine ZEb ok hf hn af B (λz=>Yy rfl (hnx _ ⟨by omega,?_,z⟩ ?_)) λz=>Yw (by decide) (h s ⟨L,O,z⟩)
 ·refine Int.not_lt.1 λc=>Zov ok B nb c z
 ·have:s+1≤Zad (mons a.degrees n):=Int.not_lt.1 λc=>Zov ok B nb c z
  omega
theorem ZEf {K:Int→Int→Prop} (ok:OkAlg a) (f0:Fits a.degrees (n - 1)) (U:Fits a.degrees n) (V:InL a n f) (ff:FitT f) (nb:¬ Sp (gens (bdR a n)) (vec (Xy a n f))) (h:∀ p,FiltIs a n (vec (Xy a n f)) p→K p 0) :
  Xt (λ(A:Int) L=>(if A > 0 then Zgf (⟨(CxR a).LV n,(CxR a).PL n⟩:Vc.Lvl) A (λI=>Z9 (λaa (B:(List (List Int))) O=>Zcs (((CxR a).BD n).getD aa ZEu) I (λab=>(Z4 (B.length+1) 24∧O (B++[ab])))) (λ(B:(List (List Int)))=>Zbp (⟨f⟩:Vc.Form) (λac=>Zb9 (⟨(CxR a).LV n,(CxR a).PL n⟩:Vc.Lvl) ac (λad=>Zcs ad I (λae=>Za8 B (λag=>Zbs ae ag (λah=>Zcr ah (λG=>(if G=true then K A 0 else L (ZHf.wrap (A - 1)))))))))) (((CxR a).BD n).length) 0 []) else K 0 0)) (Zad (mons a.degrees n)):=by
 have hw:=Zud ok (n:=n);refine Jg (λ(s:Int)=>0≤s∧s≤Zad (mons a.degrees n)∧¬ InF a (s+1) n (vec (Xy a n f))) (λs=>s.toNat) ?_ ⟨by omega,by omega,Zov ok V nb (by omega)⟩
 rintro s next ⟨g1,g2,g3⟩ hnx;by_cases c:s > 0
 ·refine Yy c (ZEc ok.deg U ?_)
  refine ZEd (p:=s) (v:=[]) (s:=[]) (K:=λG=>(if G=true then K s 0 else next (ZHf.wrap (s - 1)))) ok f0 U V ff (λz=>Yy rfl (h s ⟨g1,z,g3⟩)) λz=>Yw (by decide) ?_
  rw [i64_in (s - 1) (by omega)]
  exact hnx _ ⟨by omega,by omega,by rw [show s - 1+1=s by omega]; exact z⟩ (by omega)
 ·have e:s=0:=by omega
  subst e;exact Yw (by decide) (h 0 ⟨by omega,Zt9 ok (by omega) _,g3⟩)
end
end
end Go.Proofs.YtaagfepgbofmlaaGreat
namespace Go.Proofs.YtaagfepgbofmlaaGreat
open Go Vc
theorem ZEg {a:Alg} {f:List Term} {K:Int→Prop} (hf:Jk a) (ff:FitT f) (hl:f.length≤1048576) (A:OkAlg a→OkForm a.degrees f→K 0) (h:¬ (OkAlg a∧OkForm a.degrees f)→K 1):Ziw a ⟨f⟩ K:=by
 unfold Ziw;refine Ztd hf (λz=>?_) (λz=>?_)
 ·rw [if_neg (by simp)]
  refine Zq3 z.deg.1 ff.pos (by omega) ?_
  by_cases q:OkForm a.degrees f
  ·rw [decide_eq_true q,if_neg (by simp)]; exact A z q
  ·rw [decide_eq_false q,if_pos (by simp)]; exact h λy=>q y.2
 ·rw [if_pos (by simp)]
  exact h λy=>z y.1
def dg (a:Alg) (f:List Term):Int:=wtU a.degrees (f.getD 0 ZEu).mono a.degrees.length
def Zbz (a:Alg) (f:List Term):Prop:=Zfe a∧0 < f.length∧Hom a.degrees f (dg a f)∧∀ out,IsD a.degrees (imgsT a) f out→out=[]
open Classical in
def FiltRes (a:Alg) (f:List Term) (p c:Int):Prop :=
 if OkAlg a∧OkForm a.degrees f then(if Zbz a f then(if dg a f≤20 then(if Zbg a.degrees (dg a f) then(if Sp (gens (bdR a (dg a f))) (vec (Xy a (dg a f) f)) then p=0∧c=5 else FiltIs a (dg a f) (vec (Xy a (dg a f) f)) p∧c=0) else p=0∧c=3) else p=0∧c=2) else p=0∧c=5) else p=0∧c=1
theorem FiltRes.unique {a:Alg} {f:List Term} {p q c d:Int} (h:FiltRes a f p c) (k:FiltRes a f q d):p=q∧c=d:=by
 unfold FiltRes at h k
 by_cases c1:OkAlg a∧OkForm a.degrees f
 ·rw [if_pos c1] at h k
  by_cases c2:Zbz a f
  ·rw [if_pos c2] at h k
   by_cases c3:dg a f≤20
   ·rw [if_pos c3] at h k
    by_cases c4:Zbg a.degrees (dg a f)
    ·rw [if_pos c4] at h k
     by_cases c5:Sp (gens (bdR a (dg a f))) (vec (Xy a (dg a f) f))
     ·rw [if_pos c5] at h k; omega
     ·rw [if_neg c5] at h k; exact⟨h.1.unique k.1,h.2.trans k.2.symm⟩
    ·rw [if_neg c4] at h k; omega
   ·rw [if_neg c3] at h k; omega
  ·rw [if_neg c2] at h k; omega
 ·rw [if_neg c1] at h k; omega
section
variable {a:Alg} {f:List Term}
theorem fr1 (h:¬ (OkAlg a∧OkForm a.degrees f)):FiltRes a f 0 1:=by unfold FiltRes; rw [if_neg h]; exact⟨rfl,rfl⟩
theorem fr5 (h:OkAlg a∧OkForm a.degrees f) (k:¬ Zbz a f):FiltRes a f 0 5:=by unfold FiltRes; rw [if_pos h,if_neg k]; exact⟨rfl,rfl⟩
theorem fr2 (h:OkAlg a∧OkForm a.degrees f) (k:Zbz a f) (j:¬ dg a f≤20):FiltRes a f 0 2:=by unfold FiltRes; rw [if_pos h,if_pos k,if_neg j]; exact⟨rfl,rfl⟩
theorem fr3 (h:OkAlg a∧OkForm a.degrees f) (k:Zbz a f) (j:dg a f≤20) (l:¬ Zbg a.degrees (dg a f)):FiltRes a f 0 3:=by unfold FiltRes; rw [if_pos h,if_pos k,if_pos j,if_neg l]; exact⟨rfl,rfl⟩
theorem Zuj (h:OkAlg a∧OkForm a.degrees f) (k:Zbz a f) (j:dg a f≤20) (l:Zbg a.degrees (dg a f)) (b:Sp (gens (bdR a (dg a f))) (vec (Xy a (dg a f) f))):FiltRes a f 0 5:=by unfold FiltRes; rw [if_pos h,if_pos k,if_pos j,if_pos l,if_pos b]; exact⟨rfl,rfl⟩
theorem fr0 (h:OkAlg a∧OkForm a.degrees f) (k:Zbz a f) (j:dg a f≤20) (l:Zbg a.degrees (dg a f)) (b:¬ Sp (gens (bdR a (dg a f))) (vec (Xy a (dg a f) f))) {p:Int} (hp:FiltIs a (dg a f) (vec (Xy a (dg a f) f)) p):FiltRes a f p 0:=by unfold FiltRes; rw [if_pos h,if_pos k,if_pos j,if_pos l,if_neg b]; exact⟨hp,rfl⟩
theorem Zuk (ok:OkAlg a) (of:OkForm a.degrees f) (ff:FitT f) (hl:0 < f.length):0≤dg a f:=(Zfd ok.deg (ff.pos _ (Yx hl)) a.degrees.length (ZEs _)).1
theorem Zul (ok:OkAlg a) (of:OkForm a.degrees f) (ff:FitT f) (hh:Hom a.degrees f (dg a f)) (hn:dg a f≤20):InL a (dg a f) f:=⟨of.canon,λt ht=>by
 obtain ⟨i,hi,e⟩:=Zot ht;have:=hh i hi;rw [e] at this
 exact Ztw ok.deg (of.mono ht).wk (λq hq=>(ff.pos t ht q hq).1) this (by omega)⟩
theorem ZEh {n:Int} {K:Bool→Prop} (ok:OkAlg a) (hf:Jk a) (hn:0≤n∧n≤20) (af:Zbg a.degrees n) (A:InL a n f) (B:Sp (gens (bdR a n)) (vec (Xy a n f))→K true) (G:¬ Sp (gens (bdR a n)) (vec (Xy a n f))→K false):Zi2 a n ⟨f⟩ K:=by
 have I:(mons a.degrees n).length≤120:=af.2.1;have lb:=Zlr (a:=a) (n:=n) af.1;have ho:=Zjj (a:=a) (n:=n) A.can;have h:=Zdi a n;unfold Zi2;refine Zje ok.deg (by omega) ?_
 rw [ZF0 (by omega)]
 refine Zuf ok af.2.1 A (Zue ok hf (by omega) af.1 af.2.1 (Zsh h (by omega) (by omega) ho λr hr=>?_))
 refine Znv (by rw [hr.ok.len]; omega) (λz=>?_) (λz=>?_)
 ·rw [decide_eq_false (by omega)]
  exact G λs=>Zdj z ((Zji h hr).2 s _)
 ·rw [decide_eq_true (by omega)]
  exact B ((Zji h hr).1 z)
theorem ZEi {n:Int} {s:List (A8×Int)} {K:Bool→Prop} (ok:OkAlg a) (hf:Jk a) (hn:0≤n∧n≤20) (af:Zbg a.degrees n) (h:InL a n f) (hs:IsMap f s) (A:Sp (gens (bdR a n)) (vec (Xy a n f))→K true) (B:¬ Sp (gens (bdR a n)) (vec (Xy a n f))→K false):Zi8 (CxR a) a n s K:=by
 have G:(mons a.degrees n).length≤120:=af.2.1;have lb:=Zlr (a:=a) (n:=n) af.1;unfold Zi8;refine⟨Zt7 ok hf (by omega) (λ_=>af.1) af.2.1 af.2.2,Zug ok af.2.1 h hs ?_⟩
 exact Zn9 (Zdi a n) (by omega) (by show (bdR a n).length≤_; omega) (Zjj h.can) λr hr=>Zui (Zdi a n) (by omega) hr A B
theorem ZEj {K:Int→Int→Prop} (hf:Jk a) (ff:FitT f) (hl:f.length≤1048576) (h:∀ p c,FiltRes a f p c→K p c):Zi3 a ⟨f⟩ K:=by
 unfold Zi3;refine ZEg hf ff hl (λok of=>?_) (λno=>Yy (by decide) (h _ _ (fr1 no)))
 refine Yw (by decide) (Ztc ok.deg ff.pos (by omega) (λe=>?_) (λe hh=>?_) (λhno=>?_))
 ·have na:¬ Zbz a f:=λz=>by have:=z.2.1; omega
  refine Zom ok hf (λmi=>?_) (λno=>?_)
  ·exact Yw (by decide) (Yw (by decide) (Yy (by decide) (h _ _ (fr5 ⟨ok,of⟩ na))))
  ·exact Yy (by decide) (h _ _ (fr5 ⟨ok,of⟩ na))
 ·have hh:Hom a.degrees f (dg a f):=hh;have G:=Zuk ok of ff e;have ed:wtU a.degrees (f.getD 0 ZEu).mono a.degrees.length=dg a f:=rfl;refine Zom ok hf (λmi=>?_) (λno=>?_)
  ·refine Yw (by decide) (Yw (by decide) (Yw (by omega) ?_))
   refine Zoi (ok.algF hf) of ff λout ho _=>?_
   by_cases c:out=[]
   ·have ak:Zbz a f:=⟨mi,e,hh,λI B=>by rw [Zta B ho]; exact c⟩
    refine Yw (by rw [c]; simp) ?_
    show Zgi a (dg a f) _
    refine ZC2 hf ok (λno=>?_) (λhn no=>?_) (λhn af=>?_)
    ·exact Yy (by decide) (h _ _ (fr2 ⟨ok,of⟩ ak (by omega)))
    ·exact Yy (by decide) (h _ _ (fr3 ⟨ok,of⟩ ak hn.2 no))
    ·have A:=Zul ok of ff hh hn.2;refine Yw (by decide) (ZEh ok hf hn af A (λb=>?_) (λb=>?_))
     ·exact Yy rfl (h _ _ (Zuj ⟨ok,of⟩ ak hn.2 af b))
     ·exact Yw (by decide) (ZEe ok hf hn af A b λp hp=>h _ _ (fr0 ⟨ok,of⟩ ak hn.2 af b hp))
   ·refine Yy ?_ (h _ _ (fr5 ⟨ok,of⟩ λz=>c (z.2.2.2 out ho)))
    have:=List.length_pos_iff.2 c;dsimp only; omega
  ·exact Yy (by decide) (h _ _ (fr5 ⟨ok,of⟩ λz=>no z.1))
 ·have na:¬ Zbz a f:=λz=>hno _ z.2.2.1
  refine Zom ok hf (λmi=>?_) (λno=>?_)
  ·exact Yw (by decide) (Yy (by decide) (h _ _ (fr5 ⟨ok,of⟩ na)))
  ·exact Yy (by decide) (h _ _ (fr5 ⟨ok,of⟩ na))
theorem ZEk {K:Int→Int→Prop} (hf:Jk a) (ff:FitT f) (h:∀ p c,FiltRes a f p c→K p c):Zi9 a ⟨f⟩ K:=by
 unfold Zi9;refine Zto hf ff (λok of=>?_) (λno=>?_)
 ·refine Ztj hf (λno=>absurd ok no) (λ_ no=>?_) (λ_ mi=>?_)
  ·exact Zgw (Yy (by decide) (h _ _ (fr5 ⟨ok,of⟩ λz=>no z.1)))
  ·refine Zgw (Yw (by decide) (Zto hf ff (λ_ _=>?_) (λno=>absurd ⟨ok,of⟩ no)))
   refine Yw (by decide) (Ztb ok.deg ff (λe=>?_) (λe hh=>?_) (λhno=>?_))
   ·have na:¬ Zbz a f:=λz=>by have:=z.2.1; omega
    refine Yw (by decide) ?_
    unfold Zi7;refine Zfb of.canon ff λs hs=>m_d (ok.algF hf) hs of ff λout ho=>?_
    by_cases c:(out.length:Int)=0
    ·rw [decide_eq_true c];exact Yw (by decide) (Yy (by decide) (h _ _ (fr5 ⟨ok,of⟩ na)))
    ·rw [decide_eq_false c];exact Yy (by decide) (h _ _ (fr5 ⟨ok,of⟩ na))
   ·have hh:Hom a.degrees f (dg a f):=hh;have A:=Zuk ok of ff e;have ed:wtU a.degrees (f.getD 0 ZEu).mono a.degrees.length=dg a f:=rfl;refine Yw (by decide) ?_
    unfold Zi7;refine Zfb of.canon ff λs hs=>m_d (ok.algF hf) hs of ff λout ho=>?_
    have hc:=Zs9 hs of.canon ho;by_cases c:(out.length:Int)=0
    ·rw [decide_eq_true c];have ak:Zbz a f:=⟨mi,e,hh,hc.1 (ZU8 (by omega))⟩
     show (if¬ (true=true) then _ else if dg a f < 0 then _ else if dg a f > 20 then _ else _)
     refine Yw (by decide) (Yw (by omega) ?_)
     by_cases hn:dg a f≤20
     ·refine Yw (by omega) (ZC3 (ZC4 ok.deg ⟨A,hn⟩ (λno=>?_) (λaf=>?_)))
      ·exact h _ _ (fr3 ⟨ok,of⟩ ak hn no)
      ·have B:=Zul ok of ff hh hn;refine Zfb of.canon ff λs hs=>⟨CxR a,ZEi ok hf ⟨A,hn⟩ af B hs (λb=>?_) (λb=>?_)⟩
       ·exact Yy rfl (h _ _ (Zuj ⟨ok,of⟩ ak hn af b))
       ·refine Yw (by decide) ⟨Zt7 ok hf (by omega) (λ_=>af.1) af.2.1 af.2.2,?_⟩
        have hw:∀ K':Int→Prop,K' (Zad (mons a.degrees (dg a f)))→Zgq (CxR a) a (dg a f) K':=λK' G=>ZEa ok (by omega) af.2.1 G
        refine hw _ ?_
        exact ZEf ok af.1 af.2.1 B ff b λp hp=>h _ _ (fr0 ⟨ok,of⟩ ak hn af b hp)
     ·exact Yy (by omega) (h _ _ (fr2 ⟨ok,of⟩ ak hn))
    ·rw [decide_eq_false c];exact Yy (by decide) (h _ _ (fr5 ⟨ok,of⟩ λz=>c (by rw [hc.2 z.2.2.2]; rfl)))
   ·exact Yy (by decide) (h _ _ (fr5 ⟨ok,of⟩ λz=>hno _ z.2.2.1))
 ·refine Ztj hf (λ_=>?_) (λ_ _=>?_) (λ_ _=>?_)
  all_goals exact Zgw (Yy (by decide) (h _ _ (fr1 no)))
end
theorem ZEl (a:Alg) (G:Vc.Form) (hg:GoodAlg a) (gf:∀ t,t∈G.terms→Zas .u8 t.mono∧Fit .i64 t.factor) (hb:LenAlg a) (b1:G.terms.length < 9223372036854775808):Zk8 a G (λr=>r=true):=by
 obtain ⟨f⟩:=G;dsimp only at gf b1
 have I:FitT f:=λt ht=>(gf t ht).1
 unfold Zk8;refine ZC6 hb (λr hr U A B h=>?_) (λr hr=>by rw [if_pos hr])
 rw [if_neg (by omega)]
 refine Zs4 (by dsimp only; omega) (by omega) (λL=>?_) (λr hr=>by rw [if_pos hr])
 dsimp only at L
 rw [if_neg (by dsimp only; omega)]
 have lf:f.length≤1048576:=by omega
 have hf:=hg.fit h;refine Zol A B h (Zlf lf (ZEj hf I lf λp c V=>Zol A B h (Zlf lf (ZEk hf I λp' c' O=>?_))))
 obtain ⟨rfl,rfl⟩:=V.unique O;exact Zs6 (Zs6 (Zol A B h (ZCo (Zs5 (Zlf lf (ZB6 (Zs5 rfl)))))))
end Go.Proofs.YtaagfepgbofmlaaGreat
