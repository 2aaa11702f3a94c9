import Derived.Test.YtaagfepgbofmlaaGreatQ6
set_option linter.unusedSectionVars false
set_option linter.unusedSimpArgs false
set_option linter.unusedVariables false
open Classical renaming choose→ZRr,byContradiction→ZRv,choose_spec→ZU3
open Decidable renaming not_not→Zxc
open Go.IntKind renaming i64→Zwt,u8→ZCl
open Inhabited renaming default→Ci
open Int renaming mul_add→ZUj,mul_assoc→Fp,mul_comm→Zvy,one_mul→ZQb,mul_left_comm→ZUl,mul_emod→Ct,le_refl→ZUm,add_zero→ZP1,tmod→Fa,mul_zero→ZP5,zero_mul→ZQc,zero_add→F3,tmod_eq_emod_of_nonneg→ZFp,le_trans→ZUp,mul_le_mul_of_nonneg_right→ZUq,toNat_natCast→ZPx,mul_nonneg→ZUs,toNat_of_nonneg→ZFl,add_emod→Zwi,mul_one→ZUu,emod_emod→F4,ediv_nonneg→ZU0
open List renaming getD→Co,length_map→ZPv,mem_singleton→Fc,take_length→ZP0,length_take→ZJv,replicate→Cd,mem_map→Cp,range→C9,map_append→ZJn,mem_cons→Cb,getElem_of_mem→Cw,length_append→C8,cons_append→ZUr,ext_getElem→Zvx,take_of_length_le→Fs,replicate_succ→Zwg,length_cons→Zw3,mem_append→Ch,filter_cons_of_pos→ZQw,filter_cons_of_neg→ZQx,mem_cons_of_mem→ZJk,mem_range→Zvt,range_succ→ZUv,filter_append→ZUw,append_nil→ZJz,pairwise_cons→Cl,pairwise_iff_getElem→Cq,mem_filter→ZPz,length_singleton→ZUy,length_filter_le→ZU1,pairwise_map→ZP3,length_set→ZC4,nodup_cons→ZFj,mem_cons_self→ZJs,mem_append_right→Cu,pairwise_append→Zwk,mem_append_left→Cv,take_append_drop→Zya,mem_of_mem_drop→ZU9,idxOf_lt_length_of_mem→ZVe
open List.Pairwise renaming nil→ZGy
open Nat renaming le_refl→Cg,zero_add→Zwz,lt_of_not_le→ZUx
open Prod renaming fst→Fo
open Vc renaming Form→ZCb
open Vc.A8 renaming get_mkf→ZUh,zero→ZCe,get_add→ZUi,get_set→ZFn,ext_get→ZFo,mk→ZUk,get_zero→ZUn
open Vc.A8.mk renaming injEq→ZUo
namespace Go.Proofs.YtaagfepgbofmlaaGreat
open Go Vc
theorem Zrx {a b:Term} {K:Bool->Prop} (h:K (decide (a=b))):Kz a b K:=by
 unfold Kz;refine Zm7 ?_
 cases a with | mk m x=>cases b with | mk n y =>
 by_cases A:m=n
 ·by_cases B:x=y
  ·simpa [A,B] using h
  ·simpa [A,B] using h
 ·simpa [A] using h
theorem Zhu {α:Type} [DecidableEq α] [Inhabited α] {a b:List α} {K:Bool->Prop} {eq:α->α->(Bool->Prop)->Prop} (he:∀ x y K,K (decide (x=y))->eq x y K) (h:K (decide (a=b))) :
  (if(a.length:Int)≠(b.length:Int) then K false else Z1 (λi (s:Unit) next=>((0<=(i:Int)/\(i:Int) < (b.length:Int))/\eq (a.getD i Ci) (b.getD i Ci) (λr=>(if¬ (r=true) then K false else next ())))) (λ(s:Unit)=>K true) a.length 0 ()):=by
 split
 ·rename_i A;have:¬ a=b:=λe=>A (by rw [e])
  simpa [this] using h
 ·rename_i A;have hl:a.length=b.length:=by omega
  refine Yp (λi _=>∀ j,j < i->a.getD j Ci=b.getD j Ci) a.length ?_ ?_ _ _ _ (by omega) (by intro j hj; omega)
  ·intro i s next hi B hn;refine⟨by omega,he _ _ _ ?_⟩
   split
   ·rename_i A;have:¬ a=b:=λe=>A (by rw [e]; simp)
    simpa [this] using h
   ·rename_i A;refine hn _ λj hj=>?_
    by_cases hji:j=i
    ·subst hji; simpa only [decide_eq_true_eq,Zxc] using A
    ·exact B j (by omega)
  ·intro s B
   have:a=b:=by
    apply Zvx hl;intro i A I;have:=B i A;simpa [Co,A,I] using this
   simpa [this] using h
theorem Zry {a b:List Term} {K:Bool->Prop} (h:K (decide (a=b))):Ev a b K:=Zhu (λ_ _ _ h=>Zrx h) h
theorem Zrz {a b:ZCb} {K:Bool->Prop} (h:K (decide (a=b))):K3 a b K:=by
 unfold K3;refine Zry ?_
 cases a with | mk s=>cases b with | mk t =>
 by_cases A:s=t
 ·simpa [A] using h
 ·simpa [A] using h
theorem Zr0 {a b:List ZCb} {K:Bool->Prop} (h:K (decide (a=b))):Ew a b K:=Zhu (λ_ _ _ h=>Zrz h) h
theorem Zr1 {a b:Alg} {K:Bool->Prop} (h:K (decide (a=b))):Mt a b K:=by
 unfold Mt;refine Zm8 ?_
 cases a with | mk s t=>cases b with | mk u v =>
 dsimp only;by_cases A:s=u
 ·simp only [A,decide_true,not_true_eq_false,if_false];refine Zr0 ?_
  by_cases B:t=v
  ·simpa [A,B] using h
  ·simpa [B] using h
 ·simpa [A] using h
theorem Zc3 {α:Type} [Inhabited α] {xs:List α} {i j:Nat} {x:α} (hi:i < xs.length):(xs.set i x).getD j Ci=if j=i then x else xs.getD j Ci:=by
 by_cases h:j=i
 ·subst h; simp [Co,hi]
 ·simp [Co,List.getElem?_set_ne (λe=>h e.symm),h]
theorem Zr2 {t:Term} {K:Term->Prop} (h:K t):Kw t K:=by
 unfold Kw;exact Zm5 h
theorem Zr3 {l:List Term} {K:List Term->Prop} (hl:l.length<=1048576) (h:K l):Kx l K:=by
 unfold Kx;refine⟨by omega,?_⟩
 refine Yp (λi (s:List Term)=>s.length=l.length/\∀ j,j < i->s.getD j Ci=l.getD j Ci) l.length ?_ ?_ _ _ _ (by omega) ⟨by simp,by intro j hj; omega⟩
 ·intro i s next hi ⟨A,B⟩ hn;refine Zr2 ⟨by omega,hn _ ⟨by simpa using A,λj hj=>?_⟩⟩
  rw [Zc3 (by omega)]
  by_cases e:j=i
  ·rw [if_pos e,e]
  ·rw [if_neg e]; exact B j (by omega)
 ·intro s ⟨A,B⟩;have:s=l:=Zvx A λj hj hj'=>by have:=B j (by omega); simpa [Co,hj,hj'] using this
  rw [this]; exact h
theorem Zr4 {f:ZCb} {K:ZCb->Prop} (hl:f.terms.length<=1048576) (h:K f):Ky f K:=by
 unfold Ky;exact Zr3 hl h
theorem Zr5 {f:ZCb} {n:Int} {K:Int->Prop} (hl:(f.terms.length:Int)<=9223372036854775807) (hn:0<=n/\n<=1048576) (h:(f.terms.length:Int)<=n->K (n - f.terms.length)) (A:∀ r,r < 0->K r):Ms f n K:=by
 unfold Ms E4;rw [i64_in _ (by omega)]
 split
 ·exact A _ (by omega)
 ·dsimp only;rw [if_neg (by assumption)]
  exact h (by omega)
theorem S5 {ds:List Int} {a:A8} (h:OkMono ds a):Low a:=λi hi=>by
 by_cases hl:i < ds.length
 ·exact((h i hi).1 hl).1
 ·rw [(h i hi).2 (by omega)]; omega
theorem Gh {b:Bool} {c:Int} {K:Int->Prop} (h:K (if b=true then c else 0)):T4 b c K:=by
 unfold T4;split
 ·rename_i q; rwa [if_pos q] at h
 ·rename_i q; rwa [if_neg q] at h
theorem Zr6 {A B:Prop} (h:B):if¬ (true=true) then A else B:=by simpa using h
theorem Zhv {c:Int} {A B:Prop} (h:B):if c≠c then A else B:=by simpa using h
def imgsT (a:Alg):List (List Term):=a.images.map Vc.Form.terms
theorem S6 (a:Alg) {i:Nat} (h:i < a.images.length):(imgsT a).getD i Ci=(a.images.getD i Ci).terms:=by
 simp [imgsT,Co,h]
structure AlgF (a:Alg):Prop where
 deg:OkDeg a.degrees
 len:a.images.length=a.degrees.length
 frm:∀ i,i < a.images.length->OkForm a.degrees (a.images.getD i Ci).terms
 fit:∀ i,i < a.images.length->FitT (a.images.getD i Ci).terms
theorem Ba {m:A8} {K:ZCb->Prop} (h:K ⟨[⟨m,1⟩]⟩):Wh m 1 K:=by
 unfold Wh;refine T8 ?_
 rw [if_neg (by decide)]
 exact T8 h
theorem Lg {ds:List Int} {m:A8} (hd:OkDeg ds) (hm:∀ i,i < 8->0<=m.get i/\m.get i<=255):∀ k,k<=ds.length->0<=wtU ds m k/\wtU ds m k<=3060 * k:=by
 intro k
 induction k with
 | zero=>intro _; simp [wtU]
 | succ k ih =>
  intro hk;have h:=ih (by omega)
  have A:=hd.2 k (by omega)
  have B:=hm k (by have:=hd.1; omega)
  have I:0<=ds.getD k Ci * m.get k:=ZUs (by omega) B.1
  have L:ds.getD k Ci * m.get k<=12 * 255:=Int.mul_le_mul A.2 B.2 B.1 (by omega)
  simp only [wtU];omega
theorem Zhw {ds:List Int} {m:A8} (hd:OkDeg ds) (hm:∀ i,i < 8->0<=m.get i/\m.get i<=255) {k:Nat} (hk:k < ds.length):0<=ds.getD k Ci * m.get k/\ds.getD k Ci * m.get k<=3060:=by
 have h:=hd.2 k hk;have A:=hm k (by have:=hd.1; omega)
 exact⟨ZUs (by omega) A.1,Int.mul_le_mul h.2 A.2 A.1 (by omega)⟩
theorem Zc4 {ds:List Int} {m:A8} {K:Int->Prop} (hd:OkDeg ds) (hm:∀ i,i < 8->0<=m.get i/\m.get i<=255) (h:K (wtU ds m ds.length)):Sr ds m K:=by
 unfold Sr;have A:=hd.1;refine Yp (λi (s:Int)=>s=wtU ds m i) ds.length ?_ ?_ _ _ _ (by omega) rfl
 ·intro i s next hi hs hn;have B:=hm i (by omega)
  have I:=Zhw hd hm hi;have L:=Lg hd hm i (by omega)
  refine⟨by omega,?_⟩
  rw [i64_in (m.get i) (by omega),i64_in (ds.getD i Ci * m.get i) (by omega),i64_in _ (by omega)]
  exact hn _ (by simp only [wtU]; rw [hs])
 ·intro s hs; rw [hs]; exact h
theorem Zr7 {ds:List Int} {m:A8} {K:Int->Prop} (hd:OkDeg ds) (hm:∀ i,i < 8->0<=m.get i/\m.get i<=255) (h:K (wtU ds m ds.length)):Ko m ds K:=by
 unfold Ko;have A:=hd.1;refine Yp (λi (s:Int)=>s=wtU ds m i) ds.length ?_ ?_ _ _ _ (by omega) rfl
 ·intro i s next hi hs hn;have B:=Zhw hd hm hi;have I:=Lg hd hm i (by omega)
  refine⟨by omega,?_⟩
  rw [i64_in (ds.getD i Ci * m.get i) (by omega),i64_in _ (by omega)]
  exact hn _ (by simp only [wtU]; rw [hs])
 ·intro s hs; rw [hs]; exact h
theorem Zr8 {ds:List Int} {m:A8} {i:Nat} (A:ds.length<=8):∀ k,k<=ds.length->wtU ds (Jh m i) k=wtU ds m (min i k):=by
 intro k
 induction k with
 | zero=>intro _; simp [wtU]
 | succ k ih =>
  intro hk;simp only [wtU];rw [ih (by omega),Jh,ZUh _ (by omega)]
  by_cases h:k < i
  ·rw [if_pos h,show min i (k+1)=k+1 by omega,show min i k=k by omega]
   simp only [wtU]
  ·rw [if_neg h,show min i (k+1)=i by omega,show min i k=i by omega]
   simp
theorem Zc5 (m:A8):Canon [⟨m,1⟩]:=⟨by simp,by intro t ht; obtain rfl:=Fc.1 ht; simp⟩
theorem Zr9 {l g:List Term} {m:A8} (h:l.length<=([⟨m,1⟩]:List Term).length * g.length):l.length<=g.length:=by simpa using h
theorem Lh {a:A8} (h:Low a) (p:∀ i,i < 8->0<=a.get i/\a.get i<=255):∀ i,i < 8->0<=a.get i/\a.get i<=20:=λi hi=>⟨(p i hi).1,h i hi⟩
theorem Zc6 {m:A8} {i:Nat} (hm:∀ i,i < 8->0<=m.get i/\m.get i<=20) (hp:0 < m.get i):(∀ j,j < 8->0<=(leftA m i).get j/\(leftA m i).get j<=20)/\(∀ j,j < 8->0<=(backA m i).get j/\(backA m i).get j<=20)/\∀ j,j < 8->(leftA m i).get j+(backA m i).get j<=20:=by
 refine⟨λj hj=>?_,λj hj=>?_,λj hj=>?_⟩
 ·rw [leftA,ZUh _ hj];have:=hm j hj;split
  ·exact this
  ·split
   ·rename_i e; subst e; omega
   ·omega
 ·rw [backA,ZUh _ hj];have:=hm j hj;split <;> omega
 ·rw [leftA,backA,ZUh _ hj,ZUh _ hj];have:=hm j hj;split
  ·rw [if_neg (by omega)]; omega
  ·split
   ·rename_i e; subst e; rw [if_neg (by omega)]; omega
   ·split <;> omega
theorem Zhx (ds:List Int) (m:A8) (n:Int) (i:Nat):0<=dK ds m n i/\dK ds m n i<=10006:=by unfold dK; omega
theorem Zsa {w:Int} (hw:0<=w):(Fa w 2≠0/\sg w=-1)\/(¬ Fa w 2≠0/\sg w=1):=by
 rw [ZFp hw];unfold sg;by_cases h:w % 2=0
 ·right; rw [if_pos h]; exact⟨by omega,rfl⟩
 ·left; rw [if_neg h]; exact⟨h,rfl⟩
structure StepD (ds:List Int) (imgs:List (List Term)) (m:A8) (n:Int) (i:Nat) (out out':List Term):Prop where
 can:Canon out'
 cf:∀ x,coT out' x % 10007=(coT out x+dK ds m n i * triC ds (leftA m i) (backA m i) (imgs.getD i Ci) x) % 10007
 mo:∀ y,y∈out'->(∃ z,z∈out/\z.mono=y.mono)\/DMono ds imgs y.mono m
 ln:out'.length<=out.length+400
theorem Zsb {a:Alg} {K:ZCb->Prop} {m:A8} {n v:Int} {i:Nat} {out:List Term} (ha:AlgF a) (hi:i < a.images.length) (hm:OkMono a.degrees m) (pm:∀ i,i < 8->0<=m.get i/\m.get i<=255) (hp:0 < m.get i) (hc:Canon out) (hl:out.length<=50000000) (hv:v % 10007=dK a.degrees m n i)
  (h:∀ out',StepD a.degrees (imgsT a) m n i out out'->K ⟨out'⟩) :
  Wh (leftA m i) 1 (λr=>Ww a.degrees r (a.images.getD i Ci) (λr'=>Wh (backA m i) 1 (λU=>Ww a.degrees r' U (λV=>Jk v (λk=>V3 ⟨out⟩ V k K))))):=by
 have hd:=ha.deg;have B:i < 8:=by have:=hd.1; have:=ha.len; omega
 have hf:=ha.frm i hi;have ff:=ha.fit i hi;have I:=Lh (S5 hm) pm;obtain ⟨lb,bb,lbb⟩:=Zc6 I hp;obtain ⟨wl,wb⟩:=Zc0 hm B hp;refine Ba ?_
 have hL:(⟨(a.images.getD i Ci).terms⟩:ZCb)=a.images.getD i Ci:=rfl;rw [<- hL]
 refine Zf2 hd (Zc5 _) (λu hu=>by obtain rfl:=Fc.1 hu; exact wl) (λu hu q hq=>by obtain rfl:=Fc.1 hu; have:=lb q hq; dsimp only; omega) hf.canon (λu hu=>(hf.mono hu).wk) ff.pos (by simp) (by have:=hf.1; omega) λown ho=>?_
 refine Ba ?_
 have hown:∀ u,u∈own->∃ z,z∈(a.images.getD i Ci).terms/\u.mono=(leftA m i).add z.mono/\¬ Clash a.degrees (leftA m i) z.mono/\(∀ q,q < 8->0<=z.mono.get q/\z.mono.get q<=20):=λu hu=>by
  obtain ⟨t,z,ht,hz,e,hcl⟩:=ho.mo u hu;obtain rfl:=Fc.1 ht;exact⟨z,hz,e,hcl,Lh (S5 (hf.mono hz)) (ff.pos z hz)⟩
 have wown:∀ u,u∈own->Jr a.degrees u.mono/\∀ q,q < 8->0<=u.mono.get q/\u.mono.get q<=40:=λu hu=>by
  obtain ⟨z,hz,e,hcl,A⟩:=hown u hu;rw [e];refine⟨D9 wl (hf.mono hz).wk (λq hq=>(lb q hq).1) (λq hq=>(A q hq).1) (λq hq=>by have:=lb q hq; have:=A q hq; omega) hcl,λq hq=>?_⟩
  rw [ZUi];have:=lb q hq;have:=A q hq;omega
 have lo:=Zr9 ho.ln;refine Zf2 hd ho.can (λu hu=>(wown u hu).1) (λu hu q hq=>by have:=(wown u hu).2 q hq; omega) (Zc5 _) (λu hu=>by obtain rfl:=Fc.1 hu; exact wb) (λu hu q hq=>by obtain rfl:=Fc.1 hu; have:=bb q hq; dsimp only; omega) (by have:=hf.1; omega) (by simp) λprod hpr=>?_
 have lp:prod.length<=400:=by have h1:=hpr.ln; have:=hf.1; simp at h1; omega
 refine T8 ?_
 rw [hv];refine Zf1 hc hpr.can (Zhx _ _ _ _) (by omega) (by omega) λout' hout=>h out' ⟨hout.can,λx=>?_,λy hy=>?_,by have:=hout.ln; omega⟩
 ·rw [hout.cf];have e1:=Zhs (ds:=a.degrees) (l:=leftA m i) (b:=backA m i) (img:=(a.images.getD i Ci).terms) (own:=own) (prod:=prod) (λy=>by rw [ho.cf]; simp [prC,tot]) (λx=>hpr.cf x) x
  rw [S6 a hi,Zwi,Ct,e1,<- Ct,<- Zwi]
 ·obtain ⟨z,hz,e⟩:=hout.mo y hy;rcases hz with hz | hz
  ·exact .inl ⟨z,hz,e⟩
  ·obtain ⟨t,b,ht,hb,e2,L⟩:=hpr.mo z hz;obtain rfl:=Fc.1 hb;obtain ⟨u,hu,O,hcl,_⟩:=hown t ht;refine .inr ⟨i,u,B,hp,by rw [S6 a hi]; exact hu,by rw [<- e,e2,O],hcl,?_⟩
   rw [<- O]; exact L
theorem Zhy {a:Alg} {f:List Term} {K:ZCb->Prop} (ha:AlgF a) (hf:OkForm a.degrees f) (ff:FitT f) (h:∀ out,IsD a.degrees (imgsT a) f out->out.length<=1280000->K ⟨out⟩):Uy a ⟨f⟩ K:=by
 have hd:=ha.deg;have h8:=hd.1;have hlen:=ha.len;have ab:=hf.1;unfold Uy;dsimp only;refine Jj (λ(s:List Term×Int)=>0<=s.2/\s.2<=f.length/\IsD a.degrees (imgsT a) (f.take s.2.toNat) s.1/\s.1.length<=3200 * s.2.toNat) (λs=>f.length - s.2.toNat) ?_ ⟨ZUm _,by dsimp only; omega,⟨Canon.nil,by intro x; rfl,by intro y hy; cases hy⟩,by simp⟩
 rintro ⟨L,k⟩ next ⟨h1,h2,A,hL⟩ hn;dsimp only at h1 h2 A hL hn ⊢
 split
 ·rename_i hk;have kn:k.toNat < f.length:=by omega
  refine⟨by omega,?_⟩
  have tm:=Yw kn;have hm:=hf.mono tm;have pm:=ff.pos _ tm;have hfac:=hf.canon.at_range kn;generalize hgm:(f.getD k.toNat Ci).mono=m at hm pm ⊢
  generalize hgn:(f.getD k.toNat Ci).factor=n at hfac ⊢
  have nk:(k+1).toNat=k.toNat+1:=by omega
  have aa:Zwt.wrap (k+1)=k+1:=i64_in _ (by omega)
  refine Jj (λ(s:List Term×Int)=>0<=s.2/\s.2<=a.degrees.length/\Canon s.1/\(∀ x,(coT s.1 x+dS a.degrees (imgsT a) m n x (8 - s.2.toNat) s.2.toNat) % 10007=(tot (λt=>dT a.degrees (imgsT a) t.mono t.factor x) (f.take k.toNat)+dT a.degrees (imgsT a) m n x) % 10007)/\(∀ y,y∈s.1->∃ t,t∈f.take (k.toNat+1)/\DMono a.degrees (imgsT a) y.mono t.mono)/\s.1.length<=3200 * k.toNat+400 * s.2.toNat)
   (λs=>a.degrees.length - s.2.toNat) ?_ ⟨ZUm _,by dsimp only; omega,A.can,λx=>?_,λy hy=>?_,by dsimp only; omega⟩
  ·rintro ⟨out,i⟩ next' ⟨g1,g2,gc,gf,gm,gl⟩ hn';dsimp only at g1 g2 gc gf gm gl hn' ⊢
   have ni:(i+1).toNat=i.toNat+1:=by omega
   have wi:Zwt.wrap (i+1)=i+1:=i64_in _ (by omega)
   rw [wi,aa];split
   ·rename_i hi;have hin:i.toNat < a.degrees.length:=by omega
    have B:i.toNat < 8:=by omega
    have pmi:=pm i.toNat B
    have hdS:∀ x,dS a.degrees (imgsT a) m n x (8 - i.toNat) i.toNat=(if m.get i.toNat > 0 then dK a.degrees m n i.toNat * triC a.degrees (leftA m i.toNat) (backA m i.toNat) ((imgsT a).getD i.toNat Ci) x else 0)+dS a.degrees (imgsT a) m n x (8 - (i.toNat+1)) (i.toNat+1):=λx=>by
     rw [show 8 - i.toNat=(8 - (i.toNat+1))+1 by omega]; rfl
    refine⟨by omega,?_⟩
    split
    ·rename_i he;refine hn' _ ⟨by dsimp only; omega,by dsimp only; omega,gc,λx=>?_,gm,by dsimp only; omega⟩ (by dsimp only; omega)
     dsimp only;rw [ni];have:=gf x;rw [hdS,if_neg (by omega),F3] at this
     exact this
    ·rename_i he;have hp:0 < m.get i.toNat:=by omega
     refine Yp (λj (s:A8×A8)=>∀ q,q < 8->(s.1.get q=if q < j/\i.toNat<=q then 0 else m.get q)/\(s.2.get q=if q < j/\q<=i.toNat then 0 else m.get q)) 8 ?_ ?_ _ _ _ (by omega) (λq hq=>⟨by rw [if_neg (by omega)],by rw [if_neg (by omega)]⟩)
     ·rintro j ⟨s1,s2⟩ nx hj hs hnx;dsimp only at hs ⊢
      have fin:∀ t1 t2:A8,(∀ q,q < 8->t1.get q=if q=j/\i.toNat<=j then 0 else s1.get q)->(∀ q,q < 8->t2.get q=if q=j/\j<=i.toNat then 0 else s2.get q)->nx (t1,t2):=λt1 t2 O U=>hnx _ λq hq=>by
       obtain ⟨a1,a2⟩:=hs q hq;dsimp only;rw [O q hq,U q hq];constructor
       ·by_cases c1:q=j/\i.toNat<=j
        ·rw [if_pos c1,if_pos ⟨by omega,by omega⟩]
        ·rw [if_neg c1,a1];by_cases c2:q < j/\i.toNat<=q
         ·rw [if_pos c2,if_pos ⟨by omega,c2.2⟩]
         ·rw [if_neg c2,if_neg (by omega)]
       ·by_cases c1:q=j/\j<=i.toNat
        ·rw [if_pos c1,if_pos ⟨by omega,by omega⟩]
        ·rw [if_neg c1,a2];by_cases c2:q < j/\q<=i.toNat
         ·rw [if_pos c2,if_pos ⟨by omega,c2.2⟩]
         ·rw [if_neg c2,if_neg (by omega)]
      have I:∀ (s:A8) q,(s.set j 0).get q=if q=j then 0 else s.get q:=λs q=>ZFn hj
      split
      ·rename_i hge;split
       ·rename_i hle;exact fin _ _ (λq hq=>by rw [I]; by_cases e:q=j <;> simp [e]; omega) (λq hq=>by rw [I]; by_cases e:q=j <;> simp [e]; omega)
       ·rename_i hle;exact fin _ _ (λq hq=>by rw [I]; by_cases e:q=j <;> simp [e]; omega) (λq hq=>by rw [if_neg (by omega)])
      ·rename_i hge;split
       ·rename_i hle;exact fin _ _ (λq hq=>by rw [if_neg (by omega)]) (λq hq=>by rw [I]; by_cases e:q=j <;> simp [e]; omega)
       ·rename_i hle;exact fin _ _ (λq hq=>by rw [if_neg (by omega)]) (λq hq=>by rw [if_neg (by omega)])
     ·rintro ⟨s1,s2⟩ hs
      have O:s1=Jh m i.toNat:=ZFo λq hq=>by
       rw [(hs q hq).1,Jh,ZUh _ hq];by_cases hh:q < i.toNat
       ·rw [if_neg (by omega),if_pos hh]
       ·rw [if_pos ⟨hq,by omega⟩,if_neg hh]
      have U:s2=backA m i.toNat:=ZFo λq hq=>by
       rw [(hs q hq).2,backA,ZUh _ hq];by_cases hh:i.toNat < q
       ·rw [if_neg (by omega),if_pos hh]
       ·rw [if_pos ⟨hq,by omega⟩,if_neg hh]
      dsimp only;rw [O,U]
      have hw:∀ q,q < 8->0<=(Jh m i.toNat).get q/\(Jh m i.toNat).get q<=255:=λq hq=>by
       rw [Jh,ZUh _ hq];have:=pm q hq;split <;> omega
      have hwt:wtU a.degrees (Jh m i.toNat) a.degrees.length=wtU a.degrees m i.toNat:=by rw [Zr8 h8 _ (Cg _),show min i.toNat a.degrees.length=i.toNat by omega]
      have hwb:=Lg hd pm i.toNat (by omega)
      have hml:=S5 hm i.toNat B
      have hset:(Jh m i.toNat).set i.toNat (ZCl.wrap (m.get i.toNat - 1))=leftA m i.toNat:=ZFo λq hq=>by
       rw [ZFn B,Zat _ (by omega),Jh,leftA,ZUh _ hq,ZUh _ hq]
       by_cases e:q=i.toNat
       ·subst e; rw [if_pos rfl,if_neg (by omega),if_pos rfl]
       ·rw [if_neg e];by_cases hh:q < i.toNat
        ·rw [if_pos hh,if_pos hh]
        ·rw [if_neg hh,if_neg hh,if_neg e]
      rw [hset];have hwm:Zwt.wrap (m.get i.toNat)=m.get i.toNat:=i64_in _ (by omega)
      have hpb:0<=n * m.get i.toNat/\n * m.get i.toNat<=100120036:=E6 (by omega) (by omega)
      rw [hwm,i64_in (n * m.get i.toNat) (by omega),i64_in (0 - n * m.get i.toNat) (by omega)]
      refine⟨by omega,by omega,by omega,by omega,Zc4 hd hw ?_⟩
      rw [hwt]
      have key:∀ v,v % 10007=dK a.degrees m n i.toNat->Wh (leftA m i.toNat) 1 (λr=>Ww a.degrees r (a.images.getD i.toNat Ci) (λr'=>Wh (backA m i.toNat) 1 (λr2=>Ww a.degrees r' r2 (λr3=>Jk v (λk=>V3 ⟨out⟩ r3 k (λr=>next' (r.terms,i+1))))))):=λv hv =>
       Zsb ha (by omega) hm pm hp gc (by omega) hv λout' hs'=>by
        refine hn' _ ⟨by dsimp only; omega,by dsimp only; omega,hs'.can,λx=>?_,λy hy=>?_,by have:=hs'.ln; dsimp only; omega⟩ (by dsimp only; omega)
        ·dsimp only;rw [ni];have b1:=gf x;have b2:=hs'.cf x;rw [hdS,if_pos (by omega)] at b1
         omega
        ·rcases hs'.mo y hy with ⟨z,hz,e⟩ | hD
         ·obtain ⟨t,ht,q⟩:=gm z hz;exact⟨t,ht,e ▸ q⟩
         ·exact⟨f.getD k.toNat Ci,by rw [Xk kn]; exact Cu _ (Fc.2 rfl),by rw [hgm]; exact hD⟩
      rcases Zsa hwb.1 with ⟨V,q2⟩ | ⟨V,q2⟩
      ·rw [if_pos V];refine⟨by omega,key _ ?_⟩
       unfold dK; rw [q2]; congr 1; omega
      ·rw [if_neg V];refine⟨by omega,key _ ?_⟩
       unfold dK; rw [q2]; congr 1; omega
   ·rename_i hi;refine hn _ ⟨by dsimp only; omega,by dsimp only; omega,⟨gc,λx=>?_,λy hy=>?_⟩,by dsimp only; omega⟩ (by dsimp only; omega)
    ·dsimp only;rw [nk,Xk kn,Qz];simp only [tot];rw [hgm,hgn];have:=gf x;rw [Zru _ _ (λj ac ad=>(hm j (by omega)).2 (by omega))] at this
     omega
    ·dsimp only;rw [nk]; exact gm y hy
  ·dsimp only;have:=A.cf x
   show (coT L x+dT a.degrees (imgsT a) m n x) % 10007=_
   omega
  ·obtain ⟨t,ht,q⟩:=A.mo y hy;exact⟨t,List.mem_of_mem_take (i:=k.toNat) (by rw [List.take_take,show min k.toNat (k.toNat+1)=k.toNat by omega]; exact ht),q⟩
 ·rename_i hk;rw [Fs (by omega)] at A
  exact h _ A (by omega)
theorem Zsc {a:Alg} {K:List (Option (List (A8×Int)))->Prop} (ha:AlgF a) (h:∀ ls:List (Option (List (A8×Int))),(∀ i,i < a.images.length->∃ m,ls[i]? = some (some m)/\IsMap (a.images.getD i Ci).terms m)->K ls):Kr a K:=by
 unfold Kr;have L:a.images.length<=8:=by have:=ha.deg.1; have:=ha.len; omega
 refine Yp (λi (s:List (Option (List (A8×Int))))=>s.length=8/\∀ j,j < i->∃ m,s[j]? = some (some m)/\IsMap (a.images.getD j Ci).terms m) a.images.length ?_ ?_ _ _ _ (by omega) ⟨by simp,by intro j hj; omega⟩
 ·intro i s next hi ⟨B,A⟩ hn;have I:(⟨(a.images.getD i Ci).terms⟩:ZCb)=a.images.getD i Ci:=rfl;rw [<- I]
  refine Zcw (ha.frm i hi).canon (ha.fit i hi) λm hm=>⟨by omega,hn _ ⟨by simpa using B,λj hj=>?_⟩⟩
  by_cases e:j=i
  ·subst e;exact⟨m,by rw [List.getElem?_set_self (by omega)],hm⟩
  ·rw [List.getElem?_set_ne (λq=>e q.symm)]
   exact A j (by omega)
 ·intro s ⟨B,A⟩;exact h s A
theorem Zc7 (m:A8):MapOk [(m,1)]:=⟨by simp,by intro p hp; obtain rfl:=Fc.1 hp; simp⟩
theorem Zsd {a:Alg} {K:List (A8×Int)->Prop} {m:A8} {n v:Int} {i:Nat} {out ml:List (A8×Int)} (ha:AlgF a) (hi:i < a.images.length) (hm:OkMono a.degrees m) (pm:∀ i,i < 8->0<=m.get i/\m.get i<=255) (hp:0 < m.get i) (ho:MapOk out) (hml:IsMap (a.images.getD i Ci).terms ml) (hv:v % 10007=dK a.degrees m n i)
  (h:∀ out',MapOk out'->(∀ x,co out' x % 10007=(co out x+dK a.degrees m n i * triC a.degrees (leftA m i) (backA m i) ((imgsT a).getD i Ci) x) % 10007)->(∀ y,y∈out'->(∃ z,z∈out/\z.1=y.1)\/DMono a.degrees (imgsT a) y.1 m)->K out') :
  Te (Yv ([]:List (A8×Int)) (leftA m i) 1) a.degrees ml (λr=>Te r a.degrees (Yv ([]:List (A8×Int)) (backA m i) 1) (λV=>T3 v (λk=>Qx out V k K))):=by
 have hd:=ha.deg;have I:i < 8:=by have:=hd.1; have:=ha.len; omega
 have hf:=ha.frm i hi;have ff:=ha.fit i hi;have L:=Lh (S5 hm) pm;obtain ⟨lb,bb,lbb⟩:=Zc6 L hp;obtain ⟨wl,wb⟩:=Zc0 hm I hp
 have A:∀ p,p∈ml->OkMono a.degrees p.1/\∃ t,t∈(a.images.getD i Ci).terms/\t.mono=p.1/\∀ q,q < 8->0<=p.1.get q/\p.1.get q<=20:=λp hpm=>by
  obtain ⟨t,ht,e⟩:=hml.ks p hpm;rw [<- e]
  exact⟨hf.mono ht,t,ht,rfl,Lh (S5 (hf.mono ht)) (ff.pos t ht)⟩
 show Te [(leftA m i,1)] a.degrees ml _
 refine Zhq hd (Zc7 _) (λp hp'=>by obtain rfl:=Fc.1 hp'; exact wl) (λp hp' q hq=>by obtain rfl:=Fc.1 hp'; exact(lb q hq).1) hml.ok (λp hpm=>(A p hpm).1.wk) (λp hpm q hq=>by obtain ⟨_,t,_,_,b⟩:=A p hpm; exact(b q hq).1) λown hown=>?_
 have wown:∀ u,u∈own->∃ z,z∈(a.images.getD i Ci).terms/\u.1=(leftA m i).add z.mono/\¬ Clash a.degrees (leftA m i) z.mono/\Jr a.degrees u.1/\∀ q,q < 8->0<=u.1.get q/\u.1.get q<=40:=λu hu=>by
  obtain ⟨t,z,ht,hz,e,hcl⟩:=hown.ks u hu;obtain rfl:=Fc.1 ht;obtain ⟨hzm,tt,htt,ett,B⟩:=A z hz;refine⟨tt,htt,by rw [ett]; exact e,by rw [ett]; exact hcl,?_,λq hq=>?_⟩
  ·rw [e];exact D9 wl hzm.wk (λq hq=>(lb q hq).1) (λq hq=>(B q hq).1) (λq hq=>by have:=lb q hq; have:=B q hq; dsimp only; omega) hcl
  ·rw [e,ZUi];have:=lb q hq;have:=B q hq;dsimp only;omega
 show Te own a.degrees [(backA m i,1)] _
 refine Zhq hd hown.ok (λu hu=>by obtain ⟨_,_,_,_,w,_⟩:=wown u hu; exact w) (λu hu q hq=>by obtain ⟨_,_,_,_,_,b⟩:=wown u hu; exact(b q hq).1) (Zc7 _) (λp hp'=>by obtain rfl:=Fc.1 hp'; exact wb) (λp hp' q hq=>by obtain rfl:=Fc.1 hp'; exact(bb q hq).1) λprod hpr=>?_
 refine Zbk ?_
 rw [hv];refine Zrs ho hpr.ok (Zhx _ _ _ _) λout' hout=>h out' hout.ok (λx=>?_) λy hy=>?_
 ·rw [hout.cf,S6 a hi];have e1:=Zrv hml hf.canon hown hpr x;rw [Zwi,Ct,e1,<- Ct,<- Zwi]
 ·obtain ⟨z,hz,e⟩:=hout.ks y hy;rcases hz with hz | hz
  ·exact .inl ⟨z,hz,e⟩
  ·obtain ⟨t,b,ht,hb,e2,O⟩:=hpr.ks z hz;obtain rfl:=Fc.1 hb;obtain ⟨u,hu,U,hcl,_⟩:=wown t ht;refine .inr ⟨i,u,I,hp,by rw [S6 a hi]; exact hu,by rw [<- e,e2,U],hcl,?_⟩
   rw [<- U]; exact O
theorem Zse (m:A8):ZCe=Jh m 0:=ZFo λq hq=>by rw [ZUn,Jh,ZUh _ hq,if_neg (by omega)]
theorem Zsf {m:A8} {i:Nat} (hi:i < 8):(Jh m i).set i (m.get i)=Jh m (i+1):=ZFo λq hq=>by
 rw [ZFn hi,Jh,Jh,ZUh _ hq,ZUh _ hq];by_cases e:q=i
 ·subst e; rw [if_pos rfl,if_pos (by omega)]
 ·rw [if_neg e];by_cases hh:q < i
  ·rw [if_pos hh,if_pos (by omega)]
  ·rw [if_neg hh,if_neg (by omega)]
theorem Zsg {d e:Int} (hd:1<=d/\d<=12) (he:0<=e):sg (d * e)=if Fa d 2=1/\Fa e 2=1 then -1 else 1:=by
 rw [ZFp (by omega),ZFp he]
 unfold sg;have h:=Ct d e 2;rcases (by omega:d % 2=0\/d % 2=1) with a | a <;> rcases (by omega:e % 2=0\/e % 2=1) with b | b <;> rw [a,b] at h <;> simp [h,a,b]
theorem m_d {a:Alg} {f:List Term} {s:List (A8×Int)} {K:List (A8×Int)->Prop} (ha:AlgF a) (hs:IsMap f s) (hf:OkForm a.degrees f) (ff:FitT f) (h:∀ out,IsDM a.degrees (imgsT a) s out->K out):Su a s K:=by
 have hd:=ha.deg;have h8:=hd.1;have hlen:=ha.len;unfold Su;refine Zsc ha λls hls=>?_
 refine Ka (λl' (out:List (A8×Int))=>(∀ p,p∈l'->p∈s)/\MapOk out/\(∀ x,(co out x+tot (λp=>dT a.degrees (imgsT a) p.1 p.2 x) l') % 10007=tot (λp=>dT a.degrees (imgsT a) p.1 p.2 x) s % 10007)/\(∀ y,y∈out->∃ t,t∈s/\DMono a.degrees (imgsT a) y.1 t.1)) ?_ ?_ s [] ⟨λ_ h=>h,MapOk.nil,λx=>by rw [Mq,F3],by simp⟩
 ·intro l' p l'' out next hpk ⟨h0,U,V,h3⟩ hn;have hperm:=El hpk;have hpm:p∈s:=h0 p (hperm.mem_iff.2 (by simp))
  have hpf:=hs.ok.2 p hpm;obtain ⟨t,ht,et⟩:=hs.ks p hpm;have hm:OkMono a.degrees p.1:=by rw [<- et]; exact hf.mono ht
  have pm:∀ i,i < 8->0<=p.1.get i/\p.1.get i<=255:=by rw [<- et]; exact ff.pos t ht
  have e3:∀ x,tot (λp=>dT a.degrees (imgsT a) p.1 p.2 x) l'=dT a.degrees (imgsT a) p.1 p.2 x+tot (λp=>dT a.degrees (imgsT a) p.1 p.2 x) l'':=λx=>by rw [Mp _ hperm]; rfl
  refine Yp (λi (t:A8×(List (A8×Int))×Int)=>t.1=Jh p.1 i/\MapOk t.2.1/\t.2.2=sg (wtU a.degrees p.1 i)/\(∀ x,(co t.2.1 x+dS a.degrees (imgsT a) p.1 p.2 x (8 - i) i) % 10007=(co out x+dT a.degrees (imgsT a) p.1 p.2 x) % 10007)/\(∀ y,y∈t.2.1->∃ t,t∈s/\DMono a.degrees (imgsT a) y.1 t.1)) 8 ?_ ?_ _ _ _ (by omega) ⟨Zse _,U,rfl,λx=>rfl,h3⟩
  ·rintro i ⟨t1,o1,ac⟩ nx hi ⟨g1,I,g3,L,O⟩ hnx;dsimp only at g1 I g3 L O ⊢
   subst g1 g3;have pmi:=pm i hi
   have hdS:∀ x,dS a.degrees (imgsT a) p.1 p.2 x (8 - i) i=(if p.1.get i > 0 then dK a.degrees p.1 p.2 i * triC a.degrees (leftA p.1 i) (backA p.1 i) ((imgsT a).getD i Ci) x else 0)+dS a.degrees (imgsT a) p.1 p.2 x (8 - (i+1)) (i+1):=λx=>by
    rw [show 8 - i=(8 - (i+1))+1 by omega]; rfl
   have hspm:=Em (wtU a.degrees p.1 i)
   have tail:∀ A:List (A8×Int),MapOk A->(∀ x,(co A x+dS a.degrees (imgsT a) p.1 p.2 x (8 - (i+1)) (i+1)) % 10007=(co out x+dT a.degrees (imgsT a) p.1 p.2 x) % 10007)->(∀ y,y∈A->∃ t,t∈s/\DMono a.degrees (imgsT a) y.1 t.1) ->
     (if(i:Int) < (a.degrees.length:Int) then((0<=(i:Int)/\(i:Int) < (a.degrees.length:Int))/\(if Fa (a.degrees.getD i Ci) 2=1 then(if Fa (p.1.get i) 2=1 then nx ((Jh p.1 i).set i (p.1.get i),A,Zwt.wrap (0 - sg (wtU a.degrees p.1 i))) else nx ((Jh p.1 i).set i (p.1.get i),A,sg (wtU a.degrees p.1 i))) else nx ((Jh p.1 i).set i (p.1.get i),A,sg (wtU a.degrees p.1 i)))) else nx ((Jh p.1 i).set i (p.1.get i),A,sg (wtU a.degrees p.1 i))):=by
    intro A k1 k2 k3;rw [Zsf hi];have go:∀ z,z=sg (wtU a.degrees p.1 (i+1))->nx (Jh p.1 (i+1),A,z):=λz hz=>hnx _ ⟨rfl,k1,hz,k2,k3⟩
    have hw:wtU a.degrees p.1 (i+1)=wtU a.degrees p.1 i+a.degrees.getD i Ci * p.1.get i:=rfl;split
    ·rename_i hin;have hdi:=hd.2 i (by omega)
     have hstep:=Zsg hdi pmi.1;refine⟨by omega,?_⟩
     split
     ·rename_i q1;split
      ·rename_i q2;rw [if_pos ⟨q1,q2⟩] at hstep
       rw [i64_in _ (by omega)]
       exact go _ (by rw [hw,V2,hstep]; omega)
      ·rename_i q2;rw [if_neg (λz=>q2 z.2)] at hstep
       exact go _ (by rw [hw,V2,hstep,ZUu])
     ·rename_i q1;rw [if_neg (λz=>q1 z.1)] at hstep
      exact go _ (by rw [hw,V2,hstep,ZUu])
    ·rename_i hin;have:=(hm i hi).2 (by omega)
     exact go _ (by rw [hw,this,ZP5,ZP1])
   split
   ·rename_i B;have hp0':0 < p.1.get i:=B
    have hin:i < a.images.length:=by
     rcases Nat.lt_or_ge i a.images.length with q | q
     ·exact q
     ·have:=(hm i hi).2 (by omega); omega
    have wi:Zwt.wrap ((i:Int)+1)=(i:Int)+1:=i64_in _ (by omega)
    rw [wi];refine Jj (λ(t:A8×Int)=>0<=t.2/\t.2<=i+1/\∀ q,q < 8->t.1.get q=if(q:Int) < t.2 then 0 else p.1.get q) (λt=>i+1 - t.2.toNat) ?_ ⟨ZUm _,by dsimp only; omega,λq hq=>by rw [if_neg (by dsimp only; omega)]⟩
    rintro ⟨t1,k⟩ nk ⟨b1,b2,b3⟩ hnk;dsimp only at b1 b2 b3 hnk ⊢
    split
    ·rename_i hk;refine⟨by omega,?_⟩
     rw [i64_in (k+1) (by omega)]
     refine hnk _ ⟨by dsimp only; omega,by dsimp only; omega,λq hq=>?_⟩ (by dsimp only; omega)
     dsimp only;rw [ZFn (by omega),b3 q hq]
     by_cases e:q=k.toNat
     ·rw [if_pos e,if_pos (by omega)]
     ·rw [if_neg e];by_cases hh:(q:Int) < k
      ·rw [if_pos hh,if_pos (by omega)]
      ·rw [if_neg hh,if_neg (by omega)]
    ·rename_i hk
     have eb:t1=backA p.1 i:=ZFo λq hq=>by
      rw [b3 q hq,backA,ZUh _ hq];by_cases hh:i < q
      ·rw [if_neg (by omega),if_pos hh]
      ·rw [if_pos (by omega),if_neg hh]
     have hml:=S5 hm i hi
     have el:(Jh p.1 i).set i (Zwt.wrap (p.1.get i - 1))=leftA p.1 i:=ZFo λq hq=>by
      rw [ZFn hi,i64_in _ (by omega),Jh,leftA,ZUh _ hq,ZUh _ hq]
      by_cases e:q=i
      ·subst e; rw [if_pos rfl,if_neg (by omega),if_pos rfl]
      ·rw [if_neg e];by_cases hh:q < i
       ·rw [if_pos hh,if_pos hh]
       ·rw [if_neg hh,if_neg hh,if_neg e]
     rw [eb,el];obtain ⟨ml,aa,ab⟩:=hls i hin;refine⟨ml,aa,?_⟩
     refine Zsd (n:=p.2) ha hin hm pm hp0' I ab ?_ λA k1 k2 k3=>?_
     ·rw [Zbm hspm hpf (by omega)]; rfl
     ·refine tail A k1 (λx=>?_) λy hy=>?_
      ·have c1:=L x;have c2:=k2 x;rw [hdS,if_pos B] at c1
       omega
      ·rcases k3 y hy with ⟨z,hz,e⟩ | hD
       ·obtain ⟨t,ht,q⟩:=O z hz;exact⟨t,ht,e ▸ q⟩
       ·exact⟨p,hpm,hD⟩
   ·rename_i B;refine tail o1 I (λx=>?_) O
    have c1:=L x;rw [hdS,if_neg B,F3] at c1
    exact c1
  ·rintro ⟨t1,o1,ac⟩ ⟨g1,I,g3,L,O⟩;dsimp only at I L O ⊢
   refine hn _ ⟨λq hq=>h0 q (hperm.mem_iff.2 (by simp [hq])),I,λx=>?_,O⟩
   have c1:=L x;have c2:=V x;rw [e3] at c2
   simp only [Nat.sub_self,dS] at c1
   omega
 ·intro out ⟨_,U,V,h3⟩;exact h _ ⟨U,λx=>by have:=V x; simp only [tot,ZP1] at this; exact this,h3⟩
theorem Zsh {m:List (A8×Int)} (hm:MapOk m):∃ l,Canon l/\(∀ x,coT l x=co m x)/\∀ t,t∈l->∃ p,p∈m/\p.1=t.mono:=by
 obtain ⟨xs,hxs,hw⟩:=Zfz (m.map (·.1));obtain ⟨h,A⟩:=Znm hm hxs hw;refine⟨_,h,A,λt ht=>?_⟩
 obtain ⟨x,hx,rfl⟩:=Cp.1 ht;obtain ⟨p,hpm,e⟩:=Cp.1 (hxs.mem_iff.1 hx);exact⟨p,hpm,e⟩
theorem Zsi {ds:List Int} {imgs:List (List Term)} {f:List Term} {s out':List (A8×Int)} (hs:IsMap f s) (hc:Canon f) (h':IsDM ds imgs s out'):out'=[]↔∀ out,IsD ds imgs f out->out=[]:=by
 constructor
 ·intro e out ho;exact(Zht (Zrw hs hc ho h') ho.can).1 e
 ·intro hall;obtain ⟨l,hl,hcf,hks⟩:=Zsh h'.ok
  have hd:IsD ds imgs f l:=⟨hl,λx=>by rw [hcf,h'.cf,D7 hs hc (λa n=>dT ds imgs a n x) (λa=>Zcz ds imgs a x)],λy hy=>by
   obtain ⟨p,hp,e⟩:=hks y hy;obtain ⟨t,ht,q⟩:=h'.mo p hp;obtain ⟨u,hu,A⟩:=hs.ks t ht;exact⟨u,hu,by rw [<- e,A]; exact q⟩⟩
  have e:=hall l hd;have hm:IsMap l out':=Zc2 hl h'.ok λx=>by rw [hcf]
  exact(Zht hm hl).2 e
theorem Zsj {ds:List Int} {imgs:List (List Term)} {f out A:List Term} (h:IsD ds imgs f out) (k:IsD ds imgs f A):out=A:=Znc h.can k.can λx=>by rw [h.cf,k.cf]
def Hom (ds:List Int) (l:List Term) (n:Int):Prop:=∀ i,i < l.length->wtU ds (l.getD i Ci).mono ds.length=n
instance (ds:List Int) (l:List Term) (n:Int):Decidable (Hom ds l n):=inferInstanceAs (Decidable (∀ i,i < l.length->_))
theorem Zsk {ds:List Int} {l:List Term} {K:Int→Bool→Prop} (hd:OkDeg ds) (hp:FitT l) (h0:l.length=0→K (-1) true) (h1:0 < l.length→Hom ds l (wtU ds (l.getD 0 Ci).mono ds.length)→K (wtU ds (l.getD 0 Ci).mono ds.length) true) (h2:(∀ n,¬ Hom ds l n)→K 0 false):Kp ds ⟨l⟩ K:=by
  unfold Kp
  dsimp only
  refine Yp (fun i (s:Int)=>(i=0∧s=-1)∨(0 < i∧s=wtU ds (l.getD 0 Ci).mono ds.length∧∀ j,j < i→wtU ds (l.getD j Ci).mono ds.length=wtU ds (l.getD 0 Ci).mono ds.length)) l.length ?_ ?_ _ _ _ (by omega) (.inl ⟨rfl,rfl⟩)
  · intro i s next hi hI hn
    have f1:=hp _ (Yw hi)
    have b0:=hp.pos _ (Yw hi)
    have hw:=Lg hd b0 ds.length (Cg _)
    refine Ex f1 (Zr7 hd b0 ?_)
    rcases hI with ⟨e1,e2⟩ | ⟨e1,e2,e3⟩
    · subst e1 e2
      rw [if_neg (by omega)]
      exact hn _ (.inr ⟨by omega, rfl, fun j hj => by obtain rfl : j = 0 := by omega
                                                      rfl⟩)
    · have hw0:=Lg hd (hp.pos _ (Yw (show 0 < l.length by omega))) ds.length (Cg _)
      rw [if_pos (by omega)]
      split
      · rename_i q
        refine h2 fun n hn'=>q ?_
        rw [hn' i hi,e2,hn' 0 (by omega)]
      · rename_i q
        have q:wtU ds (l.getD i Ci).mono ds.length=s:=Zxc.1 q
        refine hn _ (.inr ⟨by omega,by rw [q,e2],fun j hj=>?_⟩)
        by_cases e:j=i
        · subst e; rw [q,e2]
        · exact e3 j (by omega)
  · intro s hI
    rcases hI with ⟨e1,e2⟩ | ⟨e1,e2,e3⟩
    · rw [e2]; exact h0 e1
    · rw [e2]; exact h1 e1 e3
theorem Zsl {ds:List Int} {l:List Term} {n:Int} {K:Bool->Prop} (hd:OkDeg ds) (hp:FitT l) (h:K (decide (Hom ds l n))):Kq ds ⟨l⟩ n K:=by
 unfold Kq;refine Zsk hd hp (λe=>?_) (λe hh=>?_) (λhno=>?_)
 ·rw [if_pos rfl,if_pos rfl];have:Hom ds l n:=λi hi=>by omega
  rwa [decide_eq_true this] at h
 ·have A:=Lg hd (hp.pos _ (Yw e)) ds.length (Cg _);rw [if_pos rfl,if_neg (by omega)]
  have:Hom ds l n↔wtU ds (l.getD 0 Ci).mono ds.length=n:=⟨λq=>q 0 e,λq=>q ▸ hh⟩
  rwa [decide_eq_decide.2 this] at h
 ·rw [if_neg (by simp)]
  rwa [decide_eq_false (hno n)] at h
theorem Zsm {ds:List Int} {l:List Term} {K:Int->Bool->Prop} (hd:OkDeg ds) (hp:Q6 l) (hl:l.length<=100000000) (A:l.length=0->K (-1) true) (B:0 < l.length->Hom ds l (wtU ds (l.getD 0 Ci).mono ds.length)->K (wtU ds (l.getD 0 Ci).mono ds.length) true) (I:(∀ n,¬ Hom ds l n)->K 0 false):Kj ds ⟨l⟩ K:=by
 unfold Kj;dsimp only;split
 ·exact A (by omega)
 ·rename_i L;have hpos:0 < l.length:=by omega
  refine⟨by omega,Zc4 hd (hp _ (Yw hpos)) ?_⟩
  refine Jj (λ(s:Int)=>1<=s/\s<=l.length/\∀ j:Nat,(j:Int) < s->wtU ds (l.getD j Ci).mono ds.length=wtU ds (l.getD 0 Ci).mono ds.length) (λs=>l.length - s.toNat) ?_ ⟨ZUm _,by omega,λj hj=>by
   have hj':(j:Int) < 1:=hj;obtain rfl:j=0:=by omega
   rfl⟩
  rintro i next ⟨O,U,h⟩ hn;split
  ·rename_i hi;have a:i.toNat < l.length:=by omega
   refine⟨by omega,Zc4 hd (hp _ (Yw a)) ?_⟩
   split
   ·rename_i q;refine I λn hn'=>q ?_
    rw [hn' _ a,hn' 0 hpos]
   ·rename_i q;have q:=Zxc.1 q;rw [i64_in _ (by omega)]
    refine hn _ ⟨by omega,by omega,λj hj=>?_⟩ (by omega)
    by_cases e:j=i.toNat
    ·subst e; exact q
    ·exact h j (by omega)
  ·exact B hpos λj hj=>h j (by omega)
structure OkAlg (a:Alg):Prop where
 deg:OkDeg a.degrees
 len:a.images.length=a.degrees.length
 frm:∀ i,i < a.images.length->OkForm a.degrees (a.images.getD i Ci).terms
 hom:∀ i,i < a.images.length->Hom a.degrees (a.images.getD i Ci).terms (a.degrees.getD i Ci+1)
 clo:∀ i,i < a.images.length->∀ out,IsD a.degrees (imgsT a) (a.images.getD i Ci).terms out->out=[]
def Xh (a:Alg):Prop:=∀ i,i < a.images.length->FitT (a.images.getD i Ci).terms/\(a.images.getD i Ci).terms.length<=1048576
theorem OkAlg.algF {a:Alg} (h:OkAlg a) (hf:Xh a):AlgF a:=⟨h.deg,h.len,h.frm,λi hi=>(hf i hi).1⟩
theorem Zhz {a:Alg} {K:Bool->Prop} (hf:Xh a) (h1:OkAlg a->K true) (h:¬ OkAlg a->K false):Mm a K:=by
 unfold Mm;refine Zm1 ?_
 split
 ·rename_i q; exact h λz=>q (decide_eq_true z.deg)
 ·rename_i A;have A:=of_decide_eq_true (Zxc.1 A);have h8:=A.1;split
  ·rename_i q; exact h λz=>q (by rw [z.len])
  ·rename_i B;have B:a.images.length=a.degrees.length:=by have:=Zxc.1 B; omega
   refine Jj (λ(s:Int)=>0<=s/\s<=a.images.length/\∀ i:Nat,(i:Int) < s->OkForm a.degrees (a.images.getD i Ci).terms/\Hom a.degrees (a.images.getD i Ci).terms (a.degrees.getD i Ci+1)) (λs=>a.images.length - s.toNat) ?_ ⟨ZUm _,by omega,λi hi=>by omega⟩
   rintro i next ⟨g1,g2,L⟩ hn;split
   ·rename_i hi;have hin:i.toNat < a.images.length:=by omega
    obtain ⟨hft,hfl⟩:=hf i.toNat hin;have O:(⟨(a.images.getD i.toNat Ci).terms⟩:ZCb)=a.images.getD i.toNat Ci:=rfl;have hdi:=A.2 i.toNat (by omega)
    have wi:Zwt.wrap (i+1)=i+1:=i64_in _ (by omega)
    rw [wi,<- O]
    refine⟨by omega,Zn3 h8 hft.pos (by omega) ?_⟩
    split
    ·rename_i q; exact h λz=>q (decide_eq_true (z.frm _ hin))
    ·rename_i U;have U:=of_decide_eq_true (Zxc.1 U)
     have good:Hom a.degrees (a.images.getD i.toNat Ci).terms (a.degrees.getD i.toNat Ci+1)->next (i+1):=λhh=>hn _ ⟨by omega,by omega,λj hj=>by
      by_cases e:j=i.toNat
      ·subst e; exact⟨U,hh⟩
      ·exact L j (by omega)⟩ (by omega)
     have hwd:Zwt.wrap (a.degrees.getD i.toNat Ci+1)=a.degrees.getD i.toNat Ci+1:=i64_in _ (by omega)
     rw [hwd];refine⟨by omega,Zsm A hft.pos (by omega) (λe=>?_) (λe hh=>?_) (λhno=>?_)⟩
     ·rw [if_neg (by simp)]
      dsimp only;refine⟨by omega,?_⟩
      rw [if_neg (by omega)]
      exact good λj hj=>by omega
     ·rw [if_neg (by simp)]
      dsimp only;refine⟨by omega,?_⟩
      rw [if_pos (by omega)]
      refine⟨by omega,?_⟩
      split
      ·rename_i q;exact h λz=>q (z.hom _ hin 0 e)
      ·rename_i q;have q:=Zxc.1 q;exact good (q ▸ hh)
     ·rw [if_pos (by simp)]
      exact h λz=>hno _ (z.hom _ hin)
   ·rename_i hi;have I:AlgF a:=⟨A,B,λi hi=>(L i (by omega)).1,λi hi=>(hf i hi).1⟩
    refine Jj (λ(s:Int)=>0<=s/\s<=a.images.length/\∀ i:Nat,(i:Int) < s->∀ out,IsD a.degrees (imgsT a) (a.images.getD i Ci).terms out->out=[]) (λs=>a.images.length - s.toNat) ?_ ⟨ZUm _,by omega,λi hi=>by omega⟩
    rintro k next' ⟨k1,k2,V⟩ hn';split
    ·rename_i hk;have hkn:k.toNat < a.images.length:=by omega
     have O:(⟨(a.images.getD k.toNat Ci).terms⟩:ZCb)=a.images.getD k.toNat Ci:=rfl;rw [<- O]
     refine⟨by omega,Zhy I (I.frm _ hkn) (I.fit _ hkn) λout ho _=>?_⟩
     dsimp only;split
     ·rename_i q;refine h λz=>?_
      have:=z.clo _ hkn out ho;rw [this] at q; simp at q
     ·rename_i q;rw [i64_in _ (by omega)]
      have e:out=[]:=List.length_eq_zero_iff.1 (by omega)
      refine hn' _ ⟨by omega,by omega,λj hj=>?_⟩ (by omega)
      by_cases ej:j=k.toNat
      ·subst ej; intro o2 aa; rw [Zsj aa ho,e]
      ·exact V j (by omega)
    ·rename_i hk;exact h1 ⟨A,B,I.frm,λi hi=>(L i (by omega)).2,λi hi=>V i (by omega)⟩
theorem Zh0 {l:List ZCb} {p:ZCb->(Bool->Prop)->Prop} {K:Bool->Prop} {Q:ZCb->Prop} (hp:∀ i,i < l.length->∀ K':Bool->Prop,(Q (l.getD i Ci)->K' true)->(¬ Q (l.getD i Ci)->K' false)->p (l.getD i Ci) K')
  (A:(∃ i,i < l.length/\Q (l.getD i Ci))->K true) (B:(∀ i,i < l.length->¬ Q (l.getD i Ci))->K false):Mr l p K:=by
 unfold Mr E2;refine Yp (λi (_:Unit)=>∀ j,j < i->¬ Q (l.getD j Ci)) l.length ?_ ?_ _ _ _ (by omega) (by intro j hj; omega)
 ·intro i s next hi h hn;refine hp i hi _ (λq=>?_) (λq=>?_)
  ·rw [if_pos rfl]
   show K (decide ((i:Int)≥0))
   rw [decide_eq_true (show (i:Int)≥0 by omega)]
   exact A ⟨i,hi,q⟩
  ·rw [if_neg (by simp)]
   refine hn _ λj hj=>?_
   by_cases e:j=i
   ·subst e; exact q
   ·exact h j (by omega)
 ·intro s h
  show K (decide ((-1:Int)≥0))
  rw [decide_eq_false (show ¬ (-1:Int)≥0 by omega)]
  exact B h
theorem Zsn {a:Alg} {K:Bool->Prop} (hf:Xh a) (h1:OkAlg a->K true) (B:¬ OkAlg a->K false):Hc a K:=by
 unfold Hc;refine Zm4 ?_
 split
 ·rename_i q; exact B λz=>q (decide_eq_true z.deg)
 ·rename_i A;have A:=of_decide_eq_true (Zxc.1 A);have h8:=A.1;split
  ·rename_i q; exact B λz=>q (by rw [z.len])
  ·rename_i I;have I:a.images.length=a.degrees.length:=by have:=Zxc.1 I; omega
   refine Yp (λi (_:Unit)=>∀ j:Nat,j < i->OkForm a.degrees (a.images.getD j Ci).terms/\Hom a.degrees (a.images.getD j Ci).terms (a.degrees.getD j Ci+1)) a.images.length ?_ ?_ _ _ _ (by omega) (by intro j hj; omega)
   ·intro i s next hi L hn;obtain ⟨hft,hfl⟩:=hf i hi;have O:(⟨(a.images.getD i Ci).terms⟩:ZCb)=a.images.getD i Ci:=rfl;have hdi:=A.2 i (by omega)
    rw [<- O]
    refine Zrr A hft ?_
    split
    ·rename_i q; exact B λz=>q (decide_eq_true (z.frm _ hi))
    ·rename_i U;have U:=of_decide_eq_true (Zxc.1 U);rw [i64_in _ (by omega)]
     refine⟨by omega,Zsl A hft ?_⟩
     split
     ·rename_i q; exact B λz=>q (decide_eq_true (z.hom _ hi))
     ·rename_i V;have V:=of_decide_eq_true (Zxc.1 V);refine hn _ λj hj=>?_
      by_cases e:j=i
      ·subst e; exact⟨U,V⟩
      ·exact L j (by omega)
   ·intro s L;have h:AlgF a:=⟨A,I,λi hi=>(L i hi).1,λi hi=>(hf i hi).1⟩
    refine Zh0 (Q:=λf=>¬ ∀ out,IsD a.degrees (imgsT a) f.terms out->out=[]) (λi hi K' c1 c2=>?_) (λhex=>?_) (λhall=>?_)
    ·unfold Hb;have O:(⟨(a.images.getD i Ci).terms⟩:ZCb)=a.images.getD i Ci:=rfl;rw [<- O]
     refine Zcw (h.frm i hi).canon (h.fit i hi) λm hm=>m_d h hm (h.frm i hi) (h.fit i hi) λout ho=>?_
     have hiff:=Zsi hm (h.frm i hi).canon ho;by_cases e:out=[]
     ·subst e;rw [decide_eq_false (by simp)]
      exact c2 λz=>z (hiff.1 rfl)
     ·have hlen:0 < out.length:=List.length_pos_iff.2 e;rw [decide_eq_true (by omega)]
      exact c1 λz=>e (hiff.2 z)
    ·obtain ⟨i,hi,hq⟩:=hex;exact B λz=>hq (z.clo i hi)
    ·exact h1 ⟨A,I,h.frm,λi hi=>(L i hi).2,λi hi=>ZRv (hall i hi)⟩
theorem Zso {a:Alg} {K:Int->Prop} (hf:Xh a) (h:OkAlg a->K 0) (A:¬ OkAlg a->K 1):Hd a [] K:=by
 unfold Hd;refine Zsn hf (λz=>?_) (λz=>?_)
 ·rw [if_neg (by simp)]
  refine Zh0 (Q:=λ_=>True) (λi hi=>by simp at hi) (λhex=>by obtain ⟨i,hi,_⟩:=hex; simp at hi) (λ_=>?_)
  exact Gh (h z)
 ·rw [if_pos (by simp)]
  exact Gh (A z)
def Big (n:Nat):Prop:=n < 9223372036854775808
structure LenAlg (a:Alg):Prop where
 deg:Big a.degrees.length
 img:Big a.images.length
 trm:∀ f,f∈a.images->Big f.terms.length
theorem Zsp {x:Alg} {u v:Value} {fp:List Nat} {w:World} (h:TAlg.rep x [u,v] fp w):LenAlg x:=by
 have B:=Yz (N9 h).1;have I:=Yz (N9 h).2;refine⟨by unfold Big; omega,by unfold Big; omega,λf hf=>?_⟩
 obtain ⟨i,hi,rfl⟩:=Cw hf;obtain ⟨A,c,hv,cs,hl,hc,hr⟩:=Ea (N9 h).2 i hi;obtain ⟨z,rfl⟩:=List.length_eq_one_iff.1 (show cs.length=1 from hl)
 have L:=Yz (Xq hr);unfold Big; omega
theorem Zsq {f:ZCb} {n:Int} {K:Int->Prop} (hl:Big f.terms.length) (hn:0<=n/\n<=1048576) (h:(f.terms.length:Int)<=n->K (n - f.terms.length)) (A:∀ r,r < 0->K r):Ms f n K:=Zr5 (by unfold Big at hl; omega) hn h A
theorem Zsr {l:List ZCb} {n:Int} {K:Int->Prop} (hl:Big l.length) (ht:∀ f,f∈l->Big f.terms.length) (hn:0<=n/\n<=1048576) (L:∀ r,0<=r->r<=n->(l.length:Int)<=n->(∀ i,i < l.length->(l.getD i Ci).terms.length<=1048576)->K r) (A:∀ r,r < 0->K r):He l n K:=by
 unfold He;unfold Big at hl
 rw [i64_in _ (by omega)]
 split
 ·exact A _ (by omega)
 ·rename_i q;refine Yp (λi (s:Int)=>0<=s/\s<=n/\∀ j,j < i->(l.getD j Ci).terms.length<=1048576) l.length ?_ ?_ _ _ _ (by omega) ⟨by omega,by omega,by intro j hj; omega⟩
  ·intro i s next hi ⟨B,I,h⟩ hn';refine Zsq (ht _ (Yw hi)) (by omega) (λhle=>?_) (λr hr=>by rw [if_pos hr]; exact A _ (by omega))
   rw [if_neg (by omega)]
   refine hn' _ ⟨by omega,by omega,λj hj=>?_⟩
   by_cases e:j=i
   ·subst e; omega
   ·exact h j (by omega)
  ·intro s ⟨B,I,h⟩;exact L s B I (by omega) h
theorem Zss {a:Alg} {K:Int->Prop} (hb:LenAlg a) (A:∀ r,0<=r->a.degrees.length<=1048576->a.images.length<=1048576->(∀ i,i < a.images.length->(a.images.getD i Ci).terms.length<=1048576)->K r) (h:∀ r,r < 0->K r):Hf a 1048576 K:=by
 unfold Hf E5;have hd:=hb.deg;unfold Big at hd
 rw [i64_in _ (by omega)]
 split
 ·dsimp only; rw [if_pos (by omega)]; exact h _ (by omega)
 ·dsimp only; rw [if_neg (by omega)]
  refine Zsr hb.img hb.trm (by omega) (λr B L O I=>?_) (λr hr=>by rw [if_pos hr]; exact h _ (by omega))
  rw [if_neg (by omega)]
  exact A r B (by omega) (by omega) I
theorem Zst {l:List ZCb} {K:List ZCb->Prop} (hl:l.length<=1048576) (ht:∀ i,i < l.length->(l.getD i Ci).terms.length<=1048576) (h:K l):Hg l K:=by
 unfold Hg;refine⟨by omega,?_⟩
 refine Yp (λi (s:List ZCb)=>s.length=l.length/\∀ j,j < i->s.getD j Ci=l.getD j Ci) l.length ?_ ?_ _ _ _ (by omega) ⟨by simp,by intro j hj; omega⟩
 ·intro i s next hi ⟨A,B⟩ hn;refine Zr4 (ht i hi) ⟨by omega,hn _ ⟨by simpa using A,λj hj=>?_⟩⟩
  rw [Zc3 (by omega)]
  by_cases e:j=i
  ·rw [if_pos e,e]
  ·rw [if_neg e]; exact B j (by omega)
 ·intro s ⟨A,B⟩;have:s=l:=Zvx A λj hj hj'=>by have:=B j (by omega); simpa [Co,hj,hj'] using this
  rw [this]; exact h
theorem Zc8 {a:Alg} {K:Alg->Prop} (A:a.degrees.length<=1048576) (B:a.images.length<=1048576) (I:∀ i,i < a.images.length->(a.images.getD i Ci).terms.length<=1048576) (h:K a):Q4 a K:=by
 unfold Q4;exact Zm6 A (Zst B I h)
theorem Zsu {a:Alg} {K:Bool->Prop} (h:K true):Mt a a K:=Zr1 (by simpa using h)
def GoodAlg (a:Alg):Prop:=(∀ x,x∈a.degrees->Fit .i64 x)/\∀ f,f∈a.images->∀ t,t∈f.terms->Ve .u8 t.mono/\Fit .i64 t.factor
theorem GoodAlg.fit {a:Alg} (h:GoodAlg a) (A:∀ i,i < a.images.length->(a.images.getD i Ci).terms.length<=1048576):Xh a:=λi hi=>⟨λt ht=>(h.2 _ (Yw hi) t ht).1,A i hi⟩
def wdU (m:A8):Nat->Int
 | 0=>0
 | i+1=>wdU m i+m.get i
theorem S7 {m:A8} (pm:∀ i,i < 8->0<=m.get i/\m.get i<=255):∀ k:Nat,k<=8->0<=wdU m k/\wdU m k<=255 * k:=by
 intro k
 induction k with
 | zero=>intro _; simp [wdU]
 | succ k ih=>intro hk; have h:=ih (by omega); have A:=pm k (by omega); simp only [wdU]; omega
theorem Zsv {m:A8} (pm:∀ i,i < 8->0<=m.get i/\m.get i<=255) {q:Nat}:∀ k:Nat,k<=8->q < k->m.get q<=wdU m k:=by
 intro k
 induction k with
 | zero=>intro _ h; omega
 | succ k ih =>
  intro hk hq;have A:=pm k (by omega)
  have B:=S7 pm k (by omega)
  simp only [wdU];by_cases e:q=k
  ·subst e; omega
  ·have:=ih (by omega) (by omega); omega
theorem Zsw {m:A8} (p:∀ i,i < 8->0<=m.get i) (h:wdU m 8=1):∃ q,q < 8/\m=ZCe.set q 1:=by
 have A:=p 0 (by omega)
 have B:=p 1 (by omega)
 have I:=p 2 (by omega)
 have L:=p 3 (by omega)
 have O:=p 4 (by omega)
 have U:=p 5 (by omega)
 have V:=p 6 (by omega)
 have p7:=p 7 (by omega)
 clear p;obtain ⟨x0,x1,x2,x3,x4,x5,x6,x7⟩:=m;simp only [wdU,A8.get] at *
 by_cases h0:x0=0
 ·skip;by_cases h1:x1=0
  ·skip;by_cases h2:x2=0
   ·skip;by_cases h3:x3=0
    ·skip;by_cases h4:x4=0
     ·skip;by_cases h5:x5=0
      ·skip;by_cases h6:x6=0
       ·skip;by_cases h7:x7=0
        ·skip;omega
        ·refine⟨7,by omega,?_⟩
         have e:ZUk x0 x1 x2 x3 x4 x5 x6 x7=ZUk 0 0 0 0 0 0 0 1:=by rw [ZUo]; omega
         exact e
       ·refine⟨6,by omega,?_⟩
        have e:ZUk x0 x1 x2 x3 x4 x5 x6 x7=ZUk 0 0 0 0 0 0 1 0:=by rw [ZUo]; omega
        exact e
      ·refine⟨5,by omega,?_⟩
       have e:ZUk x0 x1 x2 x3 x4 x5 x6 x7=ZUk 0 0 0 0 0 1 0 0:=by rw [ZUo]; omega
       exact e
     ·refine⟨4,by omega,?_⟩
      have e:ZUk x0 x1 x2 x3 x4 x5 x6 x7=ZUk 0 0 0 0 1 0 0 0:=by rw [ZUo]; omega
      exact e
    ·refine⟨3,by omega,?_⟩
     have e:ZUk x0 x1 x2 x3 x4 x5 x6 x7=ZUk 0 0 0 1 0 0 0 0:=by rw [ZUo]; omega
     exact e
   ·refine⟨2,by omega,?_⟩
    have e:ZUk x0 x1 x2 x3 x4 x5 x6 x7=ZUk 0 0 1 0 0 0 0 0:=by rw [ZUo]; omega
    exact e
  ·refine⟨1,by omega,?_⟩
   have e:ZUk x0 x1 x2 x3 x4 x5 x6 x7=ZUk 0 1 0 0 0 0 0 0:=by rw [ZUo]; omega
   exact e
 ·refine⟨0,by omega,?_⟩
  have e:ZUk x0 x1 x2 x3 x4 x5 x6 x7=ZUk 1 0 0 0 0 0 0 0:=by rw [ZUo]; omega
  exact e
theorem Zsx {q:Nat} (hq:q < 8):wdU (ZCe.set q 1) 8=1:=by
 match q,hq with
 | 0,_ | 1,_ | 2,_ | 3,_ | 4,_ | 5,_ | 6,_ | 7,_=>rfl
theorem Zsy {ds:List Int} {m:A8} (A:ds.length<=8) (pm:∀ i,i < 8->0<=m.get i/\m.get i<=255) (h:1<=wtU ds m ds.length):1<=wdU m 8:=by
 rcases Int.lt_or_le (wdU m 8) 1 with q | q
 ·exfalso;have hz:∀ i,i < 8->m.get i=0:=λi hi=>by have:=Zsv pm 8 (Cg _) hi; have:=pm i hi; omega
  have:∀ k,k<=ds.length->wtU ds m k=0:=by
   intro k
   induction k with
   | zero=>intro _; rfl
   | succ k ih=>intro hk; simp only [wtU]; rw [ih (by omega),hz k (by omega),ZP5]; rfl
  have:=this ds.length (Cg _);omega
 ·exact q
theorem Bb {m:A8} {K:Int->Prop} (pm:∀ i,i < 8->0<=m.get i/\m.get i<=255) (h:K (wdU m 8)):Ui m K:=by
 unfold Ui;refine Yp (λi (s:Int)=>s=wdU m i) 8 ?_ ?_ _ _ _ (by omega) rfl
 ·intro i s next hi hs hn;have A:=S7 pm i (by omega)
  have B:=pm i hi;rw [i64_in (m.get i) (by omega),i64_in _ (by omega)]
  exact hn _ (by simp only [wdU]; rw [hs])
 ·intro s hs; rw [hs]; exact h
theorem Zh1 {m:A8} {K:Int->Prop} (pm:∀ i,i < 8->0<=m.get i/\m.get i<=255) (h:K (wdU m 8)):Na m K:=by
 unfold Na;refine Yp (λi (s:Int)=>s=wdU m i) 8 ?_ ?_ _ _ _ (by omega) rfl
 ·intro i s next hi hs hn;have A:=S7 pm i (by omega)
  have B:=pm i hi;rw [i64_in _ (by omega)]
  exact hn _ (by simp only [wdU]; rw [hs])
 ·intro s hs; rw [hs]; exact h
theorem Zh2 {l:List Term} (hc:Canon l) {m:A8}:coT l m≠0↔∃ t,t∈l/\t.mono=m:=by
 constructor
 ·intro h;exact ZRv λhno=>h (Tg λt ht e=>hno ⟨t,ht,e⟩)
 ·rintro ⟨t,ht,rfl⟩
  have:coT l t.mono=t.factor:=by
   induction l with
   | nil=>cases ht
   | cons q l ih =>
    rcases Cb.1 ht with rfl | ht
    ·exact hc.at_head
    ·rw [Uf,if_neg (Ue (hc.head t ht)),F3]; exact ih hc.tail ht
  have:=hc.2 t ht;omega
theorem Zc9 {a b:Int} {K:Int->Prop} (h:K (if a≠0 then a else b)):Q5 [a,b] K:=by
 simp only [Q5,Z1,Zw3,List.length_nil,List.getD_cons_zero,List.getD_cons_succ];split
 ·rename_i q; rwa [if_pos q] at h
 ·rename_i q;rw [if_neg q] at h
  split
  ·exact h
  ·rename_i A;have A:b=0:=Zxc.1 A;rwa [A] at h
theorem Zsz {l:List Term} {K:Int->Prop} (hp:Q6 l) (hl:l.length<=1048576) (O:l.length=0->K 0) (U:∀ r,0 < l.length->(∃ j,j < l.length/\wdU (l.getD j Ci).mono 8=r)->(∀ j,j < l.length->r<=wdU (l.getD j Ci).mono 8)->K r):Hv ⟨l⟩ K:=by
 unfold Hv;dsimp only;refine Jj (λ(s:Int×Int)=>0<=s.2/\s.2<=l.length/\((s.2=0/\s.1=0)\/(0 < s.2/\(∃ j:Nat,(j:Int) < s.2/\wdU (l.getD j Ci).mono 8=s.1)/\∀ j:Nat,(j:Int) < s.2->s.1<=wdU (l.getD j Ci).mono 8))) (λs=>l.length - s.2.toNat) ?_ ⟨ZUm _,by dsimp only; omega,.inl ⟨rfl,rfl⟩⟩
 rintro ⟨s,i⟩ next ⟨V,g2,A⟩ hn;dsimp only at V g2 A hn ⊢
 split
 ·rename_i hi;have a:i.toNat < l.length:=by omega
  rw [i64_in (i+1) (by omega)]
  refine⟨by omega,Bb (hp _ (Yw a)) ?_⟩
  have take:(0 < i->wdU (l.getD i.toNat Ci).mono 8 < s)->next (wdU (l.getD i.toNat Ci).mono 8,i+1):=λhlt=>hn _ ⟨by dsimp only; omega,by dsimp only; omega,.inr ⟨by dsimp only; omega,⟨i.toNat,by dsimp only; omega,rfl⟩,λj hj=>by
   dsimp only at hj ⊢
   by_cases e:j=i.toNat
   ·subst e; exact ZUm _
   ·rcases A with ⟨e0,_⟩ | ⟨e0,_,hall⟩
    ·omega
    ·have:=hall j (by omega); have:=hlt e0; omega⟩⟩ (by dsimp only; omega)
  split
  ·rename_i q; exact take λz=>by omega
  ·rename_i q;split
   ·rename_i I; exact take λ_=>I
   ·rename_i I;rcases A with ⟨e0,_⟩ | ⟨e0,⟨B,L,h⟩,hall⟩
    ·omega
    ·refine hn _ ⟨by dsimp only; omega,by dsimp only; omega,.inr ⟨by dsimp only; omega,⟨B,by dsimp only; omega,h⟩,λj hj=>?_⟩⟩ (by dsimp only; omega)
     dsimp only at hj ⊢
     by_cases e:j=i.toNat
     ·subst e; omega
     ·exact hall j (by omega)
 ·rename_i hi;rcases A with ⟨e0,e1⟩ | ⟨e0,⟨B,L,h⟩,hall⟩
  ·rw [e1]; exact O (by omega)
  ·exact U s (by omega) ⟨B,by omega,h⟩ λj hj=>hall j (by omega)
def Vw (a:Alg):Prop:=∀ i,i < a.images.length->∀ j,j < (a.images.getD i Ci).terms.length->wdU ((a.images.getD i Ci).terms.getD j Ci).mono 8≠1
theorem Zs0 {a:Alg} (ok:OkAlg a) (hf:Xh a) {i:Nat} (hi:i < a.images.length) {j:Nat} (hj:j < (a.images.getD i Ci).terms.length):1<=wdU ((a.images.getD i Ci).terms.getD j Ci).mono 8:=by
 refine Zsy ok.deg.1 ((hf i hi).1.pos _ (Yw hj)) ?_
 have:=ok.hom i hi j hj;have:=ok.deg.2 i (by have:=ok.len; omega)
 omega
theorem Zs1 {a:Alg} {K:Bool->Prop} (ok:OkAlg a) (hf:Xh a) (B:Vw a->K true) (I:¬ Vw a->K false):Hw a K:=by
 unfold Hw;have U:=ok.deg.1;have hlen:=ok.len;refine Jj (λ(s:Int)=>0<=s/\s<=a.images.length/\∀ i:Nat,(i:Int) < s->∀ j,j < (a.images.getD i Ci).terms.length->wdU ((a.images.getD i Ci).terms.getD j Ci).mono 8≠1) (λs=>a.images.length - s.toNat) ?_ ⟨ZUm _,by omega,λi hi=>by omega⟩
 rintro i next ⟨V,g2,h⟩ hn;split
 ·rename_i hi;have a':i.toNat < a.images.length:=by omega
  obtain ⟨hft,hfl⟩:=hf _ a';have L:(⟨(a.images.getD i.toNat Ci).terms⟩:ZCb)=a.images.getD i.toNat Ci:=rfl;rw [i64_in (i+1) (by omega),<- L]
  have good:(∀ j,j < (a.images.getD i.toNat Ci).terms.length->wdU ((a.images.getD i.toNat Ci).terms.getD j Ci).mono 8≠1)->next (i+1):=λhh=>hn _ ⟨by omega,by omega,λk hk=>by
   by_cases e:k=i.toNat
   ·subst e; exact hh
   ·exact h k (by omega)⟩ (by omega)
  refine⟨by omega,Zsz hft.pos hfl (λe=>?_) (λr hpos hex hall=>?_)⟩
  ·rw [if_neg (by omega)]
   exact good λj hj=>by omega
  ·split
   ·rename_i q;subst q;obtain ⟨j,hj,ej⟩:=hex;exact I λz=>z _ a' j hj ej
   ·rename_i q;refine good λj hj e=>q ?_
    obtain ⟨j0,A,O⟩:=hex;have:=hall j hj;have:=Zs0 ok hf a' A;omega
 ·exact B λi hi=>h i (by omega)
theorem Zs2 {ds:List Int} {l:List Term} {K:List Int->Prop} (A:ds.length<=8) (hc:Canon l) (hp:FitT l) (h:K ((C9 ds.length).map λk=>coT l (ZCe.set k 1))):H4 ds ⟨l⟩ K:=by
 unfold H4;refine Zcw hc hp λm hm=>?_
 refine Yp (λi (s:List Int)=>s=(C9 i).map λk=>coT l (ZCe.set k 1)) ds.length ?_ ?_ _ _ _ (by omega) rfl
 ·intro i s next hi hs hn;unfold Dn;refine⟨by omega,by rw [hs]; simp; unfold Zw; omega,hn _ ?_⟩
  rw [Ti hm.ok.1,hm.cf,hs,ZUv,ZJn];simp
 ·intro s hs; rw [hs]; exact h
theorem Zh3 {α:Type} [Inhabited α] {l:List α} {p:α->(Bool->Prop)->Prop} {K:Bool->Prop} {Q:α->Prop} (hp:∀ i,i < l.length->∀ K':Bool->Prop,(Q (l.getD i Ci)->K' true)->(¬ Q (l.getD i Ci)->K' false)->p (l.getD i Ci) K')
  (A:(∃ i,i < l.length/\Q (l.getD i Ci))->K true) (B:(∀ i,i < l.length->¬ Q (l.getD i Ci))->K false) :
  Z1 (λi (s:Unit) next=>p (l.getD i Ci) (λr=>(if r=true then K (decide ((i:Int)≥0)) else next ()))) (λ(s:Unit)=>K (decide ((-1:Int)≥0))) l.length 0 ():=by
 refine Yp (λi (_:Unit)=>∀ j,j < i->¬ Q (l.getD j Ci)) l.length ?_ ?_ _ _ _ (by omega) (by intro j hj; omega)
 ·intro i s next hi h hn;refine hp i hi _ (λq=>?_) (λq=>?_)
  ·rw [if_pos rfl,decide_eq_true (show (i:Int)≥0 by omega)]
   exact A ⟨i,hi,q⟩
  ·rw [if_neg (by simp)]
   refine hn _ λj hj=>?_
   by_cases e:j=i
   ·subst e; exact q
   ·exact h j (by omega)
 ·intro s h;rw [decide_eq_false (show ¬ (-1:Int)≥0 by omega)]
  exact B h
theorem Zs3 {a:Alg} {K:Bool->Prop} (ok:OkAlg a) (hf:Xh a) (A:Vw a->K true) (B:¬ Vw a->K false):H5 a K:=by
 unfold H5 Do;have I:=ok.deg.1;have hlen:=ok.len
 let row (i:Nat):List Int:=(C9 a.degrees.length).map λk=>coT (a.images.getD i Ci).terms (ZCe.set k 1)
 refine Yp (λi (s:List (List Int))=>s=(C9 i).map row) a.images.length ?_ ?_ _ _ _ (by omega) rfl
 ·intro i s next hi hs hn;have L:(⟨(a.images.getD i Ci).terms⟩:ZCb)=a.images.getD i Ci:=rfl;rw [<- L]
  refine Zs2 I (ok.frm i hi).canon (hf i hi).1 ⟨by rw [hs]; simp; unfold Zw; omega,hn _ ?_⟩
  rw [hs,ZUv,ZJn]
  rfl
 ·intro s hs;subst hs;have hget:∀ i,i < a.images.length->((C9 a.images.length).map row).getD i Ci=row i:=λi hi=>by simp [Co,hi]
  have hrow:∀ i k,k < a.degrees.length->(row i).getD k Ci=coT (a.images.getD i Ci).terms (ZCe.set k 1):=λi k hk=>by simp [row,Co,hk]
  have key:∀ i,i < a.images.length->((∃ k,k < a.degrees.length/\coT (a.images.getD i Ci).terms (ZCe.set k 1)≠0)↔∃ j,j < (a.images.getD i Ci).terms.length/\wdU ((a.images.getD i Ci).terms.getD j Ci).mono 8=1):=λi hi=>by
   have hc:=(ok.frm i hi).canon;constructor
   ·rintro ⟨k,hk,hnz⟩;obtain ⟨t,ht,e⟩:=(Zh2 hc).1 hnz;obtain ⟨j,hj,rfl⟩:=Cw ht;refine⟨j,hj,?_⟩
    rw [<- Y9 _ _ hj,e]
    exact Zsx (by omega)
   ·rintro ⟨j,hj,ej⟩;have hm:=(ok.frm i hi).mono (Yw hj);have pm:=(hf i hi).1.pos _ (Yw hj);obtain ⟨q,hq,e⟩:=Zsw (λi hi=>(pm i hi).1) ej
    have hqn:q < a.degrees.length:=by
     rcases Nat.lt_or_ge q a.degrees.length with z | z
     ·exact z
     ·have:=(hm q hq).2 z;rw [e,ZFn hq,if_pos rfl] at this
      omega
    exact⟨q,hqn,(Zh2 hc).2 ⟨_,Yw hj,e⟩⟩
  unfold Dm Nf;refine Zh3 (l:=(C9 a.images.length).map row) (p:=λh K_=>M8 h K_) (K:=λr=>K (!r)) (Q:=λr=>∃ k,k < a.degrees.length/\r.getD k Ci≠0) (λi hi K' c1 c2=>?_) (λhex=>?_) (λhall=>?_)
  ·have hi':i < a.images.length:=by simpa using hi
   unfold M8 Mn St;rw [hget i hi'] at c1 c2 ⊢
   refine Zh3 (l:=row i) (p:=M7) (K:=K') (Q:=λx=>x≠0) (λk hk K2 O U=>?_) (λhex=>?_) (λhall=>?_)
   ·unfold M7;by_cases z:(row i).getD k Ci=0
    ·rw [decide_eq_false (λn=>n z)]; exact U λn=>n z
    ·rw [decide_eq_true z]; exact O z
   ·obtain ⟨k,hk,hz⟩:=hex;exact c1 ⟨k,by simpa [row] using hk,hz⟩
   ·exact c2 λ⟨k,hk,hz⟩=>hall k (by simpa [row] using hk) hz
  ·obtain ⟨i,hi,k,hk,hz⟩:=hex;have hi':i < a.images.length:=by simpa using hi
   rw [hget i hi',hrow i k hk] at hz
   obtain ⟨j,hj,ej⟩:=(key i hi').1 ⟨k,hk,hz⟩;exact B λz=>z i hi' j hj ej
  ·refine A λi hi j hj ej=>?_
   obtain ⟨k,hk,hz⟩:=(key i hi).2 ⟨j,hj,ej⟩;exact hall i (by simpa using hi) ⟨k,hk,by rw [hget i hi,hrow i k hk]; exact hz⟩
theorem Zs4 {a:Alg} {b:Bool} {K:Int->Prop} (hf:Xh a) (h:¬ OkAlg a->K 1) (A:OkAlg a->¬ Vw a->K 5) (B:OkAlg a->Vw a->K (if b=true then 0 else 2)):H6 a b K:=by
 unfold H6;refine Zso hf (λok=>?_) (λno=>?_)
 ·rw [if_pos rfl];refine Zs3 ok hf (λm=>?_) (λm=>?_)
  ·rw [if_neg (by simp)]
   refine Gh (Zc9 ?_)
   rw [if_neg (by simp)]
   have:=B ok m;cases b <;> simpa using this
  ·rw [if_pos (by simp)]
   refine Gh (Zc9 ?_)
   rw [if_pos (by decide)]
   exact A ok m
 ·rw [if_neg (by decide)]
  refine Gh (Zc9 ?_)
  rw [if_pos (by decide)]
  exact h no
theorem Zs5 {a:Alg} {K:Int->Prop} (hf:Xh a) (h:¬ OkAlg a->K 1) (A:OkAlg a->¬ Vw a->K 5) (B:OkAlg a->Vw a->K 0):Hx a K:=by
 unfold Hx;refine Zhz hf (λok=>?_) (λno=>?_)
 ·rw [if_neg (by simp)]
  refine Zs1 ok hf (λm=>?_) (λm=>?_)
  ·rw [if_neg (by simp)]; exact B ok m
  ·rw [if_pos (by simp)]; exact A ok m
 ·rw [if_pos (by simp)]; exact h no
def W5 (g:Int->List A8):Nat->List A8
 | 0=>[]
 | k+1=>g k++W5 g k
def Jm (d n:Int):Int:=if d % 2=1 then(if 1 < (if 20 < n / d then 20 else n / d) then 1 else(if 20 < n / d then 20 else n / d)) else(if 20 < n / d then 20 else n / d)
def X9 (ds:List Int):Nat->Nat->A8->Int->List A8
 | 0,_,m,n=>if n=0 then [m] else []
 | f+1,i,m,n=>W5 (λk=>X9 ds f (i+1) (m.set i k) (n - k * ds.getD i Ci)) ((Jm (ds.getD i Ci) n).toNat+1)
theorem Bc {d n:Int} (hd:1<=d) (hn:0<=n):0<=Jm d n/\Jm d n<=20/\Jm d n * d<=n:=by
 have A:0<=n / d:=ZU0 hn (by omega)
 have h:n / d * d<=n:=Int.ediv_mul_le n (by omega)
 have key:∀ x:Int,0<=x->x<=n / d->x * d<=n:=λx _ hx=>ZUp (ZUq hx (by omega)) h
 have hb:0<=Jm d n/\Jm d n<=20/\Jm d n<=n / d:=by
  unfold Jm;generalize n / d=q at *
  repeat' split
  all_goals omega
 exact⟨hb.1,hb.2.1,key _ hb.1 hb.2.2⟩
theorem Zh4 {c:Nat} {g rest l:List A8} (hl:l.length<=c+1):l++g.take ((c+1) - l.length)++rest.take ((c+1) - (l++g.take ((c+1) - l.length)).length)=l++(g++rest).take ((c+1) - l.length):=by
 rw [List.append_assoc,List.take_append,C8,ZJv]
 congr 3
 omega
theorem set_set {m:A8} {i:Nat} {a b:Int} (hi:i < 8):(m.set i a).set i b=m.set i b:=by
 refine ZFo λq hq=>?_
 rw [ZFn hi,ZFn hi,ZFn hi];split <;> rfl
theorem Zs6 {k:Int} (h:0<=k/\k<=20):ZCl.wrap k=k:=Zat _ (by omega)
theorem Zh5 {d n:Int} (hn:0<=n):Int.tdiv n d=n / d:=Int.tdiv_eq_ediv_of_nonneg hn
theorem Zs7 {ds:List Int} (hd:OkDeg ds):∀ (f F i:Nat) (m:A8) (n:Int) (l:List A8) (K:List A8->Prop),i+f=ds.length->f < F->(0<=n/\n<=40)->l.length<=400->K (l++(X9 ds f i m n).take (401 - l.length))->f_spec_l01Fill F ds m i n l K:=by
 intro f
 induction f with
 | zero =>
  intro F i m n l K hi U hn hl h;obtain ⟨F,rfl⟩:∃ G,F=G+1:=⟨F - 1,by omega⟩
  rw [f_spec_l01Fill.eq_2,if_pos (by omega)]
  unfold X9 at h
  split
  ·rename_i q;rw [if_pos q] at h
   refine⟨by unfold Zw; omega,?_⟩
   rwa [Fs (by simp; omega)] at h
  ·rename_i q;rw [if_neg q] at h
   simpa using h
 | succ f ih =>
  intro F i m n l K hi U hn hl h;obtain ⟨F,rfl⟩:∃ G,F=G+1:=⟨F - 1,by omega⟩
  have h8:=hd.1;have hdi:=hd.2 i (by omega)
  obtain ⟨t0,ab,tn⟩:=Bc (d:=ds.getD i Ci) (n:=n) hdi.1 hn.1;have ac:0<=n / ds.getD i Ci:=ZU0 hn.1 (by omega)
  have ad:n / ds.getD i Ci<=n:=Int.ediv_le_self _ hn.1;rw [f_spec_l01Fill.eq_2,if_neg (by omega)]
  rw [ZPx,Zh5 hn.1,i64_in (n / ds.getD i Ci) (by omega),i64_in ((i:Int)+1) (by omega)]
  have loop:∀ (t:Int),Jm (ds.getD i Ci) n=t->Xv (λ(A:A8×(List A8)×Int) B=>(if A.2.2≥0 then(if(A.2.1.length:Int)<=400 then((0<=(i:Int)/\(i:Int) < 8)/\((0<=(i:Int)/\(i:Int) < (ds.length:Int))/\f_spec_l01Fill F ds (A.1.set i (ZCl.wrap A.2.2)) ((i:Int)+1) (Zwt.wrap (n - (Zwt.wrap (A.2.2 * (ds.getD i Ci))))) A.2.1 (λr105=>B (A.1.set i (ZCl.wrap A.2.2),r105,Zwt.wrap (A.2.2 - 1))))) else K A.2.1) else K A.2.1)) (m,l,t):=by
   rintro t rfl;rw [X9] at h
   refine Jj (λ(s:A8×List A8×Int)=>(∀ b,s.1.set i b=m.set i b)/\s.2.1.length<=401/\(-1<=s.2.2/\s.2.2<=Jm (ds.getD i Ci) n)/\s.2.1++(W5 (λk=>X9 ds f (i+1) (m.set i k) (n - k * ds.getD i Ci)) (s.2.2+1).toNat).take (401 - s.2.1.length)=l++(W5 (λk=>X9 ds f (i+1) (m.set i k) (n - k * ds.getD i Ci)) ((Jm (ds.getD i Ci) n).toNat+1)).take (401 - l.length)) (λs=>(s.2.2+1).toNat) ?_ ⟨λ_=>rfl,by dsimp only; omega,by dsimp only; omega,by dsimp only; rw [show (Jm (ds.getD i Ci) n+1).toNat=(Jm (ds.getD i Ci) n).toNat+1 by omega]⟩
   rintro ⟨x,y,k⟩ next ⟨L,O,V,I⟩ hx;dsimp only at L O V I hx ⊢
   split
   ·rename_i hk;have aa:0<=k * ds.getD i Ci:=ZUs hk (by omega)
    have hkd:k * ds.getD i Ci<=n:=ZUp (ZUq V.2 (by omega)) tn
    split
    ·rename_i hy;refine⟨by omega,by omega,?_⟩
     rw [Zs6 ⟨hk,by omega⟩,i64_in (k * ds.getD i Ci) (by omega),i64_in (n - k * ds.getD i Ci) (by omega),i64_in (k - 1) (by omega),L k]
     have e:((i:Int)+1)=((i+1:Nat):Int):=by omega
     rw [e];refine ih F (i+1) _ _ _ _ (by omega) (by omega) (by omega) (by omega) (hx _ ⟨λb=>by dsimp only; rw [set_set (by omega)],?_,by dsimp only; omega,?_⟩ (by dsimp only; omega))
     ·dsimp only; rw [C8,ZJv]; omega
     ·dsimp only;rw [<- I,show (k+1).toNat=k.toNat+1 by omega,W5,show (k - 1+1).toNat=k.toNat by omega,show ((k.toNat:Nat):Int)=k by omega]
      exact Zh4 (c:=400) O
    ·rename_i hy;have e:y.length=401:=by omega
     rw [<- I,e] at h
     simpa using h
   ·rename_i hk;rw [<- I,show (k+1).toNat=0 by omega] at h
    simpa [W5] using h
  have ht:Fa (ds.getD i Ci) 2=ds.getD i Ci % 2:=ZFp (by omega)
  rw [ht];refine⟨by omega,by omega,by omega,?_⟩
  split
  ·rename_i q;refine loop _ ?_
   unfold Jm;rw [if_pos (by omega)]
   clear loop h ih;generalize n / ds.getD i Ci=q at *
   repeat' split
   all_goals omega
  ·rename_i q;refine loop _ ?_
   unfold Jm;rw [if_neg (by omega)]
theorem Zs8 {ds:List Int} (hd:OkDeg ds) (c:Nat) (hc:c<=1000):∀ (f F i:Nat) (m:A8) (n:Int) (l:List A8) (K:List A8->Prop),i+f=ds.length->f < F->(0<=n/\n<=40)->l.length<=(c+1)->K (l++(X9 ds f i m n).take ((c+1) - l.length))->f_impl_lister_from F (ds,(c:Int),l) i m n K:=by
 intro f
 induction f with
 | zero =>
  intro F i m n l K hi V hn hl h;obtain ⟨F,rfl⟩:∃ G,F=G+1:=⟨F - 1,by omega⟩
  rw [f_impl_lister_from.eq_2];dsimp only;unfold X9 at h
  split
  ·rename_i q;rw [show (c+1) - l.length=0 by omega] at h
   simpa using h
  ·rename_i q;rw [if_pos (by omega)]
   split
   ·rename_i q;rw [if_pos q] at h
    refine⟨by unfold Zw; omega,?_⟩
    rwa [Fs (by simp; omega)] at h
   ·rename_i q;rw [if_neg q] at h
    simpa using h
 | succ f ih =>
  intro F i m n l K hi V hn hl h;obtain ⟨F,rfl⟩:∃ G,F=G+1:=⟨F - 1,by omega⟩
  have h8:=hd.1;have hdi:=hd.2 i (by omega)
  obtain ⟨t0,ab,tn⟩:=Bc (d:=ds.getD i Ci) (n:=n) hdi.1 hn.1;have ac:0<=n / ds.getD i Ci:=ZU0 hn.1 (by omega)
  have ad:n / ds.getD i Ci<=n:=Int.ediv_le_self _ hn.1;rw [f_impl_lister_from.eq_2];dsimp only;split
  ·rename_i q;rw [show (c+1) - l.length=0 by omega] at h
   simpa using h
  rw [if_neg (by omega)]
  rw [ZPx,Zh5 hn.1,i64_in (n / ds.getD i Ci) (by omega),i64_in ((i:Int)+1) (by omega)]
  have loop:∀ (t:Int),Jm (ds.getD i Ci) n=t->Xv (λ(A:A8×(List A8)×Int) B=>(if A.2.2≥0 then((0<=(i:Int)/\(i:Int) < 8)/\f_impl_lister_from F (ds,(c:Int),A.2.1) ((i:Int)+1) (A.1.set i A.2.2) (Zwt.wrap (n - (Zwt.wrap (A.2.2 * (ds.getD i Ci))))) (λO=>B (A.1.set i A.2.2,O,Zwt.wrap (A.2.2 - 1)))) else K A.2.1)) (m,l,t):=by
   rintro t rfl;rw [X9] at h
   refine Jj (λ(s:A8×List A8×Int)=>(∀ b,s.1.set i b=m.set i b)/\s.2.1.length<=(c+1)/\(-1<=s.2.2/\s.2.2<=Jm (ds.getD i Ci) n)/\s.2.1++(W5 (λk=>X9 ds f (i+1) (m.set i k) (n - k * ds.getD i Ci)) (s.2.2+1).toNat).take ((c+1) - s.2.1.length)=l++(W5 (λk=>X9 ds f (i+1) (m.set i k) (n - k * ds.getD i Ci)) ((Jm (ds.getD i Ci) n).toNat+1)).take ((c+1) - l.length)) (λs=>(s.2.2+1).toNat) ?_ ⟨λ_=>rfl,by dsimp only; omega,by dsimp only; omega,by dsimp only; rw [show (Jm (ds.getD i Ci) n+1).toNat=(Jm (ds.getD i Ci) n).toNat+1 by omega]⟩
   rintro ⟨x,y,k⟩ next ⟨U,I,k3,L⟩ hx;dsimp only at U I k3 L hx ⊢
   split
   ·rename_i hk;have aa:0<=k * ds.getD i Ci:=ZUs hk (by omega)
    have hkd:k * ds.getD i Ci<=n:=ZUp (ZUq k3.2 (by omega)) tn
    refine⟨by omega,?_⟩
    rw [i64_in (k * ds.getD i Ci) (by omega),i64_in (n - k * ds.getD i Ci) (by omega),i64_in (k - 1) (by omega),U k]
    have e:((i:Int)+1)=((i+1:Nat):Int):=by omega
    rw [e];refine ih F (i+1) _ _ _ _ (by omega) (by omega) (by omega) I (hx _ ⟨λb=>by dsimp only; rw [set_set (by omega)],?_,by dsimp only; omega,?_⟩ (by dsimp only; omega))
    ·dsimp only; rw [C8,ZJv]; omega
    ·dsimp only;rw [<- L,show (k+1).toNat=k.toNat+1 by omega,W5,show (k - 1+1).toNat=k.toNat by omega,show ((k.toNat:Nat):Int)=k by omega]
     exact Zh4 I
   ·rename_i hk;rw [<- L,show (k+1).toNat=0 by omega] at h
    simpa [W5] using h
  have ht:Fa (ds.getD i Ci) 2=ds.getD i Ci % 2:=ZFp (by omega)
  rw [ht];refine⟨by omega,by omega,?_⟩
  split
  ·rename_i q;refine loop _ ?_
   unfold Jm;rw [if_pos q]
  ·rename_i q;refine loop _ ?_
   unfold Jm;rw [if_neg q]
def Gi (p:A8):Prop:=∀ q,q < 8->0<=p.get q/\p.get q<=20
theorem Bd {g:Int->List A8} {p:A8}:∀ {t:Nat}, p∈W5 g t->∃ k:Nat,k < t/\p∈g k:=by
 intro t
 induction t with
 | zero=>intro h; simp [W5] at h
 | succ t ih =>
  intro h;rw [W5] at h
  rcases Ch.1 h with h | h
  ·exact⟨t,by omega,h⟩
  ·obtain ⟨k,hk,hp⟩:=ih h;exact⟨k,by omega,hp⟩
theorem Zs9 {ds:List Int} (hd:OkDeg ds):∀ (f i:Nat) (m:A8) (n:Int),i+f=ds.length->0<=n->Gi m->∀ p,p∈X9 ds f i m n->Gi p:=by
 intro f
 induction f with
 | zero =>
  intro i m n hi hn hm p hp;unfold X9 at hp
  split at hp
  ·rw [Fc.1 hp]; exact hm
  ·simp at hp
 | succ f ih =>
  intro i m n hi hn hm p hp;have A:=hd.1;have hdi:=hd.2 i (by omega)
  obtain ⟨B,h,tn⟩:=Bc (d:=ds.getD i Ci) (n:=n) hdi.1 hn;rw [X9] at hp
  obtain ⟨k,hk,hp⟩:=Bd hp;have hkd:(k:Int) * ds.getD i Ci<=n:=ZUp (ZUq (by omega) (by omega)) tn
  refine ih (i+1) _ _ (by omega) (by omega) (λq hq=>?_) p hp
  rw [ZFn (by omega)]
  split
  ·omega
  ·exact hm q hq
def mons (ds:List Int) (n:Int):List A8:=if n < 0 then [] else X9 ds ds.length 0 ZCe n
theorem Be {ds:List Int} (hd:OkDeg ds) {n:Int}:∀ p,p∈mons ds n->Gi p:=λp hp=>by
 unfold mons at hp
 split at hp
 ·simp at hp
 ·exact Zs9 hd _ _ _ _ (by omega) (by omega) (λq hq=>by rw [ZUn]; omega) p hp
def Fits (ds:List Int) (n:Int):Prop:=(mons ds n).length<=120
instance (ds:List Int) (n:Int):Decidable (Fits ds n):=inferInstanceAs (Decidable (_<=_))
theorem kb {K:List A8->Bool->Prop} {a c:List A8} {b d:Bool} (h:K a b) (A:c=a) (B:d=b):K c d:=by rw [A,B]; exact h
theorem Bf {ds:List Int} (hd:OkDeg ds) {n:Int} (hn:n<=40) {K:List A8->Bool->Prop} (h:Fits ds n->K (mons ds n) true) (B:¬ Fits ds n->∀ l,K l false):Vt ds n 120 K:=by
 unfold Vt;by_cases A:n≥0
 ·rw [if_pos A];have I:=hd.1;have e:mons ds n=X9 ds ds.length 0 ZCe n:=by unfold mons; rw [if_neg (by omega)]
  refine Zs8 hd 120 (by omega) ds.length 9 0 ZCe n [] _ (by omega) (by omega) (by omega) (by simp) ?_
  rw [<- e]
  have et:([]:List A8)++(mons ds n).take (120+1 - ([]:List A8).length)=(mons ds n).take 121:=by simp
  by_cases hf:Fits ds n
  ·have hf':(mons ds n).length<=120:=hf;exact kb (h hf) (by rw [et,Fs (by omega)]) (decide_eq_true (by rw [et,ZJv]; omega))
  ·have hf':¬ (mons ds n).length<=120:=hf;exact kb (B hf _) rfl (decide_eq_false (by rw [et,ZJv]; omega))
 ·rw [if_neg A];have e:mons ds n=[]:=by unfold mons; rw [if_pos (by omega)]
  have:=h (by unfold Fits; rw [e]; simp)
  rw [e] at this
  exact this
theorem Gj {ds:List Int} (hd:OkDeg ds) {n:Int} (hn:0<=n/\n<=40) {K:List A8->Prop} (h:K ((mons ds n).take 401)):Sc ds n K:=by
 unfold Sc;have A:=hd.1;have e:mons ds n=X9 ds ds.length 0 ZCe n:=by unfold mons; rw [if_neg (by omega)]
 rw [e] at h
 exact Zs7 hd ds.length 9 0 ZCe n [] _ (by omega) (by omega) hn (by simp) h
theorem Zta {a:Alg} (hd:OkDeg a.degrees) {n:Int} (hn:0<=n/\n<=20) {K:Bool->Prop} (L:Fits a.degrees (n - 1)->Fits a.degrees n->Fits a.degrees (n+1)->K true) (O:¬ (Fits a.degrees (n - 1)/\Fits a.degrees n/\Fits a.degrees (n+1))->K false):Hy a (Zwt.wrap (n - 1)) (Zwt.wrap (n+1)) K:=by
 unfold Hy;rw [i64_in (n - 1) (by omega),i64_in (n+1) (by omega)]
 have fneg:∀ j:Int,j < 0->Fits a.degrees j:=λj hj=>by unfold Fits mons; rw [if_pos hj]; simp
 refine Jj (λ(s:Int)=>0<=s/\(n - 1<=s/\s<=n+2)/\∀ j:Int,n - 1<=j->j < s->Fits a.degrees j) (λs=>(n+2 - s).toNat) ?_ ?_
 ·rintro s next ⟨U,V,h⟩ hx;split
  ·rename_i q;refine Gj hd (by omega) ?_
   split
   ·rename_i B;refine O λz=>?_
    have hs:Fits a.degrees s:=by
     rcases (show s=n - 1\/s=n\/s=n+1 by omega) with e | e | e
     ·rw [e]; exact z.1
     ·rw [e]; exact z.2.1
     ·rw [e]; exact z.2.2
    have hs':(mons a.degrees s).length<=120:=hs;rw [ZJv] at B
    omega
   ·rename_i B;rw [i64_in (s+1) (by omega)]
    refine hx _ ⟨by omega,by omega,λj A I=>?_⟩ (by omega)
    by_cases e:j=s
    ·subst e
     show (mons a.degrees j).length<=120
     rw [ZJv] at B; omega
    ·exact h j A (by omega)
  ·rename_i q;exact L (h _ (by omega) (by omega)) (h _ (by omega) (by omega)) (h _ (by omega) (by omega))
 ·by_cases q:n - 1 < 0
  ·rw [if_pos q]; exact⟨by omega,by omega,λj _ hj=>fneg j hj⟩
  ·rw [if_neg q]; exact⟨by omega,by omega,λj A I=>by omega⟩
def Vj (ds:List Int) (n:Int):Prop:=Fits ds (n - 1)/\Fits ds n/\Fits ds (n+1)
theorem Ztb {a:Alg} {n:Int} {K:Int->Prop} (hf:Xh a) (ok:OkAlg a) (h:¬ (0<=n/\n<=20)->K 2) (A:(0<=n/\n<=20)->¬ Vj a.degrees n->K 3) (B:(0<=n/\n<=20)->Vj a.degrees n->K 0):Hz a n K:=by
 unfold Hz;refine Zhz hf (λ_=>?_) (λno=>absurd ok no)
 rw [if_neg (by simp)]
 refine Zbc ?_
 by_cases hn:0<=n/\n<=20
 ·rw [decide_eq_true hn,if_neg (by simp)]
  refine Zta ok.deg hn (λI L O=>?_) (λno=>?_)
  ·rw [if_neg (by simp)]; exact B hn ⟨I,L,O⟩
  ·rw [if_pos (by simp)]; exact A hn no
 ·rw [decide_eq_false hn,if_pos (by simp)]; exact h hn
theorem Ztc {S:Type} {b:Nat->S->(S->Prop)->Prop} {e:S->Prop} {s:S} (h:b 0 s e):Z1 b e 1 0 s:=h
theorem Ztd {ds:List Int} (hd:OkDeg ds) {n:Int} (hn:0<=n/\n<=20) {A B:Prop} (h:¬ Vj ds n->A) (U:Vj ds n->B) :
  Vt ds (Zwt.wrap ((([n]:List Int).getD 0 Ci) - 1)) 120 (λ_ I=>if¬ (I=true) then A else Vt ds (([n]:List Int).getD 0 Ci) 120 (λ_ L=>if¬ (L=true) then A else Vt ds (Zwt.wrap ((([n]:List Int).getD 0 Ci)+1)) 120 (λ_ O=>if¬ (O=true) then A else B))):=by
 show Vt ds (Zwt.wrap (n - 1)) 120 (λ_ I=>if¬ (I=true) then A else Vt ds n 120 (λ_ L=>if¬ (L=true) then A else Vt ds (Zwt.wrap (n+1)) 120 (λ_ O=>if¬ (O=true) then A else B)))
 rw [i64_in (n - 1) (by omega),i64_in (n+1) (by omega)]
 refine Bf hd (by omega) (λV=>?_) (λno _=>?_)
 ·rw [if_neg (by simp)]
  refine Bf hd (by omega) (λa2=>?_) (λno _=>?_)
  ·rw [if_neg (by simp)]
   refine Bf hd (by omega) (λa3=>?_) (λno _=>?_)
   ·rw [if_neg (by simp)]; exact U ⟨V,a2,a3⟩
   ·rw [if_pos (by simp)]; exact h λz=>no z.2.2
  ·rw [if_pos (by simp)]; exact h λz=>no z.2.1
 ·rw [if_pos (by simp)]; exact h λz=>no z.1
theorem S8 {ds:List Int} (hd:OkDeg ds) {n:Int} {i:Nat} (hi:i < (mons ds n).length):∀ j,j < 8->0<=((mons ds n).getD i Ci).get j/\((mons ds n).getD i Ci).get j<=255:=λj hj=>by
 have:=Be hd _ (Yw hi) j hj;omega
def Ys (p:Int) (l:List A8):List A8:=l.filter λm=>decide (p<=wdU m 8)
theorem Li {p:Int} {l:List A8} {i:Nat} (h:i < l.length):Ys p (l.take (i+1))=if p<=wdU (l.getD i Ci) 8 then Ys p (l.take i)++[l.getD i Ci] else Ys p (l.take i):=by
 rw [Xk h,Ys,ZUw];by_cases q:p<=wdU (l.getD i Ci) 8
 ·rw [if_pos q,ZQw (by simpa using q)]; rfl
 ·rw [if_neg q,ZQx (by simpa using q),List.filter_nil,ZJz]; rfl
theorem Lj (p:Int) (l:List A8):(Ys p l).length<=l.length:=ZU1 _ _
theorem Gk {ds:List Int} (hd:OkDeg ds) {n:Int}:Ys 0 (mons ds n)=mons ds n:=by
 refine List.filter_eq_self.2 λm hm=>?_
 have hs:=Be hd m hm;have:=(S7 (m:=m) (λi hi=>by have:=hs i hi; omega) 8 (by omega)).1
 simpa using this
theorem S9:∀ (l xs ys:List Int) (x y:Int),y < x->J8 (l++x::xs) (l++y::ys) < 0:=by
 intro l
 induction l with
 | nil=>intro xs ys x y h; simp only [List.nil_append,J8]; split <;> (try split) <;> omega
 | cons a l ih=>intro xs ys x y h; simp only [ZUr,J8]; split <;> (try split) <;> first | omega | exact ih xs ys x y h
theorem Zte {a b:A8} {i:Nat} (hi:i < 8) (h:∀ q,q < i->a.get q=b.get q) (hg:b.get i < a.get i):pcmp a b < 0:=by
 have hl:∀ c:A8,c.list=[c.get 0,c.get 1,c.get 2,c.get 3,c.get 4,c.get 5,c.get 6,c.get 7]:=λ_=>rfl
 unfold pcmp;rw [hl a,hl b]
 match i,hi with
 | 0,_=>exact S9 [] _ _ _ _ hg
 | 1,_=>rw [h 0 (by omega)]; exact S9 [_] _ _ _ _ hg
 | 2,_=>rw [h 0 (by omega),h 1 (by omega)]; exact S9 [_,_] _ _ _ _ hg
 | 3,_=>rw [h 0 (by omega),h 1 (by omega),h 2 (by omega)]; exact S9 [_,_,_] _ _ _ _ hg
 | 4,_=>rw [h 0 (by omega),h 1 (by omega),h 2 (by omega),h 3 (by omega)]; exact S9 [_,_,_,_] _ _ _ _ hg
 | 5,_=>rw [h 0 (by omega),h 1 (by omega),h 2 (by omega),h 3 (by omega),h 4 (by omega)]; exact S9 [_,_,_,_,_] _ _ _ _ hg
 | 6,_=>rw [h 0 (by omega),h 1 (by omega),h 2 (by omega),h 3 (by omega),h 4 (by omega),h 5 (by omega)]; exact S9 [_,_,_,_,_,_] _ _ _ _ hg
 | 7,_=>rw [h 0 (by omega),h 1 (by omega),h 2 (by omega),h 3 (by omega),h 4 (by omega),h 5 (by omega),h 6 (by omega)]; exact S9 [_,_,_,_,_,_,_] _ _ _ _ hg
theorem Zda {ds:List Int}:∀ (f i:Nat) (m:A8) (n:Int),i+f=ds.length->ds.length<=8->∀ p,p∈X9 ds f i m n->∀ q,q < i->p.get q=m.get q:=by
 intro f
 induction f with
 | zero =>
  intro i m n hi h p hp q hq;unfold X9 at hp
  split at hp
  ·rw [Fc.1 hp]
  ·simp at hp
 | succ f ih =>
  intro i m n hi h p hp q hq;rw [X9] at hp
  obtain ⟨k,hk,hp⟩:=Bd hp;have:=ih (i+1) _ _ (by omega) h p hp q (by omega)
  rw [this,ZFn (by omega),if_neg (by omega)]
theorem Ztf {ds:List Int} {f i:Nat} {m:A8} {n k:Int} (hi:i+(f+1)=ds.length) (h:ds.length<=8) {p:A8} (hp:p∈X9 ds f (i+1) (m.set i k) n):p.get i=k:=by
 have:=Zda f (i+1) (m.set i k) n (by omega) h p hp i (by omega)
 rw [this,ZFn (by omega),if_pos rfl]
theorem Ztg {g:Int->List A8} {i:Nat} (hi:i < 8) (hag:∀ k k':Int,∀ a,a∈g k->∀ b,b∈g k'->∀ q,q < i->a.get q=b.get q) (hat:∀ k:Int,∀ a,a∈g k->a.get i=k) (hs:∀ k:Int,(g k).Pairwise (λa b=>pcmp a b < 0)) :
  ∀ t,(W5 g t).Pairwise (λa b=>pcmp a b < 0):=by
 intro t
 induction t with
 | zero=>exact ZGy
 | succ t ih =>
  rw [W5];refine Zwk.2 ⟨hs _,ih,λa ha b hb=>?_⟩
  obtain ⟨k,hk,hb⟩:=Bd hb;refine Zte hi (hag _ _ a ha b hb) ?_
  rw [hat _ a ha,hat _ b hb]; omega
theorem Zth {ds:List Int} (h:ds.length<=8):∀ (f i:Nat) (m:A8) (n:Int),i+f=ds.length->(X9 ds f i m n).Pairwise (λa b=>pcmp a b < 0):=by
 intro f
 induction f with
 | zero =>
  intro i m n hi;unfold X9;split
  ·exact List.pairwise_singleton _ _
  ·exact ZGy
 | succ f ih =>
  intro i m n hi;rw [X9];refine Ztg (i:=i) (by omega) (λk k' a ha b hb q hq=>?_) (λk a ha=>Ztf hi h ha) (λk=>ih (i+1) _ _ (by omega)) _
  have A:=Zda f (i+1) _ _ (by omega) h a ha q (by omega)
  have B:=Zda f (i+1) _ _ (by omega) h b hb q (by omega)
  rw [A,B,ZFn (by omega),ZFn (by omega),if_neg (by omega),if_neg (by omega)]
theorem Gl {ds:List Int} (h:ds.length<=8) (n:Int):(mons ds n).Pairwise (λa b=>pcmp a b < 0):=by
 unfold mons;split
 ·exact ZGy
 ·exact Zth h _ _ _ _ (by omega)
def Ul (ds:List Int) (p:A8):Nat->Nat->Int
 | 0,_=>0
 | r+1,j=>ds.getD j Ci * p.get j+Ul ds p r (j+1)
theorem Zh6 {ds:List Int} (hd:OkDeg ds) {p:A8} (hp:∀ i,i < 8->0<=p.get i):∀ r j,j+r=ds.length->0<=Ul ds p r j:=by
 intro r
 induction r with
 | zero=>intro j _; exact ZUm _
 | succ r ih =>
  intro j hj;have h:=hd.1;have:=ih (j+1) (by omega)
  have A:=ZUs (a:=ds.getD j Ci) (b:=p.get j) (by have:=hd.2 j (by omega); omega) (hp j (by omega))
  simp only [Ul]; omega
theorem Zti {g:Int->List A8} {p:A8} {k:Nat} (hp:p∈g k):∀ t,k < t->p∈W5 g t:=by
 intro t
 induction t with
 | zero=>intro h; omega
 | succ t ih =>
  intro h;rw [W5];by_cases e:k=t
  ·subst e; exact Cv _ hp
  ·exact Cu _ (ih (by omega))
theorem Ztj {ds:List Int} (hd:OkDeg ds) {p:A8} (hp:∀ i,i < 8->0<=p.get i) (hm:OkMono ds p):∀ (f i:Nat) (m:A8) (n:Int),i+f=ds.length->(∀ q,q < 8->m.get q=if q < i then p.get q else 0)->Ul ds p f i=n->p∈X9 ds f i m n:=by
 intro f
 induction f with
 | zero =>
  intro i m n hi hag hn;unfold X9;simp only [Ul] at hn
  rw [if_pos hn.symm,Fc];refine ZFo λq hq=>?_
  rw [hag q hq];split
  ·rfl
  ·exact(hm q hq).2 (by omega)
 | succ f ih =>
  intro i m n hi hag hn;have h:=hd.1;have hdi:=hd.2 i (by omega)
  have hpi:=hp i (by omega)
  have hmi:=(hm i (by omega)).1 (by omega)
  simp only [Ul] at hn
  have hr:=Zh6 hd hp f (i+1) (by omega)
  rw [X9];have hk:p.get i<=n / ds.getD i Ci:=Int.le_ediv_of_mul_le (by omega) (by rw [Zvy]; omega)
  have htop:p.get i<=Jm (ds.getD i Ci) n:=by
   unfold Jm;by_cases o:ds.getD i Ci % 2=1
   ·have A:=hmi.2 (by rw [ZFp (by omega)]; omega)
    rw [if_pos o];generalize n / ds.getD i Ci=t at *
    repeat' split
    all_goals omega
   ·rw [if_neg o];generalize n / ds.getD i Ci=t at *
    repeat' split
    all_goals omega
  refine Zti (k:=(p.get i).toNat) ?_ _ (by omega)
  have e:(((p.get i).toNat:Nat):Int)=p.get i:=by omega
  rw [e];refine ih (i+1) _ _ (by omega) (λq hq=>?_) ?_
  ·rw [ZFn (by omega)]
   by_cases c:q=i
   ·subst c; rw [if_pos rfl,if_pos (by omega)]
   ·rw [if_neg c,hag q hq];by_cases c2:q < i
    ·rw [if_pos c2,if_pos (by omega)]
    ·rw [if_neg c2,if_neg (by omega)]
  ·rw [Zvy (p.get i)]; omega
theorem Ztk (ds:List Int) (p:A8):∀ (r j:Nat),Ul ds p (r+1) j=Ul ds p r j+ds.getD (j+r) Ci * p.get (j+r):=by
 intro r
 induction r with
 | zero=>intro j; simp [Ul]
 | succ r ih =>
  intro j;rw [Ul,ih (j+1),show j+1+r=j+(r+1) by omega]
  simp only [Ul]; omega
theorem Zh7 (ds:List Int) (p:A8):∀ k,Ul ds p k 0=wtU ds p k:=by
 intro k
 induction k with
 | zero=>rfl
 | succ k ih=>rw [Ztk,ih,Zwz,wtU]
theorem Zh8 {ds:List Int} (hd:OkDeg ds) {p:A8} (hp:∀ i,i < 8->0<=p.get i) (hm:OkMono ds p):p∈mons ds (wtU ds p ds.length):=by
 have h:=Zh6 hd hp ds.length 0 (by omega)
 rw [Zh7] at h
 unfold mons;rw [if_neg (by omega)]
 exact Ztj hd hp hm _ _ _ _ (by omega) (λq hq=>by rw [ZUn,if_neg (by omega)]) (Zh7 ds p _)
def Bg (m:A8) (i:Nat):A8:=A8.mkf λj=>if i < j then m.get j else if j=i then m.get i - 1 else 0
theorem Zdb (ds:List Int) (a b:A8):∀ k,wtU ds (a.add b) k=wtU ds a k+wtU ds b k:=by
 intro k
 induction k with
 | zero=>rfl
 | succ k ih=>simp only [wtU]; rw [ih,ZUi,ZUj]; omega
theorem Ztl (ds:List Int) (m:A8) (j:Nat):∀ k,k<=8->wtU ds ((Jh m j).add (Bg m j)) k=wtU ds m k - if j < k then ds.getD j Ci else 0:=by
 intro k
 induction k with
 | zero=>intro _; simp [wtU]
 | succ k ih =>
  intro hk;simp only [wtU];rw [ih (by omega),ZUi,Jh,Bg,ZUh _ (by omega),ZUh _ (by omega)]
  by_cases c1:k < j
  ·rw [if_pos c1,if_neg (by omega),if_neg (by omega),if_neg (by omega),if_neg (by omega),ZP1]; omega
  ·by_cases c2:k=j
   ·subst c2;rw [if_neg (by omega),if_neg (by omega),if_neg (by omega),if_pos rfl,if_pos (by omega),F3,Int.mul_sub,ZUu]; omega
   ·rw [if_neg c1,if_pos (by omega),if_pos (by omega),if_pos (by omega),F3]; omega
theorem Zh9 {ds:List Int} (hd:OkDeg ds) {y:A8} (hp:∀ q,q < 8->0<=y.get q):∀ k,k<=ds.length->0<=wtU ds y k/\∀ q,q < k->y.get q<=wtU ds y k:=by
 intro k
 induction k with
 | zero=>intro _; exact⟨ZUm _,λq hq=>by omega⟩
 | succ k ih =>
  intro hk;have A:=hd.1;obtain ⟨B,h⟩:=ih (by omega)
  have hdk:=hd.2 k (by omega)
  have hy:=hp k (by omega)
  have hm:y.get k<=ds.getD k Ci * y.get k:=by
   have:=ZUq (a:=1) (b:=ds.getD k Ci) (c:=y.get k) (by omega) hy
   rwa [ZQb] at this
  simp only [wtU];refine⟨by omega,λq hq=>?_⟩
  by_cases c:q=k
  ·subst c; omega
  ·have:=h q (by omega); omega
theorem Ztm {ds:List Int} {m:A8} {i:Nat} {k:Int} (hi:i < 8):∀ j,j<=i->wtU ds (m.set i k) j=wtU ds m j:=by
 intro j
 induction j with
 | zero=>intro _; rfl
 | succ j ih=>intro hj; simp only [wtU]; rw [ih (by omega),ZFn hi,if_neg (by omega)]
theorem Zia {ds:List Int} (hd:OkDeg ds):∀ (f i:Nat) (m:A8) (n:Int),i+f=ds.length->0<=n->(∀ q,q < 8->i<=q->m.get q=0)->(∀ q,q < i->m.get q<=20/\(Fa (ds.getD q Ci) 2≠0->m.get q<=1))->∀ p,p∈X9 ds f i m n->OkMono ds p/\wtU ds p ds.length=wtU ds m i+n:=by
 intro f
 induction f with
 | zero =>
  intro i m n hi hn h A p hp;unfold X9 at hp
  split at hp
  ·rename_i e;rw [Fc.1 hp];refine⟨λq hq=>⟨λhl=>A q (by omega),λhl=>h q hq (by omega)⟩,?_⟩
   rw [show ds.length=i by omega,e,ZP1]
  ·simp at hp
 | succ f ih =>
  intro i m n hi hn h A p hp;have h8:=hd.1;have hdi:=hd.2 i (by omega)
  obtain ⟨L,I,tn⟩:=Bc (d:=ds.getD i Ci) (n:=n) hdi.1 hn;rw [X9] at hp
  obtain ⟨k,hk,hp⟩:=Bd hp;have hkt:(k:Int)<=Jm (ds.getD i Ci) n:=by omega
  have hkd:(k:Int) * ds.getD i Ci<=n:=ZUp (ZUq hkt (by omega)) tn
  have B:Fa (ds.getD i Ci) 2≠0->(k:Int)<=1:=λo=>by
   rw [ZFp (by omega)] at o
   have:Jm (ds.getD i Ci) n<=1:=by
    unfold Jm;rw [if_pos (by omega)]
    clear hkt hkd hp L I tn hk;generalize n / ds.getD i Ci=q at *
    repeat' split
    all_goals omega
   omega
  obtain ⟨O,U⟩:=ih (i+1) (m.set i k) (n - k * ds.getD i Ci) (by omega) (by omega) (λq hq V=>by rw [ZFn (by omega),if_neg (by omega)]; exact h q hq (by omega)) (λq hq=>by
   rw [ZFn (by omega)]
   by_cases e:q=i
   ·subst e; rw [if_pos rfl]; exact⟨by omega,B⟩
   ·rw [if_neg e]; exact A q (by omega)) p hp
  refine⟨O,?_⟩
  rw [U,wtU,Ztm (by omega) i (Cg _),ZFn (by omega),if_pos rfl,Zvy (k:Int)]
  omega
theorem Bh {ds:List Int} (hd:OkDeg ds) {n:Int} {p:A8} (h:p∈mons ds n):OkMono ds p/\wtU ds p ds.length=n/\Gi p:=by
 refine⟨?_,?_,Be hd p h⟩ <;> (unfold mons at h; split at h; · simp at h)
 ·exact(Zia hd _ _ _ _ (by omega) (by omega) (λq hq _=>ZUn ..) (λq hq=>by omega) p h).1
 ·have:=(Zia hd _ _ _ _ (by omega) (by omega) (λq hq _=>ZUn ..) (λq hq=>by omega) p h).2
  rw [this]; simp [wtU]
theorem Ztn {p:A8} (h:Gi p):Ve .u8 p:=λx hx=>by
 obtain ⟨i,hi,rfl⟩:=A8.mem_list.1 hx;have:=h i hi;simp only [Fit,Lit.wf,Bool.and_eq_true,decide_eq_true_eq];simp [IntKind.min,IntKind.max,IntKind.signed,IntKind.bits];omega
theorem Zto {m:A8} {j:Nat}:(leftA m j).add (backA m j)=(Jh m j).add (Bg m j):=ZFo λq hq=>by
 rw [ZUi,ZUi,leftA,backA,Jh,Bg,ZUh _ hq,ZUh _ hq,ZUh _ hq,ZUh _ hq];by_cases a:q < j
 ·rw [if_pos a,if_pos a,if_neg (by omega),if_neg (by omega),if_neg (by omega)]
 ·by_cases b:q=j
  ·subst b; rw [if_neg a,if_pos rfl,if_neg (by omega)]; omega
  ·rw [if_neg a,if_neg b,if_pos (by omega),if_neg a]
theorem Ztp {ds:List Int} {imgs:List (List Term)} {y m:A8} (A:ds.length<=8) (hm:OkMono ds m) (h:DMono ds imgs y m):∃ j u,j < ds.length/\0 < m.get j/\u∈imgs.getD j Ci/\wtU ds y ds.length=wtU ds m ds.length - ds.getD j Ci+wtU ds u.mono ds.length:=by
 obtain ⟨j,u,B,I,L,rfl,_,_⟩:=h;have hj:j < ds.length:=ZUx λz=>by have:=(hm j B).2 z; omega
 refine⟨j,u,hj,I,L,?_⟩
 have e:=Ztl ds m j ds.length A;rw [<- Zto,Zdb,if_pos hj] at e
 rw [Zdb,Zdb];omega
theorem Ztq {ds:List Int} {imgs:List (List Term)} {y m:A8} (U:ds.length<=8) (hm:OkMono ds m) (pm:∀ i,i < 8->0<=m.get i/\m.get i<=20) (B:∀ j u,u∈imgs.getD j Ci->OkMono ds u.mono/\∀ i,i < 8->0<=u.mono.get i/\u.mono.get i<=20) (h:DMono ds imgs y m):Jr ds y/\∀ q,q < 8->0<=y.get q:=by
 obtain ⟨j,u,I,A,L,rfl,c1,c2⟩:=h;obtain ⟨lb,bb,lbb⟩:=Zc6 pm A;obtain ⟨wl,wb⟩:=Zc0 hm I A;obtain ⟨ou,bu⟩:=B j u L;have O:=D9 wl ou.wk (λq hq=>(lb q hq).1) (λq hq=>(bu q hq).1) (λq hq=>by have:=lb q hq; have:=bu q hq; omega) c1
 have b1:∀ q,q < 8->0<=((leftA m j).add u.mono).get q/\((leftA m j).add u.mono).get q<=40:=λq hq=>by rw [ZUi]; have:=lb q hq; have:=bu q hq; omega
 exact⟨D9 O wb (λq hq=>(b1 q hq).1) (λq hq=>(bb q hq).1) (λq hq=>by have:=b1 q hq; have:=bb q hq; omega) c2,λq hq=>by rw [ZUi]; have:=b1 q hq; have:=bb q hq; omega⟩
theorem Zdc:∀ {l:List Term}, Canon l->∀ {t:Term}, t∈l->coT l t.mono=t.factor
 | [],_,t,ht=>by simp at ht
 | s :: l, hc, t, ht => by
  rcases Cb.1 ht with e | ht'
  ·rw [e]; exact hc.at_head
  ·rw [Uf,if_neg (Ue (hc.head t ht')),F3]; exact Zdc hc.tail ht'
theorem Zib {l:List A8} (hs:l.Pairwise (λa b=>pcmp a b < 0)) {k:Nat} {a b:A8} (ha:a∈l.take k) (hb:b∈l.drop k):pcmp a b < 0:=by
 rw [<- Zya k l] at hs
 exact(Zwk.1 hs).2.2 a ha b hb
theorem Zic {α:Type} [Inhabited α] {l:List α} {k:Nat} (hk:k < l.length):l.drop k=l.getD k Ci::l.drop (k+1):=by
 rw [List.drop_eq_getElem_cons hk]; simp [Co,hk]
theorem Zid {f:List Term} {l:List A8} {K:List Int->Prop} (hc:Canon f) (hs:l.Pairwise (λa b=>pcmp a b < 0)) (hin:∀ t,t∈f->t.mono∈l) (hl:l.length<=1000000) (h:K (l.map (coT f))):Vu ⟨f⟩ l K:=by
 have hfl:f.length<=1000000:=by
  have hn:(f.map Term.mono).Nodup:=by
   refine ZP3.2 (hc.1.imp λq=>Ue q)
  have:=hn.length_le_of_subset (l₂:=l) (λx hx=>by obtain ⟨t,ht,rfl⟩:=Cp.1 hx; exact hin t ht)
  rw [ZPv] at this; omega
 unfold Vu;dsimp only;refine⟨by omega,?_⟩
 rw [ZPx];refine Jj (λ(s:List Int×Int×Int)=>(0<=s.2.1/\s.2.1<=f.length)/\(0<=s.2.2/\s.2.2<=l.length)/\s.1.length=l.length/\(∀ j,j < l.length->s.1.getD j Ci=if j < s.2.2.toNat then coT f (l.getD j Ci) else 0)/\(∀ t,t∈f.take s.2.1.toNat->t.mono∈l.take s.2.2.toNat)/\∀ t,t∈f.drop s.2.1.toNat->t.mono∈l.drop s.2.2.toNat) (λs=>l.length - s.2.2.toNat) ?_ ⟨by dsimp only; omega,by dsimp only; omega,by simp,λj hj=>by simp [Co,hj],by simp,by simpa using hin⟩
 rintro ⟨out,B,k⟩ next ⟨g1,g2,I,O,L,U⟩ hn;dsimp only at g1 g2 I O L U hn ⊢
 have fin:(∀ j,j < l.length->¬ j < k.toNat->coT f (l.getD j Ci)=0)->K out:=λq=>by
  have e:out=l.map (coT f):=by
   refine Zvx (by simp [I]) λj A V=>?_
   have hj:j < l.length:=by omega
   have:=O j hj;rw [show out.getD j Ci=out[j] by simp [Co,A]] at this
   rw [this,List.getElem_map,show l[j]=l.getD j Ci by simp [Co,hj]]
   split
   ·rfl
   ·rename_i z; exact(q j hj z).symm
  rw [e]; exact h
 by_cases hk:k < (l.length:Int)
 ·have hkn:k.toNat < l.length:=by omega
  refine Y4 hk ?_
  have ki:(k+1).toNat=k.toNat+1:=by omega
  by_cases ha:B < (f.length:Int)
  ·have han:B.toNat < f.length:=by omega
   have ai:(B+1).toNat=B.toNat+1:=by omega
   refine Y4 ha ⟨⟨g1.1,ha⟩,⟨g2.1,hk⟩,?_⟩
   rw [i64_in (k+1) (by omega),i64_in (B+1) (by omega)]
   have hdl:=Zic hkn;have hdf:=Zic han;have hlk:l.getD k.toNat Ci∈l.drop k.toNat:=by rw [hdl]; simp
   have hfa:f.getD B.toNat Ci∈f.drop B.toNat:=by rw [hdf]; simp
   have hfm:f.getD B.toNat Ci∈f:=ZU9 hfa;have tk:∀ t,t∈f.take B.toNat->t.mono≠l.getD k.toNat Ci:=λt ht=>Ue (Zib hs (L t ht) hlk)
   have t2:∀ t,t∈f.drop (B.toNat+1)->pcmp (f.getD B.toNat Ci).mono t.mono < 0:=λt ht=>by
    have hp:=hc.1.sublist (List.drop_sublist B.toNat f);rw [hdf] at hp
    exact(Cl.1 hp).1 t ht
   have step:∀ t:Term,t.mono∈l.drop k.toNat->t.mono≠l.getD k.toNat Ci->t.mono∈l.drop (k.toNat+1):=λt A V=>by
    rw [hdl] at A
    rcases Cb.1 A with q | q
    ·exact absurd q V
    ·exact q
   have takeS:∀ t:Term,t.mono∈l.take k.toNat->t.mono∈l.take (k.toNat+1):=λt A=>by
    rw [Xk hkn]; exact Cv _ A
   by_cases q:(f.getD B.toNat Ci).mono=l.getD k.toNat Ci
   ·refine Y4 q ⟨⟨g1.1,ha⟩,⟨g2.1,by rw [I]; exact hk⟩,hn _ ⟨by dsimp only; omega,by dsimp only; omega,by dsimp only; rw [ZC4]; exact I,λj hj=>?_,λt ht=>?_,λt ht=>?_⟩ (by dsimp only; omega)⟩
    ·dsimp only;rw [Zc3 (by omega),ki]
     by_cases e:j=k.toNat
     ·subst e;rw [if_pos rfl,if_pos (by omega),<- q,Zdc hc hfm]
     ·rw [if_neg e,O j hj];by_cases c:j < k.toNat
      ·rw [if_pos c,if_pos (by omega)]
      ·rw [if_neg c,if_neg (by omega)]
    ·dsimp only at ht ⊢
     rw [ai,Xk han] at ht
     rw [ki];rcases Ch.1 ht with z | z
     ·exact takeS t (L t z)
     ·obtain rfl:=Fc.1 z;rw [Xk hkn,q]; simp
    ·dsimp only at ht ⊢
     rw [ai] at ht
     rw [ki];exact step t (U t (by rw [hdf]; exact ZJk _ ht)) (λz=>Ue (t2 t ht) (by rw [q,z]))
   ·have hz:∀ t,t∈f->t.mono≠l.getD k.toNat Ci:=λt ht=>by
     rw [<- Zya B.toNat f] at ht
     rcases Ch.1 ht with z | z
     ·exact tk t z
     ·rw [hdf] at z
      rcases Cb.1 z with rfl | z
      ·exact q
      ·intro e;have A:=step _ (U _ hfa) q
       have V:pcmp (l.getD k.toNat Ci) (f.getD B.toNat Ci).mono < 0:=by
        have hp:=hs.sublist (List.drop_sublist k.toNat l);rw [hdl] at hp
        exact(Cl.1 hp).1 _ A
       have h3:=t2 t z;rw [e] at h3
       exact E0 V h3
    refine Y8 q (hn _ ⟨by dsimp only; omega,by dsimp only; omega,I,λj hj=>?_,λt ht=>?_,λt ht=>?_⟩ (by dsimp only; omega))
    ·dsimp only;rw [O j hj,ki];by_cases e:j=k.toNat
     ·subst e;rw [if_neg (by omega),if_pos (by omega),Tg hz]
     ·by_cases c:j < k.toNat
      ·rw [if_pos c,if_pos (by omega)]
      ·rw [if_neg c,if_neg (by omega)]
    ·dsimp only at ht ⊢
     rw [ki]; exact takeS t (L t ht)
    ·dsimp only at ht ⊢
     rw [ki]; exact step t (U t ht) (hz t (ZU9 ht))
  ·refine Y8 ha (fin λj hj hjk=>Tg λt ht=>?_)
   have:t∈f.take B.toNat:=by rw [Fs (by omega)]; exact ht
   refine Ue (Zib hs (L t this) ?_)
   rw [List.mem_iff_getElem];exact⟨j - k.toNat,by rw [List.length_drop]; omega,by rw [List.getElem_drop]; simp [Co,hj,show k.toNat+(j - k.toNat)=j by omega]⟩
 ·exact Y8 hk (fin λj hj hjk=>by omega)
theorem Ztr {ds:List Int} (hd:OkDeg ds) {y:A8} (hp:∀ q,q < 8->0<=y.get q):∀ k,k<=ds.length->∀ q,q < k->2<=ds.getD q Ci->2 * y.get q<=wtU ds y k:=by
 intro k
 induction k with
 | zero=>intro _ q hq; omega
 | succ k ih =>
  intro hk q hq h;have A:=hd.1;have hdk:=hd.2 k (by omega)
  have hy:=hp k (by omega)
  have B:=(Zh9 hd hp k (by omega)).1
  simp only [wtU];by_cases c:q=k
  ·subst c;have:=ZUq h hy;omega
  ·have:=ih (by omega) q (by omega) h
   have:=ZUs (a:=ds.getD k Ci) (b:=y.get k) (by omega) hy
   omega
theorem Zts {ds:List Int} (hd:OkDeg ds) {y:A8} (hw:Jr ds y) (hp:∀ q,q < 8->0<=y.get q) (h:wtU ds y ds.length<=40):OkMono ds y:=λq hq =>
 ⟨λz=>⟨by
  have B:=(Zh9 hd hp ds.length (Cg _));have hdq:=hd.2 q z;by_cases o:Fa (ds.getD q Ci) 2≠0
  ·have:=((hw q hq).1 z).2 o; omega
  ·have A:2<=ds.getD q Ci:=by
    rw [ZFp (by omega)] at o; omega
   have I:=Ztr hd hp ds.length (Cg _) q z A;omega,((hw q hq).1 z).2⟩,(hw q hq).2⟩
theorem Ztt {ds:List Int} (hd:OkDeg ds) {y:A8} {n:Int} (hw:Jr ds y) (hp:∀ q,q < 8->0<=y.get q) (h:wtU ds y ds.length=n) (hn:n<=40):y∈mons ds n:=by
 rw [<- h]; exact Zh8 hd hp (Zts hd hw hp (by omega))
theorem Zdd {l:List A8} (hd:l.Nodup) {i j:Nat} (hi:i < l.length) (hj:j < l.length) (h:l[i]=l[j]):i=j:=by
 rcases Nat.lt_trichotomy i j with q | q | q
 ·exact absurd h (Cq.1 hd i j hi hj q)
 ·exact q
 ·exact absurd h.symm (Cq.1 hd j i hj hi q)
def plc (l:List A8):Nat->List (A8×Int)
 | 0=>[]
 | k+1=>Yv (plc l k) (l.getD k Ci) (k:Int)
theorem Zde (l:List A8):∀ k,((plc l k).map Fo).Nodup
 | 0=>by simp [plc]
 | k+1=>Ej (Zde l k)
theorem Zie {l:List A8} (hd:l.Nodup):∀ k,k<=l.length->∀ i,i < k->co (plc l k) (l.getD i Ci)=i
 | 0,_,i,hi=>by omega
 | k + 1, hk, i, hi => by
  rw [plc,Zbe (Zde l k)];by_cases e:i=k
  ·subst e; rw [if_pos rfl]
  ·rw [if_neg,Zie hd k (by omega) i (by omega)]
   intro h;have A:l.getD i Ci=l[i]'(by omega):=by simp [Co,show i < l.length by omega]
   have B:l.getD k Ci=l[k]'(by omega):=by simp [Co,show k < l.length by omega]
   rw [A,B] at h
   exact e (Zdd hd _ _ h)
theorem Ztu (l:List A8):Zb2 l (plc l l.length):=by
 unfold Zb2;exact Yp (λi (s:List (A8×Int))=>s=plc l i) l.length (λi s next hi hs hn=>hn _ (by rw [hs]; rfl)) (λs hs=>hs) _ _ _ (by omega) rfl
theorem Ztv {m:List (A8×Int)} (h:(m.map Fo).Nodup) {p:A8×Int} (hp:p∈m):co m p.1=p.2:=by
 induction m with
 | nil=>cases hp
 | cons q m ih =>
  simp only [List.map_cons,ZFj] at h
  rw [Vs];rcases Cb.1 hp with rfl | hp
  ·rw [if_pos rfl]
   have:co m p.1=0:=by
    rw [<- Ti h.2]
    cases hg:Xa m p.1 with
    | none=>rfl
    | some v =>
     exfalso;cases hf:Wr m p.1 0 with
     | none=>rw [(Tz hf).1] at hg; cases hg
     | some z=>obtain ⟨j,u⟩:=z; exact h.1 (Cp.2 ⟨_,List.mem_of_getElem? (T0 hf).2.1,rfl⟩)
   omega
  ·rw [if_neg (λe:q.1=p.1=>h.1 (by rw [e]; exact Cp.2 ⟨p,hp,rfl⟩)),ih h.2 hp]; omega
theorem Ztw {m:List (A8×Int)} (h:(m.map Fo).Nodup) {x:A8} (hx:x∉m.map Fo):co m x=0:=by
 rw [<- Ti h]
 cases hf:Wr m x 0 with
 | none=>rw [(Tz hf).1]; rfl
 | some z=>obtain ⟨j,u⟩:=z; exact absurd (Cp.2 ⟨_,List.mem_of_getElem? (T0 hf).2.1,rfl⟩) hx
theorem Ztx {α:Type} {l l':List α} {p:α} {i:Nat} (h:i < l.length) (hp:l[i]=p) (hl:l'=l.eraseIdx i):∀ x,x∈l->x=p\/x∈l':=by
 subst hp hl;intro x hx;obtain ⟨j,hj,rfl⟩:=Cw hx;by_cases e:j=i
 ·subst e; exact .inl rfl
 ·refine .inr (List.mem_eraseIdx_iff_getElem.2 ⟨j,hj,e,rfl⟩)
theorem Zty {l:List A8} {m:List (A8×Int)} {K:List Int->Prop} (hl:l.length<=1000000) (hd:l.Nodup) (hm:(m.map Fo).Nodup) (hin:∀ p,p∈m->p.1∈l) (h:K (l.map (co m))):Nb ⟨l,plc l l.length⟩ m K:=by
 unfold Nb;dsimp only;refine⟨by omega,?_⟩
 rw [ZPx];refine Ka (λl' (s:List Int)=>s.length=l.length/\(∀ p,p∈l'->p∈m)/\∀ i,i < l.length->l.getD i Ci∉l'.map Fo->s.getD i 0=co m (l.getD i Ci)) ?_ ?_ m _ ⟨by simp,λ_ h=>h,λi hi hn=>?_⟩
 ·rintro l1 p l2 s next ⟨j,hj,hp,B⟩ ⟨L,O,U⟩ hn;have hpm:p∈l1:=hp ▸ List.getElem_mem hj;obtain ⟨A,I,e0⟩:=Cw (hin p (O p hpm));have e1:l.getD A Ci=p.1:=by rw [<- e0]; simp [Co,I]
  have ec:(Xa (plc l l.length) p.1).getD 0=(A:Int):=by
   rw [Ti (Zde _ _),<- e1]; exact Zie hd l.length (Cg _) A I
  rw [ec,ZPx];refine⟨by omega,hn _ ⟨by rw [ZC4]; exact L,λq hq=>O q (by rw [B] at hq; exact List.mem_of_mem_eraseIdx hq),λi hi hno=>?_⟩⟩
  by_cases e:i=A
  ·subst e;rw [e1,Ztv hm (O p hpm)];simp [Co,show i < s.length by omega]
  ·have e2:(s.set A p.2).getD i 0=s.getD i 0:=by
    simp only [Co]; rw [List.getElem?_set_ne (λq=>e q.symm)]
   rw [e2];refine U i hi λhmem=>?_
   obtain ⟨q,hq,eq⟩:=Cp.1 hmem;rcases Ztx hj hp B q hq with rfl | aa
   ·have V:l.getD i Ci=l[i]:=by simp [Co,hi]
    rw [V,<- e0] at eq
    exact e (Zdd hd _ _ eq.symm)
   ·exact hno (Cp.2 ⟨q,aa,eq⟩)
 ·rintro s ⟨L,_,U⟩
  have:s=l.map (co m):=by
   refine Zvx (by simp [L]) λi V h2=>?_
   have hi:i < l.length:=by omega
   have:=U i hi (by simp)
   simp only [Co,List.getElem?_eq_getElem V,List.getElem?_eq_getElem hi,Option.getD_some] at this
   rw [this]; simp
  rw [this]; exact h
 ·rw [Ztw hm hn];simp [Co,hi]
structure IsSumOf (l:List A8) (row:List Int) (m:List (A8×Int)):Prop where
 ok:MapOk m
 cf:∀ j,j < l.length->co m (l.getD j Ci)=vec row j
 ks:∀ p,p∈m->p.1∈l
theorem Ztz {l:List A8} {pl:List (A8×Int)} {row:List Int} {K:List (A8×Int)->Prop} (hd:l.Nodup) (hr:RowOk l.length row) (h:∀ m,IsSumOf l row m->K m):Hj ⟨l,pl⟩ row K:=by
 unfold Hj;dsimp only;have hlen:=hr.len;refine Yp (λi (s:List (A8×Int))=>MapOk s/\(∀ j,j < l.length->co s (l.getD j Ci)=if j < i then vec row j else 0)/\∀ p,p∈s->p.1∈l) row.length ?_ ?_ _ _ _ (by omega) ⟨MapOk.nil,λj hj=>rfl,by simp⟩
 ·rintro i s next hi ⟨B,I,L⟩ hn;have hil:i < l.length:=by omega
  have hv:row.getD i Ci=vec row i:=rfl;have rg:=hr.rng i;have hx:l.getD i Ci∈l:=Yw hil;refine⟨by omega,Zcx B (by rw [hv]; omega) λs' hp=>hn s' ⟨hp.ok,λj hj=>?_,λp hps=>?_⟩⟩
  ·have A:=hp.cf (l.getD j Ci);have h2:=hp.ok.range (l.getD j Ci);have O:=I j hj;have rj:=hr.rng j;rw [O,hv] at A
   by_cases e:j=i
   ·subst e;rw [if_neg (by omega),if_pos rfl] at A
    rw [if_pos (by omega)]; omega
   ·have hne:¬ l.getD i Ci=l.getD j Ci:=by
     intro q;have U:l.getD i Ci=l[i]:=by simp [Co,hil]
     have V:l.getD j Ci=l[j]:=by simp [Co,hj]
     rw [U,V] at q
     exact e (Zdd hd _ _ q).symm
    rw [if_neg hne] at A
    by_cases q:j < i
    ·rw [if_pos q] at A; rw [if_pos (by omega)]; omega
    ·rw [if_neg q] at A; rw [if_neg (by omega)]; omega
  ·rcases hp.ks p hps with e | ⟨q,hq,e⟩
   ·rw [e]; exact hx
   ·rw [<- e]; exact L q hq
 ·rintro s ⟨B,I,L⟩;exact h s ⟨B,λj hj=>by rw [I j hj,if_pos (by omega)],L⟩
def fm:List A8->List Int->List Term
 | m::l,r::row=>if r=0 then fm l row else⟨m,r⟩::fm l row
 | _,_=>[]
theorem Bi (row:List Int):fm [] row=[]:=by cases row <;> rfl
theorem Gm {l:List A8}:∀ {row:List Int} {t:Term}, t∈fm l row->t.mono∈l:=by
 induction l with
 | nil=>intro row t h; rw [Bi] at h; cases h
 | cons m l ih =>
  intro row t h;cases row with
  | nil=>cases h
  | cons r row =>
   rw [fm] at h
   split at h
   ·exact ZJk _ (ih h)
   ·rcases Cb.1 h with rfl | h
    ·exact ZJs
    ·exact ZJk _ (ih h)
def Zdf (row:List Int):Prop:=∀ x,x∈row->0<=x/\x<=10006
theorem Lk {n:Nat} {row:List Int} (h:RowOk n row):Zdf row:=λx hx=>by
 obtain ⟨i,hi,rfl⟩:=Cw hx;have:=h.rng i;rwa [U5 hi] at this
def Srt (l:List A8):Prop:=l.Pairwise (λa b=>pcmp a b < 0)
theorem Srt.nd {l:List A8} (h:Srt l):l.Nodup:=h.imp λq=>Ue q
theorem Gn {l:List A8} (hs:Srt l):∀ {row:List Int}, Zdf row->Canon (fm l row):=by
 induction l with
 | nil=>intro row _; rw [Bi]; exact Canon.nil
 | cons m l ih =>
  intro row hr;cases row with
  | nil=>exact Canon.nil
  | cons r row =>
   obtain ⟨h,A⟩:=Cl.1 hs;have B:=ih A (λx hx=>hr x (ZJk _ hx))
   have I:=hr r ZJs;rw [fm];split
   ·exact B
   ·rename_i q;refine⟨Cl.2 ⟨λt ht=>h _ (Gm ht),B.1⟩,λt ht=>?_⟩
    rcases Cb.1 ht with rfl | ht
    ·dsimp only; omega
    ·exact B.2 t ht
theorem Zt0 (l:List A8):∀ row:List Int,(fm l row).length<=l.length:=by
 induction l with
 | nil=>intro row; rw [Bi]; simp
 | cons m l ih =>
  intro row;cases row with
  | nil=>simp [fm]
  | cons r row =>
   have:=ih row;rw [fm]; split
   ·simp only [Zw3]; omega
   ·simp only [Zw3]; omega
theorem Nr {l:List A8}:∀ {row:List Int}, l.Nodup->row.length=l.length->∀ j,j < l.length->coT (fm l row) (l.getD j Ci)=vec row j:=by
 induction l with
 | nil=>intro row _ _ j hj; simp at hj
 | cons m l ih =>
  intro row hd hl j hj;cases row with
  | nil=>simp at hl
  | cons r row =>
   obtain ⟨h,B⟩:=ZFj.1 hd;have A:coT (fm l row) m=0:=Tg λt ht e=>h (e ▸ Gm ht)
   cases j with
   | zero =>
    show coT (fm (m::l) (r::row)) m=r
    rw [fm];split
    ·rename_i q; rw [A,q]
    ·rw [Uf,if_pos rfl,A,ZP1]
   | succ j =>
    have hj':j < l.length:=by simpa using hj
    have I:(m::l).getD (j+1) Ci=l.getD j Ci:=by simp [Co]
    have L:=ih B (by simpa using hl) j hj'
    rw [I,B6,<- L,fm]
    split
    ·rfl
    ·rw [Uf,if_neg (λe:m=l.getD j Ci=>h (e ▸ Yw hj')),F3]
theorem Ns {l:List A8} {row:List Int} {x:A8} (h:x∉l):coT (fm l row) x=0:=Tg λt ht e=>h (e ▸ Gm ht)
theorem Nt {α:Type} [Inhabited α] {l:List α} {q:Nat} (hq:q < l.length):l.getD q Ci=l[q]:=by simp [Co,hq]
theorem Qa {α:Type} [Inhabited α] {l:List α} {x:α} (h:x∈l):∃ i,i < l.length/\l.getD i Ci=x:=by
 obtain ⟨i,hi,rfl⟩:=Cw h;exact⟨i,hi,by simp [Co,hi]⟩
theorem Zt1 {l:List A8} {row:List Int} {m:List (A8×Int)} (hs:Srt l) (hr:RowOk l.length row) (h:IsSumOf l row m):IsMap (fm l row) m :=
 Zc2 (Gn hs (Lk hr)) h.ok λx=>by
  by_cases hx:x∈l
  ·obtain ⟨j,hj,rfl⟩:=Qa hx;rw [h.cf j hj,Nr hs.nd hr.len j hj]
  ·rw [Ns hx,T7 λt ht e=>hx (by rw [<- e]; exact h.ks t ht)]
theorem Bj {l:List A8}:∀ {row:List Int} {i:Nat}, row.length=l.length->i < l.length->fm (l.take (i+1)) (row.take (i+1))=fm (l.take i) (row.take i)++(if row.getD i Ci=0 then [] else [⟨l.getD i Ci,row.getD i Ci⟩]):=by
 induction l with
 | nil=>intro row i _ hi; simp at hi
 | cons m l ih =>
  intro row i hl hi;cases row with
  | nil=>simp at hl
  | cons r row =>
   cases i with
   | zero =>
    simp only [List.take_succ_cons,List.take_zero,fm,Bi,List.nil_append];simp [Co]
   | succ i =>
    have:=ih (row:=row) (i:=i) (by simpa using hl) (by simpa using hi)
    simp only [List.take_succ_cons,fm];rw [this];have h:(m::l).getD (i+1) Ci=l.getD i Ci:=by simp [Co]
    have A:(r::row).getD (i+1) Ci=row.getD i Ci:=by simp [Co]
    rw [h,A];split <;> simp
def Ju (l own:List A8) (nums:List Int):List Int:=l.map (coT (fm own nums))
theorem Ll (l own:List A8) (nums:List Int):(Ju l own nums).length=l.length:=ZPv _
theorem Qb {l own:List A8} {nums:List Int} {j:Nat} (hj:j < l.length):vec (Ju l own nums) j=coT (fm own nums) (l.getD j Ci):=by
 simp [vec,Ju,Co,hj]
theorem Zt2 {l own:List A8} {nums:List Int} (ho:Srt own) (hn:RowOk own.length nums):RowOk l.length (Ju l own nums):=by
 refine⟨Ll .., λj=>?_⟩
 by_cases hj:j < l.length
 ·rw [Qb hj]; exact(Gn ho (Lk hn)).range _
 ·rw [Xs (by rw [Ll]; omega)]; omega
theorem Zif {l:List A8} (hs:Srt l) {i j:Nat} (hi:i < l.length) (hj:j < l.length) (h:pcmp (l.getD i Ci) (l.getD j Ci) < 0):i < j:=by
 have A:l.getD i Ci=l[i]:=by simp [Co,hi]
 have B:l.getD j Ci=l[j]:=by simp [Co,hj]
 rw [A,B] at h
 rcases Nat.lt_trichotomy i j with q | q | q
 ·exact q
 ·subst q; rw [K6] at h; omega
 ·exact absurd (Cq.1 hs j i hj hi q) (E0 h)
theorem Gp {l:List A8} (hs:Srt l) {i j:Nat} (hij:i < j) (hj:j < l.length):pcmp (l.getD i Ci) (l.getD j Ci) < 0:=by
 have hi:i < l.length:=by omega
 have h:l.getD i Ci=l[i]:=by simp [Co,hi]
 have A:l.getD j Ci=l[j]:=by simp [Co,hj]
 rw [h,A]; exact Cq.1 hs i j hi hj hij
theorem Zt3 {l own:List A8} (hl:Srt l) (ho:Srt own) {v:List Int} (hv:RowOk own.length v) (h:vec v (ld v)≠0) {i:Nat} (hi:i < l.length) (e:l.getD i Ci=own.getD (ld v) Ci) :
  ld (Ju l own v)=i/\vec (Ju l own v) i=vec v (ld v):=by
 have hlt:ld v < own.length:=by have:=Gy h; rw [hv.len] at this; exact this
 have A:vec (Ju l own v) i=vec v (ld v):=by rw [Qb hi,e,Nr ho.nd hv.len _ hlt]
 refine⟨Tp (λq hq=>?_) (by rw [A]; exact h),A⟩
 have hql:q < l.length:=by omega
 rw [Qb hql];by_cases hm:l.getD q Ci∈own
 ·obtain ⟨k,hk,ek⟩:=Qa hm;rw [<- ek,Nr ho.nd hv.len k hk]
  refine Jd (Zif ho hk hlt ?_)
  rw [ek,<- e]; exact Gp hl hq hi
 ·exact Ns hm
theorem Zt4 {l own:List A8} (hl:Srt l) (ho:Srt own) (hsub:∀ m,m∈own->m∈l) {R:List (List Int)} (h:Rref own.length R):Rref l.length (R.map (Ju l own)):=by
 have key:∀ v,v∈R->ld v < own.length/\∃ i,i < l.length/\l.getD i Ci=own.getD (ld v) Ci/\ld (Ju l own v)=i/\vec (Ju l own v) i=1:=λv hv=>by
  obtain ⟨U,I⟩:=h.ok v hv;have hn:vec v (ld v)≠0:=by rw [I]; decide
  have hlt:ld v < own.length:=by have:=Gy hn; rw [U.len] at this; exact this
  obtain ⟨i,hi,e⟩:=Qa (hsub _ (Yw hlt));obtain ⟨B,L⟩:=Zt3 hl ho U hn hi e;exact⟨hlt,i,hi,e,B,L.trans I⟩
 refine⟨λa ha=>?_,?_⟩
 ·obtain ⟨v,hv,rfl⟩:=Cp.1 ha;obtain ⟨_,i,hi,_,B,L⟩:=key v hv;exact⟨Zt2 ho (h.ok v hv).1,by rw [B,L]⟩
 ·refine ZP3.2 (h.pw.imp_of_mem λ{a b} ha hb hab=>?_)
  obtain ⟨la,i,hi,ea,O,_⟩:=key a ha;obtain ⟨lb,j,hj,eb,A,_⟩:=key b hb;refine⟨?_,?_⟩
  ·rw [O,A];refine Zif hl hi hj ?_
   rw [ea,eb]; exact Gp ho hab.1 lb
  ·rw [A,Qb hj,eb,Nr ho.nd (h.ok a ha).1.len _ lb]; exact hab.2
def dco (a:Alg) (f:List Term) (x:A8):Int:=tot (λt=>dT a.degrees (imgsT a) t.mono t.factor x) f % 10007
theorem Zig (a:Alg) (f:List Term) (x:A8):0<=dco a f x/\dco a f x<=10006:=by unfold dco; omega
theorem Zt5 {a:Alg} {f out:List Term} (h:IsD a.degrees (imgsT a) f out):coT out=dco a f:=funext λx=>by
 have A:=h.cf x;have B:=h.can.range x;unfold dco; omega
theorem Zt6 {a:Alg} {f:List Term} {s out:List (A8×Int)} (hs:IsMap f s) (hc:Canon f) (h:IsDM a.degrees (imgsT a) s out):co out=dco a f:=funext λx=>by
 have A:=h.cf x;have B:=h.ok.range x;rw [D7 hs hc (λb n=>dT a.degrees (imgsT a) b n x) (λb=>Zcz a.degrees (imgsT a) b x)] at A
 unfold dco; omega
theorem Bk {a:Alg} (ok:OkAlg a) (hf:Xh a) {n:Int} {y m:A8} (hm:m∈mons a.degrees n) (hn:n<=38) (h:DMono a.degrees (imgsT a) y m):y∈mons a.degrees (n+1):=by
 have hd:=ok.deg;have A:=hd.1;have ha:=ok.algF hf;have hl:=ok.len;obtain ⟨B,I,L⟩:=Bh hd hm
 have smallI:∀ j u,u∈(imgsT a).getD j Ci->OkMono a.degrees u.mono/\∀ i,i < 8->0<=u.mono.get i/\u.mono.get i<=20:=λj u hu=>by
  by_cases hj:j < a.images.length
  ·rw [S6 a hj] at hu
   have:=(ok.frm j hj).mono hu;exact⟨this,Lh (S5 this) ((ha.fit j hj).pos u hu)⟩
  ·simp [imgsT,Co,hj] at hu; cases hu
 have homI:∀ j u,u∈(imgsT a).getD j Ci->j < a.degrees.length->wtU a.degrees u.mono a.degrees.length=a.degrees.getD j Ci+1:=λj u hu hj=>by
  rw [S6 a (by omega)] at hu
  obtain ⟨q,hq,rfl⟩:=Cw hu;have:=ok.hom j (by omega) q hq
  rwa [Nt hq] at this
 obtain ⟨O,U⟩:=Ztq A B L smallI h;obtain ⟨j,u,hj,_,hu,ew⟩:=Ztp A B h;rw [homI j u hu hj,I] at ew
 exact Ztt hd O U (by rw [ew]; omega) (by omega)
structure InL (a:Alg) (n:Int) (f:List Term):Prop where
 can:Canon f
 mem:∀ t,t∈f->t.mono∈mons a.degrees n
theorem InL.len {a:Alg} {n:Int} {f:List Term} (h:InL a n f):f.length<=(mons a.degrees n).length:=by
 have hn:(f.map Term.mono).Nodup:=ZP3.2 (h.can.1.imp λq=>Ue q)
 have:=hn.length_le_of_subset (l₂:=mons a.degrees n) (λx hx=>by obtain ⟨t,ht,rfl⟩:=Cp.1 hx; exact h.mem t ht)
 rwa [ZPv] at this
theorem InL.form {a:Alg} {n:Int} {f:List Term} (hd:OkDeg a.degrees) (hf:Fits a.degrees n) (h:InL a n f):OkForm a.degrees f/\FitT f :=
 ⟨Zn2 h.can (by have:=h.len; unfold Fits at hf; omega) λt ht=>(Bh hd (h.mem t ht)).1,λt ht=>Ztn (Bh hd (h.mem t ht)).2.2⟩
theorem Zdg {a:Alg} {n:Int} {m:A8} (h:m∈mons a.degrees n):InL a n [⟨m,1⟩]:=⟨Zc5 m,λt ht=>by obtain rfl:=Fc.1 ht; exact h⟩
theorem Zih {a:Alg} {n:Int} {own:List A8} {row:List Int} (ho:Srt own) (hsub:∀ m,m∈own->m∈mons a.degrees n) (hr:Zdf row):InL a n (fm own row):=⟨Gn ho hr,λt ht=>hsub _ (Gm ht)⟩
def W6 (a:Alg) (n:Int) (f:List Term):List Int:=(mons a.degrees (n+1)).map (dco a f)
theorem Bl (a:Alg) (n:Int) (f:List Term):RowOk (mons a.degrees (n+1)).length (W6 a n f):=by
 refine⟨ZPv _,λj=>?_⟩
 by_cases hj:j < (mons a.degrees (n+1)).length
 ·have:vec (W6 a n f) j=dco a f ((mons a.degrees (n+1)).getD j Ci):=by simp [vec,W6,Co,hj]
  rw [this]; exact Zig ..
 ·rw [Xs (by simp [W6]; omega)]; omega
theorem Zdh {a:Alg} {n:Int} {f:List Term} {K:List Int->Prop} (ok:OkAlg a) (hf:Xh a) (hn:0<=n/\n<=38) (B:Fits a.degrees n) (I:Fits a.degrees (n+1)) (h:InL a n f) (L:K (W6 a n f)) :
  Uy a ⟨f⟩ (λr=>Vu r (mons a.degrees (n+1)) K):=by
 obtain ⟨O,U⟩:=h.form ok.deg B;refine Zhy (ok.algF hf) O U λout A _=>?_
 refine Zid A.can (Gl ok.deg.1 _) (λt ht=>?_) (by unfold Fits at I; omega) ?_
 ·obtain ⟨s,hs,hm⟩:=A.mo t ht;exact Bk ok hf (h.mem s hs) hn.2 hm
 ·rw [Zt5 A]; exact L
theorem Zii {a:Alg} {n:Int} {f:List Term} {s:List (A8×Int)} {K:List Int->Prop} (ok:OkAlg a) (hf:Xh a) (hn:0<=n/\n<=38) (B:Fits a.degrees n) (I:Fits a.degrees (n+1)) (h:InL a n f) (hs:IsMap f s) (L:K (W6 a n f)) :
  Su a s (λr=>Nb ⟨mons a.degrees (n+1),plc (mons a.degrees (n+1)) (mons a.degrees (n+1)).length⟩ r K):=by
 obtain ⟨O,U⟩:=h.form ok.deg B;refine m_d (ok.algF hf) hs O U λout A=>?_
 refine Zty (by unfold Fits at I; omega) (Srt.nd (Gl ok.deg.1 _)) A.ok.1 (λp hp=>?_) ?_
 ·obtain ⟨t,ht,hm⟩:=A.mo p hp;obtain ⟨u,hu,eu⟩:=hs.ks t ht;exact Bk ok hf (eu ▸ h.mem u hu) hn.2 hm
 ·rw [Zt6 hs h.can A]; exact L
end Go.Proofs.YtaagfepgbofmlaaGreat
namespace Vc
open Go
def par (ds:List Int) (j:Nat):Int:=ds.getD j Ci % 2
theorem Lm (ds:List Int) (j:Nat):par ds j=0\/par ds j=1:=by unfold par; omega
def eA (j:Nat):A8:=A8.mkf λi=>if i=j then 1 else 0
theorem Tn {j i:Nat} (hi:i < 8):(eA j).get i=if i=j then 1 else 0:=by rw [eA,ZUh _ hi]
def Ja (ds:List Int) (m:A8):Nat->Int
 | 0=>0
 | j+1=>Ja ds m j+par ds j * m.get j
theorem Zij (ds:List Int) (a b:A8):∀ j,Ja ds (a.add b) j=Ja ds a j+Ja ds b j
 | 0=>rfl
 | j+1=>by simp only [Ja,Zij ds a b j,ZUi,ZUj]; omega
theorem Zik (ds:List Int) (k:Nat):∀ j,j<=8->Ja ds (eA k) j=if k < j then par ds k else 0
 | 0,_=>by simp [Ja]
 | j + 1, h => by
  simp only [Ja,Zik ds k j (by omega),Tn (show j < 8 by omega)]
  by_cases e:j=k
  ·subst e; simp
  ·rw [if_neg e]; split <;> split <;> omega
def xs (ds:List Int) (j:Nat) (m:A8):Int:=if par ds j=1/\0 < m.get j then 0 else sg (par ds j * Ja ds m j)
def X (ds:List Int) (j:Nat) (F:A8->Int):A8->Int:=λm=>xs ds j m * F (m.add (eA j))
theorem Zt7 (a b c:A8):(a.add b).add c=(a.add c).add b:=ZFo λi hi=>by simp only [ZUi]; omega
theorem Zil (a:Int):sg a * sg a=1:=by rcases Em a with h | h <;> rw [h] <;> rfl
theorem Zim {ds:List Int} {j k:Nat} {m:A8} (hj:j < 8) (hk:k < 8) (h:j≠k):xs ds k (m.add (eA j))=if j < k then sg (par ds k * par ds j) * xs ds k m else xs ds k m:=by
 have g:(m.add (eA j)).get k=m.get k:=by rw [ZUi,Tn hk,if_neg (Ne.symm h)]; omega
 unfold xs;rw [g,Zij,Zik _ _ _ (by omega)]
 by_cases c:j < k
 ·simp only [c,if_true];by_cases d:par ds k=1/\0 < m.get k
  ·rw [if_pos d,if_pos d,ZP5]
  ·rw [if_neg d,if_neg d,ZUj,V2,Zvy]
 ·simp only [c,if_false,ZP1]
theorem Zt8 {ds:List Int} {j:Nat} {m:A8} (hj:j < 8) (hm:0<=m.get j) (ho:par ds j=1):xs ds j (m.add (eA j))=0:=by
 unfold xs;rw [ZUi,Tn hj,if_pos rfl,if_pos ⟨ho,by omega⟩]
def eps (ds:List Int) (j k:Nat):Int:=sg (par ds j * par ds k)
theorem Zin (ds:List Int) (j k:Nat):eps ds j k=eps ds k j:=by unfold eps; rw [Zvy]
theorem Zdi (ds:List Int) (j k:Nat):eps ds j k * eps ds j k=1:=Zil _
def Pos8 (m:A8):Prop:=∀ i,i < 8->0<=m.get i
theorem Pos8.e {m:A8} (h:Pos8 m) (j:Nat):Pos8 (m.add (eA j)):=λi hi=>by
 rw [ZUi,Tn hi]; have:=h i hi; split <;> omega
theorem Zt9 {ds:List Int} {j k:Nat} {m:A8} (hj:j < 8) (hk:k < 8) (hm:Pos8 m):xs ds j m * xs ds k (m.add (eA j))=eps ds j k * (xs ds k m * xs ds j (m.add (eA k))):=by
 by_cases e:j=k
 ·subst e;rcases Lm ds j with o | o
  ·unfold eps; rw [o]; simp [sg]
  ·rw [Zt8 hj (hm j hj) o]; simp
 ·rw [Zim hj hk e,Zim hk hj (λz=>e z.symm)]
  rcases Nat.lt_or_gt_of_ne e with c | c
  ·rw [if_pos c,if_neg (by omega)]
   unfold eps;rw [Zvy (par ds k)];simp only [Zvy,ZUl,Fp]
  ·rw [if_neg (by omega),if_pos c]
   have:=Zdi ds j k;have h:sg (par ds j * par ds k)=eps ds j k:=rfl;rw [h]
   have:eps ds j k * (xs ds k m * (eps ds j k * xs ds j m))=(eps ds j k * eps ds j k) * (xs ds j m * xs ds k m):=by
    simp only [Zvy,ZUl,Fp]
   rw [this,Zdi,ZQb]
theorem Zdj {ds:List Int} {j k:Nat} (hj:j < 8) (hk:k < 8) (F:A8->Int) {m:A8} (hm:Pos8 m):X ds j (X ds k F) m=eps ds j k * X ds k (X ds j F) m:=by
 unfold X;rw [Zt7 m (eA k) (eA j),<- Fp,Zt9 hj hk hm]
 simp only [Fp]
def Xw (ds:List Int):List Nat->(A8->Int)->A8->Int
 | [],F=>F
 | j::w,F=>Xw ds w (X ds j F)
def par_w (ds:List Int):List Nat->Int
 | []=>0
 | j::w=>par ds j+par_w ds w
structure GdM (ds:List Int) (m:A8):Prop where
 pos:Pos8 m
 one:∀ i,i < 8->par ds i=1->m.get i<=1
theorem GdM.e {ds:List Int} {m:A8} (h:GdM ds m) {j:Nat} (hx:xs ds j m≠0):GdM ds (m.add (eA j)):=⟨h.pos.e j,λi hi ho=>by
 rw [ZUi,Tn hi];split
 ·rename_i e;subst e;have:¬ (par ds i=1/\0 < m.get i):=λz=>hx (by rw [xs,if_pos z])
  have:=λz=>this ⟨ho,z⟩
  omega
 ·have:=h.one i hi ho; omega⟩
theorem Bm (ds:List Int):GdM ds ZCe:=⟨λi hi=>by rw [ZUn]; omega,λi hi _=>by rw [ZUn]; omega⟩
theorem Zio {ds:List Int} {j:Nat} {F G:A8->Int} (h:∀ m,GdM ds m->F m=G m) {m:A8} (hm:GdM ds m):X ds j F m=X ds j G m:=by
 unfold X;by_cases z:xs ds j m=0
 ·rw [z,ZQc,ZQc]
 ·rw [h _ (hm.e z)]
theorem Um {ds:List Int}:∀ {w:List Nat} {F G:A8->Int}, (∀ m,GdM ds m->F m=G m)->∀ {m:A8}, GdM ds m->Xw ds w F m=Xw ds w G m
 | [],_,_,h,_,hm=>h _ hm
 | j::w,_,_,h,_,hm=>Um (w:=w) (λm hm=>Zio h hm) hm
theorem Ziq (ds:List Int) (j:Nat) (c:Int) (F:A8->Int):X ds j (λm=>c * F m)=λm=>c * X ds j F m:=by
 funext m; unfold X; exact ZUl _ _ _
theorem Un (ds:List Int) (c:Int):∀ (w:List Nat) (F:A8->Int),Xw ds w (λm=>c * F m)=λm=>c * Xw ds w F m
 | [],F=>rfl
 | j::w,F=>by simp only [Xw]; rw [Ziq,Un ds c w]
theorem Zir (ds:List Int) (j:Nat) (F G:A8->Int):X ds j (λm=>F m+G m)=λm=>X ds j F m+X ds j G m:=by
 funext m; unfold X; exact ZUj _ _ _
theorem Nu (ds:List Int):∀ (w:List Nat) (F G:A8->Int),Xw ds w (λm=>F m+G m)=λm=>Xw ds w F m+Xw ds w G m
 | [],F,G=>rfl
 | j::w,F,G=>by simp only [Xw]; rw [Zir,Nu ds w]
theorem Ln (ds:List Int):∀ (v w:List Nat) (F:A8->Int),Xw ds (v++w) F=Xw ds w (Xw ds v F)
 | [],w,F=>rfl
 | j::v,w,F=>by simp only [ZUr,Xw]; rw [Ln ds v w]
theorem Zis {ds:List Int} {j:Nat} (hj:j < 8):∀ {w:List Nat}, (∀ k,k∈w->k < 8)->∀ (F:A8->Int) {m:A8}, GdM ds m->X ds j (Xw ds w F) m=sg (par ds j * par_w ds w) * Xw ds w (X ds j F) m
 | [],_,F,m,hm=>by simp [Xw,par_w,sg]
 | k :: w, hw, F, m, hm => by
  simp only [Xw,par_w];rw [Zis hj (λi hi=>hw i (by simp [hi])) _ hm,ZUj,V2]
  have hk:=hw k (by simp)
  have:Xw ds w (X ds j (X ds k F)) m=eps ds j k * Xw ds w (X ds k (X ds j F)) m:=by
   rw [Um (λm hm=>Zdj hj hk F hm.pos) hm,Un]
  rw [this];unfold eps;rw [<- Fp,Zvy (sg (par ds j * par_w ds w))]
def wdF (b:A8):Nat->Nat->List Nat
 | 0,_=>[]
 | r+1,i=>Cd (b.get i).toNat i++wdF b r (i+1)
def wordA (b:A8):List Nat:=wdF b 8 0
theorem Zdk (b:A8):∀ (r s i:Nat),wdF b (r+s) i=wdF b r i++wdF b s (i+r)
 | 0,s,i=>by simp [wdF]
 | r + 1, s, i => by
  rw [show r+1+s=(r+s)+1 by omega]
  simp only [wdF];rw [Zdk b r s (i+1),List.append_assoc,show i+1+r=i+(r+1) by omega]
theorem Zdl (b:A8):∀ (r i:Nat) (k:Nat),k∈wdF b r i->k < i+r
 | 0,i,k,h=>by simp [wdF] at h
 | r + 1, i, k, h => by
  simp only [wdF,Ch] at h
  rcases h with h | h
  ·have:=(List.mem_replicate.1 h).2; omega
  ·have:=Zdl b r (i+1) k h; omega
theorem Lo {b:A8} {k:Nat} (h:k∈wordA b):k < 8:=by have:=Zdl b 8 0 k h; omega
theorem Zit (ds:List Int):∀ v w:List Nat,par_w ds (v++w)=par_w ds v+par_w ds w
 | [],w=>by simp [par_w]
 | j::v,w=>by simp only [ZUr,par_w,Zit ds v w]; omega
theorem Zdm (ds:List Int) (i:Nat):∀ n:Nat,par_w ds (Cd n i)=par ds i * n
 | 0=>by simp [par_w]
 | n+1=>by rw [Zwg]; simp only [par_w]; rw [Zdm ds i n,Int.natCast_succ,ZUj]; omega
theorem Ziu (b:A8) (j:Nat):wdF b (j+1) 0=wdF b j 0++Cd (b.get j).toNat j:=by
 rw [Zdk]; simp [wdF]
theorem Zdn {ds:List Int} {b:A8} (hb:Pos8 b):∀ j,j<=8->par_w ds (wdF b j 0)=Ja ds b j
 | 0,_=>rfl
 | j + 1, h => by
  rw [Ziu,Zit,Zdn hb j (by omega),Zdm]
  have:=hb j (by omega)
  rw [ZFl this]; rfl
def Ph (ds:List Int) (imgs:List (List Term)) (i:Nat) (F:A8->Int):A8->Int:=λm=>tot (λu=>u.factor * Xw ds (wordA u.mono) F m) (imgs.getD i Ci)
structure ImgOk (ds:List Int) (imgs:List (List Term)):Prop where
 odd:∀ i,i < 8->∀ u,u∈imgs.getD i Ci->(par_w ds (wordA u.mono) - par ds i - 1) % 2=0
section
variable {ds:List Int} {imgs:List (List Term)}
theorem Zua (i:Nat) (c:Int) (F:A8->Int):Ph ds imgs i (λm=>c * F m)=λm=>c * Ph ds imgs i F m:=by
 funext m
 unfold Ph;rw [<- T5]
 exact Wa λu _=>by rw [Un]; exact ZUl _ _ _
theorem Zub (i:Nat) (F G:A8->Int):Ph ds imgs i (λm=>F m+G m)=λm=>Ph ds imgs i F m+Ph ds imgs i G m:=by
 funext m
 unfold Ph;rw [<- K9]
 exact Wa λu _=>by rw [Nu]; exact ZUj _ _ _
theorem Zuc (i:Nat) {F G:A8->Int} (h:∀ m,GdM ds m->F m=G m) {m:A8} (hm:GdM ds m):Ph ds imgs i F m=Ph ds imgs i G m :=
 Wa λu _=>by rw [Um h hm]
theorem Zdo {a b:Int} (h:(a - b) % 2=0):sg a=sg b:=by unfold sg; split <;> split <;> omega
theorem Zdp (ok:ImgOk ds imgs) {i j:Nat} (hi:i < 8) (hj:j < 8) (F:A8->Int) {m:A8} (hm:GdM ds m):X ds j (Ph ds imgs i F) m=eps ds j i * sg (par ds j) * Ph ds imgs i (X ds j F) m:=by
 have A:X ds j (Ph ds imgs i F) m=tot (λu=>u.factor * X ds j (Xw ds (wordA u.mono) F) m) (imgs.getD i Ci):=by
  unfold X Ph;rw [<- T5]
  exact Wa λu _=>ZUl _ _ _
 rw [A];unfold Ph;rw [<- T5]
 refine Wa λu hu=>?_
 rw [Zis hj (λk hk=>Lo hk) F hm]
 have:sg (par ds j * par_w ds (wordA u.mono))=eps ds j i * sg (par ds j):=by
  unfold eps;rw [<- V2]
  have h:=ok.odd i hi u hu;rcases Lm ds j with o | o
  ·rw [o]; simp
  ·rw [o]; exact Zdo (by omega)
 rw [this]; exact ZUl _ _ _
def Dw (ds:List Int) (imgs:List (List Term)):List Nat->(A8->Int)->A8->Int
 | [],_,_=>0
 | j::w,F,m=>Xw ds w (Ph ds imgs j F) m+sg (par ds j) * Dw ds imgs w (X ds j F) m
theorem Bn:∀ {w:List Nat} {F G:A8->Int}, (∀ m,GdM ds m->F m=G m)->∀ {m:A8}, GdM ds m->Dw ds imgs w F m=Dw ds imgs w G m
 | [],_,_,_,_,_=>rfl
 | j :: w, _, _, h, _, hm => by
  simp only [Dw];rw [Um (λm hm=>Zuc j h hm) hm,Bn (w:=w) (λm hm=>Zio h hm) hm]
theorem Bo (c:Int):∀ (w:List Nat) (F:A8->Int) (m:A8),Dw ds imgs w (λm=>c * F m) m=c * Dw ds imgs w F m
 | [],F,m=>by simp [Dw]
 | j :: w, F, m => by
  simp only [Dw];rw [Zua,Ziq,Un,Bo c w,ZUj]
  congr 1; exact ZUl _ _ _
theorem Zdq:∀ (w:List Nat) (F G:A8->Int) (m:A8),Dw ds imgs w (λm=>F m+G m) m=Dw ds imgs w F m+Dw ds imgs w G m
 | [],F,G,m=>by simp [Dw]
 | j :: w, F, G, m => by
  simp only [Dw];rw [Zub,Zir,Nu,Zdq w,ZUj];dsimp only;omega
structure Rel (ds:List Int) (imgs:List (List Term)) (c:Int) (w w':List Nat):Prop where
 x:∀ F m,GdM ds m->Xw ds w F m=c * Xw ds w' F m
 d:∀ F m,GdM ds m->Dw ds imgs w F m=c * Dw ds imgs w' F m
theorem Rel.refl (w:List Nat):Rel ds imgs 1 w w:=⟨λF m _=>by rw [ZQb],λF m _=>by rw [ZQb]⟩
theorem Rel.trans {c d:Int} {u v w:List Nat} (h:Rel ds imgs c u v) (k:Rel ds imgs d v w):Rel ds imgs (c * d) u w :=
 ⟨λF m hm=>by rw [h.x F m hm,k.x F m hm,Fp],λF m hm=>by rw [h.d F m hm,k.d F m hm,Fp]⟩
theorem Rel.cons {c:Int} {w w':List Nat} (h:Rel ds imgs c w w') (j:Nat):Rel ds imgs c (j::w) (j::w') :=
 ⟨λF m hm=>h.x _ m hm,λF m hm=>by
  simp only [Dw];rw [h.x _ m hm,h.d _ m hm,ZUj]
  congr 1; exact ZUl _ _ _⟩
theorem Rel.swap (ok:ImgOk ds imgs) {a b:Nat} (ha:a < 8) (hb:b < 8) (q:List Nat):Rel ds imgs (eps ds a b) (a::b::q) (b::a::q):=by
 refine⟨λF m hm=>?_,λF m hm=>?_⟩
 ·simp only [Xw];rw [Um (λm hm=>Zdj hb ha F hm.pos) hm,Un,Zin]
 ·simp only [Dw,Xw]
  rw [Um (λm hm=>Zdp ok ha hb F hm) hm,Un,Um (G:=λm=>eps ds a b * sg (par ds a) * Ph ds imgs b (X ds a F) m) (λm hm=>Zdp ok hb ha F hm) hm,Un,
   Bn (F:=X ds b (X ds a F)) (λm hm=>Zdj hb ha F hm.pos) hm,Bo,Zin ds b a]
  dsimp only;generalize Xw ds q (Ph ds imgs a (X ds b F)) m=L;generalize Xw ds q (Ph ds imgs b (X ds a F)) m=h;generalize Dw ds imgs q (X ds a (X ds b F)) m=O;have e:=Zdi ds a b;generalize eps ds a b=A at *
  generalize sg (par ds a)=B;generalize sg (par ds b)=U;have I:A * (A * B * h)=B * h:=by rw [<- Fp,<- Fp,e,ZQb]
  simp only [ZUj] at *
  rw [I];simp only [Zvy,ZUl,Fp];omega
theorem Rel.past (ok:ImgOk ds imgs) {j:Nat} (hj:j < 8):∀ (p q:List Nat),(∀ k,k∈p->k < 8)->Rel ds imgs (sg (par ds j * par_w ds p)) (j::(p++q)) (p++j::q)
 | [],q,_=>by simpa [par_w,sg] using Rel.refl (j::q)
 | k :: p, q, h => by
  have B:=Rel.swap ok hj (h k (by simp)) (p++q)
  have A:=(Rel.past ok hj p q λi hi=>h i (by simp [hi])).cons k
  have:=B.trans A;rw [eps,<- V2] at this
  simp only [par_w,ZUj,ZUr];exact this
theorem Rel.pre {c:Int} {w w':List Nat} (h:Rel ds imgs c w w'):∀ p:List Nat,Rel ds imgs c (p++w) (p++w')
 | []=>h
 | k::p=>(Rel.pre h p).cons k
theorem Rel.twice (ok:ImgOk ds imgs) {j:Nat} (hj:j < 8) (ho:par ds j=1) (p q w:List Nat):Rel ds imgs 0 (p++j::j::q) w:=by
 have h:=(Rel.swap ok hj hj q).pre p;have e:eps ds j j=-1:=by unfold eps; rw [ho]; decide
 rw [e] at h
 exact⟨λF m hm=>by have:=h.x F m hm; omega,λF m hm=>by have:=h.d F m hm; omega⟩
end
theorem Bp {b c:A8}:∀ (r i:Nat),(∀ k,i<=k->k < i+r->b.get k=c.get k)->wdF b r i=wdF c r i
 | 0,_,_=>rfl
 | r+1,i,h=>by simp only [wdF]; rw [h i (by omega) (by omega),Bp r (i+1) λk A B=>h k (by omega) (by omega)]
theorem Zdr (b:A8) {j:Nat} (hj:j < 8):wordA b=wdF b j 0++(Cd (b.get j).toNat j++wdF b (7 - j) (j+1)):=by
 have:wordA b=wdF b (j+((7 - j)+1)) 0:=by rw [wordA]; congr 1; omega
 rw [this,Zdk,Zwz]; rfl
theorem Zud:wordA ZCe=[]:=by
 have:∀ r i,i+r<=8->wdF ZCe r i=[]:=by
  intro r
  induction r with
  | zero=>intro i _; rfl
  | succ r ih=>intro i h; simp only [wdF]; rw [ih (i+1) (by omega),ZUn]; rfl
 exact this 8 0 (by omega)
section
variable {ds:List Int} {imgs:List (List Term)}
theorem Rel.sort (ok:ImgOk ds imgs) {b:A8} (hb:GdM ds b) {j:Nat} (hj:j < 8):Rel ds imgs (xs ds j b) (j::wordA b) (wordA (b.add (eA j))):=by
 have hlo:wdF (b.add (eA j)) j 0=wdF b j 0:=Bp j 0 λk _ h=>by rw [ZUi,Tn (by omega),if_neg (by omega)]; omega
 have hhi:wdF (b.add (eA j)) (7 - j) (j+1)=wdF b (7 - j) (j+1):=Bp _ _ λk A B=>by rw [ZUi,Tn (by omega),if_neg (by omega)]; omega
 have hn:((b.add (eA j)).get j).toNat=(b.get j).toNat+1:=by rw [ZUi,Tn hj,if_pos rfl]; have:=hb.pos j hj; omega
 have A:=Rel.past ok hj (wdF b j 0) (Cd (b.get j).toNat j++wdF b (7 - j) (j+1)) λk hk=>by have:=Zdl b j 0 k hk; omega
 rw [<- Zdr b hj,Zdn hb.pos j (by omega)] at A
 rw [Zdr (b.add (eA j)) hj,hlo,hhi,hn,Zwg,ZUr];unfold xs;by_cases d:par ds j=1/\0 < b.get j
 ·rw [if_pos d];have I:(b.get j).toNat=1:=by have:=hb.one j hj d.1; omega
  rw [I] at A ⊢
  have B:=A.trans (Rel.twice ok hj d.1 (wdF b j 0) (wdF b (7 - j) (j+1)) (wdF b j 0++j::(Cd 1 j++wdF b (7 - j) (j+1))));rwa [ZP5] at B
 ·rw [if_neg d]; exact A
theorem Ziv {i:Nat} (hi:i < 8):∀ (n:Nat) (F:A8->Int) (m c:A8),(∀ k,k < i->m.get k=0)->m.get i=0->(par ds i=1->n<=1)->(∀ k,k < 8->c.get k=if k=i then(n:Int) else m.get k)->Xw ds (Cd n i) F m=F c
 | 0, F, m, c, _, A, _, hc => by
  have:c=m:=ZFo λk hk=>by rw [hc k hk]; split <;> simp_all
  rw [this]; rfl
 | n + 1, F, m, c, h, A, ho, hc => by
  rw [Zwg];simp only [Xw]
  let d:A8:=A8.mkf λk=>if k=i then(n:Int) else m.get k
  have hd:∀ k,k < 8->d.get k=if k=i then(n:Int) else m.get k:=λk hk=>ZUh _ hk
  rw [Ziv hi n (X ds i F) m d h A (λo=>by have:=ho o; omega) hd]
  have hz:∀ j,j<=i->Ja ds d j=0:=by
   intro j
   induction j with
   | zero=>intro _; rfl
   | succ j ih=>intro hj; simp only [Ja]; rw [ih (by omega),hd j (by omega),if_neg (by omega),h j (by omega)]; simp
  have hx:xs ds i d=1:=by
   unfold xs;rw [hd i hi,if_pos rfl,hz i (Cg _),if_neg (λz=>by have:=ho z.1; have:=z.2; omega)]
   simp [sg]
  unfold X;rw [hx,ZQb]
  congr 1
  exact ZFo λk hk=>by
   rw [ZUi,hd k hk,Tn hk,hc k hk];split
   ·omega
   ·omega
theorem Zds {b:A8} (hb:GdM ds b):∀ (r i:Nat),i+r=8->∀ (F:A8->Int) (c:A8),(∀ k,k < 8->c.get k=if i<=k then b.get k else 0)->Xw ds (wdF b r i) F ZCe=F c
 | 0, i, h, F, c, hc => by
  have:c=ZCe:=ZFo λk hk=>by rw [hc k hk,if_neg (by omega),ZUn]
  rw [this]; rfl
 | r + 1, i, h, F, c, hc => by
  simp only [wdF];rw [Ln]
  let d:A8:=A8.mkf λk=>if i+1<=k then b.get k else 0
  have hd:∀ k,k < 8->d.get k=if i+1<=k then b.get k else 0:=λk hk=>ZUh _ hk
  rw [Zds hb r (i+1) (by omega) _ d hd]
  refine Ziv (by omega) _ _ _ _ (λk hk=>by rw [hd k (by omega),if_neg (by omega)]) (by rw [hd i (by omega),if_neg (by omega)]) (λo=>by have:=hb.one i (by omega) o; omega) λk hk=>?_
  rw [hc k hk,hd k hk];have:=hb.pos i (by omega)
  by_cases e:k=i
  ·subst e; rw [if_pos (Cg _),if_pos rfl]; omega
  ·rw [if_neg e];by_cases g:i<=k
   ·rw [if_pos g,if_pos (by omega)]
   ·rw [if_neg g,if_neg (by omega)]
theorem Zue {b:A8} (hb:GdM ds b) (F:A8->Int):Xw ds (wordA b) F ZCe=F b:=Zds hb 8 0 rfl F b λk hk=>by rw [if_pos (Nat.zero_le _)]
def Df (ds:List Int) (imgs:List (List Term)) (F:A8->Int):A8->Int:=λb=>Dw ds imgs (wordA b) F ZCe
theorem Zuf (F:A8->Int):Df ds imgs F ZCe=0:=by unfold Df; rw [Zud]; rfl
theorem Bq (c:Int) (F:A8->Int):Df ds imgs (λm=>c * F m)=λm=>c * Df ds imgs F m:=funext λm=>Bo c _ F _
theorem Ziw (F G:A8->Int):Df ds imgs (λm=>F m+G m)=λm=>Df ds imgs F m+Df ds imgs G m:=funext λm=>Zdq _ F G _
theorem Zix (ok:ImgOk ds imgs) {j:Nat} (hj:j < 8) (F:A8->Int) {b:A8} (hb:GdM ds b):X ds j (Df ds imgs F) b=Ph ds imgs j F b+sg (par ds j) * Df ds imgs (X ds j F) b:=by
 have h:=(Rel.sort ok hb hj).d F ZCe (Bm ds);unfold X Df;rw [<- h]
 simp only [Dw];rw [Zue hb]; rfl
theorem Zdt (ok:ImgOk ds imgs):∀ {w:List Nat}, (∀ k,k∈w->k < 8)->∀ (F:A8->Int) {m:A8}, GdM ds m->Xw ds w (Df ds imgs F) m=Dw ds imgs w F m+sg (par_w ds w) * Df ds imgs (Xw ds w F) m
 | [],_,F,m,hm=>by simp [Xw,Dw,par_w,sg]
 | j :: w, hw, F, m, hm => by
  simp only [Xw,Dw,par_w];have hj:=hw j (by simp)
  rw [Um (G:=λm=>Ph ds imgs j F m+sg (par ds j) * Df ds imgs (X ds j F) m) (λm hm=>Zix ok hj F hm) hm,Nu,Un]
  dsimp only;rw [Zdt ok (λk hk=>hw k (by simp [hk])) (X ds j F) hm,ZUj,V2,Fp]
  omega
end
section
variable {ds:List Int} {imgs:List (List Term)}
def Rm (ds:List Int) (m:A8) (F:A8->Int):A8->Int:=λa=>Xw ds (wordA a) F m
theorem Ziy (ok:ImgOk ds imgs) {m:A8} (hm:GdM ds m) {j:Nat} (hj:j < 8) (F:A8->Int) {a:A8} (ha:GdM ds a):X ds j (Rm ds m F) a=Rm ds m (X ds j F) a:=by
 unfold X Rm;have:=(Rel.sort ok ha hj).x F m hm;rw [<- this]; rfl
theorem Br (ok:ImgOk ds imgs) {m:A8} (hm:GdM ds m):∀ {w:List Nat}, (∀ k,k∈w->k < 8)->∀ (F:A8->Int) {a:A8}, GdM ds a->Xw ds w (Rm ds m F) a=Rm ds m (Xw ds w F) a
 | [],_,_,_,_=>rfl
 | j :: w, hw, F, a, ha => by
  simp only [Xw];rw [Um (λa ha=>Ziy ok hm (hw j (by simp)) F ha) ha]
  exact Br ok hm (λk hk=>hw k (by simp [hk])) _ ha
theorem Ziz (w:List Nat) (m:A8):Xw ds w (λ_=>0) m=0:=by
 have:=congrFun (Un ds 0 w (λ_=>0)) m
 simp only [ZQc] at this
 exact this
theorem Zi0 {α:Type} (w:List Nat) (c:α->Int) (G:α->A8->Int):∀ (l:List α) (m:A8),Xw ds w (λm=>tot (λu=>c u * G u m) l) m=tot (λu=>c u * Xw ds w (G u) m) l
 | [],m=>Ziz w m
 | u :: l, m => by
  have e:(λm=>tot (λu=>c u * G u m) (u::l))=λm=>c u * G u m+tot (λu=>c u * G u m) l:=rfl
  rw [e,Nu,Un];dsimp only;rw [Zi0 w c G l m]; rfl
theorem Zi1 {α:Type} (c:α->Int) (G:α->A8->Int):∀ (l:List α) (m:A8),Df ds imgs (λm=>tot (λu=>c u * G u m) l) m=tot (λu=>c u * Df ds imgs (G u) m) l
 | [], m => by
  have:=congrFun (Bq (ds:=ds) (imgs:=imgs) 0 (λ_=>0)) m
  simp only [ZQc] at this
  exact this
 | u :: l, m => by
  have e:(λm=>tot (λu=>c u * G u m) (u::l))=λm=>c u * G u m+tot (λu=>c u * G u m) l:=rfl
  rw [e,Ziw,Bq];dsimp only;rw [Zi1 c G l m]; rfl
theorem Zug (ok:ImgOk ds imgs) {m:A8} (hm:GdM ds m) (j:Nat) (F:A8->Int) {a:A8} (ha:GdM ds a):Ph ds imgs j (Rm ds m F) a=Rm ds m (Ph ds imgs j F) a:=by
 have e:Rm ds m (Ph ds imgs j F) a=tot (λu=>u.factor * Xw ds (wordA a) (Xw ds (wordA u.mono) F) m) (imgs.getD j Ci):=Zi0 (wordA a) (λu:Term=>u.factor) (λu=>Xw ds (wordA u.mono) F) _ m
 rw [e];exact Wa λu _=>by rw [Br ok hm (λk hk=>Lo hk) F ha]; rfl
theorem Zi2 (ok:ImgOk ds imgs) {m:A8} (hm:GdM ds m):∀ {w:List Nat}, (∀ k,k∈w->k < 8)->∀ (F:A8->Int),Dw ds imgs w (Rm ds m F) ZCe=Dw ds imgs w F m
 | [],_,_=>rfl
 | j :: w, hw, F => by
  have h:=Bm ds;have hw':∀ k,k∈w->k < 8:=λk hk=>hw k (by simp [hk])
  simp only [Dw];rw [Um (λa ha=>Zug ok hm j F ha) h,Br ok hm hw' _ h,Bn (λa ha=>Ziy ok hm (hw j (by simp)) F ha) h,Zi2 ok hm hw']
  congr 1
def Bs (ds:List Int) (imgs:List (List Term)):Prop:=∀ i,i < 8->∀ F:A8->Int,tot (λu=>u.factor * Df ds imgs F u.mono) (imgs.getD i Ci) % 10007=0
theorem Zuh (ok:ImgOk ds imgs) (cl:Bs ds imgs) {i:Nat} (hi:i < 8) (F:A8->Int) {m:A8} (hm:GdM ds m):tot (λu=>u.factor * Dw ds imgs (wordA u.mono) F m) (imgs.getD i Ci) % 10007=0:=by
 have:=cl i hi (Rm ds m F);rw [<- this]
 congr 1
 exact Wa λu _=>by rw [Df,Zi2 ok hm (λk hk=>Lo hk)]
theorem Zui {j:Nat} {F:A8->Int} (h:∀ m,GdM ds m->F m % 10007=0) {m:A8} (hm:GdM ds m):X ds j F m % 10007=0:=by
 unfold X;by_cases z:xs ds j m=0
 ·rw [z]; simp
 ·rw [Ct,h _ (hm.e z)]; simp
theorem Zi3:∀ {w:List Nat} {F:A8->Int}, (∀ m,GdM ds m->F m % 10007=0)->∀ {m:A8}, GdM ds m->Xw ds w F m % 10007=0
 | [],_,h,_,hm=>h _ hm
 | j::w,_,h,_,hm=>Zi3 (w:=w) (λm hm=>Zui h hm) hm
theorem Zuj (ok:ImgOk ds imgs) {j:Nat} (hj:j < 8) (F:A8->Int) {m:A8} (hm:GdM ds m) :
  Ph ds imgs j (Df ds imgs F) m=tot (λu=>u.factor * Dw ds imgs (wordA u.mono) F m) (imgs.getD j Ci)+- sg (par ds j) * Df ds imgs (Ph ds imgs j F) m:=by
 have e:Df ds imgs (Ph ds imgs j F) m=tot (λu=>u.factor * Df ds imgs (Xw ds (wordA u.mono) F) m) (imgs.getD j Ci):=Zi1 (λu:Term=>u.factor) (λu=>Xw ds (wordA u.mono) F) _ m
 rw [e,<- T5,<- K9]
 refine Wa λu hu=>?_
 rw [Zdt ok (λk hk=>Lo hk) F hm]
 have:sg (par_w ds (wordA u.mono))=- sg (par ds j):=by
  rw [<- Ze9]
  exact Zdo (by have:=ok.odd j hj u hu; omega)
 rw [this,ZUj]
 congr 1
 exact ZUl _ _ _
theorem Zi4 (ok:ImgOk ds imgs) (cl:Bs ds imgs):∀ {w:List Nat}, (∀ k,k∈w->k < 8)->∀ (F:A8->Int) {m:A8}, GdM ds m->(Dw ds imgs w (Df ds imgs F) m+sg (par_w ds w) * Df ds imgs (Dw ds imgs w F) m) % 10007=0
 | [], _, F, m, hm => by
  have e:Df ds imgs (Dw ds imgs [] F) m=0:=by
   have:=congrFun (Bq (ds:=ds) (imgs:=imgs) 0 (λ_=>0)) m
   simp only [ZQc] at this
   exact this
  rw [e]; simp [Dw]
 | j :: w, hw, F, m, hm => by
  have hj:=hw j (by simp)
  have hw':∀ k,k∈w->k < 8:=λk hk=>hw k (by simp [hk])
  have ih:=Zi4 ok cl hw' (X ds j F) hm;have O:=Zi3 (w:=w) (F:=λm=>tot (λu=>u.factor * Dw ds imgs (wordA u.mono) F m) (imgs.getD j Ci)) (λm hm=>Zuh ok cl hj F hm) hm
  have A:Xw ds w (Ph ds imgs j (Df ds imgs F)) m=Xw ds w (λm=>tot (λu=>u.factor * Dw ds imgs (wordA u.mono) F m) (imgs.getD j Ci)) m+- sg (par ds j) * (Dw ds imgs w (Ph ds imgs j F) m+sg (par_w ds w) * Df ds imgs (Xw ds w (Ph ds imgs j F)) m):=by
   rw [Um (λm hm=>Zuj ok hj F hm) hm,Nu,Un]
   dsimp only;rw [Zdt ok hw' _ hm]
  have B:Dw ds imgs w (X ds j (Df ds imgs F)) m=Dw ds imgs w (Ph ds imgs j F) m+sg (par ds j) * Dw ds imgs w (Df ds imgs (X ds j F)) m:=by
   rw [Bn (G:=λm=>Ph ds imgs j F m+sg (par ds j) * Df ds imgs (X ds j F) m) (λm hm=>Zix ok hj F hm) hm,Zdq,Bo]
  have I:Df ds imgs (Dw ds imgs (j::w) F) m=Df ds imgs (Xw ds w (Ph ds imgs j F)) m+sg (par ds j) * Df ds imgs (Dw ds imgs w (X ds j F)) m:=by
   have:Dw ds imgs (j::w) F=λm=>Xw ds w (Ph ds imgs j F) m+sg (par ds j) * Dw ds imgs w (X ds j F) m:=rfl
   rw [this,Ziw,Bq]
  have L:Dw ds imgs (j::w) (Df ds imgs F) m=Xw ds w (Ph ds imgs j (Df ds imgs F)) m+sg (par ds j) * Dw ds imgs w (X ds j (Df ds imgs F)) m:=rfl;rw [L,A,B,I];simp only [par_w,V2];have hs:=Zil (par ds j);generalize Xw ds w (λm=>tot (λu=>u.factor * Dw ds imgs (wordA u.mono) F m) (imgs.getD j Ci)) m=c at *
  generalize Dw ds imgs w (Ph ds imgs j F) m=U;generalize Df ds imgs (Xw ds w (Ph ds imgs j F)) m=V;generalize Dw ds imgs w (Df ds imgs (X ds j F)) m=p3 at *
  generalize Df ds imgs (Dw ds imgs w (X ds j F)) m=p4 at *
  generalize sg (par_w ds w)=t at *
  rcases Em (par ds j) with h | h <;> rw [h] <;> simp only [ZQb,Int.neg_mul,ZUj,Int.mul_neg,Int.neg_neg] <;> omega
theorem Zuk (ok:ImgOk ds imgs) (cl:Bs ds imgs) (F:A8->Int) (b:A8):Df ds imgs (Df ds imgs F) b % 10007=0:=by
 have:=Zi4 ok cl (w:=wordA b) (λk hk=>Lo hk) F (Bm ds)
 rw [Zuf,ZP5,ZP1] at this
 exact this
end
section
variable {ds:List Int}
theorem Zi5 {i:Nat} (hi:i < 8):∀ (n:Nat) (F:A8->Int) (m c:A8),(par ds i=1->n<=1)->(∀ k,k < 8->c.get k=m.get k+if k=i then(n:Int) else 0)->Xw ds (Cd n i) F m=if par ds i=1/\0 < n/\0 < m.get i then 0 else sg (par ds i * n * Ja ds m i) * F c
 | 0, F, m, c, _, hc => by
  have:c=m:=ZFo λk hk=>by rw [hc k hk]; split <;> simp
  rw [this,if_neg (by omega)]
  simp [Xw,sg]
 | n + 1, F, m, c, ho, hc => by
  rw [Zwg];simp only [Xw]
  let d:A8:=A8.mkf λk=>m.get k+if k=i then(n:Int) else 0
  have hd:∀ k,k < 8->d.get k=m.get k+if k=i then(n:Int) else 0:=λk hk=>ZUh _ hk
  rw [Zi5 hi n (X ds i F) m d (λo=>by have:=ho o; omega) hd]
  have ec:d.add (eA i)=c:=ZFo λk hk=>by
   rw [ZUi,hd k hk,Tn hk,hc k hk];split <;> omega
  have h:X ds i F d=xs ds i d * F c:=by unfold X; rw [ec]
  rw [h];rcases Lm ds i with o | o
  ·have A:xs ds i d=1:=by unfold xs; rw [if_neg (by omega),o]; simp [sg]
   rw [if_neg (by omega),if_neg (by omega),A,o]; simp [sg]
  ·have B:n=0:=by have:=ho o; omega
   subst B;have ed:d=m:=ZFo λk hk=>by rw [hd k hk]; split <;> simp
   rw [ed,if_neg (by omega),o]
   unfold xs;by_cases z:0 < m.get i
   ·rw [if_pos ⟨o,z⟩,if_pos ⟨rfl,by omega,z⟩]; simp
   ·rw [if_neg (λy=>z y.2),if_neg (λy=>z y.2.2),o]; simp [sg]
def Ts (ds:List Int) (a b:A8):Nat->Nat->Int
 | 0,_=>0
 | r+1,i=>par ds i * a.get i * Ja ds b i+Ts ds a b r (i+1)
def Gq (ds:List Int) (a b:A8) (r i:Nat):Prop:=∃ k,i<=k/\k < i+r/\par ds k=1/\0 < a.get k/\0 < b.get k
theorem Zi6 {a b:A8}:∀ j,(∀ k,k < j->a.get k=b.get k)->Ja ds a j=Ja ds b j
 | 0,_=>rfl
 | j+1,h=>by simp only [Ja]; rw [Zi6 j λk hk=>h k (by omega),h j (by omega)]
open Classical in
theorem Zi7 {a b:A8} (ha:GdM ds a):∀ (r i:Nat),i+r=8->∀ (F:A8->Int) (c:A8),(∀ k,k < 8->c.get k=b.get k+if i<=k then a.get k else 0)->Xw ds (wdF a r i) F b=if Gq ds a b r i then 0 else sg (Ts ds a b r i) * F c
 | 0, i, h, F, c, hc => by
  have:c=b:=ZFo λk hk=>by rw [hc k hk,if_neg (by omega)]; omega
  rw [if_neg (λ⟨k,I,L,_⟩=>by omega),this]
  simp [wdF,Xw,Ts,sg]
 | r + 1, i, h, F, c, hc => by
  simp only [wdF];rw [Ln]
  let d:A8:=A8.mkf λk=>b.get k+if i+1<=k then a.get k else 0
  have hd:∀ k,k < 8->d.get k=b.get k+if i+1<=k then a.get k else 0:=λk hk=>ZUh _ hk
  have pa:=ha.pos i (by omega)
  have U:=Zi5 (ds:=ds) (show i < 8 by omega) (a.get i).toNat F d c (λo=>by have:=ha.one i (by omega) o; omega) λk hk=>by
   rw [hc k hk,hd k hk];by_cases e:k=i
   ·subst e; rw [if_pos (Cg _),if_neg (by omega),if_pos rfl]; omega
   ·rw [if_neg e];by_cases g:i<=k
    ·rw [if_pos g,if_pos (by omega)]; omega
    ·rw [if_neg g,if_neg (by omega)]; omega
  rw [Zi7 ha r (i+1) (by omega) _ d hd,U]
  have eo:Ja ds d i=Ja ds b i:=Zi6 i λk hk=>by rw [hd k (by omega),if_neg (by omega)]; omega
  have ed:d.get i=b.get i:=by rw [hd i (by omega),if_neg (by omega)]; omega
  rw [eo,ed,ZFl pa]
  have ca:Gq ds a b (r+1) i↔(par ds i=1/\0 < (a.get i).toNat/\0 < b.get i)\/Gq ds a b r (i+1):=by
   constructor
   ·rintro ⟨k,I,L,A,O,B⟩;by_cases e:k=i
    ·subst e; exact .inl ⟨A,by omega,B⟩
    ·exact .inr ⟨k,by omega,by omega,A,O,B⟩
   ·rintro (⟨A,O,B⟩ | ⟨k,I,L,A⟩)
    ·exact⟨i,Cg _,by omega,A,by omega,B⟩
    ·exact⟨k,by omega,by omega,A⟩
  by_cases c1:Gq ds a b r (i+1)
  ·rw [if_pos c1,if_pos (ca.2 (.inr c1))]
  ·rw [if_neg c1];by_cases c2:par ds i=1/\0 < (a.get i).toNat/\0 < b.get i
   ·rw [if_pos c2,if_pos (ca.2 (.inl c2)),ZP5]
   ·rw [if_neg c2,if_neg (λz=>(ca.1 z).elim c2 c1)]
    simp only [Ts,V2];rw [<- Fp,Zvy (sg (Ts ds a b r (i+1)))]
theorem Gr (hd:OkDeg ds) {i:Nat} (hi:i < ds.length):Fa (ds.getD i Ci) 2=par ds i:=by
 have:=hd.2 i hi;rw [ZFp (by omega)]; rfl
theorem Bt {i:Nat} (hi:ds.length<=i):par ds i=0:=by
 simp [par,Co,List.getElem?_eq_none hi]
theorem Zi8 (hd:OkDeg ds) {a b:A8} (hb:GdM ds b):∀ (r i:Nat),i+r=ds.length->Ts ds a b r i=Vq ds a b r i+Ja ds b i * V1 ds a r i
 | 0,i,_=>by simp [Ts,Vq,V1]
 | r + 1, i, h => by
  have A:=hd.1;simp only [Ts,Vq,V1];rw [Zi8 hd hb r (i+1) (by omega),Gr hd (by omega)]
  simp only [Ja];have hp:=hb.pos i (by omega)
  rcases Lm ds i with o | o
  ·rw [o,if_pos (.inl rfl)]; simp
  ·have B:=hb.one i (by omega) o
   rw [o];by_cases z:b.get i<=0
   ·have e:b.get i=0:=by omega
    rw [if_pos (.inr z),e];rw [ZP5,ZP1,ZQb,ZUj,Zvy (a.get i) (Ja ds b i)]; omega
   ·have e:b.get i=1:=by omega
    rw [if_neg (by omega),e]
    rw [show (1:Int) * 1=1 from rfl,ZQb (a.get i),ZUj,Int.add_mul,ZQb,Zvy (a.get i) (Ja ds b i)]; omega
theorem Zi9 (a b:A8):∀ (r s i:Nat),Ts ds a b (r+s) i=Ts ds a b r i+Ts ds a b s (i+r)
 | 0,s,i=>by simp [Ts]
 | r + 1, s, i => by
  rw [show r+1+s=(r+s)+1 by omega]
  simp only [Ts];rw [Zi9 a b r s (i+1),show i+1+r=i+(r+1) by omega]; omega
theorem Zja (a b:A8):∀ (s i:Nat),ds.length<=i->Ts ds a b s i=0
 | 0,_,_=>rfl
 | s+1,i,h=>by simp only [Ts]; rw [Zja a b s (i+1) (by omega),Bt h]; simp
theorem Zjb (hd:OkDeg ds) {a b:A8} (ha:GdM ds a) (hb:GdM ds b) (F:A8->Int):Xw ds (wordA a) F b=(Yl ds a b).2 * F (Yl ds a b).1:=by
 have h:=Zi7 (b:=b) ha 8 0 rfl F (a.add b) λk hk=>by rw [if_pos (Nat.zero_le _),ZUi,Int.add_comm]
 have ce:Gq ds a b 8 0↔Clash ds a b:=by
  have O:=hd.1;constructor
  ·rintro ⟨k,_,V,A,B,I⟩;have hk:k < ds.length:=ZUx λz=>by rw [Bt z] at A; omega
   exact⟨k,hk,by rw [Gr hd hk]; omega,B,I⟩
  ·rintro ⟨k,hk,A,B,I⟩;rw [Gr hd hk] at A
   exact⟨k,by omega,by omega,by have:=Lm ds k; omega,B,I⟩
 rw [wordA,h];unfold Yl;by_cases c:Clash ds a b
 ·rw [if_pos (ce.2 c),if_pos c]; simp
 ·rw [if_neg (λz=>c (ce.1 z)),if_neg c]
  have e:Ts ds a b 8 0=Vq ds a b ds.length 0:=by
   have O:=hd.1;have U:Ts ds a b (8 - ds.length) (0+ds.length)=0:=Zja _ _ _ _ (by omega)
   have L:=Zi9 (ds:=ds) a b ds.length (8 - ds.length) 0;rw [show ds.length+(8 - ds.length)=8 by omega] at L
   rw [L,U,Zi8 hd hb _ _ (Zwz _)];simp [Ja]
  rw [e]
end
section
variable {ds:List Int} {imgs:List (List Term)}
theorem Zjc:∀ (p q:List Nat) (F:A8->Int) (m:A8),Dw ds imgs (p++q) F m=Xw ds q (Dw ds imgs p F) m+sg (par_w ds p) * Dw ds imgs q (Xw ds p F) m
 | [], q, F, m => by
  have:Dw ds imgs [] F=λ_=>0:=rfl
  rw [this,Ziz]; simp [par_w,sg,Xw]
 | j :: p, q, F, m => by
  have:Dw ds imgs (j::p) F=λm=>Xw ds p (Ph ds imgs j F) m+sg (par ds j) * Dw ds imgs p (X ds j F) m:=rfl
  rw [this,Nu,Un];simp only [ZUr,Dw,par_w,Xw];rw [Ln,Zjc p q,ZUj,V2,Fp];omega
theorem Zjd (ok:ImgOk ds imgs) {i:Nat} (hi:i < 8) (ho:par ds i=0):∀ (n:Nat) (F:A8->Int) {m:A8}, GdM ds m->Xw ds (Cd n i) (Ph ds imgs i F) m=Ph ds imgs i (Xw ds (Cd n i) F) m
 | 0,F,m,hm=>rfl
 | n + 1, F, m, hm => by
  rw [Zwg];simp only [Xw]
  have e:∀ m,GdM ds m->X ds i (Ph ds imgs i F) m=Ph ds imgs i (X ds i F) m:=λm hm=>by
   rw [Zdp ok hi hi F hm,eps,ho]; simp [sg]
  rw [Um e hm,Zjd ok hi ho n _ hm]
theorem Zje (ok:ImgOk ds imgs) {i:Nat} (hi:i < 8):∀ (n:Nat) (F:A8->Int) {m:A8}, GdM ds m->(par ds i=1->n=0)->Dw ds imgs (Cd (n+1) i) F m=((n:Int)+1) * Ph ds imgs i (Xw ds (Cd n i) F) m
 | 0,F,m,hm,_=>by simp [Dw,Xw]
 | n + 1, F, m, hm, ho => by
  have o:par ds i=0:=by
   rcases Lm ds i with o | o
   ·exact o
   ·have:=ho o; omega
  rw [Zwg];simp only [Dw];rw [Zje ok hi n _ hm (λz=>by omega),Zjd ok hi o (n+1) F hm,o]
  have:Xw ds (Cd (n+1) i) F=Xw ds (Cd n i) (X ds i F):=rfl;rw [this];simp only [sg,Int.natCast_succ,Int.add_mul,ZQb];simp;omega
theorem GdM.joined_ok {a b:A8} (hd:OkDeg ds) (ha:GdM ds a) (hb:GdM ds b):GdM ds (Yl ds a b).1:=by
 unfold Yl;by_cases c:Clash ds a b
 ·rw [if_pos c]; exact Bm ds
 ·rw [if_neg c];refine⟨λi hi=>by rw [ZUi]; have:=ha.pos i hi; have:=hb.pos i hi; omega,λi hi o=>?_⟩
  have hk:i < ds.length:=ZUx λz=>by rw [Bt z] at o; omega
  have h:=ha.one i hi o;have A:=hb.one i hi o;have B:=ha.pos i hi;have I:=hb.pos i hi;rw [ZUi];have:¬ (0 < a.get i/\0 < b.get i):=λz=>c ⟨i,hk,by rw [Gr hd hk]; omega,z.1,z.2⟩
  omega
def To (ds:List Int) (l b:A8) (img:List Term) (F:A8->Int):Int:=tot (λu=>u.factor * ((Yl ds l u.mono).2 * ((Yl ds (Yl ds l u.mono).1 b).2 * F (Yl ds (Yl ds l u.mono).1 b).1))) img
theorem Zul (hd:OkDeg ds) (ok:ImgOk ds imgs) {i:Nat} {l b:A8} (hl:GdM ds l) (hb:GdM ds b) (h:∀ u,u∈imgs.getD i Ci->GdM ds u.mono) (F:A8->Int):Ph ds imgs i (Xw ds (wordA l) F) b=To ds l b (imgs.getD i Ci) F:=by
 refine Wa λu hu=>?_
 congr 1
 have hu:=h u hu;have e:=Br ok hb (λk hk=>Lo hk) F hu (w:=wordA l)
 have e':Xw ds (wordA u.mono) (Xw ds (wordA l) F) b=Rm ds b (Xw ds (wordA l) F) u.mono:=rfl;rw [e',<- e,Zjb hd hl hu]
 unfold Rm;rw [Zjb hd (hl.joined_ok hd hu) hb]
def dF (ds:List Int) (imgs:List (List Term)) (m:A8) (F:A8->Int):Nat->Nat->Int
 | 0,_=>0
 | r+1,i=>(if m.get i > 0 then sg (wtU ds m i) * (m.get i * To ds (leftA m i) (backA m i) (imgs.getD i Ci) F) else 0)+dF ds imgs m F r (i+1)
theorem Zdu (ds:List Int) (m:A8):∀ j,(wtU ds m j - Ja ds m j) % 2=0
 | 0=>rfl
 | j + 1 => by
  have ih:=Zdu ds m j;simp only [wtU,Ja,par]
  have h:(ds.getD j Ci * m.get j - ds.getD j Ci % 2 * m.get j) % 2=0:=by
   rw [<- Int.sub_mul,Ct,show (ds.getD j Ci - ds.getD j Ci % 2) % 2=0 by omega]; simp
  omega
theorem Zum {m:A8} (hm:GdM ds m) {i:Nat} (hi:i < 8) (hp:0 < m.get i):GdM ds (leftA m i)/\GdM ds (backA m i):=by
 refine⟨⟨λk hk=>?_,λk hk o=>?_⟩,⟨λk hk=>?_,λk hk o=>?_⟩⟩
 ·rw [leftA,ZUh _ hk]; have:=hm.pos k hk; split <;> (try split) <;> omega
 ·rw [leftA,ZUh _ hk]; have:=hm.one k hk o;split
  ·omega
  ·split
   ·rename_i e; subst e; omega
   ·omega
 ·rw [backA,ZUh _ hk]; have:=hm.pos k hk; split <;> omega
 ·rw [backA,ZUh _ hk]; have:=hm.one k hk o; split <;> omega
theorem Zun {m:A8} {i:Nat} (hi:i < 8) {n:Nat} (hn:m.get i=(n:Int)+1):wordA (leftA m i)=wdF m i 0++Cd n i:=by
 rw [Zdr _ hi];have A:wdF (leftA m i) i 0=wdF m i 0:=Bp i 0 λk _ h=>by rw [leftA,ZUh _ (by omega),if_pos (by omega)]
 have B:(leftA m i).get i=n:=by rw [leftA,ZUh _ hi,if_neg (by omega),if_pos rfl]; omega
 have I:wdF (leftA m i) (7 - i) (i+1)=[]:=by
  have:∀ r j,i < j->j+r<=8->wdF (leftA m i) r j=[]:=by
   intro r
   induction r with
   | zero=>intro j _ _; rfl
   | succ r ih=>intro j L O; simp only [wdF]; rw [ih (j+1) (by omega) (by omega),leftA,ZUh _ (by omega),if_neg (by omega),if_neg (by omega)]; rfl
  exact this _ _ (by omega) (by omega)
 rw [A,B,I,ZJz]; rfl
theorem Zjf (hd:OkDeg ds) (ok:ImgOk ds imgs) (A:∀ i,i < 8->∀ u,u∈imgs.getD i Ci->GdM ds u.mono) {m:A8} (hm:GdM ds m) (F:A8->Int) :
  ∀ (r i:Nat),i+r=8->sg (Ja ds m i) * Dw ds imgs (wdF m r i) (Xw ds (wdF m i 0) F) ZCe=dF ds imgs m F r i
 | 0,i,_=>by simp [wdF,Dw,dF]
 | r + 1, i, h => by
  have hi:i < 8:=by omega
  have hp:=hm.pos i hi;simp only [wdF,dF];rw [Zjc,ZUj];have ih:=Zjf hd ok A hm F r (i+1) (by omega)
  have e0:Xw ds (Cd (m.get i).toNat i) (Xw ds (wdF m i 0) F)=Xw ds (wdF m (i+1) 0) F:=by rw [Ziu,Ln]
  have B:sg (Ja ds m i) * (sg (par_w ds (Cd (m.get i).toNat i)) * Dw ds imgs (wdF m r (i+1)) (Xw ds (Cd (m.get i).toNat i) (Xw ds (wdF m i 0) F)) ZCe)=dF ds imgs m F r (i+1):=by
   rw [<- ih,e0,<- Fp,<- V2,Zdm,ZFl hp]; rfl
  rw [B]
  congr 1
  rw [Zds hm r (i+1) (by omega) _ (backA m i) λk hk=>by rw [backA,ZUh _ hk]; rfl]
  by_cases c:m.get i > 0
  ·obtain ⟨n,hn⟩:∃ n:Nat,m.get i=(n:Int)+1:=⟨(m.get i - 1).toNat,by omega⟩
   have hn':(m.get i).toNat=n+1:=by omega
   obtain ⟨gl,gb⟩:=Zum hm hi c;rw [if_pos c,hn',Zje ok hi n _ gb (λo=>by have:=hm.one i hi o; omega),<- Ln,<- Zun hi hn,Zul hd ok gl gb (A i hi),hn]
   rw [Zdo (Zdu ds m i)]
  ·have e:(m.get i).toNat=0:=by omega
   rw [if_neg c,e]; simp [Dw]
theorem Zjg (hd:OkDeg ds) (ok:ImgOk ds imgs) (h:∀ i,i < 8->∀ u,u∈imgs.getD i Ci->GdM ds u.mono) {m:A8} (hm:GdM ds m) (F:A8->Int):Df ds imgs F m=dF ds imgs m F 8 0:=by
 have:=Zjf hd ok h hm F 8 0 rfl;simpa [Ja,sg,wdF,Xw,Df,wordA] using this
end
def ind (x:A8):A8->Int:=λy=>if y=x then 1 else 0
theorem Zjh {A:A8} {c:Int} (G:A8->Int):∀ {S:List A8}, S.Nodup->(c=0\/A∈S)->tot (λy=>c * ind y A * G y) S=c * G A
 | [], _, h => by
  rcases h with h | h
  ·rw [h]; simp [tot]
  ·cases h
 | s :: S, hn, h => by
  obtain ⟨B,I⟩:=ZFj.1 hn;simp only [tot];by_cases e:A=s
  ·subst e;rw [Tf λy hy=>by rw [ind,if_neg (λz=>B (by rw [z]; exact hy))]; simp]
   rw [ind,if_pos rfl]; simp
  ·rw [Zjh G I (h.imp id λz=>by rcases Cb.1 z with z | z; exact absurd z e; exact z),ind,if_neg e]
   simp
theorem Zuo {ds:List Int} {l b:A8} {img:List Term} {S:List A8} (A:S.Nodup) (G:A8->Int) (h:∀ u,u∈img->(Yl ds l u.mono).2 * (Yl ds (Yl ds l u.mono).1 b).2=0\/(Yl ds (Yl ds l u.mono).1 b).1∈S) :
  To ds l b img G=tot (λy=>To ds l b img (ind y) * G y) S:=by
 have B:To ds l b img G=tot (λu=>tot (λy=>(u.factor * ((Yl ds l u.mono).2 * (Yl ds (Yl ds l u.mono).1 b).2)) * ind y (Yl ds (Yl ds l u.mono).1 b).1 * G y) S) img:=by
  refine Wa λu hu=>?_
  rw [Zjh G A ((h u hu).imp (λz=>by rw [z,ZP5]) id)]
  simp only [Fp]
 rw [B,Zfs];refine Wa λy _=>?_
 unfold To;rw [Zvy,<- T5]
 exact Wa λu _=>by simp only [Zvy,ZUl,Fp]
theorem Zji {ds:List Int} {imgs:List (List Term)} {m:A8} {S:List A8} (A:S.Nodup) (G:A8->Int) (h:∀ i u,i < 8->0 < m.get i->u∈imgs.getD i Ci->(Yl ds (leftA m i) u.mono).2 * (Yl ds (Yl ds (leftA m i) u.mono).1 (backA m i)).2=0\/(Yl ds (Yl ds (leftA m i) u.mono).1 (backA m i)).1∈S) :
  ∀ r i,i+r<=8->dF ds imgs m G r i=tot (λy=>dF ds imgs m (ind y) r i * G y) S
 | 0,i,_=>by simp only [dF]; rw [Tf λy _=>ZQc _]
 | r + 1, i, hi => by
  simp only [dF];rw [Zji A G h r (i+1) (by omega)]
  by_cases c:m.get i > 0
  ·simp only [if_pos c,Int.add_mul];rw [K9,Zuo A G λu hu=>h i u (by omega) c hu,<- T5,<- T5]
   congr 1
   exact Wa λy _=>by simp only [Fp]
  ·simp only [if_neg c,F3]
theorem Zjj (ds:List Int) (imgs:List (List Term)) (m:A8) (n:Int) (x:A8):∀ r i,dS ds imgs m n x r i % 10007=(n * dF ds imgs m (ind x) r i) % 10007
 | 0,i=>by simp [dS,dF]
 | r + 1, i => by
  simp only [dS,dF];have ih:=Zjj ds imgs m n x r (i+1)
  have key:(if m.get i > 0 then dK ds m n i * triC ds (leftA m i) (backA m i) (imgs.getD i Ci) x else 0) % 10007=(n * (if m.get i > 0 then sg (wtU ds m i) * (m.get i * To ds (leftA m i) (backA m i) (imgs.getD i Ci) (ind x)) else 0)) % 10007:=by
   by_cases c:m.get i > 0
   ·rw [if_pos c,if_pos c,dK,Ct,F4,<- Ct]
    have:To ds (leftA m i) (backA m i) (imgs.getD i Ci) (ind x)=triC ds (leftA m i) (backA m i) (imgs.getD i Ci) x:=by
     refine Wa λu _=>?_
     unfold tri ind;split
     ·simp only [ZUu,ZQb,Zvy,ZUl,Fp]
     ·simp
    rw [this]
    congr 1
    simp only [Zvy,ZUl]
   ·rw [if_neg c,if_neg c,ZP5]
  rw [ZUj];generalize (if m.get i > 0 then dK ds m n i * triC ds (leftA m i) (backA m i) (imgs.getD i Ci) x else 0)=h at *
  generalize n * (if m.get i > 0 then sg (wtU ds m i) * (m.get i * To ds (leftA m i) (backA m i) (imgs.getD i Ci) (ind x)) else 0)=A at *
  generalize n * dF ds imgs m (ind x) r (i+1)=B at *
  omega
end Vc
namespace Go.Proofs.YtaagfepgbofmlaaGreat
open Go Vc
theorem Zjk {ds:List Int} (hd:OkDeg ds) {m:A8} (h:OkMono ds m) (hp:∀ i,i < 8->0<=m.get i):GdM ds m:=⟨hp,λi hi o=>by
 have hk:i < ds.length:=ZUx λz=>by rw [Bt z] at o; omega
 exact((h i hi).1 hk).2 (by rw [Gr hd hk]; omega)⟩
theorem Zjl (ds:List Int) (m:A8):∀ k,wtU ds m (ds.length+k)=wtU ds m ds.length
 | 0=>rfl
 | k + 1 => by
  rw [show ds.length+(k+1)=(ds.length+k)+1 by omega]
  simp only [wtU];rw [Zjl ds m k];simp [Co]
theorem Zdv {a:Alg} (ok:OkAlg a) (hf:Xh a) {i:Nat} {u:Term} (hu:u∈(imgsT a).getD i Ci):i < a.images.length/\OkMono a.degrees u.mono/\(∀ k,k < 8->0<=u.mono.get k/\u.mono.get k<=20)/\wtU a.degrees u.mono a.degrees.length=a.degrees.getD i Ci+1:=by
 by_cases hj:i < a.images.length
 ·rw [S6 a hj] at hu
  have h:=(ok.frm i hj).mono hu;refine⟨hj,h,Lh (S5 h) (((ok.algF hf).fit i hj).pos u hu),?_⟩
  obtain ⟨q,hq,rfl⟩:=Cw hu;have:=ok.hom i hj q hq;rwa [Nt hq] at this
 ·simp [imgsT,Co,hj] at hu; cases hu
theorem Zjm {a:Alg} (ok:OkAlg a) (hf:Xh a) {i:Nat} {u:Term} (hu:u∈(imgsT a).getD i Ci):GdM a.degrees u.mono:=by
 obtain ⟨_,h,A,_⟩:=Zdv ok hf hu;exact Zjk ok.deg h λk hk=>(A k hk).1
theorem Zdw {a:Alg} (ok:OkAlg a) (hf:Xh a):ImgOk a.degrees (imgsT a):=⟨λi hi u hu=>by
 obtain ⟨_,L,h,A⟩:=Zdv ok hf hu;have B:par_w a.degrees (wordA u.mono)=Ja a.degrees u.mono 8:=Zdn (λk hk=>(h k hk).1) 8 (Cg _)
 have O:=Zdu a.degrees u.mono 8;have U:=ok.deg.1;have I:=Zjl a.degrees u.mono (8 - a.degrees.length);rw [show a.degrees.length+(8 - a.degrees.length)=8 by omega,A] at I
 rw [B];unfold par;omega⟩
theorem Zjn {a:Alg} (ok:OkAlg a) {n:Int} {m:A8} (hm:m∈mons a.degrees n):GdM a.degrees m:=by
 obtain ⟨h,_,A⟩:=Bh ok.deg hm;exact Zjk ok.deg h λk hk=>(A k hk).1
theorem Zjo {ds:List Int} {imgs:List (List Term)} {m:A8} {P:A8->Prop} (h:∀ y,DMono ds imgs y m->P y) {i:Nat} {u:Term} (hi:i < 8) (hp:0 < m.get i) (hu:u∈imgs.getD i Ci) :
  (Yl ds (leftA m i) u.mono).2 * (Yl ds (Yl ds (leftA m i) u.mono).1 (backA m i)).2=0\/P (Yl ds (Yl ds (leftA m i) u.mono).1 (backA m i)).1:=by
 by_cases c:(Yl ds (leftA m i) u.mono).2 * (Yl ds (Yl ds (leftA m i) u.mono).1 (backA m i)).2=0
 ·exact .inl c
 ·right
  have c1:(Yl ds (leftA m i) u.mono).2≠0:=λz=>c (by rw [z,ZQc])
  have c2:(Yl ds (Yl ds (leftA m i) u.mono).1 (backA m i)).2≠0:=λz=>c (by rw [z,ZP5])
  obtain ⟨L,A,_⟩:=Q2 c1;obtain ⟨B,I,_⟩:=Q2 c2;rw [A] at B I
  exact h _ ⟨i,u,hi,hp,hu,by rw [A,I],L,B⟩
theorem Zjp {ds:List Int} {imgs:List (List Term)} {m x:A8} (h:¬ DMono ds imgs x m):∀ r i,i+r<=8->dF ds imgs m (ind x) r i=0
 | 0,_,_=>rfl
 | r + 1, i, hi => by
  simp only [dF];rw [Zjp h r (i+1) (by omega),ZP1]
  by_cases c:m.get i > 0
  ·rw [if_pos c]
   have:To ds (leftA m i) (backA m i) (imgs.getD i Ci) (ind x)=0:=Tf λu hu=>by
    rcases Zjo (P:=λy=>y≠x) (λy hy e=>h (e ▸ hy)) (show i < 8 by omega) c hu with z | z
    ·have:∀ p q r s:Int,q * r=0->p * (q * (r * s))=0:=λp q r s z=>by rw [<- Fp q,z]; simp
     exact this _ _ _ _ z
    ·rw [ind,if_neg z]; simp
   rw [this]; simp
  ·rw [if_neg c]
theorem Gs (a:Alg) (f:List Term) (x:A8):dco a f x=tot (λt=>t.factor * dF a.degrees (imgsT a) t.mono (ind x) 8 0) f % 10007:=by
 unfold dco;exact E1 λt _=>Zjj ..
theorem Zjq {a:Alg} (ok:OkAlg a) (n:Int):(mons a.degrees n).Nodup:=Srt.nd (Gl ok.deg.1 n)
theorem Zjr {a:Alg} (ok:OkAlg a) (hf:Xh a) {n:Int} {m:A8} (hm:m∈mons a.degrees n) (hn:n<=38) (G:A8->Int):Df a.degrees (imgsT a) G m=tot (λy=>dF a.degrees (imgsT a) m (ind y) 8 0 * G y) (mons a.degrees (n+1)):=by
 rw [Zjg ok.deg (Zdw ok hf) (λi hi u hu=>Zjm ok hf hu) (Zjn ok hm)]
 exact Zji (Zjq ok _) G (λi u hi hp hu=>Zjo (P:=λy=>y∈mons a.degrees (n+1)) (λy hy=>Bk ok hf hm hn hy) hi hp hu) 8 0 (Cg _)
theorem Zup {a:Alg} (ok:OkAlg a) (hf:Xh a):Bs a.degrees (imgsT a):=λi hi F=>by
 by_cases hj:i < a.images.length
 ·have hd:=ok.deg;have hji:i < a.degrees.length:=by have:=ok.len; omega
  have hdi:=hd.2 i hji
  let n:=a.degrees.getD i Ci+1
  let f:=(imgsT a).getD i Ci
  have ef:f=(a.images.getD i Ci).terms:=S6 a hj
  have hin:∀ u,u∈f->u.mono∈mons a.degrees n:=λu hu=>by
   obtain ⟨_,A,B,I⟩:=Zdv ok hf hu;have:=Zh8 hd (λk hk=>(B k hk).1) A
   rwa [I] at this
  let row:=(mons a.degrees (n+1)).map (dco a f)
  have hrow:RowOk (mons a.degrees (n+1)).length row:=Bl a n f;have hnl:row.length=(mons a.degrees (n+1)).length:=hrow.len
  have hv:∀ j,j < (mons a.degrees (n+1)).length->coT (fm (mons a.degrees (n+1)) row) ((mons a.degrees (n+1)).getD j Ci)=dco a f ((mons a.degrees (n+1)).getD j Ci):=λj h=>by
   rw [Nr (Zjq ok _) hnl j h];simp [vec,row,Co,h]
  have dmin:∀ {y:A8} {u:Term}, u∈f->DMono a.degrees (imgsT a) y u.mono->y∈mons a.degrees (n+1):=λhu hy=>Bk ok hf (hin _ hu) (by show a.degrees.getD i Ci+1<=38; omega) hy
  have isd:IsD a.degrees (imgsT a) f (fm (mons a.degrees (n+1)) row):=by
   have can:Canon (fm (mons a.degrees (n+1)) row):=Gn (Gl hd.1 _) (Lk hrow)
   have zero:∀ x,(∀ u,u∈f->¬ DMono a.degrees (imgsT a) x u.mono)->dco a f x=0:=λx hx=>by
    rw [Gs,Tf λu hu=>by rw [Zjp (hx u hu) 8 0 (Cg _),ZP5]]; rfl
   have cf:∀ x,coT (fm (mons a.degrees (n+1)) row) x=dco a f x:=λx=>by
    by_cases c:x∈mons a.degrees (n+1)
    ·obtain ⟨j,hj,rfl⟩:=Qa c;exact hv j hj
    ·rw [Ns c,zero x λu hu hy=>c (dmin hu hy)]
   refine⟨can,λx=>?_,λy hy=>?_⟩
   ·rw [cf x]; unfold dco; omega
   ·refine ZRv λno=>?_
    have e:=zero y.mono λu hu hd=>no ⟨u,hu,hd⟩
    rw [<- cf,Zdc can hy] at e
    have:=can.2 y hy;omega
  have nil:=ok.clo i hj _ (by rw [<- ef]; exact isd)
  have z:∀ y,y∈mons a.degrees (n+1)->dco a f y=0:=λy hy=>by
   obtain ⟨j,hj,rfl⟩:=Qa hy;rw [<- hv j hj,nil]; rfl
  have L:tot (λu=>u.factor * Df a.degrees (imgsT a) F u.mono) f=tot (λy=>F y * tot (λu=>u.factor * dF a.degrees (imgsT a) u.mono (ind y) 8 0) f) (mons a.degrees (n+1)):=by
   have:tot (λu=>u.factor * Df a.degrees (imgsT a) F u.mono) f=tot (λu=>tot (λy=>F y * (u.factor * dF a.degrees (imgsT a) u.mono (ind y) 8 0)) (mons a.degrees (n+1))) f:=Wa λu hu=>by
    rw [Zjr ok hf (hin u hu) (by show a.degrees.getD i Ci+1<=38; omega),<- T5]
    exact Wa λy _=>by simp only [Zvy,ZUl]
   rw [this,Zfs];exact Wa λy _=>T5 _ _ _
  show tot (λu=>u.factor * Df a.degrees (imgsT a) F u.mono) f % 10007=0
  rw [L,E1 (g:=λ_=>0) λy hy=>by
   have:=z y hy;rw [Gs] at this
   rw [Ct,this]; simp]
  rw [Tf λ_ _=>rfl]; rfl
 ·have:(imgsT a).getD i Ci=[]:=by simp [imgsT,Co,hj]; rfl
  rw [this]; rfl
theorem Zuq {a:Alg} (ok:OkAlg a) (hf:Xh a) {n:Int} {m:A8} (hm:m∈mons a.degrees n) (hn:n<=38) (x:A8):tot (λy=>dco a [⟨m,1⟩] y * dco a [⟨y,1⟩] x) (mons a.degrees (n+1)) % 10007=0:=by
 have one:∀ m x,dco a [⟨m,1⟩] x=dF a.degrees (imgsT a) m (ind x) 8 0 % 10007:=λm x=>by rw [Gs]; simp [tot]
 have sq:=Zuk (Zdw ok hf) (Zup ok hf) (ind x) m;rw [Zjr ok hf hm hn] at sq
 rw [<- sq]
 refine E1 λy hy=>?_
 rw [one,one,<- Ct,Zjg ok.deg (Zdw ok hf) (λi hi u hu=>Zjm ok hf hu) (Zjn ok hy)]
def mx (a:Alg) (n:Int):List (List Int):=(mons a.degrees n).map λm=>W6 a n [⟨m,1⟩]
theorem Vk (a:Alg) (n:Int):(mx a n).length=(mons a.degrees n).length:=ZPv _
theorem J6 (a:Alg) (n:Int):X3 (mons a.degrees (n+1)).length (mx a n):=λx hx=>by
 obtain ⟨m,_,rfl⟩:=Cp.1 hx;exact Bl ..
theorem Zdx {a:Alg} {n:Int} {f:List Term} {j:Nat} (hj:j < (mons a.degrees (n+1)).length):vec (W6 a n f) j=dco a f ((mons a.degrees (n+1)).getD j Ci):=by simp [vec,W6,Co,hj]
theorem Bu {l:List A8} (g:A8->Int):∀ k,k<=l.length->tt (λi=>g (l.getD i Ci)) (C9 k)=tot g (l.take k)
 | 0,_=>by simp [tt,tot]
 | k + 1, h => by
  have app:∀ (f:Nat->Int) (a b:List Nat),tt f (a++b)=tt f a+tt f b:=λf a b=>by
   induction a with
   | nil=>simp [tt]
   | cons x l ih=>simp only [ZUr,tt,ih]; omega
  rw [ZUv,app,Bu g k (by omega),Xk (by omega),Qz]
  simp only [tt,tot]
theorem Zur {a:Alg} (ok:OkAlg a) (hf:Xh a) {n:Int} (hn:n<=36) {m:A8} (hm:m∈mons a.degrees n) {j:Nat} (hj:j < (mons a.degrees (n+1+1)).length):Ge (W6 a n [⟨m,1⟩]) (mx a (n+1)) j % 10007=0:=by
 have e:Ge (W6 a n [⟨m,1⟩]) (mx a (n+1)) j=tot (λy=>dco a [⟨m,1⟩] y * dco a [⟨y,1⟩] ((mons a.degrees (n+1+1)).getD j Ci)) (mons a.degrees (n+1)):=by
  have:=Bu (l:=mons a.degrees (n+1)) (λy=>dco a [⟨m,1⟩] y * dco a [⟨y,1⟩] ((mons a.degrees (n+1+1)).getD j Ci)) (mons a.degrees (n+1)).length (Cg _)
  rw [ZP0] at this
  rw [<- this,Ge,Vk]
  refine S4 λi hi=>?_
  have hi:=Zvt.1 hi;rw [Zdx hi]
  congr 1
  have:at_ (mx a (n+1)) i=W6 a (n+1) [⟨(mons a.degrees (n+1)).getD i Ci,1⟩]:=by simp [at_,mx,Co,hi]
  rw [this,Zdx hj]
 rw [e];exact Zuq ok hf hm (by omega) _
theorem Zus {a:Alg} (ok:OkAlg a) (hf:Xh a) {n:Int} (hn:n<=36) {Z B:List (List Int)} (h:IsKer (mons a.degrees (n+1+1)).length (mx a (n+1)) Z) (A:IsRref (mons a.degrees (n+1)).length (mx a n) B):∀ x,x∈B->Sp (gens Z) (vec x):=λx hx=>by
 have I:=(A.sp _).2 (Yy hx);refine I.mono λr ⟨y,hy,e⟩=>?_
 subst e;obtain ⟨m,hm,rfl⟩:=Cp.1 hy;refine Zct (J6 a (n+1)) h (by rw [Vk]; exact Bl a n _) λj hj=>Zur ok hf hn hm hj
theorem Qc {a:Alg} {p n:Int} (hd:OkDeg a.degrees) (hn:0<=n/\n<=40) (hf:Fits a.degrees n) {K:List A8->Prop} (h:K (Ys p (mons a.degrees n))):Uj a p n K:=by
 unfold Uj;rw [if_pos hn.1];have hf':(mons a.degrees n).length<=120:=hf;refine Gj hd (by omega) ?_
 rw [Fs (by omega)]
 refine Yp (λi s=>s=Ys p ((mons a.degrees n).take i)) (mons a.degrees n).length ?_ ?_ _ _ _ (by omega) rfl
 ·intro i s next hi hs hnx;refine Bb (S8 hd hi) ?_
  have hl:s.length<=120:=by
   rw [hs];have:=Lj p ((mons a.degrees n).take i);rw [ZJv] at this
   omega
  by_cases q:p<=wdU ((mons a.degrees n).getD i Ci) 8
  ·refine Y4 q ⟨by unfold Zw; omega,hnx _ ?_⟩
   rw [hs,Li hi,if_pos q]
  ·refine Y8 q (hnx _ ?_)
   rw [hs,Li hi,if_neg q]
 ·intro s hs; rw [hs,ZP0]; exact h
theorem Sg {a:Alg} (ok:OkAlg a) (n:Int):Srt (mons a.degrees n):=Gl ok.deg.1 n
theorem Gt {a:Alg} (ok:OkAlg a) (p n:Int):Srt (Ys p (mons a.degrees n)):=(Sg ok n).sublist (List.filter_sublist ..)
theorem Zdy {p:Int} {l:List A8}:∀ m,m∈Ys p l->m∈l:=λm h=>(ZPz.1 h).1
def Uo (a:Alg):Cx where
 LV:=mons a.degrees
 PL n:=plc (mons a.degrees n) (mons a.degrees n).length
 MX n:=(mons a.degrees n).map λm=>W6 a n [⟨m,1⟩]
 CL _:=[]
 BD _:=[]
 KL _:=[]
theorem Qd {a:Alg} (ok:OkAlg a) {n:Int} (hn:n<=40) (hf:Fits a.degrees n):Ug (Uo a) a.degrees n :=
 Bf ok.deg hn (λ_=>⟨rfl,Ztu _⟩) (λno=>absurd hf no)
theorem Zut (m:A8):IsMap [⟨m,1⟩] (Yv ([]:List (A8×Int)) m 1) :=
 ⟨Zc7 m,λx=>rfl,λp hp=>by obtain rfl:=Fc.1 hp; exact⟨_,List.mem_singleton_self _,rfl⟩⟩
theorem Zuu {a:Alg} {n:Int} {i:Nat} (hi:i < (mons a.degrees n).length):((Uo a).MX n).getD i Ci=W6 a n [⟨(mons a.degrees n).getD i Ci,1⟩]:=by
 simp [Uo,Co,hi]
theorem Zdz {a:Alg} (ok:OkAlg a) (hf:Xh a) {n:Int} (hn:0<=n/\n<=38) (h:Fits a.degrees n) (A:Fits a.degrees (n+1)):M0 (Uo a) a n:=by
 unfold M0 De;have e:Zwt.wrap (n+1)=n+1:=i64_in _ (by omega)
 rw [e];refine⟨Qd ok (by omega) h,⟨Qd ok (by omega) A,?_⟩,trivial⟩
 have hl:(mons a.degrees n).length<=120:=h;refine Yp (λi s=>s=((mons a.degrees n).take i).map λm=>W6 a n [⟨m,1⟩]) (mons a.degrees n).length ?_ ?_ _ _ _ (Zwz _) rfl
 ·intro i s next hi hs hnx;refine Zii ok hf hn h A (Zdg (Yw hi)) (Zut _) ⟨?_,hnx _ ?_⟩
  ·rw [hs,ZPv,ZJv]; unfold Zw; omega
  ·rw [Xk hi,ZJn,hs]; rfl
 ·intro s hs; rw [hs,ZP0]; exact⟨rfl,trivial⟩
def below (q:Int) (l:List A8):List A8:=l.filter λm=>decide (wdU m 8 < q)
theorem Bv {q:Int} {l:List A8} {i:Nat} (h:i < l.length):below q (l.take (i+1))=if wdU (l.getD i Ci) 8 < q then below q (l.take i)++[l.getD i Ci] else below q (l.take i):=by
 rw [Xk h,below,ZUw];by_cases c:wdU (l.getD i Ci) 8 < q
 ·rw [if_pos c,ZQw (by simpa using c)]; rfl
 ·rw [if_neg c,ZQx (by simpa using c),List.filter_nil,ZJz]; rfl
theorem Bw (q:Int) (l:List A8):(below q l).length<=l.length:=ZU1 _ _
theorem Bx {α β:Type} [Inhabited α] [Inhabited β] {l:List α} {g:α->β} {i:Nat} (h:i < l.length):(l.map g).getD i Ci=g (l.getD i Ci):=by simp [Co,h]
def Vl (p:Int) (l:List A8):List Bool:=l.map λm=>decide (wdU m 8≥p)
theorem By {a:Alg} {p n:Int} {pl:List (A8×Int)} (hd:OkDeg a.degrees) (hf:Fits a.degrees n) {K:List Bool->Prop} (h:K (Vl p (mons a.degrees n))):Sx ⟨mons a.degrees n,pl⟩ p K:=by
 unfold Sx;dsimp only;have hl:(mons a.degrees n).length<=120:=hf;refine Yp (λi s=>s=Vl p ((mons a.degrees n).take i)) (mons a.degrees n).length ?_ ?_ _ _ _ (by omega) rfl
 ·intro i s next hi hs hn;refine Zh1 (S8 hd hi) ⟨?_,hn _ ?_⟩
  ·rw [hs,Vl,ZPv,ZJv]; unfold Zw; omega
  ·rw [hs,Xk hi,Vl,Vl,ZJn]; rfl
 ·intro s hs; rw [hs,ZP0]; exact h
theorem Zuv {a:Alg} {n q:Int} {g:A8->Int} {E:List Int->Prop} (hd:OkDeg a.degrees) (hf:Fits a.degrees n) (h:E ((below q (mons a.degrees n)).map g)) :
  Z1 (λA (B:(List Int)) I=>Ui ((mons a.degrees n).getD A Ci) (λL=>(if L < q then((0<=(A:Int)/\(A:Int) < (((mons a.degrees n).map g).length:Int))/\(Zw (B.length+1) 8/\I (B++[((mons a.degrees n).map g).getD A Ci]))) else I B))) E (mons a.degrees n).length 0 []:=by
 have hl:(mons a.degrees n).length<=120:=hf;refine Yp (λi s=>s=(below q ((mons a.degrees n).take i)).map g) (mons a.degrees n).length ?_ ?_ _ _ _ (by omega) rfl
 ·intro i s next hi hs hn;refine Bb (S8 hd hi) ?_
  by_cases c:wdU ((mons a.degrees n).getD i Ci) 8 < q
  ·refine Y4 c ⟨⟨by omega,by rw [ZPv]; omega⟩,?_,hn _ ?_⟩
   ·have:=Bw q ((mons a.degrees n).take i);rw [ZJv] at this
    rw [hs,ZPv]; unfold Zw; omega
   ·rw [Bx hi,hs,Bv hi,if_pos c,ZJn]; rfl
  ·refine Y8 c (hn _ ?_)
   rw [hs,Bv hi,if_neg c]
 ·intro s hs; rw [hs,ZP0]; exact h
theorem Zuw {l:List A8} {q:Int} {g:A8->Int} {E:List Int->Prop} (hl:l.length<=120) (h:E ((below q l).map g)) :
  Z1 (λA (B:(List Int)) I=>((0<=(A:Int)/\(A:Int) < ((Vl q l).length:Int))/\(if¬ (((Vl q l).getD A Ci)=true) then(Zw (B.length+1) 8/\I (B++[(l.map g).getD A Ci])) else I B))) E ((l.map g).length) 0 []:=by
 rw [ZPv];refine Yp (λi s=>s=(below q (l.take i)).map g) l.length ?_ ?_ _ _ _ (by omega) rfl
 ·intro i s next hi hs hn;refine⟨⟨by omega,by rw [Vl,ZPv]; omega⟩,?_⟩
  have hb:(Vl q l).getD i Ci=decide (wdU (l.getD i Ci) 8≥q):=Bx hi;rw [hb];by_cases c:wdU (l.getD i Ci) 8 < q
  ·refine Y4 (by rw [decide_eq_true_eq]; omega) ⟨?_,hn _ ?_⟩
   ·have:=Bw q (l.take i);rw [ZJv] at this
    rw [hs,ZPv]; unfold Zw; omega
   ·rw [Bx hi,hs,Bv hi,if_pos c,ZJn]; rfl
  ·refine Y8 (by rw [decide_eq_true_eq]; omega) (hn _ ?_)
   rw [hs,Bv hi,if_neg c]
 ·intro s hs; rw [hs,ZP0]; exact h
def Lp (a:Alg) (n q:Int) (m:A8):List Int:=(below q (mons a.degrees (n+1))).map (dco a [⟨m,1⟩])
def Wo (a:Alg) (r p n:Int):List (List Int):=(Ys p (mons a.degrees n)).map (Lp a n (p+r))
theorem Qe (a:Alg) (r p n:Int):X3 (below (p+r) (mons a.degrees (n+1))).length (Wo a r p n):=λx hx=>by
 obtain ⟨m,_,rfl⟩:=Cp.1 hx;refine⟨ZPv _,λj=>?_⟩
 by_cases hj:j < (below (p+r) (mons a.degrees (n+1))).length
 ·have:vec (Lp a n (p+r) m) j=dco a [⟨m,1⟩] ((below (p+r) (mons a.degrees (n+1))).getD j Ci):=by simp [vec,Lp,Co,hj]
  rw [this]; exact Zig ..
 ·rw [Xs (by simp [Lp]; omega)]; omega
def ZIs (a:Alg) (r p n:Int) (Z:List (List Int)):Prop :=
 ∃ L,IsKer (below (p+r) (mons a.degrees (n+1))).length (Wo a r p n) L/\L.length<=(Wo a r p n).length/\Z=L.map (Ju (mons a.degrees n) (Ys p (mons a.degrees n)))
theorem ZIs.unique {a:Alg} {r p n:Int} {Z Y:List (List Int)} (h:ZIs a r p n Z) (k:ZIs a r p n Y):Z=Y:=by
 obtain ⟨L,B,_,rfl⟩:=h;obtain ⟨L',A,_,rfl⟩:=k;rw [B.unique A]
theorem Gu {m:Nat} {rows L:List (List Int)} (h:IsKer m rows L):Rref rows.length L:=by
 obtain ⟨R,_,A⟩:=h;exact A.1
theorem Bz (m:Nat):IsKer m [] []:=⟨[],IsRref.zero _,IsRref.zero _⟩
theorem ZIs.rref {a:Alg} (ok:OkAlg a) {r p n:Int} {Z:List (List Int)} (h:ZIs a r p n Z):Rref (mons a.degrees n).length Z:=by
 obtain ⟨L,B,_,rfl⟩:=h;have A:=Gu B;rw [Wo,ZPv] at A
 exact Zt4 (Sg ok n) (Gt ok p n) Zdy A
theorem ZIs.len {a:Alg} {r p n:Int} {Z:List (List Int)} (h:ZIs a r p n Z):Z.length<=(mons a.degrees n).length:=by
 obtain ⟨L,_,A,rfl⟩:=h;rw [Wo,ZPv] at A
 have:=Lj p (mons a.degrees n);rw [ZPv]; omega
theorem Zjs {own:List A8} {nums:List Int} {K:ZCb->Prop} (hl:nums.length=own.length) (hs:own.length<=1000) (h:K ⟨fm own nums⟩):Tl nums own K:=by
 unfold Tl;refine Yp (λi (s:List Term)=>s=fm (own.take i) (nums.take i)) own.length ?_ ?_ _ _ _ (by omega) rfl
 ·intro i s next hi hs' hn;refine⟨by omega,?_⟩
  by_cases q:nums.getD i Ci=0
  ·refine Y8 (λz=>z q) (hn _ ?_)
   rw [hs',Bj hl hi,if_pos q,ZJz]
  ·refine Y4 q ⟨by omega,?_,hn _ ?_⟩
   ·have:=Zt0 (own.take i) (nums.take i);rw [ZJv] at this
    rw [hs']; unfold Zw; omega
   ·rw [hs',Bj hl hi,if_neg q]
 ·intro s hs'; rw [hs',ZP0,<- hl,ZP0]; exact h
theorem Zux {a:Alg} {n:Int} {own:List A8} {nums:List Int} {K:List Int->Prop} (ok:OkAlg a) (hf:Fits a.degrees n) (ho:Srt own) (hsub:∀ m,m∈own->m∈mons a.degrees n) (hol:own.length<=120) (hn:RowOk own.length nums) (h:K (Ju (mons a.degrees n) own nums)) :
  Tl nums own (λr=>Vu r (mons a.degrees n) K):=by
 refine Zjs hn.len (by omega) ?_
 refine Zid (Gn ho (Lk hn)) (Sg ok n) (λt ht=>hsub _ (Gm ht)) (by unfold Fits at hf; omega) h
theorem Zjt {a:Alg} {n p:Int} {L:List (List Int)} {K:List (List Int)->Prop} (ok:OkAlg a) (hf:Fits a.degrees n) (V:∀ v,v∈L->RowOk (Ys p (mons a.degrees n)).length v) (hll:L.length<=1000)
  (h:K (L.map (Ju (mons a.degrees n) (Ys p (mons a.degrees n))))) :
  Z1 (λI (A:(List (List Int))) B=>Tl (L.getD I Ci) (Ys p (mons a.degrees n)) (λO=>Vu O (mons a.degrees n) (λU=>(Zw (A.length+1) 24/\B (A++[U]))))) (λ(A:(List (List Int)))=>K A) L.length 0 []:=by
 have hl:(mons a.degrees n).length<=120:=hf;have hol:=Lj p (mons a.degrees n);refine Yp (λi s=>s=(L.take i).map (Ju (mons a.degrees n) (Ys p (mons a.degrees n)))) L.length ?_ ?_ _ _ _ (by omega) rfl
 ·intro i s next hi hs hn;refine Zux ok hf (Gt ok p n) Zdy (by omega) (V _ (Yw hi)) ⟨?_,hn _ ?_⟩
  ·rw [hs,ZPv,ZJv]; unfold Zw; omega
  ·rw [Xk hi,ZJn,hs]; rfl
 ·intro s hs; rw [hs,ZP0]; exact h
theorem Zd0 {a:Alg} {r p n:Int} {K:List (List Int)->Prop} (ok:OkAlg a) (hf:Xh a) (hn:0<=n/\n<=38) (hr:-5000<=r/\r<=5000) (hp:-5000<=p/\p<=5000) (B:Fits a.degrees n) (O:Fits a.degrees (n+1)) (h:∀ Z,ZIs a r p n Z->K Z):Sd a r p n K:=by
 have hd:=ok.deg;have aa:(mons a.degrees n).length<=120:=B;have ab:(mons a.degrees (n+1)).length<=120:=O;have hol:=Lj p (mons a.degrees n);have hbl:=Bw (p+r) (mons a.degrees (n+1));unfold Sd;have U:Zwt.wrap (n+1)=n+1:=i64_in _ (by omega)
 have V:Zwt.wrap (p+r)=p+r:=i64_in _ (by omega)
 rw [U,V];refine Qc hd (by omega) B (Qc hd (by omega) B (Qc hd (by omega) O ?_))
 rw [Gk hd,Gk hd];refine Yp (λi s=>s=((Ys p (mons a.degrees n)).take i).map (Lp a n (p+r))) (Ys p (mons a.degrees n)).length ?_ ?_ _ _ _ (by omega) rfl
 ·intro i s next hi hs hnx;refine Ba (Zdh ok hf hn B O (Zdg (Zdy _ (Yw hi))) ?_)
  refine Zuv hd O ⟨?_,hnx _ ?_⟩
  ·rw [hs,ZPv,ZJv]; unfold Zw; omega
  ·rw [Xk hi,ZJn,hs]; rfl
 ·intro s hs;rw [ZP0] at hs
  have hs:s=Wo a r p n:=hs;subst hs;have hrl:(Wo a r p n).length=(Ys p (mons a.degrees n)).length:=ZPv _;have go:∀ L,IsKer (below (p+r) (mons a.degrees (n+1))).length (Wo a r p n) L->L.length<=(Wo a r p n).length->K (L.map (Ju (mons a.degrees n) (Ys p (mons a.degrees n)))):=λL A hlen=>h _ ⟨L,A,hlen,rfl⟩
  by_cases c:((Wo a r p n).length:Int) > 0
  ·refine Y4 c ⟨by omega,?_⟩
   have I:((Wo a r p n).getD 0 Ci).length=(below (p+r) (mons a.degrees (n+1))).length:=(Qe a r p n _ (Yw (by omega))).len
   rw [I];refine Zck (Qe a r p n) (by omega) (by omega) λL A hlen=>?_
   exact Zjt ok B (λv hv=>by have:=((Gu A).ok v hv).1; rwa [hrl] at this) (by omega) (go L A hlen)
  ·refine Y8 c ?_
   have I:Wo a r p n=[]:=List.eq_nil_of_length_eq_zero (by omega)
   have hz:X3 0 (Wo a r p n):=λx hx=>by rw [I] at hx; cases hx
   refine Zck (m:=0) hz (by omega) (by omega) λL A hlen=>?_
   have hLn:L=[]:=by rw [I] at A; exact A.unique (Bz 0)
   refine Zjt ok B (λv hv=>by rw [hLn] at hv; cases hv) (by omega) (go L ?_ hlen)
   rw [I,hLn]; exact Bz _
def Gv (l own:List A8) (idx:List Int):Prop:=idx.length=own.length/\∀ k,k < own.length->∃ i:Nat,idx.getD k Ci=(i:Int)/\i < l.length/\l.getD i Ci=own.getD k Ci
theorem Zuy (f g:List Term) (x:A8):coT (f++g) x=coT f x+coT g x:=Qz _ f g
theorem Zuz {l own:List A8} {idx nums:List Int} {E:List Int->Prop} (hl:Srt l) (ho:Srt own) (hp:Gv l own idx) (hn:RowOk own.length nums) (h:E (Ju l own nums)) :
  Z1 (λA (I:(List Int)) L=>((0<=(A:Int)/\(A:Int) < (idx.length:Int))/\((0<=idx.getD A Ci/\idx.getD A Ci < (I.length:Int))/\L (I.set ((idx.getD A Ci).toNat) (nums.getD A Ci))))) E (nums.length) 0 (Cd ((l.length:Int).toNat) (0:Int)):=by
 have hnl:=hn.len;rw [ZPx];refine Yp (λk (s:List Int)=>s.length=l.length/\∀ j,j < l.length->vec s j=coT (fm (own.take k) (nums.take k)) (l.getD j Ci)) nums.length ?_ ?_ _ _ _ (by omega) ⟨by simp,λj hj=>by rw [Np]; rfl⟩
 ·rintro k s next hk ⟨O,B⟩ hnx;obtain ⟨i,V,e2,U⟩:=hp.2 k (by omega)
  rw [V,ZPx];refine⟨⟨by omega,by have:=hp.1; omega⟩,⟨by omega,by omega⟩,hnx _ ⟨by rw [ZC4]; exact O,λj hj=>?_⟩⟩
  rw [La (by omega),Bj hnl (by omega),Zuy]
  have hno:own.getD k Ci∉own.take k:=λhm=>by
   obtain ⟨q,hq,eq⟩:=Qa hm;rw [ZJv] at hq
   have e4:(own.take k).getD q Ci=own.getD q Ci:=by simp only [Co]; rw [List.getElem?_take,if_pos (by omega)]
   rw [e4] at eq
   have:=Gp ho (show q < k by omega) (by omega)
   rw [eq,K6] at this; omega
  have last:coT (if nums.getD k Ci=0 then [] else [⟨own.getD k Ci,nums.getD k Ci⟩]) (l.getD j Ci)=if j=i then nums.getD k Ci else 0:=by
   by_cases e:j=i
   ·subst e;rw [if_pos rfl,U];split
    ·rename_i z; rw [z]; rfl
    ·rw [Uf,if_pos rfl,Q1,ZP1]
   ·rw [if_neg e]
    have hne:own.getD k Ci≠l.getD j Ci:=by
     rw [<- U]
     intro z;rcases Nat.lt_or_gt_of_ne e with q | q
     ·have:=Gp hl q e2; rw [z,K6] at this; omega
     ·have:=Gp hl q hj; rw [z,K6] at this; omega
    split
    ·rfl
    ·rw [Uf,if_neg hne,Q1,ZP1]
  rw [last];by_cases e:j=i
  ·subst e;rw [if_pos rfl,if_pos rfl,U,Ns hno,F3]
  ·rw [if_neg e,if_neg e,B j hj,ZP1]
 ·rintro s ⟨O,B⟩;rw [hnl,ZP0,<- hnl,ZP0] at B
  have:s=Ju l own nums:=Gz (by rw [Ll]; exact O) λj=>by
   by_cases hj:j < l.length
   ·rw [B j hj,Qb hj]
   ·rw [Xs (by omega),Xs (by rw [Ll]; omega)]
  rw [this]; exact h
theorem Zju {a:Alg} {n p:Int} {L:List (List Int)} {idx:List Int} {K:List (List Int)->Prop} (ok:OkAlg a) (hf:Fits a.degrees n) (hp:Gv (mons a.degrees n) (Ys p (mons a.degrees n)) idx) (hL:∀ v,v∈L->RowOk (Ys p (mons a.degrees n)).length v) (hll:L.length<=1000)
  (h:K (L.map (Ju (mons a.degrees n) (Ys p (mons a.degrees n))))) :
  Z1 (λO (B:(List (List Int))) U=>((0<=((mons a.degrees n).length:Int)/\((mons a.degrees n).length:Int) * 8<=281474976710656)/\Z1 (λA (I:(List Int)) V=>((0<=(A:Int)/\(A:Int) < (idx.length:Int))/\((0<=idx.getD A Ci/\idx.getD A Ci < (I.length:Int))/\V (I.set ((idx.getD A Ci).toNat) ((L.getD O Ci).getD A Ci))))) (λ(I:(List Int))=>(Zw (B.length+1) 24/\U (B++[I]))) ((L.getD O Ci).length) 0 (Cd (((mons a.degrees n).length:Int).toNat) (0:Int)))) (λ(B:(List (List Int)))=>K B) L.length 0 []:=by
 have hl:(mons a.degrees n).length<=120:=hf;refine Yp (λi s=>s=(L.take i).map (Ju (mons a.degrees n) (Ys p (mons a.degrees n)))) L.length ?_ ?_ _ _ _ (by omega) rfl
 ·intro i s next hi hs hn;refine⟨by omega,Zuz (Sg ok n) (Gt ok p n) hp (hL _ (Yw hi)) ⟨?_,hn _ ?_⟩⟩
  ·rw [hs,ZPv,ZJv]; unfold Zw; omega
  ·rw [Xk hi,ZJn,hs]; rfl
 ·intro s hs; rw [hs,ZP0]; exact h
theorem Zu0 {l own:List A8} {idx:List Int} {i:Nat} (h:Gv l own idx) (hi:i < l.length):Gv l (own++[l.getD i Ci]) (idx++[(i:Int)]):=by
 refine⟨by simp [h.1],λk hk=>?_⟩
 rw [C8,ZUy] at hk
 by_cases e:k < own.length
 ·obtain ⟨j,A,B,I⟩:=h.2 k e;refine⟨j,?_,B,?_⟩
  ·rw [<- A]; simp only [Co]; rw [List.getElem?_append_left (by have:=h.1; omega)]
  ·rw [I]; simp only [Co]; rw [List.getElem?_append_left e]
 ·obtain rfl:k=own.length:=by omega
  refine⟨i,?_,hi,?_⟩
  ·simp only [Co]; rw [<- h.1,List.getElem?_append_right (Cg _)]; simp
  ·simp [Co]
theorem m_z {a:Alg} {r p n:Int} {K:List (List Int)->Prop} (ok:OkAlg a) (hf:Xh a) (hn:0<=n/\n<=38) (hr:-5000<=r/\r<=5000) (hp:-5000<=p/\p<=5000) (O:Fits a.degrees n) (V:Fits a.degrees (n+1)) (h:∀ Z,ZIs a r p n Z->K Z):Se (Uo a) a r p n K:=by
 have hd:=ok.deg;have ac:(mons a.degrees n).length<=120:=O;have ab:(mons a.degrees (n+1)).length<=120:=V;have hol:=Lj p (mons a.degrees n);have hbl:=Bw (p+r) (mons a.degrees (n+1));unfold Se;have e1:Zwt.wrap (n+1)=n+1:=i64_in _ (by omega)
 have e2:Zwt.wrap (p+r)=p+r:=i64_in _ (by omega)
 rw [if_neg (by omega),e1,e2]
 refine⟨Zdz ok hf hn O V,Qd ok (by omega) V,By hd V (By hd O ?_)⟩
 have aa:(Vl p (mons a.degrees n)).length=(mons a.degrees n).length:=ZPv _;refine Yp (λi (s:(List Int)×(List (List Int))×Int)=>Gv (mons a.degrees n) (Ys p ((mons a.degrees n).take i)) s.1/\s.2.1=(Ys p ((mons a.degrees n).take i)).map (Lp a n (p+r))/\((s.2.1=[]/\s.2.2=0)\/s.2.2=((below (p+r) (mons a.degrees (n+1))).length:Int))) (mons a.degrees n).length ?_ ?_ _ _ _ (by rw [aa]; omega) ⟨⟨rfl,λk hk=>by simp [Ys] at hk⟩,rfl,.inl ⟨rfl,rfl⟩⟩
 ·rintro i ⟨idx,rows,wd⟩ next hi ⟨B,A,U⟩ hnx;dsimp only at B A U hnx ⊢
  have hb:(Vl p (mons a.degrees n)).getD i Ci=decide (wdU ((mons a.degrees n).getD i Ci) 8≥p):=Bx hi;rw [hb];have hal:=Lj p ((mons a.degrees n).take i);rw [ZJv] at hal
  by_cases c:p<=wdU ((mons a.degrees n).getD i Ci) 8
  ·refine Y8 (by simpa using c) ⟨?_,?_⟩
   ·rw [B.1]; unfold Zw; omega
   have hML:((Uo a).MX n).length=(mons a.degrees n).length:=ZPv _;refine⟨⟨by omega,by rw [hML]; omega⟩,?_⟩
   rw [Zuu hi];refine Zuw ab ⟨?_,hnx _ ⟨?_,?_,.inr (by rw [ZPv])⟩⟩
   ·rw [A,ZPv]; unfold Zw; omega
   ·rw [Li hi,if_pos c]; exact Zu0 B hi
   ·rw [Li hi,if_pos c,ZJn,A]; rfl
  ·refine Y4 (by simpa using c) (hnx _ ⟨?_,?_,U⟩)
   ·rw [Li hi,if_neg c]; exact B
   ·rw [Li hi,if_neg c]; exact A
 ·rintro ⟨idx,rows,wd⟩ ⟨B,A,U⟩;dsimp only at B A U ⊢
  rw [ZP0] at B A
  have A:rows=Wo a r p n:=A;subst A;have hrl:(Wo a r p n).length=(Ys p (mons a.degrees n)).length:=ZPv _;have go:∀ L,IsKer (below (p+r) (mons a.degrees (n+1))).length (Wo a r p n) L->L.length<=(Wo a r p n).length->K (L.map (Ju (mons a.degrees n) (Ys p (mons a.degrees n)))):=λL I hlen=>h _ ⟨L,I,hlen,rfl⟩
  rcases U with ⟨e3,rfl⟩ | rfl
  ·have hz:X3 0 (Wo a r p n):=λx hx=>by rw [e3] at hx; cases hx
   refine Zcl (m:=0) hz (by omega) (by omega) λL I hlen=>?_
   have hLn:L=[]:=by rw [e3] at I; exact I.unique (Bz 0)
   refine Zju ok O B (λv hv=>by rw [hLn] at hv; cases hv) (by omega) (go L ?_ hlen)
   rw [e3,hLn]; exact Bz _
  ·refine Zcl (Qe a r p n) (by omega) (by omega) λL I hlen=>?_
   exact Zju ok O B (λv hv=>by have:=((Gu I).ok v hv).1; rwa [hrl] at this) (by omega) (go L I hlen)
noncomputable def We (a:Alg) (n:Int):List (List Int):=ZRr (Dy (J6 a n))
theorem Sh (a:Alg) (n:Int):IsKer (mons a.degrees (n+1)).length (mx a n) (We a n):=ZU3 (Dy (J6 a n))
open Classical in
noncomputable def bdR (a:Alg) (n:Int):List (List Int):=if 0 < n then ZRr (Vi (J6 a (n - 1))) else []
theorem Nv {a:Alg} {n:Int} (h:0 < n):IsRref (mons a.degrees n).length (mx a (n - 1)) (bdR a n):=by
 have:=(ZU3 (Vi (J6 a (n - 1)))).1;rw [bdR,if_pos h];have e:n - 1+1=n:=by omega
 revert this
 generalize ZRr (Vi (J6 a (n - 1)))=B;intro this;rw [e] at this
 exact this
theorem Qg {a:Alg} {n:Int} (h:¬ 0 < n):bdR a n=[]:=by rw [bdR,if_neg h]
theorem Lq (a:Alg) (n:Int):Rref (mons a.degrees n).length (bdR a n):=by
 by_cases h:0 < n
 ·exact(Nv h).red
 ·rw [Qg h]; exact Rref.nil _
theorem Nw (a:Alg) (n:Int):Rref (mons a.degrees n).length (We a n):=by
 obtain ⟨R,_,h⟩:=Sh a n;rw [Vk] at h
 exact h.1
open Classical in
noncomputable def klR (a:Alg) (n:Int):List (List Int):=if h:∃ K,IsRref (mons a.degrees n).length (Vv (mons a.degrees n).length (bdR a n) (We a n)) K then ZRr h else []
theorem Zjv (a:Alg) (n:Int):X3 (mons a.degrees n).length (Vv (mons a.degrees n).length (bdR a n) (We a n)):=λt ht=>by
 obtain ⟨z,_,h⟩:=(Zhi (Lq a n) λz hz=>((Nw a n).ok z hz).1).1 t ht
 exact h.ok
theorem Zd1 (a:Alg) (n:Int):IsRref (mons a.degrees n).length (Vv (mons a.degrees n).length (bdR a n) (We a n)) (klR a n):=by
 obtain ⟨K,h,_⟩:=Vi (Zjv a n);have h':∃ K,IsRref (mons a.degrees n).length (Vv (mons a.degrees n).length (bdR a n) (We a n)) K:=⟨K,h⟩;rw [klR,dif_pos h'];exact ZU3 h'
noncomputable def CxR (a:Alg):Cx:={ Uo a with CL:=We a,BD:=bdR a,KL:=klR a }
theorem Zu1 {a:Alg} (ok:OkAlg a) (hf:Xh a) {n:Int} (hn:0<=n/\n<=37) (I:0 < n->Fits a.degrees (n - 1)) (O:Fits a.degrees n) (U:Fits a.degrees (n+1)):Hq (CxR a) a n:=by
 have l1:(mons a.degrees n).length<=120:=O;have l2:(mons a.degrees (n+1)).length<=120:=U;have e1:Zwt.wrap (n+1)=n+1:=i64_in _ (by omega)
 have e2:Zwt.wrap (n - 1)=n - 1:=i64_in _ (by omega)
 have kz:=Nw a n
 have kl:(We a n).length<=120:=by
  obtain ⟨o,ho,_⟩:=Vi (J6 a n);have:=Lf (J6 a n) (Sh a n) ho;rw [Vk] at this; omega
 have kb:(bdR a n).length<=1000:=by
  by_cases h:0 < n
  ·have l0:(mons a.degrees (n - 1)).length<=120:=I h;have r:=J6 a (n - 1);have e:n - 1+1=n:=by omega
   rw [e] at r
   have:=Zcn r (Nv h);rw [Vk] at this; omega
  ·rw [Qg h]; simp
 have rok:=Zjv a n;have rl:(Vv (mons a.degrees n).length (bdR a n) (We a n)).length=(We a n).length:=ZPv _;unfold Hq Dh;rw [e1,e2];refine⟨Zdz ok hf (by omega) O U,⟨Qd ok (by omega) U,?_⟩,trivial⟩
 refine Zcl (m:=(mons a.degrees (n+1)).length) (rows:=mx a n) (J6 a n) (by omega) (by rw [Vk]; omega) λL hL hl=>⟨hL.unique (Sh a n),?_⟩
 have tail:Z1 (λaa (A:(List (List Int))) V=>S0 ((We a n).getD aa Ci) (bdR a n) (λab=>(Zw (A.length+1) 24/\V (A++[ab])))) (λ(A:(List (List Int)))=>Uh A (λB=>(B=klR a n/\True))) ((We a n).length) 0 []:=by
  refine Zrl (K:=λA=>Uh A (λB=>(B=klR a n/\True))) (Lq a n) (λz hz=>(kz.ok z hz).1) (by omega) kb (by omega) ?_
  exact Gc rok (by omega) (by omega) λout ho _=>⟨ho.unique (Zd1 a n),trivial⟩
 by_cases h:n > 0
 ·refine Y4 h ⟨Zdz ok hf (by omega) (I h) (by rw [show n - 1+1=n by omega]; exact O),?_⟩
  have r:=J6 a (n - 1);have e:n - 1+1=n:=by omega
  rw [e] at r
  have l0:(mons a.degrees (n - 1)).length<=120:=I h;exact Gc (rows:=mx a (n - 1)) r (by omega) (by rw [Vk]; omega) λout ho _=>⟨ho.unique (Nv h),tail⟩
 ·exact Y8 h ⟨Qg h,tail⟩
def U4 (a:Alg) (n:Int) (row:List Int):List Int:=W6 a n (fm (mons a.degrees n) row)
theorem Zu2 {a:Alg} {n:Int} {rows:List (List Int)} {K:List (List Int)->Prop} (ok:OkAlg a) (hf:Xh a) (hn:0<=n/\n<=38) (A:Fits a.degrees n) (B:Fits a.degrees (n+1)) (hr:X3 (mons a.degrees n).length rows) (hl:rows.length<=1000) (h:K (rows.map (U4 a n))):Hs a rows n K:=by
 have hd:=ok.deg;have L:(mons a.degrees n).length<=120:=A;unfold Hs;have I:Zwt.wrap (n+1)=n+1:=i64_in _ (by omega)
 rw [I];refine Qc hd (by omega) A (Qc hd (by omega) B ?_)
 rw [Gk hd,Gk hd];refine Yp (λi s=>s=(rows.take i).map (U4 a n)) rows.length ?_ ?_ _ _ _ (by omega) rfl
 ·intro i s next hi hs hnx;have hri:=hr _ (Yw hi);refine Zjs hri.len (by omega) (Zdh ok hf hn A B (Zih (Sg ok n) (λm h=>h) (Lk hri)) ⟨?_,hnx _ ?_⟩)
  ·rw [hs,ZPv,ZJv]; unfold Zw; omega
  ·rw [Xk hi,ZJn,hs]; rfl
 ·intro s hs; rw [hs,ZP0]; exact h
theorem Zu3 {a:Alg} {n:Int} {rows:List (List Int)} {K:List (List Int)->Prop} (ok:OkAlg a) (hf:Xh a) (hn:0<=n/\n<=38) (A:Fits a.degrees n) (B:Fits a.degrees (n+1)) (hr:X3 (mons a.degrees n).length rows) (hl:rows.length<=1000) (h:K (rows.map (U4 a n))):H7 (Uo a) a n rows K:=by
 have hd:=ok.deg;have L:(mons a.degrees n).length<=120:=A;unfold H7;have I:Zwt.wrap (n+1)=n+1:=i64_in _ (by omega)
 rw [I];refine Yp (λi s=>s=(rows.take i).map (U4 a n)) rows.length ?_ ?_ _ _ _ (by omega) rfl
 ·intro i s next hi hs hnx;have hri:=hr _ (Yw hi);refine⟨Qd ok (by omega) B,Qd ok (by omega) A,Ztz (Srt.nd (Sg ok n)) hri λm hm=>?_⟩
  refine Zii ok hf hn A B (Zih (Sg ok n) (λm h=>h) (Lk hri)) (Zt1 (Sg ok n) hri hm) ⟨?_,hnx _ ?_⟩
  ·rw [hs,ZPv,ZJv]; unfold Zw; omega
  ·rw [Xk hi,ZJn,hs]; rfl
 ·intro s hs; rw [hs,ZP0]; exact h
theorem Zd2 (a:Alg) (n:Int) (row:List Int):RowOk (mons a.degrees (n+1)).length (U4 a n row):=Bl ..
theorem Zu4 {n:Nat} {rows:List (List Int)} {K:Int->Prop} (hr:X3 n rows) (hn:n<=1000000) (hl:rows.length<=1000000) (h:∀ out,IsRref n rows out->out.length<=rows.length->K (out.length:Int)):Nm rows K:=by
 unfold Nm;exact Gc hr hn hl λout ho hlen=>h out ho hlen
def OthersIs (a:Alg) (r p n:Int) (O:List (List Int)):Prop :=
 ∃ Zo,ZIs a (r - 1) (p+1) n Zo/\if n > 0 then∃ Zb,ZIs a (r - 1) (p - r+1) (n - 1) Zb/\O=Zo++Zb.map (U4 a (n - 1)) else O=Zo
theorem OthersIs.unique {a:Alg} {r p n:Int} {O Q:List (List Int)} (h:OthersIs a r p n O) (k:OthersIs a r p n Q):O=Q:=by
 obtain ⟨Zo,U,A⟩:=h;obtain ⟨Zo',I,B⟩:=k;obtain rfl:=U.unique I;by_cases c:n > 0
 ·rw [if_pos c] at A B
  obtain ⟨Zb,V,rfl⟩:=A;obtain ⟨Zb',L,rfl⟩:=B;rw [V.unique L]
 ·rw [if_neg c] at A B; rw [A,B]
theorem B2 {n:Nat} {R:List (List Int)} (h:Rref n R):X3 n R:=λa ha=>(h.ok a ha).1
theorem OthersIs.ok {a:Alg} (ok:OkAlg a) {r p n:Int} {O:List (List Int)} (h:OthersIs a r p n O):X3 (mons a.degrees n).length O:=by
 obtain ⟨Zo,I,A⟩:=h;have B:=B2 (I.rref ok);by_cases c:n > 0
 ·rw [if_pos c] at A
  obtain ⟨Zb,L,rfl⟩:=A;intro x hx;rcases Ch.1 hx with q | q
  ·exact B x q
  ·obtain ⟨y,hy,rfl⟩:=Cp.1 q;have:=Zd2 a (n - 1) y;rwa [show n - 1+1=n by omega] at this
 ·rw [if_neg c] at A; rw [A]; exact B
def PageIs (a:Alg) (r p n x:Int):Prop :=
 if r=0 then x=Zwt.wrap (((Ys p (mons a.degrees n)).length:Int) - ((Ys (p+1) (mons a.degrees n)).length:Int))
 else∃ O Z out,OthersIs a r p n O/\ZIs a r p n Z/\IsRref (mons a.degrees n).length O out/\x=Zwt.wrap ((Z.length:Int) - (out.length:Int))
theorem PageIs.unique {a:Alg} {r p n x y:Int} (h:PageIs a r p n x) (k:PageIs a r p n y):x=y:=by
 unfold PageIs at h k
 by_cases c:r=0
 ·rw [if_pos c] at h k; rw [h,k]
 ·rw [if_neg c] at h k
  obtain ⟨O,Z,out,L,U,V,rfl⟩:=h;obtain ⟨O',Z',out',A,B,I,rfl⟩:=k;obtain rfl:=L.unique A;obtain rfl:=U.unique B;rw [V.unique I]
theorem OthersIs.len {a:Alg} {r p n:Int} {O:List (List Int)} (B:Fits a.degrees n) (I:Fits a.degrees (n - 1)) (h:OthersIs a r p n O):O.length<=240:=by
 obtain ⟨Zo,V,A⟩:=h;have l1:=V.len;have L:(mons a.degrees n).length<=120:=B;have U:(mons a.degrees (n - 1)).length<=120:=I;by_cases c:n > 0
 ·rw [if_pos c] at A
  obtain ⟨Zb,h3,rfl⟩:=A;have:=h3.len;rw [C8,ZPv]; omega
 ·rw [if_neg c] at A; rw [A]; omega
section
variable {a:Alg} {r p n:Int} {K:Int->Prop}
theorem Zu5 (ok:OkAlg a) (hf:Xh a) (hn:0<=n/\n<=20) (hr:0<=r/\r<=2200) (hp:0<=p/\p<=2200) (af:Vj a.degrees n) (h:∀ x,PageIs a r p n x->K x):Ht a r p n K:=by
 have hd:=ok.deg;obtain ⟨B,A,U⟩:=af;have ad:(mons a.degrees n).length<=120:=A;unfold Ht;have ep:Zwt.wrap (p+1)=p+1:=i64_in _ (by omega)
 rw [ep];by_cases c:r=0
 ·refine Y4 c (Qc hd (by omega) A (Qc hd (by omega) A (h _ ?_)))
  unfold PageIs; rw [if_pos c]
 ·have er:Zwt.wrap (r - 1)=r - 1:=i64_in _ (by omega)
  have eq:Zwt.wrap (p - r)=p - r:=i64_in _ (by omega)
  have V:Zwt.wrap (p - r+1)=p - r+1:=i64_in _ (by omega)
  have en:Zwt.wrap (n - 1)=n - 1:=i64_in _ (by omega)
  rw [er,eq,V,en];refine Y8 c (Zd0 ok hf (by omega) (by omega) (by omega) A U λZo hZo=>?_)
  have fin:∀ O,OthersIs a r p n O->Sd a r p n (λaa=>V5 aa (λab=>V5 O (λac=>K (Zwt.wrap ((ab.length:Int) - (ac.length:Int)))))):=λO L=>by
   refine Zd0 ok hf (by omega) (by omega) (by omega) A U λZ I=>?_
   have zl:=I.len;refine Gb (B2 (I.rref ok)) (by omega) (by omega) λo1 h1 _=>?_
   have e1:o1=Z:=h1.unique ⟨I.rref ok,SpEq.refl _⟩;have ol:=L.len A B;refine Gb (L.ok ok) (by omega) (by omega) λo2 h2 _=>h _ ?_
   unfold PageIs; rw [if_neg c];exact⟨O,Z,o2,L,I,h2,by rw [e1]⟩
  by_cases cn:n > 0
  ·refine Y4 cn (Zd0 ok hf (by omega) (by omega) (by omega) B (by rw [show n - 1+1=n by omega]; exact A) λZb hZb=>?_)
   have zb:=hZb.len;have ae:(mons a.degrees (n - 1)).length<=120:=B;refine Zu2 ok hf (by omega) B (by rw [show n - 1+1=n by omega]; exact A) (B2 (hZb.rref ok)) (by omega) ⟨?_,?_⟩
   ·have:=hZo.len;rw [ZPv]; unfold Zw; omega
   ·exact fin _ ⟨Zo,hZo,by rw [if_pos cn]; exact⟨Zb,hZb,rfl⟩⟩
  ·exact Y8 cn (fin _ ⟨Zo,hZo,by rw [if_neg cn]⟩)
theorem Zjw (p:Int):∀ l:List A8,((Vl p l).filter id).length=(Ys p l).length
 | []=>rfl
 | m :: l => by
  have ih:=Zjw p l;unfold Vl Ys at ih ⊢
  rw [List.map_cons];by_cases q:p<=wdU m 8
  ·rw [ZQw (by simpa using q),ZQw (by simpa using q),Zw3,Zw3,ih]
  ·rw [ZQx (by simpa using q),ZQx (by simpa using q),ih]
theorem Zu6 {l:List Bool} (hl:l.length<=1000) (h:K (((l.filter id).length:Nat):Int)):Nn l K:=by
 unfold Nn;refine Yp (λi (s:Int)=>s=((((l.take i).filter id).length:Nat):Int)) l.length ?_ ?_ _ _ _ (by omega) rfl
 ·intro i s next hi hs hn;have hb:((l.take i).filter id).length<=i:=Nat.le_trans (ZU1 _ _) (by rw [ZJv]; omega)
  by_cases q:l.getD i Ci=true
  ·refine Y4 q ?_
   rw [i64_in _ (by omega)]
   refine hn _ ?_
   rw [Xk hi,ZUw,q,hs]; simp
  ·refine Y8 q (hn _ ?_)
   have q':l.getD i Ci=false:=by simpa using q
   rw [Xk hi,ZUw,q',hs]; simp
 ·intro s hs; rw [hs,ZP0]; exact h
theorem Zjx {p:Int} {l:List A8} (hl:l.length<=1000) (h:K (((Ys p l).length:Nat):Int)):Nn (Vl p l) K :=
 Zu6 (by rw [Vl,ZPv]; exact hl) (by rw [Zjw]; exact h)
theorem Zu7 (ok:OkAlg a) (hf:Xh a) (hn:0<=n/\n<=20) (hr:0<=r/\r<=2200) (hp:0<=p/\p<=2200) (af:Vj a.degrees n) (h:∀ x,PageIs a r p n x->K x):H8 (Uo a) a r p n K:=by
 have hd:=ok.deg;obtain ⟨B,A,L⟩:=af;have ab:(mons a.degrees n).length<=120:=A;unfold H8;have ep:Zwt.wrap (p+1)=p+1:=i64_in _ (by omega)
 rw [ep];by_cases c:r=0
 ·refine Y4 c ⟨Qd ok (by omega) A,By hd A (Zjx (by show (mons a.degrees n).length<=1000; omega) (By hd A (Zjx (by show (mons a.degrees n).length<=1000; omega) (h _ ?_))))⟩
  unfold PageIs; rw [if_pos c]
 ·have er:Zwt.wrap (r - 1)=r - 1:=i64_in _ (by omega)
  have eq:Zwt.wrap (p - r)=p - r:=i64_in _ (by omega)
  have U:Zwt.wrap (p - r+1)=p - r+1:=i64_in _ (by omega)
  have en:Zwt.wrap (n - 1)=n - 1:=i64_in _ (by omega)
  rw [er,eq,U,en];refine Y8 c (m_z ok hf (by omega) (by omega) (by omega) A L λZo hZo=>?_)
  have fin:∀ O,OthersIs a r p n O->Se (Uo a) a r p n (λV=>Nm O (λaa=>K (Zwt.wrap ((V.length:Int) - aa)))):=λO I=>by
   refine m_z ok hf (by omega) (by omega) (by omega) A L λZ hZ=>?_
   have ol:=I.len A B;refine Zu4 (I.ok ok) (by omega) (by omega) λo2 h2 _=>h _ ?_
   unfold PageIs; rw [if_neg c];exact⟨O,Z,o2,I,hZ,h2,rfl⟩
  by_cases cn:n > 0
  ·refine Y4 cn (m_z ok hf (by omega) (by omega) (by omega) B (by rw [show n - 1+1=n by omega]; exact A) λZb hZb=>?_)
   have zb:=hZb.len;have ac:(mons a.degrees (n - 1)).length<=120:=B;refine Zu3 ok hf (by omega) B (by rw [show n - 1+1=n by omega]; exact A) (B2 (hZb.rref ok)) (by omega) ⟨?_,?_⟩
   ·have:=hZo.len;rw [ZPv]; unfold Zw; omega
   ·exact fin _ ⟨Zo,hZo,by rw [if_pos cn]; exact⟨Zb,hZb,rfl⟩⟩
  ·exact Y8 cn (fin _ ⟨Zo,hZo,by rw [if_neg cn]⟩)
end
theorem Zjy {m:Nat} {rows L:List (List Int)} (hr:X3 m rows) (A:IsKer m rows L) {u:Vec}:Sp (gens L) u↔((∀ j,rows.length<=j->u j % 10007=0)/\∀ j,j < m->wv u rows j % 10007=0):=by
 refine⟨λh=>⟨λj hj=>Gd (λv ⟨x,hx,e⟩=>by
  subst e;rw [Xs (by rw [((Gu A).ok x hx).1.len]; exact hj)]; rfl) h,λj _=>D5 hr A h j⟩,λ⟨B,I⟩=>?_⟩
 let v:List Int:=(C9 rows.length).map λi=>u i % 10007
 have hv:∀ j,j < rows.length->vec v j=u j % 10007:=λj hj=>by simp [v,vec,Co,hj]
 have ev:∀ j,u j % 10007=vec v j % 10007:=λj=>by
  by_cases c:j < rows.length
  ·rw [hv j c]; omega
  ·rw [B j (by omega),Xs (by simp [v]; omega)]; rfl
 have vo:RowOk rows.length v:=⟨by simp [v],λj=>by
  by_cases c:j < rows.length
  ·rw [hv j c]; omega
  ·rw [Xs (by simp [v]; omega)]; omega⟩
 exact(Zct hr A vo λj hj=>by
  show wv (vec v) rows j % 10007=0
  rw [<- Zhj rows ev j]; exact I j hj).cong ev
theorem Zd3 (u:Vec) (l Y:List A8) (h:A8->A8->Int) {y:Nat} (hy:y < Y.length):wv u (l.map λm=>Y.map (h m)) y=tt (λi=>u i * h (l.getD i Ci) (Y.getD y Ci)) (C9 l.length):=by
 unfold wv;rw [ZPv];refine S4 λi hi=>?_
 have hi:=Zvt.1 hi
 congr 1
 simp [at_,vec,Co,hi,hy]
theorem Zjz {f:A8->Int} {P:A8->Bool}:∀ {l:List A8}, (∀ m,m∈l->P m=false->f m=0)->tot f (l.filter P)=tot f l
 | [],_=>rfl
 | m :: l, h => by
  have ih:=Zjz (l:=l) λx hx=>h x (by simp [hx])
  cases c:P m
  ·rw [ZQx (by simp [c]),ih]; simp only [tot]; rw [h m (by simp) c]; omega
  ·rw [ZQw (by simp [c])]; simp only [tot]; rw [ih]
section
variable {a:Alg} {p n:Int}
theorem Zj0 (ok:OkAlg a) {v:List Int} (hv:RowOk (Ys p (mons a.degrees n)).length v) (g:A8->Int) :
  tt (λi=>vec (Ju (mons a.degrees n) (Ys p (mons a.degrees n)) v) i * g ((mons a.degrees n).getD i Ci)) (C9 (mons a.degrees n).length)=tt (λi=>vec v i * g ((Ys p (mons a.degrees n)).getD i Ci)) (C9 (Ys p (mons a.degrees n)).length):=by
 have ho:=Gt ok p n;have h:=Bu (l:=mons a.degrees n) (λm=>coT (fm (Ys p (mons a.degrees n)) v) m * g m) _ (Cg _)
 have A:=Bu (l:=Ys p (mons a.degrees n)) (λm=>coT (fm (Ys p (mons a.degrees n)) v) m * g m) _ (Cg _)
 rw [ZP0] at h A
 have B:tot (λm=>coT (fm (Ys p (mons a.degrees n)) v) m * g m) (Ys p (mons a.degrees n))=tot (λm=>coT (fm (Ys p (mons a.degrees n)) v) m * g m) (mons a.degrees n):=Zjz λm hm hp=>by
  rw [Ns (λz=>by have:=(ZPz.1 z).2; rw [hp] at this; cases this),ZQc]
 rw [S4 (g:=λi=>coT (fm (Ys p (mons a.degrees n)) v) ((mons a.degrees n).getD i Ci) * g ((mons a.degrees n).getD i Ci)) λi hi=>by rw [Qb (Zvt.1 hi)],h,<- B,<- A]
 exact S4 λi hi=>by rw [Nr ho.nd hv.len i (Zvt.1 hi)]
def Off (a:Alg) (p n:Int) (u:Vec):Prop:=∀ j,j < (mons a.degrees n).length->wdU ((mons a.degrees n).getD j Ci) 8 < p->u j % 10007=0
theorem Off.gens {rows:List (List Int)} (h:∀ x,x∈rows->Off a p n (vec x)) {u:Vec} (hu:Sp (gens rows) u):Off a p n u:=λj hj hw=>Gd (λv ⟨x,hx,e⟩=>e ▸ h x hx j hj hw) hu
theorem Off.le {q:Int} {u:Vec} (hq:q<=p) (h:Off a p n u):Off a q n u:=λj hj hw=>h j hj (by omega)
theorem below_mem {q:Int} {l:List A8} {x:A8}:x∈below q l↔x∈l/\wdU x 8 < q:=by simp [below]
theorem Zd4 (ok:OkAlg a) {v:List Int} (hv:RowOk (Ys p (mons a.degrees n)).length v) (j:Nat):vec (Ju (mons a.degrees n) (Ys p (mons a.degrees n)) v) j=(if j < (mons a.degrees n).length/\(mons a.degrees n).getD j Ci∈Ys p (mons a.degrees n) then 1 else 0) * vec v ((Ys p (mons a.degrees n)).idxOf ((mons a.degrees n).getD j Ci)):=by
 by_cases c:j < (mons a.degrees n).length
 ·rw [Qb c];by_cases d:(mons a.degrees n).getD j Ci∈Ys p (mons a.degrees n)
  ·rw [if_pos ⟨c,d⟩,ZQb];have hi:=ZVe d;have:=Nr (Gt ok p n).nd hv.len _ hi;rw [<- this]
   congr 1
   rw [Nt hi,List.getElem_idxOf]
  ·rw [if_neg (λz=>d z.2),ZQc,Ns d]
 ·rw [if_neg (λz=>c z.1),ZQc,Xs (by rw [Ll]; omega)]
theorem Zd5 {r:Int} {Z:List (List Int)} (ok:OkAlg a) (I:ZIs a r p n Z) (u:Vec):Sp (gens Z) u↔((∀ j,(mons a.degrees n).length<=j->u j % 10007=0)/\Off a p n u/\∀ y,y < (mons a.degrees (n+1)).length->wdU ((mons a.degrees (n+1)).getD y Ci) 8 < p+r->wv u (mx a n) y % 10007=0):=by
 obtain ⟨L,A,_,rfl⟩:=I;have hrl:(Wo a r p n).length=(Ys p (mons a.degrees n)).length:=ZPv _;have hLr:=Gu A;rw [hrl] at hLr
 have dm:∀ (u:Vec) (y:Nat),y < (mons a.degrees (n+1)).length->wv u (mx a n) y=tt (λi=>u i * dco a [⟨(mons a.degrees n).getD i Ci,1⟩] ((mons a.degrees (n+1)).getD y Ci)) (C9 (mons a.degrees n).length):=λu y hy=>Zd3 u (mons a.degrees n) (mons a.degrees (n+1)) (λm=>dco a [⟨m,1⟩]) hy
 have dz:∀ (v:Vec) (y:Nat),y < (below (p+r) (mons a.degrees (n+1))).length->wv v (Wo a r p n) y=tt (λi=>v i * dco a [⟨(Ys p (mons a.degrees n)).getD i Ci,1⟩] ((below (p+r) (mons a.degrees (n+1))).getD y Ci)) (C9 (Ys p (mons a.degrees n)).length):=λu y hy=>Zd3 u _ _ (λm=>dco a [⟨m,1⟩]) hy
 constructor
 ·intro hu;refine⟨λj hj=>Gd (λv hv=>?_) hu,Off.gens (λx hx j hj hw=>?_) hu,λy hy hw=>?_⟩
  ·obtain ⟨x,hx,e⟩:=hv;obtain ⟨l,hl,rfl⟩:=Cp.1 hx;rw [e,Xs (by rw [Ll]; exact hj)]; rfl
  ·obtain ⟨l,hl,rfl⟩:=Cp.1 hx
   rw [Qb hj,Ns λz=>by
    have:=(ZPz.1 z).2;rw [decide_eq_true_eq] at this; omega]; rfl
  ·obtain ⟨y',hy',ey⟩:=Qa (below_mem.2 ⟨Yw hy,hw⟩);have:=Zhk (T:=λv=>v y % 10007=0) (mx a n) (u:=u) (S:=gens (L.map (Ju (mons a.degrees n) (Ys p (mons a.degrees n))))) (λv hv=>?_) hu
   ·exact Gd (λv hv=>hv) this
   ·obtain ⟨x,hx,e⟩:=hv;obtain ⟨l,hl,rfl⟩:=Cp.1 hx;subst e;refine .gen ?_
    have h:=D5 (Qe a r p n) A (Yy hl) y';rw [dz _ _ hy',ey] at h
    show wv _ _ _ % 10007=0
    rw [dm _ _ hy,Zj0 ok (hLr.ok l hl).1 λm=>dco a [⟨m,1⟩] ((mons a.degrees (n+1)).getD y Ci)]
    exact h
 ·rintro ⟨h,O,U⟩
  let v:List Int:=(Ys p (mons a.degrees n)).map λm=>u ((mons a.degrees n).idxOf m) % 10007
  have hv:∀ k,k < (Ys p (mons a.degrees n)).length->vec v k=u ((mons a.degrees n).idxOf ((Ys p (mons a.degrees n)).getD k Ci)) % 10007:=λk hk=>by simp [v,vec,Co,hk]
  have vo:RowOk (Ys p (mons a.degrees n)).length v:=⟨by simp [v],λj=>by
   by_cases c:j < (Ys p (mons a.degrees n)).length
   ·rw [hv j c]; omega
   ·rw [Xs (by simp [v]; omega)]; omega⟩
  have eu:∀ j,u j % 10007=vec (Ju (mons a.degrees n) (Ys p (mons a.degrees n)) v) j % 10007:=λj=>by
   rw [Zd4 ok vo];by_cases c:j < (mons a.degrees n).length
   ·by_cases d:(mons a.degrees n).getD j Ci∈Ys p (mons a.degrees n)
    ·have hi:=ZVe d;rw [if_pos ⟨c,d⟩,ZQb,hv _ hi,Nt hi,List.getElem_idxOf];have:(mons a.degrees n).idxOf ((mons a.degrees n).getD j Ci)=j:=by rw [Nt c]; exact(Sg ok n).nd.idxOf_getElem j c
     rw [this]; omega
    ·rw [if_neg (λz=>d z.2),ZQc]
     refine O j c ?_
     have:¬ (p<=wdU ((mons a.degrees n).getD j Ci) 8):=λz=>d (ZPz.2 ⟨Yw c,by simpa using z⟩)
     omega
   ·rw [if_neg (λz=>c z.1),ZQc]; exact h j (by omega)
  have inL:Sp (gens L) (vec v):=(Zjy (Qe a r p n) A).2 ⟨λj hj=>by rw [Xs (by rw [vo.len]; omega)]; rfl,λy hy=>by
   obtain ⟨V,q2⟩:=below_mem.1 (Yw hy);obtain ⟨y',hy',ey⟩:=Qa V;have B:=U y' hy' (by rw [ey]; exact q2)
   rw [Zhj (mx a n) eu y',dm _ _ hy',ey,Zj0 ok vo λm=>dco a [⟨m,1⟩] ((below (p+r) (mons a.degrees (n+1))).getD y Ci)] at B
   rw [dz _ _ hy]; exact B⟩
  have:=Zcp (T:=gens (L.map (Ju (mons a.degrees n) (Ys p (mons a.degrees n))))) (λj=>if j < (mons a.degrees n).length/\(mons a.degrees n).getD j Ci∈Ys p (mons a.degrees n) then 1 else 0) (λj=>(Ys p (mons a.degrees n)).idxOf ((mons a.degrees n).getD j Ci)) (λw ⟨l,hl,e⟩=>by
   subst e;exact(Yy (Cp.2 ⟨l,hl,rfl⟩)).cong λj=>by rw [Zd4 ok (hLr.ok l hl).1]) inL
  exact this.cong λj=>by rw [eu,Zd4 ok vo]
theorem ZIs.ex (a:Alg) (r p n:Int):∃ Z,ZIs a r p n Z:=by
 obtain ⟨L,h⟩:=Dy (Qe a r p n);obtain ⟨O,A,_⟩:=Vi (Qe a r p n);have:=Lf (Qe a r p n) h A;exact⟨_,L,h,by omega,rfl⟩
theorem Zu8 (g:A8->Int):∀ (l:List A8) (row:List Int),row.length=l.length->tot (λt=>t.factor * g t.mono) (fm l row)=tt (λi=>vec row i * g (l.getD i Ci)) (C9 l.length):=λl=>by
 have key:∀ k,k<=l.length->∀ row:List Int,row.length=l.length->tot (λt=>t.factor * g t.mono) (fm (l.take k) (row.take k))=tt (λi=>vec row i * g (l.getD i Ci)) (C9 k):=λk=>by
  induction k with
  | zero=>intro _ row _; rfl
  | succ k ih =>
   intro hk row hr;rw [Bj hr (by omega),Qz,ih (by omega) row hr,ZUv,Gg]
   congr 1
   have e:vec row k=row.getD k Ci:=Vh ..;simp only [tt];split
   ·rename_i z; rw [e,z]; simp [tot]
   ·rw [e]; simp [tot]
 intro row hr;have:=key l.length (Cg _) row hr;rwa [ZP0,<- hr,ZP0,hr] at this
theorem Zd6 {row:List Int} (hr:row.length=(mons a.degrees n).length) (j:Nat):vec (U4 a n row) j % 10007=wv (vec row) (mx a n) j % 10007:=by
 by_cases hj:j < (mons a.degrees (n+1)).length
 ·have h:wv (vec row) (mx a n) j=tt (λi=>vec row i * dco a [⟨(mons a.degrees n).getD i Ci,1⟩] ((mons a.degrees (n+1)).getD j Ci)) (C9 (mons a.degrees n).length):=Zd3 (vec row) (mons a.degrees n) (mons a.degrees (n+1)) (λm=>dco a [⟨m,1⟩]) hj
  rw [U4,Zdx hj,Gs,F4,Zu8 (λm=>dF a.degrees (imgsT a) m (ind ((mons a.degrees (n+1)).getD j Ci)) 8 0) _ _ hr,h]
  have:=N0 (l:=C9 (mons a.degrees n).length) (f:=λi=>0) (g:=λi=>vec row i * dco a [⟨(mons a.degrees n).getD i Ci,1⟩] ((mons a.degrees (n+1)).getD j Ci)) (e:=λi=>vec row i * dF a.degrees (imgsT a) ((mons a.degrees n).getD i Ci) (ind ((mons a.degrees (n+1)).getD j Ci)) 8 0) 1 λi hi=>by
   rw [Gs];simp only [tot];rw [F3,ZQb,ZQb,ZP1,Ct,<- F4 (a:=dF _ _ _ _ _ _),<- Ct,F4]
  rw [Si (λ_ _=>rfl)] at this
  rw [this]; simp
 ·rw [Xs (by rw [(Zd2 a n row).len]; omega)]
  exact(Qh λi hi=>by
   have hz:vec (at_ (mx a n) i) j=0:=Xs (by rw [(J6 a n _ (Wx (Zvt.1 hi))).len]; omega)
   rw [hz,ZP5]; rfl).symm
end
def Wf (l:List A8):Int:=l.foldl (λs m=>if s < wdU m 8 then wdU m 8 else s) 0
theorem Zj1 {l:List A8} {i:Nat} (h:i < l.length):Wf (l.take (i+1))=if Wf (l.take i) < wdU (l.getD i Ci) 8 then wdU (l.getD i Ci) 8 else Wf (l.take i):=by
 rw [Xk h,Wf,List.foldl_append]; rfl
theorem Zu9 {r:List A8} (hp:∀ i,i < r.length->∀ j,j < 8->0<=(r.getD i Ci).get j/\(r.getD i Ci).get j<=255) {E:Int->Prop} (h:E (Wf r)) :
  Z1 (λi (s:Int) next=>Na (r.getD i Ci) (λA=>next (if s < A then A else s))) E r.length 0 0:=by
 refine Yp (λi s=>s=Wf (r.take i)) r.length ?_ ?_ _ _ _ (by omega) rfl
 ·intro i s next hi hs hn;refine Zh1 (hp i hi) (hn _ ?_)
  rw [hs,Zj1 hi]
 ·intro s hs; rw [hs,ZP0]; exact h
theorem Zva {r:List A8} (hp:∀ i,i < r.length->∀ j,j < 8->0<=(r.getD i Ci).get j/\(r.getD i Ci).get j<=255) {E:Int->Prop} (h:E (Wf r)) :
  Z1 (λi (s:Int) next=>Ui (r.getD i Ci) (λA=>next (if s < A then A else s))) E r.length 0 0:=by
 refine Yp (λi s=>s=Wf (r.take i)) r.length ?_ ?_ _ _ _ (by omega) rfl
 ·intro i s next hi hs hn;refine Bb (hp i hi) (hn _ ?_)
  rw [hs,Zj1 hi]
 ·intro s hs; rw [hs,ZP0]; exact h
theorem Zvb {l:List A8} {c:Int} (h:∀ m,m∈l->wdU m 8<=c) (hc:0<=c):0<=Wf l/\Wf l<=c:=by
 have key:∀ (l:List A8) (s:Int),(∀ m,m∈l->wdU m 8<=c)->0<=s/\s<=c->0<=l.foldl (λs m=>if s < wdU m 8 then wdU m 8 else s) s/\l.foldl (λs m=>if s < wdU m 8 then wdU m 8 else s) s<=c:=by
  intro l
  induction l with
  | nil=>intro s _ hs; exact hs
  | cons m l ih =>
   intro s hl hs;refine ih _ (λx hx=>hl x (ZJk _ hx)) ?_
   have:=hl m ZJs;dsimp only;split <;> omega
 exact key l 0 h ⟨ZUm _,hc⟩
theorem Zd7 {a:Alg} (ok:OkAlg a) {n:Int}:0<=Wf (mons a.degrees n)/\Wf (mons a.degrees n)<=2040 :=
 Zvb (λm hm=>by
  have:=(S7 (m:=m) (λi hi=>by have:=Be ok.deg m hm i hi; omega) 8 (Cg _)).2
  omega) (by omega)
theorem Zvc {l:List A8}:∀ m,m∈l->wdU m 8<=Wf l:=by
 have mono:∀ (l:List A8) (s:Int),s<=l.foldl (λs m=>if s < wdU m 8 then wdU m 8 else s) s:=λl=>by
  induction l with
  | nil=>intro s; exact ZUm _
  | cons m l ih =>
   intro s;refine ZUp ?_ (ih _)
   dsimp only; split <;> omega
 have key:∀ (l:List A8) (s:Int),∀ m,m∈l->wdU m 8<=l.foldl (λs m=>if s < wdU m 8 then wdU m 8 else s) s:=λl=>by
  induction l with
  | nil=>intro s m h; cases h
  | cons x l ih =>
   intro s m h;rcases Cb.1 h with rfl | h
   ·refine ZUp ?_ (mono l _)
    dsimp only; split <;> omega
   ·exact ih _ m h
 exact key l 0
theorem Zvd {a:Alg} {n:Int} {K:Int->Prop} (ok:OkAlg a) (hn:n<=40) (hf:Fits a.degrees n) (h:K (Wf (mons a.degrees n))):H9 (Uo a) a n K:=by
 unfold H9;exact⟨Qd ok hn hf,Zu9 (λi hi=>S8 ok.deg hi) h⟩
def Gw (x:Int):Prop:=0<=x/\x<=20
def RowIs (a:Alg) (r n:Int) (L:List Int):Prop:=L.length=(Wf (mons a.degrees n)).toNat+1/\∀ p:Nat,p < L.length->PageIs a r p n (L.getD p Ci)
theorem RowIs.unique {a:Alg} {r n:Int} {L L':List Int} (h:RowIs a r n L) (k:RowIs a r n L'):L=L':=by
 refine Zvx (h.1.trans k.1.symm) λi A B=>?_
 have O:=h.2 i A;have I:=k.2 i B;rw [Nt A] at O
 rw [Nt B] at I
 exact O.unique I
theorem Zj2 {a:Alg} {r n:Int} {L:List Int} {x:Int} (h:∀ p:Nat,p < L.length->PageIs a r p n (L.getD p Ci)) (hx:PageIs a r L.length n x):∀ p:Nat,p < (L++[x]).length->PageIs a r p n ((L++[x]).getD p Ci):=λp hp=>by
 rw [C8,ZUy] at hp
 by_cases e:p < L.length
 ·have:(L++[x]).getD p Ci=L.getD p Ci:=by simp only [Co]; rw [List.getElem?_append_left e]
  rw [this]; exact h p e
 ·obtain rfl:p=L.length:=by omega
  have:(L++[x]).getD L.length Ci=x:=by simp [Co]
  rw [this]; exact hx
section
variable {a:Alg} {r n:Int} {K:List Int->Prop}
theorem Zve {K:Int->Prop} (ok:OkAlg a) (hn:0<=n/\n<=40) (hf:Fits a.degrees n) (h:K (Wf (mons a.degrees n))):Hu a n K:=by
 unfold Hu;refine Qc ok.deg hn hf ?_
 rw [Gk ok.deg];exact Zva (λi hi=>S8 ok.deg hi) h
theorem Zvf (ok:OkAlg a) (hf:Xh a) (hn:0<=n/\n<=20) (hr:0<=r/\r<=2200) (af:Vj a.degrees n) (h:∀ L,RowIs a r n L->K L):No (Uo a) a r n K:=by
 have hw:=Zd7 ok (n:=n);unfold No;refine Zvd ok (by omega) af.2.1 ?_
 rw [i64_in _ (by omega)]
 refine Jj (λ(s:List Int×Int)=>(0<=s.2/\s.2<=Wf (mons a.degrees n)+1)/\s.1.length=s.2.toNat/\∀ p:Nat,p < s.1.length->PageIs a r p n (s.1.getD p Ci)) (λs=>(Wf (mons a.degrees n)+1 - s.2).toNat) ?_ ⟨by dsimp only; omega,rfl,λp hp=>by simp at hp⟩
 rintro ⟨L,p⟩ next ⟨I,B,A⟩ hnx;dsimp only at I B A hnx ⊢
 by_cases c:p < Wf (mons a.degrees n)+1
 ·refine Y4 c (Zu7 ok hf hn hr (by omega) af λx hx=>⟨?_,hnx _ ⟨?_,?_,?_⟩ ?_⟩)
  ·unfold Zw; omega
  ·dsimp only; rw [i64_in _ (by omega)]; omega
  ·dsimp only; rw [i64_in _ (by omega),C8,ZUy]; omega
  ·exact Zj2 A (by rw [B,ZFl I.1]; exact hx)
  ·dsimp only; rw [i64_in _ (by omega)]; omega
 ·exact Y8 c (h L ⟨by omega,A⟩)
theorem Zvg (ok:OkAlg a) (hf:Xh a) (hn:0<=n/\n<=20) (hr:0<=r/\r<=2200) (af:Vj a.degrees n) (h:∀ L,RowIs a r n L->K L):M5 a r n K:=by
 have hw:=Zd7 ok (n:=n);unfold M5;refine Jj (λ(s:List Int×Int)=>(0<=s.2/\s.2<=Wf (mons a.degrees n)+1)/\s.1.length=s.2.toNat/\∀ p:Nat,p < s.1.length->PageIs a r p n (s.1.getD p Ci)) (λs=>(Wf (mons a.degrees n)+1 - s.2).toNat) ?_ ⟨by dsimp only; omega,rfl,λp hp=>by simp at hp⟩
 rintro ⟨L,p⟩ next ⟨I,B,A⟩ hnx;dsimp only at I B A hnx ⊢
 refine Zve ok (by omega) af.2.1 ?_
 by_cases c:p<=Wf (mons a.degrees n)
 ·refine Y4 c (Zu5 ok hf hn hr (by omega) af λx hx=>⟨?_,hnx _ ⟨?_,?_,?_⟩ ?_⟩)
  ·unfold Zw; omega
  ·dsimp only; rw [i64_in _ (by omega)]; omega
  ·dsimp only; rw [i64_in _ (by omega),C8,ZUy]; omega
  ·exact Zj2 A (by rw [B,ZFl I.1]; exact hx)
  ·dsimp only; rw [i64_in _ (by omega)]; omega
 ·exact Y8 c (h L ⟨by omega,A⟩)
end
end Go.Proofs.YtaagfepgbofmlaaGreat
