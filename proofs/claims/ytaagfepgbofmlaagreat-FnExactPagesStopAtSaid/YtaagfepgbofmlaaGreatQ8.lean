import Derived.Test.YtaagfepgbofmlaaGreatQ7
set_option linter.unusedSectionVars false
set_option linter.unusedSimpArgs false
set_option linter.unusedVariables false
open Go.IntKind renaming i64→Zwt
open Inhabited renaming default→Ci
open List renaming mem_map→Cp,take_length→ZP0,take_of_length_le→Fs,mem_append_left→Cv,mem_append_right→Cu
open Nat renaming le_refl→Cg
namespace Go.Proofs.YtaagfepgbofmlaaGreat
open Go Vc
def IsK (a:Alg) (p n:Int) (K:List (List Int)):Prop:=Rref (mons a.degrees n).length K/\∀ u,Sp (gens K) u↔(Sp (gens (We a n)) u/\Off a p n u)
def IsBd (a:Alg) (p n:Int) (B:List (List Int)):Prop:=Rref (mons a.degrees n).length B/\∀ u,Sp (gens B) u↔(Sp (gens (bdR a n)) u/\Off a p n u)
section
variable {a:Alg} {p n:Int}
theorem IsK.unique {K L:List (List Int)} (h:IsK a p n K) (k:IsK a p n L):K=L:=h.1.unique k.1 λu=>(h.2 u).trans (k.2 u).symm
theorem IsBd.unique {K L:List (List Int)} (h:IsBd a p n K) (k:IsBd a p n L):K=L:=h.1.unique k.1 λu=>(h.2 u).trans (k.2 u).symm
def Deep (a:Alg) (n q:Int):Prop:=∀ y,y < (mons a.degrees n).length->wdU ((mons a.degrees n).getD y Ci) 8 < q
theorem Zd8 (ok:OkAlg a) {r:Int} {Z:List (List Int)} (I:ZIs a r p n Z) (hd:Deep a (n+1) (p+r)):IsK a p n Z:=⟨I.rref ok,λu=>by
 rw [Zd5 ok I,Zjy (J6 a n) (Sh a n),Vk];exact⟨λ⟨h,A,B⟩=>⟨⟨h,λj hj=>B j hj (hd j hj)⟩,A⟩,λ⟨⟨h,A⟩,B⟩=>⟨h,B,λy hy _=>A y hy⟩⟩⟩
theorem Zd9 (ok:OkAlg a) {q:Int} (hq:q<=0) (u:Vec):Off a q n u:=λj hj hw=>by
 have:=(S7 (S8 ok.deg hj) 8 (Cg _)).1;omega
theorem Zvh {u:Vec} (h:0 < n):Sp (gens (bdR a n)) u↔Sp (gens (mx a (n - 1))) u:=((Nv h).sp u).symm
theorem Zj3 (ok:OkAlg a) (hn:0 < n) {r q:Int} (hq:q<=0) (hp:q+r=p) {Z:List (List Int)} (A:ZIs a r q (n - 1) Z) (u:Vec):Sp (gens (Z.map (U4 a (n - 1)))) u↔(Sp (gens (bdR a n)) u/\Off a p n u):=by
 have en:n - 1+1=n:=by omega
 have zr:=A.rref ok;rw [Zvh hn];constructor
 ·intro h;refine⟨h.mono λv hv=>?_,Off.gens (λx hx j hj hw=>?_) h⟩
  ·obtain ⟨x,hx,e⟩:=hv;obtain ⟨z,hz,rfl⟩:=Cp.1 hx;subst e;exact(Zcu (u:=vec z) (mx a (n - 1))).cong λj=>Zd6 (zr.ok z hz).1.len j
  ·obtain ⟨z,hz,rfl⟩:=Cp.1 hx;rw [Zd6 (zr.ok z hz).1.len];have:=((Zd5 ok A (vec z)).1 (Yy hz)).2.2 j;rw [en] at this
   exact this hj (by omega)
 ·rintro ⟨B,I⟩;obtain ⟨v,vo,e⟩:=Zrm (J6 a (n - 1)) B;rw [Vk] at vo
  have inZ:Sp (gens Z) (vec v):=(Zd5 ok A _).2 ⟨λj hj=>by rw [Xs (by rw [vo.len]; exact hj)]; rfl,Zd9 ok hq _,λy hy hw=>by
   rw [en] at hy hw
   rw [<- e]; exact I y hy (by omega)⟩
  exact(Zhk (T:=gens (Z.map (U4 a (n - 1)))) (mx a (n - 1)) (λw ⟨z,hz,e'⟩=>by
   subst e';exact(Yy (Cp.2 ⟨z,hz,rfl⟩)).cong λj=>(Zd6 (zr.ok z hz).1.len j).symm) inZ).cong e
theorem B3 (ok:OkAlg a) (p:Int) (n:Int):∃ K,IsK a p n K:=by
 obtain ⟨Z,h⟩:=ZIs.ex a (2041 - p) p n
 exact⟨Z,Zd8 ok h λy hy=>by
  have:=(S7 (S8 ok.deg hy) 8 (Cg _)).2;omega⟩
theorem B4 (ok:OkAlg a) (p:Int) (n:Int):∃ B,IsBd a p n B:=by
 by_cases hn:0 < n
 ·obtain ⟨Z,I⟩:=ZIs.ex a p 0 (n - 1);have l:=Zj3 (p:=p) ok hn (Int.le_refl 0) (by omega) I
  have rk:X3 (mons a.degrees n).length (Z.map (U4 a (n - 1))):=λx hx=>by
   obtain ⟨z,hz,rfl⟩:=Cp.1 hx;have:=Zd2 a (n - 1) z;rwa [show n - 1+1=n by omega] at this
  obtain ⟨B,A,_⟩:=Vi rk;exact⟨B,A.red,λu=>((A.sp u).symm).trans (l u)⟩
 ·refine⟨[],Rref.nil _,λu=>?_⟩
  rw [Qg hn];exact⟨λh=>⟨h,Off.gens (λx hx=>by cases hx) h⟩,λh=>h.1⟩
theorem B5 (ok:OkAlg a) (hf:Xh a) (hn:0<=n/\n<=36) {u:Vec} (h:Sp (gens (bdR a n)) u):Sp (gens (We a n)) u:=by
 by_cases c:0 < n
 ·obtain ⟨j,rfl⟩:∃ j,n=j+1:=⟨n - 1,by omega⟩
  have A:=Nv (a:=a) c;rw [show j+1 - 1=j by omega] at A
  exact h.mono λv ⟨x,hx,e⟩=>e ▸ Zus ok hf (by omega) (Sh a (j+1)) A x hx
 ·rw [Qg c] at h
  exact h.mono λv ⟨x,hx,_⟩=>by cases hx
theorem Zj4 (ok:OkAlg a) (hf:Xh a) (hn:0<=n/\n<=20) (fit:Fits a.degrees n) {r x:Int} (hr:0 < r) (hp:0<=p) (hpr:p+1<=r) (hd:Deep a (n+1) (p+r)) (h:PageIs a r p n x) {K K' B B':List (List Int)} (hK:IsK a p n K) (hK':IsK a (p+1) n K') (A:IsBd a p n B) (hB':IsBd a (p+1) n B') :
  x=(K.length:Int) - (K'.length:Int) - (B.length:Int)+(B'.length:Int)/\K.length<=120/\B.length<=120:=by
 have hfit:(mons a.degrees n).length<=120:=fit;unfold PageIs at h
 rw [if_neg (by omega)] at h
 obtain ⟨O,Z,out,hO,V,hout,rfl⟩:=h;have eZ:Z=K:=(Zd8 ok V hd).unique hK;subst eZ;obtain ⟨Zo,h1,I⟩:=hO;have eo:Zo=K':=(Zd8 ok h1 (by rw [show p+1+(r - 1)=p+r by omega]; exact hd)).unique hK'
 subst eo
 have hs:SpEq O (Zo++B):=by
  by_cases c:n > 0
  ·rw [if_pos c] at I
   obtain ⟨Zb,h3,rfl⟩:=I;have l:=Zj3 (p:=p) ok (by omega) (show p - r+1<=0 by omega) (by omega) h3
   refine Ls (λv hv=>?_) (λv hv=>?_)
   ·rcases List.mem_append.1 hv with q | q
    ·exact Yy (Cv _ q)
    ·have:=(A.2 _).2 ((l _).1 (Yy q));exact this.mono λw ⟨y,hy,e⟩=>.gen ⟨y,Cu _ hy,e⟩
   ·rcases List.mem_append.1 hv with q | q
    ·exact Yy (Cv _ q)
    ·have:=(l _).2 ((A.2 _).1 (Yy q));exact this.mono λw ⟨y,hy,e⟩=>.gen ⟨y,Cu _ hy,e⟩
  ·rw [if_neg c] at I
   have e0:B=[]:=A.unique ⟨Rref.nil _,λu=>by
    rw [Qg (by omega)]
    exact⟨λh=>⟨h,Off.gens (λx hx=>by cases hx) h⟩,λh=>h.1⟩⟩
   rw [I,e0,List.append_nil]; exact SpEq.refl _
 have md:=Zro hK'.1 A.1 (S:=out) ⟨hout.red,hs.symm.trans hout.sp⟩ hB'.1 λu=>by
  rw [hB'.2,hK'.2,A.2];exact⟨λ⟨L,U⟩=>⟨⟨B5 ok hf (by omega) L,U⟩,L,U.le (by omega)⟩,λ⟨⟨L,U⟩,q3,q4⟩=>⟨q3,U⟩⟩
 have l1:=V.len;have l2:=Lc A.1 (b:=(We a n)) (Nw a n) λx hx=>B5 ok hf (by omega) ((A.2 _).1 (Yy hx)).1
 have l4:(We a n).length<=(mons a.degrees n).length:=by
  obtain ⟨o,ho,_⟩:=Vi (J6 a n);have:=Lf (J6 a n) (Sh a n) ho;rw [Vk] at this; omega
 have l5:out.length<=300:=by
  have:=h1.len;omega
 refine⟨?_,by omega,by omega⟩
 rw [i64_in _ (by omega)]
 omega
def Vx (L:List Int):Int:=L.foldl (λs x=>Zwt.wrap (s+x)) 0
theorem Zj5 {L:List Int} {i:Nat} (h:i < L.length):Vx (L.take (i+1))=Zwt.wrap (Vx (L.take i)+L.getD i Ci):=by
 rw [Xk h,Vx,List.foldl_append]; rfl
theorem Zj6 {R:List (List Int)} {N:Nat} (h:Rref N R) (A:∀ x,x∈R->∀ j,j < N->vec x j % 10007=0):R=[]:=by
 cases R with
 | nil=>rfl
 | cons x R =>
  have hx:=h.ok x (by simp)
  have:=A x (by simp) _ (Qi hx)
  rw [hx.2] at this
  exact absurd this (by decide)
theorem Zj7 (ok:OkAlg a) (hf:Xh a) (hn:0<=n/\n<=20) (fit:Fits a.degrees n) {L:List Int} (h:RowIs a 2100 n L):Vx L=((klR a n).length:Int):=by
 obtain ⟨hl,hp⟩:=h;have hw:=Zd7 ok (n:=n);obtain ⟨K0,hK0⟩:=B3 ok 0 n;obtain ⟨B0,hB0⟩:=B4 ok 0 n;have eK:K0=We a n:=hK0.unique ⟨Nw a n,λu=>⟨λh=>⟨h,Zd9 ok (Int.le_refl 0) u⟩,λh=>h.1⟩⟩
 have eB:B0=bdR a n:=hB0.unique ⟨Lq a n,λu=>⟨λh=>⟨h,Zd9 ok (Int.le_refl 0) u⟩,λh=>h.1⟩⟩
 have hfit:(mons a.degrees n).length<=120:=fit
 have deep:∀ q:Int,2041<=q->Deep a (n+1) q:=λq hq y hy=>by
  have:=(S7 (S8 ok.deg hy) 8 (Cg _)).2;omega
 have key:∀ q:Nat,q<=L.length->∀ K B,IsK a q n K->IsBd a q n B->Vx (L.take q)=(K0.length:Int) - (B0.length:Int) - (K.length:Int)+(B.length:Int)/\K.length<=120/\B.length<=120:=λq=>by
  induction q with
  | zero =>
   intro _ K B A I;obtain ⟨K1,hK1⟩:=B3 ok 1 n;obtain ⟨B1,hB1⟩:=B4 ok 1 n;have:=Zj4 ok hf hn fit (p:=0) (by omega) (by omega) (by omega) (deep _ (by omega)) (hp 0 (by omega)) hK0 hK1 hB0 hB1
   have U:K=K0:=A.unique hK0;have V:B=B0:=I.unique hB0;rw [U,V];refine⟨?_,this.2⟩
   show (0:Int)=_
   omega
  | succ q ih =>
   intro hq K B A I;obtain ⟨K1,hK1⟩:=B3 ok (q:Int) n;obtain ⟨B1,hB1⟩:=B4 ok (q:Int) n;obtain ⟨i1,i2,i3⟩:=ih (by omega) K1 B1 hK1 hB1
   have A:IsK a ((q:Int)+1) n K:=A;have I:IsBd a ((q:Int)+1) n B:=I;obtain ⟨p1,p2,p3⟩:=Zj4 ok hf hn fit (p:=(q:Int)) (by omega) (by omega) (by omega) (deep _ (by omega)) (hp q (by omega)) hK1 A hB1 I
   have b1:=Lc A.1 hK1.1 λx hx=>by
    have:=(A.2 _).1 (Yy hx);exact(hK1.2 _).2 ⟨this.1,this.2.le (by omega)⟩
   have b2:=Lc I.1 hB1.1 λx hx=>by
    have:=(I.2 _).1 (Yy hx);exact(hB1.2 _).2 ⟨this.1,this.2.le (by omega)⟩
   have b3:=Lc hB0.1 hK0.1 λx hx=>by
    have:=(hB0.2 _).1 (Yy hx);exact(hK0.2 _).2 ⟨B5 ok hf (by omega) this.1,this.2⟩
   have b4:=Lc hK1.1 hK0.1 λx hx=>by
    have:=(hK1.2 _).1 (Yy hx);exact(hK0.2 _).2 ⟨this.1,this.2.le (by omega)⟩
   have b5:K0.length<=120:=by
    rw [eK];obtain ⟨o,ho,_⟩:=Vi (J6 a n);have:=Lf (J6 a n) (Sh a n) ho;rw [Vk] at this; omega
   refine⟨?_,by omega,by omega⟩
   rw [Zj5 (by omega),i1,p1,i64_in _ (by omega)]
   omega
 obtain ⟨K,A⟩:=B3 ok (L.length:Int) n;obtain ⟨B,I⟩:=B4 ok (L.length:Int) n;obtain ⟨O,_,_⟩:=key L.length (Cg _) K B A I;rw [ZP0] at O
 have offz:∀ {u:Vec}, Off a (L.length:Int) n u->∀ j,j < (mons a.degrees n).length->u j % 10007=0:=λh j hj=>h j hj (by
  have:=Zvc (l:=mons a.degrees n) _ (Yw hj);omega)
 have z1:K=[]:=Zj6 A.1 λx hx=>offz ((A.2 _).1 (Yy hx)).2
 have z2:B=[]:=Zj6 I.1 λx hx=>offz ((I.2 _).1 (Yy hx)).2
 have hr:=Zhi (Lq a n) (λz hz=>((Nw a n).ok z hz).1)
 have qd:=Zre (Nw a n) (Lq a n) (λx hx=>B5 ok hf (by omega) (Yy hx)) hr.1 hr.2 (Zd1 a n)
 rw [O,z1,z2,eK,eB];simp only [List.length_nil];omega
end
theorem Zj8 {a:Alg} {n:Int} {K:List (List Int)->Prop} (ok:OkAlg a) (hf:Xh a) (hn:0<=n/\n<=38) (A:Fits a.degrees n) (B:Fits a.degrees (n+1)) (h:K (mx a n)):M6 a n K:=by
 have hd:=ok.deg;have L:(mons a.degrees n).length<=120:=A;have O:(mons a.degrees (n+1)).length<=120:=B;unfold M6;have I:Zwt.wrap (n+1)=n+1:=i64_in _ (by omega)
 rw [I];refine Gj hd (by omega) (Gj hd (by omega) ?_)
 rw [Fs (by omega),Fs (by omega)]
 refine Yp (λi s=>s=((mons a.degrees n).take i).map λm=>W6 a n [⟨m,1⟩]) (mons a.degrees n).length ?_ ?_ _ _ _ (by omega) rfl
 ·intro i s next hi hs hnx;refine Ba (Zdh ok hf hn A B (Zdg (Yw hi)) ⟨?_,hnx _ ?_⟩)
  ·rw [hs,List.length_map,List.length_take]; unfold Zw; omega
  ·rw [Xk hi,List.map_append,hs]; rfl
 ·intro s hs; rw [hs,ZP0]; exact h
section
variable {a:Alg} {n:Int} {K:List (List Int)->Prop}
theorem Zvi (ok:OkAlg a) (hf:Xh a) (hn:0<=n/\n<=36) (A:Fits a.degrees n) (B:Fits a.degrees (n+1)) (h:K (We a n)):H1 a n K:=by
 have O:(mons a.degrees n).length<=120:=A;have U:(mons a.degrees (n+1)).length<=120:=B;unfold H1;rw [i64_in (n+1) (by omega)]
 refine Zj8 ok hf (by omega) A B (Gj ok.deg (by omega) ?_)
 rw [Fs (by omega)]
 refine Zck (J6 a n) (by omega) (by rw [Vk]; omega) λL I _=>?_
 rw [I.unique (Sh a n)]; exact h
theorem Zvj (ok:OkAlg a) (hf:Xh a) (hn:0<=n/\n<=36) (A:Fits a.degrees (n - 1)) (B:Fits a.degrees n) (h:K (bdR a n)):H0 a n K:=by
 have l0:(mons a.degrees (n - 1)).length<=120:=A;have L:(mons a.degrees n).length<=120:=B;unfold H0;by_cases c:n=0
 ·refine Y4 c ?_
  have:=Qg (a:=a) (n:=n) (by omega)
  rw [this] at h; exact h
 ·have e:n - 1+1=n:=by omega
  rw [i64_in (n - 1) (by omega)]
  refine Y8 c (Zj8 ok hf (by omega) A (by rw [e]; exact B) ?_)
  have r:=J6 a (n - 1);rw [e] at r
  refine Gb r (by omega) (by rw [Vk]; omega) λO I _=>?_
  rw [I.unique (Nv (by omega))]; exact h
theorem Zvk (a:Alg) (n:Int):(We a n).length<=(mons a.degrees n).length:=by
 obtain ⟨o,ho,_⟩:=Vi (J6 a n);have:=Lf (J6 a n) (Sh a n) ho;rw [Vk] at this; omega
theorem Zvl (a:Alg) (n:Int) (A:Fits a.degrees (n - 1)):(bdR a n).length<=120:=by
 have l0:(mons a.degrees (n - 1)).length<=120:=A;by_cases h:0 < n
 ·have r:=J6 a (n - 1);have e:n - 1+1=n:=by omega
  rw [e] at r
  have:=Zcn r (Nv h);rw [Vk] at this; omega
 ·rw [Qg h]; simp
end
section
variable {a:Alg} {n:Int}
open Classical in
theorem Zvm {K:List (List Int)->Prop} (ok:OkAlg a) (hf:Xh a) (hn:0<=n/\n<=36) (af:Vj a.degrees n) (h:K (klR a n)):H2 a n K:=by
 obtain ⟨B,A,L⟩:=af;have O:(mons a.degrees n).length<=120:=A;have lk:=Zvk a n;have lb:=Zvl a n B;unfold H2;refine Zvi ok hf hn A L (Zvj ok hf hn B A ?_)
 have I:=Lq a n;refine Yp (λi (s:List (List Int))=>IsRref (mons a.degrees n).length (Vv (mons a.degrees n).length (bdR a n) ((We a n).take i)) s/\s.length<=i) (We a n).length ?_ ?_ _ _ _ (by omega) ⟨IsRref.zero _,Cg _⟩
 ·rintro i s next hi ⟨hs,hl⟩ hnx;refine Zhb I (by omega) (by omega) ((Nw a n).ok _ (Yw hi)).1 λr hr=>?_
  refine Zhd hs (by omega) (by omega) hr.ok λo ho hol=>hnx _ ⟨?_,by omega⟩
  rw [Xk hi,Vv,List.map_append];have e:∀ z:List Int,z=(We a n).getD i Ci->(if h:∃ r,IsBy (mons a.degrees n).length (bdR a n) z r then Classical.choose h else [])=r:=λz hz=>D3 I (hz ▸ hr)
  simp only [List.map_cons,List.map_nil];rw [e _ rfl];exact ho
 ·rintro s ⟨hs,_⟩;rw [ZP0] at hs
  rw [hs.unique (Zd1 a n)]; exact h
def StopIs (a:Alg) (n r:Int):Prop:=0<=r/\(∃ L,RowIs a r n L/\Vx L=((klR a n).length:Int))/\∀ q:Int,0<=q->q < r->∀ L,RowIs a q n L->Vx L≠((klR a n).length:Int)
theorem StopIs.unique {r s:Int} (h:StopIs a n r) (k:StopIs a n s):r=s:=by
 obtain ⟨A,⟨L,B,I⟩,O⟩:=h;obtain ⟨U,⟨L',V,k2⟩,k3⟩:=k;rcases Int.lt_trichotomy r s with c | c | c
 ·exact absurd I (k3 r A c L B)
 ·exact c
 ·exact absurd k2 (O s U c L' V)
theorem Zj9 {L:List Int} {E:Int->Prop} (h:E (Vx L)):Z1 (λi (s:Int) nx=>nx (Zwt.wrap (s+(L.getD i Ci)))) E L.length 0 0:=by
 refine Yp (λi s=>s=Vx (L.take i)) L.length ?_ ?_ _ _ _ (by omega) rfl
 ·intro i s next hi hs hn;refine hn _ ?_
  rw [hs,Zj5 hi]
 ·intro s hs; rw [hs,ZP0]; exact h
theorem Zvn {K:Int->Int->Prop} (ok:OkAlg a) (hf:Xh a) (hn:0<=n/\n<=20) (af:Vj a.degrees n) (h:∀ r,StopIs a n r->K r 0) :
  Xv (λ(A:Int) O=>No (CxR a) a A n (λI=>Z1 (λaa (B:Int) U=>U (Zwt.wrap (B+(I.getD aa Ci)))) (λ(B:Int)=>(Hq (CxR a) a n/\(if B=(((CxR a).KL n).length:Int) then K A 0 else O (Zwt.wrap (A+1))))) I.length 0 0)) 0:=by
 refine Jj (λ(s:Int)=>0<=s/\s<=2100/\∀ q:Int,0<=q->q < s->∀ L,RowIs a q n L->Vx L≠((klR a n).length:Int)) (λs=>(2100 - s).toNat) ?_ ⟨by omega,by omega,λq h1 h2=>by omega⟩
 rintro s next ⟨g1,g2,g3⟩ hnx;have hrow:∀ K':List Int->Prop,(∀ L,RowIs a s n L->K' L)->No (CxR a) a s n K':=λK' hK=>Zvf ok hf hn (by omega) af hK
 refine hrow _ λL V=>Zj9 ⟨Zu1 ok hf (by omega) (λ_=>af.1) af.2.1 af.2.2,?_⟩
 show (if Vx L=((klR a n).length:Int) then _ else _)
 by_cases c:Vx L=((klR a n).length:Int)
 ·exact Y4 c (h s ⟨g1,⟨L,V,c⟩,g3⟩)
 ·have hs:s≠2100:=λe=>c (Zj7 ok hf hn af.2.1 (by rw [<- e]; exact V))
  refine Y8 c ?_
  rw [i64_in (s+1) (by omega)]
  refine hnx _ ⟨by omega,by omega,λq h1 h2 L' hL'=>?_⟩ (by omega)
  by_cases e:q=s
  ·subst e;rw [hL'.unique V]; exact c
  ·exact g3 q h1 (by omega) L' hL'
theorem Zvo {B:List (List Int)} {K:Int->Int->Prop} (ok:OkAlg a) (hf:Xh a) (hn:0<=n/\n<=20) (af:Vj a.degrees n) (hB:B=klR a n) (h:∀ r,StopIs a n r->K r 0) :
  Xv (λ(A:Int) U=>M5 a A n (λO=>Z1 (λaa (I:Int) V=>V (Zwt.wrap (I+(O.getD aa Ci)))) (λ(I:Int)=>(if I=(B.length:Int) then K A 0 else U (Zwt.wrap (A+1)))) O.length 0 0)) 0:=by
 subst hB;refine Jj (λ(s:Int)=>0<=s/\s<=2100/\∀ q:Int,0<=q->q < s->∀ L,RowIs a q n L->Vx L≠((klR a n).length:Int)) (λs=>(2100 - s).toNat) ?_ ⟨by omega,by omega,λq h1 h2=>by omega⟩
 rintro s next ⟨g1,g2,g3⟩ hnx;refine Zvg ok hf hn (by omega) af λL hL=>Zj9 ?_
 by_cases c:Vx L=((klR a n).length:Int)
 ·exact Y4 c (h s ⟨g1,⟨L,hL,c⟩,g3⟩)
 ·have hs:s≠2100:=λe=>c (Zj7 ok hf hn af.2.1 (by rw [<- e]; exact hL))
  refine Y8 c ?_
  rw [i64_in (s+1) (by omega)]
  refine hnx _ ⟨by omega,by omega,λq h1 h2 L' hL'=>?_⟩ (by omega)
  by_cases e:q=s
  ·subst e;rw [hL'.unique hL]; exact c
  ·exact g3 q h1 (by omega) L' hL'
end
open Classical in
def StopRes (a:Alg) (n r:Int) (c:Int):Prop :=
 if OkAlg a then(if Vw a then(if Gw n then(if Vj a.degrees n then StopIs a n r/\c=0 else r=0/\c=3) else r=0/\c=2) else r=0/\c=5) else r=0/\c=1
theorem StopRes.unique {a:Alg} {n r r' c c':Int} (h:StopRes a n r c) (k:StopRes a n r' c'):r=r'/\c=c':=by
 unfold StopRes at h k
 by_cases c1:OkAlg a
 ·rw [if_pos c1] at h k
  by_cases c2:Vw a
  ·rw [if_pos c2] at h k
   by_cases c3:Gw n
   ·rw [if_pos c3] at h k
    by_cases c4:Vj a.degrees n
    ·rw [if_pos c4] at h k
     exact⟨h.1.unique k.1,h.2.trans k.2.symm⟩
    ·rw [if_neg c4] at h k; omega
   ·rw [if_neg c3] at h k; omega
  ·rw [if_neg c2] at h k; omega
 ·rw [if_neg c1] at h k; omega
section
variable {a:Alg} {n:Int}
theorem sr1 (h:¬ OkAlg a):StopRes a n 0 1:=by unfold StopRes; rw [if_neg h]; exact⟨rfl,rfl⟩
theorem sr5 (h:OkAlg a) (k:¬ Vw a):StopRes a n 0 5:=by unfold StopRes; rw [if_pos h,if_neg k]; exact⟨rfl,rfl⟩
theorem sr2 (h:OkAlg a) (k:Vw a) (j:¬ Gw n):StopRes a n 0 2:=by unfold StopRes; rw [if_pos h,if_pos k,if_neg j]; exact⟨rfl,rfl⟩
theorem sr3 (h:OkAlg a) (k:Vw a) (j:Gw n) (f:¬ Vj a.degrees n):StopRes a n 0 3:=by unfold StopRes; rw [if_pos h,if_pos k,if_pos j,if_neg f]; exact⟨rfl,rfl⟩
theorem sr0 (h:OkAlg a) (k:Vw a) (j:Gw n) (f:Vj a.degrees n) {r:Int} (hr:StopIs a n r):StopRes a n r 0:=by unfold StopRes; rw [if_pos h,if_pos k,if_pos j,if_pos f]; exact⟨hr,rfl⟩
theorem Zvp {K:Int->Int->Prop} (hf:Xh a) (h:∀ r c,StopRes a n r c->K r c):Ga a n K:=by
 unfold Ga Dp;refine Zbd (Zs4 hf (λno=>?_) (λok no=>?_) (λok mi=>?_))
 ·exact Y8 (by decide) (h _ _ (sr1 no))
 ·exact Y8 (by decide) (h _ _ (sr5 ok no))
 ·by_cases hn:0<=n/\n<=20
  ·have e:(if decide (0<=n/\n<=20)=true then(0:Int) else 2)=0:=by rw [decide_eq_true hn]; rfl
   rw [e];refine Y4 rfl (Ztc (Ztd ok.deg hn (λno=>?_) (λaf=>?_)))
   ·exact h _ _ (sr3 ok mi hn no)
   ·exact⟨CxR a,Zvn ok hf hn af λr hr=>h _ _ (sr0 ok mi hn af hr)⟩
  ·have e:(if decide (0<=n/\n<=20)=true then(0:Int) else 2)=2:=by rw [decide_eq_false hn]; rfl
   rw [e];exact Y8 (by decide) (h _ _ (sr2 ok mi hn))
theorem Zvq {K:Int->Int->Prop} (hf:Xh a) (h:∀ r c,StopRes a n r c->K r c):H3 a n K:=by
 unfold H3 Dl;refine Zs5 hf (λno=>?_) (λok no=>?_) (λok mi=>?_)
 ·exact Y4 (by decide) (Y4 (by decide) (h _ _ (sr1 no)))
 ·exact Y4 (by decide) (Y4 (by decide) (h _ _ (sr5 ok no)))
 ·refine Y8 (by decide) (Ztb hf ok (λno=>?_) (λhn no=>?_) (λhn af=>?_))
  ·exact Y4 (by decide) (h _ _ (sr2 ok mi no))
  ·exact Y4 (by decide) (h _ _ (sr3 ok mi hn no))
  ·exact Y8 (by decide) (Zvm ok hf (by omega) af (Zvo ok hf hn af rfl λr hr=>h _ _ (sr0 ok mi hn af hr)))
end
theorem Zvr (A:Alg) (L:Int) (hg:GoodAlg A) (U:(Lit.int .i64 L).wf=true) (hb:LenAlg A):Dr A L (λr=>r=true):=by
 unfold Dr;refine Zss hb (λr hr B I h=>?_) (λr hr=>by rw [if_pos hr])
 rw [if_neg (by omega)]
 have hf:=hg.fit h;refine Zc8 B I h (Zvq hf λr c V=>Zc8 B I h (Zvp hf λr' c' O=>?_))
 obtain ⟨rfl,rfl⟩:=V.unique O;exact Zhv (Zhv (Zc8 B I h (Zsu (Zr6 rfl))))
end Go.Proofs.YtaagfepgbofmlaaGreat
