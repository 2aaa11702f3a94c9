import Derived.Test.YtaagfepgbofmlaaGreatQ7
set_option linter.unusedSectionVars false
set_option linter.unusedSimpArgs false
set_option linter.unusedVariables false
open Decidable renaming not_not→ZOh
open Go.IntKind renaming i64→ZA7
open Inhabited renaming default→Zyt
open Int renaming mul_emod→ZOo,tmod→Zyy,toNat_natCast→ZVz,emod_emod→ZWe,mul_comm→ZVw,zero_add→ZAd,mul_assoc→ZVx,tmod_eq_emod_of_nonneg→ZAy
open List renaming length_map→ZO3,getD→Zzm,length_set→ZG0,length_take→ZOn,replicate→Zy0,mem_append→Zzu,mem_map→Zy2,take_length→ZV8,length_append→ZBe,length_drop→ZO5,mem_cons→Zyz,mem_singleton→ZAs,mem_append_right→ZA2,mem_append_left→ZA1,take_of_length_le→Zzz
open Nat renaming lt_or_ge→Zzt
open Vc.Sp renaming sum→ZY6
namespace Vc
def at_ (w:List (List Int)) (i:Nat):List Int:=w.getD i []
theorem Zhr {w:List (List Int)} {i:Nat} (h:i < w.length):at_ w i=w[i]:=by simp [at_,Zzm,h]
theorem Zbh {w:List (List Int)} {i:Nat} (h:i < w.length):at_ w i∈w:=by rw [Zhr h]; exact List.getElem_mem h
theorem Zl2 {w:List (List Int)} {a:List Int} (h:a∈w):∃ i,i < w.length∧at_ w i=a:=by
  obtain ⟨i,hi,e⟩:=List.getElem_of_mem h
  exact⟨i,hi,by rw [Zhr hi,e]⟩
theorem Ze5 {w:List (List Int)} {d:Nat} (hd:d < w.length) (x:List Int) (i:Nat):at_ (w.set d x) i=if i=d then x else at_ w i:=by
  unfold at_
  simp only [Zzm]
  by_cases e:i=d
  · subst e; rw [if_pos rfl,List.getElem?_set_self hd]; rfl
  · rw [if_neg e,List.getElem?_set_ne (fun z=>e z.symm)]
theorem Zhs {w:List (List Int)} {d i:Nat} (h:i < d):at_ (w.take d) i=at_ w i:=by
  unfold at_; simp only [Zzm]; rw [List.getElem?_take,if_pos h]
theorem Zl3 {a b:List (List Int)} (h1:∀ i,i < a.length→Sp (gens b) (vec (at_ a i))) (h2:∀ i,i < b.length→Sp (gens a) (vec (at_ b i))):SpEq a b :=
  Zl1 (fun x hx=>by obtain ⟨i,hi,rfl⟩:=Zl2 hx; exact h1 i hi) (fun x hx=>by obtain ⟨i,hi,rfl⟩:=Zl2 hx; exact h2 i hi)
structure Inv (n:Nat) (rows work:List (List Int)) (d c:Nat):Prop where
  ok:∀ i,i < work.length→RowOk n (at_ work i)
  sp:SpEq rows work
  dl:d≤work.length
  piv:∀ i,i < d→ld (at_ work i) < c∧vec (at_ work i) (ld (at_ work i))=1
  clr:∀ i j,i < d→j < work.length→i≠j→vec (at_ work j) (ld (at_ work i))=0
  inc:∀ i j,i < j→j < d→ld (at_ work i) < ld (at_ work j)
  rest:∀ i q,d≤i→i < work.length→q < c→vec (at_ work i) q=0
theorem Inv.start {n:Nat} {rows:List (List Int)} (h:∀ a,a∈rows→RowOk n a):Inv n rows rows 0 0 :=
  ⟨fun i hi=>h _ (Zbh hi),SpEq.refl _,Nat.zero_le _,fun i hi=>absurd hi (by omega),fun i j hi=>absurd hi (by omega),fun i j _ hj=>absurd hj (by omega),fun i q _ _ hq=>absurd hq (by omega)⟩
theorem Inv.skip {n:Nat} {rows work:List (List Int)} {d c:Nat} (h:Inv n rows work d c) (hz:∀ i,d≤i→i < work.length→vec (at_ work i) c=0):Inv n rows work d (c+1) :=
  ⟨h.ok,h.sp,h.dl,fun i hi=>⟨Nat.lt_succ_of_lt (h.piv i hi).1,(h.piv i hi).2⟩,h.clr,h.inc,fun i q h1 h2 hq=>by
    rcases Zzt q c with g | g
    · exact h.rest i q h1 h2 g
    · obtain rfl:q=c:=by omega
      exact hz i h1 h2⟩
def Zay (l:List (List Int)) (i j:Nat):List (List Int):=(l.set i (at_ l j)).set j (at_ l i)
theorem Zjp {l:List (List Int)} {d p:Nat} (hd:d < l.length) (hp:p < l.length) (i:Nat):at_ (Zay l d p) i=if i=p then at_ l d else if i=d then at_ l p else at_ l i:=by
  unfold Zay
  rw [Ze5 (by simpa using hp)]
  split
  · rfl
  · rw [Ze5 hd]
theorem Zht {l:List (List Int)} {d p:Nat}:(Zay l d p).length=l.length:=by simp [Zay]
structure Swept (d c:Nat) (w w3:List (List Int)):Prop where
  len:w3.length=w.length
  row:∀ j,j < w.length→at_ w3 j=if j=d then at_ w d else subR (vec (at_ w j) c) (at_ w j) (at_ w d)
theorem Inv.step {n : Nat} {rows work w3 : List (List Int)} {d c p : Nat} {by_ : Int} (h : Inv n rows work d c) (hdp : d ≤ p) (hp : p < work.length)
    (hby:vec (at_ work p) c * by_ % 10007=1) (hs:Swept d c ((Zay work d p).set d (Xw by_ (at_ (Zay work d p) d))) w3):Inv n rows w3 (d+1) (c+1):=by
  have hd:d < work.length:=by omega
  have hd1:d < (Zay work d p).length:=by rw [Zht]; exact hd
  generalize hw2:(Zay work d p).set d (Xw by_ (at_ (Zay work d p) d))=w2 at hs
  have l2:w2.length=work.length:=by rw [← hw2,ZG0,Zht]
  have l3:w3.length=work.length:=by rw [hs.len,l2]
  have e1:at_ (Zay work d p) d=at_ work p:=by
    rw [Zjp hd hp]
    by_cases q:d=p
    · subst q; rw [if_pos rfl]
    · rw [if_neg q,if_pos rfl]
  have a2:∀ i,at_ w2 i=if i=d then Xw by_ (at_ work p) else if i=p then at_ work d else at_ work i:=fun i=>by
    rw [← hw2,Ze5 hd1,e1,Zjp hd hp]
    by_cases q:i=d
    · rw [if_pos q,if_pos q]
    · rw [if_neg q,if_neg q]
      by_cases q2:i=p
      · rw [if_pos q2,if_neg q]
      · rw [if_neg q2,if_neg q]
  have hr:at_ w2 d=Xw by_ (at_ work p):=by rw [a2,if_pos rfl]
  have rok:RowOk n (at_ w2 d):=by rw [hr]; exact Ze4 (h.ok p hp)
  have rc:vec (at_ w2 d) c=1:=by rw [hr,Zbs,hby]
  have rl:∀ q,q < c→vec (at_ w2 d) q=0:=fun q hq=>by rw [hr,Zbs,h.rest p q hdp hp hq]; simp
  have rld:ld (at_ w2 d)=c:=Zjn rl (by rw [rc]; decide)
  have ok2:∀ i,i < work.length→RowOk n (at_ w2 i):=fun i hi=>by
    rw [a2]; split
    · exact Ze4 (h.ok p hp)
    · split
      · exact h.ok d hd
      · exact h.ok i hi
  have a3:∀ j,j < work.length→at_ w3 j=if j=d then at_ w2 d else subR (vec (at_ w2 j) c) (at_ w2 j) (at_ w2 d):=fun j hj=>hs.row j (by omega)
  have a3d:at_ w3 d=at_ w2 d:=by rw [a3 d hd,if_pos rfl]
  have a3n:∀ j,j < work.length→j≠d→at_ w3 j=subR (vec (at_ w2 j) c) (at_ w2 j) (at_ w2 d):=fun j hj hn=>by rw [a3 j hj,if_neg hn]
  have len2:∀ j,j < work.length→(at_ w2 j).length=(at_ w2 d).length:=fun j hj=>(ok2 j hj).len.trans rok.len.symm
  -- a row at which the row d has nothing keeps its number
  have keep:∀ j q,j < work.length→j≠d→vec (at_ w2 d) q=0→vec (at_ w3 j) q=vec (at_ w2 j) q:=fun j q hj hn hq=>by
    rw [a3n j hj hn,Zbg (len2 j hj),hq,Int.mul_zero,Int.sub_zero,(ok2 j hj).mod]
  have atc:∀ j,j < work.length→j≠d→vec (at_ w3 j) c=0:=fun j hj hn=>by rw [a3n j hj hn,Zbg (len2 j hj),rc]; simp
  have low2:∀ i,i < d→at_ w2 i=at_ work i:=fun i hi=>by rw [a2,if_neg (by omega),if_neg (by omega)]
  have el:∀ i,i < d→Elim n (at_ w2 d) (at_ work i) (at_ w3 i):=fun i hi=>by
    have hi':i < work.length:=by omega
    have hpv:=h.piv i hi
    have:=elim rok (by rw [rld,rc]) (h.ok i hi') hpv.2 (rl _ hpv.1)
    rw [rld] at this
    rw [a3n i hi' (by omega),low2 i hi]; exact this
  have ldi:∀ i,i < d→ld (at_ w3 i)=ld (at_ work i):=fun i hi=>(el i hi).ldq
  refine⟨fun i hi=>?_,h.sp.trans ?_,by omega,fun i hi=>?_,fun i j hi hj hij=>?_,fun i j hij hj=>?_,fun i q hi hil hq=>?_⟩
  · rw [l3] at hi
    rw [a3 i hi]; split
    · exact rok
    · exact Zhq (ok2 i hi) rok
  · have s1 : SpEq work w2 := by
      refine Zl3 (fun i hi=>?_) (fun i hi=>?_)
      · have back:Sp (gens w2) (vec (at_ work p)):=by
          refine ZY6 (vec (at_ work p) c) (Sp.nil _) (J0 (Zbh (w:=w2) (i:=d) (by omega))) fun j=>?_
          rw [hr,Zbs,ZAd,ZOo,ZWe,← ZOo]
          have:vec (at_ work p) c * (vec (at_ work p) j * by_)=vec (at_ work p) j * (vec (at_ work p) c * by_):=by
            rw [← ZVx,ZVw (vec (at_ work p) c),ZVx]
          rw [this,ZOo,hby]; simp
        by_cases q:i=p
        · rw [q]; exact back
        · by_cases q2:i=d
          · have:at_ work i=at_ w2 p:=by rw [a2,if_neg (by omega),if_pos rfl,q2]
            rw [this]; exact J0 (Zbh (by omega))
          · have:at_ work i=at_ w2 i:=by rw [a2,if_neg q2,if_neg q]
            rw [this]; exact J0 (Zbh (by omega))
      · rw [l2] at hi
        rw [a2]; split
        · refine ZY6 by_ (Sp.nil _) (J0 (Zbh hp)) fun j=>?_
          rw [Zbs,ZWe,ZAd,ZVw]
        · split
          · exact J0 (Zbh hd)
          · exact J0 (Zbh hi)
    have s2:SpEq w2 w3:=by
      have g3:Sp (gens w3) (vec (at_ w2 d)):=by rw [← a3d]; exact J0 (Zbh (by omega))
      have g2:Sp (gens w2) (vec (at_ w2 d)):=J0 (Zbh (by omega))
      refine Zl3 (fun i hi=>?_) (fun i hi=>?_)
      · rw [l2] at hi
        by_cases q:i=d
        · rw [q]; exact g3
        · refine Zpw (k:=vec (at_ w2 i) c) (len2 i hi) ?_ g3
          rw [← a3n i hi q]; exact J0 (Zbh (by omega))
      · rw [l3] at hi
        by_cases q:i=d
        · rw [q,a3d]; exact g2
        · rw [a3n i hi q]
          exact Zpv (len2 i hi) (J0 (Zbh (by omega))) g2
    exact s1.trans s2
  · by_cases q:i=d
    · rw [q,a3d,rld]; exact⟨by omega,rc⟩
    · have hi':i < d:=by omega
      rw [ldi i hi']
      exact⟨Nat.lt_succ_of_lt (h.piv i hi').1,(el i hi').one⟩
  · rw [l3] at hj
    by_cases q:i=d
    · subst q; rw [a3d,rld]; exact atc j hj (fun z=>hij z.symm)
    · have hi':i < d:=by omega
      rw [ldi i hi']
      have hpv:=h.piv i hi'
      by_cases qj:j=d
      · rw [qj,a3d]; exact rl _ hpv.1
      · rw [keep j _ hj qj (rl _ hpv.1),a2,if_neg qj]
        split
        · exact h.clr i d hi' hd (by omega)
        · exact h.clr i j hi' hj hij
  · by_cases q:j=d
    · have hi':i < d:=by omega
      rw [q,a3d,rld,ldi i hi']; exact(h.piv i hi').1
    · rw [ldi i (by omega),ldi j (by omega)]; exact h.inc i j hij (by omega)
  · rw [l3] at hil
    have qd:i≠d:=by omega
    by_cases qc:q=c
    · rw [qc]; exact atc i hil qd
    · rw [keep i q hil qd (rl q (by omega)),a2,if_neg qd]
      split
      · exact h.rest d q (Nat.le_refl _) hd (by omega)
      · exact h.rest i q (by omega) hil (by omega)
theorem Inv.fin {n : Nat} {rows work : List (List Int)} {d c : Nat} (h : Inv n rows work d c) (he : d = work.length ∨ n ≤ c) : IsRref n rows (work.take d) := by
  have hd:=h.dl
  have lt:(work.take d).length=d:=by rw [ZOn]; omega
  refine⟨⟨fun a ha=>?_,?_⟩,h.sp.trans (Zl3 (fun i hi=>?_) (fun i hi=>?_))⟩
  · obtain ⟨i,hi,rfl⟩:=Zl2 ha
    rw [Zhs (by omega)]
    exact⟨h.ok i (by omega),(h.piv i (by omega)).2⟩
  · rw [List.pairwise_iff_getElem]
    intro i j hi hj hij
    rw [← Zhr hi,← Zhr hj,Zhs (by omega),Zhs (by omega)]
    exact⟨h.inc i j hij (by omega),h.clr j i (by omega) (by omega) (by omega)⟩
  · by_cases q:i < d
    · rw [← Zhs q]; exact J0 (Zbh (by omega))
    · refine .zero fun j=>?_
      rcases he with e | e
      · omega
      · rcases Zzt j n with g | g
        · rw [h.rest i j (by omega) hi (by omega)]; rfl
        · rw [Za7 (by rw [(h.ok i hi).len]; exact g)]; rfl
  · rw [Zhs (by omega)]; exact J0 (Zbh (by omega))
theorem Rref.split_at {n : Nat} {out : List (List Int)} (h : Rref n out) (k : Nat) : ∃ l1 l2, out = l1 ++ l2 ∧ (∀ z, z ∈ l1 → ld z < k) ∧ ∀ z, z ∈ l2 → k ≤ ld z := by
  have hp:=h.pw
  clear h
  induction out with
  | nil=>exact⟨[],[],rfl,by simp,by simp⟩
  | cons x l ih =>
    obtain ⟨p1,p2⟩:=List.pairwise_cons.1 hp
    by_cases q:ld x < k
    · obtain ⟨l1,l2,e,h1,h2⟩:=ih p2
      exact⟨x::l1,l2,by rw [e]; rfl,fun z hz=>by
        rcases Zyz.1 hz with rfl | hz
        · exact q
        · exact h1 z hz,h2⟩
    · exact⟨[],x::l,rfl,by simp,fun z hz=>by
        rcases Zyz.1 hz with rfl | hz
        · omega
        · have:=(p1 z hz).1; omega⟩
structure IsBy (n:Nat) (out:List (List Int)) (row r:List Int):Prop where
  ok:RowOk n r
  clr:∀ z,z∈out→vec r (ld z)=0
  df:Sp (gens out) (fun j=>vec row j - vec r j)
theorem IsBy.nil {n:Nat} {row:List Int} (h:RowOk n row):IsBy n [] row row:=⟨h,by simp,.zero fun j=>by simp⟩
theorem IsBy.step {n:Nat} {l1 l2:List (List Int)} {z row r:List Int} (hR:Rref n (l1++z::l2)) (h:IsBy n l1 row r):IsBy n (l1++[z]) row (subR (vec r (ld z)) r z):=by
  have hz:=hR.ok z (by simp)
  have hl:=h.ok.len.trans hz.1.len.symm
  obtain ⟨_,_,p3⟩:=List.pairwise_append.1 hR.pw
  refine⟨Zhq h.ok hz.1,fun y hy=>?_,ZY6 (vec r (ld z)) (h.df.mono fun v ⟨x,hx,e⟩=>.gen ⟨x,by simp [hx],e⟩) (J0 (a:=z) (by simp)) fun j=>?_⟩
  · rw [Zbg hl]
    rcases Zzu.1 hy with hy | hy
    · rw [h.clr y hy,Za8 (p3 y hy z (by simp)).1]; simp
    · obtain rfl:=ZAs.1 hy
      rw [hz.2]; simp
  · rw [Zbg hl]
    generalize vec r (ld z) * vec z j=x
    omega
theorem IsBy.same {n:Nat} {l1 l2:List (List Int)} {z row r:List Int} (hR:Rref n (l1++z::l2)) (h:IsBy n l1 row r) (h0:vec r (ld z)=0):IsBy n (l1++[z]) row r:=by
  have:=h.step hR
  rwa [h0,Zjo h.ok (hR.ok z (by simp)).1] at this
theorem IsBy.unique {n:Nat} {out:List (List Int)} {row a b:List Int} (hR:Rref n out) (ha:IsBy n out row a) (hb:IsBy n out row b):a=b:=by
  refine ha.ok.ext hb.ok fun j=>?_
  refine Decidable.byContradiction fun nj=>?_
  have hd:Sp (gens out) (fun j=>vec a j - vec b j):=ZY6 (-1) hb.df ha.df fun j=>by congr 1; omega
  have nj':(vec a j - vec b j) % 10007≠0:=by omega
  obtain ⟨q,h1,h2⟩:=Zpt (p:=fun j=>(vec a j - vec b j) % 10007≠0) nj'
  obtain ⟨y,hy,ey⟩:=hR.leads hd (q:=q) (fun j hj=>ZOh.1 (h2 j hj)) h1
  refine h1 ?_
  rw [← ey,ha.clr y hy,hb.clr y hy]; rfl
theorem IsRref.zero (n:Nat):IsRref n [] []:=⟨Rref.nil n,SpEq.refl _⟩
theorem Zl4 {S:Vec→Prop} {a b:Vec} (hd:Sp S (fun j=>a j - b j)):Sp S a↔Sp S b :=
  ⟨fun h=>ZY6 (-1) h hd fun j=>by congr 1; omega,fun h=>ZY6 1 h hd fun j=>by congr 1; omega⟩
theorem IsRref.put0 {n:Nat} {rows out:List (List Int)} {row r:List Int} (h:IsRref n rows out) (hb:IsBy n out row r) (h0:∀ j,vec r j=0):IsRref n (rows++[row]) out:=by
  refine⟨h.red,Zl1 (fun x hx=>?_) (fun x hx=>?_)⟩
  · rcases Zzu.1 hx with hx | hx
    · exact(h.sp _).1 (J0 hx)
    · obtain rfl:=ZAs.1 hx
      exact(Zl4 hb.df).2 (.zero fun j=>by rw [h0]; rfl)
  · exact((h.sp _).2 (J0 hx)).mono fun v ⟨y,hy,e⟩=>.gen ⟨y,by simp [hy],e⟩
theorem IsRref.put {n : Nat} {rows l1 l2 : List (List Int)} {row r : List Int} {k : Int} (h : IsRref n rows (l1 ++ l2)) (hb : IsBy n (l1 ++ l2) row r) (hk : vec r (ld r) * k % 10007 = 1) (h1 : ∀ z, z ∈ l1 → ld z < ld r) (h2 : ∀ z, z ∈ l2 → ld r ≤ ld z) :
    IsRref n (rows++[row]) (l1.map (fun z=>subR (vec z (ld r)) z (Xw k r))++Xw k r::l2.map (fun z=>subR (vec z (ld r)) z (Xw k r))):=by
  have rok:RowOk n (Xw k r):=Ze4 hb.ok
  have r1:vec (Xw k r) (ld r)=1:=by rw [Zbs,hk]
  have rl:ld (Xw k r)=ld r:=Zjn (fun q hq=>by rw [Zbs,Za8 hq]; simp) (by rw [r1]; decide)
  have rz:∀ z,z∈l1++l2→vec (Xw k r) (ld z)=0:=fun z hz=>by rw [Zbs,hb.clr z hz]; simp
  have n0:vec r (ld r)≠0:=fun z=>by rw [z] at hk; simp at hk
  have ins:=h.red.insert rok (by rw [rl]; exact r1) rz (fun z hz=>by rw [rl]; exact h1 z hz) (fun z hz=>by
    rw [rl]
    have:=h2 z hz
    have:=hb.clr z (ZA2 _ hz)
    rcases Zzt (ld r) (ld z) with g | g
    · exact g
    · rw [show ld z=ld r by omega] at this; exact absurd this n0)
  rw [rl] at ins
  refine⟨ins,Zl1 (fun x hx=>?_) (fun x hx=>?_)⟩
  · generalize hT:l1.map (fun z=>subR (vec z (ld r)) z (Xw k r))++Xw k r::l2.map (fun z=>subR (vec z (ld r)) z (Xw k r))=T at *
    have gr:Sp (gens T) (vec (Xw k r)):=J0 (by rw [← hT]; simp)
    have gz:∀ z,z∈l1++l2→Sp (gens T) (vec z):=fun z hz=>by
      refine Zpw (k:=vec z (ld r)) ((h.red.ok z hz).1.len.trans rok.len.symm) (J0 ?_) gr
      rw [← hT]
      rcases Zzu.1 hz with q | q
      · exact ZA1 _ (Zy2.2 ⟨z,q,rfl⟩)
      · exact ZA2 _ (List.mem_cons_of_mem _ (Zy2.2 ⟨z,q,rfl⟩))
    have up:∀ {v}, Sp (gens (l1++l2)) v→Sp (gens T) v:=fun q=>q.mono fun v ⟨y,hy,e⟩=>e ▸ gz y hy
    rcases Zzu.1 hx with hx | hx
    · exact up ((h.sp _).1 (J0 hx))
    · obtain rfl:=ZAs.1 hx
      refine(Zl4 (up hb.df)).2 (ZY6 (vec r (ld r)) (Sp.nil _) gr fun j=>?_)
      rw [Zbs,ZAd,ZOo,ZWe,← ZOo]
      have:vec r (ld r) * (vec r j * k)=vec r j * (vec r (ld r) * k):=by
        rw [← ZVx,ZVw (vec r (ld r)),ZVx]
      rw [this,ZOo,hk]; simp
  · generalize hR:rows++[row]=R
    have up:∀ {v}, Sp (gens rows) v→Sp (gens R) v:=fun q=>q.mono fun v ⟨y,hy,e⟩=>.gen ⟨y,by rw [← hR]; simp [hy],e⟩
    have gz:∀ z,z∈l1++l2→Sp (gens R) (vec z):=fun z hz=>up ((h.sp _).2 (J0 hz))
    have grow:Sp (gens R) (vec r):=by
      refine(Zl4 (hb.df.mono fun v ⟨y,hy,e⟩=>e ▸ gz y hy)).1 (J0 (by rw [← hR]; simp))
    have gr:Sp (gens R) (vec (Xw k r)):=ZY6 k (Sp.nil _) grow fun j=>by rw [Zbs,ZWe,ZAd,ZVw]
    have fin:∀ z,z∈l1++l2→Sp (gens R) (vec (subR (vec z (ld r)) z (Xw k r))):=fun z hz=>Zpv ((h.red.ok z hz).1.len.trans rok.len.symm) (gz z hz) gr
    rcases Zzu.1 hx with q | q
    · obtain ⟨z,hz,rfl⟩:=Zy2.1 q; exact fin z (ZA1 _ hz)
    · rcases Zyz.1 q with rfl | q
      · exact gr
      · obtain ⟨z,hz,rfl⟩:=Zy2.1 q; exact fin z (ZA2 _ hz)
end Vc
namespace Go.Proofs.YtaagfepgbofmlaaGreat
open Go Vc
def goN:Nat→Nat→Nat→Nat→Nat
  | 0,_,o,_=>o
  | f+1,x,o,k=>if k=0 then o else goN f (x * x % 10007) (if k % 2=1 then o * x % 10007 else o) (k / 2)
def Zb2 (x:Nat):Nat:=goN 14 x 1 10005
def chk (a:Nat):Bool:=(List.range 101).all fun b=>(101 * a+b == 0) || Nat.blt 10006 (101 * a+b) || (101 * a+b) * Zb2 (101 * a+b) % 10007 == 1
theorem Zx9:(List.range 100).all chk=true:=by decide +kernel
theorem Zya {x:Nat} (h1:1≤x) (h2:x≤10006):x * Zb2 x % 10007=1:=by
  have h:=List.all_eq_true.1 Zx9 (x / 101) (List.mem_range.2 (by omega))
  have h':=List.all_eq_true.1 h (x % 101) (List.mem_range.2 (by omega))
  have e:101 * (x / 101)+x % 101=x:=Nat.div_add_mod x 101
  rw [e] at h'
  simp only [Bool.or_eq_true,beq_iff_eq] at h'
  rcases h' with (q | q) | q
  · omega
  · rw [Nat.blt_eq] at q; omega
  · exact q
theorem Zyb (f x o:Nat):goN f x o 0=o:=by
  cases f with
  | zero=>rfl
  | succ f=>rw [goN,if_pos rfl]
theorem Zyc {f x o k:Nat} (hk:k≠0):goN (f+1) x o k=goN f (x * x % 10007) (if k % 2=1 then o * x % 10007 else o) (k / 2):=by
  rw [goN,if_neg hk]
theorem Zyd:∀ (f x o k:Nat),o≤10006→goN f x o k≤10006:=by
  intro f
  induction f with
  | zero=>intro x o k h; exact h
  | succ f ih =>
    intro x o k h
    rw [goN]
    split
    · exact h
    · refine ih _ _ _ ?_
      split
      · omega
      · exact h
theorem Zpx (x:Nat):Zb2 x≤10006:=Zyd _ _ _ _ (by omega)
theorem Zye {a b:Nat} (ha:a≤10006) (hb:b≤10006):a * b≤100120036:=Nat.mul_le_mul ha hb
theorem Zpy {a b:Nat} (ha:a≤10006) (hb:b≤10006):Zyy (ZA7.wrap ((a:Int) * (b:Int))) 10007=((a * b % 10007:Nat):Int):=by
  have h:=Zye ha hb
  rw [show (a:Int) * (b:Int)=((a * b:Nat):Int) by simp,i64_in _ (by omega),ZAy (by omega)]
  rfl
def InvSt (x:Nat) (X O k:Int):Prop:=∃ (f x' o' k':Nat),X=x'∧O=o'∧k=k'∧x'≤10006∧o'≤10006∧(k' < 2 ^ f∧k'≤10005)∧goN f x' o' k'=Zb2 x
theorem InvSt.start {x:Nat} (hx:x≤10006):InvSt x x 1 10005:=⟨14,x,1,10005,rfl,rfl,rfl,hx,by omega,⟨by decide,by omega⟩,rfl⟩
theorem InvSt.step {x:Nat} {X O k:Int} (h:InvSt x X O k) (hk:k > 0) :
    InvSt x (Zyy (ZA7.wrap (X * X)) 10007) (if Zyy k 2=1 then Zyy (ZA7.wrap (O * X)) 10007 else O) (ZA7.wrap (Int.tdiv k 2))∧(ZA7.wrap (Int.tdiv k 2)).toNat < k.toNat:=by
  obtain ⟨f,x',o',k',rfl,rfl,rfl,h1,h2,⟨h3,h5⟩,h4⟩:=h
  have hk0:k'≠0:=by omega
  cases f with
  | zero=>simp at h3; omega
  | succ f =>
    rw [Zyc hk0] at h4
    have e1:Int.tdiv (k':Int) 2=((k' / 2:Nat):Int):=by rw [Int.tdiv_eq_ediv_of_nonneg (by omega)]; rfl
    have e2:(Zyy (k':Int) 2=1)↔k' % 2=1:=by rw [ZAy (by omega)]; omega
    rw [e1,Zpy h1 h1,i64_in ((k' / 2:Nat):Int) (by omega)]
    refine⟨⟨f,_,if k' % 2=1 then o' * x' % 10007 else o',k' / 2,rfl,?_,rfl,by omega,?_,⟨?_,by omega⟩,h4⟩,by omega⟩
    · by_cases q:k' % 2=1
      · rw [if_pos q,if_pos (e2.2 q),Zpy h2 h1]
      · rw [if_neg q,if_neg (fun z=>q (e2.1 z))]
    · split <;> omega
    · rw [Nat.pow_succ] at h3; omega
theorem InvSt.done {x:Nat} {X O k:Int} (h:InvSt x X O k) (hk:¬ k > 0):O=Zb2 x:=by
  obtain ⟨f,x',o',k',rfl,rfl,rfl,h1,h2,⟨h3,h5⟩,h4⟩:=h
  obtain rfl:k'=0:=by omega
  rw [Zyb] at h4; rw [h4]
theorem Zyf {x:Nat} (hx:x≤10006) {K:Int→Prop} (h:K (Zb2 x)):Zhk (x:Int) K:=by
  unfold Zhk
  refine X9 (fun (s:Int×Int×Int)=>InvSt x s.1 s.2.1 s.2.2) (fun s=>s.2.2.toNat) ?_ (InvSt.start hx)
  rintro ⟨X,O,k⟩ next g hn
  dsimp only at g hn ⊢
  by_cases hk:k > 0
  · refine Yx hk ?_
    obtain ⟨g1,g2⟩:=g.step hk
    by_cases q:Zyy k 2=1
    · rw [if_pos q] at g1
      exact Yx q (hn _ g1 g2)
    · rw [if_neg q] at g1
      exact Y4 q (hn _ g1 g2)
  · refine Y4 hk ?_
    rw [g.done hk]; exact h
theorem Zyg {x:Nat} (hx:x≤10006) {K:Int→Prop} (h:K (Zb2 x)):Zd4 (x:Int) K:=by
  unfold Zd4
  refine X9 (fun (s:Int×Int×Int)=>InvSt x s.2.1 s.1 s.2.2) (fun s=>s.2.2.toNat) ?_ (InvSt.start hx)
  rintro ⟨O,X,k⟩ next g hn
  dsimp only at g hn ⊢
  by_cases hk:k > 0
  · refine Yx hk ?_
    obtain ⟨g1,g2⟩:=g.step hk
    by_cases q:Zyy k 2=1
    · rw [if_pos q] at g1
      exact Yx q (hn _ g1 g2)
    · rw [if_neg q] at g1
      exact Y4 q (hn _ g1 g2)
  · refine Y4 hk ?_
    rw [g.done hk]; exact h
end Go.Proofs.YtaagfepgbofmlaaGreat
namespace Go.Proofs.YtaagfepgbofmlaaGreat
open Go Vc
def Zjq (n:Nat) (rows:List (List Int)):Prop:=∀ a,a∈rows→RowOk n a
theorem Zb3 (a:List Int) (j:Nat):a.getD j Zyt=vec a j:=rfl
theorem Ze6 (w:List (List Int)) (i:Nat):w.getD i Zyt=at_ w i:=rfl
theorem RowOk.fit {n:Nat} {a:List Int} (h:RowOk n a) (j:Nat):0≤a.getD j Zyt∧a.getD j Zyt≤10006:=h.rng j
theorem Zl5 {a b:Int} (ha:0≤a∧a≤10006) (hb:0≤b∧b≤10006):0≤a * b∧a * b≤100120036:=⟨Int.mul_nonneg ha.1 hb.1,Int.mul_le_mul ha.2 hb.2 hb.1 (by omega)⟩
theorem Zl6 {a:List Int} {i:Nat} (hi:i < a.length) (x:Int) (j:Nat):vec (a.set i x) j=if j=i then x else vec a j:=by
  unfold vec
  simp only [Zzm]
  by_cases e:j=i
  · subst e; rw [if_pos rfl,List.getElem?_set_self hi]; rfl
  · rw [if_neg e,List.getElem?_set_ne (fun z=>e z.symm)]
theorem Zl7 {n:Nat} {a b r:List Int} (hl:r.length=n) (hb:b.length=n) (h:∀ j,j < n→vec r j=vec b j):r=b :=
  Zlz (hl.trans hb.symm) fun j=>by
    by_cases q:j < n
    · exact h j q
    · rw [Za7 (by omega),Za7 (by omega)]
theorem Zyh {a:List Int} {K:List Int→Prop} (hl:a.length≤1000000) (h:K a):Zji a K :=
  ⟨fun e=>e ▸ h,by unfold Yo; omega,h⟩
theorem Zyi {n:Nat} {a b:List Int} {k:Int} {K:List Int→Prop} (ha:RowOk n a) (hb:RowOk n b) (hk:0≤k∧k≤10006) (h:K (subR k a b)):Zhi a b k K:=by
  unfold Zhi
  have hl:=ha.len.trans hb.len.symm
  refine Xe (fun i (s:List Int)=>s.length=n∧∀ j,vec s j=if j < i then(vec a j - k * vec b j) % 10007 else vec a j) b.length ?_ ?_ _ _ _ (by omega) ⟨ha.len,fun j=>by rw [if_neg (by omega)]⟩
  · rintro i s next hi ⟨g1,g2⟩ hn
    have hi':i < n:=by rw [← hb.len]; exact hi
    have e1:s.getD i Zyt=vec a i:=by rw [Zb3,g2,if_neg (by omega)]
    have pb:=Zl5 hk (hb.rng i)
    have ra:=ha.rng i
    rw [e1,Zb3 b i,i64_in (k * vec b i) (by omega),ZAy pb.1,i64_in _ (by omega)]
    refine⟨by omega,Zi3 ⟨by omega,hn _ ⟨by rw [ZG0]; exact g1,fun j=>?_⟩⟩⟩
    rw [Zl6 (by omega),g2]
    by_cases e:j=i
    · subst e; rw [if_pos rfl,if_pos (by omega)]; omega
    · rw [if_neg e]
      by_cases c:j < i
      · rw [if_pos c,if_pos (by omega)]
      · rw [if_neg c,if_neg (by omega)]
  · rintro s ⟨g1,g2⟩
    have:s=subR k a b:=Zl7 (a:=a) g1 (by rw [Zhp hl,ha.len]) fun j hj=>by rw [g2,if_pos (by rw [hb.len]; exact hj),Zbg hl]
    rw [this]; exact h
theorem Zl8 {n:Nat} {a b:List Int} {k:Int} {K:List Int→Prop} (ha:RowOk n a) (hb:RowOk n b) (hn1:n≤1000000) (hk:0≤k∧k≤10006) (h:K (subR k a b)):Js a b k K:=by
  unfold Js
  have hl:=ha.len.trans hb.len.symm
  have hla:=ha.len
  refine⟨by omega,?_⟩
  rw [ZVz]
  refine Xe (fun i (s:List Int)=>s.length=n∧∀ j,j < i→vec s j=(vec a j - k * vec b j) % 10007) a.length ?_ ?_ _ _ _ (by omega) ⟨by simp [hla],fun j hj=>by omega⟩
  · rintro i s next hi ⟨g1,g2⟩ hn
    have pb:=Zl5 hk (hb.rng i)
    have ra:=ha.rng i
    rw [Zb3 a i,Zb3 b i,i64_in (k * vec b i) (by omega),i64_in _ (by omega)]
    refine⟨by omega,Zb0 ⟨by omega,hn _ ⟨by rw [ZG0]; exact g1,fun j hj=>?_⟩⟩⟩
    rw [Zl6 (by omega)]
    by_cases e:j=i
    · subst e; rw [if_pos rfl]
    · rw [if_neg e]; exact g2 j (by omega)
  · rintro s ⟨g1,g2⟩
    have:s=subR k a b:=Zl7 (a:=a) g1 (by rw [Zhp hl,ha.len]) fun j hj=>by rw [g2 j (by omega),Zbg hl]
    rw [this]; exact h
theorem Zpz {a:List Int} {K:Int→Prop} (hl:a.length≤1000000) (h1:ld a < a.length→K (ld a)) (h0:(∀ j,vec a j=0)→K (-1)):Zbp a K:=by
  unfold Zbp
  refine Xe (fun i (s:Unit)=>∀ j,j < i→vec a j=0) a.length ?_ ?_ _ _ _ (by omega) (fun j hj=>by omega)
  · intro i s next hi g hn
    rw [Zb3]
    by_cases q:vec a i≠0
    · refine Yx q ?_
      have e:=Zjn (fun j hj=>g j hj) q
      have:=h1 (by rw [e]; exact hi)
      rwa [e] at this
    · refine Y4 q (hn _ fun j hj=>?_)
      by_cases e:j=i
      · subst e; exact ZOh.1 q
      · exact g j (by omega)
  · intro s g
    exact h0 fun j=>by
      by_cases q:j < a.length
      · exact g j q
      · exact Za7 (by omega)
theorem Zp0 {n:Nat} {a:List Int} {K:Int→Prop} (hn:n≤1000000) (ha:RowOk n a∧vec a (ld a)=1) (h:K (ld a)):Zbp a K :=
  Zpz (by rw [ha.1.len]; exact hn) (fun _=>h) fun z=>by have:=z (ld a); rw [ha.2] at this; exact absurd this (by decide)
theorem Zyj {n:Nat} {row:List Int} {out:List (List Int)} {K:List Int→Prop} (hR:Rref n out) (hn:n≤1000000) (ho:out.length≤1000000) (hr:RowOk n row) (h:∀ r,IsBy n out row r→K r):Zhb row out K:=by
  unfold Zhb
  refine Xe (fun i (s:List Int)=>IsBy n (out.take i) row s) out.length ?_ ?_ _ _ _ (by omega) (by simpa using IsBy.nil hr)
  · intro i s next hi g hn'
    have hm:=Ja (l:=out) hi
    have hz:=hR.ok _ hm
    have hlz:=Zpu hz
    refine Zp0 hn hz ⟨⟨by omega,by rw [g.ok.len]; omega⟩,?_⟩
    rw [ZVz,Zb3 s]
    have hsp:out.take i++out.getD i Zyt::out.drop (i+1)=out:=by
      rw [show out.getD i Zyt=out[i] by simp [Zzm,hi],List.getElem_cons_drop hi,List.take_append_drop]
    have hR':Rref n (out.take i++out.getD i Zyt::out.drop (i+1)):=by rw [hsp]; exact hR
    by_cases q:vec s (ld (out.getD i Zyt))≠0
    · refine Yx q ⟨⟨by omega,by rw [g.ok.len]; omega⟩,Zl8 g.ok hz.1 hn (g.ok.rng _) (hn' _ ?_)⟩
      rw [J4 hi]; exact g.step hR'
    · refine Y4 q (hn' _ ?_)
      rw [J4 hi]; exact g.same hR' (ZOh.1 q)
  · intro s g
    rw [ZV8] at g; exact h s g
theorem Zp1 (n:Nat):RowOk n (Zy0 n (0:Int)):=⟨by simp,fun j=>by
  have:vec (Zy0 n (0:Int)) j=0:=by
    by_cases q:j < n
    · rw [Zce (by simpa using q)]; simp
    · exact Za7 (by simp; omega)
  omega⟩
theorem Zyk (n j:Nat):vec (Zy0 n (0:Int)) j=0:=by
  by_cases q:j < n
  · rw [Zce (by simpa using q)]; simp
  · exact Za7 (by simp; omega)
theorem Zyl {n:Nat} {r:List Int} {k:Int} (hr:RowOk n r):subR ((0 - k) % 10007) (Zy0 n (0:Int)) r=Xw k r:=by
  have hl:(Zy0 n (0:Int)).length=r.length:=by simp [hr.len]
  refine(Zhq (Zp1 n) hr).ext (Ze4 hr) fun j=>?_
  rw [Zbg hl,Zbs,Zyk]
  have e:((0 - k) % 10007 * vec r j) % 10007=((0 - k) * vec r j) % 10007:=by rw [ZOo,ZWe,← ZOo]
  have e2:(0 - k) * vec r j=- (vec r j * k):=by rw [Int.zero_sub,Int.neg_mul,ZVw]
  rw [e2] at e
  generalize (0 - k) % 10007 * vec r j=x at *
  generalize vec r j * k=y at *
  omega
theorem Zp2 {x:Int} (h:1≤x∧x≤10006):x * ((Zb2 x.toNat:Nat):Int) % 10007=1:=by
  have e:x=((x.toNat:Nat):Int):=by omega
  have:=Zya (x:=x.toNat) (by omega) (by omega)
  rw [e,ZVz]
  rw [← Int.natCast_mul]
  have h7:((x.toNat * Zb2 x.toNat % 10007:Nat):Int)=1:=by rw [this]; rfl
  rw [← h7]; rfl
theorem Zym {n : Nat} {rows out : List (List Int)} {row : List Int} {K : List (List Int) → Prop} (h : IsRref n rows out) (hn : n ≤ 1000000) (ho : out.length ≤ 1000000) (hr : RowOk n row) (hK : ∀ out', IsRref n (rows ++ [row]) out' → out'.length ≤ out.length + 1 → K out') : Zhc out row K := by
  unfold Zhc
  refine Zyj h.red hn ho hr fun r hb=>?_
  have hrl:=hb.ok.len
  refine Zpz (by omega) (fun hlt=>Y4 (by omega) ?_) (fun hz=>Yx (by decide) (hK _ (h.put0 hb hz) (by omega)))
  have hnz:=Zly hlt
  have hrg:=hb.ok.rng (ld r)
  have hrg1:1≤vec r (ld r)∧vec r (ld r)≤10006:=by omega
  have hinv:=Zp2 hrg1
  obtain ⟨l1,l2,e,hl1,hl2⟩:=h.red.split_at (ld r)
  generalize hk:((Zb2 (vec r (ld r)).toNat:Nat):Int)=k at hinv
  have hput:=(e ▸ h:IsRref n rows (l1++l2)).put (e ▸ hb:IsBy n (l1++l2) row r) hinv hl1 hl2
  have kb:0≤k∧k≤10006:=by have:=Zpx (vec r (ld r)).toNat; omega
  have rows_len:∀ z,z∈out→RowOk n z∧vec z (ld z)=1:=fun z hz=>h.red.ok z hz
  have mok:RowOk n (Xw k r):=Ze4 hb.ok
  -- the walk Zl7 the rows
  have tail : ∀ q : List Int, q = Xw k r → Yt (fun i10 (s10 : (List (List Int)) × Bool) nx10 => (if ¬ (s10.2 = true) then Zbp (out.getD i10 Zyt) (fun r18 => (if r18 > ((ld r : Nat) : Int) then (Yo (s10.1.length + 1) 24 ∧ ((0 ≤ ((ld r : Nat) : Int) ∧ ((ld r : Nat) : Int) < ((out.getD i10 Zyt).length : Int)) ∧ Js (out.getD i10 Zyt) q ((out.getD i10 Zyt).getD ((ld r : Nat) : Int).toNat Zyt) (fun r12 => (Yo ((s10.1 ++ [q]).length + 1) 24 ∧ nx10 ((s10.1 ++ [q]) ++ [r12], true))))) else ((0 ≤ ((ld r : Nat) : Int) ∧ ((ld r : Nat) : Int) < ((out.getD i10 Zyt).length : Int)) ∧ Js (out.getD i10 Zyt) q ((out.getD i10 Zyt).getD ((ld r : Nat) : Int).toNat Zyt) (fun r13 => (Yo (s10.1.length + 1) 24 ∧ nx10 (s10.1 ++ [r13], s10.2)))))) else ((0 ≤ ((ld r : Nat) : Int) ∧ ((ld r : Nat) : Int) < ((out.getD i10 Zyt).length : Int)) ∧ Js (out.getD i10 Zyt) q ((out.getD i10 Zyt).getD ((ld r : Nat) : Int).toNat Zyt) (fun r14 => (Yo (s10.1.length + 1) 24 ∧ nx10 (s10.1 ++ [r14], s10.2)))))) (fun (s10 : (List (List Int)) × Bool) => (if ¬ (s10.2 = true) then (Yo (s10.1.length + 1) 24 ∧ K (s10.1 ++ [q])) else K s10.1)) out.length 0 ([], false) := by
    rintro q rfl
    have lout:out.length=l1.length+l2.length:=by rw [e,ZBe]
    let f:List Int→List Int:=fun z=>subR (vec z (ld r)) z (Xw k r)
    have hput':IsRref n (rows++[row]) (l1.map f++Xw k r::l2.map f):=hput
    refine Xe (fun i (s:List (List Int)×Bool)=>(i≤l1.length∧s=((l1.take i).map f,false))∨(l1.length < i∧s=(l1.map f++Xw k r::(l2.take (i - l1.length)).map f,true))) out.length ?_ ?_ _ _ _ (by omega) (.inl ⟨Nat.zero_le _,by simp⟩)
    · rintro i s next hi hs hn'
      have hm:=Ja (l:=out) hi
      have hz:=rows_len _ hm
      have hlz:=Zpu hz
      have b1:0≤((ld r:Nat):Int)∧((ld r:Nat):Int) < ((out.getD i Zyt).length:Int):=by rw [hz.1.len]; omega
      have less:∀ K':List Int→Prop,K' (f (out.getD i Zyt))→Js (out.getD i Zyt) (Xw k r) ((out.getD i Zyt).getD ((ld r:Nat):Int).toNat Zyt) K':=fun K' q=>Zl8 hz.1 mok hn (hz.1.rng _) q
      rcases hs with ⟨hil,rfl⟩ | ⟨hil,rfl⟩
      · dsimp only
        refine Yx (by decide) (Zp0 hn hz ?_)
        by_cases c:i < l1.length
        · have eg:out.getD i Zyt=l1.getD i Zyt:=by rw [e]; simp only [Zzm]; rw [List.getElem?_append_left c]
          have hlt1:ld (out.getD i Zyt) < ld r:=hl1 _ (by rw [eg]; exact Ja c)
          refine Y4 (by omega) ⟨b1,less _ ⟨by rw [ZO3,ZOn]; unfold Yo; omega,hn' _ (.inl ⟨by omega,?_⟩)⟩⟩
          rw [J4 c,List.map_append,eg]; rfl
        · obtain rfl:i=l1.length:=by omega
          have c2:0 < l2.length:=by omega
          have eg:out.getD l1.length Zyt=l2.getD 0 Zyt:=by rw [e]; simp only [Zzm]; rw [List.getElem?_append_right (Nat.le_refl _),Nat.sub_self]
          have hge:=hl2 _ (by rw [eg]; exact Ja c2:out.getD l1.length Zyt∈l2)
          have hne:ld (out.getD l1.length Zyt)≠ld r:=fun z=>by
            have:=hb.clr _ hm
            rw [z] at this; exact hnz this
          refine Yx (by omega) ⟨by rw [ZO3,ZOn]; unfold Yo; omega,b1,less _ ⟨by rw [ZBe,ZO3,ZOn,List.length_singleton]; unfold Yo; omega,hn' _ (.inr ⟨by omega,?_⟩)⟩⟩
          rw [ZV8,show l1.length+1 - l1.length=1 by omega,show l2.take 1=[l2.getD 0 Zyt] by
            cases l2 with
            | nil=>simp at c2
            | cons x y=>rfl,eg]
          simp
      · dsimp only
        have c2:i - l1.length < l2.length:=by omega
        have eg:out.getD i Zyt=l2.getD (i - l1.length) Zyt:=by rw [e]; simp only [Zzm]; rw [List.getElem?_append_right (by omega)]
        refine Y4 (by decide) ⟨b1,less _ ⟨by rw [ZBe,List.length_cons,ZO3,ZO3,ZOn]; unfold Yo; omega,hn' _ (.inr ⟨by omega,?_⟩)⟩⟩
        rw [show i+1 - l1.length=(i - l1.length)+1 by omega,J4 c2,List.map_append,eg,List.append_assoc]; rfl
    · rintro s hs
      have fin:K (l1.map f++Xw k r::l2.map f):=hK _ hput' (by rw [ZBe,List.length_cons,ZO3,ZO3]; omega)
      rcases hs with ⟨hil,rfl⟩ | ⟨hil,rfl⟩
      · have h0:l2=[]:=List.eq_nil_of_length_eq_zero (by omega)
        dsimp only
        refine Yx (by decide) ⟨by rw [ZO3,ZOn]; unfold Yo; omega,?_⟩
        rw [Zzz (by omega)]
        rw [h0] at fin; exact fin
      · dsimp only
        refine Y4 (by decide) ?_
        rw [Zzz (by omega)]; exact fin
  have hv:r.getD (((ld r:Nat):Int)).toNat Zyt=(((vec r (ld r)).toNat:Nat):Int):=by rw [ZVz,Zb3]; omega
  have inv:∀ K':Int→Prop,K' k→Zd4 (r.getD (((ld r:Nat):Int)).toNat Zyt) K':=fun K' q=>by
    rw [hv]; exact Zyg (by omega) (by rw [hk]; exact q)
  have less0:∀ K':List Int→Prop,K' (Xw k r)→Js (Zy0 ((r.length:Int).toNat) (0:Int)) r ((0 - k) % 10007) K':=fun K' q=>by
    rw [ZVz,hrl]
    exact Zl8 (Zp1 n) hb.ok hn (by omega) (by rw [Zyl hb.ok]; exact q)
  have md:∀ K':Int→Prop,K' ((0 - k) % 10007)→Jh (ZA7.wrap (0 - k)) K':=fun K' q=>by
    rw [i64_in _ (by omega)]; exact Zb0 q
  have rm:(0:Int)≤(r.length:Int)∧(r.length:Int) * 8≤281474976710656:=by omega
  refine⟨by omega,⟨rm,inv _ (md _ (less0 _ (tail _ rfl)))⟩,inv _ ⟨⟨rm,md _ (less0 _ (tail _ rfl))⟩,md _ ⟨rm,less0 _ (tail _ rfl)⟩⟩⟩
theorem Zp3 {n:Nat} {rows:List (List Int)} {K:List (List Int)→Prop} (hr:Zjq n rows) (hn:n≤1000000) (hl:rows.length≤1000000) (h:∀ out,IsRref n rows out→out.length≤rows.length→K out):Zey rows K:=by
  unfold Zey
  refine Xe (fun i (s:List (List Int))=>IsRref n (rows.take i) s∧s.length≤i) rows.length ?_ ?_ _ _ _ (by omega) ⟨by simpa using IsRref.zero n,Nat.le_refl _⟩
  · rintro i s next hi ⟨g1,g2⟩ hn'
    refine Zym g1 hn (by omega) (hr _ (Ja hi)) fun out' q1 q2=>hn' _ ⟨?_,by omega⟩
    rw [J4 hi]; exact q1
  · rintro s ⟨g1,g2⟩
    rw [ZV8] at g1; exact h s g1 g2
theorem Zyn {l:List (List Int)} {c:Nat} {K:Int→Prop} (hl:l.length≤1000000) (hc:∀ i,i < l.length→c < (at_ l i).length) (h1:∀ i,i < l.length→vec (at_ l i) c≠0→(∀ j,j < i→vec (at_ l j) c=0)→K i) (h0:(∀ i,i < l.length→vec (at_ l i) c=0)→K (-1)):Zhj l (fun y0_ K_=>Zdb y0_ (c:Int) K_) K:=by
  unfold Zhj
  refine Xe (fun i (s:Unit)=>∀ j,j < i→vec (at_ l j) c=0) l.length ?_ ?_ _ _ _ (by omega) (fun j hj=>by omega)
  · intro i s next hi g hn
    show Zdb (at_ l i) (c:Int) (fun r=>if r=true then K (i:Int) else next ())
    unfold Zdb
    have:=hc i hi
    rw [ZVz,Zb3]
    refine⟨by omega,?_⟩
    by_cases q:vec (at_ l i) c=0
    · rw [decide_eq_false (fun z=>z q)]
      refine Y4 (by decide) (hn _ fun j hj=>?_)
      by_cases e:j=i
      · subst e; exact q
      · exact g j (by omega)
    · rw [decide_eq_true q]
      exact Yx rfl (h1 i hi q g)
  · intro s g
    exact h0 fun i hi=>g i hi
theorem Zl9 (l:List (List Int)) (d i:Nat):at_ (l.drop d) i=at_ l (d+i):=by unfold at_; simp only [Zzm]; rw [List.getElem?_drop]
theorem Zyo (l:List (List Int)) (i j:Nat):Xo Zyt l i j=Zay l i j:=rfl
theorem Zyp {n : Nat} {rows : List (List Int)} {K : List (List Int) → Prop} (hr : Zjq n rows) (hn : n ≤ 1000000) (hl : rows.length ≤ 1000000) (h : ∀ out, IsRref n rows out → out.length ≤ rows.length → K out) : Zhl rows K := by
  unfold Zhl
  refine Xe (fun i (s:List (List Int))=>s=rows.take i) rows.length ?_ ?_ _ _ _ (by omega) (by simp)
  · rintro i s next hi rfl hn'
    have:=hr _ (Ja hi)
    refine Zyh (by rw [this.len]; exact hn) ⟨by rw [ZOn]; unfold Yo; omega,hn' _ ?_⟩
    rw [J4 hi]
  · rintro s rfl
    rw [ZV8]
    refine X9 (fun (s:List (List Int)×Int×Int)=>0≤s.2.1∧0≤s.2.2∧s.2.2≤n∧s.1.length=rows.length∧Inv n rows s.1 s.2.1.toNat s.2.2.toNat) (fun s=>n - s.2.2.toNat) ?_ ⟨Int.le_refl _,Int.le_refl _,by dsimp only; omega,rfl,Inv.start hr⟩
    rintro ⟨w,d,c⟩ next ⟨g1,g2,g3,g4,g5⟩ hn'
    dsimp only at g1 g2 g3 g4 g5 hn' ⊢
    have hdl:=g5.dl
    have fin:(d.toNat=w.length∨n≤c.toNat)→K (w.take d.toNat):=fun q=>h _ (g5.fin q) (by rw [ZOn]; omega)
    by_cases hd:d < (w.length:Int)
    · have hdn:d.toNat < w.length:=by omega
      have h0len:=(g5.ok 0 (by omega)).len
      refine Yx hd ⟨by omega,?_⟩
      rw [Ze6,h0len]
      by_cases hc:c < (n:Int)
      · refine Yx hc ⟨by omega, ?_⟩
        have hcn:c.toNat < n:=by omega
        have ec:c=((c.toNat:Nat):Int):=by omega
        have c1:(c+1).toNat=c.toNat+1:=by omega
        have d1:(d+1).toNat=d.toNat+1:=by omega
        rw [i64_in (c+1) (by omega),i64_in (d+1) (by omega)]
        generalize hQ:(fun y0_ K_=>Zdb y0_ c K_)=Q
        rw [ec] at hQ
        subst hQ
        refine Zyn (by rw [ZO5]; omega) (fun i hi=>?_) (fun i hi hnz hz=>?_) (fun hz=>?_)
        · rw [ZO5] at hi
          rw [Zl9,(g5.ok _ (by omega)).len]; exact hcn
        · rw [ZO5] at hi
          rw [Zl9] at hnz
          have hp:d.toNat+i < w.length:=by omega
          have ep:ZA7.wrap (d+(i:Int))=((d.toNat+i:Nat):Int):=by rw [i64_in _ (by omega)]; omega
          refine Y4 (by omega) ?_
          rw [ep]
          refine⟨by omega,by omega,by omega,by omega,?_⟩
          rw [ZVz,Zyo]
          have ls:(Zay w d.toNat (d.toNat+i)).length=w.length:=Zht
          have e1:at_ (Zay w d.toNat (d.toNat+i)) d.toNat=at_ w (d.toNat+i):=by
            rw [Zjp hdn hp]
            by_cases q:d.toNat=d.toNat+i
            · rw [if_pos q]; congr 1
            · rw [if_neg q,if_pos rfl]
          have okp:=g5.ok _ hp
          have lrow:((Zay w d.toNat (d.toNat+i)).getD d.toNat Zyt).length=n:=by rw [Ze6,e1,okp.len]
          have hrg:=okp.rng c.toNat
          refine⟨by rw [ls]; omega,by rw [lrow]; omega,?_⟩
          have hv:((Zay w d.toNat (d.toNat+i)).getD d.toNat Zyt).getD c.toNat Zyt=(((vec (at_ w (d.toNat+i)) c.toNat).toNat:Nat):Int):=by rw [Ze6,e1,Zb3]; omega
          rw [hv]
          refine Zyf (by omega) ?_
          have hinv:=Zp2 (x:=vec (at_ w (d.toNat+i)) c.toNat) (by omega)
          have kb:=Zpx (vec (at_ w (d.toNat+i)) c.toNat).toNat
          generalize hk:((Zb2 (vec (at_ w (d.toNat+i)) c.toNat).toNat:Nat):Int)=k at hinv ⊢
          have kb':0≤k∧k≤10006:=by omega
          refine⟨by rw [ls]; omega,?_⟩
          rw [lrow]
          -- the row is multiplied
          generalize hw1:Zay w d.toNat (d.toNat+i)=w1 at *
          refine X9 (fun (s:List (List Int)×Int)=>(0≤s.2∧s.2≤n)∧∃ y:List Int,s.1=w1.set d.toNat y∧y.length=n∧∀ j,vec y j=if j < s.2.toNat then vec (at_ w1 d.toNat) j * k % 10007 else vec (at_ w1 d.toNat) j) (fun s=>n - s.2.toNat) ?_ ⟨by dsimp only; omega,at_ w1 d.toNat,?_,by rw [e1,okp.len],fun j=>by rw [if_neg (by dsimp only; omega)]⟩
          · rintro ⟨w2,q⟩ nx ⟨f1,y,rfl,f2,f3⟩ hnx
            dsimp only at f1 f3 hnx ⊢
            have l2:(w1.set d.toNat y).length=w.length:=by rw [ZG0,ls]
            have ey:(w1.set d.toNat y).getD d.toNat Zyt=y:=by rw [Ze6,Ze5 (by omega),if_pos rfl]
            rw [ey]
            by_cases hq:q < (n:Int)
            · have rg:=okp.rng q.toNat
              have pb:=Zl5 rg kb'
              have evq:y.getD q.toNat Zyt=vec (at_ w (d.toNat+i)) q.toNat:=by rw [Zb3,f3,if_neg (by omega),e1]
              refine Yx hq ⟨by omega,by omega,by omega,by omega,?_⟩
              rw [evq,i64_in (vec (at_ w (d.toNat+i)) q.toNat * k) (by omega),ZAy pb.1,List.set_set,i64_in (q+1) (by omega)]
              refine hnx _ ⟨by dsimp only; omega,_,rfl,by rw [ZG0]; exact f2,fun j=>?_⟩ (by dsimp only; omega)
              dsimp only
              rw [Zl6 (by omega),f3,show (q+1).toNat=q.toNat+1 by omega]
              by_cases e:j=q.toNat
              · subst e; rw [if_pos rfl,if_pos (by omega),e1]
              · rw [if_neg e]
                by_cases z:j < q.toNat
                · rw [if_pos z,if_pos (by omega)]
                · rw [if_neg z,if_neg (by omega)]
            · refine Y4 hq ?_
              have hy:y=Xw k (at_ w1 d.toNat):=Zlz (by rw [f2]; simp [Xw,e1,okp.len]) fun j=>by
                rw [Zbs,f3]
                by_cases z:j < q.toNat
                · rw [if_pos z]
                · rw [if_neg z,Za7 (by rw [e1,okp.len]; omega)]; simp
              subst hy
              -- the other rows
              generalize hW2:w1.set d.toNat (Xw k (at_ w1 d.toNat))=W2 at *
              have ok2:∀ j,j < w.length→RowOk n (at_ W2 j):=fun j hj=>by
                rw [← hW2,Ze5 (by omega)]
                by_cases z1:j=d.toNat
                · rw [if_pos z1]; exact Ze4 (by rw [e1]; exact okp)
                · rw [if_neg z1,← hw1,Zjp hdn hp]
                  by_cases z2:j=d.toNat+i
                  · rw [if_pos z2]; exact g5.ok _ hdn
                  · rw [if_neg z2,if_neg z1]; exact g5.ok _ hj
              refine X9 (fun (s:List (List Int)×Int)=>(0≤s.2∧s.2≤w.length)∧s.1.length=w.length∧∀ j,j < w.length→at_ s.1 j=if j < s.2.toNat∧j≠d.toNat then subR (vec (at_ W2 j) c.toNat) (at_ W2 j) (at_ W2 d.toNat) else at_ W2 j) (fun s=>w.length - s.2.toNat) ?_ ⟨by dsimp only; omega,l2,fun j hj=>by rw [if_neg (by dsimp only; omega)]⟩
              rintro ⟨w3,p⟩ nz ⟨q1,q2,q3⟩ hnz2
              dsimp only at q1 q2 q3 hnz2 ⊢
              rw [l2]
              by_cases hpp:p < (w.length:Int)
              · have hpn:p.toNat < w.length:=by omega
                have p1:(p+1).toNat=p.toNat+1:=by omega
                rw [i64_in (p+1) (by omega)]
                refine Yx hpp ⟨by omega,?_⟩
                have row_p:at_ w3 p.toNat=at_ W2 p.toNat:=by rw [q3 _ hpn,if_neg (by omega)]
                have okpp:=ok2 _ hpn
                have skip:(p.toNat=d.toNat∨vec (at_ W2 p.toNat) c.toNat=0)→nz (w3,p+1):=fun z=>hnz2 _ ⟨by dsimp only; omega,q2,fun j hj=>by
                  dsimp only
                  rw [q3 j hj,p1]
                  by_cases a1:j < p.toNat∧j≠d.toNat
                  · rw [if_pos a1,if_pos ⟨by omega,a1.2⟩]
                  · rw [if_neg a1]
                    by_cases a2:j < p.toNat+1∧j≠d.toNat
                    · obtain rfl:j=p.toNat:=by omega
                      rcases z with z | z
                      · exact absurd z a2.2
                      · rw [if_pos a2,z,Zjo okpp (ok2 _ hdn)]
                    · rw [if_neg a2]⟩ (by dsimp only; omega)
                by_cases hpd:p≠d
                · have hpd':p.toNat≠d.toNat:=by omega
                  rw [Ze6 w3 p.toNat,row_p,Ze6 w3 d.toNat,Zb3]
                  refine Yx hpd ⟨by rw [okpp.len]; omega,?_⟩
                  by_cases hv0:vec (at_ W2 p.toNat) c.toNat≠0
                  · refine Yx hv0 ⟨by omega,by rw [okpp.len]; omega,by omega,?_⟩
                    have row_d:at_ w3 d.toNat=at_ W2 d.toNat:=by rw [q3 _ hdn,if_neg (by omega)]
                    rw [row_d]
                    refine Zyi okpp (ok2 _ hdn) (okpp.rng _) (hnz2 _ ⟨by dsimp only; omega,by dsimp only; rw [ZG0]; exact q2,fun j hj=>?_⟩ (by dsimp only; omega))
                    dsimp only
                    rw [Ze5 (by omega),q3 j hj,p1]
                    by_cases a0:j=p.toNat
                    · subst a0; rw [if_pos rfl,if_pos ⟨by omega,hpd'⟩]
                    · rw [if_neg a0]
                      by_cases a1:j < p.toNat∧j≠d.toNat
                      · rw [if_pos a1,if_pos ⟨by omega,a1.2⟩]
                      · rw [if_neg a1,if_neg (by omega)]
                  · exact Y4 hv0 (skip (.inr (ZOh.1 hv0)))
                · exact Y4 hpd (skip (.inl (by omega)))
              · refine Y4 hpp (hn' _ ⟨by dsimp only; omega,by dsimp only; omega,by dsimp only; omega,by dsimp only; omega,?_⟩ (by dsimp only; omega))
                dsimp only
                rw [c1,d1]
                refine g5.step (p:=d.toNat+i) (by_:=k) (by omega) hp hinv ⟨?_,fun j hj=>?_⟩
                · rw [q2,ZG0,Zht]
                · rw [ZG0,Zht] at hj
                  rw [hw1,hW2,q3 j hj]
                  by_cases a0:j=d.toNat
                  · rw [if_neg (by omega),if_pos a0,a0]
                  · rw [if_pos ⟨by omega,a0⟩,if_neg a0]
          · dsimp only
            refine List.ext_getElem (by simp) fun j h1 h2=>?_
            rw [List.getElem_set]
            split
            · rename_i q; subst q; rw [Zhr h1]
            · rfl
        · refine Yx (by decide) (hn' _ ⟨g1,by dsimp only; omega,by dsimp only; omega,g4,?_⟩ (by dsimp only; omega))
          dsimp only
          rw [c1]
          refine g5.skip fun i h1 h2=>?_
          have:=hz (i - d.toNat) (by rw [ZO5]; omega)
          rwa [Zl9,show d.toNat+(i - d.toNat)=i by omega] at this
      · exact Y4 hc ⟨by omega,fin (.inr (by omega))⟩
    · exact Y4 hd ⟨by omega,fin (.inl (by omega))⟩
end Go.Proofs.YtaagfepgbofmlaaGreat
namespace Go.Proofs.YtaagfepgbofmlaaGreat
open Go Vc
theorem Zyq (a:Alg) (k:Int) (e:Elem) (i:Nat) (x:A8):0≤ze a k e i x∧ze a k e i x≤10006:=by unfold ze; omega
theorem Zjr (a:Alg) (k:Int):Zjq (Xa a.degrees (k - 1) a.degrees.length) (Zcd a k):=fun r hr=>by
  obtain ⟨e,he,rfl⟩:=Zy2.1 hr
  refine⟨by rw [Zbf,ZO3,Zcc],fun j=>?_⟩
  by_cases hj:j < (Zbf a k e a.degrees.length).length
  · rw [Zce hj]
    simp only [Zbf,List.getElem_map]
    exact Zyq ..
  · rw [Za7 (by omega)]; omega
theorem Zjs (a:Alg) (k:Int):(Zcd a k).length=Xa a.degrees k a.degrees.length:=by rw [Zcd,ZO3,Zcc]
def hrV (a:Alg) (k:Int) (o1 o2:List (List Int)):Int:=ZA7.wrap ((ZA7.wrap (((Zcd a k).length:Int) - (o1.length:Int))) - (o2.length:Int))
def Ze7 (a:Alg) (k:Int):Prop:=∀ n:Int,k - 1≤n→n≤k+1→Xa a.degrees n a.degrees.length≤120
theorem Zp4 {n:Nat} {rows:List (List Int)} {K:Int→Prop} (hr:Zjq n rows) (hn:n≤1000000) (hl:rows.length≤1000000) (h:∀ out,IsRref n rows out→K (out.length:Int)):Ze1 rows K:=by
  unfold Ze1
  exact Zyp hr hn hl fun out q _=>h out q
theorem Zyr {a:Alg} {k:Int} {K:Int→Int→Prop} (hf:Zbo a) (h1:¬ OkAlg a→K 0 1) (h2:OkAlg a→¬ (1≤k∧k≤11)→K 0 2) (h3:OkAlg a→(1≤k∧k≤11)→¬ Ze7 a k→K 0 3)
    (h0:OkAlg a→(1≤k∧k≤11)→Ze7 a k→∀ o1 o2,IsRref (Xa a.degrees (k - 1) a.degrees.length) (Zcd a k) o1→IsRref (Xa a.degrees (k+1 - 1) a.degrees.length) (Zcd a (k+1)) o2→K (hrV a k o1 o2) 0):Zhd a k K:=by
  unfold Zhd
  refine Zx8 hf (by omega) (by omega) (fun no=>Yx (by decide) (h1 no)) (fun ok no=>Yx (by decide) (h2 ok no)) (fun ok hk no=>Yx (by decide) (h3 ok hk no)) (fun ok hk t=>Y4 (by decide) ?_)
  have t0:=t (k - 1) (by omega) (by omega)
  have t1:=t k (by omega) (by omega)
  have t2:=t (k+1) (by omega) (by omega)
  rw [i64_in (k+1) (by omega)]
  refine Zpl ok hf (by omega) t1 t0 (Zpl ok hf (by omega) t2 (by rw [show k+1 - 1=k by omega]; exact t1) ?_)
  refine Zp3 (Zjr a k) (by omega) (by rw [Zjs]; omega) fun o1 q1 _=>Zp3 (Zjr a (k+1)) (by rw [show k+1 - 1=k by omega]; omega) (by rw [Zjs]; omega) fun o2 q2 _=>?_
  exact h0 ok hk t o1 o2 q1 q2
theorem Zjt {a : Alg} {k : Int} {K : Int → Int → Prop} (hf : Zbo a) (h1 : ¬ OkAlg a → K 0 1) (h2 : OkAlg a → ¬ (1 ≤ k ∧ k ≤ 11) → K 0 2) (h3 : OkAlg a → (1 ≤ k ∧ k ≤ 11) → ¬ Ze7 a k → K 0 3)
    (h0:OkAlg a→(1≤k∧k≤11)→Ze7 a k→∀ o1 o2,IsRref (Xa a.degrees (k - 1) a.degrees.length) (Zcd a k) o1→IsRref (Xa a.degrees (k+1 - 1) a.degrees.length) (Zcd a (k+1)) o2→K (hrV a k o1 o2) 0):Zd5 a k K:=by
  unfold Zd5
  refine Zuz hf (fun ok=>?_) (fun no=>?_)
  · refine Ziw (Zi9 (Zcb ?_))
    by_cases hk:1≤k∧k≤11
    · have e:(if(0:Int)≠0 then(0:Int) else if(!decide (1≤k∧k≤11))=true then 2 else 0)=0:=by rw [decide_eq_true hk]; rfl
      rw [e,i64_in (k+1) (by omega)]
      refine Y4 (by decide) ?_
      have ek:k+1 - 1=k:=by omega
      have low:Xa a.degrees k a.degrees.length≤120→Xa a.degrees (k - 1) a.degrees.length≤120→Xa a.degrees (k+1) a.degrees.length≤120→Ze7 a k:=fun t0 t1 t2 n q1 q2=>by
        by_cases c:n=k
        · subst c; exact t0
        · by_cases c2:n=k - 1
          · subst c2; exact t1
          · rw [show n=k+1 by omega]; exact t2
      refine Zlx ok hf (by omega) (fun t0 t1=>?_) (fun no=>?_)
      · refine Zlx ok hf (by omega) (fun t2 t3=>Zcb ?_) (fun no=>Zcb ?_)
        · refine Y4 (by decide) ?_
          refine Zp4 (Zjr a k) (by omega) (by rw [Zjs]; omega) fun o1 q1=>Zp4 (Zjr a (k+1)) (by rw [ek]; omega) (by rw [Zjs]; omega) fun o2 q2=>?_
          exact h0 ok hk (low t0 t1 t2) o1 o2 q1 q2
        · refine Yx (by decide) (h3 ok hk fun t=>no ⟨t (k+1) (by omega) (by omega),by rw [ek]; exact t0⟩)
      · have nl:¬ Ze7 a k:=fun t=>no ⟨t k (by omega) (by omega),t (k - 1) (by omega) (by omega)⟩
        refine Zlx ok hf (by omega) (fun t2 t3=>Zcb ?_) (fun no=>Zcb ?_) <;> exact Yx (by decide) (h3 ok hk nl)
    · have e:(if(0:Int)≠0 then(0:Int) else if(!decide (1≤k∧k≤11))=true then 2 else 0)=2:=by rw [decide_eq_false hk]; rfl
      rw [e]
      exact Yx (by decide) (h2 ok hk)
  · refine Ziw (Zi9 (Zcb ?_))
    have e:(if(1:Int)≠0 then(1:Int) else if(!decide (1≤k∧k≤11))=true then 2 else 0)=1:=if_pos (by decide)
    rw [e]
    exact Yx (by decide) (h1 no)
theorem Zys (a0:Alg) (a1:Int) (hg:GoodAlg a0) (g1:(Lit.int .i64 a1).wf=true) (hb:LenAlg a0):Zjj a0 a1 (fun r=>r=true):=by
  unfold Zjj
  refine Zw6 hb (fun r hr d1 d2 d3=>?_) (fun r hr=>by rw [if_pos hr])
  rw [if_neg (by omega)]
  have hf:=hg.fit d3
  refine Zlq d1 d2 d3 ?_
  have tail:∀ x y:Int,(∀ K:Int→Int→Prop,K x y→Zd5 a0 a1 K)→Zcs a0 (fun r10=>Zd5 r10 a1 (fun r12 r15=>(if r12≠x then(fun r=>r=true) false else(if r15≠y then(fun r=>r=true) false else Zcs a0 (fun r16=>Zdw r10 r16 (fun r18=>(if¬ (r18=true) then(fun r=>r=true) false else(fun r=>r=true) true))))))):=fun x y hi =>
    Zlq d1 d2 d3 (hi _ (Zn7 (Zn7 (Zlq d1 d2 d3 (Zw8 (Zum rfl))))))
  refine Zyr hf (fun no=>tail 0 1 fun K q=>Zjt hf (fun _=>q) (fun z=>absurd z no) (fun z=>absurd z no) (fun z=>absurd z no)) (fun ok no=>tail 0 2 fun K q=>Zjt hf (fun z=>absurd ok z) (fun _ _=>q) (fun _ z=>absurd z no) (fun _ z=>absurd z no)) (fun ok hk no=>tail 0 3 fun K q=>Zjt hf (fun z=>absurd ok z) (fun _ z=>absurd hk z) (fun _ _ _=>q) (fun _ _ z=>absurd z no)) (fun ok hk t o1 o2 q1 q2=>tail _ 0 fun K q=>Zjt hf (fun z=>absurd ok z) (fun _ z=>absurd hk z) (fun _ _ z=>absurd t z) (fun _ _ _ p1 p2 r1 r2=>?_))
  rw [r1.unique q1,r2.unique q2]; exact q
end Go.Proofs.YtaagfepgbofmlaaGreat
