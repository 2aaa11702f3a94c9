import Derived.Test.YtaagfepgbofmlaaGreatQ5
set_option linter.unusedSectionVars false
set_option linter.unusedSimpArgs false
set_option linter.unusedVariables false
open Classical renaming choose→Z18,choose_spec→Z2b
open Decidable renaming not_not→ZQk
open Go.IntKind renaming i64→ZHd
open Inhabited renaming default→ZEx
open Int renaming mul_add→Z11,mul_assoc→ZYt,mul_comm→ZYq,mul_left_comm→Z12,mul_emod→ZTo,one_mul→Z13,toNat_natCast→ZY4,mul_zero→ZT0,zero_mul→Z16,add_zero→ZTi,tmod_eq_emod_of_nonneg→ZPg,le_refl→ZTm,toNat_of_nonneg→ZPc
open List renaming getD→ZFf,mem_map→ZF9,replicate→ZEs,length_map→Z10,length_take→ZTn,take_length→Z14,mem_range→ZGj,mem_filter→Z15,length_set→ZGc,length_cons→ZHn,range→ZFg,length_append→ZE8,map_append→ZTf,cons_append→Z17,take_of_length_le→ZFw,getElem_of_mem→ZE6,replicate_succ→ZG5,length_drop→ZGy,append_nil→ZUn,nodup_cons→ZPa,mem_cons→ZEt,pairwise_map→ZUc,filter_cons_of_pos→Z2d,filter_cons_of_neg→Z2e,length_nil→Z2f,nil_append→Z2g,mem_cons_of_mem→ZTd,mem_append→ZE4,range_succ→Z2k,getElem_cons_drop→Z2l,take_append_drop→ZIs,length_replicate→ZT2,pairwise_iff_getElem→ZE2
open List.Pairwise renaming filter→Z2s
open Nat renaming le_refl→ZEw,zero_le→ZGh,lt_or_ge→ZF1,zero_add→ZG0,lt_of_not_le→Z2i,add_sub_cancel'→Z2j,add_sub_cancel_left→ZIm
open Prod renaming fst→ZFz
open Vc.A8 renaming get_add→ZYr,get_mkf→ZYs,zero→ZMs,ext_get→ZPf,get_zero→ZYy
namespace Go.Proofs.YtaagfepgbofmlaaGreat
open Go Vc
def J4 (n:Nat) (rows:List (List Int)):Prop:=∀ a,a∈rows→RowOk n a
theorem Zav (a:List Int) (j:Nat):a.getD j ZEx=vec a j:=rfl
theorem Zft (w:List (List Int)) (i:Nat):w.getD i ZEx=at_ w i:=rfl
theorem RowOk.fit {n:Nat} {a:List Int} (h:RowOk n a) (j:Nat):0≤a.getD j ZEx∧a.getD j ZEx≤10006:=h.rng j
theorem Zm9 {a b:Int} (ha:0≤a∧a≤10006) (hb:0≤b∧b≤10006):0≤a * b∧a * b≤100120036:=⟨Int.mul_nonneg ha.1 hb.1,Int.mul_le_mul ha.2 hb.2 hb.1 (by omega)⟩
theorem Zie {a:List Int} {i:Nat} (hi:i < a.length) (x:Int) (j:Nat):vec (a.set i x) j=if j=i then x else vec a j:=by
  unfold vec
  simp only [ZFf]
  by_cases e:j=i
  · subst e; rw [if_pos rfl,List.getElem?_set_self hi]; rfl
  · rw [if_neg e,List.getElem?_set_ne (fun z=>e z.symm)]
theorem Zna {n:Nat} {a b r:List Int} (hl:r.length=n) (hb:b.length=n) (h:∀ j,j < n→vec r j=vec b j):r=b :=
  Zm6 (hl.trans hb.symm) fun j=>by
    by_cases q:j < n
    · exact h j q
    · rw [J3 (by omega),J3 (by omega)]
theorem Zr0 {a:List Int} {K:List Int→Prop} (hl:a.length≤1000000) (h:K a):Zhq a K :=
  ⟨fun e=>e ▸ h,by unfold Z7; omega,h⟩
theorem Zr1 {n:Nat} {a b:List Int} {k:Int} {K:List Int→Prop} (ha:RowOk n a) (hb:RowOk n b) (hk:0≤k∧k≤10006) (h:K (subR k a b)):Zfo a b k K:=by
  unfold Zfo
  have hl:=ha.len.trans hb.len.symm
  refine Ys (fun i (s:List Int)=>s.length=n∧∀ j,vec s j=if j < i then(vec a j - k * vec b j) % 10007 else vec a j) b.length ?_ ?_ _ _ _ (by omega) ⟨ha.len,fun j=>by rw [if_neg (by omega)]⟩
  · rintro i s next hi ⟨g1,g2⟩ hn
    have hi':i < n:=by rw [← hb.len]; exact hi
    have e1:s.getD i ZEx=vec a i:=by rw [Zav,g2,if_neg (by omega)]
    have pb:=Zm9 hk (hb.rng i)
    have ra:=ha.rng i
    rw [e1,Zav b i,i64_in (k * vec b i) (by omega),ZPg pb.1,i64_in _ (by omega)]
    refine⟨by omega,Zmb ⟨by omega,hn _ ⟨by rw [ZGc]; exact g1,fun j=>?_⟩⟩⟩
    rw [Zie (by omega),g2]
    by_cases e:j=i
    · subst e; rw [if_pos rfl,if_pos (by omega)]; omega
    · rw [if_neg e]
      by_cases c:j < i
      · rw [if_pos c,if_pos (by omega)]
      · rw [if_neg c,if_neg (by omega)]
  · rintro s ⟨g1,g2⟩
    have:s=subR k a b:=Zna (a:=a) g1 (by rw [Zh7 hl,ha.len]) fun j hj=>by rw [g2,if_pos (by rw [hb.len]; exact hj),Za3 hl]
    rw [this]; exact h
theorem Znb {n:Nat} {a b:List Int} {k:Int} {K:List Int→Prop} (ha:RowOk n a) (hb:RowOk n b) (hn1:n≤1000000) (hk:0≤k∧k≤10006) (h:K (subR k a b)):X9 a b k K:=by
  unfold X9
  have hl:=ha.len.trans hb.len.symm
  have hla:=ha.len
  refine⟨by omega,?_⟩
  rw [ZY4]
  refine Ys (fun i (s:List Int)=>s.length=n∧∀ j,j < i→vec s j=(vec a j - k * vec b j) % 10007) a.length ?_ ?_ _ _ _ (by omega) ⟨by simp [hla],fun j hj=>by omega⟩
  · rintro i s next hi ⟨g1,g2⟩ hn
    have pb:=Zm9 hk (hb.rng i)
    have ra:=ha.rng i
    rw [Zav a i,Zav b i,i64_in (k * vec b i) (by omega),i64_in _ (by omega)]
    refine⟨by omega,Zcw ⟨by omega,hn _ ⟨by rw [ZGc]; exact g1,fun j hj=>?_⟩⟩⟩
    rw [Zie (by omega)]
    by_cases e:j=i
    · subst e; rw [if_pos rfl]
    · rw [if_neg e]; exact g2 j (by omega)
  · rintro s ⟨g1,g2⟩
    have:s=subR k a b:=Zna (a:=a) g1 (by rw [Zh7 hl,ha.len]) fun j hj=>by rw [g2 j (by omega),Za3 hl]
    rw [this]; exact h
theorem Zr2 {a:List Int} {K:Int→Prop} (hl:a.length≤1000000) (h1:ld a < a.length→K (ld a)) (h0:(∀ j,vec a j=0)→K (-1)):Zbg a K:=by
  unfold Zbg
  refine Ys (fun i (s:Unit)=>∀ j,j < i→vec a j=0) a.length ?_ ?_ _ _ _ (by omega) (fun j hj=>by omega)
  · intro i s next hi g hn
    rw [Zav]
    by_cases q:vec a i≠0
    · refine Yw q ?_
      have e:=Zdq (fun j hj=>g j hj) q
      have:=h1 (by rw [e]; exact hi)
      rwa [e] at this
    · refine Xc q (hn _ fun j hj=>?_)
      by_cases e:j=i
      · subst e; exact ZQk.1 q
      · exact g j (by omega)
  · intro s g
    exact h0 fun j=>by
      by_cases q:j < a.length
      · exact g j q
      · exact J3 (by omega)
theorem Zr3 {n:Nat} {a:List Int} {K:Int→Prop} (hn:n≤1000000) (ha:RowOk n a∧vec a (ld a)=1) (h:K (ld a)):Zbg a K :=
  Zr2 (by rw [ha.1.len]; exact hn) (fun _=>h) fun z=>by have:=z (ld a); rw [ha.2] at this; exact absurd this (by decide)
theorem ZCn {n:Nat} {row:List Int} {out:List (List Int)} {K:List Int→Prop} (hR:Rref n out) (hn:n≤1000000) (ho:out.length≤1000000) (hr:RowOk n row) (h:∀ r,IsBy n out row r→K r):Zh0 row out K:=by
  unfold Zh0
  refine Ys (fun i (s:List Int)=>IsBy n (out.take i) row s) out.length ?_ ?_ _ _ _ (by omega) (by simpa using IsBy.nil hr)
  · intro i s next hi g hn'
    have hm:=Y1 (l:=out) hi
    have hz:=hR.ok _ hm
    have hlz:=Zh9 hz
    refine Zr3 hn hz ⟨⟨by omega,by rw [g.ok.len]; omega⟩,?_⟩
    rw [ZY4,Zav s]
    have hsp:out.take i++out.getD i ZEx::out.drop (i+1)=out:=by
      rw [show out.getD i ZEx=out[i] by simp [ZFf,hi],Z2l hi,ZIs]
    have hR':Rref n (out.take i++out.getD i ZEx::out.drop (i+1)):=by rw [hsp]; exact hR
    by_cases q:vec s (ld (out.getD i ZEx))≠0
    · refine Yw q ⟨⟨by omega,by rw [g.ok.len]; omega⟩,Znb g.ok hz.1 hn (g.ok.rng _) (hn' _ ?_)⟩
      rw [X0 hi]; exact g.step hR'
    · refine Xc q (hn' _ ?_)
      rw [X0 hi]; exact g.same hR' (ZQk.1 q)
  · intro s g
    rw [Z14] at g; exact h s g
theorem Zr4 (n:Nat):RowOk n (ZEs n (0:Int)):=⟨by simp,fun j=>by
  have:vec (ZEs n (0:Int)) j=0:=by
    by_cases q:j < n
    · rw [Zcd (by simpa using q)]; simp
    · exact J3 (by simp; omega)
  omega⟩
theorem Zkl (n j:Nat):vec (ZEs n (0:Int)) j=0:=by
  by_cases q:j < n
  · rw [Zcd (by simpa using q)]; simp
  · exact J3 (by simp; omega)
theorem ZCo {n:Nat} {r:List Int} {k:Int} (hr:RowOk n r):subR ((0 - k) % 10007) (ZEs n (0:Int)) r=Xd k r:=by
  have hl:(ZEs n (0:Int)).length=r.length:=by simp [hr.len]
  refine(Zh8 (Zr4 n) hr).ext (Zfr hr) fun j=>?_
  rw [Za3 hl,Zbi,Zkl]
  have e:((0 - k) % 10007 * vec r j) % 10007=((0 - k) * vec r j) % 10007:=by rw [ZTo,Int.emod_emod,← ZTo]
  have e2:(0 - k) * vec r j=- (vec r j * k):=by rw [Int.zero_sub,Int.neg_mul,ZYq]
  rw [e2] at e
  generalize (0 - k) % 10007 * vec r j=x at *
  generalize vec r j * k=y at *
  omega
theorem Znc {x:Int} (h:1≤x∧x≤10006):x * ((Zbj x.toNat:Nat):Int) % 10007=1:=by
  have e:x=((x.toNat:Nat):Int):=by omega
  have:=ZCg (x:=x.toNat) (by omega) (by omega)
  rw [e,ZY4]
  rw [← Int.natCast_mul]
  have h7:((x.toNat * Zbj x.toNat % 10007:Nat):Int)=1:=by rw [this]; rfl
  rw [← h7]; rfl
theorem ZCp {n : Nat} {rows out : List (List Int)} {row : List Int} {K : List (List Int) → Prop} (h : IsRref n rows out) (hn : n ≤ 1000000) (ho : out.length ≤ 1000000) (hr : RowOk n row) (hK : ∀ out', IsRref n (rows ++ [row]) out' → out'.length ≤ out.length + 1 → K out') : Zh1 out row K := by
  unfold Zh1
  refine ZCn h.red hn ho hr fun r hb=>?_
  have hrl:=hb.ok.len
  refine Zr2 (by omega) (fun hlt=>Xc (by omega) ?_) (fun hz=>Yw (by decide) (hK _ (h.put0 hb hz) (by omega)))
  have hnz:=Zfq hlt
  have hrg:=hb.ok.rng (ld r)
  have hrg1:1≤vec r (ld r)∧vec r (ld r)≤10006:=by omega
  have hinv:=Znc hrg1
  obtain ⟨l1,l2,e,hl1,hl2⟩:=h.red.split_at (ld r)
  generalize hk:((Zbj (vec r (ld r)).toNat:Nat):Int)=k at hinv
  have hput:=(e ▸ h:IsRref n rows (l1++l2)).put (e ▸ hb:IsBy n (l1++l2) row r) hinv hl1 hl2
  have kb:0≤k∧k≤10006:=by have:=Zry (vec r (ld r)).toNat; omega
  have rows_len:∀ z,z∈out→RowOk n z∧vec z (ld z)=1:=fun z hz=>h.red.ok z hz
  have mok:RowOk n (Xd k r):=Zfr hb.ok
  -- the walk Zna the rows
  have tail : ∀ q : List Int, q = Xd k r → Yb (fun i10 (s10 : (List (List Int)) × Bool) nx10 => (if ¬ (s10.2 = true) then Zbg (out.getD i10 ZEx) (fun r18 => (if r18 > ((ld r : Nat) : Int) then (Z7 (s10.1.length + 1) 24 ∧ ((0 ≤ ((ld r : Nat) : Int) ∧ ((ld r : Nat) : Int) < ((out.getD i10 ZEx).length : Int)) ∧ X9 (out.getD i10 ZEx) q ((out.getD i10 ZEx).getD ((ld r : Nat) : Int).toNat ZEx) (fun r12 => (Z7 ((s10.1 ++ [q]).length + 1) 24 ∧ nx10 ((s10.1 ++ [q]) ++ [r12], true))))) else ((0 ≤ ((ld r : Nat) : Int) ∧ ((ld r : Nat) : Int) < ((out.getD i10 ZEx).length : Int)) ∧ X9 (out.getD i10 ZEx) q ((out.getD i10 ZEx).getD ((ld r : Nat) : Int).toNat ZEx) (fun r13 => (Z7 (s10.1.length + 1) 24 ∧ nx10 (s10.1 ++ [r13], s10.2)))))) else ((0 ≤ ((ld r : Nat) : Int) ∧ ((ld r : Nat) : Int) < ((out.getD i10 ZEx).length : Int)) ∧ X9 (out.getD i10 ZEx) q ((out.getD i10 ZEx).getD ((ld r : Nat) : Int).toNat ZEx) (fun r14 => (Z7 (s10.1.length + 1) 24 ∧ nx10 (s10.1 ++ [r14], s10.2)))))) (fun (s10 : (List (List Int)) × Bool) => (if ¬ (s10.2 = true) then (Z7 (s10.1.length + 1) 24 ∧ K (s10.1 ++ [q])) else K s10.1)) out.length 0 ([], false) := by
    rintro q rfl
    have lout:out.length=l1.length+l2.length:=by rw [e,ZE8]
    let f:List Int→List Int:=fun z=>subR (vec z (ld r)) z (Xd k r)
    have hput':IsRref n (rows++[row]) (l1.map f++Xd k r::l2.map f):=hput
    refine Ys (fun i (s:List (List Int)×Bool)=>(i≤l1.length∧s=((l1.take i).map f,false))∨(l1.length < i∧s=(l1.map f++Xd k r::(l2.take (i - l1.length)).map f,true))) out.length ?_ ?_ _ _ _ (by omega) (.inl ⟨ZGh _,by simp⟩)
    · rintro i s next hi hs hn'
      have hm:=Y1 (l:=out) hi
      have hz:=rows_len _ hm
      have hlz:=Zh9 hz
      have b1:0≤((ld r:Nat):Int)∧((ld r:Nat):Int) < ((out.getD i ZEx).length:Int):=by rw [hz.1.len]; omega
      have less:∀ K':List Int→Prop,K' (f (out.getD i ZEx))→X9 (out.getD i ZEx) (Xd k r) ((out.getD i ZEx).getD ((ld r:Nat):Int).toNat ZEx) K':=fun K' q=>Znb hz.1 mok hn (hz.1.rng _) q
      rcases hs with ⟨hil,rfl⟩ | ⟨hil,rfl⟩
      · dsimp only
        refine Yw (by decide) (Zr3 hn hz ?_)
        by_cases c:i < l1.length
        · have eg:out.getD i ZEx=l1.getD i ZEx:=by rw [e]; simp only [ZFf]; rw [List.getElem?_append_left c]
          have hlt1:ld (out.getD i ZEx) < ld r:=hl1 _ (by rw [eg]; exact Y1 c)
          refine Xc (by omega) ⟨b1,less _ ⟨by rw [Z10,ZTn]; unfold Z7; omega,hn' _ (.inl ⟨by omega,?_⟩)⟩⟩
          rw [X0 c,ZTf,eg]; rfl
        · obtain rfl:i=l1.length:=by omega
          have c2:0 < l2.length:=by omega
          have eg:out.getD l1.length ZEx=l2.getD 0 ZEx:=by rw [e]; simp only [ZFf]; rw [List.getElem?_append_right (ZEw _),Nat.sub_self]
          have hge:=hl2 _ (by rw [eg]; exact Y1 c2:out.getD l1.length ZEx∈l2)
          have hne:ld (out.getD l1.length ZEx)≠ld r:=fun z=>by
            have:=hb.clr _ hm
            rw [z] at this; exact hnz this
          refine Yw (by omega) ⟨by rw [Z10,ZTn]; unfold Z7; omega,b1,less _ ⟨by rw [ZE8,Z10,ZTn,List.length_singleton]; unfold Z7; omega,hn' _ (.inr ⟨by omega,?_⟩)⟩⟩
          rw [Z14,show l1.length+1 - l1.length=1 by omega,show l2.take 1=[l2.getD 0 ZEx] by
            cases l2 with
            | nil=>simp at c2
            | cons x y=>rfl,eg]
          simp
      · dsimp only
        have c2:i - l1.length < l2.length:=by omega
        have eg:out.getD i ZEx=l2.getD (i - l1.length) ZEx:=by rw [e]; simp only [ZFf]; rw [List.getElem?_append_right (by omega)]
        refine Xc (by decide) ⟨b1,less _ ⟨by rw [ZE8,ZHn,Z10,Z10,ZTn]; unfold Z7; omega,hn' _ (.inr ⟨by omega,?_⟩)⟩⟩
        rw [show i+1 - l1.length=(i - l1.length)+1 by omega,X0 c2,ZTf,eg,List.append_assoc]; rfl
    · rintro s hs
      have fin:K (l1.map f++Xd k r::l2.map f):=hK _ hput' (by rw [ZE8,ZHn,Z10,Z10]; omega)
      rcases hs with ⟨hil,rfl⟩ | ⟨hil,rfl⟩
      · have h0:l2=[]:=List.eq_nil_of_length_eq_zero (by omega)
        dsimp only
        refine Yw (by decide) ⟨by rw [Z10,ZTn]; unfold Z7; omega,?_⟩
        rw [ZFw (by omega)]
        rw [h0] at fin; exact fin
      · dsimp only
        refine Xc (by decide) ?_
        rw [ZFw (by omega)]; exact fin
  have hv:r.getD (((ld r:Nat):Int)).toNat ZEx=(((vec r (ld r)).toNat:Nat):Int):=by rw [ZY4,Zav]; omega
  have inv:∀ K':Int→Prop,K' k→Zeo (r.getD (((ld r:Nat):Int)).toNat ZEx) K':=fun K' q=>by
    rw [hv]; exact ZCm (by omega) (by rw [hk]; exact q)
  have less0:∀ K':List Int→Prop,K' (Xd k r)→X9 (ZEs ((r.length:Int).toNat) (0:Int)) r ((0 - k) % 10007) K':=fun K' q=>by
    rw [ZY4,hrl]
    exact Znb (Zr4 n) hb.ok hn (by omega) (by rw [ZCo hb.ok]; exact q)
  have md:∀ K':Int→Prop,K' ((0 - k) % 10007)→Xz (ZHd.wrap (0 - k)) K':=fun K' q=>by
    rw [i64_in _ (by omega)]; exact Zcw q
  have rm:(0:Int)≤(r.length:Int)∧(r.length:Int) * 8≤281474976710656:=by omega
  refine⟨by omega,⟨rm,inv _ (md _ (less0 _ (tail _ rfl)))⟩,inv _ ⟨⟨rm,md _ (less0 _ (tail _ rfl))⟩,md _ ⟨rm,less0 _ (tail _ rfl)⟩⟩⟩
theorem ZCq {n:Nat} {rows:List (List Int)} {K:List (List Int)→Prop} (hr:J4 n rows) (hn:n≤1000000) (hl:rows.length≤1000000) (h:∀ out,IsRref n rows out→out.length≤rows.length→K out):Zh2 rows K:=by
  unfold Zh2
  refine Ys (fun i (s:List (List Int))=>IsRref n (rows.take i) s∧s.length≤i) rows.length ?_ ?_ _ _ _ (by omega) ⟨by simpa using IsRref.zero n,ZEw _⟩
  · rintro i s next hi ⟨g1,g2⟩ hn'
    refine ZCp g1 hn (by omega) (hr _ (Y1 hi)) fun out' q1 q2=>hn' _ ⟨?_,by omega⟩
    rw [X0 hi]; exact q1
  · rintro s ⟨g1,g2⟩
    rw [Z14] at g1; exact h s g1 g2
theorem ZCr {l:List (List Int)} {c:Nat} {K:Int→Prop} (hl:l.length≤1000000) (hc:∀ i,i < l.length→c < (at_ l i).length) (h1:∀ i,i < l.length→vec (at_ l i) c≠0→(∀ j,j < i→vec (at_ l j) c=0)→K i) (h0:(∀ i,i < l.length→vec (at_ l i) c=0)→K (-1)):Zhr l (fun y0_ K_=>Zdm y0_ (c:Int) K_) K:=by
  unfold Zhr
  refine Ys (fun i (s:Unit)=>∀ j,j < i→vec (at_ l j) c=0) l.length ?_ ?_ _ _ _ (by omega) (fun j hj=>by omega)
  · intro i s next hi g hn
    show Zdm (at_ l i) (c:Int) (fun r=>if r=true then K (i:Int) else next ())
    unfold Zdm
    have:=hc i hi
    rw [ZY4,Zav]
    refine⟨by omega,?_⟩
    by_cases q:vec (at_ l i) c=0
    · rw [decide_eq_false (fun z=>z q)]
      refine Xc (by decide) (hn _ fun j hj=>?_)
      by_cases e:j=i
      · subst e; exact q
      · exact g j (by omega)
    · rw [decide_eq_true q]
      exact Yw rfl (h1 i hi q g)
  · intro s g
    exact h0 fun i hi=>g i hi
theorem Znd (l:List (List Int)) (d i:Nat):at_ (l.drop d) i=at_ l (d+i):=by unfold at_; simp only [ZFf]; rw [List.getElem?_drop]
theorem ZCs (l:List (List Int)) (i j:Nat):Y6 ZEx l i j=Zai l i j:=rfl
theorem Zkm {n : Nat} {rows : List (List Int)} {K : List (List Int) → Prop} (hr : J4 n rows) (hn : n ≤ 1000000) (hl : rows.length ≤ 1000000) (h : ∀ out, IsRref n rows out → out.length ≤ rows.length → K out) : Zb0 rows K := by
  unfold Zb0
  refine Ys (fun i (s:List (List Int))=>s=rows.take i) rows.length ?_ ?_ _ _ _ (by omega) (by simp)
  · rintro i s next hi rfl hn'
    have:=hr _ (Y1 hi)
    refine Zr0 (by rw [this.len]; exact hn) ⟨by rw [ZTn]; unfold Z7; omega,hn' _ ?_⟩
    rw [X0 hi]
  · rintro s rfl
    rw [Z14]
    refine Jd (fun (s:List (List Int)×Int×Int)=>0≤s.2.1∧0≤s.2.2∧s.2.2≤n∧s.1.length=rows.length∧Inv n rows s.1 s.2.1.toNat s.2.2.toNat) (fun s=>n - s.2.2.toNat) ?_ ⟨ZTm _,ZTm _,by dsimp only; omega,rfl,Inv.start hr⟩
    rintro ⟨w,d,c⟩ next ⟨g1,g2,g3,g4,g5⟩ hn'
    dsimp only at g1 g2 g3 g4 g5 hn' ⊢
    have hdl:=g5.dl
    have fin:(d.toNat=w.length∨n≤c.toNat)→K (w.take d.toNat):=fun q=>h _ (g5.fin q) (by rw [ZTn]; omega)
    by_cases hd:d < (w.length:Int)
    · have hdn:d.toNat < w.length:=by omega
      have h0len:=(g5.ok 0 (by omega)).len
      refine Yw hd ⟨by omega,?_⟩
      rw [Zft,h0len]
      by_cases hc:c < (n:Int)
      · refine Yw hc ⟨by omega, ?_⟩
        have hcn:c.toNat < n:=by omega
        have ec:c=((c.toNat:Nat):Int):=by omega
        have c1:(c+1).toNat=c.toNat+1:=by omega
        have d1:(d+1).toNat=d.toNat+1:=by omega
        rw [i64_in (c+1) (by omega),i64_in (d+1) (by omega)]
        generalize hQ:(fun y0_ K_=>Zdm y0_ c K_)=Q
        rw [ec] at hQ
        subst hQ
        refine ZCr (by rw [ZGy]; omega) (fun i hi=>?_) (fun i hi hnz hz=>?_) (fun hz=>?_)
        · rw [ZGy] at hi
          rw [Znd,(g5.ok _ (by omega)).len]; exact hcn
        · rw [ZGy] at hi
          rw [Znd] at hnz
          have hp:d.toNat+i < w.length:=by omega
          have ep:ZHd.wrap (d+(i:Int))=((d.toNat+i:Nat):Int):=by rw [i64_in _ (by omega)]; omega
          refine Xc (by omega) ?_
          rw [ep]
          refine⟨by omega,by omega,by omega,by omega,?_⟩
          rw [ZY4,ZCs]
          have ls:(Zai w d.toNat (d.toNat+i)).length=w.length:=Zic
          have e1:at_ (Zai w d.toNat (d.toNat+i)) d.toNat=at_ w (d.toNat+i):=by
            rw [Zkk hdn hp]
            by_cases q:d.toNat=d.toNat+i
            · rw [if_pos q]; congr 1
            · rw [if_neg q,if_pos rfl]
          have okp:=g5.ok _ hp
          have lrow:((Zai w d.toNat (d.toNat+i)).getD d.toNat ZEx).length=n:=by rw [Zft,e1,okp.len]
          have hrg:=okp.rng c.toNat
          refine⟨by rw [ls]; omega,by rw [lrow]; omega,?_⟩
          have hv:((Zai w d.toNat (d.toNat+i)).getD d.toNat ZEx).getD c.toNat ZEx=(((vec (at_ w (d.toNat+i)) c.toNat).toNat:Nat):Int):=by rw [Zft,e1,Zav]; omega
          rw [hv]
          refine ZCl (by omega) ?_
          have hinv:=Znc (x:=vec (at_ w (d.toNat+i)) c.toNat) (by omega)
          have kb:=Zry (vec (at_ w (d.toNat+i)) c.toNat).toNat
          generalize hk:((Zbj (vec (at_ w (d.toNat+i)) c.toNat).toNat:Nat):Int)=k at hinv ⊢
          have kb':0≤k∧k≤10006:=by omega
          refine⟨by rw [ls]; omega,?_⟩
          rw [lrow]
          -- the row is multiplied
          generalize hw1:Zai w d.toNat (d.toNat+i)=w1 at *
          refine Jd (fun (s:List (List Int)×Int)=>(0≤s.2∧s.2≤n)∧∃ y:List Int,s.1=w1.set d.toNat y∧y.length=n∧∀ j,vec y j=if j < s.2.toNat then vec (at_ w1 d.toNat) j * k % 10007 else vec (at_ w1 d.toNat) j) (fun s=>n - s.2.toNat) ?_ ⟨by dsimp only; omega,at_ w1 d.toNat,?_,by rw [e1,okp.len],fun j=>by rw [if_neg (by dsimp only; omega)]⟩
          · rintro ⟨w2,q⟩ nx ⟨f1,y,rfl,f2,f3⟩ hnx
            dsimp only at f1 f3 hnx ⊢
            have l2:(w1.set d.toNat y).length=w.length:=by rw [ZGc,ls]
            have ey:(w1.set d.toNat y).getD d.toNat ZEx=y:=by rw [Zft,Zfs (by omega),if_pos rfl]
            rw [ey]
            by_cases hq:q < (n:Int)
            · have rg:=okp.rng q.toNat
              have pb:=Zm9 rg kb'
              have evq:y.getD q.toNat ZEx=vec (at_ w (d.toNat+i)) q.toNat:=by rw [Zav,f3,if_neg (by omega),e1]
              refine Yw hq ⟨by omega,by omega,by omega,by omega,?_⟩
              rw [evq,i64_in (vec (at_ w (d.toNat+i)) q.toNat * k) (by omega),ZPg pb.1,List.set_set,i64_in (q+1) (by omega)]
              refine hnx _ ⟨by dsimp only; omega,_,rfl,by rw [ZGc]; exact f2,fun j=>?_⟩ (by dsimp only; omega)
              dsimp only
              rw [Zie (by omega),f3,show (q+1).toNat=q.toNat+1 by omega]
              by_cases e:j=q.toNat
              · subst e; rw [if_pos rfl,if_pos (by omega),e1]
              · rw [if_neg e]
                by_cases z:j < q.toNat
                · rw [if_pos z,if_pos (by omega)]
                · rw [if_neg z,if_neg (by omega)]
            · refine Xc hq ?_
              have hy:y=Xd k (at_ w1 d.toNat):=Zm6 (by rw [f2]; simp [Xd,e1,okp.len]) fun j=>by
                rw [Zbi,f3]
                by_cases z:j < q.toNat
                · rw [if_pos z]
                · rw [if_neg z,J3 (by rw [e1,okp.len]; omega)]; simp
              subst hy
              -- the other rows
              generalize hW2:w1.set d.toNat (Xd k (at_ w1 d.toNat))=W2 at *
              have ok2:∀ j,j < w.length→RowOk n (at_ W2 j):=fun j hj=>by
                rw [← hW2,Zfs (by omega)]
                by_cases z1:j=d.toNat
                · rw [if_pos z1]; exact Zfr (by rw [e1]; exact okp)
                · rw [if_neg z1,← hw1,Zkk hdn hp]
                  by_cases z2:j=d.toNat+i
                  · rw [if_pos z2]; exact g5.ok _ hdn
                  · rw [if_neg z2,if_neg z1]; exact g5.ok _ hj
              refine Jd (fun (s:List (List Int)×Int)=>(0≤s.2∧s.2≤w.length)∧s.1.length=w.length∧∀ j,j < w.length→at_ s.1 j=if j < s.2.toNat∧j≠d.toNat then subR (vec (at_ W2 j) c.toNat) (at_ W2 j) (at_ W2 d.toNat) else at_ W2 j) (fun s=>w.length - s.2.toNat) ?_ ⟨by dsimp only; omega,l2,fun j hj=>by rw [if_neg (by dsimp only; omega)]⟩
              rintro ⟨w3,p⟩ nz ⟨q1,q2,q3⟩ hnz2
              dsimp only at q1 q2 q3 hnz2 ⊢
              rw [l2]
              by_cases hpp:p < (w.length:Int)
              · have hpn:p.toNat < w.length:=by omega
                have p1:(p+1).toNat=p.toNat+1:=by omega
                rw [i64_in (p+1) (by omega)]
                refine Yw hpp ⟨by omega,?_⟩
                have row_p:at_ w3 p.toNat=at_ W2 p.toNat:=by rw [q3 _ hpn,if_neg (by omega)]
                have okpp:=ok2 _ hpn
                have skip:(p.toNat=d.toNat∨vec (at_ W2 p.toNat) c.toNat=0)→nz (w3,p+1):=fun z=>hnz2 _ ⟨by dsimp only; omega,q2,fun j hj=>by
                  dsimp only
                  rw [q3 j hj,p1]
                  by_cases a1:j < p.toNat∧j≠d.toNat
                  · rw [if_pos a1,if_pos ⟨by omega,a1.2⟩]
                  · rw [if_neg a1]
                    by_cases a2:j < p.toNat+1∧j≠d.toNat
                    · obtain rfl:j=p.toNat:=by omega
                      rcases z with z | z
                      · exact absurd z a2.2
                      · rw [if_pos a2,z,Zkg okpp (ok2 _ hdn)]
                    · rw [if_neg a2]⟩ (by dsimp only; omega)
                by_cases hpd:p≠d
                · have hpd':p.toNat≠d.toNat:=by omega
                  rw [Zft w3 p.toNat,row_p,Zft w3 d.toNat,Zav]
                  refine Yw hpd ⟨by rw [okpp.len]; omega,?_⟩
                  by_cases hv0:vec (at_ W2 p.toNat) c.toNat≠0
                  · refine Yw hv0 ⟨by omega,by rw [okpp.len]; omega,by omega,?_⟩
                    have row_d:at_ w3 d.toNat=at_ W2 d.toNat:=by rw [q3 _ hdn,if_neg (by omega)]
                    rw [row_d]
                    refine Zr1 okpp (ok2 _ hdn) (okpp.rng _) (hnz2 _ ⟨by dsimp only; omega,by dsimp only; rw [ZGc]; exact q2,fun j hj=>?_⟩ (by dsimp only; omega))
                    dsimp only
                    rw [Zfs (by omega),q3 j hj,p1]
                    by_cases a0:j=p.toNat
                    · subst a0; rw [if_pos rfl,if_pos ⟨by omega,hpd'⟩]
                    · rw [if_neg a0]
                      by_cases a1:j < p.toNat∧j≠d.toNat
                      · rw [if_pos a1,if_pos ⟨by omega,a1.2⟩]
                      · rw [if_neg a1,if_neg (by omega)]
                  · exact Xc hv0 (skip (.inr (ZQk.1 hv0)))
                · exact Xc hpd (skip (.inl (by omega)))
              · refine Xc hpp (hn' _ ⟨by dsimp only; omega,by dsimp only; omega,by dsimp only; omega,by dsimp only; omega,?_⟩ (by dsimp only; omega))
                dsimp only
                rw [c1,d1]
                refine g5.step (p:=d.toNat+i) (by_:=k) (by omega) hp hinv ⟨?_,fun j hj=>?_⟩
                · rw [q2,ZGc,Zic]
                · rw [ZGc,Zic] at hj
                  rw [hw1,hW2,q3 j hj]
                  by_cases a0:j=d.toNat
                  · rw [if_neg (by omega),if_pos a0,a0]
                  · rw [if_pos ⟨by omega,a0⟩,if_neg a0]
          · dsimp only
            refine List.ext_getElem (by simp) fun j h1 h2=>?_
            rw [List.getElem_set]
            split
            · rename_i q; subst q; rw [Zia h1]
            · rfl
        · refine Yw (by decide) (hn' _ ⟨g1,by dsimp only; omega,by dsimp only; omega,g4,?_⟩ (by dsimp only; omega))
          dsimp only
          rw [c1]
          refine g5.skip fun i h1 h2=>?_
          have:=hz (i - d.toNat) (by rw [ZGy]; omega)
          rwa [Znd,show d.toNat+(i - d.toNat)=i by omega] at this
      · exact Xc hc ⟨by omega,fin (.inr (by omega))⟩
    · exact Xc hd ⟨by omega,fin (.inl (by omega))⟩
end Go.Proofs.YtaagfepgbofmlaaGreat
namespace Go.Proofs.YtaagfepgbofmlaaGreat
open Go Vc
theorem Zfu (a b:List Int) (j:Nat):vec (a++b) j=if j < a.length then vec a j else vec b (j - a.length):=by
  unfold vec
  simp only [ZFf]
  split
  · rename_i h; rw [List.getElem?_append_left h]
  · rename_i h; rw [List.getElem?_append_right (by omega)]
theorem Zeq (a:List Int) (m j:Nat):vec (a.drop m) j=vec a (m+j):=by
  unfold vec
  simp only [ZFf,List.getElem?_drop]
theorem Zc2 (a:List Int) (m j:Nat):vec (a.take m) j=if j < m then vec a j else 0:=by
  unfold vec
  simp only [ZFf,List.getElem?_take]
  split <;> rfl
theorem ZCt {m n:Nat} {a b:List Int} (ha:RowOk m a) (hb:RowOk n b):RowOk (m+n) (a++b) :=
  ⟨by rw [ZE8,ha.len,hb.len],fun j=>by
    rw [Zfu]; split
    · exact ha.rng j
    · exact hb.rng _⟩
theorem Zne {m n:Nat} {a:List Int} (ha:RowOk (m+n) a):RowOk n (a.drop m) :=
  ⟨by rw [ZGy,ha.len]; omega,fun j=>by rw [Zeq]; exact ha.rng _⟩
def Za5 (n i:Nat):List Int:=(ZEs n (0:Int)).set i 1
theorem ZCu (n i:Nat):RowOk n (Za5 n i):=by
  refine⟨by simp [Za5],fun j=>?_⟩
  by_cases hi:i < n
  · rw [Za5,Zie (by simpa using hi),Zkl]; split <;> omega
  · rw [Za5,List.set_eq_of_length_le (by simp; omega),Zkl]; omega
def Zam (rows:List (List Int)):List (List Int):=(ZFg rows.length).map fun i=>rows.getD i ZEx++Za5 rows.length i
def Zbk (m:Nat) (R:List (List Int)):List (List Int):=(R.filter fun r=>decide (m≤ld r)).map (List.drop m)
def IsKer (m:Nat) (rows L:List (List Int)):Prop:=∃ R,IsRref (m+rows.length) (Zam rows) R∧IsRref rows.length (Zbk m R) L
theorem IsKer.unique {m:Nat} {rows a b:List (List Int)} (ha:IsKer m rows a) (hb:IsKer m rows b):a=b:=by
  obtain ⟨R,h1,h2⟩:=ha
  obtain ⟨R',h3,h4⟩:=hb
  obtain rfl:=h1.unique h3
  exact h2.unique h4
theorem Znf {m:Nat} {rows:List (List Int)} (hr:J4 m rows):J4 (m+rows.length) (Zam rows):=by
  intro a ha
  obtain ⟨i,hi,rfl⟩:=ZF9.1 ha
  exact ZCt (hr _ (Y1 (ZGj.1 hi))) (ZCu _ _)
theorem Zr5 {m n:Nat} {R:List (List Int)} (hR:J4 (m+n) R):J4 n (Zbk m R):=by
  intro a ha
  obtain ⟨r,hr,rfl⟩:=ZF9.1 ha
  exact Zne (hR r (Z15.1 hr).1)
theorem Zr6 (m:Nat) (R:List (List Int)):(Zbk m R).length≤R.length:=by rw [Zbk,Z10]; exact List.length_filter_le _ _
theorem ZCv {m i:Nat} {R:List (List Int)} (hi:i < R.length):Zbk m (R.take (i+1))=Zbk m (R.take i)++(if m≤ld (R.getD i ZEx) then [(R.getD i ZEx).drop m] else []):=by
  rw [X0 hi,Zbk,List.filter_append,ZTf]
  congr 1
  split
  · rename_i q; rw [Z2d (by simpa using q)]; rfl
  · rename_i q; rw [Z2e (by simpa using q)]; rfl
theorem ZCw {a:List Int} {K:Bool→Prop} (hl:a.length≤1000000) (h1:(∀ j,vec a j=0)→K true) (h0:ld a < a.length→K false):Zhu a K:=by
  unfold Zhu Zel Zd8
  refine Ys (fun i (s:Unit)=>∀ j,j < i→vec a j=0) a.length ?_ ?_ _ _ _ (by omega) (fun j hj=>by omega)
  · intro i s next hi g hn
    show Zdn (a.getD i ZEx) _
    unfold Zdn
    rw [Zav]
    by_cases q:vec a i=0
    · rw [decide_eq_false (fun z=>z q)]
      refine Xc (by decide) (hn _ fun j hj=>?_)
      by_cases e:j=i
      · subst e; exact q
      · exact g j (by omega)
    · rw [decide_eq_true q]
      refine Yw rfl ?_
      show K (decide ((i:Int) < 0))
      rw [decide_eq_false (by omega)]
      exact h0 (by rw [Zdq g q]; exact hi)
  · intro s g
    show K (decide ((-1:Int) < 0))
    rw [decide_eq_true (by omega)]
    refine h1 fun j=>?_
    rcases ZF1 j a.length with q | q
    · exact g j q
    · exact J3 q
theorem ZCx {n:Int} {K:List Int→Prop} (h0:0≤n∧n≤1000000) (h:K []):Zhv n K:=by
  unfold Zhv
  have e:ZHd.wrap (n - (ZHd.wrap (0 - 0)))=n:=by rw [i64_in (0 - 0) (by omega),i64_in _ (by omega)]; omega
  rw [e]
  refine⟨by omega,?_⟩
  by_cases q:n > 0
  · exact Yw q ⟨⟨by omega,by unfold Z7; omega⟩,⟨by omega,by omega⟩,by rw [List.take_zero]; exact h⟩
  · exact Xc q h
theorem ZCy {a b:List Int} {K:List Int→Prop} (ha:a.length≤500000) (hb:b.length≤500000) (h:K (a++b)):Zhw [a,b] K:=by
  simp only [Zhw,Yb,ZHn,Z2f,List.getD_cons_zero,List.getD_cons_succ]
  rw [i64_in (0+(a.length:Int)) (by omega),i64_in (0+(a.length:Int)+(b.length:Int)) (by omega)]
  refine⟨by omega,by omega,ZCx (by omega) ⟨by unfold Z7; rw [Z2f]; omega,by unfold Z7; rw [Z2g]; omega,?_⟩⟩
  rw [Z2g]; exact h
theorem ZCz {m : Nat} {rows : List (List Int)} {K : List (List Int) → Prop} (hr : J4 m rows) (hm : m ≤ 100000) (hl : rows.length ≤ 100000) (h : ∀ L, IsKer m rows L → L.length ≤ rows.length → K L) : Zhx rows (m : Int) K := by
  unfold Zhx
  refine Ys (fun i (s:List (List Int))=>s=(Zam rows).take i) rows.length ?_ ?_ _ _ _ (by omega) rfl
  · intro i s next hi hs hn
    have ok:=hr _ (Y1 hi)
    have hlen:=ok.len
    have hkl:(Zam rows).length=rows.length:=by simp [Zam]
    have hsl:s.length=i:=by rw [hs,ZTn,hkl]; omega
    rw [ZY4]
    refine⟨⟨by omega,by omega⟩,⟨by omega,by rw [ZT2]; omega⟩,ZCy (by omega) (by rw [ZGc,ZT2]; omega) ⟨by unfold Z7; omega,hn _ ?_⟩⟩
    rw [X0 (by omega:i < (Zam rows).length),hs]
    congr 2
    simp [Zam,ZFf,hi,Za5]
  · intro s hs
    have hkl:(Zam rows).length=rows.length:=by simp [Zam]
    rw [ZFw (by omega)] at hs
    rw [hs]
    refine Zkm (Znf hr) (by omega) (by omega) fun R hR hRl=>?_
    have hRo:∀ a,a∈R→RowOk (m+rows.length) a∧vec a (ld a)=1:=hR.red.ok
    refine Ys (fun i (s:List (List Int))=>s=Zbk m (R.take i)) R.length ?_ ?_ _ _ _ (by omega) rfl
    · intro i s next hi hs hn
      have ok:=hRo _ (Y1 hi)
      have hsl:s.length≤R.length:=by rw [hs]; exact Nat.le_trans (Zr6 _ _) (by rw [ZTn]; omega)
      have hlen:=ok.1.len
      have hle:=ZCv (m:=m) hi
      have hld:=Zh9 ok
      rw [ZY4]
      refine⟨by omega,ZCw (by rw [ZTn]; omega) (fun hz=>?_) (fun hz=>?_)⟩
      · have q:m≤ld (R.getD i ZEx):=by
          rcases ZF1 (ld (R.getD i ZEx)) m with z | z
          · have:=hz (ld (R.getD i ZEx))
            rw [Zc2,if_pos z,ok.2] at this; omega
          · exact z
        rw [if_pos q] at hle
        refine Yw rfl ⟨by omega,by unfold Z7; omega,hn _ ?_⟩
        rw [hle,hs]
      · have q:¬ m≤ld (R.getD i ZEx):=by
          intro z
          have h1:=Zfq hz
          rw [Zc2] at h1
          rw [ZTn] at hz
          rw [if_pos (by omega)] at h1
          exact h1 (Jw (by omega))
        rw [if_neg q,ZUn] at hle
        exact Xc (by decide) (hn _ (by rw [hle]; exact hs))
    · intro s hs
      rw [Z14] at hs
      rw [hs]
      have:=Zr6 m R
      exact Zkm (Zr5 fun a ha=>(hRo a ha).1) (by omega) (by omega) fun L hL hLl=>h L ⟨R,hR,hL⟩ (by omega)
end Go.Proofs.YtaagfepgbofmlaaGreat
namespace Go.Proofs.YtaagfepgbofmlaaGreat
open Go Vc
theorem Zr7 {l:List A8} (hd:l.Nodup) {i j:Nat} (hi:i < l.length) (hj:j < l.length) (h:l[i]=l[j]):i=j:=by
  rcases Nat.lt_trichotomy i j with q | q | q
  · exact absurd h (ZE2.1 hd i j hi hj q)
  · exact q
  · exact absurd h.symm (ZE2.1 hd j i hj hi q)
def plc (l:List A8):Nat→List (A8×Int)
  | 0=>[]
  | k+1=>Yh (plc l k) (l.getD k ZEx) (k:Int)
theorem Zng (l:List A8):∀ k,((plc l k).map ZFz).Nodup
  | 0=>by simp [plc]
  | k+1=>Ziy (Zng l k)
theorem Zr8 {l:List A8} (hd:l.Nodup):∀ k,k≤l.length→∀ i,i < k→co (plc l k) (l.getD i ZEx)=i
  | 0,_,i,hi=>by omega
  | k + 1, hk, i, hi => by
    rw [plc,Zl6 (Zng l k)]
    by_cases e:i=k
    · subst e; rw [if_pos rfl]
    · rw [if_neg,Zr8 hd k (by omega) i (by omega)]
      intro h
      have h1:l.getD i ZEx=l[i]'(by omega):=by simp [ZFf,show i < l.length by omega]
      have h2:l.getD k ZEx=l[k]'(by omega):=by simp [ZFf,show k < l.length by omega]
      rw [h1,h2] at h
      exact e (Zr7 hd _ _ h)
theorem ZC0 (l:List A8):Zmy l (plc l l.length):=by
  unfold Zmy
  exact Ys (fun i (s:List (A8×Int))=>s=plc l i) l.length (fun i s next hi hs hn=>hn _ (by rw [hs]; rfl)) (fun s hs=>hs) _ _ _ (by omega) rfl
theorem ZC1 {m : List (A8 × Int)} (h : (m.map ZFz).Nodup) {p : A8 × Int} (hp : p ∈ m) : co m p.1 = p.2 := by
  induction m with
  | nil=>cases hp
  | cons q m ih =>
    simp only [List.map_cons,ZPa] at h
    rw [Zau]
    rcases ZEt.1 hp with rfl | hp
    · rw [if_pos rfl]
      have:co m p.1=0:=by
        rw [← Zcv h.2]
        cases hg:Y0 m p.1 with
        | none=>rfl
        | some v =>
          exfalso
          cases hf:J0 m p.1 0 with
          | none=>rw [(Zcl hf).1] at hg; cases hg
          | some z=>obtain ⟨j,u⟩:=z; exact h.1 (ZF9.2 ⟨_,List.mem_of_getElem? (Zcm hf).2.1,rfl⟩)
      omega
    · rw [if_neg (fun e:q.1=p.1=>h.1 (by rw [e]; exact ZF9.2 ⟨p,hp,rfl⟩)),ih h.2 hp]; omega
theorem ZC2 {m:List (A8×Int)} (h:(m.map ZFz).Nodup) {x:A8} (hx:x∉m.map ZFz):co m x=0:=by
  rw [← Zcv h]
  cases hf:J0 m x 0 with
  | none=>rw [(Zcl hf).1]; rfl
  | some z=>obtain ⟨j,u⟩:=z; exact absurd (ZF9.2 ⟨_,List.mem_of_getElem? (Zcm hf).2.1,rfl⟩) hx
theorem ZC3 {α:Type} {l l':List α} {p:α} {i:Nat} (h:i < l.length) (hp:l[i]=p) (hl:l'=l.eraseIdx i):∀ x,x∈l→x=p∨x∈l':=by
  subst hp hl
  intro x hx
  obtain ⟨j,hj,rfl⟩:=ZE6 hx
  by_cases e:j=i
  · subst e; exact .inl rfl
  · refine .inr (List.mem_eraseIdx_iff_getElem.2 ⟨j,hj,e,rfl⟩)
theorem ZC4 {l : List A8} {m : List (A8 × Int)} {K : List Int → Prop} (hl : l.length ≤ 1000000) (hd : l.Nodup) (hm : (m.map ZFz).Nodup) (hin : ∀ p, p ∈ m → p.1 ∈ l) (h : K (l.map (co m))) : Zfn ⟨l, plc l l.length⟩ m K := by
  unfold Zfn
  dsimp only
  refine⟨by omega,?_⟩
  rw [ZY4]
  refine Zgf (fun l' (s:List Int)=>s.length=l.length∧(∀ p,p∈l'→p∈m)∧∀ i,i < l.length→l.getD i ZEx∉l'.map ZFz→s.getD i 0=co m (l.getD i ZEx)) ?_ ?_ m _ ⟨by simp,fun _ h=>h,fun i hi hn=>?_⟩
  · rintro l1 p l2 s next ⟨j,hj,hp,hl2⟩ ⟨g1,g2,g3⟩ hn
    have hpm:p∈l1:=hp ▸ List.getElem_mem hj
    obtain ⟨i0,hi0,e0⟩:=ZE6 (hin p (g2 p hpm))
    have e1:l.getD i0 ZEx=p.1:=by rw [← e0]; simp [ZFf,hi0]
    have ec:(Y0 (plc l l.length) p.1).getD 0=(i0:Int):=by
      rw [Zcv (Zng _ _),← e1]; exact Zr8 hd l.length (ZEw _) i0 hi0
    rw [ec,ZY4]
    refine⟨by omega,hn _ ⟨by rw [ZGc]; exact g1,fun q hq=>g2 q (by rw [hl2] at hq; exact List.mem_of_mem_eraseIdx hq),fun i hi hno=>?_⟩⟩
    by_cases e:i=i0
    · subst e
      rw [e1,ZC1 hm (g2 p hpm)]
      simp [ZFf,show i < s.length by omega]
    · have e2:(s.set i0 p.2).getD i 0=s.getD i 0:=by
        simp only [ZFf]; rw [List.getElem?_set_ne (fun q=>e q.symm)]
      rw [e2]
      refine g3 i hi fun hmem=>?_
      obtain ⟨q,hq,eq⟩:=ZF9.1 hmem
      rcases ZC3 hj hp hl2 q hq with rfl | hq2
      · have h1:l.getD i ZEx=l[i]:=by simp [ZFf,hi]
        rw [h1,← e0] at eq
        exact e (Zr7 hd _ _ eq.symm)
      · exact hno (ZF9.2 ⟨q,hq2,eq⟩)
  · rintro s ⟨g1,_,g3⟩
    have:s=l.map (co m):=by
      refine List.ext_getElem (by simp [g1]) fun i h1 h2=>?_
      have hi:i < l.length:=by omega
      have:=g3 i hi (by simp)
      simp only [ZFf,List.getElem?_eq_getElem h1,List.getElem?_eq_getElem hi,Option.getD_some] at this
      rw [this]; simp
    rw [this]; exact h
  · rw [ZC2 hm hn]
    simp [ZFf,hi]
end Go.Proofs.YtaagfepgbofmlaaGreat
namespace Go.Proofs.YtaagfepgbofmlaaGreat
open Go Vc
structure IsSumOf (l:List A8) (row:List Int) (m:List (A8×Int)):Prop where
  ok:MapOk m
  cf:∀ j,j < l.length→co m (l.getD j ZEx)=vec row j
  ks:∀ p,p∈m→p.1∈l
end Go.Proofs.YtaagfepgbofmlaaGreat
namespace Go.Proofs.YtaagfepgbofmlaaGreat
open Go Vc
def fm:List A8→List Int→List Term
  | m::l,r::row=>if r=0 then fm l row else⟨m,r⟩::fm l row
  | _,_=>[]
theorem Zr9 (row:List Int):fm [] row=[]:=by cases row <;> rfl
theorem Znh {l : List A8} : ∀ {row : List Int} {t : Term}, t ∈ fm l row → t.mono ∈ l := by
  induction l with
  | nil=>intro row t h; rw [Zr9] at h; cases h
  | cons m l ih =>
    intro row t h
    cases row with
    | nil=>cases h
    | cons r row =>
      rw [fm] at h
      split at h
      · exact ZTd _ (ih h)
      · rcases ZEt.1 h with rfl | h
        · exact List.mem_cons_self
        · exact ZTd _ (ih h)
def Zsa (row:List Int):Prop:=∀ x,x∈row→0≤x∧x≤10006
theorem ZC5 {n:Nat} {row:List Int} (h:RowOk n row):Zsa row:=fun x hx=>by
  obtain ⟨i,hi,rfl⟩:=ZE6 hx
  have:=h.rng i
  rwa [Zcd hi] at this
def Srt (l:List A8):Prop:=l.Pairwise (fun a b=>pcmp a b < 0)
theorem Srt.nd {l:List A8} (h:Srt l):l.Nodup:=h.imp fun q=>Zbx q
theorem ZC6 {l : List A8} (hs : Srt l) : ∀ {row : List Int}, Zsa row → Canon (fm l row) := by
  induction l with
  | nil=>intro row _; rw [Zr9]; exact Canon.nil
  | cons m l ih =>
    intro row hr
    cases row with
    | nil=>exact Canon.nil
    | cons r row =>
      obtain ⟨s1,s2⟩:=List.pairwise_cons.1 hs
      have h1:=ih s2 (fun x hx=>hr x (ZTd _ hx))
      have h0:=hr r List.mem_cons_self
      rw [fm]
      split
      · exact h1
      · rename_i q
        refine⟨List.pairwise_cons.2 ⟨fun t ht=>s1 _ (Znh ht),h1.1⟩,fun t ht=>?_⟩
        rcases ZEt.1 ht with rfl | ht
        · dsimp only; omega
        · exact h1.2 t ht
theorem ZC7 {l : List A8} : ∀ {row : List Int}, l.Nodup → row.length = l.length → ∀ j, j < l.length → coT (fm l row) (l.getD j ZEx) = vec row j := by
  induction l with
  | nil=>intro row _ _ j hj; simp at hj
  | cons m l ih =>
    intro row hd hl j hj
    cases row with
    | nil=>simp at hl
    | cons r row =>
      obtain ⟨d1,d2⟩:=ZPa.1 hd
      have h0:coT (fm l row) m=0:=Zcu fun t ht e=>d1 (e ▸ Znh ht)
      cases j with
      | zero =>
        show coT (fm (m::l) (r::row)) m=r
        rw [fm]
        split
        · rename_i q; rw [h0,q]
        · rw [Zcs,if_pos rfl,h0,ZTi]
      | succ j =>
        have hj':j < l.length:=by simpa using hj
        have e1:(m::l).getD (j+1) ZEx=l.getD j ZEx:=by simp [ZFf]
        have e2:=ih d2 (by simpa using hl) j hj'
        rw [e1,Zm5,← e2,fm]
        split
        · rfl
        · rw [Zcs,if_neg (fun e:m=l.getD j ZEx=>d1 (e ▸ Y1 hj')),Int.zero_add]
theorem ZC8 {l:List A8} {row:List Int} {x:A8} (h:x∉l):coT (fm l row) x=0:=Zcu fun t ht e=>h (e ▸ Znh ht)
theorem Zsb {α:Type} [Inhabited α] {l:List α} {q:Nat} (hq:q < l.length):l.getD q ZEx=l[q]:=by simp [ZFf,hq]
theorem Zsc {α:Type} [Inhabited α] {l:List α} {x:α} (h:x∈l):∃ i,i < l.length∧l.getD i ZEx=x:=by
  obtain ⟨i,hi,rfl⟩:=ZE6 h
  exact⟨i,hi,by simp [ZFf,hi]⟩
def dco (a:Alg) (f:List Term) (x:A8):Int:=tot (fun t=>dT a.degrees (imgsT a) t.mono t.factor x) f % 10007
theorem ZC9 (a:Alg) (f:List Term) (x:A8):0≤dco a f x∧dco a f x≤10006:=by unfold dco; omega
theorem ZDa {a:Alg} {f out:List Term} (h:IsD a.degrees (imgsT a) f out):coT out=dco a f:=funext fun x=>by
  have h1:=h.cf x
  have h2:=h.can.range x
  unfold dco; omega
theorem ZDb {a:Alg} {f:List Term} {s out:List (A8×Int)} (hs:IsMap f s) (hc:Canon f) (h:IsDM a.degrees (imgsT a) s out):co out=dco a f:=funext fun x=>by
  have h1:=h.cf x
  have h2:=h.ok.range x
  rw [Zjr hs hc (fun b n=>dT a.degrees (imgsT a) b n x) (fun b=>Zmf a.degrees (imgsT a) b x)] at h1
  unfold dco; omega
theorem Zkn {a:Alg} (ok:OkAlg a) (hf:X6 a) {n:Int} {y m:A8} (hm:m∈mons a.degrees n) (hn:n≤38) (h:DMono a.degrees (imgsT a) y m):y∈mons a.degrees (n+1):=by
  have hd:=ok.deg
  have h8:=hd.1
  have ha:=ok.algF hf
  have hl:=ok.len
  obtain ⟨o1,o2,o3⟩:=Zkf hd hm
  have smallI:∀ j u,u∈(imgsT a).getD j ZEx→OkMono a.degrees u.mono∧∀ i,i < 8→0≤u.mono.get i∧u.mono.get i≤20:=fun j u hu=>by
    by_cases hj:j < a.images.length
    · rw [Zdk a hj] at hu
      have:=(ok.frm j hj).mono hu
      exact⟨this,Zfk (Zdi this) ((ha.fit j hj).pos u hu)⟩
    · simp [imgsT,ZFf,hj] at hu; cases hu
  have homI:∀ j u,u∈(imgsT a).getD j ZEx→j < a.degrees.length→wtU a.degrees u.mono a.degrees.length=a.degrees.getD j ZEx+1:=fun j u hu hj=>by
    rw [Zdk a (by omega)] at hu
    obtain ⟨q,hq,rfl⟩:=ZE6 hu
    have:=ok.hom j (by omega) q hq
    rwa [Zsb hq] at this
  obtain ⟨w1,w2⟩:=ZCa h8 o1 o3 smallI h
  obtain ⟨j,u,hj,_,hu,ew⟩:=ZB9 h8 o1 h
  rw [homI j u hu hj,o2] at ew
  exact ZCe hd w1 w2 (by rw [ew]; omega) (by omega)
structure InL (a:Alg) (n:Int) (f:List Term):Prop where
  can:Canon f
  mem:∀ t,t∈f→t.mono∈mons a.degrees n
theorem InL.len {a:Alg} {n:Int} {f:List Term} (h:InL a n f):f.length≤(mons a.degrees n).length:=by
  have hn:(f.map Term.mono).Nodup:=ZUc.2 (h.can.1.imp fun q=>Zbx q)
  have:=hn.length_le_of_subset (l₂:=mons a.degrees n) (fun x hx=>by obtain ⟨t,ht,rfl⟩:=ZF9.1 hx; exact h.mem t ht)
  rwa [Z10] at this
theorem InL.form {a:Alg} {n:Int} {f:List Term} (hd:OkDeg a.degrees) (hf:Fits a.degrees n) (h:InL a n f):OkForm a.degrees f∧FitT f :=
  ⟨Zxx h.can (by have:=h.len; unfold Fits at hf; omega) fun t ht=>(Zkf hd (h.mem t ht)).1,fun t ht=>ZB7 (Zkf hd (h.mem t ht)).2.2⟩
theorem Zsd {a:Alg} {n:Int} {m:A8} (h:m∈mons a.degrees n):InL a n [⟨m,1⟩]:=⟨Zml m,fun t ht=>by obtain rfl:=List.mem_singleton.1 ht; exact h⟩
def Zan (a:Alg) (n:Int) (f:List Term):List Int:=(mons a.degrees (n+1)).map (dco a f)
theorem Zni (a:Alg) (n:Int) (f:List Term):RowOk (mons a.degrees (n+1)).length (Zan a n f):=by
  refine⟨Z10 _,fun j=>?_⟩
  by_cases hj:j < (mons a.degrees (n+1)).length
  · have:vec (Zan a n f) j=dco a f ((mons a.degrees (n+1)).getD j ZEx):=by simp [vec,Zan,ZFf,hj]
    rw [this]; exact ZC9 ..
  · rw [J3 (by simp [Zan]; omega)]; omega
theorem ZDc {a:Alg} {n:Int} {f:List Term} {K:List Int→Prop} (ok:OkAlg a) (hf:X6 a) (hn:0≤n∧n≤38) (f1:Fits a.degrees n) (f2:Fits a.degrees (n+1)) (h:InL a n f) (hK:K (Zan a n f)) :
    Zde a ⟨f⟩ (fun r=>Zep r (mons a.degrees (n+1)) K):=by
  obtain ⟨o1,o2⟩:=h.form ok.deg f1
  refine Zqh (ok.algF hf) o1 o2 fun out hD _=>?_
  refine ZCb hD.can (Zkd ok.deg.1 _) (fun t ht=>?_) (by unfold Fits at f2; omega) ?_
  · obtain ⟨s,hs,hm⟩:=hD.mo t ht
    exact Zkn ok hf (h.mem s hs) hn.2 hm
  · rw [ZDa hD]; exact hK
theorem ZDd {a:Alg} {n:Int} {f:List Term} {s:List (A8×Int)} {K:List Int→Prop} (ok:OkAlg a) (hf:X6 a) (hn:0≤n∧n≤38) (f1:Fits a.degrees n) (f2:Fits a.degrees (n+1)) (h:InL a n f) (hs:IsMap f s) (hK:K (Zan a n f)) :
    Zd9 a s (fun r=>Zfn ⟨mons a.degrees (n+1),plc (mons a.degrees (n+1)) (mons a.degrees (n+1)).length⟩ r K):=by
  obtain ⟨o1,o2⟩:=h.form ok.deg f1
  refine m_d (ok.algF hf) hs o1 o2 fun out hD=>?_
  refine ZC4 (by unfold Fits at f2; omega) (Srt.nd (Zkd ok.deg.1 _)) hD.ok.1 (fun p hp=>?_) ?_
  · obtain ⟨t,ht,hm⟩:=hD.mo p hp
    obtain ⟨u,hu,eu⟩:=hs.ks t ht
    exact Zkn ok hf (eu ▸ h.mem u hu) hn.2 hm
  · rw [ZDb hs h.can hD]; exact hK
end Go.Proofs.YtaagfepgbofmlaaGreat
namespace Vc
open Go
def par (ds:List Int) (j:Nat):Int:=ds.getD j ZEx % 2
theorem Zfv (ds:List Int) (j:Nat):par ds j=0∨par ds j=1:=by unfold par; omega
def eA (j:Nat):A8:=A8.mkf fun i=>if i=j then 1 else 0
theorem Zce {j i:Nat} (hi:i < 8):(eA j).get i=if i=j then 1 else 0:=by rw [eA,ZYs _ hi]
def Xq (ds:List Int) (m:A8):Nat→Int
  | 0=>0
  | j+1=>Xq ds m j+par ds j * m.get j
theorem Zse (ds:List Int) (a b:A8):∀ j,Xq ds (a.add b) j=Xq ds a j+Xq ds b j
  | 0=>rfl
  | j+1=>by simp only [Xq,Zse ds a b j,ZYr,Z11]; omega
theorem Zsf (ds:List Int) (k:Nat):∀ j,j≤8→Xq ds (eA k) j=if k < j then par ds k else 0
  | 0,_=>by simp [Xq]
  | j + 1, h => by
    simp only [Xq,Zsf ds k j (by omega),Zce (show j < 8 by omega)]
    by_cases e:j=k
    · subst e; simp
    · rw [if_neg e]; split <;> split <;> omega
def xs (ds:List Int) (j:Nat) (m:A8):Int:=if par ds j=1∧0 < m.get j then 0 else sg (par ds j * Xq ds m j)
def X (ds:List Int) (j:Nat) (F:A8→Int):A8→Int:=fun m=>xs ds j m * F (m.add (eA j))
theorem ZDe (a b c:A8):(a.add b).add c=(a.add c).add b:=ZPf fun i hi=>by simp only [ZYr]; omega
theorem Zsg (a:Int):sg a * sg a=1:=by rcases Zi2 a with h | h <;> rw [h] <;> rfl
theorem Zsh {ds:List Int} {j k:Nat} {m:A8} (hj:j < 8) (hk:k < 8) (h:j≠k):xs ds k (m.add (eA j))=if j < k then sg (par ds k * par ds j) * xs ds k m else xs ds k m:=by
  have g:(m.add (eA j)).get k=m.get k:=by rw [ZYr,Zce hk,if_neg (Ne.symm h)]; omega
  unfold xs
  rw [g,Zse,Zsf _ _ _ (by omega)]
  by_cases c:j < k
  · simp only [c,if_true]
    by_cases d:par ds k=1∧0 < m.get k
    · rw [if_pos d,if_pos d,ZT0]
    · rw [if_neg d,if_neg d,Z11,Za1,ZYq]
  · simp only [c,if_false,ZTi]
theorem ZDf {ds:List Int} {j:Nat} {m:A8} (hj:j < 8) (hm:0≤m.get j) (ho:par ds j=1):xs ds j (m.add (eA j))=0:=by
  unfold xs
  rw [ZYr,Zce hj,if_pos rfl,if_pos ⟨ho,by omega⟩]
def eps (ds:List Int) (j k:Nat):Int:=sg (par ds j * par ds k)
theorem Zsi (ds:List Int) (j k:Nat):eps ds j k=eps ds k j:=by unfold eps; rw [ZYq]
theorem Znj (ds:List Int) (j k:Nat):eps ds j k * eps ds j k=1:=Zsg _
def Pos8 (m:A8):Prop:=∀ i,i < 8→0≤m.get i
theorem Pos8.e {m:A8} (h:Pos8 m) (j:Nat):Pos8 (m.add (eA j)):=fun i hi=>by
  rw [ZYr,Zce hi]; have:=h i hi; split <;> omega
theorem ZDg {ds : List Int} {j k : Nat} {m : A8} (hj : j < 8) (hk : k < 8) (hm : Pos8 m) : xs ds j m * xs ds k (m.add (eA j)) = eps ds j k * (xs ds k m * xs ds j (m.add (eA k))) := by
  by_cases e:j=k
  · subst e
    rcases Zfv ds j with o | o
    · unfold eps; rw [o]; simp [sg]
    · rw [ZDf hj (hm j hj) o]; simp
  · rw [Zsh hj hk e,Zsh hk hj (fun z=>e z.symm)]
    rcases Nat.lt_or_gt_of_ne e with c | c
    · rw [if_pos c,if_neg (by omega)]
      unfold eps
      rw [ZYq (par ds k)]
      simp only [ZYq,Z12,ZYt]
    · rw [if_neg (by omega),if_pos c]
      have:=Znj ds j k
      have e2:sg (par ds j * par ds k)=eps ds j k:=rfl
      rw [e2]
      have:eps ds j k * (xs ds k m * (eps ds j k * xs ds j m))=(eps ds j k * eps ds j k) * (xs ds j m * xs ds k m):=by
        simp only [ZYq,Z12,ZYt]
      rw [this,Znj,Z13]
theorem Znk {ds:List Int} {j k:Nat} (hj:j < 8) (hk:k < 8) (F:A8→Int) {m:A8} (hm:Pos8 m):X ds j (X ds k F) m=eps ds j k * X ds k (X ds j F) m:=by
  unfold X
  rw [ZDe m (eA k) (eA j),← ZYt,ZDg hj hk hm]
  simp only [ZYt]
def Xw (ds:List Int):List Nat→(A8→Int)→A8→Int
  | [],F=>F
  | j::w,F=>Xw ds w (X ds j F)
def par_w (ds:List Int):List Nat→Int
  | []=>0
  | j::w=>par ds j+par_w ds w
structure GdM (ds:List Int) (m:A8):Prop where
  pos:Pos8 m
  one:∀ i,i < 8→par ds i=1→m.get i≤1
theorem GdM.e {ds:List Int} {m:A8} (h:GdM ds m) {j:Nat} (hx:xs ds j m≠0):GdM ds (m.add (eA j)):=⟨h.pos.e j,fun i hi ho=>by
  rw [ZYr,Zce hi]
  split
  · rename_i e
    subst e
    have:¬ (par ds i=1∧0 < m.get i):=fun z=>hx (by rw [xs,if_pos z])
    have:=fun z=>this ⟨ho,z⟩
    omega
  · have:=h.one i hi ho; omega⟩
theorem Zko (ds:List Int):GdM ds ZMs:=⟨fun i hi=>by rw [ZYy]; omega,fun i hi _=>by rw [ZYy]; omega⟩
theorem Zsj {ds:List Int} {j:Nat} {F G:A8→Int} (h:∀ m,GdM ds m→F m=G m) {m:A8} (hm:GdM ds m):X ds j F m=X ds j G m:=by
  unfold X
  by_cases z:xs ds j m=0
  · rw [z,Z16,Z16]
  · rw [h _ (hm.e z)]
theorem Zbl {ds:List Int}:∀ {w:List Nat} {F G:A8→Int}, (∀ m,GdM ds m→F m=G m)→∀ {m:A8}, GdM ds m→Xw ds w F m=Xw ds w G m
  | [],_,_,h,_,hm=>h _ hm
  | j::w,_,_,h,_,hm=>Zbl (w:=w) (fun m hm=>Zsj h hm) hm
theorem Zsk (ds:List Int) (j:Nat) (c:Int) (F:A8→Int):X ds j (fun m=>c * F m)=fun m=>c * X ds j F m:=by
  funext m; unfold X; exact Z12 _ _ _
theorem Zbm (ds:List Int) (c:Int):∀ (w:List Nat) (F:A8→Int),Xw ds w (fun m=>c * F m)=fun m=>c * Xw ds w F m
  | [],F=>rfl
  | j::w,F=>by simp only [Xw]; rw [Zsk,Zbm ds c w]
theorem Zsl (ds:List Int) (j:Nat) (F G:A8→Int):X ds j (fun m=>F m+G m)=fun m=>X ds j F m+X ds j G m:=by
  funext m; unfold X; exact Z11 _ _ _
theorem Zer (ds:List Int):∀ (w:List Nat) (F G:A8→Int),Xw ds w (fun m=>F m+G m)=fun m=>Xw ds w F m+Xw ds w G m
  | [],F,G=>rfl
  | j::w,F,G=>by simp only [Xw]; rw [Zsl,Zer ds w]
theorem Zfw (ds:List Int):∀ (v w:List Nat) (F:A8→Int),Xw ds (v++w) F=Xw ds w (Xw ds v F)
  | [],w,F=>rfl
  | j::v,w,F=>by simp only [Z17,Xw]; rw [Zfw ds v w]
theorem Zsm {ds:List Int} {j:Nat} (hj:j < 8):∀ {w:List Nat}, (∀ k,k∈w→k < 8)→∀ (F:A8→Int) {m:A8}, GdM ds m→X ds j (Xw ds w F) m=sg (par ds j * par_w ds w) * Xw ds w (X ds j F) m
  | [],_,F,m,hm=>by simp [Xw,par_w,sg]
  | k :: w, hw, F, m, hm => by
    simp only [Xw,par_w]
    rw [Zsm hj (fun i hi=>hw i (by simp [hi])) _ hm,Z11,Za1]
    have hk:=hw k (by simp)
    have:Xw ds w (X ds j (X ds k F)) m=eps ds j k * Xw ds w (X ds k (X ds j F)) m:=by
      rw [Zbl (fun m hm=>Znk hj hk F hm.pos) hm,Zbm]
    rw [this]
    unfold eps
    rw [← ZYt,ZYq (sg (par ds j * par_w ds w))]
end Vc
namespace Vc
open Go
def wdF (b:A8):Nat→Nat→List Nat
  | 0,_=>[]
  | r+1,i=>ZEs (b.get i).toNat i++wdF b r (i+1)
def wordA (b:A8):List Nat:=wdF b 8 0
theorem Znl (b:A8):∀ (r s i:Nat),wdF b (r+s) i=wdF b r i++wdF b s (i+r)
  | 0,s,i=>by simp [wdF]
  | r + 1, s, i => by
    rw [show r+1+s=(r+s)+1 by omega]
    simp only [wdF]
    rw [Znl b r s (i+1),List.append_assoc,show i+1+r=i+(r+1) by omega]
theorem Znm (b:A8):∀ (r i:Nat) (k:Nat),k∈wdF b r i→k < i+r
  | 0,i,k,h=>by simp [wdF] at h
  | r + 1, i, k, h => by
    simp only [wdF,ZE4] at h
    rcases h with h | h
    · have:=(List.mem_replicate.1 h).2; omega
    · have:=Znm b r (i+1) k h; omega
theorem Zfx {b:A8} {k:Nat} (h:k∈wordA b):k < 8:=by have:=Znm b 8 0 k h; omega
theorem Zsn (ds:List Int):∀ v w:List Nat,par_w ds (v++w)=par_w ds v+par_w ds w
  | [],w=>by simp [par_w]
  | j::v,w=>by simp only [Z17,par_w,Zsn ds v w]; omega
theorem Znn (ds:List Int) (i:Nat):∀ n:Nat,par_w ds (ZEs n i)=par ds i * n
  | 0=>by simp [par_w]
  | n+1=>by rw [ZG5]; simp only [par_w]; rw [Znn ds i n,Int.natCast_succ,Z11]; omega
theorem Zso (b:A8) (j:Nat):wdF b (j+1) 0=wdF b j 0++ZEs (b.get j).toNat j:=by
  rw [Znl]; simp [wdF]
theorem Zno {ds:List Int} {b:A8} (hb:Pos8 b):∀ j,j≤8→par_w ds (wdF b j 0)=Xq ds b j
  | 0,_=>rfl
  | j + 1, h => by
    rw [Zso,Zsn,Zno hb j (by omega),Znn]
    have:=hb j (by omega)
    rw [ZPc this]; rfl
def Ph (ds:List Int) (imgs:List (List Term)) (i:Nat) (F:A8→Int):A8→Int:=fun m=>tot (fun u=>u.factor * Xw ds (wordA u.mono) F m) (imgs.getD i ZEx)
structure ImgOk (ds:List Int) (imgs:List (List Term)):Prop where
  odd:∀ i,i < 8→∀ u,u∈imgs.getD i ZEx→(par_w ds (wordA u.mono) - par ds i - 1) % 2=0
section
variable {ds:List Int} {imgs:List (List Term)}
theorem ZDh (i:Nat) (c:Int) (F:A8→Int):Ph ds imgs i (fun m=>c * F m)=fun m=>c * Ph ds imgs i F m:=by
  funext m
  unfold Ph
  rw [← Zcr]
  exact Jm fun u _=>by rw [Zbm]; exact Z12 _ _ _
theorem ZDi (i:Nat) (F G:A8→Int):Ph ds imgs i (fun m=>F m+G m)=fun m=>Ph ds imgs i F m+Ph ds imgs i G m:=by
  funext m
  unfold Ph
  rw [← Zhc]
  exact Jm fun u _=>by rw [Zer]; exact Z11 _ _ _
theorem ZDj (i:Nat) {F G:A8→Int} (h:∀ m,GdM ds m→F m=G m) {m:A8} (hm:GdM ds m):Ph ds imgs i F m=Ph ds imgs i G m :=
  Jm fun u _=>by rw [Zbl h hm]
theorem Znp {a b:Int} (h:(a - b) % 2=0):sg a=sg b:=by unfold sg; split <;> split <;> omega
theorem Znq (ok:ImgOk ds imgs) {i j:Nat} (hi:i < 8) (hj:j < 8) (F:A8→Int) {m:A8} (hm:GdM ds m):X ds j (Ph ds imgs i F) m=eps ds j i * sg (par ds j) * Ph ds imgs i (X ds j F) m:=by
  have e1:X ds j (Ph ds imgs i F) m=tot (fun u=>u.factor * X ds j (Xw ds (wordA u.mono) F) m) (imgs.getD i ZEx):=by
    unfold X Ph
    rw [← Zcr]
    exact Jm fun u _=>Z12 _ _ _
  rw [e1]
  unfold Ph
  rw [← Zcr]
  refine Jm fun u hu=>?_
  rw [Zsm hj (fun k hk=>Zfx hk) F hm]
  have:sg (par ds j * par_w ds (wordA u.mono))=eps ds j i * sg (par ds j):=by
    unfold eps
    rw [← Za1]
    have h:=ok.odd i hi u hu
    rcases Zfv ds j with o | o
    · rw [o]; simp
    · rw [o]; exact Znp (by omega)
  rw [this]; exact Z12 _ _ _
def Dw (ds:List Int) (imgs:List (List Term)):List Nat→(A8→Int)→A8→Int
  | [],_,_=>0
  | j::w,F,m=>Xw ds w (Ph ds imgs j F) m+sg (par ds j) * Dw ds imgs w (X ds j F) m
theorem Zkp:∀ {w:List Nat} {F G:A8→Int}, (∀ m,GdM ds m→F m=G m)→∀ {m:A8}, GdM ds m→Dw ds imgs w F m=Dw ds imgs w G m
  | [],_,_,_,_,_=>rfl
  | j :: w, _, _, h, _, hm => by
    simp only [Dw]
    rw [Zbl (fun m hm=>ZDj j h hm) hm,Zkp (w:=w) (fun m hm=>Zsj h hm) hm]
theorem Zkq (c:Int):∀ (w:List Nat) (F:A8→Int) (m:A8),Dw ds imgs w (fun m=>c * F m) m=c * Dw ds imgs w F m
  | [],F,m=>by simp [Dw]
  | j :: w, F, m => by
    simp only [Dw]
    rw [ZDh,Zsk,Zbm,Zkq c w,Z11]
    congr 1; exact Z12 _ _ _
theorem Znr:∀ (w:List Nat) (F G:A8→Int) (m:A8),Dw ds imgs w (fun m=>F m+G m) m=Dw ds imgs w F m+Dw ds imgs w G m
  | [],F,G,m=>by simp [Dw]
  | j :: w, F, G, m => by
    simp only [Dw]
    rw [ZDi,Zsl,Zer,Znr w,Z11]
    dsimp only
    omega
structure Rel (ds:List Int) (imgs:List (List Term)) (c:Int) (w w':List Nat):Prop where
  x:∀ F m,GdM ds m→Xw ds w F m=c * Xw ds w' F m
  d:∀ F m,GdM ds m→Dw ds imgs w F m=c * Dw ds imgs w' F m
theorem Rel.refl (w:List Nat):Rel ds imgs 1 w w:=⟨fun F m _=>by rw [Z13],fun F m _=>by rw [Z13]⟩
theorem Rel.trans {c d:Int} {u v w:List Nat} (h:Rel ds imgs c u v) (k:Rel ds imgs d v w):Rel ds imgs (c * d) u w :=
  ⟨fun F m hm=>by rw [h.x F m hm,k.x F m hm,ZYt],fun F m hm=>by rw [h.d F m hm,k.d F m hm,ZYt]⟩
theorem Rel.cons {c:Int} {w w':List Nat} (h:Rel ds imgs c w w') (j:Nat):Rel ds imgs c (j::w) (j::w') :=
  ⟨fun F m hm=>h.x _ m hm,fun F m hm=>by
    simp only [Dw]
    rw [h.x _ m hm,h.d _ m hm,Z11]
    congr 1; exact Z12 _ _ _⟩
theorem Rel.swap (ok:ImgOk ds imgs) {a b:Nat} (ha:a < 8) (hb:b < 8) (q:List Nat):Rel ds imgs (eps ds a b) (a::b::q) (b::a::q):=by
  refine⟨fun F m hm=>?_,fun F m hm=>?_⟩
  · simp only [Xw]
    rw [Zbl (fun m hm=>Znk hb ha F hm.pos) hm,Zbm,Zsi]
  · simp only [Dw,Xw]
    rw [Zbl (fun m hm=>Znq ok ha hb F hm) hm,Zbm,Zbl (G:=fun m=>eps ds a b * sg (par ds a) * Ph ds imgs b (X ds a F) m) (fun m hm=>Znq ok hb ha F hm) hm,Zbm,
      Zkp (F:=X ds b (X ds a F)) (fun m hm=>Znk hb ha F hm.pos) hm,Zkq,Zsi ds b a]
    dsimp only
    generalize Xw ds q (Ph ds imgs a (X ds b F)) m=p1
    generalize Xw ds q (Ph ds imgs b (X ds a F)) m=p2
    generalize Dw ds imgs q (X ds a (X ds b F)) m=p3
    have e:=Znj ds a b
    generalize eps ds a b=e1 at *
    generalize sg (par ds a)=s1
    generalize sg (par ds b)=s2
    have h1:e1 * (e1 * s1 * p2)=s1 * p2:=by rw [← ZYt,← ZYt,e,Z13]
    simp only [Z11] at *
    rw [h1]
    simp only [ZYq,Z12,ZYt]
    omega
theorem Rel.past (ok:ImgOk ds imgs) {j:Nat} (hj:j < 8):∀ (p q:List Nat),(∀ k,k∈p→k < 8)→Rel ds imgs (sg (par ds j * par_w ds p)) (j::(p++q)) (p++j::q)
  | [],q,_=>by simpa [par_w,sg] using Rel.refl (j::q)
  | k :: p, q, h => by
    have h1:=Rel.swap ok hj (h k (by simp)) (p++q)
    have h2:=(Rel.past ok hj p q fun i hi=>h i (by simp [hi])).cons k
    have:=h1.trans h2
    rw [eps,← Za1] at this
    simp only [par_w,Z11,Z17]
    exact this
theorem Rel.pre {c:Int} {w w':List Nat} (h:Rel ds imgs c w w'):∀ p:List Nat,Rel ds imgs c (p++w) (p++w')
  | []=>h
  | k::p=>(Rel.pre h p).cons k
theorem Rel.twice (ok:ImgOk ds imgs) {j:Nat} (hj:j < 8) (ho:par ds j=1) (p q w:List Nat):Rel ds imgs 0 (p++j::j::q) w:=by
  have h:=(Rel.swap ok hj hj q).pre p
  have e:eps ds j j=-1:=by unfold eps; rw [ho]; decide
  rw [e] at h
  exact⟨fun F m hm=>by have:=h.x F m hm; omega,fun F m hm=>by have:=h.d F m hm; omega⟩
end
end Vc
namespace Vc
open Go
theorem Zkr {b c:A8}:∀ (r i:Nat),(∀ k,i≤k→k < i+r→b.get k=c.get k)→wdF b r i=wdF c r i
  | 0,_,_=>rfl
  | r+1,i,h=>by simp only [wdF]; rw [h i (by omega) (by omega),Zkr r (i+1) fun k h1 h2=>h k (by omega) (by omega)]
theorem Zns (b:A8) {j:Nat} (hj:j < 8):wordA b=wdF b j 0++(ZEs (b.get j).toNat j++wdF b (7 - j) (j+1)):=by
  have:wordA b=wdF b (j+((7 - j)+1)) 0:=by rw [wordA]; congr 1; omega
  rw [this,Znl,ZG0]; rfl
theorem ZDk:wordA ZMs=[]:=by
  have:∀ r i,i+r≤8→wdF ZMs r i=[]:=by
    intro r
    induction r with
    | zero=>intro i _; rfl
    | succ r ih=>intro i h; simp only [wdF]; rw [ih (i+1) (by omega),ZYy]; rfl
  exact this 8 0 (by omega)
section
variable {ds:List Int} {imgs:List (List Term)}
theorem Rel.sort (ok:ImgOk ds imgs) {b:A8} (hb:GdM ds b) {j:Nat} (hj:j < 8):Rel ds imgs (xs ds j b) (j::wordA b) (wordA (b.add (eA j))):=by
  have hlo:wdF (b.add (eA j)) j 0=wdF b j 0:=Zkr j 0 fun k _ h=>by rw [ZYr,Zce (by omega),if_neg (by omega)]; omega
  have hhi:wdF (b.add (eA j)) (7 - j) (j+1)=wdF b (7 - j) (j+1):=Zkr _ _ fun k h1 h2=>by rw [ZYr,Zce (by omega),if_neg (by omega)]; omega
  have hn:((b.add (eA j)).get j).toNat=(b.get j).toNat+1:=by rw [ZYr,Zce hj,if_pos rfl]; have:=hb.pos j hj; omega
  have h1:=Rel.past ok hj (wdF b j 0) (ZEs (b.get j).toNat j++wdF b (7 - j) (j+1)) fun k hk=>by have:=Znm b j 0 k hk; omega
  rw [← Zns b hj,Zno hb.pos j (by omega)] at h1
  rw [Zns (b.add (eA j)) hj,hlo,hhi,hn,ZG5,Z17]
  unfold xs
  by_cases d:par ds j=1∧0 < b.get j
  · rw [if_pos d]
    have e1:(b.get j).toNat=1:=by have:=hb.one j hj d.1; omega
    rw [e1] at h1 ⊢
    have h2:=h1.trans (Rel.twice ok hj d.1 (wdF b j 0) (wdF b (7 - j) (j+1)) (wdF b j 0++j::(ZEs 1 j++wdF b (7 - j) (j+1))))
    rwa [ZT0] at h2
  · rw [if_neg d]; exact h1
theorem Zsp {i:Nat} (hi:i < 8):∀ (n:Nat) (F:A8→Int) (m c:A8),(∀ k,k < i→m.get k=0)→m.get i=0→(par ds i=1→n≤1)→(∀ k,k < 8→c.get k=if k=i then(n:Int) else m.get k)→Xw ds (ZEs n i) F m=F c
  | 0, F, m, c, _, h0, _, hc => by
    have:c=m:=ZPf fun k hk=>by rw [hc k hk]; split <;> simp_all
    rw [this]; rfl
  | n + 1, F, m, c, h, h0, ho, hc => by
    rw [ZG5]
    simp only [Xw]
    let d:A8:=A8.mkf fun k=>if k=i then(n:Int) else m.get k
    have hd:∀ k,k < 8→d.get k=if k=i then(n:Int) else m.get k:=fun k hk=>ZYs _ hk
    rw [Zsp hi n (X ds i F) m d h h0 (fun o=>by have:=ho o; omega) hd]
    have hz:∀ j,j≤i→Xq ds d j=0:=by
      intro j
      induction j with
      | zero=>intro _; rfl
      | succ j ih=>intro hj; simp only [Xq]; rw [ih (by omega),hd j (by omega),if_neg (by omega),h j (by omega)]; simp
    have hx:xs ds i d=1:=by
      unfold xs
      rw [hd i hi,if_pos rfl,hz i (ZEw _),if_neg (fun z=>by have:=ho z.1; have:=z.2; omega)]
      simp [sg]
    unfold X
    rw [hx,Z13]
    congr 1
    exact ZPf fun k hk=>by
      rw [ZYr,hd k hk,Zce hk,hc k hk]
      split
      · omega
      · omega
theorem Znt {b:A8} (hb:GdM ds b):∀ (r i:Nat),i+r=8→∀ (F:A8→Int) (c:A8),(∀ k,k < 8→c.get k=if i≤k then b.get k else 0)→Xw ds (wdF b r i) F ZMs=F c
  | 0, i, h, F, c, hc => by
    have:c=ZMs:=ZPf fun k hk=>by rw [hc k hk,if_neg (by omega),ZYy]
    rw [this]; rfl
  | r + 1, i, h, F, c, hc => by
    simp only [wdF]
    rw [Zfw]
    let d:A8:=A8.mkf fun k=>if i+1≤k then b.get k else 0
    have hd:∀ k,k < 8→d.get k=if i+1≤k then b.get k else 0:=fun k hk=>ZYs _ hk
    rw [Znt hb r (i+1) (by omega) _ d hd]
    refine Zsp (by omega) _ _ _ _ (fun k hk=>by rw [hd k (by omega),if_neg (by omega)]) (by rw [hd i (by omega),if_neg (by omega)]) (fun o=>by have:=hb.one i (by omega) o; omega) fun k hk=>?_
    rw [hc k hk,hd k hk]
    have:=hb.pos i (by omega)
    by_cases e:k=i
    · subst e; rw [if_pos (ZEw _),if_pos rfl]; omega
    · rw [if_neg e]
      by_cases g:i≤k
      · rw [if_pos g,if_pos (by omega)]
      · rw [if_neg g,if_neg (by omega)]
theorem ZDl {b:A8} (hb:GdM ds b) (F:A8→Int):Xw ds (wordA b) F ZMs=F b:=Znt hb 8 0 rfl F b fun k hk=>by rw [if_pos (ZGh _)]
def Df (ds:List Int) (imgs:List (List Term)) (F:A8→Int):A8→Int:=fun b=>Dw ds imgs (wordA b) F ZMs
theorem ZDm (F:A8→Int):Df ds imgs F ZMs=0:=by unfold Df; rw [ZDk]; rfl
theorem Zks (c:Int) (F:A8→Int):Df ds imgs (fun m=>c * F m)=fun m=>c * Df ds imgs F m:=funext fun m=>Zkq c _ F _
theorem Zsq (F G:A8→Int):Df ds imgs (fun m=>F m+G m)=fun m=>Df ds imgs F m+Df ds imgs G m:=funext fun m=>Znr _ F G _
theorem Zsr (ok:ImgOk ds imgs) {j:Nat} (hj:j < 8) (F:A8→Int) {b:A8} (hb:GdM ds b):X ds j (Df ds imgs F) b=Ph ds imgs j F b+sg (par ds j) * Df ds imgs (X ds j F) b:=by
  have h:=(Rel.sort ok hb hj).d F ZMs (Zko ds)
  unfold X Df
  rw [← h]
  simp only [Dw]
  rw [ZDl hb]; rfl
theorem Znu (ok:ImgOk ds imgs):∀ {w:List Nat}, (∀ k,k∈w→k < 8)→∀ (F:A8→Int) {m:A8}, GdM ds m→Xw ds w (Df ds imgs F) m=Dw ds imgs w F m+sg (par_w ds w) * Df ds imgs (Xw ds w F) m
  | [],_,F,m,hm=>by simp [Xw,Dw,par_w,sg]
  | j :: w, hw, F, m, hm => by
    simp only [Xw,Dw,par_w]
    have hj:=hw j (by simp)
    rw [Zbl (G:=fun m=>Ph ds imgs j F m+sg (par ds j) * Df ds imgs (X ds j F) m) (fun m hm=>Zsr ok hj F hm) hm,Zer,Zbm]
    dsimp only
    rw [Znu ok (fun k hk=>hw k (by simp [hk])) (X ds j F) hm,Z11,Za1,ZYt]
    omega
end
end Vc
namespace Vc
open Go
section
variable {ds:List Int} {imgs:List (List Term)}
def Rm (ds:List Int) (m:A8) (F:A8→Int):A8→Int:=fun a=>Xw ds (wordA a) F m
theorem Zss (ok:ImgOk ds imgs) {m:A8} (hm:GdM ds m) {j:Nat} (hj:j < 8) (F:A8→Int) {a:A8} (ha:GdM ds a):X ds j (Rm ds m F) a=Rm ds m (X ds j F) a:=by
  unfold X Rm
  have:=(Rel.sort ok ha hj).x F m hm
  rw [← this]; rfl
theorem Zkt (ok:ImgOk ds imgs) {m:A8} (hm:GdM ds m):∀ {w:List Nat}, (∀ k,k∈w→k < 8)→∀ (F:A8→Int) {a:A8}, GdM ds a→Xw ds w (Rm ds m F) a=Rm ds m (Xw ds w F) a
  | [],_,_,_,_=>rfl
  | j :: w, hw, F, a, ha => by
    simp only [Xw]
    rw [Zbl (fun a ha=>Zss ok hm (hw j (by simp)) F ha) ha]
    exact Zkt ok hm (fun k hk=>hw k (by simp [hk])) _ ha
theorem Zst (w:List Nat) (m:A8):Xw ds w (fun _=>0) m=0:=by
  have:=congrFun (Zbm ds 0 w (fun _=>0)) m
  simp only [Z16] at this
  exact this
theorem Zsu {α:Type} (w:List Nat) (c:α→Int) (G:α→A8→Int):∀ (l:List α) (m:A8),Xw ds w (fun m=>tot (fun u=>c u * G u m) l) m=tot (fun u=>c u * Xw ds w (G u) m) l
  | [],m=>Zst w m
  | u :: l, m => by
    have e:(fun m=>tot (fun u=>c u * G u m) (u::l))=fun m=>c u * G u m+tot (fun u=>c u * G u m) l:=rfl
    rw [e,Zer,Zbm]
    dsimp only
    rw [Zsu w c G l m]; rfl
theorem Zsv {α:Type} (c:α→Int) (G:α→A8→Int):∀ (l:List α) (m:A8),Df ds imgs (fun m=>tot (fun u=>c u * G u m) l) m=tot (fun u=>c u * Df ds imgs (G u) m) l
  | [], m => by
    have:=congrFun (Zks (ds:=ds) (imgs:=imgs) 0 (fun _=>0)) m
    simp only [Z16] at this
    exact this
  | u :: l, m => by
    have e:(fun m=>tot (fun u=>c u * G u m) (u::l))=fun m=>c u * G u m+tot (fun u=>c u * G u m) l:=rfl
    rw [e,Zsq,Zks]
    dsimp only
    rw [Zsv c G l m]; rfl
theorem ZDn (ok:ImgOk ds imgs) {m:A8} (hm:GdM ds m) (j:Nat) (F:A8→Int) {a:A8} (ha:GdM ds a):Ph ds imgs j (Rm ds m F) a=Rm ds m (Ph ds imgs j F) a:=by
  have e:Rm ds m (Ph ds imgs j F) a=tot (fun u=>u.factor * Xw ds (wordA a) (Xw ds (wordA u.mono) F) m) (imgs.getD j ZEx):=Zsu (wordA a) (fun u:Term=>u.factor) (fun u=>Xw ds (wordA u.mono) F) _ m
  rw [e]
  exact Jm fun u _=>by rw [Zkt ok hm (fun k hk=>Zfx hk) F ha]; rfl
theorem Zsw (ok:ImgOk ds imgs) {m:A8} (hm:GdM ds m):∀ {w:List Nat}, (∀ k,k∈w→k < 8)→∀ (F:A8→Int),Dw ds imgs w (Rm ds m F) ZMs=Dw ds imgs w F m
  | [],_,_=>rfl
  | j :: w, hw, F => by
    have h0:=Zko ds
    have hw':∀ k,k∈w→k < 8:=fun k hk=>hw k (by simp [hk])
    simp only [Dw]
    rw [Zbl (fun a ha=>ZDn ok hm j F ha) h0,Zkt ok hm hw' _ h0,Zkp (fun a ha=>Zss ok hm (hw j (by simp)) F ha) h0,Zsw ok hm hw']
    congr 1
def Zku (ds:List Int) (imgs:List (List Term)):Prop:=∀ i,i < 8→∀ F:A8→Int,tot (fun u=>u.factor * Df ds imgs F u.mono) (imgs.getD i ZEx) % 10007=0
theorem ZDo (ok:ImgOk ds imgs) (cl:Zku ds imgs) {i:Nat} (hi:i < 8) (F:A8→Int) {m:A8} (hm:GdM ds m):tot (fun u=>u.factor * Dw ds imgs (wordA u.mono) F m) (imgs.getD i ZEx) % 10007=0:=by
  have:=cl i hi (Rm ds m F)
  rw [← this]
  congr 1
  exact Jm fun u _=>by rw [Df,Zsw ok hm (fun k hk=>Zfx hk)]
theorem ZDp {j:Nat} {F:A8→Int} (h:∀ m,GdM ds m→F m % 10007=0) {m:A8} (hm:GdM ds m):X ds j F m % 10007=0:=by
  unfold X
  by_cases z:xs ds j m=0
  · rw [z]; simp
  · rw [ZTo,h _ (hm.e z)]; simp
theorem Zsx:∀ {w:List Nat} {F:A8→Int}, (∀ m,GdM ds m→F m % 10007=0)→∀ {m:A8}, GdM ds m→Xw ds w F m % 10007=0
  | [],_,h,_,hm=>h _ hm
  | j::w,_,h,_,hm=>Zsx (w:=w) (fun m hm=>ZDp h hm) hm
theorem ZDq (ok:ImgOk ds imgs) {j:Nat} (hj:j < 8) (F:A8→Int) {m:A8} (hm:GdM ds m) :
    Ph ds imgs j (Df ds imgs F) m=tot (fun u=>u.factor * Dw ds imgs (wordA u.mono) F m) (imgs.getD j ZEx)+- sg (par ds j) * Df ds imgs (Ph ds imgs j F) m:=by
  have e:Df ds imgs (Ph ds imgs j F) m=tot (fun u=>u.factor * Df ds imgs (Xw ds (wordA u.mono) F) m) (imgs.getD j ZEx):=Zsv (fun u:Term=>u.factor) (fun u=>Xw ds (wordA u.mono) F) _ m
  rw [e,← Zcr,← Zhc]
  refine Jm fun u hu=>?_
  rw [Znu ok (fun k hk=>Zfx hk) F hm]
  have:sg (par_w ds (wordA u.mono))=- sg (par ds j):=by
    rw [← Zo8]
    exact Znp (by have:=ok.odd j hj u hu; omega)
  rw [this,Z11]
  congr 1
  exact Z12 _ _ _
theorem Zsy (ok:ImgOk ds imgs) (cl:Zku ds imgs):∀ {w:List Nat}, (∀ k,k∈w→k < 8)→∀ (F:A8→Int) {m:A8}, GdM ds m→(Dw ds imgs w (Df ds imgs F) m+sg (par_w ds w) * Df ds imgs (Dw ds imgs w F) m) % 10007=0
  | [], _, F, m, hm => by
    have e:Df ds imgs (Dw ds imgs [] F) m=0:=by
      have:=congrFun (Zks (ds:=ds) (imgs:=imgs) 0 (fun _=>0)) m
      simp only [Z16] at this
      exact this
    rw [e]; simp [Dw]
  | j :: w, hw, F, m, hm => by
    have hj:=hw j (by simp)
    have hw':∀ k,k∈w→k < 8:=fun k hk=>hw k (by simp [hk])
    have ih:=Zsy ok cl hw' (X ds j F) hm
    have hC:=Zsx (w:=w) (F:=fun m=>tot (fun u=>u.factor * Dw ds imgs (wordA u.mono) F m) (imgs.getD j ZEx)) (fun m hm=>ZDo ok cl hj F hm) hm
    have e1:Xw ds w (Ph ds imgs j (Df ds imgs F)) m=Xw ds w (fun m=>tot (fun u=>u.factor * Dw ds imgs (wordA u.mono) F m) (imgs.getD j ZEx)) m+- sg (par ds j) * (Dw ds imgs w (Ph ds imgs j F) m+sg (par_w ds w) * Df ds imgs (Xw ds w (Ph ds imgs j F)) m):=by
      rw [Zbl (fun m hm=>ZDq ok hj F hm) hm,Zer,Zbm]
      dsimp only
      rw [Znu ok hw' _ hm]
    have e2:Dw ds imgs w (X ds j (Df ds imgs F)) m=Dw ds imgs w (Ph ds imgs j F) m+sg (par ds j) * Dw ds imgs w (Df ds imgs (X ds j F)) m:=by
      rw [Zkp (G:=fun m=>Ph ds imgs j F m+sg (par ds j) * Df ds imgs (X ds j F) m) (fun m hm=>Zsr ok hj F hm) hm,Znr,Zkq]
    have e3:Df ds imgs (Dw ds imgs (j::w) F) m=Df ds imgs (Xw ds w (Ph ds imgs j F)) m+sg (par ds j) * Df ds imgs (Dw ds imgs w (X ds j F)) m:=by
      have:Dw ds imgs (j::w) F=fun m=>Xw ds w (Ph ds imgs j F) m+sg (par ds j) * Dw ds imgs w (X ds j F) m:=rfl
      rw [this,Zsq,Zks]
    have e4:Dw ds imgs (j::w) (Df ds imgs F) m=Xw ds w (Ph ds imgs j (Df ds imgs F)) m+sg (par ds j) * Dw ds imgs w (X ds j (Df ds imgs F)) m:=rfl
    rw [e4,e1,e2,e3]
    simp only [par_w,Za1]
    have hs:=Zsg (par ds j)
    generalize Xw ds w (fun m=>tot (fun u=>u.factor * Dw ds imgs (wordA u.mono) F m) (imgs.getD j ZEx)) m=c at *
    generalize Dw ds imgs w (Ph ds imgs j F) m=p1
    generalize Df ds imgs (Xw ds w (Ph ds imgs j F)) m=p2
    generalize Dw ds imgs w (Df ds imgs (X ds j F)) m=p3 at *
    generalize Df ds imgs (Dw ds imgs w (X ds j F)) m=p4 at *
    generalize sg (par_w ds w)=t at *
    rcases Zi2 (par ds j) with h | h <;> rw [h] <;> simp only [Z13,Int.neg_mul,Z11,Int.mul_neg,Int.neg_neg] <;> omega
theorem ZDr (ok:ImgOk ds imgs) (cl:Zku ds imgs) (F:A8→Int) (b:A8):Df ds imgs (Df ds imgs F) b % 10007=0:=by
  have:=Zsy ok cl (w:=wordA b) (fun k hk=>Zfx hk) F (Zko ds)
  rw [ZDm,ZT0,ZTi] at this
  exact this
end
end Vc
namespace Vc
open Go
section
variable {ds:List Int}
theorem Zsz {i:Nat} (hi:i < 8):∀ (n:Nat) (F:A8→Int) (m c:A8),(par ds i=1→n≤1)→(∀ k,k < 8→c.get k=m.get k+if k=i then(n:Int) else 0)→Xw ds (ZEs n i) F m=if par ds i=1∧0 < n∧0 < m.get i then 0 else sg (par ds i * n * Xq ds m i) * F c
  | 0, F, m, c, _, hc => by
    have:c=m:=ZPf fun k hk=>by rw [hc k hk]; split <;> simp
    rw [this,if_neg (by omega)]
    simp [Xw,sg]
  | n + 1, F, m, c, ho, hc => by
    rw [ZG5]
    simp only [Xw]
    let d:A8:=A8.mkf fun k=>m.get k+if k=i then(n:Int) else 0
    have hd:∀ k,k < 8→d.get k=m.get k+if k=i then(n:Int) else 0:=fun k hk=>ZYs _ hk
    rw [Zsz hi n (X ds i F) m d (fun o=>by have:=ho o; omega) hd]
    have ec:d.add (eA i)=c:=ZPf fun k hk=>by
      rw [ZYr,hd k hk,Zce hk,hc k hk]
      split <;> omega
    have hX:X ds i F d=xs ds i d * F c:=by unfold X; rw [ec]
    rw [hX]
    rcases Zfv ds i with o | o
    · have e1:xs ds i d=1:=by unfold xs; rw [if_neg (by omega),o]; simp [sg]
      rw [if_neg (by omega),if_neg (by omega),e1,o]; simp [sg]
    · have n0:n=0:=by have:=ho o; omega
      subst n0
      have ed:d=m:=ZPf fun k hk=>by rw [hd k hk]; split <;> simp
      rw [ed,if_neg (by omega),o]
      unfold xs
      by_cases z:0 < m.get i
      · rw [if_pos ⟨o,z⟩,if_pos ⟨rfl,by omega,z⟩]; simp
      · rw [if_neg (fun y=>z y.2),if_neg (fun y=>z y.2.2),o]; simp [sg]
def Ts (ds:List Int) (a b:A8):Nat→Nat→Int
  | 0,_=>0
  | r+1,i=>par ds i * a.get i * Xq ds b i+Ts ds a b r (i+1)
def Zif (ds:List Int) (a b:A8) (r i:Nat):Prop:=∃ k,i≤k∧k < i+r∧par ds k=1∧0 < a.get k∧0 < b.get k
theorem Zs0 {a b:A8}:∀ j,(∀ k,k < j→a.get k=b.get k)→Xq ds a j=Xq ds b j
  | 0,_=>rfl
  | j+1,h=>by simp only [Xq]; rw [Zs0 j fun k hk=>h k (by omega),h j (by omega)]
open Classical in
theorem Zs1 {a b : A8} (ha : GdM ds a) : ∀ (r i : Nat), i + r = 8 → ∀ (F : A8 → Int) (c : A8), (∀ k, k < 8 → c.get k = b.get k + if i ≤ k then a.get k else 0) → Xw ds (wdF a r i) F b = if Zif ds a b r i then 0 else sg (Ts ds a b r i) * F c
  | 0, i, h, F, c, hc => by
    have:c=b:=ZPf fun k hk=>by rw [hc k hk,if_neg (by omega)]; omega
    rw [if_neg (fun ⟨k,h1,h2,_⟩=>by omega),this]
    simp [wdF,Xw,Ts,sg]
  | r + 1, i, h, F, c, hc => by
    simp only [wdF]
    rw [Zfw]
    let d:A8:=A8.mkf fun k=>b.get k+if i+1≤k then a.get k else 0
    have hd:∀ k,k < 8→d.get k=b.get k+if i+1≤k then a.get k else 0:=fun k hk=>ZYs _ hk
    have pa:=ha.pos i (by omega)
    have hR:=Zsz (ds:=ds) (show i < 8 by omega) (a.get i).toNat F d c (fun o=>by have:=ha.one i (by omega) o; omega) fun k hk=>by
      rw [hc k hk,hd k hk]
      by_cases e:k=i
      · subst e; rw [if_pos (ZEw _),if_neg (by omega),if_pos rfl]; omega
      · rw [if_neg e]
        by_cases g:i≤k
        · rw [if_pos g,if_pos (by omega)]; omega
        · rw [if_neg g,if_neg (by omega)]; omega
    rw [Zs1 ha r (i+1) (by omega) _ d hd,hR]
    have eo:Xq ds d i=Xq ds b i:=Zs0 i fun k hk=>by rw [hd k (by omega),if_neg (by omega)]; omega
    have ed:d.get i=b.get i:=by rw [hd i (by omega),if_neg (by omega)]; omega
    rw [eo,ed,ZPc pa]
    have ca:Zif ds a b (r+1) i↔(par ds i=1∧0 < (a.get i).toNat∧0 < b.get i)∨Zif ds a b r (i+1):=by
      constructor
      · rintro ⟨k,h1,h2,h3,h4,h5⟩
        by_cases e:k=i
        · subst e; exact .inl ⟨h3,by omega,h5⟩
        · exact .inr ⟨k,by omega,by omega,h3,h4,h5⟩
      · rintro (⟨h3,h4,h5⟩ | ⟨k,h1,h2,h3⟩)
        · exact⟨i,ZEw _,by omega,h3,by omega,h5⟩
        · exact⟨k,by omega,by omega,h3⟩
    by_cases c1:Zif ds a b r (i+1)
    · rw [if_pos c1,if_pos (ca.2 (.inr c1))]
    · rw [if_neg c1]
      by_cases c2:par ds i=1∧0 < (a.get i).toNat∧0 < b.get i
      · rw [if_pos c2,if_pos (ca.2 (.inl c2)),ZT0]
      · rw [if_neg c2,if_neg (fun z=>(ca.1 z).elim c2 c1)]
        simp only [Ts,Za1]
        rw [← ZYt,ZYq (sg (Ts ds a b r (i+1)))]
theorem Zig (hd:OkDeg ds) {i:Nat} (hi:i < ds.length):Int.tmod (ds.getD i ZEx) 2=par ds i:=by
  have:=hd.2 i hi
  rw [ZPg (by omega)]; rfl
theorem Zkv {i:Nat} (hi:ds.length≤i):par ds i=0:=by
  simp [par,ZFf,List.getElem?_eq_none hi]
theorem Zs2 (hd : OkDeg ds) {a b : A8} (hb : GdM ds b) : ∀ (r i : Nat), i + r = ds.length → Ts ds a b r i = Zas ds a b r i + Xq ds b i * Za0 ds a r i
  | 0,i,_=>by simp [Ts,Zas,Za0]
  | r + 1, i, h => by
    have h8:=hd.1
    simp only [Ts,Zas,Za0]
    rw [Zs2 hd hb r (i+1) (by omega),Zig hd (by omega)]
    simp only [Xq]
    have hp:=hb.pos i (by omega)
    rcases Zfv ds i with o | o
    · rw [o,if_pos (.inl rfl)]; simp
    · have h1:=hb.one i (by omega) o
      rw [o]
      by_cases z:b.get i≤0
      · have e:b.get i=0:=by omega
        rw [if_pos (.inr z),e]
        rw [ZT0,ZTi,Z13,Z11,ZYq (a.get i) (Xq ds b i)]; omega
      · have e:b.get i=1:=by omega
        rw [if_neg (by omega),e]
        rw [show (1:Int) * 1=1 from rfl,Z13 (a.get i),Z11,Int.add_mul,Z13,ZYq (a.get i) (Xq ds b i)]; omega
theorem Zs3 (a b:A8):∀ (r s i:Nat),Ts ds a b (r+s) i=Ts ds a b r i+Ts ds a b s (i+r)
  | 0,s,i=>by simp [Ts]
  | r + 1, s, i => by
    rw [show r+1+s=(r+s)+1 by omega]
    simp only [Ts]
    rw [Zs3 a b r s (i+1),show i+1+r=i+(r+1) by omega]; omega
theorem Zs4 (a b:A8):∀ (s i:Nat),ds.length≤i→Ts ds a b s i=0
  | 0,_,_=>rfl
  | s+1,i,h=>by simp only [Ts]; rw [Zs4 a b s (i+1) (by omega),Zkv h]; simp
theorem Zs5 (hd:OkDeg ds) {a b:A8} (ha:GdM ds a) (hb:GdM ds b) (F:A8→Int):Xw ds (wordA a) F b=(Z9 ds a b).2 * F (Z9 ds a b).1:=by
  have h:=Zs1 (b:=b) ha 8 0 rfl F (a.add b) fun k hk=>by rw [if_pos (ZGh _),ZYr,Int.add_comm]
  have ce:Zif ds a b 8 0↔Clash ds a b:=by
    have h8:=hd.1
    constructor
    · rintro ⟨k,_,h2,h3,h4,h5⟩
      have hk:k < ds.length:=Z2i fun z=>by rw [Zkv z] at h3; omega
      exact⟨k,hk,by rw [Zig hd hk]; omega,h4,h5⟩
    · rintro ⟨k,hk,h3,h4,h5⟩
      rw [Zig hd hk] at h3
      exact⟨k,by omega,by omega,by have:=Zfv ds k; omega,h4,h5⟩
  rw [wordA,h]
  unfold Z9
  by_cases c:Clash ds a b
  · rw [if_pos (ce.2 c),if_pos c]; simp
  · rw [if_neg (fun z=>c (ce.1 z)),if_neg c]
    have e:Ts ds a b 8 0=Zas ds a b ds.length 0:=by
      have h8:=hd.1
      have e8:Ts ds a b (8 - ds.length) (0+ds.length)=0:=Zs4 _ _ _ _ (by omega)
      have e9:=Zs3 (ds:=ds) a b ds.length (8 - ds.length) 0
      rw [show ds.length+(8 - ds.length)=8 by omega] at e9
      rw [e9,e8,Zs2 hd hb _ _ (ZG0 _)]
      simp [Xq]
    rw [e]
end
end Vc
namespace Vc
open Go
section
variable {ds:List Int} {imgs:List (List Term)}
theorem Zs6:∀ (p q:List Nat) (F:A8→Int) (m:A8),Dw ds imgs (p++q) F m=Xw ds q (Dw ds imgs p F) m+sg (par_w ds p) * Dw ds imgs q (Xw ds p F) m
  | [], q, F, m => by
    have:Dw ds imgs [] F=fun _=>0:=rfl
    rw [this,Zst]; simp [par_w,sg,Xw]
  | j :: p, q, F, m => by
    have:Dw ds imgs (j::p) F=fun m=>Xw ds p (Ph ds imgs j F) m+sg (par ds j) * Dw ds imgs p (X ds j F) m:=rfl
    rw [this,Zer,Zbm]
    simp only [Z17,Dw,par_w,Xw]
    rw [Zfw,Zs6 p q,Z11,Za1,ZYt]
    omega
theorem Zs7 (ok:ImgOk ds imgs) {i:Nat} (hi:i < 8) (ho:par ds i=0):∀ (n:Nat) (F:A8→Int) {m:A8}, GdM ds m→Xw ds (ZEs n i) (Ph ds imgs i F) m=Ph ds imgs i (Xw ds (ZEs n i) F) m
  | 0,F,m,hm=>rfl
  | n + 1, F, m, hm => by
    rw [ZG5]
    simp only [Xw]
    have e:∀ m,GdM ds m→X ds i (Ph ds imgs i F) m=Ph ds imgs i (X ds i F) m:=fun m hm=>by
      rw [Znq ok hi hi F hm,eps,ho]; simp [sg]
    rw [Zbl e hm,Zs7 ok hi ho n _ hm]
theorem Zs8 (ok:ImgOk ds imgs) {i:Nat} (hi:i < 8):∀ (n:Nat) (F:A8→Int) {m:A8}, GdM ds m→(par ds i=1→n=0)→Dw ds imgs (ZEs (n+1) i) F m=((n:Int)+1) * Ph ds imgs i (Xw ds (ZEs n i) F) m
  | 0,F,m,hm,_=>by simp [Dw,Xw]
  | n + 1, F, m, hm, ho => by
    have o:par ds i=0:=by
      rcases Zfv ds i with o | o
      · exact o
      · have:=ho o; omega
    rw [ZG5]
    simp only [Dw]
    rw [Zs8 ok hi n _ hm (fun z=>by omega),Zs7 ok hi o (n+1) F hm,o]
    have:Xw ds (ZEs (n+1) i) F=Xw ds (ZEs n i) (X ds i F):=rfl
    rw [this]
    simp only [sg,Int.natCast_succ,Int.add_mul,Z13]
    simp
    omega
theorem GdM.joined_ok {a b:A8} (hd:OkDeg ds) (ha:GdM ds a) (hb:GdM ds b):GdM ds (Z9 ds a b).1:=by
  unfold Z9
  by_cases c:Clash ds a b
  · rw [if_pos c]; exact Zko ds
  · rw [if_neg c]
    refine⟨fun i hi=>by rw [ZYr]; have:=ha.pos i hi; have:=hb.pos i hi; omega,fun i hi o=>?_⟩
    have hk:i < ds.length:=Z2i fun z=>by rw [Zkv z] at o; omega
    have h1:=ha.one i hi o
    have h2:=hb.one i hi o
    have h3:=ha.pos i hi
    have h4:=hb.pos i hi
    rw [ZYr]
    have:¬ (0 < a.get i∧0 < b.get i):=fun z=>c ⟨i,hk,by rw [Zig hd hk]; omega,z.1,z.2⟩
    omega
def Zcf (ds:List Int) (l b:A8) (img:List Term) (F:A8→Int):Int:=tot (fun u=>u.factor * ((Z9 ds l u.mono).2 * ((Z9 ds (Z9 ds l u.mono).1 b).2 * F (Z9 ds (Z9 ds l u.mono).1 b).1))) img
theorem ZDs (hd:OkDeg ds) (ok:ImgOk ds imgs) {i:Nat} {l b:A8} (hl:GdM ds l) (hb:GdM ds b) (hI:∀ u,u∈imgs.getD i ZEx→GdM ds u.mono) (F:A8→Int):Ph ds imgs i (Xw ds (wordA l) F) b=Zcf ds l b (imgs.getD i ZEx) F:=by
  refine Jm fun u hu=>?_
  congr 1
  have hu:=hI u hu
  have e:=Zkt ok hb (fun k hk=>Zfx hk) F hu (w:=wordA l)
  have e':Xw ds (wordA u.mono) (Xw ds (wordA l) F) b=Rm ds b (Xw ds (wordA l) F) u.mono:=rfl
  rw [e',← e,Zs5 hd hl hu]
  unfold Rm
  rw [Zs5 hd (hl.joined_ok hd hu) hb]
def dF (ds:List Int) (imgs:List (List Term)) (m:A8) (F:A8→Int):Nat→Nat→Int
  | 0,_=>0
  | r+1,i=>(if m.get i > 0 then sg (wtU ds m i) * (m.get i * Zcf ds (leftA m i) (backA m i) (imgs.getD i ZEx) F) else 0)+dF ds imgs m F r (i+1)
theorem Znv (ds:List Int) (m:A8):∀ j,(wtU ds m j - Xq ds m j) % 2=0
  | 0=>rfl
  | j + 1 => by
    have ih:=Znv ds m j
    simp only [wtU,Xq,par]
    have h:(ds.getD j ZEx * m.get j - ds.getD j ZEx % 2 * m.get j) % 2=0:=by
      rw [← Int.sub_mul,ZTo,show (ds.getD j ZEx - ds.getD j ZEx % 2) % 2=0 by omega]; simp
    omega
theorem ZDt {m:A8} (hm:GdM ds m) {i:Nat} (hi:i < 8) (hp:0 < m.get i):GdM ds (leftA m i)∧GdM ds (backA m i):=by
  refine⟨⟨fun k hk=>?_,fun k hk o=>?_⟩,⟨fun k hk=>?_,fun k hk o=>?_⟩⟩
  · rw [leftA,ZYs _ hk]; have:=hm.pos k hk; split <;> (try split) <;> omega
  · rw [leftA,ZYs _ hk]; have:=hm.one k hk o
    split
    · omega
    · split
      · rename_i e; subst e; omega
      · omega
  · rw [backA,ZYs _ hk]; have:=hm.pos k hk; split <;> omega
  · rw [backA,ZYs _ hk]; have:=hm.one k hk o; split <;> omega
theorem ZDu {m:A8} {i:Nat} (hi:i < 8) {n:Nat} (hn:m.get i=(n:Int)+1):wordA (leftA m i)=wdF m i 0++ZEs n i:=by
  rw [Zns _ hi]
  have e1:wdF (leftA m i) i 0=wdF m i 0:=Zkr i 0 fun k _ h=>by rw [leftA,ZYs _ (by omega),if_pos (by omega)]
  have e2:(leftA m i).get i=n:=by rw [leftA,ZYs _ hi,if_neg (by omega),if_pos rfl]; omega
  have e3:wdF (leftA m i) (7 - i) (i+1)=[]:=by
    have:∀ r j,i < j→j+r≤8→wdF (leftA m i) r j=[]:=by
      intro r
      induction r with
      | zero=>intro j _ _; rfl
      | succ r ih=>intro j h1 h2; simp only [wdF]; rw [ih (j+1) (by omega) (by omega),leftA,ZYs _ (by omega),if_neg (by omega),if_neg (by omega)]; rfl
    exact this _ _ (by omega) (by omega)
  rw [e1,e2,e3,ZUn]; rfl
theorem Zs9 (hd:OkDeg ds) (ok:ImgOk ds imgs) (hI:∀ i,i < 8→∀ u,u∈imgs.getD i ZEx→GdM ds u.mono) {m:A8} (hm:GdM ds m) (F:A8→Int) :
    ∀ (r i:Nat),i+r=8→sg (Xq ds m i) * Dw ds imgs (wdF m r i) (Xw ds (wdF m i 0) F) ZMs=dF ds imgs m F r i
  | 0,i,_=>by simp [wdF,Dw,dF]
  | r + 1, i, h => by
    have hi:i < 8:=by omega
    have hp:=hm.pos i hi
    simp only [wdF,dF]
    rw [Zs6,Z11]
    have ih:=Zs9 hd ok hI hm F r (i+1) (by omega)
    have e0:Xw ds (ZEs (m.get i).toNat i) (Xw ds (wdF m i 0) F)=Xw ds (wdF m (i+1) 0) F:=by rw [Zso,Zfw]
    have e1:sg (Xq ds m i) * (sg (par_w ds (ZEs (m.get i).toNat i)) * Dw ds imgs (wdF m r (i+1)) (Xw ds (ZEs (m.get i).toNat i) (Xw ds (wdF m i 0) F)) ZMs)=dF ds imgs m F r (i+1):=by
      rw [← ih,e0,← ZYt,← Za1,Znn,ZPc hp]; rfl
    rw [e1]
    congr 1
    rw [Znt hm r (i+1) (by omega) _ (backA m i) fun k hk=>by rw [backA,ZYs _ hk]; rfl]
    by_cases c:m.get i > 0
    · obtain ⟨n,hn⟩:∃ n:Nat,m.get i=(n:Int)+1:=⟨(m.get i - 1).toNat,by omega⟩
      have hn':(m.get i).toNat=n+1:=by omega
      obtain ⟨gl,gb⟩:=ZDt hm hi c
      rw [if_pos c,hn',Zs8 ok hi n _ gb (fun o=>by have:=hm.one i hi o; omega),← Zfw,← ZDu hi hn,ZDs hd ok gl gb (hI i hi),hn]
      rw [Znp (Znv ds m i)]
    · have e:(m.get i).toNat=0:=by omega
      rw [if_neg c,e]; simp [Dw]
theorem Zta (hd:OkDeg ds) (ok:ImgOk ds imgs) (hI:∀ i,i < 8→∀ u,u∈imgs.getD i ZEx→GdM ds u.mono) {m:A8} (hm:GdM ds m) (F:A8→Int):Df ds imgs F m=dF ds imgs m F 8 0:=by
  have:=Zs9 hd ok hI hm F 8 0 rfl
  simpa [Xq,sg,wdF,Xw,Df,wordA] using this
end
end Vc
namespace Vc
open Go
def ind (x:A8):A8→Int:=fun y=>if y=x then 1 else 0
theorem Ztb {y0:A8} {c:Int} (G:A8→Int):∀ {S:List A8}, S.Nodup→(c=0∨y0∈S)→tot (fun y=>c * ind y y0 * G y) S=c * G y0
  | [], _, h => by
    rcases h with h | h
    · rw [h]; simp [tot]
    · cases h
  | s :: S, hn, h => by
    obtain ⟨h1,h2⟩:=ZPa.1 hn
    simp only [tot]
    by_cases e:y0=s
    · subst e
      rw [Zb9 fun y hy=>by rw [ind,if_neg (fun z=>h1 (by rw [z]; exact hy))]; simp]
      rw [ind,if_pos rfl]; simp
    · rw [Ztb G h2 (h.imp id fun z=>by rcases ZEt.1 z with z | z; exact absurd z e; exact z),ind,if_neg e]
      simp
theorem ZDv {ds:List Int} {l b:A8} {img:List Term} {S:List A8} (hS:S.Nodup) (G:A8→Int) (h:∀ u,u∈img→(Z9 ds l u.mono).2 * (Z9 ds (Z9 ds l u.mono).1 b).2=0∨(Z9 ds (Z9 ds l u.mono).1 b).1∈S) :
    Zcf ds l b img G=tot (fun y=>Zcf ds l b img (ind y) * G y) S:=by
  have e1:Zcf ds l b img G=tot (fun u=>tot (fun y=>(u.factor * ((Z9 ds l u.mono).2 * (Z9 ds (Z9 ds l u.mono).1 b).2)) * ind y (Z9 ds (Z9 ds l u.mono).1 b).1 * G y) S) img:=by
    refine Jm fun u hu=>?_
    rw [Ztb G hS ((h u hu).imp (fun z=>by rw [z,ZT0]) id)]
    simp only [ZYt]
  rw [e1,Zpv]
  refine Jm fun y _=>?_
  unfold Zcf
  rw [ZYq,← Zcr]
  exact Jm fun u _=>by simp only [ZYq,Z12,ZYt]
theorem Ztc {ds:List Int} {imgs:List (List Term)} {m:A8} {S:List A8} (hS:S.Nodup) (G:A8→Int) (h:∀ i u,i < 8→0 < m.get i→u∈imgs.getD i ZEx→(Z9 ds (leftA m i) u.mono).2 * (Z9 ds (Z9 ds (leftA m i) u.mono).1 (backA m i)).2=0∨(Z9 ds (Z9 ds (leftA m i) u.mono).1 (backA m i)).1∈S) :
    ∀ r i,i+r≤8→dF ds imgs m G r i=tot (fun y=>dF ds imgs m (ind y) r i * G y) S
  | 0,i,_=>by simp only [dF]; rw [Zb9 fun y _=>Z16 _]
  | r + 1, i, hi => by
    simp only [dF]
    rw [Ztc hS G h r (i+1) (by omega)]
    by_cases c:m.get i > 0
    · simp only [if_pos c,Int.add_mul]
      rw [Zhc,ZDv hS G fun u hu=>h i u (by omega) c hu,← Zcr,← Zcr]
      congr 1
      exact Jm fun y _=>by simp only [ZYt]
    · simp only [if_neg c,Int.zero_add]
theorem Ztd (ds : List Int) (imgs : List (List Term)) (m : A8) (n : Int) (x : A8) : ∀ r i, dS ds imgs m n x r i % 10007 = (n * dF ds imgs m (ind x) r i) % 10007
  | 0,i=>by simp [dS,dF]
  | r + 1, i => by
    simp only [dS,dF]
    have ih:=Ztd ds imgs m n x r (i+1)
    have key:(if m.get i > 0 then dK ds m n i * triC ds (leftA m i) (backA m i) (imgs.getD i ZEx) x else 0) % 10007=(n * (if m.get i > 0 then sg (wtU ds m i) * (m.get i * Zcf ds (leftA m i) (backA m i) (imgs.getD i ZEx) (ind x)) else 0)) % 10007:=by
      by_cases c:m.get i > 0
      · rw [if_pos c,if_pos c,dK,ZTo,Int.emod_emod,← ZTo]
        have:Zcf ds (leftA m i) (backA m i) (imgs.getD i ZEx) (ind x)=triC ds (leftA m i) (backA m i) (imgs.getD i ZEx) x:=by
          refine Jm fun u _=>?_
          unfold tri ind
          split
          · simp only [Int.mul_one,Z13,ZYq,Z12,ZYt]
          · simp
        rw [this]
        congr 1
        simp only [ZYq,Z12]
      · rw [if_neg c,if_neg c,ZT0]
    rw [Z11]
    generalize (if m.get i > 0 then dK ds m n i * triC ds (leftA m i) (backA m i) (imgs.getD i ZEx) x else 0)=p1 at *
    generalize n * (if m.get i > 0 then sg (wtU ds m i) * (m.get i * Zcf ds (leftA m i) (backA m i) (imgs.getD i ZEx) (ind x)) else 0)=p2 at *
    generalize n * dF ds imgs m (ind x) r (i+1)=p3 at *
    omega
end Vc
namespace Go.Proofs.YtaagfepgbofmlaaGreat
open Go Vc
theorem Zte {ds:List Int} (hd:OkDeg ds) {m:A8} (h:OkMono ds m) (hp:∀ i,i < 8→0≤m.get i):GdM ds m:=⟨hp,fun i hi o=>by
  have hk:i < ds.length:=Z2i fun z=>by rw [Zkv z] at o; omega
  exact((h i hi).1 hk).2 (by rw [Zig hd hk]; omega)⟩
theorem Ztf (ds:List Int) (m:A8):∀ k,wtU ds m (ds.length+k)=wtU ds m ds.length
  | 0=>rfl
  | k + 1 => by
    rw [show ds.length+(k+1)=(ds.length+k)+1 by omega]
    simp only [wtU]
    rw [Ztf ds m k]
    simp [ZFf]
theorem Znw {a:Alg} (ok:OkAlg a) (hf:X6 a) {i:Nat} {u:Term} (hu:u∈(imgsT a).getD i ZEx):i < a.images.length∧OkMono a.degrees u.mono∧(∀ k,k < 8→0≤u.mono.get k∧u.mono.get k≤20)∧wtU a.degrees u.mono a.degrees.length=a.degrees.getD i ZEx+1:=by
  by_cases hj:i < a.images.length
  · rw [Zdk a hj] at hu
    have h1:=(ok.frm i hj).mono hu
    refine⟨hj,h1,Zfk (Zdi h1) (((ok.algF hf).fit i hj).pos u hu),?_⟩
    obtain ⟨q,hq,rfl⟩:=ZE6 hu
    have:=ok.hom i hj q hq
    rwa [Zsb hq] at this
  · simp [imgsT,ZFf,hj] at hu; cases hu
theorem Ztg {a:Alg} (ok:OkAlg a) (hf:X6 a) {i:Nat} {u:Term} (hu:u∈(imgsT a).getD i ZEx):GdM a.degrees u.mono:=by
  obtain ⟨_,h1,h2,_⟩:=Znw ok hf hu
  exact Zte ok.deg h1 fun k hk=>(h2 k hk).1
theorem Znx {a:Alg} (ok:OkAlg a) (hf:X6 a):ImgOk a.degrees (imgsT a):=⟨fun i hi u hu=>by
  obtain ⟨_,h1,h2,h3⟩:=Znw ok hf hu
  have e1:par_w a.degrees (wordA u.mono)=Xq a.degrees u.mono 8:=Zno (fun k hk=>(h2 k hk).1) 8 (ZEw _)
  have e2:=Znv a.degrees u.mono 8
  have h8:=ok.deg.1
  have e3:=Ztf a.degrees u.mono (8 - a.degrees.length)
  rw [show a.degrees.length+(8 - a.degrees.length)=8 by omega,h3] at e3
  rw [e1]
  unfold par
  omega⟩
theorem Zth {a:Alg} (ok:OkAlg a) {n:Int} {m:A8} (hm:m∈mons a.degrees n):GdM a.degrees m:=by
  obtain ⟨o1,_,o3⟩:=Zkf ok.deg hm
  exact Zte ok.deg o1 fun k hk=>(o3 k hk).1
theorem Zti {ds:List Int} {imgs:List (List Term)} {m:A8} {P:A8→Prop} (h:∀ y,DMono ds imgs y m→P y) {i:Nat} {u:Term} (hi:i < 8) (hp:0 < m.get i) (hu:u∈imgs.getD i ZEx) :
    (Z9 ds (leftA m i) u.mono).2 * (Z9 ds (Z9 ds (leftA m i) u.mono).1 (backA m i)).2=0∨P (Z9 ds (Z9 ds (leftA m i) u.mono).1 (backA m i)).1:=by
  by_cases c:(Z9 ds (leftA m i) u.mono).2 * (Z9 ds (Z9 ds (leftA m i) u.mono).1 (backA m i)).2=0
  · exact .inl c
  · right
    have c1:(Z9 ds (leftA m i) u.mono).2≠0:=fun z=>c (by rw [z,Z16])
    have c2:(Z9 ds (Z9 ds (leftA m i) u.mono).1 (backA m i)).2≠0:=fun z=>c (by rw [z,ZT0])
    obtain ⟨g1,g2,_⟩:=Zec c1
    obtain ⟨g3,g4,_⟩:=Zec c2
    rw [g2] at g3 g4
    exact h _ ⟨i,u,hi,hp,hu,by rw [g2,g4],g1,g3⟩
theorem Ztj {ds : List Int} {imgs : List (List Term)} {m x : A8} (h : ¬ DMono ds imgs x m) : ∀ r i, i + r ≤ 8 → dF ds imgs m (ind x) r i = 0
  | 0,_,_=>rfl
  | r + 1, i, hi => by
    simp only [dF]
    rw [Ztj h r (i+1) (by omega),ZTi]
    by_cases c:m.get i > 0
    · rw [if_pos c]
      have:Zcf ds (leftA m i) (backA m i) (imgs.getD i ZEx) (ind x)=0:=Zb9 fun u hu=>by
        rcases Zti (P:=fun y=>y≠x) (fun y hy e=>h (e ▸ hy)) (show i < 8 by omega) c hu with z | z
        · have:∀ p q r s:Int,q * r=0→p * (q * (r * s))=0:=fun p q r s z=>by rw [← ZYt q,z]; simp
          exact this _ _ _ _ z
        · rw [ind,if_neg z]; simp
      rw [this]; simp
    · rw [if_neg c]
theorem Zny (a:Alg) (f:List Term) (x:A8):dco a f x=tot (fun t=>t.factor * dF a.degrees (imgsT a) t.mono (ind x) 8 0) f % 10007:=by
  unfold dco
  exact Zjj fun t _=>Ztd ..
theorem Ztk {a:Alg} (ok:OkAlg a) (n:Int):(mons a.degrees n).Nodup:=Srt.nd (Zkd ok.deg.1 n)
theorem Ztl {a:Alg} (ok:OkAlg a) (hf:X6 a) {n:Int} {m:A8} (hm:m∈mons a.degrees n) (hn:n≤38) (G:A8→Int):Df a.degrees (imgsT a) G m=tot (fun y=>dF a.degrees (imgsT a) m (ind y) 8 0 * G y) (mons a.degrees (n+1)):=by
  rw [Zta ok.deg (Znx ok hf) (fun i hi u hu=>Ztg ok hf hu) (Zth ok hm)]
  exact Ztc (Ztk ok _) G (fun i u hi hp hu=>Zti (P:=fun y=>y∈mons a.degrees (n+1)) (fun y hy=>Zkn ok hf hm hn hy) hi hp hu) 8 0 (ZEw _)
theorem ZDw {a : Alg} (ok : OkAlg a) (hf : X6 a) : Zku a.degrees (imgsT a) := fun i hi F => by
  by_cases hj:i < a.images.length
  · have hd:=ok.deg
    have hji:i < a.degrees.length:=by have:=ok.len; omega
    have hdi:=hd.2 i hji
    let n:=a.degrees.getD i ZEx+1
    let f:=(imgsT a).getD i ZEx
    have ef:f=(a.images.getD i ZEx).terms:=Zdk a hj
    have hin:∀ u,u∈f→u.mono∈mons a.degrees n:=fun u hu=>by
      obtain ⟨_,h1,h2,h3⟩:=Znw ok hf hu
      have:=Zrl hd (fun k hk=>(h2 k hk).1) h1
      rwa [h3] at this
    let row:=(mons a.degrees (n+1)).map (dco a f)
    have hrow:RowOk (mons a.degrees (n+1)).length row:=Zni a n f
    have hnl:row.length=(mons a.degrees (n+1)).length:=hrow.len
    have hv:∀ j,j < (mons a.degrees (n+1)).length→coT (fm (mons a.degrees (n+1)) row) ((mons a.degrees (n+1)).getD j ZEx)=dco a f ((mons a.degrees (n+1)).getD j ZEx):=fun j h=>by
      rw [ZC7 (Ztk ok _) hnl j h]
      simp [vec,row,ZFf,h]
    have dmin:∀ {y:A8} {u:Term}, u∈f→DMono a.degrees (imgsT a) y u.mono→y∈mons a.degrees (n+1):=fun hu hy=>Zkn ok hf (hin _ hu) (by show a.degrees.getD i ZEx+1≤38; omega) hy
    have isd:IsD a.degrees (imgsT a) f (fm (mons a.degrees (n+1)) row):=by
      have can:Canon (fm (mons a.degrees (n+1)) row):=ZC6 (Zkd hd.1 _) (ZC5 hrow)
      have zero:∀ x,(∀ u,u∈f→¬ DMono a.degrees (imgsT a) x u.mono)→dco a f x=0:=fun x hx=>by
        rw [Zny,Zb9 fun u hu=>by rw [Ztj (hx u hu) 8 0 (ZEw _),ZT0]]; rfl
      have cf:∀ x,coT (fm (mons a.degrees (n+1)) row) x=dco a f x:=fun x=>by
        by_cases c:x∈mons a.degrees (n+1)
        · obtain ⟨j,hj,rfl⟩:=Zsc c
          exact hv j hj
        · rw [ZC8 c,zero x fun u hu hy=>c (dmin hu hy)]
      refine⟨can,fun x=>?_,fun y hy=>?_⟩
      · rw [cf x]; unfold dco; omega
      · refine Classical.byContradiction fun no=>?_
        have e:=zero y.mono fun u hu hd=>no ⟨u,hu,hd⟩
        rw [← cf,Zm4 can hy] at e
        have:=can.2 y hy
        omega
    have nil:=ok.clo i hj _ (by rw [← ef]; exact isd)
    have z:∀ y,y∈mons a.degrees (n+1)→dco a f y=0:=fun y hy=>by
      obtain ⟨j,hj,rfl⟩:=Zsc hy
      rw [← hv j hj,nil]; rfl
    have e1:tot (fun u=>u.factor * Df a.degrees (imgsT a) F u.mono) f=tot (fun y=>F y * tot (fun u=>u.factor * dF a.degrees (imgsT a) u.mono (ind y) 8 0) f) (mons a.degrees (n+1)):=by
      have:tot (fun u=>u.factor * Df a.degrees (imgsT a) F u.mono) f=tot (fun u=>tot (fun y=>F y * (u.factor * dF a.degrees (imgsT a) u.mono (ind y) 8 0)) (mons a.degrees (n+1))) f:=Jm fun u hu=>by
        rw [Ztl ok hf (hin u hu) (by show a.degrees.getD i ZEx+1≤38; omega),← Zcr]
        exact Jm fun y _=>by simp only [ZYq,Z12]
      rw [this,Zpv]
      exact Jm fun y _=>Zcr _ _ _
    show tot (fun u=>u.factor * Df a.degrees (imgsT a) F u.mono) f % 10007=0
    rw [e1,Zjj (g:=fun _=>0) fun y hy=>by
      have:=z y hy
      rw [Zny] at this
      rw [ZTo,this]; simp]
    rw [Zb9 fun _ _=>rfl]; rfl
  · have:(imgsT a).getD i ZEx=[]:=by simp [imgsT,ZFf,hj]; rfl
    rw [this]; rfl
theorem ZDx {a:Alg} (ok:OkAlg a) (hf:X6 a) {n:Int} {m:A8} (hm:m∈mons a.degrees n) (hn:n≤38) (x:A8):tot (fun y=>dco a [⟨m,1⟩] y * dco a [⟨y,1⟩] x) (mons a.degrees (n+1)) % 10007=0:=by
  have one:∀ m x,dco a [⟨m,1⟩] x=dF a.degrees (imgsT a) m (ind x) 8 0 % 10007:=fun m x=>by rw [Zny]; simp [tot]
  have sq:=ZDr (Znx ok hf) (ZDw ok hf) (ind x) m
  rw [Ztl ok hf hm hn] at sq
  rw [← sq]
  refine Zjj fun y hy=>?_
  rw [one,one,← ZTo,Zta ok.deg (Znx ok hf) (fun i hi u hu=>Ztg ok hf hu) (Zth ok hy)]
end Go.Proofs.YtaagfepgbofmlaaGreat
namespace Go.Proofs.YtaagfepgbofmlaaGreat
open Go Vc
theorem Znz {n:Nat} {row:List Int}:∀ (l2 l1:List (List Int)) (r:List Int),Rref n (l1++l2)→IsBy n l1 row r→∃ r',IsBy n (l1++l2) row r'
  | [],l1,r,_,h=>⟨r,by rw [ZUn]; exact h⟩
  | z :: l2, l1, r, hR, h => by
    have e:l1++z::l2=(l1++[z])++l2:=by simp
    have:=h.step hR
    rw [e] at hR ⊢
    exact Znz l2 (l1++[z]) _ hR this
theorem Ztm {n : Nat} : ∀ (l2 l1 out : List (List Int)), J4 n l2 → IsRref n l1 out → out.length ≤ l1.length → ∃ out', IsRref n (l1 ++ l2) out' ∧ out'.length ≤ (l1 ++ l2).length
  | [],l1,out,_,h,hl=>⟨out,by rw [ZUn]; exact⟨h,hl⟩⟩
  | row :: l2, l1, out, hr, h, hl => by
    have e:l1++row::l2=(l1++[row])++l2:=by simp
    obtain ⟨r,hb⟩:=Znz out [] row h.red (IsBy.nil (hr row (by simp)))
    rw [Z2g] at hb
    have ho:∃ out',IsRref n (l1++[row]) out'∧out'.length≤(l1++[row]).length:=by
      by_cases z:ld r < r.length
      · obtain ⟨a,b,rfl,h1,h2⟩:=h.red.split_at (ld r)
        have g:=hb.ok.rng (ld r)
        have nz:=Zfq z
        refine⟨_,h.put (k:=((Zbj (vec r (ld r)).toNat:Nat):Int)) hb (Znc ⟨by omega,g.2⟩) h1 h2,?_⟩
        simp only [ZE8,Z10,ZHn,Z2f] at hl ⊢
        omega
      · refine⟨out,h.put0 hb (fun j=>?_),by simp; omega⟩
        rcases ZF1 j r.length with q | q
        · exact Jw (by omega)
        · exact J3 q
    obtain ⟨out',g1,g2⟩:=ho
    rw [e]
    exact Ztm l2 _ out' (fun x hx=>hr x (by simp [hx])) g1 g2
theorem Zcg {n:Nat} {rows:List (List Int)} (h:J4 n rows):∃ out,IsRref n rows out∧out.length≤rows.length:=Ztm rows [] [] h (IsRref.zero n) (ZEw _)
theorem Ztn {n:Nat} {rows out:List (List Int)} (h:J4 n rows) (ho:IsRref n rows out):out.length≤rows.length:=by
  obtain ⟨o,h1,h2⟩:=Zcg h
  rw [ho.unique h1]; exact h2
theorem Zkw:∀ {l k:List Nat}, l.Nodup→(∀ q,q∈l→q∈k)→l.length≤k.length
  | [],_,_,_=>ZGh _
  | x :: l, k, hn, h => by
    obtain ⟨h1,h2⟩:=ZPa.1 hn
    have hx:=h x (by simp)
    have:=Zkw h2 (k:=k.erase x) fun q hq=>(List.mem_erase_of_ne (fun e=>h1 (by rw [← e]; exact hq))).2 (h q (by simp [hq]))
    rw [List.length_erase_of_mem hx] at this
    have:=List.length_pos_of_mem hx
    simp only [ZHn]; omega
theorem Zn0 {n:Nat} {a:List (List Int)} (h:Rref n a):(a.map ld).Nodup:=by
  rw [List.Nodup,ZUc]
  exact h.pw.imp fun h=>by omega
theorem Zn1 {n m:Nat} {a b:List (List Int)} (ha:Rref n a) (hb:Rref m b) (h:∀ x,x∈a→Sp (gens b) (vec x)):∀ q,q∈a.map ld→q∈b.map ld:=fun q hq=>by
  obtain ⟨x,hx,rfl⟩:=ZF9.1 hq
  obtain ⟨z,hz,e⟩:=hb.leads (h x hx) (q:=ld x) (fun j hj=>by rw [Jw hj]; rfl) (by rw [(ha.ok x hx).2]; decide)
  exact ZF9.2 ⟨z,hz,e⟩
theorem ZDy {n m:Nat} {a b:List (List Int)} (ha:Rref n a) (hb:Rref m b) (h:∀ x,x∈a→Sp (gens b) (vec x)):a.length≤b.length:=by
  have:=Zkw (Zn0 ha) (Zn1 ha hb h)
  simpa using this
theorem ZDz {S:Vec→Prop} {q:Nat} (h:∀ v,S v→v q % 10007=0) {u:Vec} (hu:Sp S u):u q % 10007=0:=by
  induction hu with
  | zero z=>exact z q
  | @add r v u k hr hv e ih=>rw [e,Int.add_emod,ih,ZTo,h r hr]; simp
theorem Zto {S T:Vec→Prop} (c:Nat→Int) (f:Nat→Nat) (h:∀ v,S v→Sp T (fun j=>c j * v (f j))) {u:Vec} (hu:Sp S u):Sp T (fun j=>c j * u (f j)):=by
  induction hu with
  | zero z=>exact .zero fun j=>by rw [ZTo,z]; simp
  | @add r v u k hr hv e ih =>
    refine Sp.sum k ih (h r hr) fun j=>?_
    rw [ZTo,e,← ZTo,Z11,Z12]
theorem ZD0 {S T:Vec→Prop} (m:Nat) (h:∀ v,S v→Sp T (fun j=>v (m+j))) {u:Vec} (hu:Sp S u):Sp T (fun j=>u (m+j)):=by
  have:=Zto (T:=T) (fun _=>1) (fun j=>m+j) (fun v hv=>(h v hv).cong fun j=>by rw [Z13]) hu
  exact this.cong fun j=>by rw [Z13]
theorem Ztp {S T:Vec→Prop} (m:Nat) (h:∀ v,S v→Sp T (fun j=>if j < m then v j else 0)) {u:Vec} (hu:Sp S u):Sp T (fun j=>if j < m then u j else 0):=by
  have:=Zto (T:=T) (fun j=>if j < m then 1 else 0) id (fun v hv=>(h v hv).cong fun j=>by dsimp only [id]; split <;> simp) hu
  exact this.cong fun j=>by dsimp only [id]; split <;> simp
theorem Ztq {n:Nat} {Z B T K:List (List Int)} (hZ:Rref n Z) (hB:Rref n B) (hs:∀ x,x∈B→Sp (gens Z) (vec x)) (hT:∀ t,t∈T→∃ z,z∈Z∧IsBy n B z t) (hT':∀ z,z∈Z→∃ t,t∈T∧IsBy n B z t) (hK:IsRref n T K):K.length+B.length=Z.length:=by
  have tZ:∀ t,t∈T→Sp (gens Z) (vec t):=fun t ht=>by
    obtain ⟨z,hz,hb⟩:=hT t ht
    have d:Sp (gens Z) (fun j=>vec z j - vec t j):=by
      have:=hb.df
      clear hb
      generalize (fun j=>vec z j - vec t j)=u at this
      exact this.mono fun r ⟨x,hx,e⟩=>e ▸ hs x hx
    exact(Zid d).1 (Y8 hz)
  have kZ:∀ k,k∈K→Sp (gens Z) (vec k):=fun k hk=>((hK.sp _).2 (Y8 hk)).mono fun r ⟨x,hx,e⟩=>e ▸ tZ x hx
  have k0:∀ k,k∈K→∀ b,b∈B→vec k (ld b) % 10007=0:=fun k hk b hb=>ZDz (fun v ⟨t,ht,e⟩=>by
    obtain ⟨z,_,hz⟩:=hT t ht
    rw [e,hz.clr b hb]; rfl) ((hK.sp _).2 (Y8 hk))
  have le1:K.length+B.length≤Z.length:=by
    have nd:(K.map ld++B.map ld).Nodup:=by
      rw [List.nodup_append]
      refine⟨Zn0 hK.red,Zn0 hB,fun x hx y hy e=>?_⟩
      obtain ⟨k,hk,rfl⟩:=ZF9.1 hx
      obtain ⟨b,hb,eb⟩:=ZF9.1 hy
      have:=k0 k hk b hb
      rw [eb,← e,(hK.red.ok k hk).2] at this
      exact absurd this (by decide)
    have:=Zkw nd (k:=Z.map ld) fun q hq=>by
      rcases ZE4.1 hq with hq | hq
      · exact Zn1 hK.red hZ kZ q hq
      · exact Zn1 hB hZ hs q hq
    simpa using this
  have le2:Z.length≤K.length+B.length:=by
    obtain ⟨o,ho,hl⟩:=Zcg (n:=n) (rows:=K++B) fun x hx=>by
      rcases ZE4.1 hx with h | h
      · exact(hK.red.ok x h).1
      · exact(hB.ok x h).1
    have:=ZDy hZ ho.red fun z hz=>(ho.sp _).1 (by
      obtain ⟨t,ht,hb⟩:=hT' z hz
      have d:Sp (gens (K++B)) (fun j=>vec z j - vec t j):=hb.df.mono fun r ⟨x,hx,e⟩=>.gen ⟨x,by simp [hx],e⟩
      exact(Zid d).2 (((hK.sp _).1 (Y8 ht)).mono fun r ⟨x,hx,e⟩=>.gen ⟨x,by simp [hx],e⟩))
    rw [ZE8] at hl
    omega
  omega
theorem Ztr {α:Type} (p q:α→Bool) (h:∀ x,q x=!p x):∀ l:List α,(l.filter p).length+(l.filter q).length=l.length
  | []=>rfl
  | x :: l => by
    have ih:=Ztr p q h l
    have hx:=h x
    cases e:p x
    · rw [e] at hx
      rw [Z2e (by simp [e]),Z2d (by simpa using hx),ZHn,ZHn]; omega
    · rw [e] at hx
      rw [Z2d (by simp [e]),Z2e (by simp [hx]),ZHn,ZHn]; omega
def Zfy (m:Nat) (R:List (List Int)):List (List Int):=(R.filter fun r=>decide (ld r < m)).map (List.take m)
theorem Zn2 {m:Nat} {z:List Int} (h:ld z < m) (h1:vec z (ld z)=1):ld (z.take m)=ld z :=
  Zdq (fun q hq=>by rw [Zc2,Jw hq]; simp) (by rw [Zc2,if_pos h,h1]; decide)
theorem Zn3 {m:Nat} {z:List Int} (h:m≤ld z) (h1:vec z (ld z)=1):ld (z.drop m)=ld z - m :=
  Zdq (fun q hq=>by rw [Zeq,Jw (by omega)]) (by rw [Zeq,Z2j h,h1]; decide)
theorem ZD1 {m n:Nat} {R:List (List Int)} (hR:Rref (m+n) R):Rref m (Zfy m R):=by
  refine⟨fun a ha=>?_,?_⟩
  · obtain ⟨z,hz,rfl⟩:=ZF9.1 ha
    obtain ⟨hz,hl⟩:=Z15.1 hz
    have hl:ld z < m:=by simpa using hl
    obtain ⟨g1,g2⟩:=hR.ok z hz
    refine⟨⟨by rw [ZTn,g1.len]; omega,fun j=>?_⟩,?_⟩
    · rw [Zc2]; have:=g1.rng j; split <;> omega
    · rw [Zn2 hl g2,Zc2,if_pos hl,g2]
  · rw [Zfy,ZUc]
    refine(Z2s _ hR.pw).imp_of_mem fun {a b} ha hb h=>?_
    obtain ⟨ha,la⟩:=Z15.1 ha
    obtain ⟨hb,lb⟩:=Z15.1 hb
    have la:ld a < m:=by simpa using la
    have lb:ld b < m:=by simpa using lb
    rw [Zn2 la (hR.ok a ha).2,Zn2 lb (hR.ok b hb).2,Zc2,if_pos lb]
    exact h
theorem ZD2 {m n:Nat} {R:List (List Int)} (hR:Rref (m+n) R):Rref n (Zbk m R):=by
  refine⟨fun a ha=>?_,?_⟩
  · obtain ⟨z,hz,rfl⟩:=ZF9.1 ha
    obtain ⟨hz,hl⟩:=Z15.1 hz
    have hl:m≤ld z:=by simpa using hl
    obtain ⟨g1,g2⟩:=hR.ok z hz
    refine⟨Zne g1,?_⟩
    rw [Zn3 hl g2,Zeq,Z2j hl,g2]
  · rw [Zbk,ZUc]
    refine(Z2s _ hR.pw).imp_of_mem fun {a b} ha hb h=>?_
    obtain ⟨ha,la⟩:=Z15.1 ha
    obtain ⟨hb,lb⟩:=Z15.1 hb
    have la:m≤ld a:=by simpa using la
    have lb:m≤ld b:=by simpa using lb
    rw [Zn3 la (hR.ok a ha).2,Zn3 lb (hR.ok b hb).2,Zeq,Z2j lb]
    exact⟨by omega,h.2⟩
theorem Zn4 {n i:Nat} (hi:i < n) (j:Nat):vec (Za5 n i) j=if j=i then 1 else 0:=by
  rw [Za5,Zie (by simpa using hi),Zkl]
theorem Zn5 {rows:List (List Int)} {i:Nat} (hi:i < rows.length):rows.getD i ZEx++Za5 rows.length i∈Zam rows:=ZF9.2 ⟨i,ZGj.2 hi,rfl⟩
theorem ZD3 {m:Nat} {rows R:List (List Int)} (hr:J4 m rows) (hR:IsRref (m+rows.length) (Zam rows) R):SpEq rows (Zfy m R):=by
  refine Zki (fun x hx=>?_) (fun x hx=>?_)
  · obtain ⟨i,hi,e0⟩:=Zkj hx
    have e0:rows.getD i ZEx=x:=e0
    subst e0
    have h1:=(hR.sp _).1 (Y8 (Zn5 hi))
    have hm:(rows.getD i ZEx).length=m:=(hr _ (Y1 hi)).len
    refine(Ztp (T:=gens (Zfy m R)) m (fun v hv=>?_) h1).cong fun j=>?_
    · obtain ⟨z,hz,e⟩:=hv
      subst e
      by_cases c:ld z < m
      · exact(Y8 (ZF9.2 ⟨z,Z15.2 ⟨hz,by simpa using c⟩,rfl⟩)).cong fun j=>by rw [Zc2]
      · exact .zero fun j=>by
          split
          · rw [Jw (by omega)]; rfl
          · rfl
    · rw [Zfu,hm]
      split
      · rfl
      · rw [J3 (by omega)]
  · obtain ⟨z,hz,rfl⟩:=ZF9.1 hx
    obtain ⟨hz,hl⟩:=Z15.1 hz
    have h1:=(hR.sp _).2 (Y8 hz)
    refine(Ztp (T:=gens rows) m (fun v hv=>?_) h1).cong fun j=>by rw [Zc2]
    obtain ⟨w,hw,e⟩:=hv
    subst e
    obtain ⟨i,hi,rfl⟩:=ZF9.1 hw
    have hi:=ZGj.1 hi
    have hm:(rows.getD i ZEx).length=m:=(hr _ (Y1 hi)).len
    refine(Y8 (Y1 hi)).cong fun j=>?_
    rw [Zfu,hm]
    split
    · rfl
    · rw [J3 (by omega)]
theorem ZD4 {m : Nat} {rows R : List (List Int)} (hr : J4 m rows) (hR : IsRref (m + rows.length) (Zam rows) R) : R.length = rows.length := by
  have h1:=Ztn (Znf hr) hR
  have hk:(Zam rows).length=rows.length:=by simp [Zam]
  obtain ⟨D,hD,hl⟩:=Zcg (n:=rows.length) (rows:=R.map (List.drop m)) fun a ha=>by
    obtain ⟨z,hz,rfl⟩:=ZF9.1 ha
    exact Zne (hR.red.ok z hz).1
  rw [Z10] at hl
  have:(ZFg rows.length).length≤(D.map ld).length:=Zkw List.nodup_range fun i hi=>by
    have hi:=ZGj.1 hi
    have h1:=(hR.sp _).1 (Y8 (Zn5 hi))
    have hm:(rows.getD i ZEx).length=m:=(hr _ (Y1 hi)).len
    have h2:Sp (gens D) (vec (Za5 rows.length i)):=(hD.sp _).1 ((ZD0 (T:=gens (R.map (List.drop m))) m (fun v ⟨z,hz,e⟩=>by
      subst e
      exact(Y8 (ZF9.2 ⟨z,hz,rfl⟩)).cong fun j=>by rw [Zeq]) h1).cong fun j=>by
        rw [Zfu,hm,if_neg (by omega),ZIm])
    obtain ⟨z,hz,e⟩:=hD.red.leads h2 (q:=i) (fun j hj=>by rw [Zn4 hi,if_neg (by omega)]; rfl) (by rw [Zn4 hi,if_pos rfl]; decide)
    exact ZF9.2 ⟨z,hz,e⟩
  rw [List.length_range,Z10] at this
  omega
theorem Zn6 {m:Nat} {rows L out:List (List Int)} (hr:J4 m rows) (hK:IsKer m rows L) (ho:IsRref m rows out):L.length+out.length=rows.length:=by
  obtain ⟨R,hR,hL⟩:=hK
  have e1:out=Zfy m R:=ho.unique ⟨ZD1 hR.red,ZD3 hr hR⟩
  have e2:L=Zbk m R:=hL.unique ⟨ZD2 hR.red,SpEq.refl _⟩
  rw [e1,e2,Zfy,Zbk,Z10,Z10,← ZD4 hr hR,Nat.add_comm]
  exact Ztr _ _ (fun x=>by by_cases c:ld x < m <;> simp [c]; omega) R
theorem Zn7 {S:Vec→Prop} {α:Type} {c:α→Int} {g:α→Vec}:∀ {l:List α}, (∀ a,a∈l→c a % 10007=0∨Sp S (g a))→Sp S (fun q=>tt (fun a=>c a * g a q) l)
  | [],_=>Sp.nil S
  | a :: l, h => by
    have ih:=Zn7 (c:=c) (g:=g) (l:=l) fun b hb=>h b (by simp [hb])
    rcases h a (by simp) with z | z
    · refine ih.cong fun j=>?_
      simp only [tt]
      have:=ZTo (c a) (g a j) 10007
      rw [z] at this
      simp only [Z16,Int.zero_emod] at this
      omega
    · exact Sp.sum (c a) ih z fun j=>by simp only [tt]; congr 1; omega
def Zih (v:List Int) (rows:List (List Int)) (j:Nat):Int:=tt (fun i=>vec v i * vec (at_ rows i) j) (ZFg rows.length)
theorem Zn8 {α:Type} {f g:α→Int}:∀ {l:List α}, (∀ a,a∈l→f a=g a)→tt f l=tt g l
  | [],_=>rfl
  | a::l,h=>by simp only [tt]; rw [h a (by simp),Zn8 fun b hb=>h b (by simp [hb])]
theorem ZD5 {f:Nat→Int} {k:Nat}:∀ {n:Nat}, k < n→(∀ i,i < n→i≠k→f i=0)→tt f (ZFg n)=f k:=by
  have app:∀ (a b:List Nat),tt f (a++b)=tt f a+tt f b:=by
    intro a b
    induction a with
    | nil=>simp [tt]
    | cons x l ih=>simp only [Z17,tt,ih]; omega
  intro n
  induction n with
  | zero=>intro h; omega
  | succ n ih =>
    intro hk h0
    rw [Z2k,app]
    simp only [tt]
    by_cases e:k=n
    · subst e
      rw [Zkh fun i hi=>h0 i (by have:=ZGj.1 hi; omega) (by have:=ZGj.1 hi; omega)]; omega
    · rw [ih (by omega) fun i hi ne=>h0 i (by omega) ne,h0 n (by omega) (by omega)]; omega
theorem ZD6 {m:Nat} {rows L:List (List Int)} (hr:J4 m rows) (hK:IsKer m rows L) {v:List Int} (hv:RowOk rows.length v) (h0:∀ j,j < m→Zih v rows j % 10007=0):Sp (gens L) (vec v):=by
  obtain ⟨R,hR,hL⟩:=hK
  let W:Nat→Vec:=fun i=>vec (rows.getD i ZEx++Za5 rows.length i)
  let u:Vec:=fun q=>tt (fun i=>vec v i * W i q) (ZFg rows.length)
  have hu:Sp (gens (Zam rows)) u:=Zn7 fun i hi=>.inr (Y8 (Zn5 (ZGj.1 hi)))
  have hu':=(hR.sp _).1 hu
  have hm:∀ i,i < rows.length→(rows.getD i ZEx).length=m:=fun i hi=>(hr _ (Y1 hi)).len
  have lo:∀ j,j < m→u j % 10007=0:=fun j hj=>by
    have:u j=Zih v rows j:=Zn8 fun i hi=>by
      have hi:=ZGj.1 hi
      show vec v i * vec (rows.getD i ZEx++Za5 rows.length i) j=_
      rw [Zfu,hm i hi,if_pos hj]; rfl
    rw [this]; exact h0 j hj
  have hi_:∀ j,u (m+j)=vec v j:=fun j=>by
    have e:∀ i,i < rows.length→vec v i * W i (m+j)=if j=i then vec v i else 0:=fun i hi=>by
      show vec v i * vec (rows.getD i ZEx++Za5 rows.length i) (m+j)=_
      rw [Zfu,hm i hi,if_neg (by omega),ZIm,Zn4 hi]
      split <;> simp
    by_cases c:j < rows.length
    · show tt (fun i=>vec v i * W i (m+j)) (ZFg rows.length)=_
      rw [ZD5 c fun i hi ne=>by rw [e i hi,if_neg (fun z=>ne z.symm)],e j c,if_pos rfl]
    · show tt (fun i=>vec v i * W i (m+j)) (ZFg rows.length)=_
      rw [Zkh fun i hi=>by have hi:=ZGj.1 hi; rw [e i hi,if_neg (by omega)],J3 (by rw [hv.len]; omega)]
  have main:Sp (gens L) (fun j=>tt (fun z=>u (ld z) * vec z (m+j)) R):=by
    refine Zn7 (g:=fun z j=>vec z (m+j)) fun z hz=>?_
    by_cases c:ld z < m
    · exact .inl (lo _ c)
    · refine .inr ((hL.sp _).1 ((Y8 (ZF9.2 ⟨z,Z15.2 ⟨hz,by simpa using c⟩,rfl⟩)).cong fun j=>?_))
      rw [Zeq]
  exact main.cong fun j=>by
    have:=hR.red.comb hu' (m+j)
    rw [hi_] at this
    exact this
end Go.Proofs.YtaagfepgbofmlaaGreat
namespace Go.Proofs.YtaagfepgbofmlaaGreat
open Go Vc
def mx (a:Alg) (n:Int):List (List Int):=(mons a.degrees n).map fun m=>Zan a n [⟨m,1⟩]
theorem Zb1 (a:Alg) (n:Int):(mx a n).length=(mons a.degrees n).length:=Z10 _
theorem Zaw (a:Alg) (n:Int):J4 (mons a.degrees (n+1)).length (mx a n):=fun x hx=>by
  obtain ⟨m,_,rfl⟩:=ZF9.1 hx
  exact Zni ..
theorem Zts {a:Alg} {n:Int} {f:List Term} {j:Nat} (hj:j < (mons a.degrees (n+1)).length):vec (Zan a n f) j=dco a f ((mons a.degrees (n+1)).getD j ZEx):=by simp [vec,Zan,ZFf,hj]
theorem Ztt {l:List A8} (g:A8→Int):∀ k,k≤l.length→tt (fun i=>g (l.getD i ZEx)) (ZFg k)=tot g (l.take k)
  | 0,_=>by simp [tt,tot]
  | k + 1, h => by
    have app:∀ (f:Nat→Int) (a b:List Nat),tt f (a++b)=tt f a+tt f b:=fun f a b=>by
      induction a with
      | nil=>simp [tt]
      | cons x l ih=>simp only [Z17,tt,ih]; omega
    rw [Z2k,app,Ztt g k (by omega),X0 (by omega),Zhb]
    simp only [tt,tot]
theorem ZD7 {a:Alg} (ok:OkAlg a) (hf:X6 a) {n:Int} (hn:n≤36) {m:A8} (hm:m∈mons a.degrees n) {j:Nat} (hj:j < (mons a.degrees (n+1+1)).length):Zih (Zan a n [⟨m,1⟩]) (mx a (n+1)) j % 10007=0:=by
  have e:Zih (Zan a n [⟨m,1⟩]) (mx a (n+1)) j=tot (fun y=>dco a [⟨m,1⟩] y * dco a [⟨y,1⟩] ((mons a.degrees (n+1+1)).getD j ZEx)) (mons a.degrees (n+1)):=by
    have:=Ztt (l:=mons a.degrees (n+1)) (fun y=>dco a [⟨m,1⟩] y * dco a [⟨y,1⟩] ((mons a.degrees (n+1+1)).getD j ZEx)) (mons a.degrees (n+1)).length (ZEw _)
    rw [Z14] at this
    rw [← this,Zih,Zb1]
    refine Zn8 fun i hi=>?_
    have hi:=ZGj.1 hi
    rw [Zts hi]
    congr 1
    have:at_ (mx a (n+1)) i=Zan a (n+1) [⟨(mons a.degrees (n+1)).getD i ZEx,1⟩]:=by simp [at_,mx,ZFf,hi]
    rw [this,Zts hj]
  rw [e]
  exact ZDx ok hf hm (by omega) _
theorem ZD8 {a:Alg} (ok:OkAlg a) (hf:X6 a) {n:Int} (hn:n≤36) {Z B:List (List Int)} (hZ:IsKer (mons a.degrees (n+1+1)).length (mx a (n+1)) Z) (hB:IsRref (mons a.degrees (n+1)).length (mx a n) B):∀ x,x∈B→Sp (gens Z) (vec x):=fun x hx=>by
  have h1:=(hB.sp _).2 (Y8 hx)
  refine h1.mono fun r ⟨y,hy,e⟩=>?_
  subst e
  obtain ⟨m,hm,rfl⟩:=ZF9.1 hy
  refine ZD6 (Zaw a (n+1)) hZ (by rw [Zb1]; exact Zni a n _) fun j hj=>ZD7 ok hf hn hm hj
theorem ZD9 {a:Alg} (ok:OkAlg a) (hf:X6 a) {n:Int} (hn:n≤36) {Z B T K O:List (List Int)} (hZ:IsKer (mons a.degrees (n+1+1)).length (mx a (n+1)) Z) (hB:IsRref (mons a.degrees (n+1)).length (mx a n) B)
    (hT:∀ t,t∈T→∃ z,z∈Z∧IsBy (mons a.degrees (n+1)).length B z t) (hT':∀ z,z∈Z→∃ t,t∈T∧IsBy (mons a.degrees (n+1)).length B z t) (hK:IsRref (mons a.degrees (n+1)).length T K) (hO:IsRref (mons a.degrees (n+1+1)).length (mx a (n+1)) O) :
    K.length+B.length+O.length=(mons a.degrees (n+1)).length:=by
  have hZr:Rref (mons a.degrees (n+1)).length Z:=by
    obtain ⟨R,_,h2⟩:=hZ
    rw [Zb1] at h2
    exact h2.1
  have h1:=Ztq hZr hB.red (ZD8 ok hf hn hZ hB) hT hT' hK
  have h2:=Zn6 (Zaw a (n+1)) hZ hO
  rw [Zb1] at h2
  omega
end Go.Proofs.YtaagfepgbofmlaaGreat
namespace Go.Proofs.YtaagfepgbofmlaaGreat
open Go Vc
theorem ZEa {n:Nat} {a:List Int} {K:Int→Prop} (hn:n≤1000000) (ha:RowOk n a∧vec a (ld a)=1) (h:K (ld a)):Zel a K:=by
  have hl:=Zh9 ha
  have hal:=ha.1.len
  unfold Zel Zd8
  refine Ys (fun i (s:Unit)=>∀ j,j < i→vec a j=0) a.length ?_ ?_ _ _ _ (by omega) (fun j hj=>by omega)
  · intro i s next hi g hn'
    show Zdn (a.getD i ZEx) _
    unfold Zdn
    rw [Zav]
    by_cases q:vec a i=0
    · rw [decide_eq_false (fun z=>z q)]
      refine Xc (by decide) (hn' _ fun j hj=>?_)
      by_cases e:j=i
      · subst e; exact q
      · exact g j (by omega)
    · rw [decide_eq_true q]
      refine Yw rfl ?_
      show K (i:Int)
      rw [← Zdq g q]; exact h
  · intro s g
    exact absurd (g _ (by omega)) (Zfq (by omega))
theorem ZEb {n:Nat} {row:List Int} {out:List (List Int)} {K:List Int→Prop} (hR:Rref n out) (hn:n≤1000000) (ho:out.length≤1000000) (hr:RowOk n row) (h:∀ r,IsBy n out row r→K r):Zdo row out K:=by
  unfold Zdo
  refine Zr0 (by rw [hr.len]; exact hn) ?_
  refine Ys (fun i (s:List Int)=>IsBy n (out.take i) row s) out.length ?_ ?_ _ _ _ (by omega) (by simpa using IsBy.nil hr)
  · intro i s next hi g hn'
    have hz:=hR.ok _ (Y1 (l:=out) hi)
    have hlz:=Zh9 hz
    refine ZEa hn hz ⟨⟨by omega,by rw [g.ok.len]; omega⟩,?_⟩
    rw [ZY4,Zav s]
    have hsp:out.take i++out.getD i ZEx::out.drop (i+1)=out:=by
      rw [show out.getD i ZEx=out[i] by simp [ZFf,hi],Z2l hi,ZIs]
    have hR':Rref n (out.take i++out.getD i ZEx::out.drop (i+1)):=by rw [hsp]; exact hR
    refine Zr1 g.ok hz.1 (g.ok.rng _) (hn' _ ?_)
    rw [X0 hi]; exact g.step hR'
  · intro s g
    rw [Z14] at g; exact h s g
theorem Ztu {m:Nat} {rows:List (List Int)} (hr:J4 m rows):∃ L,IsKer m rows L:=by
  obtain ⟨R,hR,_⟩:=Zcg (Znf hr)
  obtain ⟨L,hL,_⟩:=Zcg (Zr5 (m:=m) (n:=rows.length) (R:=R) fun a ha=>(hR.red.ok a ha).1)
  exact⟨L,R,hR,hL⟩
open Classical in
noncomputable def Zbn (n:Nat) (B Z:List (List Int)):List (List Int):=Z.map fun z=>if h:∃ r,IsBy n B z r then Z18 h else []
open Classical in
theorem Zn9 {n:Nat} {B:List (List Int)} (hB:Rref n B) {z r:List Int} (h:IsBy n B z r):(if h:∃ r,IsBy n B z r then Z18 h else [])=r:=by
  rw [dif_pos ⟨r,h⟩]
  exact(Z2b (⟨r,h⟩:∃ r,IsBy n B z r)).unique hB h
theorem Ztv {n:Nat} {B Z:List (List Int)} (hB:Rref n B) (hZ:J4 n Z):(∀ t,t∈Zbn n B Z→∃ z,z∈Z∧IsBy n B z t)∧(∀ z,z∈Z→∃ t,t∈Zbn n B Z∧IsBy n B z t):=by
  have ex:∀ z,z∈Z→∃ r,IsBy n B z r:=fun z hz=>by
    obtain ⟨r,h⟩:=Znz B [] z hB (IsBy.nil (hZ z hz))
    exact⟨r,h⟩
  refine⟨fun t ht=>?_,fun z hz=>?_⟩
  · obtain ⟨z,hz,rfl⟩:=ZF9.1 ht
    obtain ⟨r,h⟩:=ex z hz
    exact⟨z,hz,by rw [Zn9 hB h]; exact h⟩
  · obtain ⟨r,h⟩:=ex z hz
    exact⟨r,ZF9.2 ⟨z,hz,Zn9 hB h⟩,h⟩
theorem ZEc {n:Nat} {B Z:List (List Int)} {K:List (List Int)→Prop} (hB:Rref n B) (hZ:J4 n Z) (hn:n≤1000) (hb:B.length≤1000) (hz:Z.length≤1000) (h:K (Zbn n B Z)) :
    Yb (fun i10 (s10:(List (List Int))) nx10=>Zdo (Z.getD i10 ZEx) B (fun r10=>(Z7 (s10.length+1) 24∧nx10 (s10++[r10])))) (fun (s10:(List (List Int)))=>K s10) Z.length 0 []:=by
  refine Ys (fun i s=>s=Zbn n B (Z.take i)) Z.length ?_ ?_ _ _ _ (by omega) rfl
  · intro i s next hi hs hnx
    refine ZEb hB (by omega) (by omega) (hZ _ (Y1 hi)) fun r hr=>⟨?_,hnx _ ?_⟩
    · rw [hs,Zbn,Z10,ZTn]; unfold Z7; omega
    · rw [hs,X0 hi,Zbn,Zbn,ZTf]
      simp only [List.map_cons,List.map_nil]
      rw [Zn9 hB hr]
  · intro s hs; rw [hs,Z14]; exact h
end Go.Proofs.YtaagfepgbofmlaaGreat
namespace Go.Proofs.YtaagfepgbofmlaaGreat
open Go Vc
def Zoa (a:Alg):Cx where
  LV:=mons a.degrees
  PL n:=plc (mons a.degrees n) (mons a.degrees n).length
  MX n:=(mons a.degrees n).map fun m=>Zan a n [⟨m,1⟩]
  CL _:=[]
  BD _:=[]
  KL _:=[]
theorem Zob {a:Alg} (ok:OkAlg a) {n:Int} (hn:n≤40) (hf:Fits a.degrees n):Zek (Zoa a) a.degrees n :=
  Zri ok.deg hn (fun _=>⟨rfl,ZC0 _⟩) (fun no=>absurd hf no)
theorem ZEd (m:A8):IsMap [⟨m,1⟩] (Yh ([]:List (A8×Int)) m 1) :=
  ⟨Zmn m,fun x=>rfl,fun p hp=>by obtain rfl:=List.mem_singleton.1 hp; exact⟨_,List.mem_singleton_self _,rfl⟩⟩
theorem Ztw {a:Alg} (ok:OkAlg a) (hf:X6 a) {n:Int} (hn:0≤n∧n≤38) (f1:Fits a.degrees n) (f2:Fits a.degrees (n+1)):Zho (Zoa a) a n:=by
  unfold Zho Zj1
  have e:ZHd.wrap (n+1)=n+1:=i64_in _ (by omega)
  rw [e]
  refine⟨Zob ok (by omega) f1,⟨Zob ok (by omega) f2,?_⟩,trivial⟩
  have hl:(mons a.degrees n).length≤120:=f1
  refine Ys (fun i s=>s=((mons a.degrees n).take i).map fun m=>Zan a n [⟨m,1⟩]) (mons a.degrees n).length ?_ ?_ _ _ _ (ZG0 _) rfl
  · intro i s next hi hs hnx
    refine ZDd ok hf hn f1 f2 (Zsd (Y1 hi)) (ZEd _) ⟨?_,hnx _ ?_⟩
    · rw [hs,Z10,ZTn]; unfold Z7; omega
    · rw [X0 hi,ZTf,hs]; rfl
  · intro s hs; rw [hs,Z14]; exact⟨rfl,trivial⟩
end Go.Proofs.YtaagfepgbofmlaaGreat
namespace Go.Proofs.YtaagfepgbofmlaaGreat
open Go Vc
noncomputable def Zbo (a:Alg) (n:Int):List (List Int):=Z18 (Ztu (Zaw a n))
theorem Zii (a:Alg) (n:Int):IsKer (mons a.degrees (n+1)).length (mx a n) (Zbo a n):=Z2b (Ztu (Zaw a n))
open Classical in
noncomputable def bdR (a:Alg) (n:Int):List (List Int):=if 0 < n then Z18 (Zcg (Zaw a (n - 1))) else []
theorem Zij {a:Alg} {n:Int} (h:0 < n):IsRref (mons a.degrees n).length (mx a (n - 1)) (bdR a n):=by
  have:=(Z2b (Zcg (Zaw a (n - 1)))).1
  rw [bdR,if_pos h]
  have e:n - 1+1=n:=by omega
  revert this
  generalize Z18 (Zcg (Zaw a (n - 1)))=B
  intro this
  rw [e] at this
  exact this
theorem Zik {a:Alg} {n:Int} (h:¬ 0 < n):bdR a n=[]:=by rw [bdR,if_neg h]
theorem Zkx (a:Alg) (n:Int):Rref (mons a.degrees n).length (bdR a n):=by
  by_cases h:0 < n
  · exact(Zij h).red
  · rw [Zik h]; exact Rref.nil _
theorem Zky (a:Alg) (n:Int):Rref (mons a.degrees n).length (Zbo a n):=by
  obtain ⟨R,_,h2⟩:=Zii a n
  rw [Zb1] at h2
  exact h2.1
open Classical in
noncomputable def klR (a:Alg) (n:Int):List (List Int):=if h:∃ K,IsRref (mons a.degrees n).length (Zbn (mons a.degrees n).length (bdR a n) (Zbo a n)) K then Z18 h else []
theorem Ztx (a:Alg) (n:Int):J4 (mons a.degrees n).length (Zbn (mons a.degrees n).length (bdR a n) (Zbo a n)):=fun t ht=>by
  obtain ⟨z,_,h⟩:=(Ztv (Zkx a n) fun z hz=>((Zky a n).ok z hz).1).1 t ht
  exact h.ok
theorem Zoc (a:Alg) (n:Int):IsRref (mons a.degrees n).length (Zbn (mons a.degrees n).length (bdR a n) (Zbo a n)) (klR a n):=by
  obtain ⟨K,h,_⟩:=Zcg (Ztx a n)
  have h':∃ K,IsRref (mons a.degrees n).length (Zbn (mons a.degrees n).length (bdR a n) (Zbo a n)) K:=⟨K,h⟩
  rw [klR,dif_pos h']
  exact Z2b h'
noncomputable def CxR (a:Alg):Cx:={ Zoa a with CL:=Zbo a,BD:=bdR a,KL:=klR a }
theorem ZEe {a:Alg} (ok:OkAlg a) (hf:X6 a) {n:Int} (hn:0≤n∧n≤37) (f0:0 < n→Fits a.degrees (n - 1)) (f1:Fits a.degrees n) (f2:Fits a.degrees (n+1)):Zhy (CxR a) a n:=by
  have l1:(mons a.degrees n).length≤120:=f1
  have l2:(mons a.degrees (n+1)).length≤120:=f2
  have e1:ZHd.wrap (n+1)=n+1:=i64_in _ (by omega)
  have e2:ZHd.wrap (n - 1)=n - 1:=i64_in _ (by omega)
  have kz:=Zky a n
  have kl:(Zbo a n).length≤120:=by
    obtain ⟨o,ho,_⟩:=Zcg (Zaw a n)
    have:=Zn6 (Zaw a n) (Zii a n) ho
    rw [Zb1] at this; omega
  have kb:(bdR a n).length≤1000:=by
    by_cases h:0 < n
    · have l0:(mons a.degrees (n - 1)).length≤120:=f0 h
      have r:=Zaw a (n - 1)
      have e:n - 1+1=n:=by omega
      rw [e] at r
      have:=Ztn r (Zij h)
      rw [Zb1] at this; omega
    · rw [Zik h]; simp
  have rok:=Ztx a n
  have rl:(Zbn (mons a.degrees n).length (bdR a n) (Zbo a n)).length=(Zbo a n).length:=Z10 _
  unfold Zhy Zj3
  rw [e1,e2]
  refine⟨Ztw ok hf (by omega) f1 f2,⟨Zob ok (by omega) f2,?_⟩,trivial⟩
  refine ZCz (m:=(mons a.degrees (n+1)).length) (rows:=mx a n) (Zaw a n) (by omega) (by rw [Zb1]; omega) fun L hL hl=>⟨hL.unique (Zii a n),?_⟩
  have tail:Yb (fun i10 (s10:(List (List Int))) nx10=>Zdo ((Zbo a n).getD i10 ZEx) (bdR a n) (fun r10=>(Z7 (s10.length+1) 24∧nx10 (s10++[r10])))) (fun (s10:(List (List Int)))=>Zb0 s10 (fun r12=>(r12=klR a n∧True))) ((Zbo a n).length) 0 []:=by
    refine ZEc (K:=fun s10=>Zb0 s10 (fun r12=>(r12=klR a n∧True))) (Zkx a n) (fun z hz=>(kz.ok z hz).1) (by omega) kb (by omega) ?_
    exact Zkm rok (by omega) (by omega) fun out ho _=>⟨ho.unique (Zoc a n),trivial⟩
  by_cases h:n > 0
  · refine Yw h ⟨Ztw ok hf (by omega) (f0 h) (by rw [show n - 1+1=n by omega]; exact f1),?_⟩
    have r:=Zaw a (n - 1)
    have e:n - 1+1=n:=by omega
    rw [e] at r
    have l0:(mons a.degrees (n - 1)).length≤120:=f0 h
    exact Zkm (rows:=mx a (n - 1)) r (by omega) (by rw [Zb1]; omega) fun out ho _=>⟨ho.unique (Zij h),tail⟩
  · exact Xc h ⟨Zik h,tail⟩
end Go.Proofs.YtaagfepgbofmlaaGreat
namespace Go.Proofs.YtaagfepgbofmlaaGreat
open Go Vc
theorem ZEf {a:Alg} {n:Int} {K:List (List Int)→Prop} (ok:OkAlg a) (hf:X6 a) (hn:0≤n∧n≤38) (f1:Fits a.degrees n) (f2:Fits a.degrees (n+1)) (h:K (mx a n)):Zh3 a n K:=by
  have hd:=ok.deg
  have hl1:(mons a.degrees n).length≤120:=f1
  have hl2:(mons a.degrees (n+1)).length≤120:=f2
  unfold Zh3
  have e1:ZHd.wrap (n+1)=n+1:=i64_in _ (by omega)
  rw [e1]
  refine Zkc hd (by omega) (Zkc hd (by omega) ?_)
  rw [ZFw (by omega),ZFw (by omega)]
  refine Ys (fun i s=>s=((mons a.degrees n).take i).map fun m=>Zan a n [⟨m,1⟩]) (mons a.degrees n).length ?_ ?_ _ _ _ (by omega) rfl
  · intro i s next hi hs hnx
    refine Zmj (ZDc ok hf hn f1 f2 (Zsd (Y1 hi)) ⟨?_,hnx _ ?_⟩)
    · rw [hs,Z10,ZTn]; unfold Z7; omega
    · rw [X0 hi,ZTf,hs]; rfl
  · intro s hs; rw [hs,Z14]; exact h
end Go.Proofs.YtaagfepgbofmlaaGreat
namespace Go.Proofs.YtaagfepgbofmlaaGreat
open Go Vc
def Zch (a:Alg) (n:Int):Prop:=∀ j:Int,0≤j→j≤n+1→Fits a.degrees j
theorem ZEg {a : Alg} (hd : OkDeg a.degrees) {n : Int} (hn : 0 ≤ n ∧ n ≤ 20) {K : Bool → Prop} (h1 : Zch a n → K true) (h2 : ¬ Zch a n → K false) : Zhz a 0 (n + 1) K := by
  unfold Zhz
  rw [if_neg (by omega)]
  refine Jd (fun (s:Int)=>0≤s∧s≤n+2∧∀ j:Int,0≤j→j < s→Fits a.degrees j) (fun s=>(n+2 - s).toNat) ?_ ⟨by omega,by omega,fun j h1 h2=>by omega⟩
  rintro s next ⟨g1,g2,g3⟩ hx
  split
  · rename_i q
    refine Zkc hd (by omega) ?_
    split
    · rename_i q2
      refine h2 fun z=>?_
      have hs':(mons a.degrees s).length≤120:=z s g1 (by omega)
      rw [ZTn] at q2
      omega
    · rename_i q2
      rw [i64_in (s+1) (by omega)]
      refine hx _ ⟨by omega,by omega,fun j hj1 hj2=>?_⟩ (by omega)
      by_cases e:j=s
      · subst e
        show (mons a.degrees j).length≤120
        rw [ZTn] at q2; omega
      · exact g3 j hj1 (by omega)
  · rename_i q
    exact h1 fun j hj1 hj2=>g3 j hj1 (by omega)
theorem ZEh {a:Alg} (hd:OkDeg a.degrees) {n:Int} (hn:0≤n∧n≤20) {A E:Prop} (h1:Zch a n→E) (h2:¬ Zch a n→A) :
    Xh (fun (s11:Int) nx10=>(if s11 < ZHd.wrap (n+2) then Zej a.degrees s11 120 (fun r15 r13=>(if¬ (r13=true) then A else nx10 (ZHd.wrap (s11+1)))) else E)) 0:=by
  have e2:ZHd.wrap (n+2)=n+2:=i64_in _ (by omega)
  rw [e2]
  refine Jd (fun (s:Int)=>0≤s∧s≤n+2∧∀ j:Int,0≤j→j < s→Fits a.degrees j) (fun s=>(n+2 - s).toNat) ?_ ⟨by omega,by omega,fun j h1 h2=>by omega⟩
  rintro s next ⟨g1,g2,g3⟩ hx
  split
  · rename_i q
    refine Zri hd (by omega) (fun hf=>?_) (fun no l=>?_)
    · rw [if_neg (by simp),i64_in (s+1) (by omega)]
      refine hx _ ⟨by omega,by omega,fun j hj1 hj2=>?_⟩ (by omega)
      by_cases e:j=s
      · subst e; exact hf
      · exact g3 j hj1 (by omega)
    · exact Yw (by simp) (h2 fun z=>no (z s g1 (by omega)))
  · rename_i q
    exact h1 fun j hj1 hj2=>g3 j hj1 (by omega)
end Go.Proofs.YtaagfepgbofmlaaGreat
namespace Go.Proofs.YtaagfepgbofmlaaGreat
open Go Vc
theorem ZEi {a:Alg} {n:Int} {K:Int→Prop} (ok:OkAlg a) (hf:X6 a) (hn:0≤n∧n≤38) (f1:Fits a.degrees n) (f2:Fits a.degrees (n+1)) (h:∀ O,IsRref (mons a.degrees (n+1)).length (mx a n) O→K (O.length:Int)):Zfp a n K:=by
  have hl1:(mons a.degrees n).length≤120:=f1
  have hl2:(mons a.degrees (n+1)).length≤120:=f2
  unfold Zfp
  rw [if_neg (by omega)]
  exact ZEf ok hf hn f1 f2 (ZCq (Zaw a n) (by omega) (by rw [Zb1]; omega) fun O hO _=>h O hO)
theorem ZEj {a:Alg} (ok:OkAlg a) (hf:X6 a) {k:Int} (hk:0≤k∧k≤36) {O:List (List Int)} (hO:IsRref (mons a.degrees (k+1)).length (mx a k) O):(klR a k).length+(bdR a k).length+O.length=(mons a.degrees k).length:=by
  have hr:=Ztv (Zkx a k) (fun z hz=>((Zky a k).ok z hz).1)
  by_cases h:0 < k
  · obtain ⟨j,rfl⟩:∃ j,k=j+1:=⟨k - 1,by omega⟩
    have hB:=Zij (a:=a) h
    have e:j+1 - 1=j:=by omega
    rw [e] at hB
    exact ZD9 ok hf (by omega) (Zii a (j+1)) hB hr.1 hr.2 (Zoc a (j+1)) hO
  · have hb:=Zik (a:=a) h
    have h1:=Ztq (Zky a k) (Zkx a k) (fun x hx=>by rw [hb] at hx; cases hx) hr.1 hr.2 (Zoc a k)
    have h2:=Zn6 (Zaw a k) (Zii a k) hO
    rw [Zb1] at h2
    omega
noncomputable def bts (a:Alg) (k:Nat):List Int:=(ZFg k).map fun (i:Nat)=>((klR a (i:Int)).length:Int)
theorem Zty (a:Alg) (k:Nat):bts a (k+1)=bts a k++[((klR a (k:Int)).length:Int)]:=by
  rw [bts,Z2k,ZTf]; rfl
theorem ZEk {a:Alg} (ok:OkAlg a) (hf:X6 a) {n:Int} (hn:0≤n∧n≤20) (low:Zch a n) {K:List Int→Int→Prop} (h:K (bts a (n+1).toNat) 0) :
    Xh (fun (s10:(List Int)×Int) nx11=>(if s10.2 < ZHd.wrap (n+1) then(Zhy (CxR a) (⟨a.degrees,a.images⟩:Alg) s10.2∧(Z7 (s10.1.length+1) 8∧nx11 (s10.1++[(((CxR a).KL s10.2).length:Int)],ZHd.wrap (s10.2+1)))) else K s10.1 0)) ([],0):=by
  rw [i64_in (n+1) (by omega)]
  refine Jd (fun (s:(List Int)×Int)=>0≤s.2∧s.2≤n+1∧s.1=bts a s.2.toNat) (fun s=>(n+1 - s.2).toNat) ?_ ⟨ZTm _,by dsimp only; omega,rfl⟩
  rintro ⟨l,s⟩ next ⟨g1,g2,g3⟩ hx
  dsimp only at g1 g2 g3 ⊢
  split
  · rename_i q
    have hl:l.length=s.toNat:=by rw [g3]; simp [bts]
    refine⟨ZEe ok hf (by omega) (fun _=>low _ (by omega) (by omega)) (low _ (by omega) (by omega)) (low _ (by omega) (by omega)),?_,?_⟩
    · rw [hl]; unfold Z7; omega
    · rw [i64_in (s+1) (by omega)]
      refine hx _ ⟨by dsimp only; omega,by dsimp only; omega,?_⟩ (by dsimp only; omega)
      dsimp only
      have e:(s+1).toNat=s.toNat+1:=by omega
      have e2:((s.toNat:Nat):Int)=s:=by omega
      rw [e,Zty,← g3,e2]; rfl
  · rename_i q
    have:s=n+1:=by omega
    rw [g3,this]; exact h
theorem ZEl {a:Alg} (ok:OkAlg a) (hf:X6 a) {n:Int} (hn:0≤n∧n≤20) (low:Zch a n) {K:List Int→Int→Prop} (h:K (bts a (n+1).toNat) 0) :
    Xh (fun (s10:(List Int)×Int×Int) nx10=>(if s10.2.2≤n then Zfp (⟨a.degrees,a.images⟩:Alg) s10.2.2 (fun r10=>Zc1 a.degrees s10.2.2 (fun r11=>(Z7 (s10.1.length+1) 8∧nx10 (s10.1++[ZHd.wrap ((ZHd.wrap ((r11.length:Int) - r10)) - s10.2.1)],r10,ZHd.wrap (s10.2.2+1))))) else K s10.1 0)) ([],0,0):=by
  refine Jd (fun (s:(List Int)×Int×Int)=>0≤s.2.2∧s.2.2≤n+1∧s.1=bts a s.2.2.toNat∧s.2.1=((bdR a s.2.2).length:Int)) (fun s=>(n+1 - s.2.2).toNat) ?_ ⟨ZTm _,by dsimp only; omega,rfl,by dsimp only; rw [Zik (by omega)]; rfl⟩
  rintro ⟨l,p,s⟩ next ⟨g1,g2,g3,g4⟩ hx
  dsimp only at g1 g2 g3 g4 ⊢
  split
  · rename_i q
    have hl:l.length=s.toNat:=by rw [g3]; simp [bts]
    have f1:Fits a.degrees s:=low _ (by omega) (by omega)
    have f1':(mons a.degrees s).length≤120:=f1
    refine ZEi (a:=a) ok hf (by omega) f1 (low _ (by omega) (by omega)) fun O hO=>?_
    refine Zkc ok.deg (by omega) ?_
    rw [ZFw (by omega)]
    have kd:=ZEj ok hf (by omega) hO
    refine⟨by rw [hl]; unfold Z7; omega,?_⟩
    rw [g4,i64_in (((mons a.degrees s).length:Int) - (O.length:Int)) (by omega),i64_in _ (by omega),i64_in (s+1) (by omega)]
    have hb:O=bdR a (s+1):=by
      have:=Zij (a:=a) (n:=s+1) (by omega)
      rw [show s+1 - 1=s by omega] at this
      exact hO.unique this
    refine hx _ ⟨by dsimp only; omega,by dsimp only; omega,?_,by dsimp only; rw [hb]⟩ (by dsimp only; omega)
    dsimp only
    have e:(s+1).toNat=s.toNat+1:=by omega
    have e2:((s.toNat:Nat):Int)=s:=by omega
    rw [e,Zty,← g3,e2]
    congr 2
    omega
  · rename_i q
    have:s=n+1:=by omega
    rw [g3,this]; exact h
end Go.Proofs.YtaagfepgbofmlaaGreat
namespace Go.Proofs.YtaagfepgbofmlaaGreat
open Go Vc
def Zes (l:List Int):Nat→Int
  | 0=>0
  | k+1=>ZHd.wrap (Zes l k+ZHd.wrap ((if(k:Int) % 2=0 then 1 else -1) * l.getD k ZEx))
theorem ZEm {l:List Int} {K:Int→Int→Prop} (hl:l.length≤1000) (h:K (Zes l l.length) 0) :
    Yb (fun i10 (s10:Int×Int) nx10=>nx10 (ZHd.wrap (s10.1+(ZHd.wrap (s10.2 * (l.getD i10 ZEx)))),ZHd.wrap (0 - s10.2))) (fun (s10:Int×Int)=>K s10.1 0) l.length 0 (0,1):=by
  refine Ys (fun i (s:Int×Int)=>s.1=Zes l i∧s.2=if(i:Int) % 2=0 then 1 else -1) l.length ?_ ?_ _ _ _ (by omega) ⟨rfl,rfl⟩
  · rintro i ⟨s,t⟩ next hi ⟨g1,g2⟩ hnx
    dsimp only at g1 g2 hnx ⊢
    refine hnx _ ⟨by dsimp only; rw [g1,g2]; rfl,?_⟩
    dsimp only
    rw [g2]
    by_cases c:(i:Int) % 2=0
    · rw [if_pos c,if_neg (by omega)]; exact i64_in _ (by omega)
    · rw [if_neg c,if_pos (by omega)]; exact i64_in _ (by omega)
  · rintro s ⟨g1,_⟩; rw [g1]; exact h
theorem ZEn {l:List Int} {K:Int→Int→Prop} (hl:l.length≤1000) (h:K (Zes l l.length) 0) :
    Yb (fun i10 (s10:Int) nx10=>nx10 (ZHd.wrap (s10+(ZHd.wrap ((l.getD i10 ZEx) * (ZHd.wrap (1 - (ZHd.wrap (2 * (Int.tmod (i10:Int) 2)))))))))) (fun (s10:Int)=>K s10 0) l.length 0 0:=by
  refine Ys (fun i (s:Int)=>s=Zes l i) l.length ?_ ?_ _ _ _ (by omega) rfl
  · intro i s next hi g hnx
    have e:ZHd.wrap (1 - (ZHd.wrap (2 * (Int.tmod (i:Int) 2))))=if(i:Int) % 2=0 then 1 else -1:=by
      rw [ZPg (by omega),i64_in (2 * ((i:Int) % 2)) (by omega),i64_in _ (by omega)]
      split <;> omega
    refine hnx _ ?_
    rw [e,g,ZYq]; rfl
  · intro s g; rw [g]; exact h
end Go.Proofs.YtaagfepgbofmlaaGreat
namespace Go.Proofs.YtaagfepgbofmlaaGreat
open Go Vc
theorem Zkz {a : Alg} {n : Int} {K : Int → Int → Prop} (hf : X6 a) (h1 : ¬ OkAlg a → K 0 1) (h2 : OkAlg a → ¬ (0 ≤ n ∧ n ≤ 20) → K 0 2) (h3 : OkAlg a → (0 ≤ n ∧ n ≤ 20) → ¬ Zch a n → K 0 3)
    (h4:OkAlg a→(0≤n∧n≤20)→Zch a n→K (Zes (bts a (n+1).toNat) (bts a (n+1).toNat).length) 0):Zh5 a n K:=by
  unfold Zh5 Zj8 Zj7
  refine Zyz hf (fun ok=>Zjf (Zju (Zrf ?_))) (fun no=>Zjf (Zju (Zrf ?_)))
  · by_cases hn:0≤n∧n≤20
    · have e:(if(0:Int)≠0 then(0:Int) else if(!decide (0≤n∧n≤20))=true then 2 else 0)=0:=by rw [decide_eq_true hn]; rfl
      rw [e]
      refine Yw rfl (ZEh ok.deg hn (fun low=>?_) (fun no=>?_))
      · refine⟨CxR a,ZEk (K:=fun r10 r11=>(if r11≠0 then K 0 r11 else Yb (fun i10 (s10:Int) nx10=>nx10 (ZHd.wrap (s10+(ZHd.wrap ((r10.getD i10 ZEx) * (ZHd.wrap (1 - (ZHd.wrap (2 * (Int.tmod (i10:Int) 2)))))))))) (fun (s10:Int)=>K s10 0) r10.length 0 0)) ok hf hn low ?_⟩
        refine Xc (by decide) (ZEn ?_ (h4 ok hn low))
        simp [bts]; omega
      · exact Yw (by decide) (h3 ok hn no)
    · have e:(if(0:Int)≠0 then(0:Int) else if(!decide (0≤n∧n≤20))=true then 2 else 0)=2:=by rw [decide_eq_false hn]; rfl
      rw [e]
      exact Xc (by decide) (Yw (by decide) (h2 ok hn))
  · have e:(if(1:Int)≠0 then(1:Int) else if(!decide (0≤n∧n≤20))=true then 2 else 0)=1:=if_pos (by decide)
    rw [e]
    exact Xc (by decide) (Yw (by decide) (h1 no))
theorem ZEo {a : Alg} {n : Int} {K : Int → Int → Prop} (hf : X6 a) (h1 : ¬ OkAlg a → K 0 1) (h2 : OkAlg a → ¬ (0 ≤ n ∧ n ≤ 20) → K 0 2) (h3 : OkAlg a → (0 ≤ n ∧ n ≤ 20) → ¬ Zch a n → K 0 3)
    (h4:OkAlg a→(0≤n∧n≤20)→Zch a n→K (Zes (bts a (n+1).toNat) (bts a (n+1).toNat).length) 0):Zh4 a n K:=by
  unfold Zh4 Zj6 Zj5
  refine Zyx hf (fun ok=>?_) (fun no=>?_)
  · refine Xc (by decide) (Zl4 ?_)
    by_cases hn:0≤n∧n≤20
    · refine Xc (by simpa using hn) ?_
      rw [i64_in (n+1) (by omega)]
      refine ZEg ok.deg hn (fun low=>?_) (fun no=>?_)
      · refine Xc (by decide) (Xc (by decide) ?_)
        refine ZEl (K:=fun r10 r11=>(if r11≠0 then K 0 r11 else Yb (fun i10 (s10:Int×Int) nx10=>nx10 (ZHd.wrap (s10.1+(ZHd.wrap (s10.2 * (r10.getD i10 ZEx)))),ZHd.wrap (0 - s10.2))) (fun (s10:Int×Int)=>K s10.1 0) r10.length 0 (0,1))) ok hf hn low ?_
        refine Xc (by decide) (ZEm ?_ (h4 ok hn low))
        simp [bts]; omega
      · exact Yw (by decide) (Yw (by decide) (Yw (by decide) (h3 ok hn no)))
    · exact Yw (by simpa using hn) (Yw (by decide) (Yw (by decide) (h2 ok hn)))
  · exact Yw (by decide) (Yw (by decide) (Yw (by decide) (h1 no)))
theorem ZEp (a0:Alg) (a1:Int) (hg:GoodAlg a0) (g1:(Lit.int .i64 a1).wf=true) (hb:LenAlg a0):Zj9 a0 a1 (fun r=>r=true):=by
  unfold Zj9
  refine Zy3 hb (fun r hr d1 d2 d3=>?_) (fun r hr=>by rw [if_pos hr])
  rw [if_neg (by omega)]
  have hf:=hg.fit d3
  refine Zcx d1 d2 d3 ?_
  refine ZEo hf (fun no=>?_) (fun ok no=>?_) (fun ok hi no=>?_) (fun ok hi low=>?_)
  · exact Zcx d1 d2 d3 (Zkz hf (fun _=>Zdj (Zdj (Zcx d1 d2 d3 (Zjw (Zjv rfl))))) (fun ok=>absurd ok no) (fun ok=>absurd ok no) (fun ok=>absurd ok no))
  · exact Zcx d1 d2 d3 (Zkz hf (fun z=>absurd ok z) (fun _ _=>Zdj (Zdj (Zcx d1 d2 d3 (Zjw (Zjv rfl))))) (fun _ z=>absurd z no) (fun _ z=>absurd z no))
  · exact Zcx d1 d2 d3 (Zkz hf (fun z=>absurd ok z) (fun _ z=>absurd hi z) (fun _ _ _=>Zdj (Zdj (Zcx d1 d2 d3 (Zjw (Zjv rfl))))) (fun _ _ z=>absurd z no))
  · exact Zcx d1 d2 d3 (Zkz hf (fun z=>absurd ok z) (fun _ z=>absurd hi z) (fun _ _ z=>absurd low z) (fun _ _ _=>Zdj (Zdj (Zcx d1 d2 d3 (Zjw (Zjv rfl))))))
end Go.Proofs.YtaagfepgbofmlaaGreat
