import Derived.Test.YtaagfepgbofmlaaGreatQ6
set_option linter.unusedSectionVars false
set_option linter.unusedSimpArgs false
set_option linter.unusedVariables false
open Decidable renaming not_not→ZPz,byContradiction→Z38
open Go.IntKind renaming i64→ZG5
open Inhabited renaming default→ZEo
open Int renaming toNat_natCast→Z3p,mul_emod→ZSh,zero_add→ZO0,tmod→ZFf,mul_comm→Z3q,tmod_eq_emod_of_nonneg→ZO4,add_zero→ZSd,mul_assoc→Z3t,emod_emod→Z3u,le_refl→ZSg,mul_nonneg→ZS3,mul_le_mul_of_nonneg_right→Z0b,add_emod→ZSx
open List renaming getD→ZEy,length_map→Z3n,length_take→ZGs,take_length→Z3o,mem_map→ZF2,mem_cons→ZEk,map_append→ZSi,length_set→ZFs,length_append→ZEz,pairwise_cons→ZFb,mem_singleton→ZFz,mem_append→ZEv,replicate→ZEj,length_drop→ZFy,length_cons→ZHf,mem_cons_of_mem→ZSc,take_of_length_le→ZFo,getElem_of_mem→ZEx,pairwise_append→ZP5,mem_append_left→ZFa,mem_append_right→ZE5,pairwise_map→ZS6,ext_getElem→ZHb,pairwise_iff_getElem→ZEq,length_singleton→Z3w,nil_append→Z3x,filter_append→Z3y,filter_cons_of_pos→Z3z,filter_cons_of_neg→Z30,append_nil→ZXj,take_append_drop→ZIl,mem_range→ZGd,length_filter_le→Z33,length_replicate→ZSp,mem_cons_self→ZSo,mem_of_mem_drop→Z35,eq_nil_of_length_eq_zero→ZTz
open List.Pairwise renaming nil→ZP4
open Nat renaming le_refl→ZEn,lt_trichotomy→Z3v,lt_or_ge→ZFu,le_trans→ZEp
open Prod renaming fst→ZFr
open Vc.A8 renaming get_set→ZO2,get_add→Z3r,get_mkf→Z3s
namespace Go.Proofs.YtaagfepgbofmlaaGreat
open Go Vc
theorem Zd4:∀ (l xs ys:List Int) (x y:Int),y < x→Jv (l++x::xs) (l++y::ys) < 0:=by
  intro l
  induction l with
  | nil=>intro xs ys x y h; simp only [Z3x,Jv]; split <;> (try split) <;> omega
  | cons a l ih=>intro xs ys x y h; simp only [List.cons_append,Jv]; split <;> (try split) <;> first | omega | exact ih xs ys x y h
theorem ZCa {a b:A8} {i:Nat} (hi:i < 8) (h:∀ q,q < i→a.get q=b.get q) (hg:b.get i < a.get i):pcmp a b < 0:=by
  have hl:∀ c:A8,c.list=[c.get 0,c.get 1,c.get 2,c.get 3,c.get 4,c.get 5,c.get 6,c.get 7]:=fun _=>rfl
  unfold pcmp
  rw [hl a,hl b]
  match i,hi with
  | 0,_=>exact Zd4 [] _ _ _ _ hg
  | 1,_=>rw [h 0 (by omega)]; exact Zd4 [_] _ _ _ _ hg
  | 2,_=>rw [h 0 (by omega),h 1 (by omega)]; exact Zd4 [_,_] _ _ _ _ hg
  | 3,_=>rw [h 0 (by omega),h 1 (by omega),h 2 (by omega)]; exact Zd4 [_,_,_] _ _ _ _ hg
  | 4,_=>rw [h 0 (by omega),h 1 (by omega),h 2 (by omega),h 3 (by omega)]; exact Zd4 [_,_,_,_] _ _ _ _ hg
  | 5,_=>rw [h 0 (by omega),h 1 (by omega),h 2 (by omega),h 3 (by omega),h 4 (by omega)]; exact Zd4 [_,_,_,_,_] _ _ _ _ hg
  | 6,_=>rw [h 0 (by omega),h 1 (by omega),h 2 (by omega),h 3 (by omega),h 4 (by omega),h 5 (by omega)]; exact Zd4 [_,_,_,_,_,_] _ _ _ _ hg
  | 7,_=>rw [h 0 (by omega),h 1 (by omega),h 2 (by omega),h 3 (by omega),h 4 (by omega),h 5 (by omega),h 6 (by omega)]; exact Zd4 [_,_,_,_,_,_,_] _ _ _ _ hg
theorem Zoh {ds:List Int}:∀ (f i:Nat) (m:A8) (n:Int),i+f=ds.length→ds.length≤8→∀ p,p∈X2 ds f i m n→∀ q,q < i→p.get q=m.get q:=by
  intro f
  induction f with
  | zero =>
    intro i m n hi h8 p hp q hq
    unfold X2 at hp
    split at hp
    · rw [ZFz.1 hp]
    · simp at hp
  | succ f ih =>
    intro i m n hi h8 p hp q hq
    rw [X2] at hp
    obtain ⟨k,hk,hp⟩:=Zln hp
    have:=ih (i+1) _ _ (by omega) h8 p hp q (by omega)
    rw [this,ZO2 (by omega),if_neg (by omega)]
theorem ZCb {ds:List Int} {f i:Nat} {m:A8} {n k:Int} (hi:i+(f+1)=ds.length) (h8:ds.length≤8) {p:A8} (hp:p∈X2 ds f (i+1) (m.set i k) n):p.get i=k:=by
  have:=Zoh f (i+1) (m.set i k) n (by omega) h8 p hp i (by omega)
  rw [this,ZO2 (by omega),if_pos rfl]
theorem ZCc {g:Int→List A8} {i:Nat} (hi:i < 8) (hag:∀ k k':Int,∀ a,a∈g k→∀ b,b∈g k'→∀ q,q < i→a.get q=b.get q) (hat:∀ k:Int,∀ a,a∈g k→a.get i=k) (hs:∀ k:Int,(g k).Pairwise (fun a b=>pcmp a b < 0)) :
    ∀ t,(Zaq g t).Pairwise (fun a b=>pcmp a b < 0):=by
  intro t
  induction t with
  | zero=>exact ZP4
  | succ t ih =>
    rw [Zaq]
    refine ZP5.2 ⟨hs _,ih,fun a ha b hb=>?_⟩
    obtain ⟨k,hk,hb⟩:=Zln hb
    refine ZCa hi (hag _ _ a ha b hb) ?_
    rw [hat _ a ha,hat _ b hb]; omega
theorem ZCd {ds:List Int} (h8:ds.length≤8):∀ (f i:Nat) (m:A8) (n:Int),i+f=ds.length→(X2 ds f i m n).Pairwise (fun a b=>pcmp a b < 0):=by
  intro f
  induction f with
  | zero =>
    intro i m n hi
    unfold X2
    split
    · exact List.pairwise_singleton _ _
    · exact ZP4
  | succ f ih =>
    intro i m n hi
    rw [X2]
    refine ZCc (i:=i) (by omega) (fun k k' a ha b hb q hq=>?_) (fun k a ha=>ZCb hi h8 ha) (fun k=>ih (i+1) _ _ (by omega)) _
    have e1:=Zoh f (i+1) _ _ (by omega) h8 a ha q (by omega)
    have e2:=Zoh f (i+1) _ _ (by omega) h8 b hb q (by omega)
    rw [e1,e2,ZO2 (by omega),ZO2 (by omega),if_neg (by omega),if_neg (by omega)]
theorem Zoi {ds:List Int} (h8:ds.length≤8) (n:Int):(mons ds n).Pairwise (fun a b=>pcmp a b < 0):=by
  unfold mons
  split
  · exact ZP4
  · exact ZCd h8 _ _ _ _ (by omega)
def Zb0 (ds:List Int) (p:A8):Nat→Nat→Int
  | 0,_=>0
  | r+1,j=>ds.getD j ZEo * p.get j+Zb0 ds p r (j+1)
theorem Zsj {ds:List Int} (hd:OkDeg ds) {p:A8} (hp:∀ i,i < 8→0≤p.get i):∀ r j,j+r=ds.length→0≤Zb0 ds p r j:=by
  intro r
  induction r with
  | zero=>intro j _; exact ZSg _
  | succ r ih =>
    intro j hj
    have h8:=hd.1
    have:=ih (j+1) (by omega)
    have h1:=ZS3 (a:=ds.getD j ZEo) (b:=p.get j) (by have:=hd.2 j (by omega); omega) (hp j (by omega))
    simp only [Zb0]; omega
theorem ZCe {g:Int→List A8} {p:A8} {k:Nat} (hp:p∈g k):∀ t,k < t→p∈Zaq g t:=by
  intro t
  induction t with
  | zero=>intro h; omega
  | succ t ih =>
    intro h
    rw [Zaq]
    by_cases e:k=t
    · subst e; exact ZFa _ hp
    · exact ZE5 _ (ih (by omega))
theorem ZCf {ds : List Int} (hd : OkDeg ds) {p : A8} (hp : ∀ i, i < 8 → 0 ≤ p.get i) (hm : OkMono ds p) : ∀ (f i : Nat) (m : A8) (n : Int), i + f = ds.length → (∀ q, q < 8 → m.get q = if q < i then p.get q else 0) → Zb0 ds p f i = n → p ∈ X2 ds f i m n := by
  intro f
  induction f with
  | zero =>
    intro i m n hi hag hn
    unfold X2
    simp only [Zb0] at hn
    rw [if_pos hn.symm,ZFz]
    refine A8.ext_get fun q hq=>?_
    rw [hag q hq]
    split
    · rfl
    · exact(hm q hq).2 (by omega)
  | succ f ih =>
    intro i m n hi hag hn
    have h8:=hd.1
    have hdi:=hd.2 i (by omega)
    have hpi:=hp i (by omega)
    have hmi:=(hm i (by omega)).1 (by omega)
    simp only [Zb0] at hn
    have hr:=Zsj hd hp f (i+1) (by omega)
    rw [X2]
    have hk:p.get i≤n / ds.getD i ZEo:=Int.le_ediv_of_mul_le (by omega) (by rw [Z3q]; omega)
    have htop:p.get i≤Jf (ds.getD i ZEo) n:=by
      unfold Jf
      by_cases o:ds.getD i ZEo % 2=1
      · have h1:=hmi.2 (by rw [ZO4 (by omega)]; omega)
        rw [if_pos o]
        generalize n / ds.getD i ZEo=t at *
        repeat' split
        all_goals omega
      · rw [if_neg o]
        generalize n / ds.getD i ZEo=t at *
        repeat' split
        all_goals omega
    refine ZCe (k:=(p.get i).toNat) ?_ _ (by omega)
    have e:(((p.get i).toNat:Nat):Int)=p.get i:=by omega
    rw [e]
    refine ih (i+1) _ _ (by omega) (fun q hq=>?_) ?_
    · rw [ZO2 (by omega)]
      by_cases c:q=i
      · subst c; rw [if_pos rfl,if_pos (by omega)]
      · rw [if_neg c,hag q hq]
        by_cases c2:q < i
        · rw [if_pos c2,if_pos (by omega)]
        · rw [if_neg c2,if_neg (by omega)]
    · rw [Z3q (p.get i)]; omega
theorem ZCg (ds:List Int) (p:A8):∀ (r j:Nat),Zb0 ds p (r+1) j=Zb0 ds p r j+ds.getD (j+r) ZEo * p.get (j+r):=by
  intro r
  induction r with
  | zero=>intro j; simp [Zb0]
  | succ r ih =>
    intro j
    rw [Zb0,ih (j+1),show j+1+r=j+(r+1) by omega]
    simp only [Zb0]; omega
theorem Zsk (ds:List Int) (p:A8):∀ k,Zb0 ds p k 0=wtU ds p k:=by
  intro k
  induction k with
  | zero=>rfl
  | succ k ih=>rw [ZCg,ih,Nat.zero_add,wtU]
theorem ZCh {ds:List Int} (hd:OkDeg ds) {p:A8} (hp:∀ i,i < 8→0≤p.get i) (hm:OkMono ds p):p∈mons ds (wtU ds p ds.length):=by
  have h0:=Zsj hd hp ds.length 0 (by omega)
  rw [Zsk] at h0
  unfold mons
  rw [if_neg (by omega)]
  exact ZCf hd hp hm _ _ _ _ (by omega) (fun q hq=>by rw [A8.get_zero,if_neg (by omega)]) (Zsk ds p _)
def Zlq (m:A8) (i:Nat):A8:=A8.mkf fun j=>if i < j then m.get j else if j=i then m.get i - 1 else 0
theorem Zoj (ds:List Int) (a b:A8):∀ k,wtU ds (a.add b) k=wtU ds a k+wtU ds b k:=by
  intro k
  induction k with
  | zero=>rfl
  | succ k ih=>simp only [wtU]; rw [ih,Z3r,Int.mul_add]; omega
theorem ZCi (ds : List Int) (m : A8) (j : Nat) : ∀ k, k ≤ 8 → wtU ds ((Jc m j).add (Zlq m j)) k = wtU ds m k - if j < k then ds.getD j ZEo else 0 := by
  intro k
  induction k with
  | zero=>intro _; simp [wtU]
  | succ k ih =>
    intro hk
    simp only [wtU]
    rw [ih (by omega),Z3r,Jc,Zlq,Z3s _ (by omega),Z3s _ (by omega)]
    by_cases c1:k < j
    · rw [if_pos c1,if_neg (by omega),if_neg (by omega),if_neg (by omega),if_neg (by omega),ZSd]; omega
    · by_cases c2:k=j
      · subst c2
        rw [if_neg (by omega),if_neg (by omega),if_neg (by omega),if_pos rfl,if_pos (by omega),ZO0,Int.mul_sub,Int.mul_one]; omega
      · rw [if_neg c1,if_pos (by omega),if_pos (by omega),if_pos (by omega),ZO0]; omega
theorem Zsl {ds:List Int} (hd:OkDeg ds) {y:A8} (hp:∀ q,q < 8→0≤y.get q):∀ k,k≤ds.length→0≤wtU ds y k∧∀ q,q < k→y.get q≤wtU ds y k:=by
  intro k
  induction k with
  | zero=>intro _; exact⟨ZSg _,fun q hq=>by omega⟩
  | succ k ih =>
    intro hk
    have h8:=hd.1
    obtain ⟨i1,i2⟩:=ih (by omega)
    have hdk:=hd.2 k (by omega)
    have hy:=hp k (by omega)
    have hm:y.get k≤ds.getD k ZEo * y.get k:=by
      have:=Z0b (a:=1) (b:=ds.getD k ZEo) (c:=y.get k) (by omega) hy
      rwa [Int.one_mul] at this
    simp only [wtU]
    refine⟨by omega,fun q hq=>?_⟩
    by_cases c:q=k
    · subst c; omega
    · have:=i2 q (by omega); omega
theorem ZCj {ds:List Int} {m:A8} {i:Nat} {k:Int} (hi:i < 8):∀ j,j≤i→wtU ds (m.set i k) j=wtU ds m j:=by
  intro j
  induction j with
  | zero=>intro _; rfl
  | succ j ih=>intro hj; simp only [wtU]; rw [ih (by omega),ZO2 hi,if_neg (by omega)]
theorem Zsm {ds : List Int} (hd : OkDeg ds) : ∀ (f i : Nat) (m : A8) (n : Int), i + f = ds.length → 0 ≤ n → (∀ q, q < 8 → i ≤ q → m.get q = 0) → (∀ q, q < i → m.get q ≤ 20 ∧ (ZFf (ds.getD q ZEo) 2 ≠ 0 → m.get q ≤ 1)) → ∀ p, p ∈ X2 ds f i m n → OkMono ds p ∧ wtU ds p ds.length = wtU ds m i + n := by
  intro f
  induction f with
  | zero =>
    intro i m n hi hn h0 h1 p hp
    unfold X2 at hp
    split at hp
    · rename_i e
      rw [ZFz.1 hp]
      refine⟨fun q hq=>⟨fun hl=>h1 q (by omega),fun hl=>h0 q hq (by omega)⟩,?_⟩
      rw [show ds.length=i by omega,e,ZSd]
    · simp at hp
  | succ f ih =>
    intro i m n hi hn h0 h1 p hp
    have h8:=hd.1
    have hdi:=hd.2 i (by omega)
    obtain ⟨t0,t20,tn⟩:=Zlm (d:=ds.getD i ZEo) (n:=n) hdi.1 hn
    rw [X2] at hp
    obtain ⟨k,hk,hp⟩:=Zln hp
    have hkt:(k:Int)≤Jf (ds.getD i ZEo) n:=by omega
    have hkd:(k:Int) * ds.getD i ZEo≤n:=Int.le_trans (Z0b hkt (by omega)) tn
    have odd1:ZFf (ds.getD i ZEo) 2≠0→(k:Int)≤1:=fun o=>by
      rw [ZO4 (by omega)] at o
      have:Jf (ds.getD i ZEo) n≤1:=by
        unfold Jf
        rw [if_pos (by omega)]
        clear hkt hkd hp t0 t20 tn hk
        generalize n / ds.getD i ZEo=q at *
        repeat' split
        all_goals omega
      omega
    obtain ⟨r1,r2⟩:=ih (i+1) (m.set i k) (n - k * ds.getD i ZEo) (by omega) (by omega) (fun q hq hq2=>by rw [ZO2 (by omega),if_neg (by omega)]; exact h0 q hq (by omega)) (fun q hq=>by
      rw [ZO2 (by omega)]
      by_cases e:q=i
      · subst e; rw [if_pos rfl]; exact⟨by omega,odd1⟩
      · rw [if_neg e]; exact h1 q (by omega)) p hp
    refine⟨r1,?_⟩
    rw [r2,wtU,ZCj (by omega) i (ZEn _),ZO2 (by omega),if_pos rfl,Z3q (k:Int)]
    omega
theorem Zok {ds:List Int} (hd:OkDeg ds) {n:Int} {p:A8} (h:p∈mons ds n):OkMono ds p∧wtU ds p ds.length=n∧Zi4 p:=by
  refine⟨?_,?_,Zlo hd p h⟩ <;> (unfold mons at h; split at h; · simp at h)
  · exact(Zsm hd _ _ _ _ (by omega) (by omega) (fun q hq _=>A8.get_zero ..) (fun q hq=>by omega) p h).1
  · have:=(Zsm hd _ _ _ _ (by omega) (by omega) (fun q hq _=>A8.get_zero ..) (fun q hq=>by omega) p h).2
    rw [this]; simp [wtU]
theorem ZCk {p:A8} (h:Zi4 p):Zaz .u8 p:=fun x hx=>by
  obtain ⟨i,hi,rfl⟩:=A8.mem_list.1 hx
  have:=h i hi
  simp only [Fit,Lit.wf,Bool.and_eq_true,decide_eq_true_eq]
  simp [IntKind.min,IntKind.max,IntKind.signed,IntKind.bits]
  omega
theorem ZCl {m:A8} {j:Nat}:(leftA m j).add (backA m j)=(Jc m j).add (Zlq m j):=A8.ext_get fun q hq=>by
  rw [Z3r,Z3r,leftA,backA,Jc,Zlq,Z3s _ hq,Z3s _ hq,Z3s _ hq,Z3s _ hq]
  by_cases a:q < j
  · rw [if_pos a,if_pos a,if_neg (by omega),if_neg (by omega),if_neg (by omega)]
  · by_cases b:q=j
    · subst b; rw [if_neg a,if_pos rfl,if_neg (by omega)]; omega
    · rw [if_neg a,if_neg b,if_pos (by omega),if_neg a]
theorem ZCm {ds:List Int} {imgs:List (List Term)} {y m:A8} (h8:ds.length≤8) (hm:OkMono ds m) (h:DMono ds imgs y m):∃ j u,j < ds.length∧0 < m.get j∧u∈imgs.getD j ZEo∧wtU ds y ds.length=wtU ds m ds.length - ds.getD j ZEo+wtU ds u.mono ds.length:=by
  obtain ⟨j,u,h1,h2,h3,rfl,_,_⟩:=h
  have hj:j < ds.length:=Nat.lt_of_not_le fun z=>by have:=(hm j h1).2 z; omega
  refine⟨j,u,hj,h2,h3,?_⟩
  have e:=ZCi ds m j ds.length h8
  rw [← ZCl,Zoj,if_pos hj] at e
  rw [Zoj,Zoj]
  omega
theorem ZCn {ds:List Int} {imgs:List (List Term)} {y m:A8} (h8:ds.length≤8) (hm:OkMono ds m) (pm:∀ i,i < 8→0≤m.get i∧m.get i≤20) (hI:∀ j u,u∈imgs.getD j ZEo→OkMono ds u.mono∧∀ i,i < 8→0≤u.mono.get i∧u.mono.get i≤20) (h:DMono ds imgs y m):Ji ds y∧∀ q,q < 8→0≤y.get q:=by
  obtain ⟨j,u,h1,h2,h3,rfl,c1,c2⟩:=h
  obtain ⟨lb,bb,lbb⟩:=Znv pm h2
  obtain ⟨wl,wb⟩:=Znn hm h1 h2
  obtain ⟨ou,bu⟩:=hI j u h3
  have w1:=Zky wl ou.wk (fun q hq=>(lb q hq).1) (fun q hq=>(bu q hq).1) (fun q hq=>by have:=lb q hq; have:=bu q hq; omega) c1
  have b1:∀ q,q < 8→0≤((leftA m j).add u.mono).get q∧((leftA m j).add u.mono).get q≤40:=fun q hq=>by rw [Z3r]; have:=lb q hq; have:=bu q hq; omega
  exact⟨Zky w1 wb (fun q hq=>(b1 q hq).1) (fun q hq=>(bb q hq).1) (fun q hq=>by have:=b1 q hq; have:=bb q hq; omega) c2,fun q hq=>by rw [Z3r]; have:=b1 q hq; have:=bb q hq; omega⟩
theorem Zsn:∀ {l:List Term}, Canon l→∀ {t:Term}, t∈l→coT l t.mono=t.factor
  | [],_,t,ht=>by simp at ht
  | s :: l, hc, t, ht => by
    rcases ZEk.1 ht with e | ht'
    · rw [e]; exact hc.at_head
    · rw [Zbt,if_neg (Zbs (hc.head t ht')),ZO0]; exact Zsn hc.tail ht'
theorem Zso {l:List A8} (hs:l.Pairwise (fun a b=>pcmp a b < 0)) {k:Nat} {a b:A8} (ha:a∈l.take k) (hb:b∈l.drop k):pcmp a b < 0:=by
  rw [← ZIl k l] at hs
  exact(ZP5.1 hs).2.2 a ha b hb
theorem Zsp {α:Type} [Inhabited α] {l:List α} {k:Nat} (hk:k < l.length):l.drop k=l.getD k ZEo::l.drop (k+1):=by
  rw [List.drop_eq_getElem_cons hk]; simp [ZEy,hk]
theorem Zsq {f : List Term} {l : List A8} {K : List Int → Prop} (hc : Canon f) (hs : l.Pairwise (fun a b => pcmp a b < 0)) (hin : ∀ t, t ∈ f → t.mono ∈ l) (hl : l.length ≤ 1000000) (h : K (l.map (coT f))) : Zby ⟨f⟩ l K := by
  have hfl:f.length≤1000000:=by
    have hn:(f.map Term.mono).Nodup:=by
      refine ZS6.2 (hc.1.imp fun q=>Zbs q)
    have:=hn.length_le_of_subset (l₂:=l) (fun x hx=>by obtain ⟨t,ht,rfl⟩:=ZF2.1 hx; exact hin t ht)
    rw [Z3n] at this; omega
  unfold Zby
  dsimp only
  refine⟨by omega,?_⟩
  rw [Z3p]
  refine X5 (fun (s:List Int×Int×Int)=>(0≤s.2.1∧s.2.1≤f.length)∧(0≤s.2.2∧s.2.2≤l.length)∧s.1.length=l.length∧(∀ j,j < l.length→s.1.getD j ZEo=if j < s.2.2.toNat then coT f (l.getD j ZEo) else 0)∧(∀ t,t∈f.take s.2.1.toNat→t.mono∈l.take s.2.2.toNat)∧∀ t,t∈f.drop s.2.1.toNat→t.mono∈l.drop s.2.2.toNat) (fun s=>l.length - s.2.2.toNat) ?_ ⟨by dsimp only; omega,by dsimp only; omega,by simp,fun j hj=>by simp [ZEy,hj],by simp,by simpa using hin⟩
  rintro ⟨out,at1,k⟩ next ⟨g1,g2,g3,g4,g5,g6⟩ hn
  dsimp only at g1 g2 g3 g4 g5 g6 hn ⊢
  have fin:(∀ j,j < l.length→¬ j < k.toNat→coT f (l.getD j ZEo)=0)→K out:=fun q=>by
    have e:out=l.map (coT f):=by
      refine ZHb (by simp [g3]) fun j h1 h2=>?_
      have hj:j < l.length:=by omega
      have:=g4 j hj
      rw [show out.getD j ZEo=out[j] by simp [ZEy,h1]] at this
      rw [this,List.getElem_map,show l[j]=l.getD j ZEo by simp [ZEy,hj]]
      split
      · rfl
      · rename_i z; exact(q j hj z).symm
    rw [e]; exact h
  by_cases hk:k < (l.length:Int)
  · have hkn:k.toNat < l.length:=by omega
    refine Yz hk ?_
    have ki:(k+1).toNat=k.toNat+1:=by omega
    by_cases ha:at1 < (f.length:Int)
    · have han:at1.toNat < f.length:=by omega
      have ai:(at1+1).toNat=at1.toNat+1:=by omega
      refine Yz ha ⟨⟨g1.1,ha⟩,⟨g2.1,hk⟩,?_⟩
      rw [i64_in (k+1) (by omega),i64_in (at1+1) (by omega)]
      have hdl:=Zsp hkn
      have hdf:=Zsp han
      have hlk:l.getD k.toNat ZEo∈l.drop k.toNat:=by rw [hdl]; simp
      have hfa:f.getD at1.toNat ZEo∈f.drop at1.toNat:=by rw [hdf]; simp
      have hfm:f.getD at1.toNat ZEo∈f:=Z35 hfa
      have tk:∀ t,t∈f.take at1.toNat→t.mono≠l.getD k.toNat ZEo:=fun t ht=>Zbs (Zso hs (g5 t ht) hlk)
      have t2:∀ t,t∈f.drop (at1.toNat+1)→pcmp (f.getD at1.toNat ZEo).mono t.mono < 0:=fun t ht=>by
        have hp:=hc.1.sublist (List.drop_sublist at1.toNat f)
        rw [hdf] at hp
        exact(ZFb.1 hp).1 t ht
      have step:∀ t:Term,t.mono∈l.drop k.toNat→t.mono≠l.getD k.toNat ZEo→t.mono∈l.drop (k.toNat+1):=fun t h1 h2=>by
        rw [hdl] at h1
        rcases ZEk.1 h1 with q | q
        · exact absurd q h2
        · exact q
      have takeS:∀ t:Term,t.mono∈l.take k.toNat→t.mono∈l.take (k.toNat+1):=fun t h1=>by
        rw [Xq hkn]; exact ZFa _ h1
      by_cases q:(f.getD at1.toNat ZEo).mono=l.getD k.toNat ZEo
      · refine Yz q ⟨⟨g1.1,ha⟩,⟨g2.1,by rw [g3]; exact hk⟩,hn _ ⟨by dsimp only; omega,by dsimp only; omega,by dsimp only; rw [ZFs]; exact g3,fun j hj=>?_,fun t ht=>?_,fun t ht=>?_⟩ (by dsimp only; omega)⟩
        · dsimp only
          rw [Zd1 (by omega),ki]
          by_cases e:j=k.toNat
          · subst e
            rw [if_pos rfl,if_pos (by omega),← q,Zsn hc hfm]
          · rw [if_neg e,g4 j hj]
            by_cases c:j < k.toNat
            · rw [if_pos c,if_pos (by omega)]
            · rw [if_neg c,if_neg (by omega)]
        · dsimp only at ht ⊢
          rw [ai,Xq han] at ht
          rw [ki]
          rcases ZEv.1 ht with z | z
          · exact takeS t (g5 t z)
          · obtain rfl:=ZFz.1 z
            rw [Xq hkn,q]; simp
        · dsimp only at ht ⊢
          rw [ai] at ht
          rw [ki]
          exact step t (g6 t (by rw [hdf]; exact ZSc _ ht)) (fun z=>Zbs (t2 t ht) (by rw [q,z]))
      · have hz : ∀ t, t ∈ f → t.mono ≠ l.getD k.toNat ZEo := fun t ht => by
          rw [← ZIl at1.toNat f] at ht
          rcases ZEv.1 ht with z | z
          · exact tk t z
          · rw [hdf] at z
            rcases ZEk.1 z with rfl | z
            · exact q
            · intro e
              have h1:=step _ (g6 _ hfa) q
              have h2:pcmp (l.getD k.toNat ZEo) (f.getD at1.toNat ZEo).mono < 0:=by
                have hp:=hs.sublist (List.drop_sublist k.toNat l)
                rw [hdl] at hp
                exact(ZFb.1 hp).1 _ h1
              have h3:=t2 t z
              rw [e] at h3
              exact Zkm h2 h3
        refine Y0 q (hn _ ⟨by dsimp only; omega,by dsimp only; omega,g3,fun j hj=>?_,fun t ht=>?_,fun t ht=>?_⟩ (by dsimp only; omega))
        · dsimp only
          rw [g4 j hj,ki]
          by_cases e:j=k.toNat
          · subst e
            rw [if_neg (by omega),if_pos (by omega),Zcr hz]
          · by_cases c:j < k.toNat
            · rw [if_pos c,if_pos (by omega)]
            · rw [if_neg c,if_neg (by omega)]
        · dsimp only at ht ⊢
          rw [ki]; exact takeS t (g5 t ht)
        · dsimp only at ht ⊢
          rw [ki]; exact step t (g6 t ht) (hz t (Z35 ht))
    · refine Y0 ha (fin fun j hj hjk=>Zcr fun t ht=>?_)
      have:t∈f.take at1.toNat:=by rw [ZFo (by omega)]; exact ht
      refine Zbs (Zso hs (g5 t this) ?_)
      rw [List.mem_iff_getElem]
      exact⟨j - k.toNat,by rw [ZFy]; omega,by rw [List.getElem_drop]; simp [ZEy,hj,show k.toNat+(j - k.toNat)=j by omega]⟩
  · exact Y0 hk (fin fun j hj hjk=>by omega)
theorem ZCo {ds:List Int} (hd:OkDeg ds) {y:A8} (hp:∀ q,q < 8→0≤y.get q):∀ k,k≤ds.length→∀ q,q < k→2≤ds.getD q ZEo→2 * y.get q≤wtU ds y k:=by
  intro k
  induction k with
  | zero=>intro _ q hq; omega
  | succ k ih =>
    intro hk q hq h2
    have h8:=hd.1
    have hdk:=hd.2 k (by omega)
    have hy:=hp k (by omega)
    have h0:=(Zsl hd hp k (by omega)).1
    simp only [wtU]
    by_cases c:q=k
    · subst c
      have:=Z0b h2 hy
      omega
    · have:=ih (by omega) q (by omega) h2
      have:=ZS3 (a:=ds.getD k ZEo) (b:=y.get k) (by omega) hy
      omega
theorem ZCp {ds : List Int} (hd : OkDeg ds) {y : A8} (hw : Ji ds y) (hp : ∀ q, q < 8 → 0 ≤ y.get q) (h : wtU ds y ds.length ≤ 40) : OkMono ds y := fun q hq =>
  ⟨fun z=>⟨by
    have h1:=(Zsl hd hp ds.length (ZEn _))
    have hdq:=hd.2 q z
    by_cases o:ZFf (ds.getD q ZEo) 2≠0
    · have:=((hw q hq).1 z).2 o; omega
    · have h2:2≤ds.getD q ZEo:=by
        rw [ZO4 (by omega)] at o; omega
      have h3:=ZCo hd hp ds.length (ZEn _) q z h2
      omega,((hw q hq).1 z).2⟩,(hw q hq).2⟩
theorem ZCq {ds:List Int} (hd:OkDeg ds) {y:A8} {n:Int} (hw:Ji ds y) (hp:∀ q,q < 8→0≤y.get q) (h:wtU ds y ds.length=n) (hn:n≤40):y∈mons ds n:=by
  rw [← h]; exact ZCh hd hp (ZCp hd hw hp (by omega))
end Go.Proofs.YtaagfepgbofmlaaGreat
namespace Vc
abbrev Vec:=Nat→Int
inductive Sp (S:Vec→Prop):Vec→Prop
  | zero {u:Vec}:(∀ j,u j % 10007=0)→Sp S u
  | add {r v u:Vec} (k:Int):S r→Sp S v→(∀ j,u j % 10007=(v j+k * r j) % 10007)→Sp S u
theorem Zsr {a b c d:Int} (k:Int) (h1:a % 10007=b % 10007) (h2:c % 10007=d % 10007):(a+k * c) % 10007=(b+k * d) % 10007:=by
  rw [ZSx,ZSh k c,h1,h2,← ZSh,← ZSx]
theorem Sp.cong {S:Vec→Prop} {u v:Vec} (h:Sp S u) (e:∀ j,v j % 10007=u j % 10007):Sp S v:=by
  cases h with
  | zero z=>exact .zero fun j=>by rw [e,z]
  | add k hr hv q=>exact .add k hr hv fun j=>by rw [e,q]
theorem Sp.nil (S:Vec→Prop):Sp S (fun _=>0):=.zero fun _=>rfl
theorem Sp.gen {S:Vec→Prop} {r:Vec} (h:S r):Sp S r:=.add 1 h (Sp.nil S) fun j=>by simp
theorem Sp.sum {S:Vec→Prop} {u v:Vec} (k:Int) (hu:Sp S u) (hv:Sp S v):∀ {w:Vec}, (∀ j,w j % 10007=(u j+k * v j) % 10007)→Sp S w:=by
  induction hv with
  | @zero v z=>intro w e; exact hu.cong fun j=>by rw [e,ZSx,ZSh,z]; simp
  | @add r v' u' k' hr hv q ih =>
    intro w e
    refine .add (k * k') hr (ih (w:=fun j=>u j+k * v' j) fun _=>rfl) fun j=>?_
    rw [e,Zsr k rfl (q j)]
    congr 1
    rw [Int.mul_add,Z3t]
    omega
theorem Sp.mono {S T:Vec→Prop} (h:∀ r,S r→Sp T r) {u:Vec} (hu:Sp S u):Sp T u:=by
  induction hu with
  | zero z=>exact .zero z
  | add k hr hv q ih=>exact ih.sum k (h _ hr) q
def vec (a:List Int):Vec:=fun j=>a.getD j 0
def ld:List Int→Nat
  | []=>0
  | x::xs=>if x=0 then ld xs+1 else 0
theorem Zol (x:Int) (xs:List Int) (j:Nat):vec (x::xs) (j+1)=vec xs j:=rfl
theorem Zaf {a:List Int} {j:Nat} (h:a.length≤j):vec a j=0:=by simp [vec,ZEy,List.getElem?_eq_none h]
theorem Zcx {a:List Int} {j:Nat} (h:j < a.length):vec a j=a[j]:=by simp [vec,ZEy,h]
theorem Zat:∀ {a:List Int} {q:Nat}, q < ld a→vec a q=0
  | [],q,h=>by simp [ld] at h
  | x :: xs, q, h => by
    unfold ld at h
    split at h
    · rename_i e
      cases q with
      | zero=>exact e
      | succ q=>rw [Zol]; exact Zat (by omega)
    · omega
theorem Zlr:∀ {a:List Int}, ld a < a.length→vec a (ld a)≠0
  | [],h=>by simp at h
  | x :: xs, h => by
    unfold ld at h ⊢
    split
    · rename_i e
      rw [if_pos e] at h
      rw [Zol]; exact Zlr (by simp at h; omega)
    · rename_i e; exact e
theorem Zls {a:List Int} {k:Nat} (h:vec a k≠0):k < a.length:=Nat.lt_of_not_le fun z=>h (Zaf z)
theorem Zgg {a:List Int} {k:Nat} (h1:∀ q,q < k→vec a q=0) (h2:vec a k≠0):ld a=k:=by
  have hk:=Zls h2
  rcases Z3v (ld a) k with q | q | q
  · exact absurd (h1 _ q) (Zlr (by omega))
  · exact q
  · exact absurd (Zat q) h2
structure RowOk (n:Nat) (a:List Int):Prop where
  len:a.length=n
  rng:∀ j,0≤vec a j∧vec a j≤10006
theorem RowOk.mod {n:Nat} {a:List Int} (h:RowOk n a) (j:Nat):vec a j % 10007=vec a j:=by have:=h.rng j; omega
theorem Zlt {a b:List Int} (hl:a.length=b.length) (h:∀ j,vec a j=vec b j):a=b:=by
  refine ZHb hl fun i h1 h2=>?_
  have:=h i
  rwa [Zcx h1,Zcx h2] at this
theorem RowOk.ext {n:Nat} {a b:List Int} (ha:RowOk n a) (hb:RowOk n b) (h:∀ j,vec a j % 10007=vec b j % 10007):a=b :=
  Zlt (ha.len.trans hb.len.symm) fun j=>by have:=h j; rwa [ha.mod,hb.mod] at this
def subR (k:Int) (a b:List Int):List Int:=List.zipWith (fun x y=>(x - k * y) % 10007) a b
theorem Zi7 {k:Int} {a b:List Int} (h:a.length=b.length):(subR k a b).length=a.length:=by simp [subR,h]
theorem Zbf {k:Int} {a b:List Int} (h:a.length=b.length) (j:Nat):vec (subR k a b) j=(vec a j - k * vec b j) % 10007:=by
  by_cases hj:j < a.length
  · rw [Zcx (by rw [Zi7 h]; exact hj),Zcx hj,Zcx (by omega)]
    simp [subR]
  · rw [Zaf (by rw [Zi7 h]; omega),Zaf (by omega),Zaf (by omega)]; simp
theorem Zi8 {n:Nat} {k:Int} {a b:List Int} (ha:RowOk n a) (hb:RowOk n b):RowOk n (subR k a b):=by
  have h:=ha.len.trans hb.len.symm
  exact⟨by rw [Zi7 h,ha.len],fun j=>by rw [Zbf h]; omega⟩
theorem Zlu {n:Nat} {a b:List Int} (ha:RowOk n a) (hb:RowOk n b):subR 0 a b=a:=by
  have h:=ha.len.trans hb.len.symm
  refine(Zi8 ha hb).ext ha fun j=>?_
  rw [Zbf h]; simp
def Xr (k:Int) (a:List Int):List Int:=a.map fun x=>x * k % 10007
theorem Zb1 (k:Int) (a:List Int) (j:Nat):vec (Xr k a) j=vec a j * k % 10007:=by
  by_cases hj:j < a.length
  · rw [Zcx (by simpa [Xr] using hj),Zcx hj]; simp [Xr]
  · rw [Zaf (by simp [Xr]; omega),Zaf (by omega)]; simp
theorem Zgh {n:Nat} {k:Int} {a:List Int} (ha:RowOk n a):RowOk n (Xr k a):=⟨by simp [Xr,ha.len],fun j=>by rw [Zb1]; omega⟩
def tt {α:Type} (f:α→Int):List α→Int
  | []=>0
  | a::l=>f a+tt f l
theorem Zss {α:Type} {f:α→Int}:∀ {l:List α}, (∀ a,a∈l→f a=0)→tt f l=0
  | [],_=>rfl
  | a::l,h=>by simp only [tt]; rw [h a (by simp),Zss fun b hb=>h b (by simp [hb])]; rfl
theorem Zom {α:Type} {f:α→Int}:∀ {l:List α}, (∀ a,a∈l→f a % 10007=0)→tt f l % 10007=0
  | [],_=>rfl
  | a :: l, h => by
    have h1:=h a (by simp)
    have h2:=Zom (f:=f) (l:=l) fun b hb=>h b (by simp [hb])
    simp only [tt]; omega
theorem Zst {α:Type} {f g e:α→Int} (k:Int):∀ {l:List α}, (∀ a,a∈l→e a % 10007=(f a+k * g a) % 10007)→tt e l % 10007=(tt f l+k * tt g l) % 10007
  | [],_=>by simp [tt]
  | a :: l, h => by
    have h1:=h a (by simp)
    have h2:=Zst (f:=f) (g:=g) (e:=e) k (l:=l) fun b hb=>h b (by simp [hb])
    simp only [tt,Int.mul_add]
    generalize k * g a=x at *
    generalize k * tt g l=y at *
    omega
structure Rref (n:Nat) (out:List (List Int)):Prop where
  ok:∀ a,a∈out→RowOk n a∧vec a (ld a)=1
  pw:out.Pairwise (fun a b=>ld a < ld b∧vec a (ld b)=0)
def gens (rows:List (List Int)):Vec→Prop:=fun v=>∃ a,a∈rows∧v=vec a
theorem Jt {rows:List (List Int)} {a:List Int} (h:a∈rows):Sp (gens rows) (vec a):=.gen ⟨a,h,rfl⟩
def SpEq (a b:List (List Int)):Prop:=∀ u,Sp (gens a) u↔Sp (gens b) u
theorem SpEq.refl (a:List (List Int)):SpEq a a:=fun _=>Iff.rfl
theorem SpEq.symm {a b:List (List Int)} (h:SpEq a b):SpEq b a:=fun u=>(h u).symm
theorem SpEq.trans {a b c:List (List Int)} (h:SpEq a b) (h':SpEq b c):SpEq a c:=fun u=>(h u).trans (h' u)
theorem Zon {a b:List (List Int)} (h1:∀ x,x∈a→Sp (gens b) (vec x)) (h2:∀ x,x∈b→Sp (gens a) (vec x)):SpEq a b:=fun u =>
  ⟨Sp.mono fun r ⟨x,hx,e⟩=>e ▸ h1 x hx,Sp.mono fun r ⟨x,hx,e⟩=>e ▸ h2 x hx⟩
theorem Zsu {q:Nat}:∀ {out:List (List Int)}, (∀ a,a∈out→vec a (ld a)=1)→out.Pairwise (fun a b=>ld a < ld b∧vec a (ld b)=0)→∀ a,a∈out→tt (fun z=>vec a (ld z) * vec z q) out=vec a q
  | [],_,_,a,ha=>by simp at ha
  | z0 :: l, h1, hp, a, ha => by
    obtain ⟨p1,p2⟩:=ZFb.1 hp
    simp only [tt]
    rcases ZEk.1 ha with rfl | ha
    · rw [h1 a (by simp),Zss fun z hz=>by rw [(p1 z hz).2,Int.zero_mul]]; omega
    · rw [Zat (p1 a ha).1,Int.zero_mul,ZO0]
      exact Zsu (fun b hb=>h1 b (by simp [hb])) p2 a ha
theorem Rref.comb {n:Nat} {out:List (List Int)} (h:Rref n out) {u:Vec} (hu:Sp (gens out) u) (q:Nat):u q % 10007=tt (fun z=>u (ld z) * vec z q) out % 10007:=by
  induction hu with
  | zero z=>rw [z,Zom fun a ha=>by rw [ZSh,z]; simp]
  | @add r v u k hr hv e ih =>
    obtain ⟨a,ha,rfl⟩:=hr
    rw [e,Zsr k ih (b:=tt (fun z=>v (ld z) * vec z q) out) (d:=tt (fun z=>vec a (ld z) * vec z q) out) (by rw [Zsu (fun b hb=>(h.ok b hb).2) h.pw a ha])]
    refine(Zst k fun z hz=>?_).symm
    rw [ZSh,e,← ZSh,Int.add_mul,Z3t]
theorem Rref.leads {n:Nat} {out:List (List Int)} (h:Rref n out) {u:Vec} (hu:Sp (gens out) u) {q:Nat} (h0:∀ j,j < q→u j % 10007=0) (h1:u q % 10007≠0):∃ z,z∈out∧ld z=q:=by
  refine Classical.byContradiction fun no=>h1 ?_
  rw [h.comb hu]
  refine Zom fun z hz=>?_
  rcases Z3v (ld z) q with c | c | c
  · rw [ZSh,h0 _ c]; simp
  · exact absurd ⟨z,hz,c⟩ no
  · rw [Zat c]; simp
theorem Rref.sep {n:Nat} {out:List (List Int)} (h:Rref n out):∀ {y z:List Int}, y∈out→z∈out→(y=z∨(ld y≠ld z∧vec z (ld y)=0)):=by
  have hp:=h.pw
  clear h
  induction out with
  | nil=>intro y z hy; simp at hy
  | cons x l ih =>
    obtain ⟨p1,p2⟩:=ZFb.1 hp
    intro y z hy hz
    rcases ZEk.1 hy with ey | hy'
    · rcases ZEk.1 hz with ez | hz'
      · exact .inl (ey.trans ez.symm)
      · have:=(p1 z hz').1; rw [ey]; exact .inr ⟨by omega,Zat this⟩
    · rcases ZEk.1 hz with ez | hz'
      · have:=p1 y hy'; rw [ez]; exact .inr ⟨by omega,this.2⟩
      · exact ih p2 hy' hz'
theorem Zsv {α : Type} {R : α → α → Prop} (hR : ∀ a b, R a b → ¬ R b a) : ∀ {a b : List α}, a.Pairwise R → b.Pairwise R → (∀ x, x ∈ a ↔ x ∈ b) → a = b
  | [],[],_,_,_=>rfl
  | [],y::b,_,_,h=>absurd ((h y).2 (by simp)) (by simp)
  | x::a,[],_,_,h=>absurd ((h x).1 (by simp)) (by simp)
  | x :: a, y :: b, ha, hb, h => by
    obtain ⟨a1,a2⟩:=ZFb.1 ha
    obtain ⟨b1,b2⟩:=ZFb.1 hb
    have e:x=y:=by
      rcases ZEk.1 ((h x).1 (by simp)) with q | q
      · exact q
      · rcases ZEk.1 ((h y).2 (by simp)) with q' | q'
        · exact q'.symm
        · exact absurd (a1 y q') (hR _ _ (b1 x q))
    subst e
    have irr:∀ z,¬ R z z:=fun z hz=>hR z z hz hz
    rw [Zsv hR a2 b2 fun z=>⟨fun hz=>?_,fun hz=>?_⟩]
    · rcases ZEk.1 ((h z).1 (by simp [hz])) with q | q
      · subst q; exact absurd (a1 z hz) (irr z)
      · exact q
    · rcases ZEk.1 ((h z).2 (by simp [hz])) with q | q
      · subst q; exact absurd (b1 z hz) (irr z)
      · exact q
theorem Zsw {p:Nat→Prop} [DecidablePred p]:∀ {n:Nat}, p n→∃ m,p m∧∀ j,j < m→¬ p j:=by
  intro n
  induction n using Nat.strongRecOn with
  | _ n ih =>
    intro hn
    by_cases h:∃ j,j < n∧p j
    · obtain ⟨j,hj,pj⟩:=h; exact ih j hj pj
    · exact⟨n,hn,fun j hj pj=>h ⟨j,hj,pj⟩⟩
theorem Rref.in_of {n:Nat} {a b:List (List Int)} (ha:Rref n a) (hb:Rref n b) (h:SpEq a b) {x:List Int} (hx:x∈a):x∈b:=by
  have lead:∀ {a b:List (List Int)}, Rref n a→Rref n b→SpEq a b→∀ x,x∈a→∃ z,z∈b∧ld z=ld x:=fun ha hb h x hx =>
    hb.leads ((h _).1 (Jt hx)) (fun j hj=>by rw [Zat hj]; rfl) (by rw [(ha.ok x hx).2]; decide)
  obtain ⟨z,hz,ez⟩:=lead ha hb h x hx
  have:x=z:=by
    refine(ha.ok x hx).1.ext (hb.ok z hz).1 fun j=>?_
    refine Z38 fun nj=>?_
    have hd:Sp (gens b) (fun j=>vec x j - vec z j):=Sp.sum (-1) ((h _).1 (Jt hx)) (Jt hz) fun j=>by congr 1; omega
    have nj':(vec x j - vec z j) % 10007≠0:=by omega
    obtain ⟨q,h1,h2⟩:=Zsw (p:=fun j=>(vec x j - vec z j) % 10007≠0) nj'
    obtain ⟨y,hy,ey⟩:=hb.leads hd (q:=q) (fun j hj=>ZPz.1 (h2 j hj)) h1
    refine h1 ?_
    rw [← ey]
    rcases hb.sep hy hz with e | ⟨e1,e2⟩
    · subst e
      rw [(hb.ok y hy).2,ez,(ha.ok x hx).2]; rfl
    · obtain ⟨y',hy',ey'⟩:=lead hb ha h.symm y hy
      rcases ha.sep hy' hx with e | ⟨_,e4⟩
      · subst e; omega
      · rw [e2,← ey',e4]; rfl
  rw [this]; exact hz
theorem Rref.unique {n:Nat} {a b:List (List Int)} (ha:Rref n a) (hb:Rref n b) (h:SpEq a b):a=b :=
  Zsv (R:=fun a b=>ld a < ld b∧vec a (ld b)=0) (fun a b h1 h2=>by omega) ha.pw hb.pw fun x=>⟨ha.in_of hb h,hb.in_of ha h.symm⟩
structure IsRref (n:Nat) (rows out:List (List Int)):Prop where
  red:Rref n out
  sp:SpEq rows out
theorem IsRref.unique {n:Nat} {rows a b:List (List Int)} (ha:IsRref n rows a) (hb:IsRref n rows b):a=b:=ha.red.unique hb.red (ha.sp.symm.trans hb.sp)
theorem Rref.nil (n:Nat):Rref n []:=⟨by simp,.nil⟩
theorem Zoo {n:Nat} {a:List Int} (h:RowOk n a∧vec a (ld a)=1):ld a < n:=by
  have:=Zls (a:=a) (k:=ld a) (by rw [h.2]; decide)
  rw [h.1.len] at this; exact this
structure Elim (n:Nat) (row z f:List Int):Prop where
  ok:RowOk n f
  ldq:Vc.ld f=Vc.ld z
  one:vec f (Vc.ld z)=1
  at0:vec f (Vc.ld row)=0
  oth:∀ q,vec row q=0→vec f q=vec z q
theorem elim {n:Nat} {row z:List Int} (hr:RowOk n row) (h1:vec row (ld row)=1) (hz:RowOk n z) (hz1:vec z (ld z)=1) (h0:vec row (ld z)=0):Elim n row z (subR (vec z (ld row)) z row):=by
  have hl:=hz.len.trans hr.len.symm
  have oth:∀ q,vec row q=0→vec (subR (vec z (ld row)) z row) q=vec z q:=fun q hq=>by rw [Zbf hl,hq,Int.mul_zero,Int.sub_zero,hz.mod]
  have one:vec (subR (vec z (ld row)) z row) (ld z)=1:=by rw [oth _ h0,hz1]
  refine⟨Zi8 hz hr,Zgg (fun q hq=>?_) (by rw [one]; decide),one,by rw [Zbf hl,h1]; simp,oth⟩
  rcases Z3v q (ld row) with c | c | c
  · rw [oth _ (Zat c),Zat hq]
  · have:vec z (ld row)=0:=by rw [← c]; exact Zat hq
    rw [this,Zlu hz hr,Zat hq]
  · have:vec z (ld row)=0:=Zat (by omega)
    rw [this,Zlu hz hr,Zat hq]
theorem Rref.insert {n:Nat} {l1 l2:List (List Int)} {row:List Int} (h:Rref n (l1++l2)) (hr:RowOk n row) (h1:vec row (ld row)=1) (h0:∀ z,z∈l1++l2→vec row (ld z)=0) (hb:∀ z,z∈l1→ld z < ld row) (ha:∀ z,z∈l2→ld row < ld z) :
    Rref n (l1.map (fun z=>subR (vec z (ld row)) z row)++row::l2.map (fun z=>subR (vec z (ld row)) z row)):=by
  have he:∀ z,z∈l1++l2→Elim n row z (subR (vec z (ld row)) z row):=fun z hz=>elim hr h1 (h.ok z hz).1 (h.ok z hz).2 (h0 z hz)
  have m1:∀ {z}, z∈l1→z∈l1++l2:=fun q=>ZFa _ q
  have m2:∀ {z}, z∈l2→z∈l1++l2:=fun q=>ZE5 _ q
  obtain ⟨p1,p2,p3⟩:=ZP5.1 h.pw
  have keep:∀ {y z}, y∈l1++l2→z∈l1++l2→(ld y < ld z∧vec y (ld z)=0)→(ld (subR (vec y (ld row)) y row) < ld (subR (vec z (ld row)) z row)∧vec (subR (vec y (ld row)) y row) (ld (subR (vec z (ld row)) z row))=0):=fun {y z} hy hz q=>by
    rw [(he y hy).ldq,(he z hz).ldq,(he y hy).oth _ (h0 z hz)]; exact q
  refine⟨fun a ha'=>?_,ZP5.2 ⟨?_,ZFb.2 ⟨?_,?_⟩,?_⟩⟩
  · have fin:∀ z,z∈l1++l2→RowOk n (subR (vec z (ld row)) z row)∧vec (subR (vec z (ld row)) z row) (ld (subR (vec z (ld row)) z row))=1:=fun z hz=>⟨(he z hz).ok,by rw [(he z hz).ldq]; exact(he z hz).one⟩
    rcases ZEv.1 ha' with q | q
    · obtain ⟨z,hz,rfl⟩:=ZF2.1 q; exact fin z (m1 hz)
    · rcases ZEk.1 q with rfl | q
      · exact⟨hr,h1⟩
      · obtain ⟨z,hz,rfl⟩:=ZF2.1 q; exact fin z (m2 hz)
  · exact ZS6.2 (p1.imp_of_mem fun ha hb q=>keep (m1 ha) (m1 hb) q)
  · intro f hf
    obtain ⟨z,hz,rfl⟩:=ZF2.1 hf
    rw [(he z (m2 hz)).ldq]
    exact⟨ha z hz,h0 z (m2 hz)⟩
  · exact ZS6.2 (p2.imp_of_mem fun ha hb q=>keep (m2 ha) (m2 hb) q)
  · intro f hf g hg
    obtain ⟨y,hy,rfl⟩:=ZF2.1 hf
    rcases ZEk.1 hg with rfl | hg
    · rw [(he y (m1 hy)).ldq]; exact⟨hb y hy,(he y (m1 hy)).at0⟩
    · obtain ⟨z,hz,rfl⟩:=ZF2.1 hg
      exact keep (m1 hy) (m2 hz) (p3 y hy z hz)
theorem Zsx {S:Vec→Prop} {k:Int} {a b:List Int} (h:a.length=b.length) (ha:Sp S (vec a)) (hb:Sp S (vec b)):Sp S (vec (subR k a b)) :=
  Sp.sum (-k) ha hb fun j=>by rw [Zbf h,Z3u,Int.neg_mul]; congr 1
theorem Zsy {S:Vec→Prop} {k:Int} {a b:List Int} (h:a.length=b.length) (ha:Sp S (vec (subR k a b))) (hb:Sp S (vec b)):Sp S (vec a) :=
  Sp.sum k ha hb fun j=>by
    rw [Zbf h]
    generalize k * vec b j=x
    omega
end Vc
namespace Vc
def at_ (w:List (List Int)) (i:Nat):List Int:=w.getD i []
theorem Zi9 {w:List (List Int)} {i:Nat} (h:i < w.length):at_ w i=w[i]:=by simp [at_,ZEy,h]
theorem Zbg {w:List (List Int)} {i:Nat} (h:i < w.length):at_ w i∈w:=by rw [Zi9 h]; exact List.getElem_mem h
theorem Zop {w:List (List Int)} {a:List Int} (h:a∈w):∃ i,i < w.length∧at_ w i=a:=by
  obtain ⟨i,hi,e⟩:=ZEx h
  exact⟨i,hi,by rw [Zi9 hi,e]⟩
theorem Zgi {w:List (List Int)} {d:Nat} (hd:d < w.length) (x:List Int) (i:Nat):at_ (w.set d x) i=if i=d then x else at_ w i:=by
  unfold at_
  simp only [ZEy]
  by_cases e:i=d
  · subst e; rw [if_pos rfl,List.getElem?_set_self hd]; rfl
  · rw [if_neg e,List.getElem?_set_ne (fun z=>e z.symm)]
theorem Zja {w:List (List Int)} {d i:Nat} (h:i < d):at_ (w.take d) i=at_ w i:=by
  unfold at_; simp only [ZEy]; rw [List.getElem?_take,if_pos h]
theorem Zoq {a b:List (List Int)} (h1:∀ i,i < a.length→Sp (gens b) (vec (at_ a i))) (h2:∀ i,i < b.length→Sp (gens a) (vec (at_ b i))):SpEq a b :=
  Zon (fun x hx=>by obtain ⟨i,hi,rfl⟩:=Zop hx; exact h1 i hi) (fun x hx=>by obtain ⟨i,hi,rfl⟩:=Zop hx; exact h2 i hi)
structure Inv (n:Nat) (rows work:List (List Int)) (d c:Nat):Prop where
  ok:∀ i,i < work.length→RowOk n (at_ work i)
  sp:SpEq rows work
  dl:d≤work.length
  piv:∀ i,i < d→ld (at_ work i) < c∧vec (at_ work i) (ld (at_ work i))=1
  clr:∀ i j,i < d→j < work.length→i≠j→vec (at_ work j) (ld (at_ work i))=0
  inc:∀ i j,i < j→j < d→ld (at_ work i) < ld (at_ work j)
  rest:∀ i q,d≤i→i < work.length→q < c→vec (at_ work i) q=0
theorem Inv.start {n:Nat} {rows:List (List Int)} (h:∀ a,a∈rows→RowOk n a):Inv n rows rows 0 0 :=
  ⟨fun i hi=>h _ (Zbg hi),SpEq.refl _,Nat.zero_le _,fun i hi=>absurd hi (by omega),fun i j hi=>absurd hi (by omega),fun i j _ hj=>absurd hj (by omega),fun i q _ _ hq=>absurd hq (by omega)⟩
theorem Inv.skip {n:Nat} {rows work:List (List Int)} {d c:Nat} (h:Inv n rows work d c) (hz:∀ i,d≤i→i < work.length→vec (at_ work i) c=0):Inv n rows work d (c+1) :=
  ⟨h.ok,h.sp,h.dl,fun i hi=>⟨Nat.lt_succ_of_lt (h.piv i hi).1,(h.piv i hi).2⟩,h.clr,h.inc,fun i q h1 h2 hq=>by
    rcases ZFu q c with g | g
    · exact h.rest i q h1 h2 g
    · obtain rfl:q=c:=by omega
      exact hz i h1 h2⟩
def Zau (l:List (List Int)) (i j:Nat):List (List Int):=(l.set i (at_ l j)).set j (at_ l i)
theorem Zlv {l:List (List Int)} {d p:Nat} (hd:d < l.length) (hp:p < l.length) (i:Nat):at_ (Zau l d p) i=if i=p then at_ l d else if i=d then at_ l p else at_ l i:=by
  unfold Zau
  rw [Zgi (by simpa using hp)]
  split
  · rfl
  · rw [Zgi hd]
theorem Zjb {l:List (List Int)} {d p:Nat}:(Zau l d p).length=l.length:=by simp [Zau]
structure Swept (d c:Nat) (w w3:List (List Int)):Prop where
  len:w3.length=w.length
  row:∀ j,j < w.length→at_ w3 j=if j=d then at_ w d else subR (vec (at_ w j) c) (at_ w j) (at_ w d)
theorem Inv.step {n : Nat} {rows work w3 : List (List Int)} {d c p : Nat} {by_ : Int} (h : Inv n rows work d c) (hdp : d ≤ p) (hp : p < work.length)
    (hby:vec (at_ work p) c * by_ % 10007=1) (hs:Swept d c ((Zau work d p).set d (Xr by_ (at_ (Zau work d p) d))) w3):Inv n rows w3 (d+1) (c+1):=by
  have hd:d < work.length:=by omega
  have hd1:d < (Zau work d p).length:=by rw [Zjb]; exact hd
  generalize hw2:(Zau work d p).set d (Xr by_ (at_ (Zau work d p) d))=w2 at hs
  have l2:w2.length=work.length:=by rw [← hw2,ZFs,Zjb]
  have l3:w3.length=work.length:=by rw [hs.len,l2]
  have e1:at_ (Zau work d p) d=at_ work p:=by
    rw [Zlv hd hp]
    by_cases q:d=p
    · subst q; rw [if_pos rfl]
    · rw [if_neg q,if_pos rfl]
  have a2:∀ i,at_ w2 i=if i=d then Xr by_ (at_ work p) else if i=p then at_ work d else at_ work i:=fun i=>by
    rw [← hw2,Zgi hd1,e1,Zlv hd hp]
    by_cases q:i=d
    · rw [if_pos q,if_pos q]
    · rw [if_neg q,if_neg q]
      by_cases q2:i=p
      · rw [if_pos q2,if_neg q]
      · rw [if_neg q2,if_neg q]
  have hr:at_ w2 d=Xr by_ (at_ work p):=by rw [a2,if_pos rfl]
  have rok:RowOk n (at_ w2 d):=by rw [hr]; exact Zgh (h.ok p hp)
  have rc:vec (at_ w2 d) c=1:=by rw [hr,Zb1,hby]
  have rl:∀ q,q < c→vec (at_ w2 d) q=0:=fun q hq=>by rw [hr,Zb1,h.rest p q hdp hp hq]; simp
  have rld:ld (at_ w2 d)=c:=Zgg rl (by rw [rc]; decide)
  have ok2:∀ i,i < work.length→RowOk n (at_ w2 i):=fun i hi=>by
    rw [a2]; split
    · exact Zgh (h.ok p hp)
    · split
      · exact h.ok d hd
      · exact h.ok i hi
  have a3:∀ j,j < work.length→at_ w3 j=if j=d then at_ w2 d else subR (vec (at_ w2 j) c) (at_ w2 j) (at_ w2 d):=fun j hj=>hs.row j (by omega)
  have a3d:at_ w3 d=at_ w2 d:=by rw [a3 d hd,if_pos rfl]
  have a3n:∀ j,j < work.length→j≠d→at_ w3 j=subR (vec (at_ w2 j) c) (at_ w2 j) (at_ w2 d):=fun j hj hn=>by rw [a3 j hj,if_neg hn]
  have len2:∀ j,j < work.length→(at_ w2 j).length=(at_ w2 d).length:=fun j hj=>(ok2 j hj).len.trans rok.len.symm
  -- a row at which the row d has nothing keeps its number
  have keep:∀ j q,j < work.length→j≠d→vec (at_ w2 d) q=0→vec (at_ w3 j) q=vec (at_ w2 j) q:=fun j q hj hn hq=>by
    rw [a3n j hj hn,Zbf (len2 j hj),hq,Int.mul_zero,Int.sub_zero,(ok2 j hj).mod]
  have atc:∀ j,j < work.length→j≠d→vec (at_ w3 j) c=0:=fun j hj hn=>by rw [a3n j hj hn,Zbf (len2 j hj),rc]; simp
  have low2:∀ i,i < d→at_ w2 i=at_ work i:=fun i hi=>by rw [a2,if_neg (by omega),if_neg (by omega)]
  have el:∀ i,i < d→Elim n (at_ w2 d) (at_ work i) (at_ w3 i):=fun i hi=>by
    have hi':i < work.length:=by omega
    have hpv:=h.piv i hi
    have:=elim rok (by rw [rld,rc]) (h.ok i hi') hpv.2 (rl _ hpv.1)
    rw [rld] at this
    rw [a3n i hi' (by omega),low2 i hi]; exact this
  have ldi:∀ i,i < d→ld (at_ w3 i)=ld (at_ work i):=fun i hi=>(el i hi).ldq
  refine⟨fun i hi=>?_,h.sp.trans ?_,by omega,fun i hi=>?_,fun i j hi hj hij=>?_,fun i j hij hj=>?_,fun i q hi hil hq=>?_⟩
  · rw [l3] at hi
    rw [a3 i hi]; split
    · exact rok
    · exact Zi8 (ok2 i hi) rok
  · have s1 : SpEq work w2 := by
      refine Zoq (fun i hi=>?_) (fun i hi=>?_)
      · have back:Sp (gens w2) (vec (at_ work p)):=by
          refine Sp.sum (vec (at_ work p) c) (Sp.nil _) (Jt (Zbg (w:=w2) (i:=d) (by omega))) fun j=>?_
          rw [hr,Zb1,ZO0,ZSh,Z3u,← ZSh]
          have:vec (at_ work p) c * (vec (at_ work p) j * by_)=vec (at_ work p) j * (vec (at_ work p) c * by_):=by
            rw [← Z3t,Z3q (vec (at_ work p) c),Z3t]
          rw [this,ZSh,hby]; simp
        by_cases q:i=p
        · rw [q]; exact back
        · by_cases q2:i=d
          · have:at_ work i=at_ w2 p:=by rw [a2,if_neg (by omega),if_pos rfl,q2]
            rw [this]; exact Jt (Zbg (by omega))
          · have:at_ work i=at_ w2 i:=by rw [a2,if_neg q2,if_neg q]
            rw [this]; exact Jt (Zbg (by omega))
      · rw [l2] at hi
        rw [a2]; split
        · refine Sp.sum by_ (Sp.nil _) (Jt (Zbg hp)) fun j=>?_
          rw [Zb1,Z3u,ZO0,Z3q]
        · split
          · exact Jt (Zbg hd)
          · exact Jt (Zbg hi)
    have s2:SpEq w2 w3:=by
      have g3:Sp (gens w3) (vec (at_ w2 d)):=by rw [← a3d]; exact Jt (Zbg (by omega))
      have g2:Sp (gens w2) (vec (at_ w2 d)):=Jt (Zbg (by omega))
      refine Zoq (fun i hi=>?_) (fun i hi=>?_)
      · rw [l2] at hi
        by_cases q:i=d
        · rw [q]; exact g3
        · refine Zsy (k:=vec (at_ w2 i) c) (len2 i hi) ?_ g3
          rw [← a3n i hi q]; exact Jt (Zbg (by omega))
      · rw [l3] at hi
        by_cases q:i=d
        · rw [q,a3d]; exact g2
        · rw [a3n i hi q]
          exact Zsx (len2 i hi) (Jt (Zbg (by omega))) g2
    exact s1.trans s2
  · by_cases q:i=d
    · rw [q,a3d,rld]; exact⟨by omega,rc⟩
    · have hi':i < d:=by omega
      rw [ldi i hi']
      exact⟨Nat.lt_succ_of_lt (h.piv i hi').1,(el i hi').one⟩
  · rw [l3] at hj
    by_cases q:i=d
    · subst q; rw [a3d,rld]; exact atc j hj (fun z=>hij z.symm)
    · have hi':i < d:=by omega
      rw [ldi i hi']
      have hpv:=h.piv i hi'
      by_cases qj:j=d
      · rw [qj,a3d]; exact rl _ hpv.1
      · rw [keep j _ hj qj (rl _ hpv.1),a2,if_neg qj]
        split
        · exact h.clr i d hi' hd (by omega)
        · exact h.clr i j hi' hj hij
  · by_cases q:j=d
    · have hi':i < d:=by omega
      rw [q,a3d,rld,ldi i hi']; exact(h.piv i hi').1
    · rw [ldi i (by omega),ldi j (by omega)]; exact h.inc i j hij (by omega)
  · rw [l3] at hil
    have qd:i≠d:=by omega
    by_cases qc:q=c
    · rw [qc]; exact atc i hil qd
    · rw [keep i q hil qd (rl q (by omega)),a2,if_neg qd]
      split
      · exact h.rest d q (ZEn _) hd (by omega)
      · exact h.rest i q (by omega) hil (by omega)
theorem Inv.fin {n : Nat} {rows work : List (List Int)} {d c : Nat} (h : Inv n rows work d c) (he : d = work.length ∨ n ≤ c) : IsRref n rows (work.take d) := by
  have hd:=h.dl
  have lt:(work.take d).length=d:=by rw [ZGs]; omega
  refine⟨⟨fun a ha=>?_,?_⟩,h.sp.trans (Zoq (fun i hi=>?_) (fun i hi=>?_))⟩
  · obtain ⟨i,hi,rfl⟩:=Zop ha
    rw [Zja (by omega)]
    exact⟨h.ok i (by omega),(h.piv i (by omega)).2⟩
  · rw [ZEq]
    intro i j hi hj hij
    rw [← Zi9 hi,← Zi9 hj,Zja (by omega),Zja (by omega)]
    exact⟨h.inc i j hij (by omega),h.clr j i (by omega) (by omega) (by omega)⟩
  · by_cases q:i < d
    · rw [← Zja q]; exact Jt (Zbg (by omega))
    · refine .zero fun j=>?_
      rcases he with e | e
      · omega
      · rcases ZFu j n with g | g
        · rw [h.rest i j (by omega) hi (by omega)]; rfl
        · rw [Zaf (by rw [(h.ok i hi).len]; exact g)]; rfl
  · rw [Zja (by omega)]; exact Jt (Zbg (by omega))
theorem Rref.split_at {n : Nat} {out : List (List Int)} (h : Rref n out) (k : Nat) : ∃ l1 l2, out = l1 ++ l2 ∧ (∀ z, z ∈ l1 → ld z < k) ∧ ∀ z, z ∈ l2 → k ≤ ld z := by
  have hp:=h.pw
  clear h
  induction out with
  | nil=>exact⟨[],[],rfl,by simp,by simp⟩
  | cons x l ih =>
    obtain ⟨p1,p2⟩:=ZFb.1 hp
    by_cases q:ld x < k
    · obtain ⟨l1,l2,e,h1,h2⟩:=ih p2
      exact⟨x::l1,l2,by rw [e]; rfl,fun z hz=>by
        rcases ZEk.1 hz with rfl | hz
        · exact q
        · exact h1 z hz,h2⟩
    · exact⟨[],x::l,rfl,by simp,fun z hz=>by
        rcases ZEk.1 hz with rfl | hz
        · omega
        · have:=(p1 z hz).1; omega⟩
structure IsBy (n:Nat) (out:List (List Int)) (row r:List Int):Prop where
  ok:RowOk n r
  clr:∀ z,z∈out→vec r (ld z)=0
  df:Sp (gens out) (fun j=>vec row j - vec r j)
theorem IsBy.nil {n:Nat} {row:List Int} (h:RowOk n row):IsBy n [] row row:=⟨h,by simp,.zero fun j=>by simp⟩
theorem IsBy.step {n:Nat} {l1 l2:List (List Int)} {z row r:List Int} (hR:Rref n (l1++z::l2)) (h:IsBy n l1 row r):IsBy n (l1++[z]) row (subR (vec r (ld z)) r z):=by
  have hz:=hR.ok z (by simp)
  have hl:=h.ok.len.trans hz.1.len.symm
  obtain ⟨_,_,p3⟩:=ZP5.1 hR.pw
  refine⟨Zi8 h.ok hz.1,fun y hy=>?_,Sp.sum (vec r (ld z)) (h.df.mono fun v ⟨x,hx,e⟩=>.gen ⟨x,by simp [hx],e⟩) (Jt (a:=z) (by simp)) fun j=>?_⟩
  · rw [Zbf hl]
    rcases ZEv.1 hy with hy | hy
    · rw [h.clr y hy,Zat (p3 y hy z (by simp)).1]; simp
    · obtain rfl:=ZFz.1 hy
      rw [hz.2]; simp
  · rw [Zbf hl]
    generalize vec r (ld z) * vec z j=x
    omega
theorem IsBy.same {n:Nat} {l1 l2:List (List Int)} {z row r:List Int} (hR:Rref n (l1++z::l2)) (h:IsBy n l1 row r) (h0:vec r (ld z)=0):IsBy n (l1++[z]) row r:=by
  have:=h.step hR
  rwa [h0,Zlu h.ok (hR.ok z (by simp)).1] at this
theorem IsBy.unique {n:Nat} {out:List (List Int)} {row a b:List Int} (hR:Rref n out) (ha:IsBy n out row a) (hb:IsBy n out row b):a=b:=by
  refine ha.ok.ext hb.ok fun j=>?_
  refine Z38 fun nj=>?_
  have hd:Sp (gens out) (fun j=>vec a j - vec b j):=Sp.sum (-1) hb.df ha.df fun j=>by congr 1; omega
  have nj':(vec a j - vec b j) % 10007≠0:=by omega
  obtain ⟨q,h1,h2⟩:=Zsw (p:=fun j=>(vec a j - vec b j) % 10007≠0) nj'
  obtain ⟨y,hy,ey⟩:=hR.leads hd (q:=q) (fun j hj=>ZPz.1 (h2 j hj)) h1
  refine h1 ?_
  rw [← ey,ha.clr y hy,hb.clr y hy]; rfl
theorem IsRref.zero (n:Nat):IsRref n [] []:=⟨Rref.nil n,SpEq.refl _⟩
theorem Zor {S:Vec→Prop} {a b:Vec} (hd:Sp S (fun j=>a j - b j)):Sp S a↔Sp S b :=
  ⟨fun h=>Sp.sum (-1) h hd fun j=>by congr 1; omega,fun h=>Sp.sum 1 h hd fun j=>by congr 1; omega⟩
theorem IsRref.put0 {n:Nat} {rows out:List (List Int)} {row r:List Int} (h:IsRref n rows out) (hb:IsBy n out row r) (h0:∀ j,vec r j=0):IsRref n (rows++[row]) out:=by
  refine⟨h.red,Zon (fun x hx=>?_) (fun x hx=>?_)⟩
  · rcases ZEv.1 hx with hx | hx
    · exact(h.sp _).1 (Jt hx)
    · obtain rfl:=ZFz.1 hx
      exact(Zor hb.df).2 (.zero fun j=>by rw [h0]; rfl)
  · exact((h.sp _).2 (Jt hx)).mono fun v ⟨y,hy,e⟩=>.gen ⟨y,by simp [hy],e⟩
theorem IsRref.put {n : Nat} {rows l1 l2 : List (List Int)} {row r : List Int} {k : Int} (h : IsRref n rows (l1 ++ l2)) (hb : IsBy n (l1 ++ l2) row r) (hk : vec r (ld r) * k % 10007 = 1) (h1 : ∀ z, z ∈ l1 → ld z < ld r) (h2 : ∀ z, z ∈ l2 → ld r ≤ ld z) :
    IsRref n (rows++[row]) (l1.map (fun z=>subR (vec z (ld r)) z (Xr k r))++Xr k r::l2.map (fun z=>subR (vec z (ld r)) z (Xr k r))):=by
  have rok:RowOk n (Xr k r):=Zgh hb.ok
  have r1:vec (Xr k r) (ld r)=1:=by rw [Zb1,hk]
  have rl:ld (Xr k r)=ld r:=Zgg (fun q hq=>by rw [Zb1,Zat hq]; simp) (by rw [r1]; decide)
  have rz:∀ z,z∈l1++l2→vec (Xr k r) (ld z)=0:=fun z hz=>by rw [Zb1,hb.clr z hz]; simp
  have n0:vec r (ld r)≠0:=fun z=>by rw [z] at hk; simp at hk
  have ins:=h.red.insert rok (by rw [rl]; exact r1) rz (fun z hz=>by rw [rl]; exact h1 z hz) (fun z hz=>by
    rw [rl]
    have:=h2 z hz
    have:=hb.clr z (ZE5 _ hz)
    rcases ZFu (ld r) (ld z) with g | g
    · exact g
    · rw [show ld z=ld r by omega] at this; exact absurd this n0)
  rw [rl] at ins
  refine⟨ins,Zon (fun x hx=>?_) (fun x hx=>?_)⟩
  · generalize hT:l1.map (fun z=>subR (vec z (ld r)) z (Xr k r))++Xr k r::l2.map (fun z=>subR (vec z (ld r)) z (Xr k r))=T at *
    have gr:Sp (gens T) (vec (Xr k r)):=Jt (by rw [← hT]; simp)
    have gz:∀ z,z∈l1++l2→Sp (gens T) (vec z):=fun z hz=>by
      refine Zsy (k:=vec z (ld r)) ((h.red.ok z hz).1.len.trans rok.len.symm) (Jt ?_) gr
      rw [← hT]
      rcases ZEv.1 hz with q | q
      · exact ZFa _ (ZF2.2 ⟨z,q,rfl⟩)
      · exact ZE5 _ (ZSc _ (ZF2.2 ⟨z,q,rfl⟩))
    have up:∀ {v}, Sp (gens (l1++l2)) v→Sp (gens T) v:=fun q=>q.mono fun v ⟨y,hy,e⟩=>e ▸ gz y hy
    rcases ZEv.1 hx with hx | hx
    · exact up ((h.sp _).1 (Jt hx))
    · obtain rfl:=ZFz.1 hx
      refine(Zor (up hb.df)).2 (Sp.sum (vec r (ld r)) (Sp.nil _) gr fun j=>?_)
      rw [Zb1,ZO0,ZSh,Z3u,← ZSh]
      have:vec r (ld r) * (vec r j * k)=vec r j * (vec r (ld r) * k):=by
        rw [← Z3t,Z3q (vec r (ld r)),Z3t]
      rw [this,ZSh,hk]; simp
  · generalize hR:rows++[row]=R
    have up:∀ {v}, Sp (gens rows) v→Sp (gens R) v:=fun q=>q.mono fun v ⟨y,hy,e⟩=>.gen ⟨y,by rw [← hR]; simp [hy],e⟩
    have gz:∀ z,z∈l1++l2→Sp (gens R) (vec z):=fun z hz=>up ((h.sp _).2 (Jt hz))
    have grow:Sp (gens R) (vec r):=by
      refine(Zor (hb.df.mono fun v ⟨y,hy,e⟩=>e ▸ gz y hy)).1 (Jt (by rw [← hR]; simp))
    have gr:Sp (gens R) (vec (Xr k r)):=Sp.sum k (Sp.nil _) grow fun j=>by rw [Zb1,Z3u,ZO0,Z3q]
    have fin:∀ z,z∈l1++l2→Sp (gens R) (vec (subR (vec z (ld r)) z (Xr k r))):=fun z hz=>Zsx ((h.red.ok z hz).1.len.trans rok.len.symm) (gz z hz) gr
    rcases ZEv.1 hx with q | q
    · obtain ⟨z,hz,rfl⟩:=ZF2.1 q; exact fin z (ZFa _ hz)
    · rcases ZEk.1 q with rfl | q
      · exact gr
      · obtain ⟨z,hz,rfl⟩:=ZF2.1 q; exact fin z (ZE5 _ hz)
end Vc
namespace Go.Proofs.YtaagfepgbofmlaaGreat
open Go Vc
def goN:Nat→Nat→Nat→Nat→Nat
  | 0,_,o,_=>o
  | f+1,x,o,k=>if k=0 then o else goN f (x * x % 10007) (if k % 2=1 then o * x % 10007 else o) (k / 2)
def Zch (x:Nat):Nat:=goN 14 x 1 10005
def chk (a:Nat):Bool:=(List.range 101).all fun b=>(101 * a+b == 0) || Nat.blt 10006 (101 * a+b) || (101 * a+b) * Zch (101 * a+b) % 10007 == 1
theorem ZCr:(List.range 100).all chk=true:=by decide +kernel
theorem ZCs {x:Nat} (h1:1≤x) (h2:x≤10006):x * Zch x % 10007=1:=by
  have h:=List.all_eq_true.1 ZCr (x / 101) (ZGd.2 (by omega))
  have h':=List.all_eq_true.1 h (x % 101) (ZGd.2 (by omega))
  have e:101 * (x / 101)+x % 101=x:=Nat.div_add_mod x 101
  rw [e] at h'
  simp only [Bool.or_eq_true,beq_iff_eq] at h'
  rcases h' with (q | q) | q
  · omega
  · rw [Nat.blt_eq] at q; omega
  · exact q
theorem ZCt (f x o:Nat):goN f x o 0=o:=by
  cases f with
  | zero=>rfl
  | succ f=>rw [goN,if_pos rfl]
theorem ZCu {f x o k:Nat} (hk:k≠0):goN (f+1) x o k=goN f (x * x % 10007) (if k % 2=1 then o * x % 10007 else o) (k / 2):=by
  rw [goN,if_neg hk]
theorem ZCv:∀ (f x o k:Nat),o≤10006→goN f x o k≤10006:=by
  intro f
  induction f with
  | zero=>intro x o k h; exact h
  | succ f ih =>
    intro x o k h
    rw [goN]
    split
    · exact h
    · refine ih _ _ _ ?_
      split
      · omega
      · exact h
theorem Zsz (x:Nat):Zch x≤10006:=ZCv _ _ _ _ (by omega)
theorem ZCw {a b:Nat} (ha:a≤10006) (hb:b≤10006):a * b≤100120036:=Nat.mul_le_mul ha hb
theorem Zs0 {a b:Nat} (ha:a≤10006) (hb:b≤10006):ZFf (ZG5.wrap ((a:Int) * (b:Int))) 10007=((a * b % 10007:Nat):Int):=by
  have h:=ZCw ha hb
  rw [show (a:Int) * (b:Int)=((a * b:Nat):Int) by simp,i64_in _ (by omega),ZO4 (by omega)]
  rfl
def InvSt (x:Nat) (X O k:Int):Prop:=∃ (f x' o' k':Nat),X=x'∧O=o'∧k=k'∧x'≤10006∧o'≤10006∧(k' < 2 ^ f∧k'≤10005)∧goN f x' o' k'=Zch x
theorem InvSt.start {x:Nat} (hx:x≤10006):InvSt x x 1 10005:=⟨14,x,1,10005,rfl,rfl,rfl,hx,by omega,⟨by decide,by omega⟩,rfl⟩
theorem InvSt.step {x:Nat} {X O k:Int} (h:InvSt x X O k) (hk:k > 0) :
    InvSt x (ZFf (ZG5.wrap (X * X)) 10007) (if ZFf k 2=1 then ZFf (ZG5.wrap (O * X)) 10007 else O) (ZG5.wrap (Int.tdiv k 2))∧(ZG5.wrap (Int.tdiv k 2)).toNat < k.toNat:=by
  obtain ⟨f,x',o',k',rfl,rfl,rfl,h1,h2,⟨h3,h5⟩,h4⟩:=h
  have hk0:k'≠0:=by omega
  cases f with
  | zero=>simp at h3; omega
  | succ f =>
    rw [ZCu hk0] at h4
    have e1:Int.tdiv (k':Int) 2=((k' / 2:Nat):Int):=by rw [Int.tdiv_eq_ediv_of_nonneg (by omega)]; rfl
    have e2:(ZFf (k':Int) 2=1)↔k' % 2=1:=by rw [ZO4 (by omega)]; omega
    rw [e1,Zs0 h1 h1,i64_in ((k' / 2:Nat):Int) (by omega)]
    refine⟨⟨f,_,if k' % 2=1 then o' * x' % 10007 else o',k' / 2,rfl,?_,rfl,by omega,?_,⟨?_,by omega⟩,h4⟩,by omega⟩
    · by_cases q:k' % 2=1
      · rw [if_pos q,if_pos (e2.2 q),Zs0 h2 h1]
      · rw [if_neg q,if_neg (fun z=>q (e2.1 z))]
    · split <;> omega
    · rw [Nat.pow_succ] at h3; omega
theorem InvSt.done {x:Nat} {X O k:Int} (h:InvSt x X O k) (hk:¬ k > 0):O=Zch x:=by
  obtain ⟨f,x',o',k',rfl,rfl,rfl,h1,h2,⟨h3,h5⟩,h4⟩:=h
  obtain rfl:k'=0:=by omega
  rw [ZCt] at h4; rw [h4]
theorem ZCx {x:Nat} (hx:x≤10006) {K:Int→Prop} (h:K (Zch x)):Ziv (x:Int) K:=by
  unfold Ziv
  refine X5 (fun (s:Int×Int×Int)=>InvSt x s.1 s.2.1 s.2.2) (fun s=>s.2.2.toNat) ?_ (InvSt.start hx)
  rintro ⟨X,O,k⟩ next g hn
  dsimp only at g hn ⊢
  by_cases hk:k > 0
  · refine Yz hk ?_
    obtain ⟨g1,g2⟩:=g.step hk
    by_cases q:ZFf k 2=1
    · rw [if_pos q] at g1
      exact Yz q (hn _ g1 g2)
    · rw [if_neg q] at g1
      exact Y0 q (hn _ g1 g2)
  · refine Y0 hk ?_
    rw [g.done hk]; exact h
theorem ZCy {x:Nat} (hx:x≤10006) {K:Int→Prop} (h:K (Zch x)):Ze0 (x:Int) K:=by
  unfold Ze0
  refine X5 (fun (s:Int×Int×Int)=>InvSt x s.2.1 s.1 s.2.2) (fun s=>s.2.2.toNat) ?_ (InvSt.start hx)
  rintro ⟨O,X,k⟩ next g hn
  dsimp only at g hn ⊢
  by_cases hk:k > 0
  · refine Yz hk ?_
    obtain ⟨g1,g2⟩:=g.step hk
    by_cases q:ZFf k 2=1
    · rw [if_pos q] at g1
      exact Yz q (hn _ g1 g2)
    · rw [if_neg q] at g1
      exact Y0 q (hn _ g1 g2)
  · refine Y0 hk ?_
    rw [g.done hk]; exact h
end Go.Proofs.YtaagfepgbofmlaaGreat
namespace Go.Proofs.YtaagfepgbofmlaaGreat
open Go Vc
def Zav (n:Nat) (rows:List (List Int)):Prop:=∀ a,a∈rows→RowOk n a
theorem Zb2 (a:List Int) (j:Nat):a.getD j ZEo=vec a j:=rfl
theorem Zgj (w:List (List Int)) (i:Nat):w.getD i ZEo=at_ w i:=rfl
theorem RowOk.fit {n:Nat} {a:List Int} (h:RowOk n a) (j:Nat):0≤a.getD j ZEo∧a.getD j ZEo≤10006:=h.rng j
theorem Zos {a b:Int} (ha:0≤a∧a≤10006) (hb:0≤b∧b≤10006):0≤a * b∧a * b≤100120036:=⟨ZS3 ha.1 hb.1,Int.mul_le_mul ha.2 hb.2 hb.1 (by omega)⟩
theorem Zjc {a:List Int} {i:Nat} (hi:i < a.length) (x:Int) (j:Nat):vec (a.set i x) j=if j=i then x else vec a j:=by
  unfold vec
  simp only [ZEy]
  by_cases e:j=i
  · subst e; rw [if_pos rfl,List.getElem?_set_self hi]; rfl
  · rw [if_neg e,List.getElem?_set_ne (fun z=>e z.symm)]
theorem Zot {n:Nat} {a b r:List Int} (hl:r.length=n) (hb:b.length=n) (h:∀ j,j < n→vec r j=vec b j):r=b :=
  Zlt (hl.trans hb.symm) fun j=>by
    by_cases q:j < n
    · exact h j q
    · rw [Zaf (by omega),Zaf (by omega)]
theorem ZCz {a:List Int} {K:List Int→Prop} (hl:a.length≤1000000) (h:K a):Zlh a K :=
  ⟨fun e=>e ▸ h,by unfold Zy; omega,h⟩
theorem ZC0 {n:Nat} {a b:List Int} {k:Int} {K:List Int→Prop} (ha:RowOk n a) (hb:RowOk n b) (hk:0≤k∧k≤10006) (h:K (subR k a b)):Ziu a b k K:=by
  unfold Ziu
  have hl:=ha.len.trans hb.len.symm
  refine Yr (fun i (s:List Int)=>s.length=n∧∀ j,vec s j=if j < i then(vec a j - k * vec b j) % 10007 else vec a j) b.length ?_ ?_ _ _ _ (by omega) ⟨ha.len,fun j=>by rw [if_neg (by omega)]⟩
  · rintro i s next hi ⟨g1,g2⟩ hn
    have hi':i < n:=by rw [← hb.len]; exact hi
    have e1:s.getD i ZEo=vec a i:=by rw [Zb2,g2,if_neg (by omega)]
    have pb:=Zos hk (hb.rng i)
    have ra:=ha.rng i
    rw [e1,Zb2 b i,i64_in (k * vec b i) (by omega),ZO4 pb.1,i64_in _ (by omega)]
    refine⟨by omega,Znh ⟨by omega,hn _ ⟨by rw [ZFs]; exact g1,fun j=>?_⟩⟩⟩
    rw [Zjc (by omega),g2]
    by_cases e:j=i
    · subst e; rw [if_pos rfl,if_pos (by omega)]; omega
    · rw [if_neg e]
      by_cases c:j < i
      · rw [if_pos c,if_pos (by omega)]
      · rw [if_neg c,if_neg (by omega)]
  · rintro s ⟨g1,g2⟩
    have:s=subR k a b:=Zot (a:=a) g1 (by rw [Zi7 hl,ha.len]) fun j hj=>by rw [g2,if_pos (by rw [hb.len]; exact hj),Zbf hl]
    rw [this]; exact h
theorem Zou {n:Nat} {a b:List Int} {k:Int} {K:List Int→Prop} (ha:RowOk n a) (hb:RowOk n b) (hn1:n≤1000000) (hk:0≤k∧k≤10006) (h:K (subR k a b)):Jl a b k K:=by
  unfold Jl
  have hl:=ha.len.trans hb.len.symm
  have hla:=ha.len
  refine⟨by omega,?_⟩
  rw [Z3p]
  refine Yr (fun i (s:List Int)=>s.length=n∧∀ j,j < i→vec s j=(vec a j - k * vec b j) % 10007) a.length ?_ ?_ _ _ _ (by omega) ⟨by simp [hla],fun j hj=>by omega⟩
  · rintro i s next hi ⟨g1,g2⟩ hn
    have pb:=Zos hk (hb.rng i)
    have ra:=ha.rng i
    rw [Zb2 a i,Zb2 b i,i64_in (k * vec b i) (by omega),i64_in _ (by omega)]
    refine⟨by omega,Zdd ⟨by omega,hn _ ⟨by rw [ZFs]; exact g1,fun j hj=>?_⟩⟩⟩
    rw [Zjc (by omega)]
    by_cases e:j=i
    · subst e; rw [if_pos rfl]
    · rw [if_neg e]; exact g2 j (by omega)
  · rintro s ⟨g1,g2⟩
    have:s=subR k a b:=Zot (a:=a) g1 (by rw [Zi7 hl,ha.len]) fun j hj=>by rw [g2 j (by omega),Zbf hl]
    rw [this]; exact h
theorem Zs1 {a:List Int} {K:Int→Prop} (hl:a.length≤1000000) (h1:ld a < a.length→K (ld a)) (h0:(∀ j,vec a j=0)→K (-1)):Zbe a K:=by
  unfold Zbe
  refine Yr (fun i (s:Unit)=>∀ j,j < i→vec a j=0) a.length ?_ ?_ _ _ _ (by omega) (fun j hj=>by omega)
  · intro i s next hi g hn
    rw [Zb2]
    by_cases q:vec a i≠0
    · refine Yz q ?_
      have e:=Zgg (fun j hj=>g j hj) q
      have:=h1 (by rw [e]; exact hi)
      rwa [e] at this
    · refine Y0 q (hn _ fun j hj=>?_)
      by_cases e:j=i
      · subst e; exact ZPz.1 q
      · exact g j (by omega)
  · intro s g
    exact h0 fun j=>by
      by_cases q:j < a.length
      · exact g j q
      · exact Zaf (by omega)
theorem Zov {n:Nat} {a:List Int} {K:Int→Prop} (hn:n≤1000000) (ha:RowOk n a∧vec a (ld a)=1) (h:K (ld a)):Zbe a K :=
  Zs1 (by rw [ha.1.len]; exact hn) (fun _=>h) fun z=>by have:=z (ld a); rw [ha.2] at this; exact absurd this (by decide)
theorem ZC1 {n:Nat} {row:List Int} {out:List (List Int)} {K:List Int→Prop} (hR:Rref n out) (hn:n≤1000000) (ho:out.length≤1000000) (hr:RowOk n row) (h:∀ r,IsBy n out row r→K r):Zim row out K:=by
  unfold Zim
  refine Yr (fun i (s:List Int)=>IsBy n (out.take i) row s) out.length ?_ ?_ _ _ _ (by omega) (by simpa using IsBy.nil hr)
  · intro i s next hi g hn'
    have hm:=Y5 (l:=out) hi
    have hz:=hR.ok _ hm
    have hlz:=Zoo hz
    refine Zov hn hz ⟨⟨by omega,by rw [g.ok.len]; omega⟩,?_⟩
    rw [Z3p,Zb2 s]
    have hsp:out.take i++out.getD i ZEo::out.drop (i+1)=out:=by
      rw [show out.getD i ZEo=out[i] by simp [ZEy,hi],List.getElem_cons_drop hi,ZIl]
    have hR':Rref n (out.take i++out.getD i ZEo::out.drop (i+1)):=by rw [hsp]; exact hR
    by_cases q:vec s (ld (out.getD i ZEo))≠0
    · refine Yz q ⟨⟨by omega,by rw [g.ok.len]; omega⟩,Zou g.ok hz.1 hn (g.ok.rng _) (hn' _ ?_)⟩
      rw [Xq hi]; exact g.step hR'
    · refine Y0 q (hn' _ ?_)
      rw [Xq hi]; exact g.same hR' (ZPz.1 q)
  · intro s g
    rw [Z3o] at g; exact h s g
theorem Zs2 (n:Nat):RowOk n (ZEj n (0:Int)):=⟨by simp,fun j=>by
  have:vec (ZEj n (0:Int)) j=0:=by
    by_cases q:j < n
    · rw [Zcx (by simpa using q)]; simp
    · exact Zaf (by simp; omega)
  omega⟩
theorem Zlw (n j:Nat):vec (ZEj n (0:Int)) j=0:=by
  by_cases q:j < n
  · rw [Zcx (by simpa using q)]; simp
  · exact Zaf (by simp; omega)
theorem ZC2 {n:Nat} {r:List Int} {k:Int} (hr:RowOk n r):subR ((0 - k) % 10007) (ZEj n (0:Int)) r=Xr k r:=by
  have hl:(ZEj n (0:Int)).length=r.length:=by simp [hr.len]
  refine(Zi8 (Zs2 n) hr).ext (Zgh hr) fun j=>?_
  rw [Zbf hl,Zb1,Zlw]
  have e:((0 - k) % 10007 * vec r j) % 10007=((0 - k) * vec r j) % 10007:=by rw [ZSh,Z3u,← ZSh]
  have e2:(0 - k) * vec r j=- (vec r j * k):=by rw [Int.zero_sub,Int.neg_mul,Z3q]
  rw [e2] at e
  generalize (0 - k) % 10007 * vec r j=x at *
  generalize vec r j * k=y at *
  omega
theorem Zs3 {x:Int} (h:1≤x∧x≤10006):x * ((Zch x.toNat:Nat):Int) % 10007=1:=by
  have e:x=((x.toNat:Nat):Int):=by omega
  have:=ZCs (x:=x.toNat) (by omega) (by omega)
  rw [e,Z3p]
  rw [← Int.natCast_mul]
  have h7:((x.toNat * Zch x.toNat % 10007:Nat):Int)=1:=by rw [this]; rfl
  rw [← h7]; rfl
theorem ZC3 {n : Nat} {rows out : List (List Int)} {row : List Int} {K : List (List Int) → Prop} (h : IsRref n rows out) (hn : n ≤ 1000000) (ho : out.length ≤ 1000000) (hr : RowOk n row) (hK : ∀ out', IsRref n (rows ++ [row]) out' → out'.length ≤ out.length + 1 → K out') : Zin out row K := by
  unfold Zin
  refine ZC1 h.red hn ho hr fun r hb=>?_
  have hrl:=hb.ok.len
  refine Zs1 (by omega) (fun hlt=>Y0 (by omega) ?_) (fun hz=>Yz (by decide) (hK _ (h.put0 hb hz) (by omega)))
  have hnz:=Zlr hlt
  have hrg:=hb.ok.rng (ld r)
  have hrg1:1≤vec r (ld r)∧vec r (ld r)≤10006:=by omega
  have hinv:=Zs3 hrg1
  obtain ⟨l1,l2,e,hl1,hl2⟩:=h.red.split_at (ld r)
  generalize hk:((Zch (vec r (ld r)).toNat:Nat):Int)=k at hinv
  have hput:=(e ▸ h:IsRref n rows (l1++l2)).put (e ▸ hb:IsBy n (l1++l2) row r) hinv hl1 hl2
  have kb:0≤k∧k≤10006:=by have:=Zsz (vec r (ld r)).toNat; omega
  have rows_len:∀ z,z∈out→RowOk n z∧vec z (ld z)=1:=fun z hz=>h.red.ok z hz
  have mok:RowOk n (Xr k r):=Zgh hb.ok
  -- the walk Zot the rows
  have tail : ∀ q : List Int, q = Xr k r → Z8 (fun i10 (s10 : (List (List Int)) × Bool) nx10 => (if ¬ (s10.2 = true) then Zbe (out.getD i10 ZEo) (fun r18 => (if r18 > ((ld r : Nat) : Int) then (Zy (s10.1.length + 1) 24 ∧ ((0 ≤ ((ld r : Nat) : Int) ∧ ((ld r : Nat) : Int) < ((out.getD i10 ZEo).length : Int)) ∧ Jl (out.getD i10 ZEo) q ((out.getD i10 ZEo).getD ((ld r : Nat) : Int).toNat ZEo) (fun r12 => (Zy ((s10.1 ++ [q]).length + 1) 24 ∧ nx10 ((s10.1 ++ [q]) ++ [r12], true))))) else ((0 ≤ ((ld r : Nat) : Int) ∧ ((ld r : Nat) : Int) < ((out.getD i10 ZEo).length : Int)) ∧ Jl (out.getD i10 ZEo) q ((out.getD i10 ZEo).getD ((ld r : Nat) : Int).toNat ZEo) (fun r13 => (Zy (s10.1.length + 1) 24 ∧ nx10 (s10.1 ++ [r13], s10.2)))))) else ((0 ≤ ((ld r : Nat) : Int) ∧ ((ld r : Nat) : Int) < ((out.getD i10 ZEo).length : Int)) ∧ Jl (out.getD i10 ZEo) q ((out.getD i10 ZEo).getD ((ld r : Nat) : Int).toNat ZEo) (fun r14 => (Zy (s10.1.length + 1) 24 ∧ nx10 (s10.1 ++ [r14], s10.2)))))) (fun (s10 : (List (List Int)) × Bool) => (if ¬ (s10.2 = true) then (Zy (s10.1.length + 1) 24 ∧ K (s10.1 ++ [q])) else K s10.1)) out.length 0 ([], false) := by
    rintro q rfl
    have lout:out.length=l1.length+l2.length:=by rw [e,ZEz]
    let f:List Int→List Int:=fun z=>subR (vec z (ld r)) z (Xr k r)
    have hput':IsRref n (rows++[row]) (l1.map f++Xr k r::l2.map f):=hput
    refine Yr (fun i (s:List (List Int)×Bool)=>(i≤l1.length∧s=((l1.take i).map f,false))∨(l1.length < i∧s=(l1.map f++Xr k r::(l2.take (i - l1.length)).map f,true))) out.length ?_ ?_ _ _ _ (by omega) (.inl ⟨Nat.zero_le _,by simp⟩)
    · rintro i s next hi hs hn'
      have hm:=Y5 (l:=out) hi
      have hz:=rows_len _ hm
      have hlz:=Zoo hz
      have b1:0≤((ld r:Nat):Int)∧((ld r:Nat):Int) < ((out.getD i ZEo).length:Int):=by rw [hz.1.len]; omega
      have less:∀ K':List Int→Prop,K' (f (out.getD i ZEo))→Jl (out.getD i ZEo) (Xr k r) ((out.getD i ZEo).getD ((ld r:Nat):Int).toNat ZEo) K':=fun K' q=>Zou hz.1 mok hn (hz.1.rng _) q
      rcases hs with ⟨hil,rfl⟩ | ⟨hil,rfl⟩
      · dsimp only
        refine Yz (by decide) (Zov hn hz ?_)
        by_cases c:i < l1.length
        · have eg:out.getD i ZEo=l1.getD i ZEo:=by rw [e]; simp only [ZEy]; rw [List.getElem?_append_left c]
          have hlt1:ld (out.getD i ZEo) < ld r:=hl1 _ (by rw [eg]; exact Y5 c)
          refine Y0 (by omega) ⟨b1,less _ ⟨by rw [Z3n,ZGs]; unfold Zy; omega,hn' _ (.inl ⟨by omega,?_⟩)⟩⟩
          rw [Xq c,ZSi,eg]; rfl
        · obtain rfl:i=l1.length:=by omega
          have c2:0 < l2.length:=by omega
          have eg:out.getD l1.length ZEo=l2.getD 0 ZEo:=by rw [e]; simp only [ZEy]; rw [List.getElem?_append_right (ZEn _),Nat.sub_self]
          have hge:=hl2 _ (by rw [eg]; exact Y5 c2:out.getD l1.length ZEo∈l2)
          have hne:ld (out.getD l1.length ZEo)≠ld r:=fun z=>by
            have:=hb.clr _ hm
            rw [z] at this; exact hnz this
          refine Yz (by omega) ⟨by rw [Z3n,ZGs]; unfold Zy; omega,b1,less _ ⟨by rw [ZEz,Z3n,ZGs,Z3w]; unfold Zy; omega,hn' _ (.inr ⟨by omega,?_⟩)⟩⟩
          rw [Z3o,show l1.length+1 - l1.length=1 by omega,show l2.take 1=[l2.getD 0 ZEo] by
            cases l2 with
            | nil=>simp at c2
            | cons x y=>rfl,eg]
          simp
      · dsimp only
        have c2:i - l1.length < l2.length:=by omega
        have eg:out.getD i ZEo=l2.getD (i - l1.length) ZEo:=by rw [e]; simp only [ZEy]; rw [List.getElem?_append_right (by omega)]
        refine Y0 (by decide) ⟨b1,less _ ⟨by rw [ZEz,ZHf,Z3n,Z3n,ZGs]; unfold Zy; omega,hn' _ (.inr ⟨by omega,?_⟩)⟩⟩
        rw [show i+1 - l1.length=(i - l1.length)+1 by omega,Xq c2,ZSi,eg,List.append_assoc]; rfl
    · rintro s hs
      have fin:K (l1.map f++Xr k r::l2.map f):=hK _ hput' (by rw [ZEz,ZHf,Z3n,Z3n]; omega)
      rcases hs with ⟨hil,rfl⟩ | ⟨hil,rfl⟩
      · have h0:l2=[]:=ZTz (by omega)
        dsimp only
        refine Yz (by decide) ⟨by rw [Z3n,ZGs]; unfold Zy; omega,?_⟩
        rw [ZFo (by omega)]
        rw [h0] at fin; exact fin
      · dsimp only
        refine Y0 (by decide) ?_
        rw [ZFo (by omega)]; exact fin
  have hv:r.getD (((ld r:Nat):Int)).toNat ZEo=(((vec r (ld r)).toNat:Nat):Int):=by rw [Z3p,Zb2]; omega
  have inv:∀ K':Int→Prop,K' k→Ze0 (r.getD (((ld r:Nat):Int)).toNat ZEo) K':=fun K' q=>by
    rw [hv]; exact ZCy (by omega) (by rw [hk]; exact q)
  have less0:∀ K':List Int→Prop,K' (Xr k r)→Jl (ZEj ((r.length:Int).toNat) (0:Int)) r ((0 - k) % 10007) K':=fun K' q=>by
    rw [Z3p,hrl]
    exact Zou (Zs2 n) hb.ok hn (by omega) (by rw [ZC2 hb.ok]; exact q)
  have md:∀ K':Int→Prop,K' ((0 - k) % 10007)→Je (ZG5.wrap (0 - k)) K':=fun K' q=>by
    rw [i64_in _ (by omega)]; exact Zdd q
  have rm:(0:Int)≤(r.length:Int)∧(r.length:Int) * 8≤281474976710656:=by omega
  refine⟨by omega,⟨rm,inv _ (md _ (less0 _ (tail _ rfl)))⟩,inv _ ⟨⟨rm,md _ (less0 _ (tail _ rfl))⟩,md _ ⟨rm,less0 _ (tail _ rfl)⟩⟩⟩
theorem Zlx {n:Nat} {rows:List (List Int)} {K:List (List Int)→Prop} (hr:Zav n rows) (hn:n≤1000000) (hl:rows.length≤1000000) (h:∀ out,IsRref n rows out→out.length≤rows.length→K out):Zbw rows K:=by
  unfold Zbw
  refine Yr (fun i (s:List (List Int))=>IsRref n (rows.take i) s∧s.length≤i) rows.length ?_ ?_ _ _ _ (by omega) ⟨by simpa using IsRref.zero n,ZEn _⟩
  · rintro i s next hi ⟨g1,g2⟩ hn'
    refine ZC3 g1 hn (by omega) (hr _ (Y5 hi)) fun out' q1 q2=>hn' _ ⟨?_,by omega⟩
    rw [Xq hi]; exact q1
  · rintro s ⟨g1,g2⟩
    rw [Z3o] at g1; exact h s g1 g2
theorem ZC4 {l:List (List Int)} {c:Nat} {K:Int→Prop} (hl:l.length≤1000000) (hc:∀ i,i < l.length→c < (at_ l i).length) (h1:∀ i,i < l.length→vec (at_ l i) c≠0→(∀ j,j < i→vec (at_ l j) c=0)→K i) (h0:(∀ i,i < l.length→vec (at_ l i) c=0)→K (-1)):Ze2 l (fun y0_ K_=>Zd3 y0_ (c:Int) K_) K:=by
  unfold Ze2
  refine Yr (fun i (s:Unit)=>∀ j,j < i→vec (at_ l j) c=0) l.length ?_ ?_ _ _ _ (by omega) (fun j hj=>by omega)
  · intro i s next hi g hn
    show Zd3 (at_ l i) (c:Int) (fun r=>if r=true then K (i:Int) else next ())
    unfold Zd3
    have:=hc i hi
    rw [Z3p,Zb2]
    refine⟨by omega,?_⟩
    by_cases q:vec (at_ l i) c=0
    · rw [decide_eq_false (fun z=>z q)]
      refine Y0 (by decide) (hn _ fun j hj=>?_)
      by_cases e:j=i
      · subst e; exact q
      · exact g j (by omega)
    · rw [decide_eq_true q]
      exact Yz rfl (h1 i hi q g)
  · intro s g
    exact h0 fun i hi=>g i hi
theorem Zow (l:List (List Int)) (d i:Nat):at_ (l.drop d) i=at_ l (d+i):=by unfold at_; simp only [ZEy]; rw [List.getElem?_drop]
theorem ZC5 (l:List (List Int)) (i j:Nat):Xm ZEo l i j=Zau l i j:=rfl
theorem Zox {n : Nat} {rows : List (List Int)} {K : List (List Int) → Prop} (hr : Zav n rows) (hn : n ≤ 1000000) (hl : rows.length ≤ 1000000) (h : ∀ out, IsRref n rows out → out.length ≤ rows.length → K out) : Ze3 rows K := by
  unfold Ze3
  refine Yr (fun i (s:List (List Int))=>s=rows.take i) rows.length ?_ ?_ _ _ _ (by omega) (by simp)
  · rintro i s next hi rfl hn'
    have:=hr _ (Y5 hi)
    refine ZCz (by rw [this.len]; exact hn) ⟨by rw [ZGs]; unfold Zy; omega,hn' _ ?_⟩
    rw [Xq hi]
  · rintro s rfl
    rw [Z3o]
    refine X5 (fun (s:List (List Int)×Int×Int)=>0≤s.2.1∧0≤s.2.2∧s.2.2≤n∧s.1.length=rows.length∧Inv n rows s.1 s.2.1.toNat s.2.2.toNat) (fun s=>n - s.2.2.toNat) ?_ ⟨ZSg _,ZSg _,by dsimp only; omega,rfl,Inv.start hr⟩
    rintro ⟨w,d,c⟩ next ⟨g1,g2,g3,g4,g5⟩ hn'
    dsimp only at g1 g2 g3 g4 g5 hn' ⊢
    have hdl:=g5.dl
    have fin:(d.toNat=w.length∨n≤c.toNat)→K (w.take d.toNat):=fun q=>h _ (g5.fin q) (by rw [ZGs]; omega)
    by_cases hd:d < (w.length:Int)
    · have hdn:d.toNat < w.length:=by omega
      have h0len:=(g5.ok 0 (by omega)).len
      refine Yz hd ⟨by omega,?_⟩
      rw [Zgj,h0len]
      by_cases hc:c < (n:Int)
      · refine Yz hc ⟨by omega, ?_⟩
        have hcn:c.toNat < n:=by omega
        have ec:c=((c.toNat:Nat):Int):=by omega
        have c1:(c+1).toNat=c.toNat+1:=by omega
        have d1:(d+1).toNat=d.toNat+1:=by omega
        rw [i64_in (c+1) (by omega),i64_in (d+1) (by omega)]
        generalize hQ:(fun y0_ K_=>Zd3 y0_ c K_)=Q
        rw [ec] at hQ
        subst hQ
        refine ZC4 (by rw [ZFy]; omega) (fun i hi=>?_) (fun i hi hnz hz=>?_) (fun hz=>?_)
        · rw [ZFy] at hi
          rw [Zow,(g5.ok _ (by omega)).len]; exact hcn
        · rw [ZFy] at hi
          rw [Zow] at hnz
          have hp:d.toNat+i < w.length:=by omega
          have ep:ZG5.wrap (d+(i:Int))=((d.toNat+i:Nat):Int):=by rw [i64_in _ (by omega)]; omega
          refine Y0 (by omega) ?_
          rw [ep]
          refine⟨by omega,by omega,by omega,by omega,?_⟩
          rw [Z3p,ZC5]
          have ls:(Zau w d.toNat (d.toNat+i)).length=w.length:=Zjb
          have e1:at_ (Zau w d.toNat (d.toNat+i)) d.toNat=at_ w (d.toNat+i):=by
            rw [Zlv hdn hp]
            by_cases q:d.toNat=d.toNat+i
            · rw [if_pos q]; congr 1
            · rw [if_neg q,if_pos rfl]
          have okp:=g5.ok _ hp
          have lrow:((Zau w d.toNat (d.toNat+i)).getD d.toNat ZEo).length=n:=by rw [Zgj,e1,okp.len]
          have hrg:=okp.rng c.toNat
          refine⟨by rw [ls]; omega,by rw [lrow]; omega,?_⟩
          have hv:((Zau w d.toNat (d.toNat+i)).getD d.toNat ZEo).getD c.toNat ZEo=(((vec (at_ w (d.toNat+i)) c.toNat).toNat:Nat):Int):=by rw [Zgj,e1,Zb2]; omega
          rw [hv]
          refine ZCx (by omega) ?_
          have hinv:=Zs3 (x:=vec (at_ w (d.toNat+i)) c.toNat) (by omega)
          have kb:=Zsz (vec (at_ w (d.toNat+i)) c.toNat).toNat
          generalize hk:((Zch (vec (at_ w (d.toNat+i)) c.toNat).toNat:Nat):Int)=k at hinv ⊢
          have kb':0≤k∧k≤10006:=by omega
          refine⟨by rw [ls]; omega,?_⟩
          rw [lrow]
          -- the row is multiplied
          generalize hw1:Zau w d.toNat (d.toNat+i)=w1 at *
          refine X5 (fun (s:List (List Int)×Int)=>(0≤s.2∧s.2≤n)∧∃ y:List Int,s.1=w1.set d.toNat y∧y.length=n∧∀ j,vec y j=if j < s.2.toNat then vec (at_ w1 d.toNat) j * k % 10007 else vec (at_ w1 d.toNat) j) (fun s=>n - s.2.toNat) ?_ ⟨by dsimp only; omega,at_ w1 d.toNat,?_,by rw [e1,okp.len],fun j=>by rw [if_neg (by dsimp only; omega)]⟩
          · rintro ⟨w2,q⟩ nx ⟨f1,y,rfl,f2,f3⟩ hnx
            dsimp only at f1 f3 hnx ⊢
            have l2:(w1.set d.toNat y).length=w.length:=by rw [ZFs,ls]
            have ey:(w1.set d.toNat y).getD d.toNat ZEo=y:=by rw [Zgj,Zgi (by omega),if_pos rfl]
            rw [ey]
            by_cases hq:q < (n:Int)
            · have rg:=okp.rng q.toNat
              have pb:=Zos rg kb'
              have evq:y.getD q.toNat ZEo=vec (at_ w (d.toNat+i)) q.toNat:=by rw [Zb2,f3,if_neg (by omega),e1]
              refine Yz hq ⟨by omega,by omega,by omega,by omega,?_⟩
              rw [evq,i64_in (vec (at_ w (d.toNat+i)) q.toNat * k) (by omega),ZO4 pb.1,List.set_set,i64_in (q+1) (by omega)]
              refine hnx _ ⟨by dsimp only; omega,_,rfl,by rw [ZFs]; exact f2,fun j=>?_⟩ (by dsimp only; omega)
              dsimp only
              rw [Zjc (by omega),f3,show (q+1).toNat=q.toNat+1 by omega]
              by_cases e:j=q.toNat
              · subst e; rw [if_pos rfl,if_pos (by omega),e1]
              · rw [if_neg e]
                by_cases z:j < q.toNat
                · rw [if_pos z,if_pos (by omega)]
                · rw [if_neg z,if_neg (by omega)]
            · refine Y0 hq ?_
              have hy:y=Xr k (at_ w1 d.toNat):=Zlt (by rw [f2]; simp [Xr,e1,okp.len]) fun j=>by
                rw [Zb1,f3]
                by_cases z:j < q.toNat
                · rw [if_pos z]
                · rw [if_neg z,Zaf (by rw [e1,okp.len]; omega)]; simp
              subst hy
              -- the other rows
              generalize hW2:w1.set d.toNat (Xr k (at_ w1 d.toNat))=W2 at *
              have ok2:∀ j,j < w.length→RowOk n (at_ W2 j):=fun j hj=>by
                rw [← hW2,Zgi (by omega)]
                by_cases z1:j=d.toNat
                · rw [if_pos z1]; exact Zgh (by rw [e1]; exact okp)
                · rw [if_neg z1,← hw1,Zlv hdn hp]
                  by_cases z2:j=d.toNat+i
                  · rw [if_pos z2]; exact g5.ok _ hdn
                  · rw [if_neg z2,if_neg z1]; exact g5.ok _ hj
              refine X5 (fun (s:List (List Int)×Int)=>(0≤s.2∧s.2≤w.length)∧s.1.length=w.length∧∀ j,j < w.length→at_ s.1 j=if j < s.2.toNat∧j≠d.toNat then subR (vec (at_ W2 j) c.toNat) (at_ W2 j) (at_ W2 d.toNat) else at_ W2 j) (fun s=>w.length - s.2.toNat) ?_ ⟨by dsimp only; omega,l2,fun j hj=>by rw [if_neg (by dsimp only; omega)]⟩
              rintro ⟨w3,p⟩ nz ⟨q1,q2,q3⟩ hnz2
              dsimp only at q1 q2 q3 hnz2 ⊢
              rw [l2]
              by_cases hpp:p < (w.length:Int)
              · have hpn:p.toNat < w.length:=by omega
                have p1:(p+1).toNat=p.toNat+1:=by omega
                rw [i64_in (p+1) (by omega)]
                refine Yz hpp ⟨by omega,?_⟩
                have row_p:at_ w3 p.toNat=at_ W2 p.toNat:=by rw [q3 _ hpn,if_neg (by omega)]
                have okpp:=ok2 _ hpn
                have skip:(p.toNat=d.toNat∨vec (at_ W2 p.toNat) c.toNat=0)→nz (w3,p+1):=fun z=>hnz2 _ ⟨by dsimp only; omega,q2,fun j hj=>by
                  dsimp only
                  rw [q3 j hj,p1]
                  by_cases a1:j < p.toNat∧j≠d.toNat
                  · rw [if_pos a1,if_pos ⟨by omega,a1.2⟩]
                  · rw [if_neg a1]
                    by_cases a2:j < p.toNat+1∧j≠d.toNat
                    · obtain rfl:j=p.toNat:=by omega
                      rcases z with z | z
                      · exact absurd z a2.2
                      · rw [if_pos a2,z,Zlu okpp (ok2 _ hdn)]
                    · rw [if_neg a2]⟩ (by dsimp only; omega)
                by_cases hpd:p≠d
                · have hpd':p.toNat≠d.toNat:=by omega
                  rw [Zgj w3 p.toNat,row_p,Zgj w3 d.toNat,Zb2]
                  refine Yz hpd ⟨by rw [okpp.len]; omega,?_⟩
                  by_cases hv0:vec (at_ W2 p.toNat) c.toNat≠0
                  · refine Yz hv0 ⟨by omega,by rw [okpp.len]; omega,by omega,?_⟩
                    have row_d:at_ w3 d.toNat=at_ W2 d.toNat:=by rw [q3 _ hdn,if_neg (by omega)]
                    rw [row_d]
                    refine ZC0 okpp (ok2 _ hdn) (okpp.rng _) (hnz2 _ ⟨by dsimp only; omega,by dsimp only; rw [ZFs]; exact q2,fun j hj=>?_⟩ (by dsimp only; omega))
                    dsimp only
                    rw [Zgi (by omega),q3 j hj,p1]
                    by_cases a0:j=p.toNat
                    · subst a0; rw [if_pos rfl,if_pos ⟨by omega,hpd'⟩]
                    · rw [if_neg a0]
                      by_cases a1:j < p.toNat∧j≠d.toNat
                      · rw [if_pos a1,if_pos ⟨by omega,a1.2⟩]
                      · rw [if_neg a1,if_neg (by omega)]
                  · exact Y0 hv0 (skip (.inr (ZPz.1 hv0)))
                · exact Y0 hpd (skip (.inl (by omega)))
              · refine Y0 hpp (hn' _ ⟨by dsimp only; omega,by dsimp only; omega,by dsimp only; omega,by dsimp only; omega,?_⟩ (by dsimp only; omega))
                dsimp only
                rw [c1,d1]
                refine g5.step (p:=d.toNat+i) (by_:=k) (by omega) hp hinv ⟨?_,fun j hj=>?_⟩
                · rw [q2,ZFs,Zjb]
                · rw [ZFs,Zjb] at hj
                  rw [hw1,hW2,q3 j hj]
                  by_cases a0:j=d.toNat
                  · rw [if_neg (by omega),if_pos a0,a0]
                  · rw [if_pos ⟨by omega,a0⟩,if_neg a0]
          · dsimp only
            refine ZHb (by simp) fun j h1 h2=>?_
            rw [List.getElem_set]
            split
            · rename_i q; subst q; rw [Zi9 h1]
            · rfl
        · refine Yz (by decide) (hn' _ ⟨g1,by dsimp only; omega,by dsimp only; omega,g4,?_⟩ (by dsimp only; omega))
          dsimp only
          rw [c1]
          refine g5.skip fun i h1 h2=>?_
          have:=hz (i - d.toNat) (by rw [ZFy]; omega)
          rwa [Zow,show d.toNat+(i - d.toNat)=i by omega] at this
      · exact Y0 hc ⟨by omega,fin (.inr (by omega))⟩
    · exact Y0 hd ⟨by omega,fin (.inl (by omega))⟩
end Go.Proofs.YtaagfepgbofmlaaGreat
namespace Go.Proofs.YtaagfepgbofmlaaGreat
open Go Vc
theorem ZC6 (a b:List Int) (j:Nat):vec (a++b) j=if j < a.length then vec a j else vec b (j - a.length):=by
  unfold vec
  simp only [ZEy]
  split
  · rename_i h; rw [List.getElem?_append_left h]
  · rename_i h; rw [List.getElem?_append_right (by omega)]
theorem ZC7 (a:List Int) (m j:Nat):vec (a.drop m) j=vec a (m+j):=by
  unfold vec
  simp only [ZEy,List.getElem?_drop]
theorem Zs4 (a:List Int) (m j:Nat):vec (a.take m) j=if j < m then vec a j else 0:=by
  unfold vec
  simp only [ZEy,List.getElem?_take]
  split <;> rfl
theorem ZC8 {m n:Nat} {a b:List Int} (ha:RowOk m a) (hb:RowOk n b):RowOk (m+n) (a++b) :=
  ⟨by rw [ZEz,ha.len,hb.len],fun j=>by
    rw [ZC6]; split
    · exact ha.rng j
    · exact hb.rng _⟩
theorem ZC9 {m n:Nat} {a:List Int} (ha:RowOk (m+n) a):RowOk n (a.drop m) :=
  ⟨by rw [ZFy,ha.len]; omega,fun j=>by rw [ZC7]; exact ha.rng _⟩
def Zd5 (n i:Nat):List Int:=(ZEj n (0:Int)).set i 1
theorem ZDa (n i:Nat):RowOk n (Zd5 n i):=by
  refine⟨by simp [Zd5],fun j=>?_⟩
  by_cases hi:i < n
  · rw [Zd5,Zjc (by simpa using hi),Zlw]; split <;> omega
  · rw [Zd5,List.set_eq_of_length_le (by simp; omega),Zlw]; omega
def Zar (rows:List (List Int)):List (List Int):=(List.range rows.length).map fun i=>rows.getD i ZEo++Zd5 rows.length i
def Zdi (m:Nat) (R:List (List Int)):List (List Int):=(R.filter fun r=>decide (m≤ld r)).map (List.drop m)
def IsKer (m:Nat) (rows L:List (List Int)):Prop:=∃ R,IsRref (m+rows.length) (Zar rows) R∧IsRref rows.length (Zdi m R) L
theorem IsKer.unique {m:Nat} {rows a b:List (List Int)} (ha:IsKer m rows a) (hb:IsKer m rows b):a=b:=by
  obtain ⟨R,h1,h2⟩:=ha
  obtain ⟨R',h3,h4⟩:=hb
  obtain rfl:=h1.unique h3
  exact h2.unique h4
theorem Zs5 {m:Nat} {rows:List (List Int)} (hr:Zav m rows):Zav (m+rows.length) (Zar rows):=by
  intro a ha
  obtain ⟨i,hi,rfl⟩:=ZF2.1 ha
  exact ZC8 (hr _ (Y5 (ZGd.1 hi))) (ZDa _ _)
theorem Zs6 {m n:Nat} {R:List (List Int)} (hR:Zav (m+n) R):Zav n (Zdi m R):=by
  intro a ha
  obtain ⟨r,hr,rfl⟩:=ZF2.1 ha
  exact ZC9 (hR r (List.mem_filter.1 hr).1)
theorem Zly (m:Nat) (R:List (List Int)):(Zdi m R).length≤R.length:=by rw [Zdi,Z3n]; exact Z33 _ _
theorem Zs7 {m i:Nat} {R:List (List Int)} (hi:i < R.length):Zdi m (R.take (i+1))=Zdi m (R.take i)++(if m≤ld (R.getD i ZEo) then [(R.getD i ZEo).drop m] else []):=by
  rw [Xq hi,Zdi,Z3y,ZSi]
  congr 1
  split
  · rename_i q; rw [Z3z (by simpa using q)]; rfl
  · rename_i q; rw [Z30 (by simpa using q)]; rfl
theorem ZDb {a:List Int} {K:Bool→Prop} (hl:a.length≤1000000) (h1:(∀ j,vec a j=0)→K true) (h0:ld a < a.length→K false):Ziw a K:=by
  unfold Ziw Zli Zen
  refine Yr (fun i (s:Unit)=>∀ j,j < i→vec a j=0) a.length ?_ ?_ _ _ _ (by omega) (fun j hj=>by omega)
  · intro i s next hi g hn
    show Zgb (a.getD i ZEo) _
    unfold Zgb
    rw [Zb2]
    by_cases q:vec a i=0
    · rw [decide_eq_false (fun z=>z q)]
      refine Y0 (by decide) (hn _ fun j hj=>?_)
      by_cases e:j=i
      · subst e; exact q
      · exact g j (by omega)
    · rw [decide_eq_true q]
      refine Yz rfl ?_
      show K (decide ((i:Int) < 0))
      rw [decide_eq_false (by omega)]
      exact h0 (by rw [Zgg g q]; exact hi)
  · intro s g
    show K (decide ((-1:Int) < 0))
    rw [decide_eq_true (by omega)]
    refine h1 fun j=>?_
    rcases ZFu j a.length with q | q
    · exact g j q
    · exact Zaf q
theorem ZDc {n:Int} {K:List Int→Prop} (h0:0≤n∧n≤1000000) (h:K []):Zix n K:=by
  unfold Zix
  have e:ZG5.wrap (n - (ZG5.wrap (0 - 0)))=n:=by rw [i64_in (0 - 0) (by omega),i64_in _ (by omega)]; omega
  rw [e]
  refine⟨by omega,?_⟩
  by_cases q:n > 0
  · exact Yz q ⟨⟨by omega,by unfold Zy; omega⟩,⟨by omega,by omega⟩,by rw [List.take_zero]; exact h⟩
  · exact Y0 q h
theorem ZDd {a b:List Int} {K:List Int→Prop} (ha:a.length≤500000) (hb:b.length≤500000) (h:K (a++b)):Ziy [a,b] K:=by
  simp only [Ziy,Z8,ZHf,List.length_nil,List.getD_cons_zero,List.getD_cons_succ]
  rw [i64_in (0+(a.length:Int)) (by omega),i64_in (0+(a.length:Int)+(b.length:Int)) (by omega)]
  refine⟨by omega,by omega,ZDc (by omega) ⟨by unfold Zy; rw [List.length_nil]; omega,by unfold Zy; rw [Z3x]; omega,?_⟩⟩
  rw [Z3x]; exact h
theorem Zs8 {m : Nat} {rows : List (List Int)} {K : List (List Int) → Prop} (hr : Zav m rows) (hm : m ≤ 100000) (hl : rows.length ≤ 100000) (h : ∀ L, IsKer m rows L → L.length ≤ rows.length → K L) : Zf6 rows (m : Int) K := by
  unfold Zf6
  refine Yr (fun i (s:List (List Int))=>s=(Zar rows).take i) rows.length ?_ ?_ _ _ _ (by omega) rfl
  · intro i s next hi hs hn
    have ok:=hr _ (Y5 hi)
    have hlen:=ok.len
    have hkl:(Zar rows).length=rows.length:=by simp [Zar]
    have hsl:s.length=i:=by rw [hs,ZGs,hkl]; omega
    have e:ZG5.wrap ((m:Int)+(i:Int))=((m+i:Nat):Int):=by rw [i64_in _ (by omega)]; omega
    rw [e,Z3p,Z3p]
    refine⟨by unfold Zy; omega,⟨by omega,by unfold Zy; omega⟩,⟨by omega,by rw [ZEz,ZSp]; omega⟩,by unfold Zy; omega,hn _ ?_⟩
    rw [Xq (by omega:i < (Zar rows).length),hs]
    congr 2
    have:(Zar rows).getD i ZEo=rows.getD i ZEo++Zd5 rows.length i:=by simp [Zar,ZEy,hi]
    rw [this,Zd5,List.set_append_right _ _ (by omega),hlen,show m+i - m=i by omega]
  · intro s hs
    have hkl:(Zar rows).length=rows.length:=by simp [Zar]
    rw [ZFo (by omega)] at hs
    rw [hs]
    refine Zlx (Zs5 hr) (by omega) (by omega) fun R hR hRl=>?_
    have hRo:∀ a,a∈R→RowOk (m+rows.length) a∧vec a (ld a)=1:=hR.red.ok
    refine Yr (fun i (s:List (List Int))=>s=Zdi m (R.take i)) R.length ?_ ?_ _ _ _ (by omega) rfl
    · intro i s next hi hs hn
      have ok:=hRo _ (Y5 hi)
      have hsl:s.length≤R.length:=by rw [hs]; exact ZEp (Zly _ _) (by rw [ZGs]; omega)
      refine Zov (by omega) ok ?_
      have hlen:=ok.1.len
      have hle:=Zs7 (m:=m) hi
      by_cases q:m≤ld (R.getD i ZEo)
      · rw [if_pos q] at hle
        refine Yz (by omega) ⟨by omega,by unfold Zy; rw [ZFy]; omega,by unfold Zy; omega,hn _ ?_⟩
        rw [hle,hs,Z3p]
      · rw [if_neg q,ZXj] at hle
        exact Y0 (by omega) (hn _ (by rw [hle]; exact hs))
    · intro s hs
      rw [Z3o] at hs
      rw [hs]
      have:=Zly m R
      exact Zlx (Zs6 fun a ha=>(hRo a ha).1) (by omega) (by omega) fun L hL hLl=>h L ⟨R,hR,hL⟩ (by omega)
theorem Zs9 {m : Nat} {rows : List (List Int)} {K : List (List Int) → Prop} (hr : Zav m rows) (hm : m ≤ 100000) (hl : rows.length ≤ 100000) (h : ∀ L, IsKer m rows L → L.length ≤ rows.length → K L) : Ziz rows (m : Int) K := by
  unfold Ziz
  refine Yr (fun i (s:List (List Int))=>s=(Zar rows).take i) rows.length ?_ ?_ _ _ _ (by omega) rfl
  · intro i s next hi hs hn
    have ok:=hr _ (Y5 hi)
    have hlen:=ok.len
    have hkl:(Zar rows).length=rows.length:=by simp [Zar]
    have hsl:s.length=i:=by rw [hs,ZGs,hkl]; omega
    rw [Z3p]
    refine⟨⟨by omega,by omega⟩,⟨by omega,by rw [ZSp]; omega⟩,ZDd (by omega) (by rw [ZFs,ZSp]; omega) ⟨by unfold Zy; omega,hn _ ?_⟩⟩
    rw [Xq (by omega:i < (Zar rows).length),hs]
    congr 2
    simp [Zar,ZEy,hi,Zd5]
  · intro s hs
    have hkl:(Zar rows).length=rows.length:=by simp [Zar]
    rw [ZFo (by omega)] at hs
    rw [hs]
    refine Zox (Zs5 hr) (by omega) (by omega) fun R hR hRl=>?_
    have hRo:∀ a,a∈R→RowOk (m+rows.length) a∧vec a (ld a)=1:=hR.red.ok
    refine Yr (fun i (s:List (List Int))=>s=Zdi m (R.take i)) R.length ?_ ?_ _ _ _ (by omega) rfl
    · intro i s next hi hs hn
      have ok:=hRo _ (Y5 hi)
      have hsl:s.length≤R.length:=by rw [hs]; exact ZEp (Zly _ _) (by rw [ZGs]; omega)
      have hlen:=ok.1.len
      have hle:=Zs7 (m:=m) hi
      have hld:=Zoo ok
      rw [Z3p]
      refine⟨by omega,ZDb (by rw [ZGs]; omega) (fun hz=>?_) (fun hz=>?_)⟩
      · have q:m≤ld (R.getD i ZEo):=by
          rcases ZFu (ld (R.getD i ZEo)) m with z | z
          · have:=hz (ld (R.getD i ZEo))
            rw [Zs4,if_pos z,ok.2] at this; omega
          · exact z
        rw [if_pos q] at hle
        refine Yz rfl ⟨by omega,by unfold Zy; omega,hn _ ?_⟩
        rw [hle,hs]
      · have q:¬ m≤ld (R.getD i ZEo):=by
          intro z
          have h1:=Zlr hz
          rw [Zs4] at h1
          rw [ZGs] at hz
          rw [if_pos (by omega)] at h1
          exact h1 (Zat (by omega))
        rw [if_neg q,ZXj] at hle
        exact Y0 (by decide) (hn _ (by rw [hle]; exact hs))
    · intro s hs
      rw [Z3o] at hs
      rw [hs]
      have:=Zly m R
      exact Zox (Zs6 fun a ha=>(hRo a ha).1) (by omega) (by omega) fun L hL hLl=>h L ⟨R,hR,hL⟩ (by omega)
end Go.Proofs.YtaagfepgbofmlaaGreat
namespace Go.Proofs.YtaagfepgbofmlaaGreat
open Go Vc
theorem Zoy {l:List A8} (hd:l.Nodup) {i j:Nat} (hi:i < l.length) (hj:j < l.length) (h:l[i]=l[j]):i=j:=by
  rcases Z3v i j with q | q | q
  · exact absurd h (ZEq.1 hd i j hi hj q)
  · exact q
  · exact absurd h.symm (ZEq.1 hd j i hj hi q)
def plc (l:List A8):Nat→List (A8×Int)
  | 0=>[]
  | k+1=>Yu (plc l k) (l.getD k ZEo) (k:Int)
theorem Zoz (l:List A8):∀ k,((plc l k).map ZFr).Nodup
  | 0=>by simp [plc]
  | k+1=>Zj0 (Zoz l k)
theorem Zta {l:List A8} (hd:l.Nodup):∀ k,k≤l.length→∀ i,i < k→co (plc l k) (l.getD i ZEo)=i
  | 0,_,i,hi=>by omega
  | k + 1, hk, i, hi => by
    rw [plc,Znc (Zoz l k)]
    by_cases e:i=k
    · subst e; rw [if_pos rfl]
    · rw [if_neg,Zta hd k (by omega) i (by omega)]
      intro h
      have h1:l.getD i ZEo=l[i]'(by omega):=by simp [ZEy,show i < l.length by omega]
      have h2:l.getD k ZEo=l[k]'(by omega):=by simp [ZEy,show k < l.length by omega]
      rw [h1,h2] at h
      exact e (Zoy hd _ _ h)
theorem ZDe (l:List A8):Zoa l (plc l l.length):=by
  unfold Zoa
  exact Yr (fun i (s:List (A8×Int))=>s=plc l i) l.length (fun i s next hi hs hn=>hn _ (by rw [hs]; rfl)) (fun s hs=>hs) _ _ _ (by omega) rfl
theorem ZDf {m : List (A8 × Int)} (h : (m.map ZFr).Nodup) {p : A8 × Int} (hp : p ∈ m) : co m p.1 = p.2 := by
  induction m with
  | nil=>cases hp
  | cons q m ih =>
    simp only [List.map_cons,List.nodup_cons] at h
    rw [Za5]
    rcases ZEk.1 hp with rfl | hp
    · rw [if_pos rfl]
      have:co m p.1=0:=by
        rw [← Zct h.2]
        cases hg:Y9 m p.1 with
        | none=>rfl
        | some v =>
          exfalso
          cases hf:J9 m p.1 0 with
          | none=>rw [(Zc4 hf).1] at hg; cases hg
          | some z=>obtain ⟨j,u⟩:=z; exact h.1 (ZF2.2 ⟨_,List.mem_of_getElem? (Zc5 hf).2.1,rfl⟩)
      omega
    · rw [if_neg (fun e:q.1=p.1=>h.1 (by rw [e]; exact ZF2.2 ⟨p,hp,rfl⟩)),ih h.2 hp]; omega
theorem ZDg {m:List (A8×Int)} (h:(m.map ZFr).Nodup) {x:A8} (hx:x∉m.map ZFr):co m x=0:=by
  rw [← Zct h]
  cases hf:J9 m x 0 with
  | none=>rw [(Zc4 hf).1]; rfl
  | some z=>obtain ⟨j,u⟩:=z; exact absurd (ZF2.2 ⟨_,List.mem_of_getElem? (Zc5 hf).2.1,rfl⟩) hx
theorem ZDh {α:Type} {l l':List α} {p:α} {i:Nat} (h:i < l.length) (hp:l[i]=p) (hl:l'=l.eraseIdx i):∀ x,x∈l→x=p∨x∈l':=by
  subst hp hl
  intro x hx
  obtain ⟨j,hj,rfl⟩:=ZEx hx
  by_cases e:j=i
  · subst e; exact .inl rfl
  · refine .inr (List.mem_eraseIdx_iff_getElem.2 ⟨j,hj,e,rfl⟩)
theorem ZDi {l : List A8} {m : List (A8 × Int)} {K : List Int → Prop} (hl : l.length ≤ 1000000) (hd : l.Nodup) (hm : (m.map ZFr).Nodup) (hin : ∀ p, p ∈ m → p.1 ∈ l) (h : K (l.map (co m))) : Zey ⟨l, plc l l.length⟩ m K := by
  unfold Zey
  dsimp only
  refine⟨by omega,?_⟩
  rw [Z3p]
  refine Zg1 (fun l' (s:List Int)=>s.length=l.length∧(∀ p,p∈l'→p∈m)∧∀ i,i < l.length→l.getD i ZEo∉l'.map ZFr→s.getD i 0=co m (l.getD i ZEo)) ?_ ?_ m _ ⟨by simp,fun _ h=>h,fun i hi hn=>?_⟩
  · rintro l1 p l2 s next ⟨j,hj,hp,hl2⟩ ⟨g1,g2,g3⟩ hn
    have hpm:p∈l1:=hp ▸ List.getElem_mem hj
    obtain ⟨i0,hi0,e0⟩:=ZEx (hin p (g2 p hpm))
    have e1:l.getD i0 ZEo=p.1:=by rw [← e0]; simp [ZEy,hi0]
    have ec:(Y9 (plc l l.length) p.1).getD 0=(i0:Int):=by
      rw [Zct (Zoz _ _),← e1]; exact Zta hd l.length (ZEn _) i0 hi0
    rw [ec,Z3p]
    refine⟨by omega,hn _ ⟨by rw [ZFs]; exact g1,fun q hq=>g2 q (by rw [hl2] at hq; exact List.mem_of_mem_eraseIdx hq),fun i hi hno=>?_⟩⟩
    by_cases e:i=i0
    · subst e
      rw [e1,ZDf hm (g2 p hpm)]
      simp [ZEy,show i < s.length by omega]
    · have e2:(s.set i0 p.2).getD i 0=s.getD i 0:=by
        simp only [ZEy]; rw [List.getElem?_set_ne (fun q=>e q.symm)]
      rw [e2]
      refine g3 i hi fun hmem=>?_
      obtain ⟨q,hq,eq⟩:=ZF2.1 hmem
      rcases ZDh hj hp hl2 q hq with rfl | hq2
      · have h1:l.getD i ZEo=l[i]:=by simp [ZEy,hi]
        rw [h1,← e0] at eq
        exact e (Zoy hd _ _ eq.symm)
      · exact hno (ZF2.2 ⟨q,hq2,eq⟩)
  · rintro s ⟨g1,_,g3⟩
    have:s=l.map (co m):=by
      refine ZHb (by simp [g1]) fun i h1 h2=>?_
      have hi:i < l.length:=by omega
      have:=g3 i hi (by simp)
      simp only [ZEy,List.getElem?_eq_getElem h1,List.getElem?_eq_getElem hi,Option.getD_some] at this
      rw [this]; simp
    rw [this]; exact h
  · rw [ZDg hm hn]
    simp [ZEy,hi]
end Go.Proofs.YtaagfepgbofmlaaGreat
namespace Go.Proofs.YtaagfepgbofmlaaGreat
open Go Vc
structure IsSumOf (l:List A8) (row:List Int) (m:List (A8×Int)):Prop where
  ok:MapOk m
  cf:∀ j,j < l.length→co m (l.getD j ZEo)=vec row j
  ks:∀ p,p∈m→p.1∈l
theorem ZDj {l : List A8} {pl : List (A8 × Int)} {row : List Int} {K : List (A8 × Int) → Prop} (hd : l.Nodup) (hr : RowOk l.length row) (h : ∀ m, IsSumOf l row m → K m) : Zie ⟨l, pl⟩ row K := by
  unfold Zie
  dsimp only
  have hlen:=hr.len
  refine Yr (fun i (s:List (A8×Int))=>MapOk s∧(∀ j,j < l.length→co s (l.getD j ZEo)=if j < i then vec row j else 0)∧∀ p,p∈s→p.1∈l) row.length ?_ ?_ _ _ _ (by omega) ⟨MapOk.nil,fun j hj=>rfl,by simp⟩
  · rintro i s next hi ⟨g1,g2,g3⟩ hn
    have hil:i < l.length:=by omega
    have hv:row.getD i ZEo=vec row i:=rfl
    have rg:=hr.rng i
    have hx:l.getD i ZEo∈l:=Y5 hil
    refine⟨by omega,Znk g1 (by rw [hv]; omega) fun s' hp=>hn s' ⟨hp.ok,fun j hj=>?_,fun p hps=>?_⟩⟩
    · have h1:=hp.cf (l.getD j ZEo)
      have h2:=hp.ok.range (l.getD j ZEo)
      have h3:=g2 j hj
      have rj:=hr.rng j
      rw [h3,hv] at h1
      by_cases e:j=i
      · subst e
        rw [if_neg (by omega),if_pos rfl] at h1
        rw [if_pos (by omega)]; omega
      · have hne:¬ l.getD i ZEo=l.getD j ZEo:=by
          intro q
          have q1:l.getD i ZEo=l[i]:=by simp [ZEy,hil]
          have q2:l.getD j ZEo=l[j]:=by simp [ZEy,hj]
          rw [q1,q2] at q
          exact e (Zoy hd _ _ q).symm
        rw [if_neg hne] at h1
        by_cases q:j < i
        · rw [if_pos q] at h1; rw [if_pos (by omega)]; omega
        · rw [if_neg q] at h1; rw [if_neg (by omega)]; omega
    · rcases hp.ks p hps with e | ⟨q,hq,e⟩
      · rw [e]; exact hx
      · rw [← e]; exact g3 q hq
  · rintro s ⟨g1,g2,g3⟩
    exact h s ⟨g1,fun j hj=>by rw [g2 j hj,if_pos (by omega)],g3⟩
end Go.Proofs.YtaagfepgbofmlaaGreat
namespace Go.Proofs.YtaagfepgbofmlaaGreat
open Go Vc
def fm:List A8→List Int→List Term
  | m::l,r::row=>if r=0 then fm l row else⟨m,r⟩::fm l row
  | _,_=>[]
theorem Zlz (row:List Int):fm [] row=[]:=by cases row <;> rfl
theorem Zjd {l : List A8} : ∀ {row : List Int} {t : Term}, t ∈ fm l row → t.mono ∈ l := by
  induction l with
  | nil=>intro row t h; rw [Zlz] at h; cases h
  | cons m l ih =>
    intro row t h
    cases row with
    | nil=>cases h
    | cons r row =>
      rw [fm] at h
      split at h
      · exact ZSc _ (ih h)
      · rcases ZEk.1 h with rfl | h
        · exact ZSo
        · exact ZSc _ (ih h)
def Zo0 (row:List Int):Prop:=∀ x,x∈row→0≤x∧x≤10006
theorem Zje {n:Nat} {row:List Int} (h:RowOk n row):Zo0 row:=fun x hx=>by
  obtain ⟨i,hi,rfl⟩:=ZEx hx
  have:=h.rng i
  rwa [Zcx hi] at this
def Srt (l:List A8):Prop:=l.Pairwise (fun a b=>pcmp a b < 0)
theorem Srt.nd {l:List A8} (h:Srt l):l.Nodup:=h.imp fun q=>Zbs q
theorem Zl0 {l : List A8} (hs : Srt l) : ∀ {row : List Int}, Zo0 row → Canon (fm l row) := by
  induction l with
  | nil=>intro row _; rw [Zlz]; exact Canon.nil
  | cons m l ih =>
    intro row hr
    cases row with
    | nil=>exact Canon.nil
    | cons r row =>
      obtain ⟨s1,s2⟩:=ZFb.1 hs
      have h1:=ih s2 (fun x hx=>hr x (ZSc _ hx))
      have h0:=hr r ZSo
      rw [fm]
      split
      · exact h1
      · rename_i q
        refine⟨ZFb.2 ⟨fun t ht=>s1 _ (Zjd ht),h1.1⟩,fun t ht=>?_⟩
        rcases ZEk.1 ht with rfl | ht
        · dsimp only; omega
        · exact h1.2 t ht
theorem ZDk (l:List A8):∀ row:List Int,(fm l row).length≤l.length:=by
  induction l with
  | nil=>intro row; rw [Zlz]; simp
  | cons m l ih =>
    intro row
    cases row with
    | nil=>simp [fm]
    | cons r row =>
      have:=ih row
      rw [fm]; split
      · simp only [ZHf]; omega
      · simp only [ZHf]; omega
theorem Zl1 {l : List A8} : ∀ {row : List Int}, l.Nodup → row.length = l.length → ∀ j, j < l.length → coT (fm l row) (l.getD j ZEo) = vec row j := by
  induction l with
  | nil=>intro row _ _ j hj; simp at hj
  | cons m l ih =>
    intro row hd hl j hj
    cases row with
    | nil=>simp at hl
    | cons r row =>
      obtain ⟨d1,d2⟩:=List.nodup_cons.1 hd
      have h0:coT (fm l row) m=0:=Zcr fun t ht e=>d1 (e ▸ Zjd ht)
      cases j with
      | zero =>
        show coT (fm (m::l) (r::row)) m=r
        rw [fm]
        split
        · rename_i q; rw [h0,q]
        · rw [Zbt,if_pos rfl,h0,ZSd]
      | succ j =>
        have hj':j < l.length:=by simpa using hj
        have e1:(m::l).getD (j+1) ZEo=l.getD j ZEo:=by simp [ZEy]
        have e2:=ih d2 (by simpa using hl) j hj'
        rw [e1,Zol,← e2,fm]
        split
        · rfl
        · rw [Zbt,if_neg (fun e:m=l.getD j ZEo=>d1 (e ▸ Y5 hj')),ZO0]
theorem Zo1 {l:List A8} {row:List Int} {x:A8} (h:x∉l):coT (fm l row) x=0:=Zcr fun t ht e=>h (e ▸ Zjd ht)
theorem Zo2 {α:Type} [Inhabited α] {l:List α} {q:Nat} (hq:q < l.length):l.getD q ZEo=l[q]:=by simp [ZEy,hq]
theorem Zl2 {α:Type} [Inhabited α] {l:List α} {x:α} (h:x∈l):∃ i,i < l.length∧l.getD i ZEo=x:=by
  obtain ⟨i,hi,rfl⟩:=ZEx h
  exact⟨i,hi,by simp [ZEy,hi]⟩
theorem ZDl {l:List A8} {row:List Int} {m:List (A8×Int)} (hs:Srt l) (hr:RowOk l.length row) (h:IsSumOf l row m):IsMap (fm l row) m :=
  Znp (Zl0 hs (Zje hr)) h.ok fun x => by
    by_cases hx:x∈l
    · obtain ⟨j,hj,rfl⟩:=Zl2 hx
      rw [h.cf j hj,Zl1 hs.nd hr.len j hj]
    · rw [Zo1 hx,Zdc fun t ht e=>hx (by rw [← e]; exact h.ks t ht)]
theorem Zo3 {l : List A8} : ∀ {row : List Int} {i : Nat}, row.length = l.length → i < l.length → fm (l.take (i + 1)) (row.take (i + 1)) = fm (l.take i) (row.take i) ++ (if row.getD i ZEo = 0 then [] else [⟨l.getD i ZEo, row.getD i ZEo⟩]) := by
  induction l with
  | nil=>intro row i _ hi; simp at hi
  | cons m l ih =>
    intro row i hl hi
    cases row with
    | nil=>simp at hl
    | cons r row =>
      cases i with
      | zero =>
        simp only [List.take_succ_cons,List.take_zero,fm,Zlz,Z3x]
        simp [ZEy]
      | succ i =>
        have:=ih (row:=row) (i:=i) (by simpa using hl) (by simpa using hi)
        simp only [List.take_succ_cons,fm]
        rw [this]
        have e1:(m::l).getD (i+1) ZEo=l.getD i ZEo:=by simp [ZEy]
        have e2:(r::row).getD (i+1) ZEo=row.getD i ZEo:=by simp [ZEy]
        rw [e1,e2]
        split <;> simp
def J6 (l own:List A8) (nums:List Int):List Int:=l.map (coT (fm own nums))
theorem Zl3 (l own:List A8) (nums:List Int):(J6 l own nums).length=l.length:=Z3n _
theorem Zjf {l own:List A8} {nums:List Int} {j:Nat} (hj:j < l.length):vec (J6 l own nums) j=coT (fm own nums) (l.getD j ZEo):=by
  simp [vec,J6,ZEy,hj]
theorem ZDm {l own:List A8} {nums:List Int} (ho:Srt own) (hn:RowOk own.length nums):RowOk l.length (J6 l own nums):=by
  refine⟨Zl3 .., fun j=>?_⟩
  by_cases hj:j < l.length
  · rw [Zjf hj]; exact(Zl0 ho (Zje hn)).range _
  · rw [Zaf (by rw [Zl3]; omega)]; omega
theorem Ztb {l:List A8} (hs:Srt l) {i j:Nat} (hi:i < l.length) (hj:j < l.length) (h:pcmp (l.getD i ZEo) (l.getD j ZEo) < 0):i < j:=by
  have e1:l.getD i ZEo=l[i]:=by simp [ZEy,hi]
  have e2:l.getD j ZEo=l[j]:=by simp [ZEy,hj]
  rw [e1,e2] at h
  rcases Z3v i j with q | q | q
  · exact q
  · subst q; rw [Zhu] at h; omega
  · exact absurd (ZEq.1 hs j i hj hi q) (Zkm h)
theorem Zjg {l:List A8} (hs:Srt l) {i j:Nat} (hij:i < j) (hj:j < l.length):pcmp (l.getD i ZEo) (l.getD j ZEo) < 0:=by
  have hi:i < l.length:=by omega
  have e1:l.getD i ZEo=l[i]:=by simp [ZEy,hi]
  have e2:l.getD j ZEo=l[j]:=by simp [ZEy,hj]
  rw [e1,e2]; exact ZEq.1 hs i j hi hj hij
theorem ZDn {l own:List A8} (hl:Srt l) (ho:Srt own) {v:List Int} (hv:RowOk own.length v) (h1:vec v (ld v)≠0) {i:Nat} (hi:i < l.length) (e:l.getD i ZEo=own.getD (ld v) ZEo) :
    ld (J6 l own v)=i∧vec (J6 l own v) i=vec v (ld v):=by
  have hlt:ld v < own.length:=by have:=Zls h1; rw [hv.len] at this; exact this
  have h2:vec (J6 l own v) i=vec v (ld v):=by rw [Zjf hi,e,Zl1 ho.nd hv.len _ hlt]
  refine⟨Zgg (fun q hq=>?_) (by rw [h2]; exact h1),h2⟩
  have hql:q < l.length:=by omega
  rw [Zjf hql]
  by_cases hm:l.getD q ZEo∈own
  · obtain ⟨k,hk,ek⟩:=Zl2 hm
    rw [← ek,Zl1 ho.nd hv.len k hk]
    refine Zat (Ztb ho hk hlt ?_)
    rw [ek,← e]; exact Zjg hl hq hi
  · exact Zo1 hm
theorem ZDo {l own:List A8} (hl:Srt l) (ho:Srt own) (hsub:∀ m,m∈own→m∈l) {R:List (List Int)} (h:Rref own.length R):Rref l.length (R.map (J6 l own)):=by
  have key:∀ v,v∈R→ld v < own.length∧∃ i,i < l.length∧l.getD i ZEo=own.getD (ld v) ZEo∧ld (J6 l own v)=i∧vec (J6 l own v) i=1:=fun v hv=>by
    obtain ⟨h1,h2⟩:=h.ok v hv
    have hn:vec v (ld v)≠0:=by rw [h2]; decide
    have hlt:ld v < own.length:=by have:=Zls hn; rw [h1.len] at this; exact this
    obtain ⟨i,hi,e⟩:=Zl2 (hsub _ (Y5 hlt))
    obtain ⟨e1,e2⟩:=ZDn hl ho h1 hn hi e
    exact⟨hlt,i,hi,e,e1,e2.trans h2⟩
  refine⟨fun a ha=>?_,?_⟩
  · obtain ⟨v,hv,rfl⟩:=ZF2.1 ha
    obtain ⟨_,i,hi,_,e1,e2⟩:=key v hv
    exact⟨ZDm ho (h.ok v hv).1,by rw [e1,e2]⟩
  · refine ZS6.2 (h.pw.imp_of_mem fun {a b} ha hb hab=>?_)
    obtain ⟨la,i,hi,ea,ea1,_⟩:=key a ha
    obtain ⟨lb,j,hj,eb,eb1,_⟩:=key b hb
    refine⟨?_,?_⟩
    · rw [ea1,eb1]
      refine Ztb hl hi hj ?_
      rw [ea,eb]; exact Zjg ho hab.1 lb
    · rw [eb1,Zjf hj,eb,Zl1 ho.nd (h.ok a ha).1.len _ lb]; exact hab.2
def dco (a:Alg) (f:List Term) (x:A8):Int:=tot (fun t=>dT a.degrees (imgsT a) t.mono t.factor x) f % 10007
theorem Ztc (a:Alg) (f:List Term) (x:A8):0≤dco a f x∧dco a f x≤10006:=by unfold dco; omega
theorem ZDp {a:Alg} {f out:List Term} (h:IsD a.degrees (imgsT a) f out):coT out=dco a f:=funext fun x=>by
  have h1:=h.cf x
  have h2:=h.can.range x
  unfold dco; omega
theorem ZDq {a:Alg} {f:List Term} {s out:List (A8×Int)} (hs:IsMap f s) (hc:Canon f) (h:IsDM a.degrees (imgsT a) s out):co out=dco a f:=funext fun x=>by
  have h1:=h.cf x
  have h2:=h.ok.range x
  rw [Zkw hs hc (fun b n=>dT a.degrees (imgsT a) b n x) (fun b=>Znm a.degrees (imgsT a) b x)] at h1
  unfold dco; omega
theorem Ztd {a:Alg} (ok:OkAlg a) (hf:Jk a) {n:Int} {y m:A8} (hm:m∈mons a.degrees n) (hn:n≤38) (h:DMono a.degrees (imgsT a) y m):y∈mons a.degrees (n+1):=by
  have hd:=ok.deg
  have h8:=hd.1
  have ha:=ok.algF hf
  have hl:=ok.len
  obtain ⟨o1,o2,o3⟩:=Zok hd hm
  have smallI:∀ j u,u∈(imgsT a).getD j ZEo→OkMono a.degrees u.mono∧∀ i,i < 8→0≤u.mono.get i∧u.mono.get i≤20:=fun j u hu=>by
    by_cases hj:j < a.images.length
    · rw [Zfx a hj] at hu
      have:=(ok.frm j hj).mono hu
      exact⟨this,Zia (Zet this) ((ha.fit j hj).pos u hu)⟩
    · simp [imgsT,ZEy,hj] at hu; cases hu
  have homI:∀ j u,u∈(imgsT a).getD j ZEo→j < a.degrees.length→wtU a.degrees u.mono a.degrees.length=a.degrees.getD j ZEo+1:=fun j u hu hj=>by
    rw [Zfx a (by omega)] at hu
    obtain ⟨q,hq,rfl⟩:=ZEx hu
    have:=ok.hom j (by omega) q hq
    rwa [Zo2 hq] at this
  obtain ⟨w1,w2⟩:=ZCn h8 o1 o3 smallI h
  obtain ⟨j,u,hj,_,hu,ew⟩:=ZCm h8 o1 h
  rw [homI j u hu hj,o2] at ew
  exact ZCq hd w1 w2 (by rw [ew]; omega) (by omega)
structure InL (a:Alg) (n:Int) (f:List Term):Prop where
  can:Canon f
  mem:∀ t,t∈f→t.mono∈mons a.degrees n
theorem InL.len {a:Alg} {n:Int} {f:List Term} (h:InL a n f):f.length≤(mons a.degrees n).length:=by
  have hn:(f.map Term.mono).Nodup:=ZS6.2 (h.can.1.imp fun q=>Zbs q)
  have:=hn.length_le_of_subset (l₂:=mons a.degrees n) (fun x hx=>by obtain ⟨t,ht,rfl⟩:=ZF2.1 hx; exact h.mem t ht)
  rwa [Z3n] at this
theorem InL.form {a:Alg} {n:Int} {f:List Term} (hd:OkDeg a.degrees) (hf:Fits a.degrees n) (h:InL a n f):OkForm a.degrees f∧FitT f :=
  ⟨Zxq h.can (by have:=h.len; unfold Fits at hf; omega) fun t ht=>(Zok hd (h.mem t ht)).1,fun t ht=>ZCk (Zok hd (h.mem t ht)).2.2⟩
theorem Zte {a:Alg} {n:Int} {m:A8} (h:m∈mons a.degrees n):InL a n [⟨m,1⟩]:=⟨Znu m,fun t ht=>by obtain rfl:=ZFz.1 ht; exact h⟩
theorem Ztf {a:Alg} {n:Int} {own:List A8} {row:List Int} (ho:Srt own) (hsub:∀ m,m∈own→m∈mons a.degrees n) (hr:Zo0 row):InL a n (fm own row):=⟨Zl0 ho hr,fun t ht=>hsub _ (Zjd ht)⟩
def Zcy (a:Alg) (n:Int) (f:List Term):List Int:=(mons a.degrees (n+1)).map (dco a f)
theorem ZDr (a:Alg) (n:Int) (f:List Term):RowOk (mons a.degrees (n+1)).length (Zcy a n f):=by
  refine⟨Z3n _,fun j=>?_⟩
  by_cases hj:j < (mons a.degrees (n+1)).length
  · have:vec (Zcy a n f) j=dco a f ((mons a.degrees (n+1)).getD j ZEo):=by simp [vec,Zcy,ZEy,hj]
    rw [this]; exact Ztc ..
  · rw [Zaf (by simp [Zcy]; omega)]; omega
theorem Ztg {a:Alg} {n:Int} {f:List Term} {K:List Int→Prop} (ok:OkAlg a) (hf:Jk a) (hn:0≤n∧n≤38) (f1:Fits a.degrees n) (f2:Fits a.degrees (n+1)) (h:InL a n f) (hK:K (Zcy a n f)) :
    Zc7 a ⟨f⟩ (fun r=>Zby r (mons a.degrees (n+1)) K):=by
  obtain ⟨o1,o2⟩:=h.form ok.deg f1
  refine Zrc (ok.algF hf) o1 o2 fun out hD _=>?_
  refine Zsq hD.can (Zoi ok.deg.1 _) (fun t ht=>?_) (by unfold Fits at f2; omega) ?_
  · obtain ⟨s,hs,hm⟩:=hD.mo t ht
    exact Ztd ok hf (h.mem s hs) hn.2 hm
  · rw [ZDp hD]; exact hK
theorem Zth {a:Alg} {n:Int} {f:List Term} {s:List (A8×Int)} {K:List Int→Prop} (ok:OkAlg a) (hf:Jk a) (hn:0≤n∧n≤38) (f1:Fits a.degrees n) (f2:Fits a.degrees (n+1)) (h:InL a n f) (hs:IsMap f s) (hK:K (Zcy a n f)) :
    Zdx a s (fun r=>Zey ⟨mons a.degrees (n+1),plc (mons a.degrees (n+1)) (mons a.degrees (n+1)).length⟩ r K):=by
  obtain ⟨o1,o2⟩:=h.form ok.deg f1
  refine m_d (ok.algF hf) hs o1 o2 fun out hD=>?_
  refine ZDi (by unfold Fits at f2; omega) (Srt.nd (Zoi ok.deg.1 _)) hD.ok.1 (fun p hp=>?_) ?_
  · obtain ⟨t,ht,hm⟩:=hD.mo p hp
    obtain ⟨u,hu,eu⟩:=hs.ks t ht
    exact Ztd ok hf (eu ▸ h.mem u hu) hn.2 hm
  · rw [ZDq hs h.can hD]; exact hK
end Go.Proofs.YtaagfepgbofmlaaGreat
namespace Go.Proofs.YtaagfepgbofmlaaGreat
open Go Vc
theorem Zd6 {a:Alg} {p n:Int} (hd:OkDeg a.degrees) (hn:0≤n∧n≤40) (hf:Fits a.degrees n) {K:List A8→Prop} (h:K (Xu p (mons a.degrees n))):Zbx a p n K:=by
  unfold Zbx
  rw [if_pos hn.1]
  have hf':(mons a.degrees n).length≤120:=hf
  refine Zsi hd (by omega) ?_
  rw [ZFo (by omega)]
  refine Yr (fun i s=>s=Xu p ((mons a.degrees n).take i)) (mons a.degrees n).length ?_ ?_ _ _ _ (by omega) rfl
  · intro i s next hi hs hnx
    refine Zll (Zi5 hd hi) ?_
    have hl:s.length≤120:=by
      rw [hs]
      have:=Zgf p ((mons a.degrees n).take i)
      rw [ZGs] at this
      omega
    by_cases q:p≤wdU ((mons a.degrees n).getD i ZEo) 8
    · refine Yz q ⟨by unfold Zy; omega,hnx _ ?_⟩
      rw [hs,Zge hi,if_pos q]
    · refine Y0 q (hnx _ ?_)
      rw [hs,Zge hi,if_neg q]
  · intro s hs; rw [hs,Z3o]; exact h
theorem Zd7 {a:Alg} (ok:OkAlg a) (n:Int):Srt (mons a.degrees n):=Zoi ok.deg.1 n
theorem Zo4 {a:Alg} (ok:OkAlg a) (p n:Int):Srt (Xu p (mons a.degrees n)):=(Zd7 ok n).sublist (List.filter_sublist ..)
theorem Zo5 {p:Int} {l:List A8}:∀ m,m∈Xu p l→m∈l:=fun m h=>(List.mem_filter.1 h).1
def Zb3 (a:Alg):Cx where
  LV:=mons a.degrees
  PL n:=plc (mons a.degrees n) (mons a.degrees n).length
  MX n:=(mons a.degrees n).map fun m=>Zcy a n [⟨m,1⟩]
  CL _:=[]
  BD _:=[]
  KL _:=[]
theorem Ze6 {a:Alg} (ok:OkAlg a) {n:Int} (hn:n≤40) (hf:Fits a.degrees n):Zce (Zb3 a) a.degrees n :=
  Zlp ok.deg hn (fun _=>⟨rfl,ZDe _⟩) (fun no=>absurd hf no)
theorem ZDs (m:A8):IsMap [⟨m,1⟩] (Yu ([]:List (A8×Int)) m 1) :=
  ⟨Znw m,fun x=>rfl,fun p hp=>by obtain rfl:=ZFz.1 hp; exact⟨_,List.mem_singleton_self _,rfl⟩⟩
theorem ZDt {a:Alg} {n:Int} {i:Nat} (hi:i < (mons a.degrees n).length):((Zb3 a).MX n).getD i ZEo=Zcy a n [⟨(mons a.degrees n).getD i ZEo,1⟩]:=by
  simp [Zb3,ZEy,hi]
theorem ZDu {a:Alg} (ok:OkAlg a) (hf:Jk a) {n:Int} (hn:0≤n∧n≤38) (f1:Fits a.degrees n) (f2:Fits a.degrees (n+1)):Zk9 (Zb3 a) a n:=by
  unfold Zk9 Zk8
  have e:ZG5.wrap (n+1)=n+1:=i64_in _ (by omega)
  rw [e]
  refine⟨Ze6 ok (by omega) f1,⟨Ze6 ok (by omega) f2,?_⟩,trivial⟩
  have hl:(mons a.degrees n).length≤120:=f1
  refine Yr (fun i s=>s=((mons a.degrees n).take i).map fun m=>Zcy a n [⟨m,1⟩]) (mons a.degrees n).length ?_ ?_ _ _ _ (Nat.zero_add _) rfl
  · intro i s next hi hs hnx
    refine Zth ok hf hn f1 f2 (Zte (Y5 hi)) (ZDs _) ⟨?_,hnx _ ?_⟩
    · rw [hs,Z3n,ZGs]; unfold Zy; omega
    · rw [Xq hi,ZSi,hs]; rfl
  · intro s hs; rw [hs,Z3o]; exact⟨rfl,trivial⟩
def below (q:Int) (l:List A8):List A8:=l.filter fun m=>decide (wdU m 8 < q)
theorem Zl4 {q:Int} {l:List A8} {i:Nat} (h:i < l.length):below q (l.take (i+1))=if wdU (l.getD i ZEo) 8 < q then below q (l.take i)++[l.getD i ZEo] else below q (l.take i):=by
  rw [Xq h,below,Z3y]
  by_cases c:wdU (l.getD i ZEo) 8 < q
  · rw [if_pos c,Z3z (by simpa using c)]; rfl
  · rw [if_neg c,Z30 (by simpa using c),List.filter_nil,ZXj]; rfl
theorem Zl5 (q:Int) (l:List A8):(below q l).length≤l.length:=Z33 _ _
theorem Zl6 {α β:Type} [Inhabited α] [Inhabited β] {l:List α} {g:α→β} {i:Nat} (h:i < l.length):(l.map g).getD i ZEo=g (l.getD i ZEo):=by simp [ZEy,h]
def Za0 (p:Int) (l:List A8):List Bool:=l.map fun m=>decide (wdU m 8≥p)
theorem Zl7 {a:Alg} {p n:Int} {pl:List (A8×Int)} (hd:OkDeg a.degrees) (hf:Fits a.degrees n) {K:List Bool→Prop} (h:K (Za0 p (mons a.degrees n))):Zd2 ⟨mons a.degrees n,pl⟩ p K:=by
  unfold Zd2
  dsimp only
  have hl:(mons a.degrees n).length≤120:=hf
  refine Yr (fun i s=>s=Za0 p ((mons a.degrees n).take i)) (mons a.degrees n).length ?_ ?_ _ _ _ (by omega) rfl
  · intro i s next hi hs hn
    refine Zsc (Zi5 hd hi) ⟨?_,hn _ ?_⟩
    · rw [hs,Za0,Z3n,ZGs]; unfold Zy; omega
    · rw [hs,Xq hi,Za0,Za0,ZSi]; rfl
  · intro s hs; rw [hs,Z3o]; exact h
theorem ZDv {a : Alg} {n q : Int} {g : A8 → Int} {E : List Int → Prop} (hd : OkDeg a.degrees) (hf : Fits a.degrees n) (h : E ((below q (mons a.degrees n)).map g)) :
    Z8 (fun i10 (s11:(List Int)) nx10=>Zbv ((mons a.degrees n).getD i10 ZEo) (fun r28=>(if r28 < q then((0≤(i10:Int)∧(i10:Int) < (((mons a.degrees n).map g).length:Int))∧(Zy (s11.length+1) 8∧nx10 (s11++[((mons a.degrees n).map g).getD i10 ZEo]))) else nx10 s11))) E (mons a.degrees n).length 0 []:=by
  have hl:(mons a.degrees n).length≤120:=hf
  refine Yr (fun i s=>s=(below q ((mons a.degrees n).take i)).map g) (mons a.degrees n).length ?_ ?_ _ _ _ (by omega) rfl
  · intro i s next hi hs hn
    refine Zll (Zi5 hd hi) ?_
    by_cases c:wdU ((mons a.degrees n).getD i ZEo) 8 < q
    · refine Yz c ⟨⟨by omega,by rw [Z3n]; omega⟩,?_,hn _ ?_⟩
      · have:=Zl5 q ((mons a.degrees n).take i)
        rw [ZGs] at this
        rw [hs,Z3n]; unfold Zy; omega
      · rw [Zl6 hi,hs,Zl4 hi,if_pos c,ZSi]; rfl
    · refine Y0 c (hn _ ?_)
      rw [hs,Zl4 hi,if_neg c]
  · intro s hs; rw [hs,Z3o]; exact h
theorem ZDw {l : List A8} {q : Int} {g : A8 → Int} {E : List Int → Prop} (hl : l.length ≤ 120) (h : E ((below q l).map g)) :
    Z8 (fun i12 (s11:(List Int)) nx11=>((0≤(i12:Int)∧(i12:Int) < ((Za0 q l).length:Int))∧(if¬ (((Za0 q l).getD i12 ZEo)=true) then(Zy (s11.length+1) 8∧nx11 (s11++[(l.map g).getD i12 ZEo])) else nx11 s11))) E ((l.map g).length) 0 []:=by
  rw [Z3n]
  refine Yr (fun i s=>s=(below q (l.take i)).map g) l.length ?_ ?_ _ _ _ (by omega) rfl
  · intro i s next hi hs hn
    refine⟨⟨by omega,by rw [Za0,Z3n]; omega⟩,?_⟩
    have hb:(Za0 q l).getD i ZEo=decide (wdU (l.getD i ZEo) 8≥q):=Zl6 hi
    rw [hb]
    by_cases c:wdU (l.getD i ZEo) 8 < q
    · refine Yz (by rw [decide_eq_true_eq]; omega) ⟨?_,hn _ ?_⟩
      · have:=Zl5 q (l.take i)
        rw [ZGs] at this
        rw [hs,Z3n]; unfold Zy; omega
      · rw [Zl6 hi,hs,Zl4 hi,if_pos c,ZSi]; rfl
    · refine Y0 (by rw [decide_eq_true_eq]; omega) (hn _ ?_)
      rw [hs,Zl4 hi,if_neg c]
  · intro s hs; rw [hs,Z3o]; exact h
def Zgk (a:Alg) (n q:Int) (m:A8):List Int:=(below q (mons a.degrees (n+1))).map (dco a [⟨m,1⟩])
def Zal (a:Alg) (r p n:Int):List (List Int):=(Xu p (mons a.degrees n)).map (Zgk a n (p+r))
theorem Zo6 (a:Alg) (r p n:Int):Zav (below (p+r) (mons a.degrees (n+1))).length (Zal a r p n):=fun x hx=>by
  obtain ⟨m,_,rfl⟩:=ZF2.1 hx
  refine⟨Z3n _,fun j=>?_⟩
  by_cases hj:j < (below (p+r) (mons a.degrees (n+1))).length
  · have:vec (Zgk a n (p+r) m) j=dco a [⟨m,1⟩] ((below (p+r) (mons a.degrees (n+1))).getD j ZEo):=by simp [vec,Zgk,ZEy,hj]
    rw [this]; exact Ztc ..
  · rw [Zaf (by simp [Zgk]; omega)]; omega
def ZIs (a:Alg) (r p n:Int) (Z:List (List Int)):Prop :=
  ∃ L,IsKer (below (p+r) (mons a.degrees (n+1))).length (Zal a r p n) L∧L.length≤(Zal a r p n).length∧Z=L.map (J6 (mons a.degrees n) (Xu p (mons a.degrees n)))
theorem ZIs.unique {a:Alg} {r p n:Int} {Z Y:List (List Int)} (h:ZIs a r p n Z) (k:ZIs a r p n Y):Z=Y:=by
  obtain ⟨L,h1,_,rfl⟩:=h
  obtain ⟨L',k1,_,rfl⟩:=k
  rw [h1.unique k1]
theorem Zo7 {m:Nat} {rows L:List (List Int)} (h:IsKer m rows L):Rref rows.length L:=by
  obtain ⟨R,_,h2⟩:=h
  exact h2.1
theorem Zl8 (m:Nat):IsKer m [] []:=⟨[],IsRref.zero _,IsRref.zero _⟩
theorem ZIs.rref {a:Alg} (ok:OkAlg a) {r p n:Int} {Z:List (List Int)} (h:ZIs a r p n Z):Rref (mons a.degrees n).length Z:=by
  obtain ⟨L,h1,_,rfl⟩:=h
  have hL:=Zo7 h1
  rw [Zal,Z3n] at hL
  exact ZDo (Zd7 ok n) (Zo4 ok p n) Zo5 hL
theorem ZIs.len {a:Alg} {r p n:Int} {Z:List (List Int)} (h:ZIs a r p n Z):Z.length≤(mons a.degrees n).length:=by
  obtain ⟨L,_,h1,rfl⟩:=h
  rw [Zal,Z3n] at h1
  have:=Zgf p (mons a.degrees n)
  rw [Z3n]; omega
theorem Zti {own : List A8} {nums : List Int} {K : Vc.Form → Prop} (hl : nums.length = own.length) (hs : own.length ≤ 1000) (h : K ⟨fm own nums⟩) : Zcw nums own K := by
  unfold Zcw
  refine Yr (fun i (s:List Term)=>s=fm (own.take i) (nums.take i)) own.length ?_ ?_ _ _ _ (by omega) rfl
  · intro i s next hi hs' hn
    refine⟨by omega,?_⟩
    by_cases q:nums.getD i ZEo=0
    · refine Y0 (fun z=>z q) (hn _ ?_)
      rw [hs',Zo3 hl hi,if_pos q,ZXj]
    · refine Yz q ⟨by omega,?_,hn _ ?_⟩
      · have:=ZDk (own.take i) (nums.take i)
        rw [ZGs] at this
        rw [hs']; unfold Zy; omega
      · rw [hs',Zo3 hl hi,if_neg q]
  · intro s hs'; rw [hs',Z3o,← hl,Z3o]; exact h
theorem ZDx {a:Alg} {n:Int} {own:List A8} {nums:List Int} {K:List Int→Prop} (ok:OkAlg a) (hf:Fits a.degrees n) (ho:Srt own) (hsub:∀ m,m∈own→m∈mons a.degrees n) (hol:own.length≤120) (hn:RowOk own.length nums) (h:K (J6 (mons a.degrees n) own nums)) :
    Zcw nums own (fun r=>Zby r (mons a.degrees n) K):=by
  refine Zti hn.len (by omega) ?_
  refine Zsq (Zl0 ho (Zje hn)) (Zd7 ok n) (fun t ht=>hsub _ (Zjd ht)) (by unfold Fits at hf; omega) h
theorem Ztj {a:Alg} {n p:Int} {L:List (List Int)} {K:List (List Int)→Prop} (ok:OkAlg a) (hf:Fits a.degrees n) (hL:∀ v,v∈L→RowOk (Xu p (mons a.degrees n)).length v) (hll:L.length≤1000)
    (h:K (L.map (J6 (mons a.degrees n) (Xu p (mons a.degrees n))))) :
    Z8 (fun i12 (s12:(List (List Int))) nx12=>Zcw (L.getD i12 ZEo) (Xu p (mons a.degrees n)) (fun r17=>Zby r17 (mons a.degrees n) (fun r15=>(Zy (s12.length+1) 24∧nx12 (s12++[r15]))))) (fun (s12:(List (List Int)))=>K s12) L.length 0 []:=by
  have hl:(mons a.degrees n).length≤120:=hf
  have hol:=Zgf p (mons a.degrees n)
  refine Yr (fun i s=>s=(L.take i).map (J6 (mons a.degrees n) (Xu p (mons a.degrees n)))) L.length ?_ ?_ _ _ _ (by omega) rfl
  · intro i s next hi hs hn
    refine ZDx ok hf (Zo4 ok p n) Zo5 (by omega) (hL _ (Y5 hi)) ⟨?_,hn _ ?_⟩
    · rw [hs,Z3n,ZGs]; unfold Zy; omega
    · rw [Xq hi,ZSi,hs]; rfl
  · intro s hs; rw [hs,Z3o]; exact h
theorem Zo8 {a:Alg} {r p n:Int} {K:List (List Int)→Prop} (ok:OkAlg a) (hf:Jk a) (hn:0≤n∧n≤38) (hr:-5000≤r∧r≤5000) (hp:-5000≤p∧p≤5000) (f1:Fits a.degrees n) (f2:Fits a.degrees (n+1)) (h:∀ Z,ZIs a r p n Z→K Z):Zdg a r p n K:=by
  have hd:=ok.deg
  have hl1:(mons a.degrees n).length≤120:=f1
  have hl2:(mons a.degrees (n+1)).length≤120:=f2
  have hol:=Zgf p (mons a.degrees n)
  have hbl:=Zl5 (p+r) (mons a.degrees (n+1))
  unfold Zdg
  have e1:ZG5.wrap (n+1)=n+1:=i64_in _ (by omega)
  have e2:ZG5.wrap (p+r)=p+r:=i64_in _ (by omega)
  rw [e1,e2]
  refine Zd6 hd (by omega) f1 (Zd6 hd (by omega) f1 (Zd6 hd (by omega) f2 ?_))
  rw [Zi6 hd,Zi6 hd]
  refine Yr (fun i s=>s=((Xu p (mons a.degrees n)).take i).map (Zgk a n (p+r))) (Xu p (mons a.degrees n)).length ?_ ?_ _ _ _ (by omega) rfl
  · intro i s next hi hs hnx
    refine Zns (Ztg ok hf hn f1 f2 (Zte (Zo5 _ (Y5 hi))) ?_)
    refine ZDv hd f2 ⟨?_,hnx _ ?_⟩
    · rw [hs,Z3n,ZGs]; unfold Zy; omega
    · rw [Xq hi,ZSi,hs]; rfl
  · intro s hs
    rw [Z3o] at hs
    have hs:s=Zal a r p n:=hs
    subst hs
    have hrl:(Zal a r p n).length=(Xu p (mons a.degrees n)).length:=Z3n _
    have go:∀ L,IsKer (below (p+r) (mons a.degrees (n+1))).length (Zal a r p n) L→L.length≤(Zal a r p n).length→K (L.map (J6 (mons a.degrees n) (Xu p (mons a.degrees n)))):=fun L hL hlen=>h _ ⟨L,hL,hlen,rfl⟩
    by_cases c:((Zal a r p n).length:Int) > 0
    · refine Yz c ⟨by omega,?_⟩
      have e3:((Zal a r p n).getD 0 ZEo).length=(below (p+r) (mons a.degrees (n+1))).length:=(Zo6 a r p n _ (Y5 (by omega))).len
      rw [e3]
      refine Zs8 (Zo6 a r p n) (by omega) (by omega) fun L hL hlen=>?_
      exact Ztj ok f1 (fun v hv=>by have:=((Zo7 hL).ok v hv).1; rwa [hrl] at this) (by omega) (go L hL hlen)
    · refine Y0 c ?_
      have e3:Zal a r p n=[]:=ZTz (by omega)
      have hz:Zav 0 (Zal a r p n):=fun x hx=>by rw [e3] at hx; cases hx
      refine Zs8 (m:=0) hz (by omega) (by omega) fun L hL hlen=>?_
      have hLn:L=[]:=by rw [e3] at hL; exact hL.unique (Zl8 0)
      refine Ztj ok f1 (fun v hv=>by rw [hLn] at hv; cases hv) (by omega) (go L ?_ hlen)
      rw [e3,hLn]; exact Zl8 _
def Zjh (l own:List A8) (idx:List Int):Prop:=idx.length=own.length∧∀ k,k < own.length→∃ i:Nat,idx.getD k ZEo=(i:Int)∧i < l.length∧l.getD i ZEo=own.getD k ZEo
theorem ZDy (f g:List Term) (x:A8):coT (f++g) x=coT f x+coT g x:=Zhw _ f g
theorem ZDz {l own : List A8} {idx nums : List Int} {E : List Int → Prop} (hl : Srt l) (ho : Srt own) (hp : Zjh l own idx) (hn : RowOk own.length nums) (h : E (J6 l own nums)) :
    Z8 (fun i11 (s12:(List Int)) nx13=>((0≤(i11:Int)∧(i11:Int) < (idx.length:Int))∧((0≤idx.getD i11 ZEo∧idx.getD i11 ZEo < (s12.length:Int))∧nx13 (s12.set ((idx.getD i11 ZEo).toNat) (nums.getD i11 ZEo))))) E (nums.length) 0 (ZEj ((l.length:Int).toNat) (0:Int)):=by
  have hnl:=hn.len
  rw [Z3p]
  refine Yr (fun k (s:List Int)=>s.length=l.length∧∀ j,j < l.length→vec s j=coT (fm (own.take k) (nums.take k)) (l.getD j ZEo)) nums.length ?_ ?_ _ _ _ (by omega) ⟨by simp,fun j hj=>by rw [Zlw]; rfl⟩
  · rintro k s next hk ⟨g1,g2⟩ hnx
    obtain ⟨i,e1,e2,e3⟩:=hp.2 k (by omega)
    rw [e1,Z3p]
    refine⟨⟨by omega,by have:=hp.1; omega⟩,⟨by omega,by omega⟩,hnx _ ⟨by rw [ZFs]; exact g1,fun j hj=>?_⟩⟩
    rw [Zjc (by omega),Zo3 hnl (by omega),ZDy]
    have hno:own.getD k ZEo∉own.take k:=fun hm=>by
      obtain ⟨q,hq,eq⟩:=Zl2 hm
      rw [ZGs] at hq
      have e4:(own.take k).getD q ZEo=own.getD q ZEo:=by simp only [ZEy]; rw [List.getElem?_take,if_pos (by omega)]
      rw [e4] at eq
      have:=Zjg ho (show q < k by omega) (by omega)
      rw [eq,Zhu] at this; omega
    have last:coT (if nums.getD k ZEo=0 then [] else [⟨own.getD k ZEo,nums.getD k ZEo⟩]) (l.getD j ZEo)=if j=i then nums.getD k ZEo else 0:=by
      by_cases e:j=i
      · subst e
        rw [if_pos rfl,e3]
        split
        · rename_i z; rw [z]; rfl
        · rw [Zbt,if_pos rfl,Zep,ZSd]
      · rw [if_neg e]
        have hne:own.getD k ZEo≠l.getD j ZEo:=by
          rw [← e3]
          intro z
          rcases Nat.lt_or_gt_of_ne e with q | q
          · have:=Zjg hl q e2; rw [z,Zhu] at this; omega
          · have:=Zjg hl q hj; rw [z,Zhu] at this; omega
        split
        · rfl
        · rw [Zbt,if_neg hne,Zep,ZSd]
    rw [last]
    by_cases e:j=i
    · subst e
      rw [if_pos rfl,if_pos rfl,e3,Zo1 hno,ZO0]
    · rw [if_neg e,if_neg e,g2 j hj,ZSd]
  · rintro s ⟨g1,g2⟩
    rw [hnl,Z3o,← hnl,Z3o] at g2
    have:s=J6 l own nums:=Zlt (by rw [Zl3]; exact g1) fun j=>by
      by_cases hj:j < l.length
      · rw [g2 j hj,Zjf hj]
      · rw [Zaf (by omega),Zaf (by rw [Zl3]; omega)]
    rw [this]; exact h
theorem Ztk {a:Alg} {n p:Int} {L:List (List Int)} {idx:List Int} {K:List (List Int)→Prop} (ok:OkAlg a) (hf:Fits a.degrees n) (hp:Zjh (mons a.degrees n) (Xu p (mons a.degrees n)) idx) (hL:∀ v,v∈L→RowOk (Xu p (mons a.degrees n)).length v) (hll:L.length≤1000)
    (h:K (L.map (J6 (mons a.degrees n) (Xu p (mons a.degrees n))))) :
    Z8 (fun i13 (s13:(List (List Int))) nx12=>((0≤((mons a.degrees n).length:Int)∧((mons a.degrees n).length:Int) * 8≤281474976710656)∧Z8 (fun i11 (s12:(List Int)) nx13=>((0≤(i11:Int)∧(i11:Int) < (idx.length:Int))∧((0≤idx.getD i11 ZEo∧idx.getD i11 ZEo < (s12.length:Int))∧nx13 (s12.set ((idx.getD i11 ZEo).toNat) ((L.getD i13 ZEo).getD i11 ZEo))))) (fun (s12:(List Int))=>(Zy (s13.length+1) 24∧nx12 (s13++[s12]))) ((L.getD i13 ZEo).length) 0 (ZEj (((mons a.degrees n).length:Int).toNat) (0:Int)))) (fun (s13:(List (List Int)))=>K s13) L.length 0 []:=by
  have hl:(mons a.degrees n).length≤120:=hf
  refine Yr (fun i s=>s=(L.take i).map (J6 (mons a.degrees n) (Xu p (mons a.degrees n)))) L.length ?_ ?_ _ _ _ (by omega) rfl
  · intro i s next hi hs hn
    refine⟨by omega,ZDz (Zd7 ok n) (Zo4 ok p n) hp (hL _ (Y5 hi)) ⟨?_,hn _ ?_⟩⟩
    · rw [hs,Z3n,ZGs]; unfold Zy; omega
    · rw [Xq hi,ZSi,hs]; rfl
  · intro s hs; rw [hs,Z3o]; exact h
theorem ZD0 {l own:List A8} {idx:List Int} {i:Nat} (h:Zjh l own idx) (hi:i < l.length):Zjh l (own++[l.getD i ZEo]) (idx++[(i:Int)]):=by
  refine⟨by simp [h.1],fun k hk=>?_⟩
  rw [ZEz,Z3w] at hk
  by_cases e:k < own.length
  · obtain ⟨j,e1,e2,e3⟩:=h.2 k e
    refine⟨j,?_,e2,?_⟩
    · rw [← e1]; simp only [ZEy]; rw [List.getElem?_append_left (by have:=h.1; omega)]
    · rw [e3]; simp only [ZEy]; rw [List.getElem?_append_left e]
  · obtain rfl:k=own.length:=by omega
    refine⟨i,?_,hi,?_⟩
    · simp only [ZEy]; rw [← h.1,List.getElem?_append_right (ZEn _)]; simp
    · simp [ZEy]
theorem m_z {a:Alg} {r p n:Int} {K:List (List Int)→Prop} (ok:OkAlg a) (hf:Jk a) (hn:0≤n∧n≤38) (hr:-5000≤r∧r≤5000) (hp:-5000≤p∧p≤5000) (f1:Fits a.degrees n) (f2:Fits a.degrees (n+1)) (h:∀ Z,ZIs a r p n Z→K Z):Zdh (Zb3 a) a r p n K:=by
  have hd:=ok.deg
  have hl1:(mons a.degrees n).length≤120:=f1
  have hl2:(mons a.degrees (n+1)).length≤120:=f2
  have hol:=Zgf p (mons a.degrees n)
  have hbl:=Zl5 (p+r) (mons a.degrees (n+1))
  unfold Zdh
  have e1:ZG5.wrap (n+1)=n+1:=i64_in _ (by omega)
  have e2:ZG5.wrap (p+r)=p+r:=i64_in _ (by omega)
  rw [if_neg (by omega),e1,e2]
  refine⟨ZDu ok hf hn f1 f2,Ze6 ok (by omega) f2,Zl7 hd f2 (Zl7 hd f1 ?_)⟩
  have hbl1:(Za0 p (mons a.degrees n)).length=(mons a.degrees n).length:=Z3n _
  refine Yr (fun i (s:(List Int)×(List (List Int))×Int)=>Zjh (mons a.degrees n) (Xu p ((mons a.degrees n).take i)) s.1∧s.2.1=(Xu p ((mons a.degrees n).take i)).map (Zgk a n (p+r))∧((s.2.1=[]∧s.2.2=0)∨s.2.2=((below (p+r) (mons a.degrees (n+1))).length:Int))) (mons a.degrees n).length ?_ ?_ _ _ _ (by rw [hbl1]; omega) ⟨⟨rfl,fun k hk=>by simp [Xu] at hk⟩,rfl,.inl ⟨rfl,rfl⟩⟩
  · rintro i ⟨idx,rows,wd⟩ next hi ⟨g1,g2,g3⟩ hnx
    dsimp only at g1 g2 g3 hnx ⊢
    have hb:(Za0 p (mons a.degrees n)).getD i ZEo=decide (wdU ((mons a.degrees n).getD i ZEo) 8≥p):=Zl6 hi
    rw [hb]
    have hal:=Zgf p ((mons a.degrees n).take i)
    rw [ZGs] at hal
    by_cases c:p≤wdU ((mons a.degrees n).getD i ZEo) 8
    · refine Y0 (by simpa using c) ⟨?_,?_⟩
      · rw [g1.1]; unfold Zy; omega
      have hML:((Zb3 a).MX n).length=(mons a.degrees n).length:=Z3n _
      refine⟨⟨by omega,by rw [hML]; omega⟩,?_⟩
      rw [ZDt hi]
      refine ZDw hl2 ⟨?_,hnx _ ⟨?_,?_,.inr (by rw [Z3n])⟩⟩
      · rw [g2,Z3n]; unfold Zy; omega
      · rw [Zge hi,if_pos c]; exact ZD0 g1 hi
      · rw [Zge hi,if_pos c,ZSi,g2]; rfl
    · refine Yz (by simpa using c) (hnx _ ⟨?_,?_,g3⟩)
      · rw [Zge hi,if_neg c]; exact g1
      · rw [Zge hi,if_neg c]; exact g2
  · rintro ⟨idx,rows,wd⟩ ⟨g1,g2,g3⟩
    dsimp only at g1 g2 g3 ⊢
    rw [Z3o] at g1 g2
    have g2:rows=Zal a r p n:=g2
    subst g2
    have hrl:(Zal a r p n).length=(Xu p (mons a.degrees n)).length:=Z3n _
    have go:∀ L,IsKer (below (p+r) (mons a.degrees (n+1))).length (Zal a r p n) L→L.length≤(Zal a r p n).length→K (L.map (J6 (mons a.degrees n) (Xu p (mons a.degrees n)))):=fun L hL hlen=>h _ ⟨L,hL,hlen,rfl⟩
    rcases g3 with ⟨e3,rfl⟩ | rfl
    · have hz:Zav 0 (Zal a r p n):=fun x hx=>by rw [e3] at hx; cases hx
      refine Zs9 (m:=0) hz (by omega) (by omega) fun L hL hlen=>?_
      have hLn:L=[]:=by rw [e3] at hL; exact hL.unique (Zl8 0)
      refine Ztk ok f1 g1 (fun v hv=>by rw [hLn] at hv; cases hv) (by omega) (go L ?_ hlen)
      rw [e3,hLn]; exact Zl8 _
    · refine Zs9 (Zo6 a r p n) (by omega) (by omega) fun L hL hlen=>?_
      exact Ztk ok f1 g1 (fun v hv=>by have:=((Zo7 hL).ok v hv).1; rwa [hrl] at this) (by omega) (go L hL hlen)
end Go.Proofs.YtaagfepgbofmlaaGreat
namespace Go.Proofs.YtaagfepgbofmlaaGreat
open Go Vc
def Zgl (a:Alg) (n:Int) (row:List Int):List Int:=Zcy a n (fm (mons a.degrees n) row)
theorem ZD1 {a:Alg} {n:Int} {rows:List (List Int)} {K:List (List Int)→Prop} (ok:OkAlg a) (hf:Jk a) (hn:0≤n∧n≤38) (f1:Fits a.degrees n) (f2:Fits a.degrees (n+1)) (hr:Zav (mons a.degrees n).length rows) (hl:rows.length≤1000) (h:K (rows.map (Zgl a n))):Zio a rows n K:=by
  have hd:=ok.deg
  have hl1:(mons a.degrees n).length≤120:=f1
  unfold Zio
  have e1:ZG5.wrap (n+1)=n+1:=i64_in _ (by omega)
  rw [e1]
  refine Zd6 hd (by omega) f1 (Zd6 hd (by omega) f2 ?_)
  rw [Zi6 hd,Zi6 hd]
  refine Yr (fun i s=>s=(rows.take i).map (Zgl a n)) rows.length ?_ ?_ _ _ _ (by omega) rfl
  · intro i s next hi hs hnx
    have hri:=hr _ (Y5 hi)
    refine Zti hri.len (by omega) (Ztg ok hf hn f1 f2 (Ztf (Zd7 ok n) (fun m h=>h) (Zje hri)) ⟨?_,hnx _ ?_⟩)
    · rw [hs,Z3n,ZGs]; unfold Zy; omega
    · rw [Xq hi,ZSi,hs]; rfl
  · intro s hs; rw [hs,Z3o]; exact h
theorem ZD2 {a:Alg} {n:Int} {rows:List (List Int)} {K:List (List Int)→Prop} (ok:OkAlg a) (hf:Jk a) (hn:0≤n∧n≤38) (f1:Fits a.degrees n) (f2:Fits a.degrees (n+1)) (hr:Zav (mons a.degrees n).length rows) (hl:rows.length≤1000) (h:K (rows.map (Zgl a n))):Zi0 (Zb3 a) a n rows K:=by
  have hd:=ok.deg
  have hl1:(mons a.degrees n).length≤120:=f1
  unfold Zi0
  have e1:ZG5.wrap (n+1)=n+1:=i64_in _ (by omega)
  rw [e1]
  refine Yr (fun i s=>s=(rows.take i).map (Zgl a n)) rows.length ?_ ?_ _ _ _ (by omega) rfl
  · intro i s next hi hs hnx
    have hri:=hr _ (Y5 hi)
    refine⟨Ze6 ok (by omega) f2,Ze6 ok (by omega) f1,ZDj (Srt.nd (Zd7 ok n)) hri fun m hm=>?_⟩
    refine Zth ok hf hn f1 f2 (Ztf (Zd7 ok n) (fun m h=>h) (Zje hri)) (ZDl (Zd7 ok n) hri hm) ⟨?_,hnx _ ?_⟩
    · rw [hs,Z3n,ZGs]; unfold Zy; omega
    · rw [Xq hi,ZSi,hs]; rfl
  · intro s hs; rw [hs,Z3o]; exact h
theorem ZD3 (a:Alg) (n:Int) (row:List Int):RowOk (mons a.degrees (n+1)).length (Zgl a n row):=ZDr ..
theorem ZD4 {n:Nat} {rows:List (List Int)} {K:Int→Prop} (hr:Zav n rows) (hn:n≤1000000) (hl:rows.length≤1000000) (h:∀ out,IsRref n rows out→out.length≤rows.length→K (out.length:Int)):Ze4 rows K:=by
  unfold Ze4
  exact Zox hr hn hl fun out ho hlen=>h out ho hlen
def OthersIs (a:Alg) (r p n:Int) (O:List (List Int)):Prop :=
  ∃ Zo,ZIs a (r - 1) (p+1) n Zo∧if n > 0 then∃ Zb,ZIs a (r - 1) (p - r+1) (n - 1) Zb∧O=Zo++Zb.map (Zgl a (n - 1)) else O=Zo
theorem OthersIs.unique {a:Alg} {r p n:Int} {O Q:List (List Int)} (h:OthersIs a r p n O) (k:OthersIs a r p n Q):O=Q:=by
  obtain ⟨Zo,h1,h2⟩:=h
  obtain ⟨Zo',k1,k2⟩:=k
  obtain rfl:=h1.unique k1
  by_cases c:n > 0
  · rw [if_pos c] at h2 k2
    obtain ⟨Zb,h3,rfl⟩:=h2
    obtain ⟨Zb',k3,rfl⟩:=k2
    rw [h3.unique k3]
  · rw [if_neg c] at h2 k2; rw [h2,k2]
theorem Zl9 {n:Nat} {R:List (List Int)} (h:Rref n R):Zav n R:=fun a ha=>(h.ok a ha).1
theorem OthersIs.ok {a:Alg} (ok:OkAlg a) {r p n:Int} {O:List (List Int)} (h:OthersIs a r p n O):Zav (mons a.degrees n).length O:=by
  obtain ⟨Zo,h1,h2⟩:=h
  have z1:=Zl9 (h1.rref ok)
  by_cases c:n > 0
  · rw [if_pos c] at h2
    obtain ⟨Zb,h3,rfl⟩:=h2
    intro x hx
    rcases ZEv.1 hx with q | q
    · exact z1 x q
    · obtain ⟨y,hy,rfl⟩:=ZF2.1 q
      have:=ZD3 a (n - 1) y
      rwa [show n - 1+1=n by omega] at this
  · rw [if_neg c] at h2; rw [h2]; exact z1
def PageIs (a:Alg) (r p n x:Int):Prop :=
  if r=0 then x=ZG5.wrap (((Xu p (mons a.degrees n)).length:Int) - ((Xu (p+1) (mons a.degrees n)).length:Int))
  else∃ O Z out,OthersIs a r p n O∧ZIs a r p n Z∧IsRref (mons a.degrees n).length O out∧x=ZG5.wrap ((Z.length:Int) - (out.length:Int))
theorem PageIs.unique {a:Alg} {r p n x y:Int} (h:PageIs a r p n x) (k:PageIs a r p n y):x=y:=by
  unfold PageIs at h k
  by_cases c:r=0
  · rw [if_pos c] at h k; rw [h,k]
  · rw [if_neg c] at h k
    obtain ⟨O,Z,out,h1,h2,h3,rfl⟩:=h
    obtain ⟨O',Z',out',k1,k2,k3,rfl⟩:=k
    obtain rfl:=h1.unique k1
    obtain rfl:=h2.unique k2
    rw [h3.unique k3]
theorem OthersIs.len {a:Alg} {r p n:Int} {O:List (List Int)} (f1:Fits a.degrees n) (f0:Fits a.degrees (n - 1)) (h:OthersIs a r p n O):O.length≤240:=by
  obtain ⟨Zo,h1,h2⟩:=h
  have l1:=h1.len
  have hl1:(mons a.degrees n).length≤120:=f1
  have hl0:(mons a.degrees (n - 1)).length≤120:=f0
  by_cases c:n > 0
  · rw [if_pos c] at h2
    obtain ⟨Zb,h3,rfl⟩:=h2
    have:=h3.len
    rw [ZEz,Z3n]; omega
  · rw [if_neg c] at h2; rw [h2]; omega
section
variable {a:Alg} {r p n:Int} {K:Int→Prop}
theorem ZD5 (ok : OkAlg a) (hf : Jk a) (hn : 0 ≤ n ∧ n ≤ 20) (hr : 0 ≤ r ∧ r ≤ 2200) (hp : 0 ≤ p ∧ p ≤ 2200) (af : Zbz a.degrees n) (h : ∀ x, PageIs a r p n x → K x) : Zip a r p n K := by
  have hd:=ok.deg
  obtain ⟨f0,f1,f2⟩:=af
  have hl1:(mons a.degrees n).length≤120:=f1
  unfold Zip
  have ep:ZG5.wrap (p+1)=p+1:=i64_in _ (by omega)
  rw [ep]
  by_cases c:r=0
  · refine Yz c (Zd6 hd (by omega) f1 (Zd6 hd (by omega) f1 (h _ ?_)))
    unfold PageIs; rw [if_pos c]
  · have er:ZG5.wrap (r - 1)=r - 1:=i64_in _ (by omega)
    have eq:ZG5.wrap (p - r)=p - r:=i64_in _ (by omega)
    have eq1:ZG5.wrap (p - r+1)=p - r+1:=i64_in _ (by omega)
    have en:ZG5.wrap (n - 1)=n - 1:=i64_in _ (by omega)
    rw [er,eq,eq1,en]
    refine Y0 c (Zo8 ok hf (by omega) (by omega) (by omega) f1 f2 fun Zo hZo=>?_)
    have fin:∀ O,OthersIs a r p n O→Zdg a r p n (fun r15=>Zbw r15 (fun r16=>Zbw O (fun r17=>K (ZG5.wrap ((r16.length:Int) - (r17.length:Int)))))):=fun O hO=>by
      refine Zo8 ok hf (by omega) (by omega) (by omega) f1 f2 fun Z hZ=>?_
      have zl:=hZ.len
      refine Zlx (Zl9 (hZ.rref ok)) (by omega) (by omega) fun o1 h1 _=>?_
      have e1:o1=Z:=h1.unique ⟨hZ.rref ok,SpEq.refl _⟩
      have ol:=hO.len f1 f0
      refine Zlx (hO.ok ok) (by omega) (by omega) fun o2 h2 _=>h _ ?_
      unfold PageIs; rw [if_neg c]
      exact⟨O,Z,o2,hO,hZ,h2,by rw [e1]⟩
    by_cases cn:n > 0
    · refine Yz cn (Zo8 ok hf (by omega) (by omega) (by omega) f0 (by rw [show n - 1+1=n by omega]; exact f1) fun Zb hZb=>?_)
      have zb:=hZb.len
      have hl0:(mons a.degrees (n - 1)).length≤120:=f0
      refine ZD1 ok hf (by omega) f0 (by rw [show n - 1+1=n by omega]; exact f1) (Zl9 (hZb.rref ok)) (by omega) ⟨?_,?_⟩
      · have:=hZo.len
        rw [Z3n]; unfold Zy; omega
      · exact fin _ ⟨Zo,hZo,by rw [if_pos cn]; exact⟨Zb,hZb,rfl⟩⟩
    · exact Y0 cn (fin _ ⟨Zo,hZo,by rw [if_neg cn]⟩)
theorem Ztl (p:Int):∀ l:List A8,((Za0 p l).filter id).length=(Xu p l).length
  | []=>rfl
  | m :: l => by
    have ih:=Ztl p l
    unfold Za0 Xu at ih ⊢
    rw [List.map_cons]
    by_cases q:p≤wdU m 8
    · rw [Z3z (by simpa using q),Z3z (by simpa using q),ZHf,ZHf,ih]
    · rw [Z30 (by simpa using q),Z30 (by simpa using q),ih]
theorem ZD6 {l:List Bool} (hl:l.length≤1000) (h:K (((l.filter id).length:Nat):Int)):Ze5 l K:=by
  unfold Ze5
  refine Yr (fun i (s:Int)=>s=((((l.take i).filter id).length:Nat):Int)) l.length ?_ ?_ _ _ _ (by omega) rfl
  · intro i s next hi hs hn
    have hb:((l.take i).filter id).length≤i:=ZEp (Z33 _ _) (by rw [ZGs]; omega)
    by_cases q:l.getD i ZEo=true
    · refine Yz q ?_
      rw [i64_in _ (by omega)]
      refine hn _ ?_
      rw [Xq hi,Z3y,q,hs]; simp
    · refine Y0 q (hn _ ?_)
      have q':l.getD i ZEo=false:=by simpa using q
      rw [Xq hi,Z3y,q',hs]; simp
  · intro s hs; rw [hs,Z3o]; exact h
theorem Ztm {p:Int} {l:List A8} (hl:l.length≤1000) (h:K (((Xu p l).length:Nat):Int)):Ze5 (Za0 p l) K :=
  ZD6 (by rw [Za0,Z3n]; exact hl) (by rw [Ztl]; exact h)
theorem ZD7 (ok : OkAlg a) (hf : Jk a) (hn : 0 ≤ n ∧ n ≤ 20) (hr : 0 ≤ r ∧ r ≤ 2200) (hp : 0 ≤ p ∧ p ≤ 2200) (af : Zbz a.degrees n) (h : ∀ x, PageIs a r p n x → K x) : Zi1 (Zb3 a) a r p n K := by
  have hd:=ok.deg
  obtain ⟨f0,f1,f2⟩:=af
  have hl1:(mons a.degrees n).length≤120:=f1
  unfold Zi1
  have ep:ZG5.wrap (p+1)=p+1:=i64_in _ (by omega)
  rw [ep]
  by_cases c:r=0
  · refine Yz c ⟨Ze6 ok (by omega) f1,Zl7 hd f1 (Ztm (by show (mons a.degrees n).length≤1000; omega) (Zl7 hd f1 (Ztm (by show (mons a.degrees n).length≤1000; omega) (h _ ?_))))⟩
    unfold PageIs; rw [if_pos c]
  · have er:ZG5.wrap (r - 1)=r - 1:=i64_in _ (by omega)
    have eq:ZG5.wrap (p - r)=p - r:=i64_in _ (by omega)
    have eq1:ZG5.wrap (p - r+1)=p - r+1:=i64_in _ (by omega)
    have en:ZG5.wrap (n - 1)=n - 1:=i64_in _ (by omega)
    rw [er,eq,eq1,en]
    refine Y0 c (m_z ok hf (by omega) (by omega) (by omega) f1 f2 fun Zo hZo=>?_)
    have fin:∀ O,OthersIs a r p n O→Zdh (Zb3 a) a r p n (fun r17=>Ze4 O (fun r18=>K (ZG5.wrap ((r17.length:Int) - r18)))):=fun O hO=>by
      refine m_z ok hf (by omega) (by omega) (by omega) f1 f2 fun Z hZ=>?_
      have ol:=hO.len f1 f0
      refine ZD4 (hO.ok ok) (by omega) (by omega) fun o2 h2 _=>h _ ?_
      unfold PageIs; rw [if_neg c]
      exact⟨O,Z,o2,hO,hZ,h2,rfl⟩
    by_cases cn:n > 0
    · refine Yz cn (m_z ok hf (by omega) (by omega) (by omega) f0 (by rw [show n - 1+1=n by omega]; exact f1) fun Zb hZb=>?_)
      have zb:=hZb.len
      have hl0:(mons a.degrees (n - 1)).length≤120:=f0
      refine ZD2 ok hf (by omega) f0 (by rw [show n - 1+1=n by omega]; exact f1) (Zl9 (hZb.rref ok)) (by omega) ⟨?_,?_⟩
      · have:=hZo.len
        rw [Z3n]; unfold Zy; omega
      · exact fin _ ⟨Zo,hZo,by rw [if_pos cn]; exact⟨Zb,hZb,rfl⟩⟩
    · exact Y0 cn (fin _ ⟨Zo,hZo,by rw [if_neg cn]⟩)
end
end Go.Proofs.YtaagfepgbofmlaaGreat
namespace Go.Proofs.YtaagfepgbofmlaaGreat
open Go Vc
def Zcz (x:Int):Prop:=0≤x∧x≤20
def J0 (l:List A8):Int:=l.foldl (fun s m=>if s < wdU m 8 then wdU m 8 else s) 0
theorem Ztn {l:List A8} {i:Nat} (h:i < l.length):J0 (l.take (i+1))=if J0 (l.take i) < wdU (l.getD i ZEo) 8 then wdU (l.getD i ZEo) 8 else J0 (l.take i):=by
  rw [Xq h,J0,List.foldl_append]; rfl
theorem ZD8 {r:List A8} (hp:∀ i,i < r.length→∀ j,j < 8→0≤(r.getD i ZEo).get j∧(r.getD i ZEo).get j≤255) {E:Int→Prop} (h:E (J0 r)) :
    Z8 (fun i (s:Int) next=>Zex (r.getD i ZEo) (fun r1=>next (if s < r1 then r1 else s))) E r.length 0 0:=by
  refine Yr (fun i s=>s=J0 (r.take i)) r.length ?_ ?_ _ _ _ (by omega) rfl
  · intro i s next hi hs hn
    refine Zsc (hp i hi) (hn _ ?_)
    rw [hs,Ztn hi]
  · intro s hs; rw [hs,Z3o]; exact h
theorem ZD9 {r:List A8} (hp:∀ i,i < r.length→∀ j,j < 8→0≤(r.getD i ZEo).get j∧(r.getD i ZEo).get j≤255) {E:Int→Prop} (h:E (J0 r)) :
    Z8 (fun i (s:Int) next=>Zbv (r.getD i ZEo) (fun r1=>next (if s < r1 then r1 else s))) E r.length 0 0:=by
  refine Yr (fun i s=>s=J0 (r.take i)) r.length ?_ ?_ _ _ _ (by omega) rfl
  · intro i s next hi hs hn
    refine Zll (hp i hi) (hn _ ?_)
    rw [hs,Ztn hi]
  · intro s hs; rw [hs,Z3o]; exact h
theorem ZEa {l:List A8} {c:Int} (h:∀ m,m∈l→wdU m 8≤c) (hc:0≤c):0≤J0 l∧J0 l≤c:=by
  have key:∀ (l:List A8) (s:Int),(∀ m,m∈l→wdU m 8≤c)→0≤s∧s≤c→0≤l.foldl (fun s m=>if s < wdU m 8 then wdU m 8 else s) s∧l.foldl (fun s m=>if s < wdU m 8 then wdU m 8 else s) s≤c:=by
    intro l
    induction l with
    | nil=>intro s _ hs; exact hs
    | cons m l ih =>
      intro s hl hs
      refine ih _ (fun x hx=>hl x (ZSc _ hx)) ?_
      have:=hl m ZSo
      dsimp only
      split <;> omega
  exact key l 0 h ⟨ZSg _,hc⟩
theorem Zo9 {a:Alg} (ok:OkAlg a) {n:Int}:0≤J0 (mons a.degrees n)∧J0 (mons a.degrees n)≤2040 :=
  ZEa (fun m hm=>by
    have:=(Zi3 (m:=m) (fun i hi=>by have:=Zlo ok.deg m hm i hi; omega) 8 (ZEn _)).2
    omega) (by omega)
def RowIs (a:Alg) (r n:Int) (L:List Int):Prop:=L.length=(J0 (mons a.degrees n)).toNat+1∧∀ p:Nat,p < L.length→PageIs a r p n (L.getD p ZEo)
theorem RowIs.unique {a:Alg} {r n:Int} {L L':List Int} (h:RowIs a r n L) (k:RowIs a r n L'):L=L':=by
  refine ZHb (h.1.trans k.1.symm) fun i h1 h2=>?_
  have e1:=h.2 i h1
  have e2:=k.2 i h2
  rw [Zo2 h1] at e1
  rw [Zo2 h2] at e2
  exact e1.unique e2
theorem Zto {a:Alg} {r n:Int} {L:List Int} {x:Int} (h:∀ p:Nat,p < L.length→PageIs a r p n (L.getD p ZEo)) (hx:PageIs a r L.length n x):∀ p:Nat,p < (L++[x]).length→PageIs a r p n ((L++[x]).getD p ZEo):=fun p hp=>by
  rw [ZEz,Z3w] at hp
  by_cases e:p < L.length
  · have:(L++[x]).getD p ZEo=L.getD p ZEo:=by simp only [ZEy]; rw [List.getElem?_append_left e]
    rw [this]; exact h p e
  · obtain rfl:p=L.length:=by omega
    have:(L++[x]).getD L.length ZEo=x:=by simp [ZEy]
    rw [this]; exact hx
section
variable {a:Alg} {r n:Int} {K:List Int→Prop}
theorem ZEb {K:Int→Prop} (ok:OkAlg a) (hn:n≤40) (hf:Fits a.degrees n) (h:K (J0 (mons a.degrees n))):Zi2 (Zb3 a) a n K:=by
  unfold Zi2
  exact⟨Ze6 ok hn hf,ZD8 (fun i hi=>Zi5 ok.deg hi) h⟩
theorem ZEc {K:Int→Prop} (ok:OkAlg a) (hn:0≤n∧n≤40) (hf:Fits a.degrees n) (h:K (J0 (mons a.degrees n))):Ziq a n K:=by
  unfold Ziq
  refine Zd6 ok.deg hn hf ?_
  rw [Zi6 ok.deg]
  exact ZD9 (fun i hi=>Zi5 ok.deg hi) h
theorem ZEd (ok:OkAlg a) (hf:Jk a) (hn:0≤n∧n≤20) (hr:0≤r∧r≤2200) (af:Zbz a.degrees n) (h:∀ L,RowIs a r n L→K L):Zgc (Zb3 a) a r n K:=by
  have hw:=Zo9 ok (n:=n)
  unfold Zgc
  refine ZEb ok (by omega) af.2.1 ?_
  rw [i64_in _ (by omega)]
  refine X5 (fun (s:List Int×Int)=>(0≤s.2∧s.2≤J0 (mons a.degrees n)+1)∧s.1.length=s.2.toNat∧∀ p:Nat,p < s.1.length→PageIs a r p n (s.1.getD p ZEo)) (fun s=>(J0 (mons a.degrees n)+1 - s.2).toNat) ?_ ⟨by dsimp only; omega,rfl,fun p hp=>by simp at hp⟩
  rintro ⟨L,p⟩ next ⟨g1,g2,g3⟩ hnx
  dsimp only at g1 g2 g3 hnx ⊢
  by_cases c:p < J0 (mons a.degrees n)+1
  · refine Yz c (ZD7 ok hf hn hr (by omega) af fun x hx=>⟨?_,hnx _ ⟨?_,?_,?_⟩ ?_⟩)
    · unfold Zy; omega
    · dsimp only; rw [i64_in _ (by omega)]; omega
    · dsimp only; rw [i64_in _ (by omega),ZEz,Z3w]; omega
    · exact Zto g3 (by rw [g2,Int.toNat_of_nonneg g1.1]; exact hx)
    · dsimp only; rw [i64_in _ (by omega)]; omega
  · exact Y0 c (h L ⟨by omega,g3⟩)
theorem ZEe (ok:OkAlg a) (hf:Jk a) (hn:0≤n∧n≤20) (hr:0≤r∧r≤2200) (af:Zbz a.degrees n) (h:∀ L,RowIs a r n L→K L):Zf7 a r n K:=by
  have hw:=Zo9 ok (n:=n)
  unfold Zf7
  refine X5 (fun (s:List Int×Int)=>(0≤s.2∧s.2≤J0 (mons a.degrees n)+1)∧s.1.length=s.2.toNat∧∀ p:Nat,p < s.1.length→PageIs a r p n (s.1.getD p ZEo)) (fun s=>(J0 (mons a.degrees n)+1 - s.2).toNat) ?_ ⟨by dsimp only; omega,rfl,fun p hp=>by simp at hp⟩
  rintro ⟨L,p⟩ next ⟨g1,g2,g3⟩ hnx
  dsimp only at g1 g2 g3 hnx ⊢
  refine ZEc ok (by omega) af.2.1 ?_
  by_cases c:p≤J0 (mons a.degrees n)
  · refine Yz c (ZD5 ok hf hn hr (by omega) af fun x hx=>⟨?_,hnx _ ⟨?_,?_,?_⟩ ?_⟩)
    · unfold Zy; omega
    · dsimp only; rw [i64_in _ (by omega)]; omega
    · dsimp only; rw [i64_in _ (by omega),ZEz,Z3w]; omega
    · exact Zto g3 (by rw [g2,Int.toNat_of_nonneg g1.1]; exact hx)
    · dsimp only; rw [i64_in _ (by omega)]; omega
  · exact Y0 c (h L ⟨by omega,g3⟩)
end
end Go.Proofs.YtaagfepgbofmlaaGreat
namespace Go.Proofs.YtaagfepgbofmlaaGreat
open Go Vc
open Classical in
def RowRes (a:Alg) (r n:Int) (L:List Int) (c:Int):Prop :=
  if OkAlg a then(if Za7 a then(if Zcz r∧Zcz n then(if Zbz a.degrees n then RowIs a r n L∧c=0 else L=[]∧c=3) else L=[]∧c=2) else L=[]∧c=5) else L=[]∧c=1
theorem RowRes.unique {a : Alg} {r n : Int} {L L' : List Int} {c c' : Int} (h : RowRes a r n L c) (k : RowRes a r n L' c') : L = L' ∧ c = c' := by
  unfold RowRes at h k
  by_cases c1:OkAlg a
  · rw [if_pos c1] at h k
    by_cases c2:Za7 a
    · rw [if_pos c2] at h k
      by_cases c3:Zcz r∧Zcz n
      · rw [if_pos c3] at h k
        by_cases c4:Zbz a.degrees n
        · rw [if_pos c4] at h k
          exact⟨h.1.unique k.1,h.2.trans k.2.symm⟩
        · rw [if_neg c4] at h k; exact⟨h.1.trans k.1.symm,h.2.trans k.2.symm⟩
      · rw [if_neg c3] at h k; exact⟨h.1.trans k.1.symm,h.2.trans k.2.symm⟩
    · rw [if_neg c2] at h k; exact⟨h.1.trans k.1.symm,h.2.trans k.2.symm⟩
  · rw [if_neg c1] at h k; exact⟨h.1.trans k.1.symm,h.2.trans k.2.symm⟩
theorem RowRes.len {a : Alg} {r n : Int} {L : List Int} {c : Int} (h : RowRes a r n L c) : L.length ≤ 3000 := by
  unfold RowRes at h
  split at h
  · split at h
    · split at h
      · split at h
        · rename_i ok _ _ _; have:=h.1.1; have:=Zo9 ok (n:=n); omega
        · rw [h.1]; simp
      · rw [h.1]; simp
    · rw [h.1]; simp
  · rw [h.1]; simp
section
variable {a:Alg} {r n:Int}
theorem Zpa (h:¬ OkAlg a):RowRes a r n [] 1:=by unfold RowRes; rw [if_neg h]; exact⟨rfl,rfl⟩
theorem Zpb (h:OkAlg a) (k:¬ Za7 a):RowRes a r n [] 5:=by unfold RowRes; rw [if_pos h,if_neg k]; exact⟨rfl,rfl⟩
theorem Zma (h:OkAlg a) (k:Za7 a) (j:¬ (Zcz r∧Zcz n)):RowRes a r n [] 2:=by unfold RowRes; rw [if_pos h,if_pos k,if_neg j]; exact⟨rfl,rfl⟩
theorem Ztp (h:OkAlg a) (k:Za7 a) (j:Zcz r∧Zcz n) (f:¬ Zbz a.degrees n):RowRes a r n [] 3:=by unfold RowRes; rw [if_pos h,if_pos k,if_pos j,if_neg f]; exact⟨rfl,rfl⟩
theorem Ztq (h:OkAlg a) (k:Za7 a) (j:Zcz r∧Zcz n) (f:Zbz a.degrees n) {L:List Int} (hL:RowIs a r n L):RowRes a r n L 0:=by unfold RowRes; rw [if_pos h,if_pos k,if_pos j,if_pos f]; exact⟨hL,rfl⟩
theorem Ztr {K : List Int → Int → Prop} (hf : Jk a) (h : ∀ L c, RowRes a r n L c → K L c) : Zgd a r n K := by
  unfold Zgd Zlg Zlf
  refine Zki ?_
  by_cases hr:0≤r∧r≤20
  · refine Zku (decide_eq_true hr) (Zki (Zsf hf (fun no=>?_) (fun ok no=>?_) (fun ok mi=>?_)))
    · exact Y0 (by decide) (Yz (by decide) (h _ _ (Zpa no)))
    · exact Y0 (by decide) (Yz (by decide) (h _ _ (Zpb ok no)))
    · by_cases hn:0≤n∧n≤20
      · have e:(if decide (0≤n∧n≤20)=true then(0:Int) else 2)=0:=by rw [decide_eq_true hn]; rfl
        rw [e]
        refine Yz rfl (ZB3 (ZB4 ok.deg hn (fun no=>?_) (fun af=>?_)))
        · exact h _ _ (Ztp ok mi ⟨hr,hn⟩ no)
        · exact⟨Zb3 a,ZEd ok hf hn (by omega) af fun L hL=>h _ _ (Ztq ok mi ⟨hr,hn⟩ af hL)⟩
      · have e:(if decide (0≤n∧n≤20)=true then(0:Int) else 2)=2:=by rw [decide_eq_false hn]; rfl
        rw [e]
        exact Y0 (by decide) (Yz (by decide) (h _ _ (Zma ok mi (fun z=>hn z.2))))
  · refine Zh8 (by simpa using hr) (Zsf hf (fun no=>?_) (fun ok no=>?_) (fun ok mi=>?_))
    · exact Y0 (by decide) (Yz (by decide) (h _ _ (Zpa no)))
    · exact Y0 (by decide) (Yz (by decide) (h _ _ (Zpb ok no)))
    · have e:(if false=true then(0:Int) else 2)=2:=rfl
      rw [e]
      exact Y0 (by decide) (Yz (by decide) (h _ _ (Zma ok mi (fun z=>hr z.1))))
theorem ZEf {K:List Int→Int→Prop} (hf:Jk a) (h:∀ L c,RowRes a r n L c→K L c):Zir a r n K:=by
  unfold Zir
  refine ZBw hf (fun no=>?_) (fun ok no=>?_) (fun ok mi=>?_)
  · exact Y0 (by decide) (Yz (by decide) (h _ _ (Zpa no)))
  · exact Y0 (by decide) (Yz (by decide) (h _ _ (Zpb ok no)))
  · refine Yz rfl (Zkh ?_)
    by_cases hr:0≤r∧r≤20
    · refine Y0 (by simpa using hr) (ZB2 hf ok (fun no=>?_) (fun hn no=>?_) (fun hn af=>?_))
      · exact Yz (by decide) (h _ _ (Zma ok mi (fun z=>no z.2)))
      · exact Yz (by decide) (h _ _ (Ztp ok mi ⟨hr,hn⟩ no))
      · exact Y0 (by decide) (ZEe ok hf hn (by omega) af fun L hL=>h _ _ (Ztq ok mi ⟨hr,hn⟩ af hL))
    · exact Yz (by simpa using hr) (h _ _ (Zma ok mi (fun z=>hr z.1)))
end
theorem ZEg (a0:Alg) (a1 a2:Int) (hg:GoodAlg a0) (g1:(Lit.int .i64 a1).wf=true) (g2:(Lit.int .i64 a2).wf=true) (hb:LenAlg a0):Zlk a0 a1 a2 (fun r=>r=true):=by
  unfold Zlk
  refine Zyw hb (fun r hr d1 d2 d3=>?_) (fun r hr=>by rw [if_pos hr])
  rw [if_neg (by omega)]
  have hf:=hg.fit d3
  refine Zk1 d1 d2 d3 (ZEf hf fun L c hL=>Zk1 d1 d2 d3 (Ztr hf fun L' c' hL'=>?_))
  obtain ⟨rfl,rfl⟩:=hL.unique hL'
  have hl:=hL.len
  refine Znr (Zkz (Zk0 (Zk1 d1 d2 d3 (Zyy (Zkz ?_)))))
  refine ZB9 (by omega) d1 d2 d3 fun x' k hk hk2=>Y0 (by omega) ?_
  refine Znr (Zkz (ZB5 (by omega) fun y hy held=>?_))
  refine held _ (Y0 (by omega) (Zk0 (Zk1 d1 d2 d3 (Ztr hf fun L'' c'' hL''=>?_))))
  obtain ⟨rfl,rfl⟩:=hL.unique hL''
  exact Znr (Zkz (Zk0 (held _ (Y0 (by omega) (Zk0 rfl)))))
end Go.Proofs.YtaagfepgbofmlaaGreat
