import Derived.Test.YtaagfepgbofmlaaGreatQ5
set_option linter.unusedSectionVars false
set_option linter.unusedSimpArgs false
set_option linter.unusedVariables false
open Decidable renaming not_not→ZPw,byContradiction→Z4t
open Go.IntKind renaming i64→ZFm,u8→ZK8
open Inhabited renaming default→ZC7
open Int renaming toNat_natCast→Z33,mul_emod→ZTm,tmod→ZDy,zero_add→ZN0,tmod_eq_emod_of_nonneg→ZOb,mul_comm→Z34,mul_le_mul_of_nonneg_right→Z35,add_zero→ZTh,mul_assoc→Z38,emod_emod→Z39,le_trans→Z4a,mul_nonneg→ZT6,le_refl→ZTk,ediv_nonneg→Z4i,add_emod→ZT0,tdiv_eq_ediv_of_nonneg→Z4m
open List renaming getD→ZDo,length_map→Z31,length_take→ZTl,take_length→Z32,mem_map→ZEh,mem_cons→ZC3,map_append→ZTf,length_set→ZEk,length_append→ZDh,mem_append→ZDd,mem_singleton→ZEf,pairwise_cons→ZDt,take_of_length_le→ZD5,replicate→ZC2,length_drop→ZE8,length_cons→ZFw,getElem_of_mem→ZDm,filter_append→Z4b,filter_cons_of_pos→Z4c,filter_cons_of_neg→Z4d,append_nil→ZUm,pairwise_append→ZP2,mem_append_left→ZDr,mem_append_right→ZDs,pairwise_map→ZT9,mem_cons_of_mem→ZTc,pairwise_iff_getElem→ZDe,length_filter_le→Z4g,nil_append→Z4h,ext_getElem→ZFs,take_append_drop→ZG2,mem_range→ZEr,length_replicate→ZT1,mem_of_mem_drop→Z4q,length_singleton→Z4x,eq_nil_of_length_eq_zero→ZUt
open List.Pairwise renaming nil→ZP1
open Nat renaming le_refl→ZC6,lt_trichotomy→Z4e,lt_or_ge→ZEa,le_trans→ZDa
open Prod renaming fst→ZD9
open Vc.A8 renaming get_set→ZN9,get_add→Z36,get_mkf→Z37,get_zero→Z4f
namespace Go.Proofs.YtaagfepgbofmlaaGreat
open Go Vc
def Zas (g:Int→List A8):Nat→List A8
  | 0=>[]
  | k+1=>g k++Zas g k
def Je (d n:Int):Int:=if d % 2=1 then(if 1 < (if 20 < n / d then 20 else n / d) then 1 else(if 20 < n / d then 20 else n / d)) else(if 20 < n / d then 20 else n / d)
def X4 (ds:List Int):Nat→Nat→A8→Int→List A8
  | 0,_,m,n=>if n=0 then [m] else []
  | f+1,i,m,n=>Zas (fun k=>X4 ds f (i+1) (m.set i k) (n - k * ds.getD i ZC7)) ((Je (ds.getD i ZC7) n).toNat+1)
theorem Zk7 {d n:Int} (hd:1≤d) (hn:0≤n):0≤Je d n∧Je d n≤20∧Je d n * d≤n:=by
  have h0:0≤n / d:=Z4i hn (by omega)
  have h1:n / d * d≤n:=Int.ediv_mul_le n (by omega)
  have key:∀ x:Int,0≤x→x≤n / d→x * d≤n:=fun x _ hx=>Z4a (Z35 hx (by omega)) h1
  have hb:0≤Je d n∧Je d n≤20∧Je d n≤n / d:=by
    unfold Je
    generalize n / d=q at *
    repeat' split
    all_goals omega
  exact⟨hb.1,hb.2.1,key _ hb.1 hb.2.2⟩
theorem Zro {c:Nat} {g rest l:List A8} (hl:l.length≤c+1):l++g.take ((c+1) - l.length)++rest.take ((c+1) - (l++g.take ((c+1) - l.length)).length)=l++(g++rest).take ((c+1) - l.length):=by
  rw [List.append_assoc,List.take_append,ZDh,ZTl]
  congr 3
  omega
theorem set_set {m:A8} {i:Nat} {a b:Int} (hi:i < 8):(m.set i a).set i b=m.set i b:=by
  refine A8.ext_get fun q hq=>?_
  rw [ZN9 hi,ZN9 hi,ZN9 hi]
  split <;> rfl
theorem ZAr {k:Int} (h:0≤k∧k≤20):ZK8.wrap k=k:=Zmf _ (by omega)
theorem Zrp {d n:Int} (hn:0≤n):Int.tdiv n d=n / d:=Z4m hn
theorem ZAs {ds : List Int} (hd : OkDeg ds) : ∀ (f F i : Nat) (m : A8) (n : Int) (l : List A8) (K : List A8 → Prop), i + f = ds.length → f < F → (0 ≤ n ∧ n ≤ 40) → l.length ≤ 400 → K (l ++ (X4 ds f i m n).take (401 - l.length)) → f_spec_l01Fill F ds m i n l K := by
  intro f
  induction f with
  | zero =>
    intro F i m n l K hi hF hn hl h
    obtain ⟨F,rfl⟩:∃ G,F=G+1:=⟨F - 1,by omega⟩
    rw [f_spec_l01Fill.eq_2,if_pos (by omega)]
    unfold X4 at h
    split
    · rename_i q
      rw [if_pos q] at h
      refine⟨by unfold Zy; omega,?_⟩
      rwa [ZD5 (by simp; omega)] at h
    · rename_i q
      rw [if_neg q] at h
      simpa using h
  | succ f ih =>
    intro F i m n l K hi hF hn hl h
    obtain ⟨F,rfl⟩:∃ G,F=G+1:=⟨F - 1,by omega⟩
    have h8:=hd.1
    have hdi:=hd.2 i (by omega)
    obtain ⟨t0,t20,tn⟩:=Zk7 (d:=ds.getD i ZC7) (n:=n) hdi.1 hn.1
    have hq0:0≤n / ds.getD i ZC7:=Z4i hn.1 (by omega)
    have hq1:n / ds.getD i ZC7≤n:=Int.ediv_le_self _ hn.1
    rw [f_spec_l01Fill.eq_2,if_neg (by omega)]
    rw [Z33,Zrp hn.1,i64_in (n / ds.getD i ZC7) (by omega),i64_in ((i:Int)+1) (by omega)]
    have loop:∀ (t:Int),Je (ds.getD i ZC7) n=t→X5 (fun (s80:A8×(List A8)×Int) next82=>(if s80.2.2≥0 then(if(s80.2.1.length:Int)≤400 then((0≤(i:Int)∧(i:Int) < 8)∧((0≤(i:Int)∧(i:Int) < (ds.length:Int))∧f_spec_l01Fill F ds (s80.1.set i (ZK8.wrap s80.2.2)) ((i:Int)+1) (ZFm.wrap (n - (ZFm.wrap (s80.2.2 * (ds.getD i ZC7))))) s80.2.1 (fun r105=>next82 (s80.1.set i (ZK8.wrap s80.2.2),r105,ZFm.wrap (s80.2.2 - 1))))) else K s80.2.1) else K s80.2.1)) (m,l,t):=by
      rintro t rfl
      rw [X4] at h
      refine Js (fun (s:A8×List A8×Int)=>(∀ b,s.1.set i b=m.set i b)∧s.2.1.length≤401∧(-1≤s.2.2∧s.2.2≤Je (ds.getD i ZC7) n)∧s.2.1++(Zas (fun k=>X4 ds f (i+1) (m.set i k) (n - k * ds.getD i ZC7)) (s.2.2+1).toNat).take (401 - s.2.1.length)=l++(Zas (fun k=>X4 ds f (i+1) (m.set i k) (n - k * ds.getD i ZC7)) ((Je (ds.getD i ZC7) n).toNat+1)).take (401 - l.length)) (fun s=>(s.2.2+1).toNat) ?_ ⟨fun _=>rfl,by dsimp only; omega,by dsimp only; omega,by dsimp only; rw [show (Je (ds.getD i ZC7) n+1).toNat=(Je (ds.getD i ZC7) n).toNat+1 by omega]⟩
      rintro ⟨x,y,k⟩ next ⟨k1,k2,k3,k4⟩ hx
      dsimp only at k1 k2 k3 k4 hx ⊢
      split
      · rename_i hk
        have hkd0:0≤k * ds.getD i ZC7:=ZT6 hk (by omega)
        have hkd:k * ds.getD i ZC7≤n:=Z4a (Z35 k3.2 (by omega)) tn
        split
        · rename_i hy
          refine⟨by omega,by omega,?_⟩
          rw [ZAr ⟨hk,by omega⟩,i64_in (k * ds.getD i ZC7) (by omega),i64_in (n - k * ds.getD i ZC7) (by omega),i64_in (k - 1) (by omega),k1 k]
          have e:((i:Int)+1)=((i+1:Nat):Int):=by omega
          rw [e]
          refine ih F (i+1) _ _ _ _ (by omega) (by omega) (by omega) (by omega) (hx _ ⟨fun b=>by dsimp only; rw [set_set (by omega)],?_,by dsimp only; omega,?_⟩ (by dsimp only; omega))
          · dsimp only; rw [ZDh,ZTl]; omega
          · dsimp only
            rw [← k4,show (k+1).toNat=k.toNat+1 by omega,Zas,show (k - 1+1).toNat=k.toNat by omega,show ((k.toNat:Nat):Int)=k by omega]
            exact Zro (c:=400) k2
        · rename_i hy
          have e:y.length=401:=by omega
          rw [← k4,e] at h
          simpa using h
      · rename_i hk
        rw [← k4,show (k+1).toNat=0 by omega] at h
        simpa [Zas] using h
    have ht:ZDy (ds.getD i ZC7) 2=ds.getD i ZC7 % 2:=ZOb (by omega)
    rw [ht]
    refine⟨by omega,by omega,by omega,?_⟩
    split
    · rename_i q
      refine loop _ ?_
      unfold Je
      rw [if_pos (by omega)]
      clear loop h ih
      generalize n / ds.getD i ZC7=q at *
      repeat' split
      all_goals omega
    · rename_i q
      refine loop _ ?_
      unfold Je
      rw [if_neg (by omega)]
theorem ZAt {ds : List Int} (hd : OkDeg ds) (c : Nat) (hc : c ≤ 1000) : ∀ (f F i : Nat) (m : A8) (n : Int) (l : List A8) (K : List A8 → Prop), i + f = ds.length → f < F → (0 ≤ n ∧ n ≤ 40) → l.length ≤ (c + 1) → K (l ++ (X4 ds f i m n).take ((c + 1) - l.length)) → f_impl_lister_from F (ds, (c : Int), l) i m n K := by
  intro f
  induction f with
  | zero =>
    intro F i m n l K hi hF hn hl h
    obtain ⟨F,rfl⟩:∃ G,F=G+1:=⟨F - 1,by omega⟩
    rw [f_impl_lister_from.eq_2]
    dsimp only
    unfold X4 at h
    split
    · rename_i q
      rw [show (c+1) - l.length=0 by omega] at h
      simpa using h
    · rename_i q
      rw [if_pos (by omega)]
      split
      · rename_i q
        rw [if_pos q] at h
        refine⟨by unfold Zy; omega,?_⟩
        rwa [ZD5 (by simp; omega)] at h
      · rename_i q
        rw [if_neg q] at h
        simpa using h
  | succ f ih =>
    intro F i m n l K hi hF hn hl h
    obtain ⟨F,rfl⟩:∃ G,F=G+1:=⟨F - 1,by omega⟩
    have h8:=hd.1
    have hdi:=hd.2 i (by omega)
    obtain ⟨t0,t20,tn⟩:=Zk7 (d:=ds.getD i ZC7) (n:=n) hdi.1 hn.1
    have hq0:0≤n / ds.getD i ZC7:=Z4i hn.1 (by omega)
    have hq1:n / ds.getD i ZC7≤n:=Int.ediv_le_self _ hn.1
    rw [f_impl_lister_from.eq_2]
    dsimp only
    split
    · rename_i q
      rw [show (c+1) - l.length=0 by omega] at h
      simpa using h
    rw [if_neg (by omega)]
    rw [Z33,Zrp hn.1,i64_in (n / ds.getD i ZC7) (by omega),i64_in ((i:Int)+1) (by omega)]
    have loop:∀ (t:Int),Je (ds.getD i ZC7) n=t→X5 (fun (s65:A8×(List A8)×Int) next67=>(if s65.2.2≥0 then((0≤(i:Int)∧(i:Int) < 8)∧f_impl_lister_from F (ds,(c:Int),s65.2.1) ((i:Int)+1) (s65.1.set i s65.2.2) (ZFm.wrap (n - (ZFm.wrap (s65.2.2 * (ds.getD i ZC7))))) (fun m79=>next67 (s65.1.set i s65.2.2,m79,ZFm.wrap (s65.2.2 - 1)))) else K s65.2.1)) (m,l,t):=by
      rintro t rfl
      rw [X4] at h
      refine Js (fun (s:A8×List A8×Int)=>(∀ b,s.1.set i b=m.set i b)∧s.2.1.length≤(c+1)∧(-1≤s.2.2∧s.2.2≤Je (ds.getD i ZC7) n)∧s.2.1++(Zas (fun k=>X4 ds f (i+1) (m.set i k) (n - k * ds.getD i ZC7)) (s.2.2+1).toNat).take ((c+1) - s.2.1.length)=l++(Zas (fun k=>X4 ds f (i+1) (m.set i k) (n - k * ds.getD i ZC7)) ((Je (ds.getD i ZC7) n).toNat+1)).take ((c+1) - l.length)) (fun s=>(s.2.2+1).toNat) ?_ ⟨fun _=>rfl,by dsimp only; omega,by dsimp only; omega,by dsimp only; rw [show (Je (ds.getD i ZC7) n+1).toNat=(Je (ds.getD i ZC7) n).toNat+1 by omega]⟩
      rintro ⟨x,y,k⟩ next ⟨k1,k2,k3,k4⟩ hx
      dsimp only at k1 k2 k3 k4 hx ⊢
      split
      · rename_i hk
        have hkd0:0≤k * ds.getD i ZC7:=ZT6 hk (by omega)
        have hkd:k * ds.getD i ZC7≤n:=Z4a (Z35 k3.2 (by omega)) tn
        refine⟨by omega,?_⟩
        rw [i64_in (k * ds.getD i ZC7) (by omega),i64_in (n - k * ds.getD i ZC7) (by omega),i64_in (k - 1) (by omega),k1 k]
        have e:((i:Int)+1)=((i+1:Nat):Int):=by omega
        rw [e]
        refine ih F (i+1) _ _ _ _ (by omega) (by omega) (by omega) k2 (hx _ ⟨fun b=>by dsimp only; rw [set_set (by omega)],?_,by dsimp only; omega,?_⟩ (by dsimp only; omega))
        · dsimp only; rw [ZDh,ZTl]; omega
        · dsimp only
          rw [← k4,show (k+1).toNat=k.toNat+1 by omega,Zas,show (k - 1+1).toNat=k.toNat by omega,show ((k.toNat:Nat):Int)=k by omega]
          exact Zro k2
      · rename_i hk
        rw [← k4,show (k+1).toNat=0 by omega] at h
        simpa [Zas] using h
    have ht:ZDy (ds.getD i ZC7) 2=ds.getD i ZC7 % 2:=ZOb (by omega)
    rw [ht]
    refine⟨by omega,by omega,?_⟩
    split
    · rename_i q
      refine loop _ ?_
      unfold Je
      rw [if_pos q]
    · rename_i q
      refine loop _ ?_
      unfold Je
      rw [if_neg q]
def Ziw (p:A8):Prop:=∀ q,q < 8→0≤p.get q∧p.get q≤20
theorem Zk8 {g:Int→List A8} {p:A8}:∀ {t:Nat}, p∈Zas g t→∃ k:Nat,k < t∧p∈g k:=by
  intro t
  induction t with
  | zero=>intro h; simp [Zas] at h
  | succ t ih =>
    intro h
    rw [Zas] at h
    rcases ZDd.1 h with h | h
    · exact⟨t,by omega,h⟩
    · obtain ⟨k,hk,hp⟩:=ih h
      exact⟨k,by omega,hp⟩
theorem ZAu {ds:List Int} (hd:OkDeg ds):∀ (f i:Nat) (m:A8) (n:Int),i+f=ds.length→0≤n→Ziw m→∀ p,p∈X4 ds f i m n→Ziw p:=by
  intro f
  induction f with
  | zero =>
    intro i m n hi hn hm p hp
    unfold X4 at hp
    split at hp
    · rw [ZEf.1 hp]; exact hm
    · simp at hp
  | succ f ih =>
    intro i m n hi hn hm p hp
    have h8:=hd.1
    have hdi:=hd.2 i (by omega)
    obtain ⟨t0,t20,tn⟩:=Zk7 (d:=ds.getD i ZC7) (n:=n) hdi.1 hn
    rw [X4] at hp
    obtain ⟨k,hk,hp⟩:=Zk8 hp
    have hkd:(k:Int) * ds.getD i ZC7≤n:=Z4a (Z35 (by omega) (by omega)) tn
    refine ih (i+1) _ _ (by omega) (by omega) (fun q hq=>?_) p hp
    rw [ZN9 (by omega)]
    split
    · omega
    · exact hm q hq
def mons (ds:List Int) (n:Int):List A8:=if n < 0 then [] else X4 ds ds.length 0 A8.zero n
theorem Zn1 {ds:List Int} (hd:OkDeg ds) {n:Int}:∀ p,p∈mons ds n→Ziw p:=fun p hp=>by
  unfold mons at hp
  split at hp
  · simp at hp
  · exact ZAu hd _ _ _ _ (by omega) (by omega) (fun q hq=>by rw [Z4f]; omega) p hp
def Fits (ds:List Int) (n:Int):Prop:=(mons ds n).length≤120
instance (ds:List Int) (n:Int):Decidable (Fits ds n):=inferInstanceAs (Decidable (_≤_))
theorem kb {K:List A8→Bool→Prop} {a c:List A8} {b d:Bool} (h:K a b) (e1:c=a) (e2:d=b):K c d:=by rw [e1,e2]; exact h
theorem Zk9 {ds:List Int} (hd:OkDeg ds) {n:Int} (hn:n≤40) {K:List A8→Bool→Prop} (h1:Fits ds n→K (mons ds n) true) (h2:¬ Fits ds n→∀ l,K l false):Zar ds n 120 K:=by
  unfold Zar
  by_cases h0:n≥0
  · rw [if_pos h0]
    have h8:=hd.1
    have e:mons ds n=X4 ds ds.length 0 A8.zero n:=by unfold mons; rw [if_neg (by omega)]
    refine ZAt hd 120 (by omega) ds.length 9 0 A8.zero n [] _ (by omega) (by omega) (by omega) (by simp) ?_
    rw [← e]
    have et:([]:List A8)++(mons ds n).take (120+1 - ([]:List A8).length)=(mons ds n).take 121:=by simp
    by_cases hf:Fits ds n
    · have hf':(mons ds n).length≤120:=hf
      exact kb (h1 hf) (by rw [et,ZD5 (by omega)]) (decide_eq_true (by rw [et,ZTl]; omega))
    · have hf':¬ (mons ds n).length≤120:=hf
      exact kb (h2 hf _) rfl (decide_eq_false (by rw [et,ZTl]; omega))
  · rw [if_neg h0]
    have e:mons ds n=[]:=by unfold mons; rw [if_pos (by omega)]
    have:=h1 (by unfold Fits; rw [e]; simp)
    rw [e] at this
    exact this
theorem Zrq {ds:List Int} (hd:OkDeg ds) {n:Int} (hn:0≤n∧n≤40) {K:List A8→Prop} (h:K ((mons ds n).take 401)):Zfz ds n K:=by
  unfold Zfz
  have h8:=hd.1
  have e:mons ds n=X4 ds ds.length 0 A8.zero n:=by unfold mons; rw [if_neg (by omega)]
  rw [e] at h
  exact ZAs hd ds.length 9 0 A8.zero n [] _ (by omega) (by omega) hn (by simp) h
theorem ZAv {a : Alg} (hd : OkDeg a.degrees) {n : Int} (hn : 0 ≤ n ∧ n ≤ 20) {K : Bool → Prop} (h1 : Fits a.degrees (n - 1) → Fits a.degrees n → Fits a.degrees (n + 1) → K true) (h2 : ¬ (Fits a.degrees (n - 1) ∧ Fits a.degrees n ∧ Fits a.degrees (n + 1)) → K false) : Zif a (ZFm.wrap (n - 1)) (ZFm.wrap (n + 1)) K := by
  unfold Zif
  rw [i64_in (n - 1) (by omega),i64_in (n+1) (by omega)]
  have fneg:∀ j:Int,j < 0→Fits a.degrees j:=fun j hj=>by unfold Fits mons; rw [if_pos hj]; simp
  refine Js (fun (s:Int)=>0≤s∧(n - 1≤s∧s≤n+2)∧∀ j:Int,n - 1≤j→j < s→Fits a.degrees j) (fun s=>(n+2 - s).toNat) ?_ ?_
  · rintro s next ⟨g1,g2,g3⟩ hx
    split
    · rename_i q
      refine Zrq hd (by omega) ?_
      split
      · rename_i q2
        refine h2 fun z=>?_
        have hs:Fits a.degrees s:=by
          rcases (show s=n - 1∨s=n∨s=n+1 by omega) with e | e | e
          · rw [e]; exact z.1
          · rw [e]; exact z.2.1
          · rw [e]; exact z.2.2
        have hs':(mons a.degrees s).length≤120:=hs
        rw [ZTl] at q2
        omega
      · rename_i q2
        rw [i64_in (s+1) (by omega)]
        refine hx _ ⟨by omega,by omega,fun j hj1 hj2=>?_⟩ (by omega)
        by_cases e:j=s
        · subst e
          show (mons a.degrees j).length≤120
          rw [ZTl] at q2; omega
        · exact g3 j hj1 (by omega)
    · rename_i q
      exact h1 (g3 _ (by omega) (by omega)) (g3 _ (by omega) (by omega)) (g3 _ (by omega) (by omega))
  · by_cases q:n - 1 < 0
    · rw [if_pos q]; exact⟨by omega,by omega,fun j _ hj=>fneg j hj⟩
    · rw [if_neg q]; exact⟨by omega,by omega,fun j hj1 hj2=>by omega⟩
def Zcv (ds:List Int) (n:Int):Prop:=Fits ds (n - 1)∧Fits ds n∧Fits ds (n+1)
theorem ZAw {a:Alg} {n:Int} {K:Int→Prop} (hf:Ju a) (ok:OkAlg a) (h1:¬ (0≤n∧n≤20)→K 2) (h2:(0≤n∧n≤20)→¬ Zcv a.degrees n→K 3) (h3:(0≤n∧n≤20)→Zcv a.degrees n→K 0):Zig a n K:=by
  unfold Zig
  refine Zqp hf (fun _=>?_) (fun no=>absurd ok no)
  rw [if_neg (by simp)]
  refine Zhn ?_
  by_cases hn:0≤n∧n≤20
  · rw [decide_eq_true hn,if_neg (by simp)]
    refine ZAv ok.deg hn (fun a1 a2 a3=>?_) (fun no=>?_)
    · rw [if_neg (by simp)]; exact h3 hn ⟨a1,a2,a3⟩
    · rw [if_pos (by simp)]; exact h2 hn no
  · rw [decide_eq_false hn,if_pos (by simp)]; exact h1 hn
theorem ZAx {S:Type} {b:Nat→S→(S→Prop)→Prop} {e:S→Prop} {s:S} (h:b 0 s e):Yc b e 1 0 s:=h
theorem ZAy {ds:List Int} (hd:OkDeg ds) {n:Int} (hn:0≤n∧n≤20) {A B:Prop} (h1:¬ Zcv ds n→A) (h2:Zcv ds n→B) :
    Zar ds (ZFm.wrap ((([n]:List Int).getD 0 ZC7) - 1)) 120 (fun _ r2=>if¬ (r2=true) then A else Zar ds (([n]:List Int).getD 0 ZC7) 120 (fun _ r4=>if¬ (r4=true) then A else Zar ds (ZFm.wrap ((([n]:List Int).getD 0 ZC7)+1)) 120 (fun _ r6=>if¬ (r6=true) then A else B))):=by
  show Zar ds (ZFm.wrap (n - 1)) 120 (fun _ r2=>if¬ (r2=true) then A else Zar ds n 120 (fun _ r4=>if¬ (r4=true) then A else Zar ds (ZFm.wrap (n+1)) 120 (fun _ r6=>if¬ (r6=true) then A else B)))
  rw [i64_in (n - 1) (by omega),i64_in (n+1) (by omega)]
  refine Zk9 hd (by omega) (fun a1=>?_) (fun no _=>?_)
  · rw [if_neg (by simp)]
    refine Zk9 hd (by omega) (fun a2=>?_) (fun no _=>?_)
    · rw [if_neg (by simp)]
      refine Zk9 hd (by omega) (fun a3=>?_) (fun no _=>?_)
      · rw [if_neg (by simp)]; exact h2 ⟨a1,a2,a3⟩
      · rw [if_pos (by simp)]; exact h1 fun z=>no z.2.2
    · rw [if_pos (by simp)]; exact h1 fun z=>no z.2.1
  · rw [if_pos (by simp)]; exact h1 fun z=>no z.1
theorem Zn2 {ds:List Int} (hd:OkDeg ds) {n:Int} {i:Nat} (hi:i < (mons ds n).length):∀ j,j < 8→0≤((mons ds n).getD i ZC7).get j∧((mons ds n).getD i ZC7).get j≤255:=fun j hj=>by
  have:=Zn1 hd _ (Xa hi) j hj
  omega
end Go.Proofs.YtaagfepgbofmlaaGreat
namespace Go.Proofs.YtaagfepgbofmlaaGreat
open Go Vc
end Go.Proofs.YtaagfepgbofmlaaGreat
namespace Go.Proofs.YtaagfepgbofmlaaGreat
open Go Vc
def Xw (p:Int) (l:List A8):List A8:=l.filter fun m=>decide (p≤wdU m 8)
theorem Zf6 {p:Int} {l:List A8} {i:Nat} (h:i < l.length):Xw p (l.take (i+1))=if p≤wdU (l.getD i ZC7) 8 then Xw p (l.take i)++[l.getD i ZC7] else Xw p (l.take i):=by
  rw [Xv h,Xw,Z4b]
  by_cases q:p≤wdU (l.getD i ZC7) 8
  · rw [if_pos q,Z4c (by simpa using q)]; rfl
  · rw [if_neg q,Z4d (by simpa using q),List.filter_nil,ZUm]; rfl
theorem Zf7 (p:Int) (l:List A8):(Xw p l).length≤l.length:=Z4g _ _
theorem Zla {ds:List Int} (hd:OkDeg ds) {n:Int}:Xw 0 (mons ds n)=mons ds n:=by
  refine List.filter_eq_self.2 fun m hm=>?_
  have hs:=Zn1 hd m hm
  have:=(Zk6 (m:=m) (fun i hi=>by have:=hs i hi; omega) 8 (by omega)).1
  simpa using this
end Go.Proofs.YtaagfepgbofmlaaGreat
namespace Go.Proofs.YtaagfepgbofmlaaGreat
open Go Vc
end Go.Proofs.YtaagfepgbofmlaaGreat
namespace Go.Proofs.YtaagfepgbofmlaaGreat
open Go Vc
theorem Zd4:∀ (l xs ys:List Int) (x y:Int),y < x→Jy (l++x::xs) (l++y::ys) < 0:=by
  intro l
  induction l with
  | nil=>intro xs ys x y h; simp only [Z4h,Jy]; split <;> (try split) <;> omega
  | cons a l ih=>intro xs ys x y h; simp only [List.cons_append,Jy]; split <;> (try split) <;> first | omega | exact ih xs ys x y h
theorem ZAz {a b:A8} {i:Nat} (hi:i < 8) (h:∀ q,q < i→a.get q=b.get q) (hg:b.get i < a.get i):pcmp a b < 0:=by
  have hl:∀ c:A8,c.list=[c.get 0,c.get 1,c.get 2,c.get 3,c.get 4,c.get 5,c.get 6,c.get 7]:=fun _=>rfl
  unfold pcmp
  rw [hl a,hl b]
  match i,hi with
  | 0,_=>exact Zd4 [] _ _ _ _ hg
  | 1,_=>rw [h 0 (by omega)]; exact Zd4 [_] _ _ _ _ hg
  | 2,_=>rw [h 0 (by omega),h 1 (by omega)]; exact Zd4 [_,_] _ _ _ _ hg
  | 3,_=>rw [h 0 (by omega),h 1 (by omega),h 2 (by omega)]; exact Zd4 [_,_,_] _ _ _ _ hg
  | 4,_=>rw [h 0 (by omega),h 1 (by omega),h 2 (by omega),h 3 (by omega)]; exact Zd4 [_,_,_,_] _ _ _ _ hg
  | 5,_=>rw [h 0 (by omega),h 1 (by omega),h 2 (by omega),h 3 (by omega),h 4 (by omega)]; exact Zd4 [_,_,_,_,_] _ _ _ _ hg
  | 6,_=>rw [h 0 (by omega),h 1 (by omega),h 2 (by omega),h 3 (by omega),h 4 (by omega),h 5 (by omega)]; exact Zd4 [_,_,_,_,_,_] _ _ _ _ hg
  | 7,_=>rw [h 0 (by omega),h 1 (by omega),h 2 (by omega),h 3 (by omega),h 4 (by omega),h 5 (by omega),h 6 (by omega)]; exact Zd4 [_,_,_,_,_,_,_] _ _ _ _ hg
theorem Zn3 {ds:List Int}:∀ (f i:Nat) (m:A8) (n:Int),i+f=ds.length→ds.length≤8→∀ p,p∈X4 ds f i m n→∀ q,q < i→p.get q=m.get q:=by
  intro f
  induction f with
  | zero =>
    intro i m n hi h8 p hp q hq
    unfold X4 at hp
    split at hp
    · rw [ZEf.1 hp]
    · simp at hp
  | succ f ih =>
    intro i m n hi h8 p hp q hq
    rw [X4] at hp
    obtain ⟨k,hk,hp⟩:=Zk8 hp
    have:=ih (i+1) _ _ (by omega) h8 p hp q (by omega)
    rw [this,ZN9 (by omega),if_neg (by omega)]
theorem ZA0 {ds:List Int} {f i:Nat} {m:A8} {n k:Int} (hi:i+(f+1)=ds.length) (h8:ds.length≤8) {p:A8} (hp:p∈X4 ds f (i+1) (m.set i k) n):p.get i=k:=by
  have:=Zn3 f (i+1) (m.set i k) n (by omega) h8 p hp i (by omega)
  rw [this,ZN9 (by omega),if_pos rfl]
theorem ZA1 {g:Int→List A8} {i:Nat} (hi:i < 8) (hag:∀ k k':Int,∀ a,a∈g k→∀ b,b∈g k'→∀ q,q < i→a.get q=b.get q) (hat:∀ k:Int,∀ a,a∈g k→a.get i=k) (hs:∀ k:Int,(g k).Pairwise (fun a b=>pcmp a b < 0)) :
    ∀ t,(Zas g t).Pairwise (fun a b=>pcmp a b < 0):=by
  intro t
  induction t with
  | zero=>exact ZP1
  | succ t ih =>
    rw [Zas]
    refine ZP2.2 ⟨hs _,ih,fun a ha b hb=>?_⟩
    obtain ⟨k,hk,hb⟩:=Zk8 hb
    refine ZAz hi (hag _ _ a ha b hb) ?_
    rw [hat _ a ha,hat _ b hb]; omega
theorem ZA2 {ds:List Int} (h8:ds.length≤8):∀ (f i:Nat) (m:A8) (n:Int),i+f=ds.length→(X4 ds f i m n).Pairwise (fun a b=>pcmp a b < 0):=by
  intro f
  induction f with
  | zero =>
    intro i m n hi
    unfold X4
    split
    · exact List.pairwise_singleton _ _
    · exact ZP1
  | succ f ih =>
    intro i m n hi
    rw [X4]
    refine ZA1 (i:=i) (by omega) (fun k k' a ha b hb q hq=>?_) (fun k a ha=>ZA0 hi h8 ha) (fun k=>ih (i+1) _ _ (by omega)) _
    have e1:=Zn3 f (i+1) _ _ (by omega) h8 a ha q (by omega)
    have e2:=Zn3 f (i+1) _ _ (by omega) h8 b hb q (by omega)
    rw [e1,e2,ZN9 (by omega),ZN9 (by omega),if_neg (by omega),if_neg (by omega)]
theorem Zn4 {ds:List Int} (h8:ds.length≤8) (n:Int):(mons ds n).Pairwise (fun a b=>pcmp a b < 0):=by
  unfold mons
  split
  · exact ZP1
  · exact ZA2 h8 _ _ _ _ (by omega)
def Zbs (ds:List Int) (p:A8):Nat→Nat→Int
  | 0,_=>0
  | r+1,j=>ds.getD j ZC7 * p.get j+Zbs ds p r (j+1)
theorem Zrr {ds:List Int} (hd:OkDeg ds) {p:A8} (hp:∀ i,i < 8→0≤p.get i):∀ r j,j+r=ds.length→0≤Zbs ds p r j:=by
  intro r
  induction r with
  | zero=>intro j _; exact ZTk _
  | succ r ih =>
    intro j hj
    have h8:=hd.1
    have:=ih (j+1) (by omega)
    have h1:=ZT6 (a:=ds.getD j ZC7) (b:=p.get j) (by have:=hd.2 j (by omega); omega) (hp j (by omega))
    simp only [Zbs]; omega
theorem ZA3 {g:Int→List A8} {p:A8} {k:Nat} (hp:p∈g k):∀ t,k < t→p∈Zas g t:=by
  intro t
  induction t with
  | zero=>intro h; omega
  | succ t ih =>
    intro h
    rw [Zas]
    by_cases e:k=t
    · subst e; exact ZDr _ hp
    · exact ZDs _ (ih (by omega))
theorem ZA4 {ds : List Int} (hd : OkDeg ds) {p : A8} (hp : ∀ i, i < 8 → 0 ≤ p.get i) (hm : OkMono ds p) : ∀ (f i : Nat) (m : A8) (n : Int), i + f = ds.length → (∀ q, q < 8 → m.get q = if q < i then p.get q else 0) → Zbs ds p f i = n → p ∈ X4 ds f i m n := by
  intro f
  induction f with
  | zero =>
    intro i m n hi hag hn
    unfold X4
    simp only [Zbs] at hn
    rw [if_pos hn.symm,ZEf]
    refine A8.ext_get fun q hq=>?_
    rw [hag q hq]
    split
    · rfl
    · exact(hm q hq).2 (by omega)
  | succ f ih =>
    intro i m n hi hag hn
    have h8:=hd.1
    have hdi:=hd.2 i (by omega)
    have hpi:=hp i (by omega)
    have hmi:=(hm i (by omega)).1 (by omega)
    simp only [Zbs] at hn
    have hr:=Zrr hd hp f (i+1) (by omega)
    rw [X4]
    have hk:p.get i≤n / ds.getD i ZC7:=Int.le_ediv_of_mul_le (by omega) (by rw [Z34]; omega)
    have htop:p.get i≤Je (ds.getD i ZC7) n:=by
      unfold Je
      by_cases o:ds.getD i ZC7 % 2=1
      · have h1:=hmi.2 (by rw [ZOb (by omega)]; omega)
        rw [if_pos o]
        generalize n / ds.getD i ZC7=t at *
        repeat' split
        all_goals omega
      · rw [if_neg o]
        generalize n / ds.getD i ZC7=t at *
        repeat' split
        all_goals omega
    refine ZA3 (k:=(p.get i).toNat) ?_ _ (by omega)
    have e:(((p.get i).toNat:Nat):Int)=p.get i:=by omega
    rw [e]
    refine ih (i+1) _ _ (by omega) (fun q hq=>?_) ?_
    · rw [ZN9 (by omega)]
      by_cases c:q=i
      · subst c; rw [if_pos rfl,if_pos (by omega)]
      · rw [if_neg c,hag q hq]
        by_cases c2:q < i
        · rw [if_pos c2,if_pos (by omega)]
        · rw [if_neg c2,if_neg (by omega)]
    · rw [Z34 (p.get i)]; omega
theorem ZA5 (ds:List Int) (p:A8):∀ (r j:Nat),Zbs ds p (r+1) j=Zbs ds p r j+ds.getD (j+r) ZC7 * p.get (j+r):=by
  intro r
  induction r with
  | zero=>intro j; simp [Zbs]
  | succ r ih =>
    intro j
    rw [Zbs,ih (j+1),show j+1+r=j+(r+1) by omega]
    simp only [Zbs]; omega
theorem Zrs (ds:List Int) (p:A8):∀ k,Zbs ds p k 0=wtU ds p k:=by
  intro k
  induction k with
  | zero=>rfl
  | succ k ih=>rw [ZA5,ih,Nat.zero_add,wtU]
theorem ZA6 {ds:List Int} (hd:OkDeg ds) {p:A8} (hp:∀ i,i < 8→0≤p.get i) (hm:OkMono ds p):p∈mons ds (wtU ds p ds.length):=by
  have h0:=Zrr hd hp ds.length 0 (by omega)
  rw [Zrs] at h0
  unfold mons
  rw [if_neg (by omega)]
  exact ZA4 hd hp hm _ _ _ _ (by omega) (fun q hq=>by rw [Z4f,if_neg (by omega)]) (Zrs ds p _)
def Zlb (m:A8) (i:Nat):A8:=A8.mkf fun j=>if i < j then m.get j else if j=i then m.get i - 1 else 0
theorem Zn5 (ds:List Int) (a b:A8):∀ k,wtU ds (a.add b) k=wtU ds a k+wtU ds b k:=by
  intro k
  induction k with
  | zero=>rfl
  | succ k ih=>simp only [wtU]; rw [ih,Z36,Int.mul_add]; omega
theorem ZA7 (ds : List Int) (m : A8) (j : Nat) : ∀ k, k ≤ 8 → wtU ds ((Jc m j).add (Zlb m j)) k = wtU ds m k - if j < k then ds.getD j ZC7 else 0 := by
  intro k
  induction k with
  | zero=>intro _; simp [wtU]
  | succ k ih =>
    intro hk
    simp only [wtU]
    rw [ih (by omega),Z36,Jc,Zlb,Z37 _ (by omega),Z37 _ (by omega)]
    by_cases c1:k < j
    · rw [if_pos c1,if_neg (by omega),if_neg (by omega),if_neg (by omega),if_neg (by omega),ZTh]; omega
    · by_cases c2:k=j
      · subst c2
        rw [if_neg (by omega),if_neg (by omega),if_neg (by omega),if_pos rfl,if_pos (by omega),ZN0,Int.mul_sub,Int.mul_one]; omega
      · rw [if_neg c1,if_pos (by omega),if_pos (by omega),if_pos (by omega),ZN0]; omega
theorem Zrt {ds:List Int} (hd:OkDeg ds) {y:A8} (hp:∀ q,q < 8→0≤y.get q):∀ k,k≤ds.length→0≤wtU ds y k∧∀ q,q < k→y.get q≤wtU ds y k:=by
  intro k
  induction k with
  | zero=>intro _; exact⟨ZTk _,fun q hq=>by omega⟩
  | succ k ih =>
    intro hk
    have h8:=hd.1
    obtain ⟨i1,i2⟩:=ih (by omega)
    have hdk:=hd.2 k (by omega)
    have hy:=hp k (by omega)
    have hm:y.get k≤ds.getD k ZC7 * y.get k:=by
      have:=Z35 (a:=1) (b:=ds.getD k ZC7) (c:=y.get k) (by omega) hy
      rwa [Int.one_mul] at this
    simp only [wtU]
    refine⟨by omega,fun q hq=>?_⟩
    by_cases c:q=k
    · subst c; omega
    · have:=i2 q (by omega); omega
theorem ZA8 {ds:List Int} {m:A8} {i:Nat} {k:Int} (hi:i < 8):∀ j,j≤i→wtU ds (m.set i k) j=wtU ds m j:=by
  intro j
  induction j with
  | zero=>intro _; rfl
  | succ j ih=>intro hj; simp only [wtU]; rw [ih (by omega),ZN9 hi,if_neg (by omega)]
theorem Zru {ds : List Int} (hd : OkDeg ds) : ∀ (f i : Nat) (m : A8) (n : Int), i + f = ds.length → 0 ≤ n → (∀ q, q < 8 → i ≤ q → m.get q = 0) → (∀ q, q < i → m.get q ≤ 20 ∧ (ZDy (ds.getD q ZC7) 2 ≠ 0 → m.get q ≤ 1)) → ∀ p, p ∈ X4 ds f i m n → OkMono ds p ∧ wtU ds p ds.length = wtU ds m i + n := by
  intro f
  induction f with
  | zero =>
    intro i m n hi hn h0 h1 p hp
    unfold X4 at hp
    split at hp
    · rename_i e
      rw [ZEf.1 hp]
      refine⟨fun q hq=>⟨fun hl=>h1 q (by omega),fun hl=>h0 q hq (by omega)⟩,?_⟩
      rw [show ds.length=i by omega,e,ZTh]
    · simp at hp
  | succ f ih =>
    intro i m n hi hn h0 h1 p hp
    have h8:=hd.1
    have hdi:=hd.2 i (by omega)
    obtain ⟨t0,t20,tn⟩:=Zk7 (d:=ds.getD i ZC7) (n:=n) hdi.1 hn
    rw [X4] at hp
    obtain ⟨k,hk,hp⟩:=Zk8 hp
    have hkt:(k:Int)≤Je (ds.getD i ZC7) n:=by omega
    have hkd:(k:Int) * ds.getD i ZC7≤n:=Z4a (Z35 hkt (by omega)) tn
    have odd1:ZDy (ds.getD i ZC7) 2≠0→(k:Int)≤1:=fun o=>by
      rw [ZOb (by omega)] at o
      have:Je (ds.getD i ZC7) n≤1:=by
        unfold Je
        rw [if_pos (by omega)]
        clear hkt hkd hp t0 t20 tn hk
        generalize n / ds.getD i ZC7=q at *
        repeat' split
        all_goals omega
      omega
    obtain ⟨r1,r2⟩:=ih (i+1) (m.set i k) (n - k * ds.getD i ZC7) (by omega) (by omega) (fun q hq hq2=>by rw [ZN9 (by omega),if_neg (by omega)]; exact h0 q hq (by omega)) (fun q hq=>by
      rw [ZN9 (by omega)]
      by_cases e:q=i
      · subst e; rw [if_pos rfl]; exact⟨by omega,odd1⟩
      · rw [if_neg e]; exact h1 q (by omega)) p hp
    refine⟨r1,?_⟩
    rw [r2,wtU,ZA8 (by omega) i (ZC6 _),ZN9 (by omega),if_pos rfl,Z34 (k:Int)]
    omega
theorem Zn6 {ds:List Int} (hd:OkDeg ds) {n:Int} {p:A8} (h:p∈mons ds n):OkMono ds p∧wtU ds p ds.length=n∧Ziw p:=by
  refine⟨?_,?_,Zn1 hd p h⟩ <;> (unfold mons at h; split at h; · simp at h)
  · exact(Zru hd _ _ _ _ (by omega) (by omega) (fun q hq _=>Z4f ..) (fun q hq=>by omega) p h).1
  · have:=(Zru hd _ _ _ _ (by omega) (by omega) (fun q hq _=>Z4f ..) (fun q hq=>by omega) p h).2
    rw [this]; simp [wtU]
theorem ZA9 {p:A8} (h:Ziw p):Za2 .u8 p:=fun x hx=>by
  obtain ⟨i,hi,rfl⟩:=A8.mem_list.1 hx
  have:=h i hi
  simp only [Fit,Lit.wf,Bool.and_eq_true,decide_eq_true_eq]
  simp [IntKind.min,IntKind.max,IntKind.signed,IntKind.bits]
  omega
theorem ZBa {m:A8} {j:Nat}:(leftA m j).add (backA m j)=(Jc m j).add (Zlb m j):=A8.ext_get fun q hq=>by
  rw [Z36,Z36,leftA,backA,Jc,Zlb,Z37 _ hq,Z37 _ hq,Z37 _ hq,Z37 _ hq]
  by_cases a:q < j
  · rw [if_pos a,if_pos a,if_neg (by omega),if_neg (by omega),if_neg (by omega)]
  · by_cases b:q=j
    · subst b; rw [if_neg a,if_pos rfl,if_neg (by omega)]; omega
    · rw [if_neg a,if_neg b,if_pos (by omega),if_neg a]
theorem ZBb {ds:List Int} {imgs:List (List Term)} {y m:A8} (h8:ds.length≤8) (hm:OkMono ds m) (h:DMono ds imgs y m):∃ j u,j < ds.length∧0 < m.get j∧u∈imgs.getD j ZC7∧wtU ds y ds.length=wtU ds m ds.length - ds.getD j ZC7+wtU ds u.mono ds.length:=by
  obtain ⟨j,u,h1,h2,h3,rfl,_,_⟩:=h
  have hj:j < ds.length:=Nat.lt_of_not_le fun z=>by have:=(hm j h1).2 z; omega
  refine⟨j,u,hj,h2,h3,?_⟩
  have e:=ZA7 ds m j ds.length h8
  rw [← ZBa,Zn5,if_pos hj] at e
  rw [Zn5,Zn5]
  omega
theorem ZBc {ds:List Int} {imgs:List (List Term)} {y m:A8} (h8:ds.length≤8) (hm:OkMono ds m) (pm:∀ i,i < 8→0≤m.get i∧m.get i≤20) (hI:∀ j u,u∈imgs.getD j ZC7→OkMono ds u.mono∧∀ i,i < 8→0≤u.mono.get i∧u.mono.get i≤20) (h:DMono ds imgs y m):Jj ds y∧∀ q,q < 8→0≤y.get q:=by
  obtain ⟨j,u,h1,h2,h3,rfl,c1,c2⟩:=h
  obtain ⟨lb,bb,lbb⟩:=Zne pm h2
  obtain ⟨wl,wb⟩:=Zm7 hm h1 h2
  obtain ⟨ou,bu⟩:=hI j u h3
  have w1:=Zkj wl ou.wk (fun q hq=>(lb q hq).1) (fun q hq=>(bu q hq).1) (fun q hq=>by have:=lb q hq; have:=bu q hq; omega) c1
  have b1:∀ q,q < 8→0≤((leftA m j).add u.mono).get q∧((leftA m j).add u.mono).get q≤40:=fun q hq=>by rw [Z36]; have:=lb q hq; have:=bu q hq; omega
  exact⟨Zkj w1 wb (fun q hq=>(b1 q hq).1) (fun q hq=>(bb q hq).1) (fun q hq=>by have:=b1 q hq; have:=bb q hq; omega) c2,fun q hq=>by rw [Z36]; have:=b1 q hq; have:=bb q hq; omega⟩
theorem Zrv:∀ {l:List Term}, Canon l→∀ {t:Term}, t∈l→coT l t.mono=t.factor
  | [],_,t,ht=>by simp at ht
  | s :: l, hc, t, ht => by
    rcases ZC3.1 ht with e | ht'
    · rw [e]; exact hc.at_head
    · rw [Zbo,if_neg (Zbn (hc.head t ht')),ZN0]; exact Zrv hc.tail ht'
theorem Zrw {l:List A8} (hs:l.Pairwise (fun a b=>pcmp a b < 0)) {k:Nat} {a b:A8} (ha:a∈l.take k) (hb:b∈l.drop k):pcmp a b < 0:=by
  rw [← ZG2 k l] at hs
  exact(ZP2.1 hs).2.2 a ha b hb
theorem Zrx {α:Type} [Inhabited α] {l:List α} {k:Nat} (hk:k < l.length):l.drop k=l.getD k ZC7::l.drop (k+1):=by
  rw [List.drop_eq_getElem_cons hk]; simp [ZDo,hk]
theorem Zry {f : List Term} {l : List A8} {K : List Int → Prop} (hc : Canon f) (hs : l.Pairwise (fun a b => pcmp a b < 0)) (hin : ∀ t, t ∈ f → t.mono ∈ l) (hl : l.length ≤ 1000000) (h : K (l.map (coT f))) : Zbr ⟨f⟩ l K := by
  have hfl:f.length≤1000000:=by
    have hn:(f.map Term.mono).Nodup:=by
      refine ZT9.2 (hc.1.imp fun q=>Zbn q)
    have:=hn.length_le_of_subset (l₂:=l) (fun x hx=>by obtain ⟨t,ht,rfl⟩:=ZEh.1 hx; exact hin t ht)
    rw [Z31] at this; omega
  unfold Zbr
  dsimp only
  refine⟨by omega,?_⟩
  rw [Z33]
  refine Js (fun (s:List Int×Int×Int)=>(0≤s.2.1∧s.2.1≤f.length)∧(0≤s.2.2∧s.2.2≤l.length)∧s.1.length=l.length∧(∀ j,j < l.length→s.1.getD j ZC7=if j < s.2.2.toNat then coT f (l.getD j ZC7) else 0)∧(∀ t,t∈f.take s.2.1.toNat→t.mono∈l.take s.2.2.toNat)∧∀ t,t∈f.drop s.2.1.toNat→t.mono∈l.drop s.2.2.toNat) (fun s=>l.length - s.2.2.toNat) ?_ ⟨by dsimp only; omega,by dsimp only; omega,by simp,fun j hj=>by simp [ZDo,hj],by simp,by simpa using hin⟩
  rintro ⟨out,at1,k⟩ next ⟨g1,g2,g3,g4,g5,g6⟩ hn
  dsimp only at g1 g2 g3 g4 g5 g6 hn ⊢
  have fin:(∀ j,j < l.length→¬ j < k.toNat→coT f (l.getD j ZC7)=0)→K out:=fun q=>by
    have e:out=l.map (coT f):=by
      refine ZFs (by simp [g3]) fun j h1 h2=>?_
      have hj:j < l.length:=by omega
      have:=g4 j hj
      rw [show out.getD j ZC7=out[j] by simp [ZDo,h1]] at this
      rw [this,List.getElem_map,show l[j]=l.getD j ZC7 by simp [ZDo,hj]]
      split
      · rfl
      · rename_i z; exact(q j hj z).symm
    rw [e]; exact h
  by_cases hk:k < (l.length:Int)
  · have hkn:k.toNat < l.length:=by omega
    refine Yx hk ?_
    have ki:(k+1).toNat=k.toNat+1:=by omega
    by_cases ha:at1 < (f.length:Int)
    · have han:at1.toNat < f.length:=by omega
      have ai:(at1+1).toNat=at1.toNat+1:=by omega
      refine Yx ha ⟨⟨g1.1,ha⟩,⟨g2.1,hk⟩,?_⟩
      rw [i64_in (k+1) (by omega),i64_in (at1+1) (by omega)]
      have hdl:=Zrx hkn
      have hdf:=Zrx han
      have hlk:l.getD k.toNat ZC7∈l.drop k.toNat:=by rw [hdl]; simp
      have hfa:f.getD at1.toNat ZC7∈f.drop at1.toNat:=by rw [hdf]; simp
      have hfm:f.getD at1.toNat ZC7∈f:=Z4q hfa
      have tk:∀ t,t∈f.take at1.toNat→t.mono≠l.getD k.toNat ZC7:=fun t ht=>Zbn (Zrw hs (g5 t ht) hlk)
      have t2:∀ t,t∈f.drop (at1.toNat+1)→pcmp (f.getD at1.toNat ZC7).mono t.mono < 0:=fun t ht=>by
        have hp:=hc.1.sublist (List.drop_sublist at1.toNat f)
        rw [hdf] at hp
        exact(ZDt.1 hp).1 t ht
      have step:∀ t:Term,t.mono∈l.drop k.toNat→t.mono≠l.getD k.toNat ZC7→t.mono∈l.drop (k.toNat+1):=fun t h1 h2=>by
        rw [hdl] at h1
        rcases ZC3.1 h1 with q | q
        · exact absurd q h2
        · exact q
      have takeS:∀ t:Term,t.mono∈l.take k.toNat→t.mono∈l.take (k.toNat+1):=fun t h1=>by
        rw [Xv hkn]; exact ZDr _ h1
      by_cases q:(f.getD at1.toNat ZC7).mono=l.getD k.toNat ZC7
      · refine Yx q ⟨⟨g1.1,ha⟩,⟨g2.1,by rw [g3]; exact hk⟩,hn _ ⟨by dsimp only; omega,by dsimp only; omega,by dsimp only; rw [ZEk]; exact g3,fun j hj=>?_,fun t ht=>?_,fun t ht=>?_⟩ (by dsimp only; omega)⟩
        · dsimp only
          rw [Zna (by omega),ki]
          by_cases e:j=k.toNat
          · subst e
            rw [if_pos rfl,if_pos (by omega),← q,Zrv hc hfm]
          · rw [if_neg e,g4 j hj]
            by_cases c:j < k.toNat
            · rw [if_pos c,if_pos (by omega)]
            · rw [if_neg c,if_neg (by omega)]
        · dsimp only at ht ⊢
          rw [ai,Xv han] at ht
          rw [ki]
          rcases ZDd.1 ht with z | z
          · exact takeS t (g5 t z)
          · obtain rfl:=ZEf.1 z
            rw [Xv hkn,q]; simp
        · dsimp only at ht ⊢
          rw [ai] at ht
          rw [ki]
          exact step t (g6 t (by rw [hdf]; exact ZTc _ ht)) (fun z=>Zbn (t2 t ht) (by rw [q,z]))
      · have hz : ∀ t, t ∈ f → t.mono ≠ l.getD k.toNat ZC7 := fun t ht => by
          rw [← ZG2 at1.toNat f] at ht
          rcases ZDd.1 ht with z | z
          · exact tk t z
          · rw [hdf] at z
            rcases ZC3.1 z with rfl | z
            · exact q
            · intro e
              have h1:=step _ (g6 _ hfa) q
              have h2:pcmp (l.getD k.toNat ZC7) (f.getD at1.toNat ZC7).mono < 0:=by
                have hp:=hs.sublist (List.drop_sublist k.toNat l)
                rw [hdl] at hp
                exact(ZDt.1 hp).1 _ h1
              have h3:=t2 t z
              rw [e] at h3
              exact Zj8 h2 h3
        refine Yz q (hn _ ⟨by dsimp only; omega,by dsimp only; omega,g3,fun j hj=>?_,fun t ht=>?_,fun t ht=>?_⟩ (by dsimp only; omega))
        · dsimp only
          rw [g4 j hj,ki]
          by_cases e:j=k.toNat
          · subst e
            rw [if_neg (by omega),if_pos (by omega),Zcl hz]
          · by_cases c:j < k.toNat
            · rw [if_pos c,if_pos (by omega)]
            · rw [if_neg c,if_neg (by omega)]
        · dsimp only at ht ⊢
          rw [ki]; exact takeS t (g5 t ht)
        · dsimp only at ht ⊢
          rw [ki]; exact step t (g6 t ht) (hz t (Z4q ht))
    · refine Yz ha (fin fun j hj hjk=>Zcl fun t ht=>?_)
      have:t∈f.take at1.toNat:=by rw [ZD5 (by omega)]; exact ht
      refine Zbn (Zrw hs (g5 t this) ?_)
      rw [List.mem_iff_getElem]
      exact⟨j - k.toNat,by rw [ZE8]; omega,by rw [List.getElem_drop]; simp [ZDo,hj,show k.toNat+(j - k.toNat)=j by omega]⟩
  · exact Yz hk (fin fun j hj hjk=>by omega)
theorem ZBd {ds:List Int} (hd:OkDeg ds) {y:A8} (hp:∀ q,q < 8→0≤y.get q):∀ k,k≤ds.length→∀ q,q < k→2≤ds.getD q ZC7→2 * y.get q≤wtU ds y k:=by
  intro k
  induction k with
  | zero=>intro _ q hq; omega
  | succ k ih =>
    intro hk q hq h2
    have h8:=hd.1
    have hdk:=hd.2 k (by omega)
    have hy:=hp k (by omega)
    have h0:=(Zrt hd hp k (by omega)).1
    simp only [wtU]
    by_cases c:q=k
    · subst c
      have:=Z35 h2 hy
      omega
    · have:=ih (by omega) q (by omega) h2
      have:=ZT6 (a:=ds.getD k ZC7) (b:=y.get k) (by omega) hy
      omega
theorem ZBe {ds : List Int} (hd : OkDeg ds) {y : A8} (hw : Jj ds y) (hp : ∀ q, q < 8 → 0 ≤ y.get q) (h : wtU ds y ds.length ≤ 40) : OkMono ds y := fun q hq =>
  ⟨fun z=>⟨by
    have h1:=(Zrt hd hp ds.length (ZC6 _))
    have hdq:=hd.2 q z
    by_cases o:ZDy (ds.getD q ZC7) 2≠0
    · have:=((hw q hq).1 z).2 o; omega
    · have h2:2≤ds.getD q ZC7:=by
        rw [ZOb (by omega)] at o; omega
      have h3:=ZBd hd hp ds.length (ZC6 _) q z h2
      omega,((hw q hq).1 z).2⟩,(hw q hq).2⟩
theorem ZBf {ds:List Int} (hd:OkDeg ds) {y:A8} {n:Int} (hw:Jj ds y) (hp:∀ q,q < 8→0≤y.get q) (h:wtU ds y ds.length=n) (hn:n≤40):y∈mons ds n:=by
  rw [← h]; exact ZA6 hd hp (ZBe hd hw hp (by omega))
end Go.Proofs.YtaagfepgbofmlaaGreat
namespace Vc
abbrev Vec:=Nat→Int
inductive Sp (S:Vec→Prop):Vec→Prop
  | zero {u:Vec}:(∀ j,u j % 10007=0)→Sp S u
  | add {r v u:Vec} (k:Int):S r→Sp S v→(∀ j,u j % 10007=(v j+k * r j) % 10007)→Sp S u
theorem Zrz {a b c d:Int} (k:Int) (h1:a % 10007=b % 10007) (h2:c % 10007=d % 10007):(a+k * c) % 10007=(b+k * d) % 10007:=by
  rw [ZT0,ZTm k c,h1,h2,← ZTm,← ZT0]
theorem Sp.cong {S:Vec→Prop} {u v:Vec} (h:Sp S u) (e:∀ j,v j % 10007=u j % 10007):Sp S v:=by
  cases h with
  | zero z=>exact .zero fun j=>by rw [e,z]
  | add k hr hv q=>exact .add k hr hv fun j=>by rw [e,q]
theorem Sp.nil (S:Vec→Prop):Sp S (fun _=>0):=.zero fun _=>rfl
theorem Sp.gen {S:Vec→Prop} {r:Vec} (h:S r):Sp S r:=.add 1 h (Sp.nil S) fun j=>by simp
theorem Sp.sum {S:Vec→Prop} {u v:Vec} (k:Int) (hu:Sp S u) (hv:Sp S v):∀ {w:Vec}, (∀ j,w j % 10007=(u j+k * v j) % 10007)→Sp S w:=by
  induction hv with
  | @zero v z=>intro w e; exact hu.cong fun j=>by rw [e,ZT0,ZTm,z]; simp
  | @add r v' u' k' hr hv q ih =>
    intro w e
    refine .add (k * k') hr (ih (w:=fun j=>u j+k * v' j) fun _=>rfl) fun j=>?_
    rw [e,Zrz k rfl (q j)]
    congr 1
    rw [Int.mul_add,Z38]
    omega
theorem Sp.mono {S T:Vec→Prop} (h:∀ r,S r→Sp T r) {u:Vec} (hu:Sp S u):Sp T u:=by
  induction hu with
  | zero z=>exact .zero z
  | add k hr hv q ih=>exact ih.sum k (h _ hr) q
def vec (a:List Int):Vec:=fun j=>a.getD j 0
def ld:List Int→Nat
  | []=>0
  | x::xs=>if x=0 then ld xs+1 else 0
theorem Zn7 (x:Int) (xs:List Int) (j:Nat):vec (x::xs) (j+1)=vec xs j:=rfl
theorem Zae {a:List Int} {j:Nat} (h:a.length≤j):vec a j=0:=by simp [vec,ZDo,List.getElem?_eq_none h]
theorem Zcw {a:List Int} {j:Nat} (h:j < a.length):vec a j=a[j]:=by simp [vec,ZDo,h]
theorem Zax:∀ {a:List Int} {q:Nat}, q < ld a→vec a q=0
  | [],q,h=>by simp [ld] at h
  | x :: xs, q, h => by
    unfold ld at h
    split at h
    · rename_i e
      cases q with
      | zero=>exact e
      | succ q=>rw [Zn7]; exact Zax (by omega)
    · omega
theorem Zlc:∀ {a:List Int}, ld a < a.length→vec a (ld a)≠0
  | [],h=>by simp at h
  | x :: xs, h => by
    unfold ld at h ⊢
    split
    · rename_i e
      rw [if_pos e] at h
      rw [Zn7]; exact Zlc (by simp at h; omega)
    · rename_i e; exact e
theorem Zld {a:List Int} {k:Nat} (h:vec a k≠0):k < a.length:=Nat.lt_of_not_le fun z=>h (Zae z)
theorem Zf8 {a:List Int} {k:Nat} (h1:∀ q,q < k→vec a q=0) (h2:vec a k≠0):ld a=k:=by
  have hk:=Zld h2
  rcases Z4e (ld a) k with q | q | q
  · exact absurd (h1 _ q) (Zlc (by omega))
  · exact q
  · exact absurd (Zax q) h2
structure RowOk (n:Nat) (a:List Int):Prop where
  len:a.length=n
  rng:∀ j,0≤vec a j∧vec a j≤10006
theorem RowOk.mod {n:Nat} {a:List Int} (h:RowOk n a) (j:Nat):vec a j % 10007=vec a j:=by have:=h.rng j; omega
theorem Zle {a b:List Int} (hl:a.length=b.length) (h:∀ j,vec a j=vec b j):a=b:=by
  refine ZFs hl fun i h1 h2=>?_
  have:=h i
  rwa [Zcw h1,Zcw h2] at this
theorem RowOk.ext {n:Nat} {a b:List Int} (ha:RowOk n a) (hb:RowOk n b) (h:∀ j,vec a j % 10007=vec b j % 10007):a=b :=
  Zle (ha.len.trans hb.len.symm) fun j=>by have:=h j; rwa [ha.mod,hb.mod] at this
def subR (k:Int) (a b:List Int):List Int:=List.zipWith (fun x y=>(x - k * y) % 10007) a b
theorem Zix {k:Int} {a b:List Int} (h:a.length=b.length):(subR k a b).length=a.length:=by simp [subR,h]
theorem Zbf {k:Int} {a b:List Int} (h:a.length=b.length) (j:Nat):vec (subR k a b) j=(vec a j - k * vec b j) % 10007:=by
  by_cases hj:j < a.length
  · rw [Zcw (by rw [Zix h]; exact hj),Zcw hj,Zcw (by omega)]
    simp [subR]
  · rw [Zae (by rw [Zix h]; omega),Zae (by omega),Zae (by omega)]; simp
theorem Ziy {n:Nat} {k:Int} {a b:List Int} (ha:RowOk n a) (hb:RowOk n b):RowOk n (subR k a b):=by
  have h:=ha.len.trans hb.len.symm
  exact⟨by rw [Zix h,ha.len],fun j=>by rw [Zbf h]; omega⟩
theorem Zlf {n:Nat} {a b:List Int} (ha:RowOk n a) (hb:RowOk n b):subR 0 a b=a:=by
  have h:=ha.len.trans hb.len.symm
  refine(Ziy ha hb).ext ha fun j=>?_
  rw [Zbf h]; simp
def Xs (k:Int) (a:List Int):List Int:=a.map fun x=>x * k % 10007
theorem Zbt (k:Int) (a:List Int) (j:Nat):vec (Xs k a) j=vec a j * k % 10007:=by
  by_cases hj:j < a.length
  · rw [Zcw (by simpa [Xs] using hj),Zcw hj]; simp [Xs]
  · rw [Zae (by simp [Xs]; omega),Zae (by omega)]; simp
theorem Zf9 {n:Nat} {k:Int} {a:List Int} (ha:RowOk n a):RowOk n (Xs k a):=⟨by simp [Xs,ha.len],fun j=>by rw [Zbt]; omega⟩
def tt {α:Type} (f:α→Int):List α→Int
  | []=>0
  | a::l=>f a+tt f l
theorem Zr0 {α:Type} {f:α→Int}:∀ {l:List α}, (∀ a,a∈l→f a=0)→tt f l=0
  | [],_=>rfl
  | a::l,h=>by simp only [tt]; rw [h a (by simp),Zr0 fun b hb=>h b (by simp [hb])]; rfl
theorem Zn8 {α:Type} {f:α→Int}:∀ {l:List α}, (∀ a,a∈l→f a % 10007=0)→tt f l % 10007=0
  | [],_=>rfl
  | a :: l, h => by
    have h1:=h a (by simp)
    have h2:=Zn8 (f:=f) (l:=l) fun b hb=>h b (by simp [hb])
    simp only [tt]; omega
theorem Zr1 {α:Type} {f g e:α→Int} (k:Int):∀ {l:List α}, (∀ a,a∈l→e a % 10007=(f a+k * g a) % 10007)→tt e l % 10007=(tt f l+k * tt g l) % 10007
  | [],_=>by simp [tt]
  | a :: l, h => by
    have h1:=h a (by simp)
    have h2:=Zr1 (f:=f) (g:=g) (e:=e) k (l:=l) fun b hb=>h b (by simp [hb])
    simp only [tt,Int.mul_add]
    generalize k * g a=x at *
    generalize k * tt g l=y at *
    omega
structure Rref (n:Nat) (out:List (List Int)):Prop where
  ok:∀ a,a∈out→RowOk n a∧vec a (ld a)=1
  pw:out.Pairwise (fun a b=>ld a < ld b∧vec a (ld b)=0)
def gens (rows:List (List Int)):Vec→Prop:=fun v=>∃ a,a∈rows∧v=vec a
theorem Jv {rows:List (List Int)} {a:List Int} (h:a∈rows):Sp (gens rows) (vec a):=.gen ⟨a,h,rfl⟩
def SpEq (a b:List (List Int)):Prop:=∀ u,Sp (gens a) u↔Sp (gens b) u
theorem SpEq.refl (a:List (List Int)):SpEq a a:=fun _=>Iff.rfl
theorem SpEq.symm {a b:List (List Int)} (h:SpEq a b):SpEq b a:=fun u=>(h u).symm
theorem SpEq.trans {a b c:List (List Int)} (h:SpEq a b) (h':SpEq b c):SpEq a c:=fun u=>(h u).trans (h' u)
theorem Zn9 {a b:List (List Int)} (h1:∀ x,x∈a→Sp (gens b) (vec x)) (h2:∀ x,x∈b→Sp (gens a) (vec x)):SpEq a b:=fun u =>
  ⟨Sp.mono fun r ⟨x,hx,e⟩=>e ▸ h1 x hx,Sp.mono fun r ⟨x,hx,e⟩=>e ▸ h2 x hx⟩
theorem Zr2 {q:Nat}:∀ {out:List (List Int)}, (∀ a,a∈out→vec a (ld a)=1)→out.Pairwise (fun a b=>ld a < ld b∧vec a (ld b)=0)→∀ a,a∈out→tt (fun z=>vec a (ld z) * vec z q) out=vec a q
  | [],_,_,a,ha=>by simp at ha
  | z0 :: l, h1, hp, a, ha => by
    obtain ⟨p1,p2⟩:=ZDt.1 hp
    simp only [tt]
    rcases ZC3.1 ha with rfl | ha
    · rw [h1 a (by simp),Zr0 fun z hz=>by rw [(p1 z hz).2,Int.zero_mul]]; omega
    · rw [Zax (p1 a ha).1,Int.zero_mul,ZN0]
      exact Zr2 (fun b hb=>h1 b (by simp [hb])) p2 a ha
theorem Rref.comb {n:Nat} {out:List (List Int)} (h:Rref n out) {u:Vec} (hu:Sp (gens out) u) (q:Nat):u q % 10007=tt (fun z=>u (ld z) * vec z q) out % 10007:=by
  induction hu with
  | zero z=>rw [z,Zn8 fun a ha=>by rw [ZTm,z]; simp]
  | @add r v u k hr hv e ih =>
    obtain ⟨a,ha,rfl⟩:=hr
    rw [e,Zrz k ih (b:=tt (fun z=>v (ld z) * vec z q) out) (d:=tt (fun z=>vec a (ld z) * vec z q) out) (by rw [Zr2 (fun b hb=>(h.ok b hb).2) h.pw a ha])]
    refine(Zr1 k fun z hz=>?_).symm
    rw [ZTm,e,← ZTm,Int.add_mul,Z38]
theorem Rref.leads {n:Nat} {out:List (List Int)} (h:Rref n out) {u:Vec} (hu:Sp (gens out) u) {q:Nat} (h0:∀ j,j < q→u j % 10007=0) (h1:u q % 10007≠0):∃ z,z∈out∧ld z=q:=by
  refine Classical.byContradiction fun no=>h1 ?_
  rw [h.comb hu]
  refine Zn8 fun z hz=>?_
  rcases Z4e (ld z) q with c | c | c
  · rw [ZTm,h0 _ c]; simp
  · exact absurd ⟨z,hz,c⟩ no
  · rw [Zax c]; simp
theorem Rref.sep {n:Nat} {out:List (List Int)} (h:Rref n out):∀ {y z:List Int}, y∈out→z∈out→(y=z∨(ld y≠ld z∧vec z (ld y)=0)):=by
  have hp:=h.pw
  clear h
  induction out with
  | nil=>intro y z hy; simp at hy
  | cons x l ih =>
    obtain ⟨p1,p2⟩:=ZDt.1 hp
    intro y z hy hz
    rcases ZC3.1 hy with ey | hy'
    · rcases ZC3.1 hz with ez | hz'
      · exact .inl (ey.trans ez.symm)
      · have:=(p1 z hz').1; rw [ey]; exact .inr ⟨by omega,Zax this⟩
    · rcases ZC3.1 hz with ez | hz'
      · have:=p1 y hy'; rw [ez]; exact .inr ⟨by omega,this.2⟩
      · exact ih p2 hy' hz'
theorem Zr3 {α : Type} {R : α → α → Prop} (hR : ∀ a b, R a b → ¬ R b a) : ∀ {a b : List α}, a.Pairwise R → b.Pairwise R → (∀ x, x ∈ a ↔ x ∈ b) → a = b
  | [],[],_,_,_=>rfl
  | [],y::b,_,_,h=>absurd ((h y).2 (by simp)) (by simp)
  | x::a,[],_,_,h=>absurd ((h x).1 (by simp)) (by simp)
  | x :: a, y :: b, ha, hb, h => by
    obtain ⟨a1,a2⟩:=ZDt.1 ha
    obtain ⟨b1,b2⟩:=ZDt.1 hb
    have e:x=y:=by
      rcases ZC3.1 ((h x).1 (by simp)) with q | q
      · exact q
      · rcases ZC3.1 ((h y).2 (by simp)) with q' | q'
        · exact q'.symm
        · exact absurd (a1 y q') (hR _ _ (b1 x q))
    subst e
    have irr:∀ z,¬ R z z:=fun z hz=>hR z z hz hz
    rw [Zr3 hR a2 b2 fun z=>⟨fun hz=>?_,fun hz=>?_⟩]
    · rcases ZC3.1 ((h z).1 (by simp [hz])) with q | q
      · subst q; exact absurd (a1 z hz) (irr z)
      · exact q
    · rcases ZC3.1 ((h z).2 (by simp [hz])) with q | q
      · subst q; exact absurd (b1 z hz) (irr z)
      · exact q
theorem Zr4 {p:Nat→Prop} [DecidablePred p]:∀ {n:Nat}, p n→∃ m,p m∧∀ j,j < m→¬ p j:=by
  intro n
  induction n using Nat.strongRecOn with
  | _ n ih =>
    intro hn
    by_cases h:∃ j,j < n∧p j
    · obtain ⟨j,hj,pj⟩:=h; exact ih j hj pj
    · exact⟨n,hn,fun j hj pj=>h ⟨j,hj,pj⟩⟩
theorem Rref.in_of {n:Nat} {a b:List (List Int)} (ha:Rref n a) (hb:Rref n b) (h:SpEq a b) {x:List Int} (hx:x∈a):x∈b:=by
  have lead:∀ {a b:List (List Int)}, Rref n a→Rref n b→SpEq a b→∀ x,x∈a→∃ z,z∈b∧ld z=ld x:=fun ha hb h x hx =>
    hb.leads ((h _).1 (Jv hx)) (fun j hj=>by rw [Zax hj]; rfl) (by rw [(ha.ok x hx).2]; decide)
  obtain ⟨z,hz,ez⟩:=lead ha hb h x hx
  have:x=z:=by
    refine(ha.ok x hx).1.ext (hb.ok z hz).1 fun j=>?_
    refine Z4t fun nj=>?_
    have hd:Sp (gens b) (fun j=>vec x j - vec z j):=Sp.sum (-1) ((h _).1 (Jv hx)) (Jv hz) fun j=>by congr 1; omega
    have nj':(vec x j - vec z j) % 10007≠0:=by omega
    obtain ⟨q,h1,h2⟩:=Zr4 (p:=fun j=>(vec x j - vec z j) % 10007≠0) nj'
    obtain ⟨y,hy,ey⟩:=hb.leads hd (q:=q) (fun j hj=>ZPw.1 (h2 j hj)) h1
    refine h1 ?_
    rw [← ey]
    rcases hb.sep hy hz with e | ⟨e1,e2⟩
    · subst e
      rw [(hb.ok y hy).2,ez,(ha.ok x hx).2]; rfl
    · obtain ⟨y',hy',ey'⟩:=lead hb ha h.symm y hy
      rcases ha.sep hy' hx with e | ⟨_,e4⟩
      · subst e; omega
      · rw [e2,← ey',e4]; rfl
  rw [this]; exact hz
theorem Rref.unique {n:Nat} {a b:List (List Int)} (ha:Rref n a) (hb:Rref n b) (h:SpEq a b):a=b :=
  Zr3 (R:=fun a b=>ld a < ld b∧vec a (ld b)=0) (fun a b h1 h2=>by omega) ha.pw hb.pw fun x=>⟨ha.in_of hb h,hb.in_of ha h.symm⟩
structure IsRref (n:Nat) (rows out:List (List Int)):Prop where
  red:Rref n out
  sp:SpEq rows out
theorem IsRref.unique {n:Nat} {rows a b:List (List Int)} (ha:IsRref n rows a) (hb:IsRref n rows b):a=b:=ha.red.unique hb.red (ha.sp.symm.trans hb.sp)
theorem Rref.nil (n:Nat):Rref n []:=⟨by simp,.nil⟩
theorem Zoa {n:Nat} {a:List Int} (h:RowOk n a∧vec a (ld a)=1):ld a < n:=by
  have:=Zld (a:=a) (k:=ld a) (by rw [h.2]; decide)
  rw [h.1.len] at this; exact this
structure Elim (n:Nat) (row z f:List Int):Prop where
  ok:RowOk n f
  ldq:Vc.ld f=Vc.ld z
  one:vec f (Vc.ld z)=1
  at0:vec f (Vc.ld row)=0
  oth:∀ q,vec row q=0→vec f q=vec z q
theorem elim {n:Nat} {row z:List Int} (hr:RowOk n row) (h1:vec row (ld row)=1) (hz:RowOk n z) (hz1:vec z (ld z)=1) (h0:vec row (ld z)=0):Elim n row z (subR (vec z (ld row)) z row):=by
  have hl:=hz.len.trans hr.len.symm
  have oth:∀ q,vec row q=0→vec (subR (vec z (ld row)) z row) q=vec z q:=fun q hq=>by rw [Zbf hl,hq,Int.mul_zero,Int.sub_zero,hz.mod]
  have one:vec (subR (vec z (ld row)) z row) (ld z)=1:=by rw [oth _ h0,hz1]
  refine⟨Ziy hz hr,Zf8 (fun q hq=>?_) (by rw [one]; decide),one,by rw [Zbf hl,h1]; simp,oth⟩
  rcases Z4e q (ld row) with c | c | c
  · rw [oth _ (Zax c),Zax hq]
  · have:vec z (ld row)=0:=by rw [← c]; exact Zax hq
    rw [this,Zlf hz hr,Zax hq]
  · have:vec z (ld row)=0:=Zax (by omega)
    rw [this,Zlf hz hr,Zax hq]
theorem Rref.insert {n:Nat} {l1 l2:List (List Int)} {row:List Int} (h:Rref n (l1++l2)) (hr:RowOk n row) (h1:vec row (ld row)=1) (h0:∀ z,z∈l1++l2→vec row (ld z)=0) (hb:∀ z,z∈l1→ld z < ld row) (ha:∀ z,z∈l2→ld row < ld z) :
    Rref n (l1.map (fun z=>subR (vec z (ld row)) z row)++row::l2.map (fun z=>subR (vec z (ld row)) z row)):=by
  have he:∀ z,z∈l1++l2→Elim n row z (subR (vec z (ld row)) z row):=fun z hz=>elim hr h1 (h.ok z hz).1 (h.ok z hz).2 (h0 z hz)
  have m1:∀ {z}, z∈l1→z∈l1++l2:=fun q=>ZDr _ q
  have m2:∀ {z}, z∈l2→z∈l1++l2:=fun q=>ZDs _ q
  obtain ⟨p1,p2,p3⟩:=ZP2.1 h.pw
  have keep:∀ {y z}, y∈l1++l2→z∈l1++l2→(ld y < ld z∧vec y (ld z)=0)→(ld (subR (vec y (ld row)) y row) < ld (subR (vec z (ld row)) z row)∧vec (subR (vec y (ld row)) y row) (ld (subR (vec z (ld row)) z row))=0):=fun {y z} hy hz q=>by
    rw [(he y hy).ldq,(he z hz).ldq,(he y hy).oth _ (h0 z hz)]; exact q
  refine⟨fun a ha'=>?_,ZP2.2 ⟨?_,ZDt.2 ⟨?_,?_⟩,?_⟩⟩
  · have fin:∀ z,z∈l1++l2→RowOk n (subR (vec z (ld row)) z row)∧vec (subR (vec z (ld row)) z row) (ld (subR (vec z (ld row)) z row))=1:=fun z hz=>⟨(he z hz).ok,by rw [(he z hz).ldq]; exact(he z hz).one⟩
    rcases ZDd.1 ha' with q | q
    · obtain ⟨z,hz,rfl⟩:=ZEh.1 q; exact fin z (m1 hz)
    · rcases ZC3.1 q with rfl | q
      · exact⟨hr,h1⟩
      · obtain ⟨z,hz,rfl⟩:=ZEh.1 q; exact fin z (m2 hz)
  · exact ZT9.2 (p1.imp_of_mem fun ha hb q=>keep (m1 ha) (m1 hb) q)
  · intro f hf
    obtain ⟨z,hz,rfl⟩:=ZEh.1 hf
    rw [(he z (m2 hz)).ldq]
    exact⟨ha z hz,h0 z (m2 hz)⟩
  · exact ZT9.2 (p2.imp_of_mem fun ha hb q=>keep (m2 ha) (m2 hb) q)
  · intro f hf g hg
    obtain ⟨y,hy,rfl⟩:=ZEh.1 hf
    rcases ZC3.1 hg with rfl | hg
    · rw [(he y (m1 hy)).ldq]; exact⟨hb y hy,(he y (m1 hy)).at0⟩
    · obtain ⟨z,hz,rfl⟩:=ZEh.1 hg
      exact keep (m1 hy) (m2 hz) (p3 y hy z hz)
theorem Zr5 {S:Vec→Prop} {k:Int} {a b:List Int} (h:a.length=b.length) (ha:Sp S (vec a)) (hb:Sp S (vec b)):Sp S (vec (subR k a b)) :=
  Sp.sum (-k) ha hb fun j=>by rw [Zbf h,Z39,Int.neg_mul]; congr 1
theorem Zr6 {S:Vec→Prop} {k:Int} {a b:List Int} (h:a.length=b.length) (ha:Sp S (vec (subR k a b))) (hb:Sp S (vec b)):Sp S (vec a) :=
  Sp.sum k ha hb fun j=>by
    rw [Zbf h]
    generalize k * vec b j=x
    omega
end Vc
namespace Vc
def at_ (w:List (List Int)) (i:Nat):List Int:=w.getD i []
theorem Ziz {w:List (List Int)} {i:Nat} (h:i < w.length):at_ w i=w[i]:=by simp [at_,ZDo,h]
theorem Zbg {w:List (List Int)} {i:Nat} (h:i < w.length):at_ w i∈w:=by rw [Ziz h]; exact List.getElem_mem h
theorem Zob {w:List (List Int)} {a:List Int} (h:a∈w):∃ i,i < w.length∧at_ w i=a:=by
  obtain ⟨i,hi,e⟩:=ZDm h
  exact⟨i,hi,by rw [Ziz hi,e]⟩
theorem Zga {w:List (List Int)} {d:Nat} (hd:d < w.length) (x:List Int) (i:Nat):at_ (w.set d x) i=if i=d then x else at_ w i:=by
  unfold at_
  simp only [ZDo]
  by_cases e:i=d
  · subst e; rw [if_pos rfl,List.getElem?_set_self hd]; rfl
  · rw [if_neg e,List.getElem?_set_ne (fun z=>e z.symm)]
theorem Zi0 {w:List (List Int)} {d i:Nat} (h:i < d):at_ (w.take d) i=at_ w i:=by
  unfold at_; simp only [ZDo]; rw [List.getElem?_take,if_pos h]
theorem Zoc {a b:List (List Int)} (h1:∀ i,i < a.length→Sp (gens b) (vec (at_ a i))) (h2:∀ i,i < b.length→Sp (gens a) (vec (at_ b i))):SpEq a b :=
  Zn9 (fun x hx=>by obtain ⟨i,hi,rfl⟩:=Zob hx; exact h1 i hi) (fun x hx=>by obtain ⟨i,hi,rfl⟩:=Zob hx; exact h2 i hi)
structure Inv (n:Nat) (rows work:List (List Int)) (d c:Nat):Prop where
  ok:∀ i,i < work.length→RowOk n (at_ work i)
  sp:SpEq rows work
  dl:d≤work.length
  piv:∀ i,i < d→ld (at_ work i) < c∧vec (at_ work i) (ld (at_ work i))=1
  clr:∀ i j,i < d→j < work.length→i≠j→vec (at_ work j) (ld (at_ work i))=0
  inc:∀ i j,i < j→j < d→ld (at_ work i) < ld (at_ work j)
  rest:∀ i q,d≤i→i < work.length→q < c→vec (at_ work i) q=0
theorem Inv.start {n:Nat} {rows:List (List Int)} (h:∀ a,a∈rows→RowOk n a):Inv n rows rows 0 0 :=
  ⟨fun i hi=>h _ (Zbg hi),SpEq.refl _,Nat.zero_le _,fun i hi=>absurd hi (by omega),fun i j hi=>absurd hi (by omega),fun i j _ hj=>absurd hj (by omega),fun i q _ _ hq=>absurd hq (by omega)⟩
theorem Inv.skip {n:Nat} {rows work:List (List Int)} {d c:Nat} (h:Inv n rows work d c) (hz:∀ i,d≤i→i < work.length→vec (at_ work i) c=0):Inv n rows work d (c+1) :=
  ⟨h.ok,h.sp,h.dl,fun i hi=>⟨Nat.lt_succ_of_lt (h.piv i hi).1,(h.piv i hi).2⟩,h.clr,h.inc,fun i q h1 h2 hq=>by
    rcases ZEa q c with g | g
    · exact h.rest i q h1 h2 g
    · obtain rfl:q=c:=by omega
      exact hz i h1 h2⟩
def Zay (l:List (List Int)) (i j:Nat):List (List Int):=(l.set i (at_ l j)).set j (at_ l i)
theorem Zlg {l:List (List Int)} {d p:Nat} (hd:d < l.length) (hp:p < l.length) (i:Nat):at_ (Zay l d p) i=if i=p then at_ l d else if i=d then at_ l p else at_ l i:=by
  unfold Zay
  rw [Zga (by simpa using hp)]
  split
  · rfl
  · rw [Zga hd]
theorem Zi1 {l:List (List Int)} {d p:Nat}:(Zay l d p).length=l.length:=by simp [Zay]
structure Swept (d c:Nat) (w w3:List (List Int)):Prop where
  len:w3.length=w.length
  row:∀ j,j < w.length→at_ w3 j=if j=d then at_ w d else subR (vec (at_ w j) c) (at_ w j) (at_ w d)
theorem Inv.step {n : Nat} {rows work w3 : List (List Int)} {d c p : Nat} {by_ : Int} (h : Inv n rows work d c) (hdp : d ≤ p) (hp : p < work.length)
    (hby:vec (at_ work p) c * by_ % 10007=1) (hs:Swept d c ((Zay work d p).set d (Xs by_ (at_ (Zay work d p) d))) w3):Inv n rows w3 (d+1) (c+1):=by
  have hd:d < work.length:=by omega
  have hd1:d < (Zay work d p).length:=by rw [Zi1]; exact hd
  generalize hw2:(Zay work d p).set d (Xs by_ (at_ (Zay work d p) d))=w2 at hs
  have l2:w2.length=work.length:=by rw [← hw2,ZEk,Zi1]
  have l3:w3.length=work.length:=by rw [hs.len,l2]
  have e1:at_ (Zay work d p) d=at_ work p:=by
    rw [Zlg hd hp]
    by_cases q:d=p
    · subst q; rw [if_pos rfl]
    · rw [if_neg q,if_pos rfl]
  have a2:∀ i,at_ w2 i=if i=d then Xs by_ (at_ work p) else if i=p then at_ work d else at_ work i:=fun i=>by
    rw [← hw2,Zga hd1,e1,Zlg hd hp]
    by_cases q:i=d
    · rw [if_pos q,if_pos q]
    · rw [if_neg q,if_neg q]
      by_cases q2:i=p
      · rw [if_pos q2,if_neg q]
      · rw [if_neg q2,if_neg q]
  have hr:at_ w2 d=Xs by_ (at_ work p):=by rw [a2,if_pos rfl]
  have rok:RowOk n (at_ w2 d):=by rw [hr]; exact Zf9 (h.ok p hp)
  have rc:vec (at_ w2 d) c=1:=by rw [hr,Zbt,hby]
  have rl:∀ q,q < c→vec (at_ w2 d) q=0:=fun q hq=>by rw [hr,Zbt,h.rest p q hdp hp hq]; simp
  have rld:ld (at_ w2 d)=c:=Zf8 rl (by rw [rc]; decide)
  have ok2:∀ i,i < work.length→RowOk n (at_ w2 i):=fun i hi=>by
    rw [a2]; split
    · exact Zf9 (h.ok p hp)
    · split
      · exact h.ok d hd
      · exact h.ok i hi
  have a3:∀ j,j < work.length→at_ w3 j=if j=d then at_ w2 d else subR (vec (at_ w2 j) c) (at_ w2 j) (at_ w2 d):=fun j hj=>hs.row j (by omega)
  have a3d:at_ w3 d=at_ w2 d:=by rw [a3 d hd,if_pos rfl]
  have a3n:∀ j,j < work.length→j≠d→at_ w3 j=subR (vec (at_ w2 j) c) (at_ w2 j) (at_ w2 d):=fun j hj hn=>by rw [a3 j hj,if_neg hn]
  have len2:∀ j,j < work.length→(at_ w2 j).length=(at_ w2 d).length:=fun j hj=>(ok2 j hj).len.trans rok.len.symm
  -- a row at which the row d has nothing keeps its number
  have keep:∀ j q,j < work.length→j≠d→vec (at_ w2 d) q=0→vec (at_ w3 j) q=vec (at_ w2 j) q:=fun j q hj hn hq=>by
    rw [a3n j hj hn,Zbf (len2 j hj),hq,Int.mul_zero,Int.sub_zero,(ok2 j hj).mod]
  have atc:∀ j,j < work.length→j≠d→vec (at_ w3 j) c=0:=fun j hj hn=>by rw [a3n j hj hn,Zbf (len2 j hj),rc]; simp
  have low2:∀ i,i < d→at_ w2 i=at_ work i:=fun i hi=>by rw [a2,if_neg (by omega),if_neg (by omega)]
  have el:∀ i,i < d→Elim n (at_ w2 d) (at_ work i) (at_ w3 i):=fun i hi=>by
    have hi':i < work.length:=by omega
    have hpv:=h.piv i hi
    have:=elim rok (by rw [rld,rc]) (h.ok i hi') hpv.2 (rl _ hpv.1)
    rw [rld] at this
    rw [a3n i hi' (by omega),low2 i hi]; exact this
  have ldi:∀ i,i < d→ld (at_ w3 i)=ld (at_ work i):=fun i hi=>(el i hi).ldq
  refine⟨fun i hi=>?_,h.sp.trans ?_,by omega,fun i hi=>?_,fun i j hi hj hij=>?_,fun i j hij hj=>?_,fun i q hi hil hq=>?_⟩
  · rw [l3] at hi
    rw [a3 i hi]; split
    · exact rok
    · exact Ziy (ok2 i hi) rok
  · have s1 : SpEq work w2 := by
      refine Zoc (fun i hi=>?_) (fun i hi=>?_)
      · have back:Sp (gens w2) (vec (at_ work p)):=by
          refine Sp.sum (vec (at_ work p) c) (Sp.nil _) (Jv (Zbg (w:=w2) (i:=d) (by omega))) fun j=>?_
          rw [hr,Zbt,ZN0,ZTm,Z39,← ZTm]
          have:vec (at_ work p) c * (vec (at_ work p) j * by_)=vec (at_ work p) j * (vec (at_ work p) c * by_):=by
            rw [← Z38,Z34 (vec (at_ work p) c),Z38]
          rw [this,ZTm,hby]; simp
        by_cases q:i=p
        · rw [q]; exact back
        · by_cases q2:i=d
          · have:at_ work i=at_ w2 p:=by rw [a2,if_neg (by omega),if_pos rfl,q2]
            rw [this]; exact Jv (Zbg (by omega))
          · have:at_ work i=at_ w2 i:=by rw [a2,if_neg q2,if_neg q]
            rw [this]; exact Jv (Zbg (by omega))
      · rw [l2] at hi
        rw [a2]; split
        · refine Sp.sum by_ (Sp.nil _) (Jv (Zbg hp)) fun j=>?_
          rw [Zbt,Z39,ZN0,Z34]
        · split
          · exact Jv (Zbg hd)
          · exact Jv (Zbg hi)
    have s2:SpEq w2 w3:=by
      have g3:Sp (gens w3) (vec (at_ w2 d)):=by rw [← a3d]; exact Jv (Zbg (by omega))
      have g2:Sp (gens w2) (vec (at_ w2 d)):=Jv (Zbg (by omega))
      refine Zoc (fun i hi=>?_) (fun i hi=>?_)
      · rw [l2] at hi
        by_cases q:i=d
        · rw [q]; exact g3
        · refine Zr6 (k:=vec (at_ w2 i) c) (len2 i hi) ?_ g3
          rw [← a3n i hi q]; exact Jv (Zbg (by omega))
      · rw [l3] at hi
        by_cases q:i=d
        · rw [q,a3d]; exact g2
        · rw [a3n i hi q]
          exact Zr5 (len2 i hi) (Jv (Zbg (by omega))) g2
    exact s1.trans s2
  · by_cases q:i=d
    · rw [q,a3d,rld]; exact⟨by omega,rc⟩
    · have hi':i < d:=by omega
      rw [ldi i hi']
      exact⟨Nat.lt_succ_of_lt (h.piv i hi').1,(el i hi').one⟩
  · rw [l3] at hj
    by_cases q:i=d
    · subst q; rw [a3d,rld]; exact atc j hj (fun z=>hij z.symm)
    · have hi':i < d:=by omega
      rw [ldi i hi']
      have hpv:=h.piv i hi'
      by_cases qj:j=d
      · rw [qj,a3d]; exact rl _ hpv.1
      · rw [keep j _ hj qj (rl _ hpv.1),a2,if_neg qj]
        split
        · exact h.clr i d hi' hd (by omega)
        · exact h.clr i j hi' hj hij
  · by_cases q:j=d
    · have hi':i < d:=by omega
      rw [q,a3d,rld,ldi i hi']; exact(h.piv i hi').1
    · rw [ldi i (by omega),ldi j (by omega)]; exact h.inc i j hij (by omega)
  · rw [l3] at hil
    have qd:i≠d:=by omega
    by_cases qc:q=c
    · rw [qc]; exact atc i hil qd
    · rw [keep i q hil qd (rl q (by omega)),a2,if_neg qd]
      split
      · exact h.rest d q (ZC6 _) hd (by omega)
      · exact h.rest i q (by omega) hil (by omega)
theorem Inv.fin {n : Nat} {rows work : List (List Int)} {d c : Nat} (h : Inv n rows work d c) (he : d = work.length ∨ n ≤ c) : IsRref n rows (work.take d) := by
  have hd:=h.dl
  have lt:(work.take d).length=d:=by rw [ZTl]; omega
  refine⟨⟨fun a ha=>?_,?_⟩,h.sp.trans (Zoc (fun i hi=>?_) (fun i hi=>?_))⟩
  · obtain ⟨i,hi,rfl⟩:=Zob ha
    rw [Zi0 (by omega)]
    exact⟨h.ok i (by omega),(h.piv i (by omega)).2⟩
  · rw [ZDe]
    intro i j hi hj hij
    rw [← Ziz hi,← Ziz hj,Zi0 (by omega),Zi0 (by omega)]
    exact⟨h.inc i j hij (by omega),h.clr j i (by omega) (by omega) (by omega)⟩
  · by_cases q:i < d
    · rw [← Zi0 q]; exact Jv (Zbg (by omega))
    · refine .zero fun j=>?_
      rcases he with e | e
      · omega
      · rcases ZEa j n with g | g
        · rw [h.rest i j (by omega) hi (by omega)]; rfl
        · rw [Zae (by rw [(h.ok i hi).len]; exact g)]; rfl
  · rw [Zi0 (by omega)]; exact Jv (Zbg (by omega))
theorem Rref.split_at {n : Nat} {out : List (List Int)} (h : Rref n out) (k : Nat) : ∃ l1 l2, out = l1 ++ l2 ∧ (∀ z, z ∈ l1 → ld z < k) ∧ ∀ z, z ∈ l2 → k ≤ ld z := by
  have hp:=h.pw
  clear h
  induction out with
  | nil=>exact⟨[],[],rfl,by simp,by simp⟩
  | cons x l ih =>
    obtain ⟨p1,p2⟩:=ZDt.1 hp
    by_cases q:ld x < k
    · obtain ⟨l1,l2,e,h1,h2⟩:=ih p2
      exact⟨x::l1,l2,by rw [e]; rfl,fun z hz=>by
        rcases ZC3.1 hz with rfl | hz
        · exact q
        · exact h1 z hz,h2⟩
    · exact⟨[],x::l,rfl,by simp,fun z hz=>by
        rcases ZC3.1 hz with rfl | hz
        · omega
        · have:=(p1 z hz).1; omega⟩
structure IsBy (n:Nat) (out:List (List Int)) (row r:List Int):Prop where
  ok:RowOk n r
  clr:∀ z,z∈out→vec r (ld z)=0
  df:Sp (gens out) (fun j=>vec row j - vec r j)
theorem IsBy.nil {n:Nat} {row:List Int} (h:RowOk n row):IsBy n [] row row:=⟨h,by simp,.zero fun j=>by simp⟩
theorem IsBy.step {n:Nat} {l1 l2:List (List Int)} {z row r:List Int} (hR:Rref n (l1++z::l2)) (h:IsBy n l1 row r):IsBy n (l1++[z]) row (subR (vec r (ld z)) r z):=by
  have hz:=hR.ok z (by simp)
  have hl:=h.ok.len.trans hz.1.len.symm
  obtain ⟨_,_,p3⟩:=ZP2.1 hR.pw
  refine⟨Ziy h.ok hz.1,fun y hy=>?_,Sp.sum (vec r (ld z)) (h.df.mono fun v ⟨x,hx,e⟩=>.gen ⟨x,by simp [hx],e⟩) (Jv (a:=z) (by simp)) fun j=>?_⟩
  · rw [Zbf hl]
    rcases ZDd.1 hy with hy | hy
    · rw [h.clr y hy,Zax (p3 y hy z (by simp)).1]; simp
    · obtain rfl:=ZEf.1 hy
      rw [hz.2]; simp
  · rw [Zbf hl]
    generalize vec r (ld z) * vec z j=x
    omega
theorem IsBy.same {n:Nat} {l1 l2:List (List Int)} {z row r:List Int} (hR:Rref n (l1++z::l2)) (h:IsBy n l1 row r) (h0:vec r (ld z)=0):IsBy n (l1++[z]) row r:=by
  have:=h.step hR
  rwa [h0,Zlf h.ok (hR.ok z (by simp)).1] at this
theorem IsBy.unique {n:Nat} {out:List (List Int)} {row a b:List Int} (hR:Rref n out) (ha:IsBy n out row a) (hb:IsBy n out row b):a=b:=by
  refine ha.ok.ext hb.ok fun j=>?_
  refine Z4t fun nj=>?_
  have hd:Sp (gens out) (fun j=>vec a j - vec b j):=Sp.sum (-1) hb.df ha.df fun j=>by congr 1; omega
  have nj':(vec a j - vec b j) % 10007≠0:=by omega
  obtain ⟨q,h1,h2⟩:=Zr4 (p:=fun j=>(vec a j - vec b j) % 10007≠0) nj'
  obtain ⟨y,hy,ey⟩:=hR.leads hd (q:=q) (fun j hj=>ZPw.1 (h2 j hj)) h1
  refine h1 ?_
  rw [← ey,ha.clr y hy,hb.clr y hy]; rfl
theorem IsRref.zero (n:Nat):IsRref n [] []:=⟨Rref.nil n,SpEq.refl _⟩
theorem Zod {S:Vec→Prop} {a b:Vec} (hd:Sp S (fun j=>a j - b j)):Sp S a↔Sp S b :=
  ⟨fun h=>Sp.sum (-1) h hd fun j=>by congr 1; omega,fun h=>Sp.sum 1 h hd fun j=>by congr 1; omega⟩
theorem IsRref.put0 {n:Nat} {rows out:List (List Int)} {row r:List Int} (h:IsRref n rows out) (hb:IsBy n out row r) (h0:∀ j,vec r j=0):IsRref n (rows++[row]) out:=by
  refine⟨h.red,Zn9 (fun x hx=>?_) (fun x hx=>?_)⟩
  · rcases ZDd.1 hx with hx | hx
    · exact(h.sp _).1 (Jv hx)
    · obtain rfl:=ZEf.1 hx
      exact(Zod hb.df).2 (.zero fun j=>by rw [h0]; rfl)
  · exact((h.sp _).2 (Jv hx)).mono fun v ⟨y,hy,e⟩=>.gen ⟨y,by simp [hy],e⟩
theorem IsRref.put {n : Nat} {rows l1 l2 : List (List Int)} {row r : List Int} {k : Int} (h : IsRref n rows (l1 ++ l2)) (hb : IsBy n (l1 ++ l2) row r) (hk : vec r (ld r) * k % 10007 = 1) (h1 : ∀ z, z ∈ l1 → ld z < ld r) (h2 : ∀ z, z ∈ l2 → ld r ≤ ld z) :
    IsRref n (rows++[row]) (l1.map (fun z=>subR (vec z (ld r)) z (Xs k r))++Xs k r::l2.map (fun z=>subR (vec z (ld r)) z (Xs k r))):=by
  have rok:RowOk n (Xs k r):=Zf9 hb.ok
  have r1:vec (Xs k r) (ld r)=1:=by rw [Zbt,hk]
  have rl:ld (Xs k r)=ld r:=Zf8 (fun q hq=>by rw [Zbt,Zax hq]; simp) (by rw [r1]; decide)
  have rz:∀ z,z∈l1++l2→vec (Xs k r) (ld z)=0:=fun z hz=>by rw [Zbt,hb.clr z hz]; simp
  have n0:vec r (ld r)≠0:=fun z=>by rw [z] at hk; simp at hk
  have ins:=h.red.insert rok (by rw [rl]; exact r1) rz (fun z hz=>by rw [rl]; exact h1 z hz) (fun z hz=>by
    rw [rl]
    have:=h2 z hz
    have:=hb.clr z (ZDs _ hz)
    rcases ZEa (ld r) (ld z) with g | g
    · exact g
    · rw [show ld z=ld r by omega] at this; exact absurd this n0)
  rw [rl] at ins
  refine⟨ins,Zn9 (fun x hx=>?_) (fun x hx=>?_)⟩
  · generalize hT:l1.map (fun z=>subR (vec z (ld r)) z (Xs k r))++Xs k r::l2.map (fun z=>subR (vec z (ld r)) z (Xs k r))=T at *
    have gr:Sp (gens T) (vec (Xs k r)):=Jv (by rw [← hT]; simp)
    have gz:∀ z,z∈l1++l2→Sp (gens T) (vec z):=fun z hz=>by
      refine Zr6 (k:=vec z (ld r)) ((h.red.ok z hz).1.len.trans rok.len.symm) (Jv ?_) gr
      rw [← hT]
      rcases ZDd.1 hz with q | q
      · exact ZDr _ (ZEh.2 ⟨z,q,rfl⟩)
      · exact ZDs _ (ZTc _ (ZEh.2 ⟨z,q,rfl⟩))
    have up:∀ {v}, Sp (gens (l1++l2)) v→Sp (gens T) v:=fun q=>q.mono fun v ⟨y,hy,e⟩=>e ▸ gz y hy
    rcases ZDd.1 hx with hx | hx
    · exact up ((h.sp _).1 (Jv hx))
    · obtain rfl:=ZEf.1 hx
      refine(Zod (up hb.df)).2 (Sp.sum (vec r (ld r)) (Sp.nil _) gr fun j=>?_)
      rw [Zbt,ZN0,ZTm,Z39,← ZTm]
      have:vec r (ld r) * (vec r j * k)=vec r j * (vec r (ld r) * k):=by
        rw [← Z38,Z34 (vec r (ld r)),Z38]
      rw [this,ZTm,hk]; simp
  · generalize hR:rows++[row]=R
    have up:∀ {v}, Sp (gens rows) v→Sp (gens R) v:=fun q=>q.mono fun v ⟨y,hy,e⟩=>.gen ⟨y,by rw [← hR]; simp [hy],e⟩
    have gz:∀ z,z∈l1++l2→Sp (gens R) (vec z):=fun z hz=>up ((h.sp _).2 (Jv hz))
    have grow:Sp (gens R) (vec r):=by
      refine(Zod (hb.df.mono fun v ⟨y,hy,e⟩=>e ▸ gz y hy)).1 (Jv (by rw [← hR]; simp))
    have gr:Sp (gens R) (vec (Xs k r)):=Sp.sum k (Sp.nil _) grow fun j=>by rw [Zbt,Z39,ZN0,Z34]
    have fin:∀ z,z∈l1++l2→Sp (gens R) (vec (subR (vec z (ld r)) z (Xs k r))):=fun z hz=>Zr5 ((h.red.ok z hz).1.len.trans rok.len.symm) (gz z hz) gr
    rcases ZDd.1 hx with q | q
    · obtain ⟨z,hz,rfl⟩:=ZEh.1 q; exact fin z (ZDr _ hz)
    · rcases ZC3.1 q with rfl | q
      · exact gr
      · obtain ⟨z,hz,rfl⟩:=ZEh.1 q; exact fin z (ZDs _ hz)
end Vc
namespace Go.Proofs.YtaagfepgbofmlaaGreat
open Go Vc
def goN:Nat→Nat→Nat→Nat→Nat
  | 0,_,o,_=>o
  | f+1,x,o,k=>if k=0 then o else goN f (x * x % 10007) (if k % 2=1 then o * x % 10007 else o) (k / 2)
def Zb8 (x:Nat):Nat:=goN 14 x 1 10005
def chk (a:Nat):Bool:=(List.range 101).all fun b=>(101 * a+b == 0) || Nat.blt 10006 (101 * a+b) || (101 * a+b) * Zb8 (101 * a+b) % 10007 == 1
theorem ZBg:(List.range 100).all chk=true:=by decide +kernel
theorem ZBh {x:Nat} (h1:1≤x) (h2:x≤10006):x * Zb8 x % 10007=1:=by
  have h:=List.all_eq_true.1 ZBg (x / 101) (ZEr.2 (by omega))
  have h':=List.all_eq_true.1 h (x % 101) (ZEr.2 (by omega))
  have e:101 * (x / 101)+x % 101=x:=Nat.div_add_mod x 101
  rw [e] at h'
  simp only [Bool.or_eq_true,beq_iff_eq] at h'
  rcases h' with (q | q) | q
  · omega
  · rw [Nat.blt_eq] at q; omega
  · exact q
theorem ZBi (f x o:Nat):goN f x o 0=o:=by
  cases f with
  | zero=>rfl
  | succ f=>rw [goN,if_pos rfl]
theorem ZBj {f x o k:Nat} (hk:k≠0):goN (f+1) x o k=goN f (x * x % 10007) (if k % 2=1 then o * x % 10007 else o) (k / 2):=by
  rw [goN,if_neg hk]
theorem ZBk:∀ (f x o k:Nat),o≤10006→goN f x o k≤10006:=by
  intro f
  induction f with
  | zero=>intro x o k h; exact h
  | succ f ih =>
    intro x o k h
    rw [goN]
    split
    · exact h
    · refine ih _ _ _ ?_
      split
      · omega
      · exact h
theorem Zr7 (x:Nat):Zb8 x≤10006:=ZBk _ _ _ _ (by omega)
theorem ZBl {a b:Nat} (ha:a≤10006) (hb:b≤10006):a * b≤100120036:=Nat.mul_le_mul ha hb
theorem Zr8 {a b:Nat} (ha:a≤10006) (hb:b≤10006):ZDy (ZFm.wrap ((a:Int) * (b:Int))) 10007=((a * b % 10007:Nat):Int):=by
  have h:=ZBl ha hb
  rw [show (a:Int) * (b:Int)=((a * b:Nat):Int) by simp,i64_in _ (by omega),ZOb (by omega)]
  rfl
def InvSt (x:Nat) (X O k:Int):Prop:=∃ (f x' o' k':Nat),X=x'∧O=o'∧k=k'∧x'≤10006∧o'≤10006∧(k' < 2 ^ f∧k'≤10005)∧goN f x' o' k'=Zb8 x
theorem InvSt.start {x:Nat} (hx:x≤10006):InvSt x x 1 10005:=⟨14,x,1,10005,rfl,rfl,rfl,hx,by omega,⟨by decide,by omega⟩,rfl⟩
theorem InvSt.step {x:Nat} {X O k:Int} (h:InvSt x X O k) (hk:k > 0) :
    InvSt x (ZDy (ZFm.wrap (X * X)) 10007) (if ZDy k 2=1 then ZDy (ZFm.wrap (O * X)) 10007 else O) (ZFm.wrap (Int.tdiv k 2))∧(ZFm.wrap (Int.tdiv k 2)).toNat < k.toNat:=by
  obtain ⟨f,x',o',k',rfl,rfl,rfl,h1,h2,⟨h3,h5⟩,h4⟩:=h
  have hk0:k'≠0:=by omega
  cases f with
  | zero=>simp at h3; omega
  | succ f =>
    rw [ZBj hk0] at h4
    have e1:Int.tdiv (k':Int) 2=((k' / 2:Nat):Int):=by rw [Z4m (by omega)]; rfl
    have e2:(ZDy (k':Int) 2=1)↔k' % 2=1:=by rw [ZOb (by omega)]; omega
    rw [e1,Zr8 h1 h1,i64_in ((k' / 2:Nat):Int) (by omega)]
    refine⟨⟨f,_,if k' % 2=1 then o' * x' % 10007 else o',k' / 2,rfl,?_,rfl,by omega,?_,⟨?_,by omega⟩,h4⟩,by omega⟩
    · by_cases q:k' % 2=1
      · rw [if_pos q,if_pos (e2.2 q),Zr8 h2 h1]
      · rw [if_neg q,if_neg (fun z=>q (e2.1 z))]
    · split <;> omega
    · rw [Nat.pow_succ] at h3; omega
theorem InvSt.done {x:Nat} {X O k:Int} (h:InvSt x X O k) (hk:¬ k > 0):O=Zb8 x:=by
  obtain ⟨f,x',o',k',rfl,rfl,rfl,h1,h2,⟨h3,h5⟩,h4⟩:=h
  obtain rfl:k'=0:=by omega
  rw [ZBi] at h4; rw [h4]
theorem ZBm {x:Nat} (hx:x≤10006) {K:Int→Prop} (h:K (Zb8 x)):Zip (x:Int) K:=by
  unfold Zip
  refine Js (fun (s:Int×Int×Int)=>InvSt x s.1 s.2.1 s.2.2) (fun s=>s.2.2.toNat) ?_ (InvSt.start hx)
  rintro ⟨X,O,k⟩ next g hn
  dsimp only at g hn ⊢
  by_cases hk:k > 0
  · refine Yx hk ?_
    obtain ⟨g1,g2⟩:=g.step hk
    by_cases q:ZDy k 2=1
    · rw [if_pos q] at g1
      exact Yx q (hn _ g1 g2)
    · rw [if_neg q] at g1
      exact Yz q (hn _ g1 g2)
  · refine Yz hk ?_
    rw [g.done hk]; exact h
theorem ZBn {x:Nat} (hx:x≤10006) {K:Int→Prop} (h:K (Zb8 x)):Zey (x:Int) K:=by
  unfold Zey
  refine Js (fun (s:Int×Int×Int)=>InvSt x s.2.1 s.1 s.2.2) (fun s=>s.2.2.toNat) ?_ (InvSt.start hx)
  rintro ⟨O,X,k⟩ next g hn
  dsimp only at g hn ⊢
  by_cases hk:k > 0
  · refine Yx hk ?_
    obtain ⟨g1,g2⟩:=g.step hk
    by_cases q:ZDy k 2=1
    · rw [if_pos q] at g1
      exact Yx q (hn _ g1 g2)
    · rw [if_neg q] at g1
      exact Yz q (hn _ g1 g2)
  · refine Yz hk ?_
    rw [g.done hk]; exact h
end Go.Proofs.YtaagfepgbofmlaaGreat
namespace Go.Proofs.YtaagfepgbofmlaaGreat
open Go Vc
def Zaz (n:Nat) (rows:List (List Int)):Prop:=∀ a,a∈rows→RowOk n a
theorem Zbu (a:List Int) (j:Nat):a.getD j ZC7=vec a j:=rfl
theorem Zgb (w:List (List Int)) (i:Nat):w.getD i ZC7=at_ w i:=rfl
theorem RowOk.fit {n:Nat} {a:List Int} (h:RowOk n a) (j:Nat):0≤a.getD j ZC7∧a.getD j ZC7≤10006:=h.rng j
theorem Zoe {a b:Int} (ha:0≤a∧a≤10006) (hb:0≤b∧b≤10006):0≤a * b∧a * b≤100120036:=⟨ZT6 ha.1 hb.1,Int.mul_le_mul ha.2 hb.2 hb.1 (by omega)⟩
theorem Zi2 {a:List Int} {i:Nat} (hi:i < a.length) (x:Int) (j:Nat):vec (a.set i x) j=if j=i then x else vec a j:=by
  unfold vec
  simp only [ZDo]
  by_cases e:j=i
  · subst e; rw [if_pos rfl,List.getElem?_set_self hi]; rfl
  · rw [if_neg e,List.getElem?_set_ne (fun z=>e z.symm)]
theorem Zof {n:Nat} {a b r:List Int} (hl:r.length=n) (hb:b.length=n) (h:∀ j,j < n→vec r j=vec b j):r=b :=
  Zle (hl.trans hb.symm) fun j=>by
    by_cases q:j < n
    · exact h j q
    · rw [Zae (by omega),Zae (by omega)]
theorem ZBo {a:List Int} {K:List Int→Prop} (hl:a.length≤1000000) (h:K a):Zk1 a K :=
  ⟨fun e=>e ▸ h,by unfold Zy; omega,h⟩
theorem ZBp {n:Nat} {a b:List Int} {k:Int} {K:List Int→Prop} (ha:RowOk n a) (hb:RowOk n b) (hk:0≤k∧k≤10006) (h:K (subR k a b)):Zio a b k K:=by
  unfold Zio
  have hl:=ha.len.trans hb.len.symm
  refine Yu (fun i (s:List Int)=>s.length=n∧∀ j,vec s j=if j < i then(vec a j - k * vec b j) % 10007 else vec a j) b.length ?_ ?_ _ _ _ (by omega) ⟨ha.len,fun j=>by rw [if_neg (by omega)]⟩
  · rintro i s next hi ⟨g1,g2⟩ hn
    have hi':i < n:=by rw [← hb.len]; exact hi
    have e1:s.getD i ZC7=vec a i:=by rw [Zbu,g2,if_neg (by omega)]
    have pb:=Zoe hk (hb.rng i)
    have ra:=ha.rng i
    rw [e1,Zbu b i,i64_in (k * vec b i) (by omega),ZOb pb.1,i64_in _ (by omega)]
    refine⟨by omega,Zm1 ⟨by omega,hn _ ⟨by rw [ZEk]; exact g1,fun j=>?_⟩⟩⟩
    rw [Zi2 (by omega),g2]
    by_cases e:j=i
    · subst e; rw [if_pos rfl,if_pos (by omega)]; omega
    · rw [if_neg e]
      by_cases c:j < i
      · rw [if_pos c,if_pos (by omega)]
      · rw [if_neg c,if_neg (by omega)]
  · rintro s ⟨g1,g2⟩
    have:s=subR k a b:=Zof (a:=a) g1 (by rw [Zix hl,ha.len]) fun j hj=>by rw [g2,if_pos (by rw [hb.len]; exact hj),Zbf hl]
    rw [this]; exact h
theorem Zog {n:Nat} {a b:List Int} {k:Int} {K:List Int→Prop} (ha:RowOk n a) (hb:RowOk n b) (hn1:n≤1000000) (hk:0≤k∧k≤10006) (h:K (subR k a b)):Jl a b k K:=by
  unfold Jl
  have hl:=ha.len.trans hb.len.symm
  have hla:=ha.len
  refine⟨by omega,?_⟩
  rw [Z33]
  refine Yu (fun i (s:List Int)=>s.length=n∧∀ j,j < i→vec s j=(vec a j - k * vec b j) % 10007) a.length ?_ ?_ _ _ _ (by omega) ⟨by simp [hla],fun j hj=>by omega⟩
  · rintro i s next hi ⟨g1,g2⟩ hn
    have pb:=Zoe hk (hb.rng i)
    have ra:=ha.rng i
    rw [Zbu a i,Zbu b i,i64_in (k * vec b i) (by omega),i64_in _ (by omega)]
    refine⟨by omega,Zdd ⟨by omega,hn _ ⟨by rw [ZEk]; exact g1,fun j hj=>?_⟩⟩⟩
    rw [Zi2 (by omega)]
    by_cases e:j=i
    · subst e; rw [if_pos rfl]
    · rw [if_neg e]; exact g2 j (by omega)
  · rintro s ⟨g1,g2⟩
    have:s=subR k a b:=Zof (a:=a) g1 (by rw [Zix hl,ha.len]) fun j hj=>by rw [g2 j (by omega),Zbf hl]
    rw [this]; exact h
theorem Zr9 {a:List Int} {K:Int→Prop} (hl:a.length≤1000000) (h1:ld a < a.length→K (ld a)) (h0:(∀ j,vec a j=0)→K (-1)):Zbe a K:=by
  unfold Zbe
  refine Yu (fun i (s:Unit)=>∀ j,j < i→vec a j=0) a.length ?_ ?_ _ _ _ (by omega) (fun j hj=>by omega)
  · intro i s next hi g hn
    rw [Zbu]
    by_cases q:vec a i≠0
    · refine Yx q ?_
      have e:=Zf8 (fun j hj=>g j hj) q
      have:=h1 (by rw [e]; exact hi)
      rwa [e] at this
    · refine Yz q (hn _ fun j hj=>?_)
      by_cases e:j=i
      · subst e; exact ZPw.1 q
      · exact g j (by omega)
  · intro s g
    exact h0 fun j=>by
      by_cases q:j < a.length
      · exact g j q
      · exact Zae (by omega)
theorem Zoh {n:Nat} {a:List Int} {K:Int→Prop} (hn:n≤1000000) (ha:RowOk n a∧vec a (ld a)=1) (h:K (ld a)):Zbe a K :=
  Zr9 (by rw [ha.1.len]; exact hn) (fun _=>h) fun z=>by have:=z (ld a); rw [ha.2] at this; exact absurd this (by decide)
theorem ZBq {n:Nat} {row:List Int} {out:List (List Int)} {K:List Int→Prop} (hR:Rref n out) (hn:n≤1000000) (ho:out.length≤1000000) (hr:RowOk n row) (h:∀ r,IsBy n out row r→K r):Zih row out K:=by
  unfold Zih
  refine Yu (fun i (s:List Int)=>IsBy n (out.take i) row s) out.length ?_ ?_ _ _ _ (by omega) (by simpa using IsBy.nil hr)
  · intro i s next hi g hn'
    have hm:=Xa (l:=out) hi
    have hz:=hR.ok _ hm
    have hlz:=Zoa hz
    refine Zoh hn hz ⟨⟨by omega,by rw [g.ok.len]; omega⟩,?_⟩
    rw [Z33,Zbu s]
    have hsp:out.take i++out.getD i ZC7::out.drop (i+1)=out:=by
      rw [show out.getD i ZC7=out[i] by simp [ZDo,hi],List.getElem_cons_drop hi,ZG2]
    have hR':Rref n (out.take i++out.getD i ZC7::out.drop (i+1)):=by rw [hsp]; exact hR
    by_cases q:vec s (ld (out.getD i ZC7))≠0
    · refine Yx q ⟨⟨by omega,by rw [g.ok.len]; omega⟩,Zog g.ok hz.1 hn (g.ok.rng _) (hn' _ ?_)⟩
      rw [Xv hi]; exact g.step hR'
    · refine Yz q (hn' _ ?_)
      rw [Xv hi]; exact g.same hR' (ZPw.1 q)
  · intro s g
    rw [Z32] at g; exact h s g
theorem Zsa (n:Nat):RowOk n (ZC2 n (0:Int)):=⟨by simp,fun j=>by
  have:vec (ZC2 n (0:Int)) j=0:=by
    by_cases q:j < n
    · rw [Zcw (by simpa using q)]; simp
    · exact Zae (by simp; omega)
  omega⟩
theorem Zlh (n j:Nat):vec (ZC2 n (0:Int)) j=0:=by
  by_cases q:j < n
  · rw [Zcw (by simpa using q)]; simp
  · exact Zae (by simp; omega)
theorem ZBr {n:Nat} {r:List Int} {k:Int} (hr:RowOk n r):subR ((0 - k) % 10007) (ZC2 n (0:Int)) r=Xs k r:=by
  have hl:(ZC2 n (0:Int)).length=r.length:=by simp [hr.len]
  refine(Ziy (Zsa n) hr).ext (Zf9 hr) fun j=>?_
  rw [Zbf hl,Zbt,Zlh]
  have e:((0 - k) % 10007 * vec r j) % 10007=((0 - k) * vec r j) % 10007:=by rw [ZTm,Z39,← ZTm]
  have e2:(0 - k) * vec r j=- (vec r j * k):=by rw [Int.zero_sub,Int.neg_mul,Z34]
  rw [e2] at e
  generalize (0 - k) % 10007 * vec r j=x at *
  generalize vec r j * k=y at *
  omega
theorem Zsb {x:Int} (h:1≤x∧x≤10006):x * ((Zb8 x.toNat:Nat):Int) % 10007=1:=by
  have e:x=((x.toNat:Nat):Int):=by omega
  have:=ZBh (x:=x.toNat) (by omega) (by omega)
  rw [e,Z33]
  rw [← Int.natCast_mul]
  have h7:((x.toNat * Zb8 x.toNat % 10007:Nat):Int)=1:=by rw [this]; rfl
  rw [← h7]; rfl
theorem ZBs {n : Nat} {rows out : List (List Int)} {row : List Int} {K : List (List Int) → Prop} (h : IsRref n rows out) (hn : n ≤ 1000000) (ho : out.length ≤ 1000000) (hr : RowOk n row) (hK : ∀ out', IsRref n (rows ++ [row]) out' → out'.length ≤ out.length + 1 → K out') : Zii out row K := by
  unfold Zii
  refine ZBq h.red hn ho hr fun r hb=>?_
  have hrl:=hb.ok.len
  refine Zr9 (by omega) (fun hlt=>Yz (by omega) ?_) (fun hz=>Yx (by decide) (hK _ (h.put0 hb hz) (by omega)))
  have hnz:=Zlc hlt
  have hrg:=hb.ok.rng (ld r)
  have hrg1:1≤vec r (ld r)∧vec r (ld r)≤10006:=by omega
  have hinv:=Zsb hrg1
  obtain ⟨l1,l2,e,hl1,hl2⟩:=h.red.split_at (ld r)
  generalize hk:((Zb8 (vec r (ld r)).toNat:Nat):Int)=k at hinv
  have hput:=(e ▸ h:IsRref n rows (l1++l2)).put (e ▸ hb:IsBy n (l1++l2) row r) hinv hl1 hl2
  have kb:0≤k∧k≤10006:=by have:=Zr7 (vec r (ld r)).toNat; omega
  have rows_len:∀ z,z∈out→RowOk n z∧vec z (ld z)=1:=fun z hz=>h.red.ok z hz
  have mok:RowOk n (Xs k r):=Zf9 hb.ok
  -- the walk Zof the rows
  have tail : ∀ q : List Int, q = Xs k r → Yc (fun i10 (s10 : (List (List Int)) × Bool) nx10 => (if ¬ (s10.2 = true) then Zbe (out.getD i10 ZC7) (fun r18 => (if r18 > ((ld r : Nat) : Int) then (Zy (s10.1.length + 1) 24 ∧ ((0 ≤ ((ld r : Nat) : Int) ∧ ((ld r : Nat) : Int) < ((out.getD i10 ZC7).length : Int)) ∧ Jl (out.getD i10 ZC7) q ((out.getD i10 ZC7).getD ((ld r : Nat) : Int).toNat ZC7) (fun r12 => (Zy ((s10.1 ++ [q]).length + 1) 24 ∧ nx10 ((s10.1 ++ [q]) ++ [r12], true))))) else ((0 ≤ ((ld r : Nat) : Int) ∧ ((ld r : Nat) : Int) < ((out.getD i10 ZC7).length : Int)) ∧ Jl (out.getD i10 ZC7) q ((out.getD i10 ZC7).getD ((ld r : Nat) : Int).toNat ZC7) (fun r13 => (Zy (s10.1.length + 1) 24 ∧ nx10 (s10.1 ++ [r13], s10.2)))))) else ((0 ≤ ((ld r : Nat) : Int) ∧ ((ld r : Nat) : Int) < ((out.getD i10 ZC7).length : Int)) ∧ Jl (out.getD i10 ZC7) q ((out.getD i10 ZC7).getD ((ld r : Nat) : Int).toNat ZC7) (fun r14 => (Zy (s10.1.length + 1) 24 ∧ nx10 (s10.1 ++ [r14], s10.2)))))) (fun (s10 : (List (List Int)) × Bool) => (if ¬ (s10.2 = true) then (Zy (s10.1.length + 1) 24 ∧ K (s10.1 ++ [q])) else K s10.1)) out.length 0 ([], false) := by
    rintro q rfl
    have lout:out.length=l1.length+l2.length:=by rw [e,ZDh]
    let f:List Int→List Int:=fun z=>subR (vec z (ld r)) z (Xs k r)
    have hput':IsRref n (rows++[row]) (l1.map f++Xs k r::l2.map f):=hput
    refine Yu (fun i (s:List (List Int)×Bool)=>(i≤l1.length∧s=((l1.take i).map f,false))∨(l1.length < i∧s=(l1.map f++Xs k r::(l2.take (i - l1.length)).map f,true))) out.length ?_ ?_ _ _ _ (by omega) (.inl ⟨Nat.zero_le _,by simp⟩)
    · rintro i s next hi hs hn'
      have hm:=Xa (l:=out) hi
      have hz:=rows_len _ hm
      have hlz:=Zoa hz
      have b1:0≤((ld r:Nat):Int)∧((ld r:Nat):Int) < ((out.getD i ZC7).length:Int):=by rw [hz.1.len]; omega
      have less:∀ K':List Int→Prop,K' (f (out.getD i ZC7))→Jl (out.getD i ZC7) (Xs k r) ((out.getD i ZC7).getD ((ld r:Nat):Int).toNat ZC7) K':=fun K' q=>Zog hz.1 mok hn (hz.1.rng _) q
      rcases hs with ⟨hil,rfl⟩ | ⟨hil,rfl⟩
      · dsimp only
        refine Yx (by decide) (Zoh hn hz ?_)
        by_cases c:i < l1.length
        · have eg:out.getD i ZC7=l1.getD i ZC7:=by rw [e]; simp only [ZDo]; rw [List.getElem?_append_left c]
          have hlt1:ld (out.getD i ZC7) < ld r:=hl1 _ (by rw [eg]; exact Xa c)
          refine Yz (by omega) ⟨b1,less _ ⟨by rw [Z31,ZTl]; unfold Zy; omega,hn' _ (.inl ⟨by omega,?_⟩)⟩⟩
          rw [Xv c,ZTf,eg]; rfl
        · obtain rfl:i=l1.length:=by omega
          have c2:0 < l2.length:=by omega
          have eg:out.getD l1.length ZC7=l2.getD 0 ZC7:=by rw [e]; simp only [ZDo]; rw [List.getElem?_append_right (ZC6 _),Nat.sub_self]
          have hge:=hl2 _ (by rw [eg]; exact Xa c2:out.getD l1.length ZC7∈l2)
          have hne:ld (out.getD l1.length ZC7)≠ld r:=fun z=>by
            have:=hb.clr _ hm
            rw [z] at this; exact hnz this
          refine Yx (by omega) ⟨by rw [Z31,ZTl]; unfold Zy; omega,b1,less _ ⟨by rw [ZDh,Z31,ZTl,Z4x]; unfold Zy; omega,hn' _ (.inr ⟨by omega,?_⟩)⟩⟩
          rw [Z32,show l1.length+1 - l1.length=1 by omega,show l2.take 1=[l2.getD 0 ZC7] by
            cases l2 with
            | nil=>simp at c2
            | cons x y=>rfl,eg]
          simp
      · dsimp only
        have c2:i - l1.length < l2.length:=by omega
        have eg:out.getD i ZC7=l2.getD (i - l1.length) ZC7:=by rw [e]; simp only [ZDo]; rw [List.getElem?_append_right (by omega)]
        refine Yz (by decide) ⟨b1,less _ ⟨by rw [ZDh,ZFw,Z31,Z31,ZTl]; unfold Zy; omega,hn' _ (.inr ⟨by omega,?_⟩)⟩⟩
        rw [show i+1 - l1.length=(i - l1.length)+1 by omega,Xv c2,ZTf,eg,List.append_assoc]; rfl
    · rintro s hs
      have fin:K (l1.map f++Xs k r::l2.map f):=hK _ hput' (by rw [ZDh,ZFw,Z31,Z31]; omega)
      rcases hs with ⟨hil,rfl⟩ | ⟨hil,rfl⟩
      · have h0:l2=[]:=ZUt (by omega)
        dsimp only
        refine Yx (by decide) ⟨by rw [Z31,ZTl]; unfold Zy; omega,?_⟩
        rw [ZD5 (by omega)]
        rw [h0] at fin; exact fin
      · dsimp only
        refine Yz (by decide) ?_
        rw [ZD5 (by omega)]; exact fin
  have hv:r.getD (((ld r:Nat):Int)).toNat ZC7=(((vec r (ld r)).toNat:Nat):Int):=by rw [Z33,Zbu]; omega
  have inv:∀ K':Int→Prop,K' k→Zey (r.getD (((ld r:Nat):Int)).toNat ZC7) K':=fun K' q=>by
    rw [hv]; exact ZBn (by omega) (by rw [hk]; exact q)
  have less0:∀ K':List Int→Prop,K' (Xs k r)→Jl (ZC2 ((r.length:Int).toNat) (0:Int)) r ((0 - k) % 10007) K':=fun K' q=>by
    rw [Z33,hrl]
    exact Zog (Zsa n) hb.ok hn (by omega) (by rw [ZBr hb.ok]; exact q)
  have md:∀ K':Int→Prop,K' ((0 - k) % 10007)→Jd (ZFm.wrap (0 - k)) K':=fun K' q=>by
    rw [i64_in _ (by omega)]; exact Zdd q
  have rm:(0:Int)≤(r.length:Int)∧(r.length:Int) * 8≤281474976710656:=by omega
  refine⟨by omega,⟨rm,inv _ (md _ (less0 _ (tail _ rfl)))⟩,inv _ ⟨⟨rm,md _ (less0 _ (tail _ rfl))⟩,md _ ⟨rm,less0 _ (tail _ rfl)⟩⟩⟩
theorem Zli {n:Nat} {rows:List (List Int)} {K:List (List Int)→Prop} (hr:Zaz n rows) (hn:n≤1000000) (hl:rows.length≤1000000) (h:∀ out,IsRref n rows out→out.length≤rows.length→K out):Zbq rows K:=by
  unfold Zbq
  refine Yu (fun i (s:List (List Int))=>IsRref n (rows.take i) s∧s.length≤i) rows.length ?_ ?_ _ _ _ (by omega) ⟨by simpa using IsRref.zero n,ZC6 _⟩
  · rintro i s next hi ⟨g1,g2⟩ hn'
    refine ZBs g1 hn (by omega) (hr _ (Xa hi)) fun out' q1 q2=>hn' _ ⟨?_,by omega⟩
    rw [Xv hi]; exact q1
  · rintro s ⟨g1,g2⟩
    rw [Z32] at g1; exact h s g1 g2
theorem ZBt {l:List (List Int)} {c:Nat} {K:Int→Prop} (hl:l.length≤1000000) (hc:∀ i,i < l.length→c < (at_ l i).length) (h1:∀ i,i < l.length→vec (at_ l i) c≠0→(∀ j,j < i→vec (at_ l j) c=0)→K i) (h0:(∀ i,i < l.length→vec (at_ l i) c=0)→K (-1)):Ze0 l (fun y0_ K_=>Zd2 y0_ (c:Int) K_) K:=by
  unfold Ze0
  refine Yu (fun i (s:Unit)=>∀ j,j < i→vec (at_ l j) c=0) l.length ?_ ?_ _ _ _ (by omega) (fun j hj=>by omega)
  · intro i s next hi g hn
    show Zd2 (at_ l i) (c:Int) (fun r=>if r=true then K (i:Int) else next ())
    unfold Zd2
    have:=hc i hi
    rw [Z33,Zbu]
    refine⟨by omega,?_⟩
    by_cases q:vec (at_ l i) c=0
    · rw [decide_eq_false (fun z=>z q)]
      refine Yz (by decide) (hn _ fun j hj=>?_)
      by_cases e:j=i
      · subst e; exact q
      · exact g j (by omega)
    · rw [decide_eq_true q]
      exact Yx rfl (h1 i hi q g)
  · intro s g
    exact h0 fun i hi=>g i hi
theorem Zoi (l:List (List Int)) (d i:Nat):at_ (l.drop d) i=at_ l (d+i):=by unfold at_; simp only [ZDo]; rw [List.getElem?_drop]
theorem ZBu (l:List (List Int)) (i j:Nat):Xo ZC7 l i j=Zay l i j:=rfl
theorem Zoj {n : Nat} {rows : List (List Int)} {K : List (List Int) → Prop} (hr : Zaz n rows) (hn : n ≤ 1000000) (hl : rows.length ≤ 1000000) (h : ∀ out, IsRref n rows out → out.length ≤ rows.length → K out) : Ze2 rows K := by
  unfold Ze2
  refine Yu (fun i (s:List (List Int))=>s=rows.take i) rows.length ?_ ?_ _ _ _ (by omega) (by simp)
  · rintro i s next hi rfl hn'
    have:=hr _ (Xa hi)
    refine ZBo (by rw [this.len]; exact hn) ⟨by rw [ZTl]; unfold Zy; omega,hn' _ ?_⟩
    rw [Xv hi]
  · rintro s rfl
    rw [Z32]
    refine Js (fun (s:List (List Int)×Int×Int)=>0≤s.2.1∧0≤s.2.2∧s.2.2≤n∧s.1.length=rows.length∧Inv n rows s.1 s.2.1.toNat s.2.2.toNat) (fun s=>n - s.2.2.toNat) ?_ ⟨ZTk _,ZTk _,by dsimp only; omega,rfl,Inv.start hr⟩
    rintro ⟨w,d,c⟩ next ⟨g1,g2,g3,g4,g5⟩ hn'
    dsimp only at g1 g2 g3 g4 g5 hn' ⊢
    have hdl:=g5.dl
    have fin:(d.toNat=w.length∨n≤c.toNat)→K (w.take d.toNat):=fun q=>h _ (g5.fin q) (by rw [ZTl]; omega)
    by_cases hd:d < (w.length:Int)
    · have hdn:d.toNat < w.length:=by omega
      have h0len:=(g5.ok 0 (by omega)).len
      refine Yx hd ⟨by omega,?_⟩
      rw [Zgb,h0len]
      by_cases hc:c < (n:Int)
      · refine Yx hc ⟨by omega, ?_⟩
        have hcn:c.toNat < n:=by omega
        have ec:c=((c.toNat:Nat):Int):=by omega
        have c1:(c+1).toNat=c.toNat+1:=by omega
        have d1:(d+1).toNat=d.toNat+1:=by omega
        rw [i64_in (c+1) (by omega),i64_in (d+1) (by omega)]
        generalize hQ:(fun y0_ K_=>Zd2 y0_ c K_)=Q
        rw [ec] at hQ
        subst hQ
        refine ZBt (by rw [ZE8]; omega) (fun i hi=>?_) (fun i hi hnz hz=>?_) (fun hz=>?_)
        · rw [ZE8] at hi
          rw [Zoi,(g5.ok _ (by omega)).len]; exact hcn
        · rw [ZE8] at hi
          rw [Zoi] at hnz
          have hp:d.toNat+i < w.length:=by omega
          have ep:ZFm.wrap (d+(i:Int))=((d.toNat+i:Nat):Int):=by rw [i64_in _ (by omega)]; omega
          refine Yz (by omega) ?_
          rw [ep]
          refine⟨by omega,by omega,by omega,by omega,?_⟩
          rw [Z33,ZBu]
          have ls:(Zay w d.toNat (d.toNat+i)).length=w.length:=Zi1
          have e1:at_ (Zay w d.toNat (d.toNat+i)) d.toNat=at_ w (d.toNat+i):=by
            rw [Zlg hdn hp]
            by_cases q:d.toNat=d.toNat+i
            · rw [if_pos q]; congr 1
            · rw [if_neg q,if_pos rfl]
          have okp:=g5.ok _ hp
          have lrow:((Zay w d.toNat (d.toNat+i)).getD d.toNat ZC7).length=n:=by rw [Zgb,e1,okp.len]
          have hrg:=okp.rng c.toNat
          refine⟨by rw [ls]; omega,by rw [lrow]; omega,?_⟩
          have hv:((Zay w d.toNat (d.toNat+i)).getD d.toNat ZC7).getD c.toNat ZC7=(((vec (at_ w (d.toNat+i)) c.toNat).toNat:Nat):Int):=by rw [Zgb,e1,Zbu]; omega
          rw [hv]
          refine ZBm (by omega) ?_
          have hinv:=Zsb (x:=vec (at_ w (d.toNat+i)) c.toNat) (by omega)
          have kb:=Zr7 (vec (at_ w (d.toNat+i)) c.toNat).toNat
          generalize hk:((Zb8 (vec (at_ w (d.toNat+i)) c.toNat).toNat:Nat):Int)=k at hinv ⊢
          have kb':0≤k∧k≤10006:=by omega
          refine⟨by rw [ls]; omega,?_⟩
          rw [lrow]
          -- the row is multiplied
          generalize hw1:Zay w d.toNat (d.toNat+i)=w1 at *
          refine Js (fun (s:List (List Int)×Int)=>(0≤s.2∧s.2≤n)∧∃ y:List Int,s.1=w1.set d.toNat y∧y.length=n∧∀ j,vec y j=if j < s.2.toNat then vec (at_ w1 d.toNat) j * k % 10007 else vec (at_ w1 d.toNat) j) (fun s=>n - s.2.toNat) ?_ ⟨by dsimp only; omega,at_ w1 d.toNat,?_,by rw [e1,okp.len],fun j=>by rw [if_neg (by dsimp only; omega)]⟩
          · rintro ⟨w2,q⟩ nx ⟨f1,y,rfl,f2,f3⟩ hnx
            dsimp only at f1 f3 hnx ⊢
            have l2:(w1.set d.toNat y).length=w.length:=by rw [ZEk,ls]
            have ey:(w1.set d.toNat y).getD d.toNat ZC7=y:=by rw [Zgb,Zga (by omega),if_pos rfl]
            rw [ey]
            by_cases hq:q < (n:Int)
            · have rg:=okp.rng q.toNat
              have pb:=Zoe rg kb'
              have evq:y.getD q.toNat ZC7=vec (at_ w (d.toNat+i)) q.toNat:=by rw [Zbu,f3,if_neg (by omega),e1]
              refine Yx hq ⟨by omega,by omega,by omega,by omega,?_⟩
              rw [evq,i64_in (vec (at_ w (d.toNat+i)) q.toNat * k) (by omega),ZOb pb.1,List.set_set,i64_in (q+1) (by omega)]
              refine hnx _ ⟨by dsimp only; omega,_,rfl,by rw [ZEk]; exact f2,fun j=>?_⟩ (by dsimp only; omega)
              dsimp only
              rw [Zi2 (by omega),f3,show (q+1).toNat=q.toNat+1 by omega]
              by_cases e:j=q.toNat
              · subst e; rw [if_pos rfl,if_pos (by omega),e1]
              · rw [if_neg e]
                by_cases z:j < q.toNat
                · rw [if_pos z,if_pos (by omega)]
                · rw [if_neg z,if_neg (by omega)]
            · refine Yz hq ?_
              have hy:y=Xs k (at_ w1 d.toNat):=Zle (by rw [f2]; simp [Xs,e1,okp.len]) fun j=>by
                rw [Zbt,f3]
                by_cases z:j < q.toNat
                · rw [if_pos z]
                · rw [if_neg z,Zae (by rw [e1,okp.len]; omega)]; simp
              subst hy
              -- the other rows
              generalize hW2:w1.set d.toNat (Xs k (at_ w1 d.toNat))=W2 at *
              have ok2:∀ j,j < w.length→RowOk n (at_ W2 j):=fun j hj=>by
                rw [← hW2,Zga (by omega)]
                by_cases z1:j=d.toNat
                · rw [if_pos z1]; exact Zf9 (by rw [e1]; exact okp)
                · rw [if_neg z1,← hw1,Zlg hdn hp]
                  by_cases z2:j=d.toNat+i
                  · rw [if_pos z2]; exact g5.ok _ hdn
                  · rw [if_neg z2,if_neg z1]; exact g5.ok _ hj
              refine Js (fun (s:List (List Int)×Int)=>(0≤s.2∧s.2≤w.length)∧s.1.length=w.length∧∀ j,j < w.length→at_ s.1 j=if j < s.2.toNat∧j≠d.toNat then subR (vec (at_ W2 j) c.toNat) (at_ W2 j) (at_ W2 d.toNat) else at_ W2 j) (fun s=>w.length - s.2.toNat) ?_ ⟨by dsimp only; omega,l2,fun j hj=>by rw [if_neg (by dsimp only; omega)]⟩
              rintro ⟨w3,p⟩ nz ⟨q1,q2,q3⟩ hnz2
              dsimp only at q1 q2 q3 hnz2 ⊢
              rw [l2]
              by_cases hpp:p < (w.length:Int)
              · have hpn:p.toNat < w.length:=by omega
                have p1:(p+1).toNat=p.toNat+1:=by omega
                rw [i64_in (p+1) (by omega)]
                refine Yx hpp ⟨by omega,?_⟩
                have row_p:at_ w3 p.toNat=at_ W2 p.toNat:=by rw [q3 _ hpn,if_neg (by omega)]
                have okpp:=ok2 _ hpn
                have skip:(p.toNat=d.toNat∨vec (at_ W2 p.toNat) c.toNat=0)→nz (w3,p+1):=fun z=>hnz2 _ ⟨by dsimp only; omega,q2,fun j hj=>by
                  dsimp only
                  rw [q3 j hj,p1]
                  by_cases a1:j < p.toNat∧j≠d.toNat
                  · rw [if_pos a1,if_pos ⟨by omega,a1.2⟩]
                  · rw [if_neg a1]
                    by_cases a2:j < p.toNat+1∧j≠d.toNat
                    · obtain rfl:j=p.toNat:=by omega
                      rcases z with z | z
                      · exact absurd z a2.2
                      · rw [if_pos a2,z,Zlf okpp (ok2 _ hdn)]
                    · rw [if_neg a2]⟩ (by dsimp only; omega)
                by_cases hpd:p≠d
                · have hpd':p.toNat≠d.toNat:=by omega
                  rw [Zgb w3 p.toNat,row_p,Zgb w3 d.toNat,Zbu]
                  refine Yx hpd ⟨by rw [okpp.len]; omega,?_⟩
                  by_cases hv0:vec (at_ W2 p.toNat) c.toNat≠0
                  · refine Yx hv0 ⟨by omega,by rw [okpp.len]; omega,by omega,?_⟩
                    have row_d:at_ w3 d.toNat=at_ W2 d.toNat:=by rw [q3 _ hdn,if_neg (by omega)]
                    rw [row_d]
                    refine ZBp okpp (ok2 _ hdn) (okpp.rng _) (hnz2 _ ⟨by dsimp only; omega,by dsimp only; rw [ZEk]; exact q2,fun j hj=>?_⟩ (by dsimp only; omega))
                    dsimp only
                    rw [Zga (by omega),q3 j hj,p1]
                    by_cases a0:j=p.toNat
                    · subst a0; rw [if_pos rfl,if_pos ⟨by omega,hpd'⟩]
                    · rw [if_neg a0]
                      by_cases a1:j < p.toNat∧j≠d.toNat
                      · rw [if_pos a1,if_pos ⟨by omega,a1.2⟩]
                      · rw [if_neg a1,if_neg (by omega)]
                  · exact Yz hv0 (skip (.inr (ZPw.1 hv0)))
                · exact Yz hpd (skip (.inl (by omega)))
              · refine Yz hpp (hn' _ ⟨by dsimp only; omega,by dsimp only; omega,by dsimp only; omega,by dsimp only; omega,?_⟩ (by dsimp only; omega))
                dsimp only
                rw [c1,d1]
                refine g5.step (p:=d.toNat+i) (by_:=k) (by omega) hp hinv ⟨?_,fun j hj=>?_⟩
                · rw [q2,ZEk,Zi1]
                · rw [ZEk,Zi1] at hj
                  rw [hw1,hW2,q3 j hj]
                  by_cases a0:j=d.toNat
                  · rw [if_neg (by omega),if_pos a0,a0]
                  · rw [if_pos ⟨by omega,a0⟩,if_neg a0]
          · dsimp only
            refine ZFs (by simp) fun j h1 h2=>?_
            rw [List.getElem_set]
            split
            · rename_i q; subst q; rw [Ziz h1]
            · rfl
        · refine Yx (by decide) (hn' _ ⟨g1,by dsimp only; omega,by dsimp only; omega,g4,?_⟩ (by dsimp only; omega))
          dsimp only
          rw [c1]
          refine g5.skip fun i h1 h2=>?_
          have:=hz (i - d.toNat) (by rw [ZE8]; omega)
          rwa [Zoi,show d.toNat+(i - d.toNat)=i by omega] at this
      · exact Yz hc ⟨by omega,fin (.inr (by omega))⟩
    · exact Yz hd ⟨by omega,fin (.inl (by omega))⟩
end Go.Proofs.YtaagfepgbofmlaaGreat
namespace Go.Proofs.YtaagfepgbofmlaaGreat
open Go Vc
theorem ZBv (a b:List Int) (j:Nat):vec (a++b) j=if j < a.length then vec a j else vec b (j - a.length):=by
  unfold vec
  simp only [ZDo]
  split
  · rename_i h; rw [List.getElem?_append_left h]
  · rename_i h; rw [List.getElem?_append_right (by omega)]
theorem ZBw (a:List Int) (m j:Nat):vec (a.drop m) j=vec a (m+j):=by
  unfold vec
  simp only [ZDo,List.getElem?_drop]
theorem Zsc (a:List Int) (m j:Nat):vec (a.take m) j=if j < m then vec a j else 0:=by
  unfold vec
  simp only [ZDo,List.getElem?_take]
  split <;> rfl
theorem ZBx {m n:Nat} {a b:List Int} (ha:RowOk m a) (hb:RowOk n b):RowOk (m+n) (a++b) :=
  ⟨by rw [ZDh,ha.len,hb.len],fun j=>by
    rw [ZBv]; split
    · exact ha.rng j
    · exact hb.rng _⟩
theorem ZBy {m n:Nat} {a:List Int} (ha:RowOk (m+n) a):RowOk n (a.drop m) :=
  ⟨by rw [ZE8,ha.len]; omega,fun j=>by rw [ZBw]; exact ha.rng _⟩
def Zd5 (n i:Nat):List Int:=(ZC2 n (0:Int)).set i 1
theorem ZBz (n i:Nat):RowOk n (Zd5 n i):=by
  refine⟨by simp [Zd5],fun j=>?_⟩
  by_cases hi:i < n
  · rw [Zd5,Zi2 (by simpa using hi),Zlh]; split <;> omega
  · rw [Zd5,List.set_eq_of_length_le (by simp; omega),Zlh]; omega
def Zat (rows:List (List Int)):List (List Int):=(List.range rows.length).map fun i=>rows.getD i ZC7++Zd5 rows.length i
def Zdj (m:Nat) (R:List (List Int)):List (List Int):=(R.filter fun r=>decide (m≤ld r)).map (List.drop m)
def IsKer (m:Nat) (rows L:List (List Int)):Prop:=∃ R,IsRref (m+rows.length) (Zat rows) R∧IsRref rows.length (Zdj m R) L
theorem IsKer.unique {m:Nat} {rows a b:List (List Int)} (ha:IsKer m rows a) (hb:IsKer m rows b):a=b:=by
  obtain ⟨R,h1,h2⟩:=ha
  obtain ⟨R',h3,h4⟩:=hb
  obtain rfl:=h1.unique h3
  exact h2.unique h4
theorem Zsd {m:Nat} {rows:List (List Int)} (hr:Zaz m rows):Zaz (m+rows.length) (Zat rows):=by
  intro a ha
  obtain ⟨i,hi,rfl⟩:=ZEh.1 ha
  exact ZBx (hr _ (Xa (ZEr.1 hi))) (ZBz _ _)
theorem Zse {m n:Nat} {R:List (List Int)} (hR:Zaz (m+n) R):Zaz n (Zdj m R):=by
  intro a ha
  obtain ⟨r,hr,rfl⟩:=ZEh.1 ha
  exact ZBy (hR r (List.mem_filter.1 hr).1)
theorem Zlj (m:Nat) (R:List (List Int)):(Zdj m R).length≤R.length:=by rw [Zdj,Z31]; exact Z4g _ _
theorem Zsf {m i:Nat} {R:List (List Int)} (hi:i < R.length):Zdj m (R.take (i+1))=Zdj m (R.take i)++(if m≤ld (R.getD i ZC7) then [(R.getD i ZC7).drop m] else []):=by
  rw [Xv hi,Zdj,Z4b,ZTf]
  congr 1
  split
  · rename_i q; rw [Z4c (by simpa using q)]; rfl
  · rename_i q; rw [Z4d (by simpa using q)]; rfl
theorem ZB0 {a:List Int} {K:Bool→Prop} (hl:a.length≤1000000) (h1:(∀ j,vec a j=0)→K true) (h0:ld a < a.length→K false):Ziq a K:=by
  unfold Ziq Zk2 Zek
  refine Yu (fun i (s:Unit)=>∀ j,j < i→vec a j=0) a.length ?_ ?_ _ _ _ (by omega) (fun j hj=>by omega)
  · intro i s next hi g hn
    show Zf5 (a.getD i ZC7) _
    unfold Zf5
    rw [Zbu]
    by_cases q:vec a i=0
    · rw [decide_eq_false (fun z=>z q)]
      refine Yz (by decide) (hn _ fun j hj=>?_)
      by_cases e:j=i
      · subst e; exact q
      · exact g j (by omega)
    · rw [decide_eq_true q]
      refine Yx rfl ?_
      show K (decide ((i:Int) < 0))
      rw [decide_eq_false (by omega)]
      exact h0 (by rw [Zf8 g q]; exact hi)
  · intro s g
    show K (decide ((-1:Int) < 0))
    rw [decide_eq_true (by omega)]
    refine h1 fun j=>?_
    rcases ZEa j a.length with q | q
    · exact g j q
    · exact Zae q
theorem ZB1 {n:Int} {K:List Int→Prop} (h0:0≤n∧n≤1000000) (h:K []):Zir n K:=by
  unfold Zir
  have e:ZFm.wrap (n - (ZFm.wrap (0 - 0)))=n:=by rw [i64_in (0 - 0) (by omega),i64_in _ (by omega)]; omega
  rw [e]
  refine⟨by omega,?_⟩
  by_cases q:n > 0
  · exact Yx q ⟨⟨by omega,by unfold Zy; omega⟩,⟨by omega,by omega⟩,by rw [List.take_zero]; exact h⟩
  · exact Yz q h
theorem ZB2 {a b:List Int} {K:List Int→Prop} (ha:a.length≤500000) (hb:b.length≤500000) (h:K (a++b)):Zis [a,b] K:=by
  simp only [Zis,Yc,ZFw,List.length_nil,List.getD_cons_zero,List.getD_cons_succ]
  rw [i64_in (0+(a.length:Int)) (by omega),i64_in (0+(a.length:Int)+(b.length:Int)) (by omega)]
  refine⟨by omega,by omega,ZB1 (by omega) ⟨by unfold Zy; rw [List.length_nil]; omega,by unfold Zy; rw [Z4h]; omega,?_⟩⟩
  rw [Z4h]; exact h
theorem Zsg {m : Nat} {rows : List (List Int)} {K : List (List Int) → Prop} (hr : Zaz m rows) (hm : m ≤ 100000) (hl : rows.length ≤ 100000) (h : ∀ L, IsKer m rows L → L.length ≤ rows.length → K L) : Zf1 rows (m : Int) K := by
  unfold Zf1
  refine Yu (fun i (s:List (List Int))=>s=(Zat rows).take i) rows.length ?_ ?_ _ _ _ (by omega) rfl
  · intro i s next hi hs hn
    have ok:=hr _ (Xa hi)
    have hlen:=ok.len
    have hkl:(Zat rows).length=rows.length:=by simp [Zat]
    have hsl:s.length=i:=by rw [hs,ZTl,hkl]; omega
    have e:ZFm.wrap ((m:Int)+(i:Int))=((m+i:Nat):Int):=by rw [i64_in _ (by omega)]; omega
    rw [e,Z33,Z33]
    refine⟨by unfold Zy; omega,⟨by omega,by unfold Zy; omega⟩,⟨by omega,by rw [ZDh,ZT1]; omega⟩,by unfold Zy; omega,hn _ ?_⟩
    rw [Xv (by omega:i < (Zat rows).length),hs]
    congr 2
    have:(Zat rows).getD i ZC7=rows.getD i ZC7++Zd5 rows.length i:=by simp [Zat,ZDo,hi]
    rw [this,Zd5,List.set_append_right _ _ (by omega),hlen,show m+i - m=i by omega]
  · intro s hs
    have hkl:(Zat rows).length=rows.length:=by simp [Zat]
    rw [ZD5 (by omega)] at hs
    rw [hs]
    refine Zli (Zsd hr) (by omega) (by omega) fun R hR hRl=>?_
    have hRo:∀ a,a∈R→RowOk (m+rows.length) a∧vec a (ld a)=1:=hR.red.ok
    refine Yu (fun i (s:List (List Int))=>s=Zdj m (R.take i)) R.length ?_ ?_ _ _ _ (by omega) rfl
    · intro i s next hi hs hn
      have ok:=hRo _ (Xa hi)
      have hsl:s.length≤R.length:=by rw [hs]; exact ZDa (Zlj _ _) (by rw [ZTl]; omega)
      refine Zoh (by omega) ok ?_
      have hlen:=ok.1.len
      have hle:=Zsf (m:=m) hi
      by_cases q:m≤ld (R.getD i ZC7)
      · rw [if_pos q] at hle
        refine Yx (by omega) ⟨by omega,by unfold Zy; rw [ZE8]; omega,by unfold Zy; omega,hn _ ?_⟩
        rw [hle,hs,Z33]
      · rw [if_neg q,ZUm] at hle
        exact Yz (by omega) (hn _ (by rw [hle]; exact hs))
    · intro s hs
      rw [Z32] at hs
      rw [hs]
      have:=Zlj m R
      exact Zli (Zse fun a ha=>(hRo a ha).1) (by omega) (by omega) fun L hL hLl=>h L ⟨R,hR,hL⟩ (by omega)
theorem Zsh {m : Nat} {rows : List (List Int)} {K : List (List Int) → Prop} (hr : Zaz m rows) (hm : m ≤ 100000) (hl : rows.length ≤ 100000) (h : ∀ L, IsKer m rows L → L.length ≤ rows.length → K L) : Zit rows (m : Int) K := by
  unfold Zit
  refine Yu (fun i (s:List (List Int))=>s=(Zat rows).take i) rows.length ?_ ?_ _ _ _ (by omega) rfl
  · intro i s next hi hs hn
    have ok:=hr _ (Xa hi)
    have hlen:=ok.len
    have hkl:(Zat rows).length=rows.length:=by simp [Zat]
    have hsl:s.length=i:=by rw [hs,ZTl,hkl]; omega
    rw [Z33]
    refine⟨⟨by omega,by omega⟩,⟨by omega,by rw [ZT1]; omega⟩,ZB2 (by omega) (by rw [ZEk,ZT1]; omega) ⟨by unfold Zy; omega,hn _ ?_⟩⟩
    rw [Xv (by omega:i < (Zat rows).length),hs]
    congr 2
    simp [Zat,ZDo,hi,Zd5]
  · intro s hs
    have hkl:(Zat rows).length=rows.length:=by simp [Zat]
    rw [ZD5 (by omega)] at hs
    rw [hs]
    refine Zoj (Zsd hr) (by omega) (by omega) fun R hR hRl=>?_
    have hRo:∀ a,a∈R→RowOk (m+rows.length) a∧vec a (ld a)=1:=hR.red.ok
    refine Yu (fun i (s:List (List Int))=>s=Zdj m (R.take i)) R.length ?_ ?_ _ _ _ (by omega) rfl
    · intro i s next hi hs hn
      have ok:=hRo _ (Xa hi)
      have hsl:s.length≤R.length:=by rw [hs]; exact ZDa (Zlj _ _) (by rw [ZTl]; omega)
      have hlen:=ok.1.len
      have hle:=Zsf (m:=m) hi
      have hld:=Zoa ok
      rw [Z33]
      refine⟨by omega,ZB0 (by rw [ZTl]; omega) (fun hz=>?_) (fun hz=>?_)⟩
      · have q:m≤ld (R.getD i ZC7):=by
          rcases ZEa (ld (R.getD i ZC7)) m with z | z
          · have:=hz (ld (R.getD i ZC7))
            rw [Zsc,if_pos z,ok.2] at this; omega
          · exact z
        rw [if_pos q] at hle
        refine Yx rfl ⟨by omega,by unfold Zy; omega,hn _ ?_⟩
        rw [hle,hs]
      · have q:¬ m≤ld (R.getD i ZC7):=by
          intro z
          have h1:=Zlc hz
          rw [Zsc] at h1
          rw [ZTl] at hz
          rw [if_pos (by omega)] at h1
          exact h1 (Zax (by omega))
        rw [if_neg q,ZUm] at hle
        exact Yz (by decide) (hn _ (by rw [hle]; exact hs))
    · intro s hs
      rw [Z32] at hs
      rw [hs]
      have:=Zlj m R
      exact Zoj (Zse fun a ha=>(hRo a ha).1) (by omega) (by omega) fun L hL hLl=>h L ⟨R,hR,hL⟩ (by omega)
end Go.Proofs.YtaagfepgbofmlaaGreat
namespace Go.Proofs.YtaagfepgbofmlaaGreat
open Go Vc
theorem Zok {l:List A8} (hd:l.Nodup) {i j:Nat} (hi:i < l.length) (hj:j < l.length) (h:l[i]=l[j]):i=j:=by
  rcases Z4e i j with q | q | q
  · exact absurd h (ZDe.1 hd i j hi hj q)
  · exact q
  · exact absurd h.symm (ZDe.1 hd j i hj hi q)
def plc (l:List A8):Nat→List (A8×Int)
  | 0=>[]
  | k+1=>Yt (plc l k) (l.getD k ZC7) (k:Int)
theorem Zol (l:List A8):∀ k,((plc l k).map ZD9).Nodup
  | 0=>by simp [plc]
  | k+1=>Zjs (Zol l k)
theorem Zsi {l:List A8} (hd:l.Nodup):∀ k,k≤l.length→∀ i,i < k→co (plc l k) (l.getD i ZC7)=i
  | 0,_,i,hi=>by omega
  | k + 1, hk, i, hi => by
    rw [plc,Zmv (Zol l k)]
    by_cases e:i=k
    · subst e; rw [if_pos rfl]
    · rw [if_neg,Zsi hd k (by omega) i (by omega)]
      intro h
      have h1:l.getD i ZC7=l[i]'(by omega):=by simp [ZDo,show i < l.length by omega]
      have h2:l.getD k ZC7=l[k]'(by omega):=by simp [ZDo,show k < l.length by omega]
      rw [h1,h2] at h
      exact e (Zok hd _ _ h)
theorem ZB3 (l:List A8):Znr l (plc l l.length):=by
  unfold Znr
  exact Yu (fun i (s:List (A8×Int))=>s=plc l i) l.length (fun i s next hi hs hn=>hn _ (by rw [hs]; rfl)) (fun s hs=>hs) _ _ _ (by omega) rfl
theorem ZB4 {m : List (A8 × Int)} (h : (m.map ZD9).Nodup) {p : A8 × Int} (hp : p ∈ m) : co m p.1 = p.2 := by
  induction m with
  | nil=>cases hp
  | cons q m ih =>
    simp only [List.map_cons,List.nodup_cons] at h
    rw [Za9]
    rcases ZC3.1 hp with rfl | hp
    · rw [if_pos rfl]
      have:co m p.1=0:=by
        rw [← Zcn h.2]
        cases hg:Xb m p.1 with
        | none=>rfl
        | some v =>
          exfalso
          cases hf:J9 m p.1 0 with
          | none=>rw [(Zc4 hf).1] at hg; cases hg
          | some z=>obtain ⟨j,u⟩:=z; exact h.1 (ZEh.2 ⟨_,List.mem_of_getElem? (Zc5 hf).2.1,rfl⟩)
      omega
    · rw [if_neg (fun e:q.1=p.1=>h.1 (by rw [e]; exact ZEh.2 ⟨p,hp,rfl⟩)),ih h.2 hp]; omega
theorem ZB5 {m:List (A8×Int)} (h:(m.map ZD9).Nodup) {x:A8} (hx:x∉m.map ZD9):co m x=0:=by
  rw [← Zcn h]
  cases hf:J9 m x 0 with
  | none=>rw [(Zc4 hf).1]; rfl
  | some z=>obtain ⟨j,u⟩:=z; exact absurd (ZEh.2 ⟨_,List.mem_of_getElem? (Zc5 hf).2.1,rfl⟩) hx
theorem ZB6 {α:Type} {l l':List α} {p:α} {i:Nat} (h:i < l.length) (hp:l[i]=p) (hl:l'=l.eraseIdx i):∀ x,x∈l→x=p∨x∈l':=by
  subst hp hl
  intro x hx
  obtain ⟨j,hj,rfl⟩:=ZDm hx
  by_cases e:j=i
  · subst e; exact .inl rfl
  · refine .inr (List.mem_eraseIdx_iff_getElem.2 ⟨j,hj,e,rfl⟩)
theorem ZB7 {l : List A8} {m : List (A8 × Int)} {K : List Int → Prop} (hl : l.length ≤ 1000000) (hd : l.Nodup) (hm : (m.map ZD9).Nodup) (hin : ∀ p, p ∈ m → p.1 ∈ l) (h : K (l.map (co m))) : Zew ⟨l, plc l l.length⟩ m K := by
  unfold Zew
  dsimp only
  refine⟨by omega,?_⟩
  rw [Z33]
  refine Zgt (fun l' (s:List Int)=>s.length=l.length∧(∀ p,p∈l'→p∈m)∧∀ i,i < l.length→l.getD i ZC7∉l'.map ZD9→s.getD i 0=co m (l.getD i ZC7)) ?_ ?_ m _ ⟨by simp,fun _ h=>h,fun i hi hn=>?_⟩
  · rintro l1 p l2 s next ⟨j,hj,hp,hl2⟩ ⟨g1,g2,g3⟩ hn
    have hpm:p∈l1:=hp ▸ List.getElem_mem hj
    obtain ⟨i0,hi0,e0⟩:=ZDm (hin p (g2 p hpm))
    have e1:l.getD i0 ZC7=p.1:=by rw [← e0]; simp [ZDo,hi0]
    have ec:(Xb (plc l l.length) p.1).getD 0=(i0:Int):=by
      rw [Zcn (Zol _ _),← e1]; exact Zsi hd l.length (ZC6 _) i0 hi0
    rw [ec,Z33]
    refine⟨by omega,hn _ ⟨by rw [ZEk]; exact g1,fun q hq=>g2 q (by rw [hl2] at hq; exact List.mem_of_mem_eraseIdx hq),fun i hi hno=>?_⟩⟩
    by_cases e:i=i0
    · subst e
      rw [e1,ZB4 hm (g2 p hpm)]
      simp [ZDo,show i < s.length by omega]
    · have e2:(s.set i0 p.2).getD i 0=s.getD i 0:=by
        simp only [ZDo]; rw [List.getElem?_set_ne (fun q=>e q.symm)]
      rw [e2]
      refine g3 i hi fun hmem=>?_
      obtain ⟨q,hq,eq⟩:=ZEh.1 hmem
      rcases ZB6 hj hp hl2 q hq with rfl | hq2
      · have h1:l.getD i ZC7=l[i]:=by simp [ZDo,hi]
        rw [h1,← e0] at eq
        exact e (Zok hd _ _ eq.symm)
      · exact hno (ZEh.2 ⟨q,hq2,eq⟩)
  · rintro s ⟨g1,_,g3⟩
    have:s=l.map (co m):=by
      refine ZFs (by simp [g1]) fun i h1 h2=>?_
      have hi:i < l.length:=by omega
      have:=g3 i hi (by simp)
      simp only [ZDo,List.getElem?_eq_getElem h1,List.getElem?_eq_getElem hi,Option.getD_some] at this
      rw [this]; simp
    rw [this]; exact h
  · rw [ZB5 hm hn]
    simp [ZDo,hi]
end Go.Proofs.YtaagfepgbofmlaaGreat
namespace Go.Proofs.YtaagfepgbofmlaaGreat
open Go Vc
structure IsSumOf (l:List A8) (row:List Int) (m:List (A8×Int)):Prop where
  ok:MapOk m
  cf:∀ j,j < l.length→co m (l.getD j ZC7)=vec row j
  ks:∀ p,p∈m→p.1∈l
theorem ZB8 {l : List A8} {pl : List (A8 × Int)} {row : List Int} {K : List (A8 × Int) → Prop} (hd : l.Nodup) (hr : RowOk l.length row) (h : ∀ m, IsSumOf l row m → K m) : Zh9 ⟨l, pl⟩ row K := by
  unfold Zh9
  dsimp only
  have hlen:=hr.len
  refine Yu (fun i (s:List (A8×Int))=>MapOk s∧(∀ j,j < l.length→co s (l.getD j ZC7)=if j < i then vec row j else 0)∧∀ p,p∈s→p.1∈l) row.length ?_ ?_ _ _ _ (by omega) ⟨MapOk.nil,fun j hj=>rfl,by simp⟩
  · rintro i s next hi ⟨g1,g2,g3⟩ hn
    have hil:i < l.length:=by omega
    have hv:row.getD i ZC7=vec row i:=rfl
    have rg:=hr.rng i
    have hx:l.getD i ZC7∈l:=Xa hil
    refine⟨by omega,Zm4 g1 (by rw [hv]; omega) fun s' hp=>hn s' ⟨hp.ok,fun j hj=>?_,fun p hps=>?_⟩⟩
    · have h1:=hp.cf (l.getD j ZC7)
      have h2:=hp.ok.range (l.getD j ZC7)
      have h3:=g2 j hj
      have rj:=hr.rng j
      rw [h3,hv] at h1
      by_cases e:j=i
      · subst e
        rw [if_neg (by omega),if_pos rfl] at h1
        rw [if_pos (by omega)]; omega
      · have hne:¬ l.getD i ZC7=l.getD j ZC7:=by
          intro q
          have q1:l.getD i ZC7=l[i]:=by simp [ZDo,hil]
          have q2:l.getD j ZC7=l[j]:=by simp [ZDo,hj]
          rw [q1,q2] at q
          exact e (Zok hd _ _ q).symm
        rw [if_neg hne] at h1
        by_cases q:j < i
        · rw [if_pos q] at h1; rw [if_pos (by omega)]; omega
        · rw [if_neg q] at h1; rw [if_neg (by omega)]; omega
    · rcases hp.ks p hps with e | ⟨q,hq,e⟩
      · rw [e]; exact hx
      · rw [← e]; exact g3 q hq
  · rintro s ⟨g1,g2,g3⟩
    exact h s ⟨g1,fun j hj=>by rw [g2 j hj,if_pos (by omega)],g3⟩
end Go.Proofs.YtaagfepgbofmlaaGreat
namespace Go.Proofs.YtaagfepgbofmlaaGreat
open Go Vc
def fm:List A8→List Int→List Term
  | m::l,r::row=>if r=0 then fm l row else⟨m,r⟩::fm l row
  | _,_=>[]
theorem Zlk (row:List Int):fm [] row=[]:=by cases row <;> rfl
theorem Zi3 {l : List A8} : ∀ {row : List Int} {t : Term}, t ∈ fm l row → t.mono ∈ l := by
  induction l with
  | nil=>intro row t h; rw [Zlk] at h; cases h
  | cons m l ih =>
    intro row t h
    cases row with
    | nil=>cases h
    | cons r row =>
      rw [fm] at h
      split at h
      · exact ZTc _ (ih h)
      · rcases ZC3.1 h with rfl | h
        · exact List.mem_cons_self
        · exact ZTc _ (ih h)
def Zom (row:List Int):Prop:=∀ x,x∈row→0≤x∧x≤10006
theorem Zi4 {n:Nat} {row:List Int} (h:RowOk n row):Zom row:=fun x hx=>by
  obtain ⟨i,hi,rfl⟩:=ZDm hx
  have:=h.rng i
  rwa [Zcw hi] at this
def Srt (l:List A8):Prop:=l.Pairwise (fun a b=>pcmp a b < 0)
theorem Srt.nd {l:List A8} (h:Srt l):l.Nodup:=h.imp fun q=>Zbn q
theorem Zll {l : List A8} (hs : Srt l) : ∀ {row : List Int}, Zom row → Canon (fm l row) := by
  induction l with
  | nil=>intro row _; rw [Zlk]; exact Canon.nil
  | cons m l ih =>
    intro row hr
    cases row with
    | nil=>exact Canon.nil
    | cons r row =>
      obtain ⟨s1,s2⟩:=ZDt.1 hs
      have h1:=ih s2 (fun x hx=>hr x (ZTc _ hx))
      have h0:=hr r List.mem_cons_self
      rw [fm]
      split
      · exact h1
      · rename_i q
        refine⟨ZDt.2 ⟨fun t ht=>s1 _ (Zi3 ht),h1.1⟩,fun t ht=>?_⟩
        rcases ZC3.1 ht with rfl | ht
        · dsimp only; omega
        · exact h1.2 t ht
theorem ZB9 (l:List A8):∀ row:List Int,(fm l row).length≤l.length:=by
  induction l with
  | nil=>intro row; rw [Zlk]; simp
  | cons m l ih =>
    intro row
    cases row with
    | nil=>simp [fm]
    | cons r row =>
      have:=ih row
      rw [fm]; split
      · simp only [ZFw]; omega
      · simp only [ZFw]; omega
theorem Zlm {l : List A8} : ∀ {row : List Int}, l.Nodup → row.length = l.length → ∀ j, j < l.length → coT (fm l row) (l.getD j ZC7) = vec row j := by
  induction l with
  | nil=>intro row _ _ j hj; simp at hj
  | cons m l ih =>
    intro row hd hl j hj
    cases row with
    | nil=>simp at hl
    | cons r row =>
      obtain ⟨d1,d2⟩:=List.nodup_cons.1 hd
      have h0:coT (fm l row) m=0:=Zcl fun t ht e=>d1 (e ▸ Zi3 ht)
      cases j with
      | zero =>
        show coT (fm (m::l) (r::row)) m=r
        rw [fm]
        split
        · rename_i q; rw [h0,q]
        · rw [Zbo,if_pos rfl,h0,ZTh]
      | succ j =>
        have hj':j < l.length:=by simpa using hj
        have e1:(m::l).getD (j+1) ZC7=l.getD j ZC7:=by simp [ZDo]
        have e2:=ih d2 (by simpa using hl) j hj'
        rw [e1,Zn7,← e2,fm]
        split
        · rfl
        · rw [Zbo,if_neg (fun e:m=l.getD j ZC7=>d1 (e ▸ Xa hj')),ZN0]
theorem Zon {l:List A8} {row:List Int} {x:A8} (h:x∉l):coT (fm l row) x=0:=Zcl fun t ht e=>h (e ▸ Zi3 ht)
theorem ZCa {α:Type} [Inhabited α] {l:List α} {q:Nat} (hq:q < l.length):l.getD q ZC7=l[q]:=by simp [ZDo,hq]
theorem Zln {α:Type} [Inhabited α] {l:List α} {x:α} (h:x∈l):∃ i,i < l.length∧l.getD i ZC7=x:=by
  obtain ⟨i,hi,rfl⟩:=ZDm h
  exact⟨i,hi,by simp [ZDo,hi]⟩
theorem ZCb {l:List A8} {row:List Int} {m:List (A8×Int)} (hs:Srt l) (hr:RowOk l.length row) (h:IsSumOf l row m):IsMap (fm l row) m :=
  Zm9 (Zll hs (Zi4 hr)) h.ok fun x => by
    by_cases hx:x∈l
    · obtain ⟨j,hj,rfl⟩:=Zln hx
      rw [h.cf j hj,Zlm hs.nd hr.len j hj]
    · rw [Zon hx,Zdc fun t ht e=>hx (by rw [← e]; exact h.ks t ht)]
theorem Zoo {l : List A8} : ∀ {row : List Int} {i : Nat}, row.length = l.length → i < l.length → fm (l.take (i + 1)) (row.take (i + 1)) = fm (l.take i) (row.take i) ++ (if row.getD i ZC7 = 0 then [] else [⟨l.getD i ZC7, row.getD i ZC7⟩]) := by
  induction l with
  | nil=>intro row i _ hi; simp at hi
  | cons m l ih =>
    intro row i hl hi
    cases row with
    | nil=>simp at hl
    | cons r row =>
      cases i with
      | zero =>
        simp only [List.take_succ_cons,List.take_zero,fm,Zlk,Z4h]
        simp [ZDo]
      | succ i =>
        have:=ih (row:=row) (i:=i) (by simpa using hl) (by simpa using hi)
        simp only [List.take_succ_cons,fm]
        rw [this]
        have e1:(m::l).getD (i+1) ZC7=l.getD i ZC7:=by simp [ZDo]
        have e2:(r::row).getD (i+1) ZC7=row.getD i ZC7:=by simp [ZDo]
        rw [e1,e2]
        split <;> simp
def J6 (l own:List A8) (nums:List Int):List Int:=l.map (coT (fm own nums))
theorem Zlo (l own:List A8) (nums:List Int):(J6 l own nums).length=l.length:=Z31 _
theorem Zi5 {l own:List A8} {nums:List Int} {j:Nat} (hj:j < l.length):vec (J6 l own nums) j=coT (fm own nums) (l.getD j ZC7):=by
  simp [vec,J6,ZDo,hj]
theorem ZCc {l own:List A8} {nums:List Int} (ho:Srt own) (hn:RowOk own.length nums):RowOk l.length (J6 l own nums):=by
  refine⟨Zlo .., fun j=>?_⟩
  by_cases hj:j < l.length
  · rw [Zi5 hj]; exact(Zll ho (Zi4 hn)).range _
  · rw [Zae (by rw [Zlo]; omega)]; omega
theorem Zsj {l:List A8} (hs:Srt l) {i j:Nat} (hi:i < l.length) (hj:j < l.length) (h:pcmp (l.getD i ZC7) (l.getD j ZC7) < 0):i < j:=by
  have e1:l.getD i ZC7=l[i]:=by simp [ZDo,hi]
  have e2:l.getD j ZC7=l[j]:=by simp [ZDo,hj]
  rw [e1,e2] at h
  rcases Z4e i j with q | q | q
  · exact q
  · subst q; rw [Zhp] at h; omega
  · exact absurd (ZDe.1 hs j i hj hi q) (Zj8 h)
theorem Zi6 {l:List A8} (hs:Srt l) {i j:Nat} (hij:i < j) (hj:j < l.length):pcmp (l.getD i ZC7) (l.getD j ZC7) < 0:=by
  have hi:i < l.length:=by omega
  have e1:l.getD i ZC7=l[i]:=by simp [ZDo,hi]
  have e2:l.getD j ZC7=l[j]:=by simp [ZDo,hj]
  rw [e1,e2]; exact ZDe.1 hs i j hi hj hij
theorem ZCd {l own:List A8} (hl:Srt l) (ho:Srt own) {v:List Int} (hv:RowOk own.length v) (h1:vec v (ld v)≠0) {i:Nat} (hi:i < l.length) (e:l.getD i ZC7=own.getD (ld v) ZC7) :
    ld (J6 l own v)=i∧vec (J6 l own v) i=vec v (ld v):=by
  have hlt:ld v < own.length:=by have:=Zld h1; rw [hv.len] at this; exact this
  have h2:vec (J6 l own v) i=vec v (ld v):=by rw [Zi5 hi,e,Zlm ho.nd hv.len _ hlt]
  refine⟨Zf8 (fun q hq=>?_) (by rw [h2]; exact h1),h2⟩
  have hql:q < l.length:=by omega
  rw [Zi5 hql]
  by_cases hm:l.getD q ZC7∈own
  · obtain ⟨k,hk,ek⟩:=Zln hm
    rw [← ek,Zlm ho.nd hv.len k hk]
    refine Zax (Zsj ho hk hlt ?_)
    rw [ek,← e]; exact Zi6 hl hq hi
  · exact Zon hm
theorem ZCe {l own:List A8} (hl:Srt l) (ho:Srt own) (hsub:∀ m,m∈own→m∈l) {R:List (List Int)} (h:Rref own.length R):Rref l.length (R.map (J6 l own)):=by
  have key:∀ v,v∈R→ld v < own.length∧∃ i,i < l.length∧l.getD i ZC7=own.getD (ld v) ZC7∧ld (J6 l own v)=i∧vec (J6 l own v) i=1:=fun v hv=>by
    obtain ⟨h1,h2⟩:=h.ok v hv
    have hn:vec v (ld v)≠0:=by rw [h2]; decide
    have hlt:ld v < own.length:=by have:=Zld hn; rw [h1.len] at this; exact this
    obtain ⟨i,hi,e⟩:=Zln (hsub _ (Xa hlt))
    obtain ⟨e1,e2⟩:=ZCd hl ho h1 hn hi e
    exact⟨hlt,i,hi,e,e1,e2.trans h2⟩
  refine⟨fun a ha=>?_,?_⟩
  · obtain ⟨v,hv,rfl⟩:=ZEh.1 ha
    obtain ⟨_,i,hi,_,e1,e2⟩:=key v hv
    exact⟨ZCc ho (h.ok v hv).1,by rw [e1,e2]⟩
  · refine ZT9.2 (h.pw.imp_of_mem fun {a b} ha hb hab=>?_)
    obtain ⟨la,i,hi,ea,ea1,_⟩:=key a ha
    obtain ⟨lb,j,hj,eb,eb1,_⟩:=key b hb
    refine⟨?_,?_⟩
    · rw [ea1,eb1]
      refine Zsj hl hi hj ?_
      rw [ea,eb]; exact Zi6 ho hab.1 lb
    · rw [eb1,Zi5 hj,eb,Zlm ho.nd (h.ok a ha).1.len _ lb]; exact hab.2
def dco (a:Alg) (f:List Term) (x:A8):Int:=tot (fun t=>dT a.degrees (imgsT a) t.mono t.factor x) f % 10007
theorem Zsk (a:Alg) (f:List Term) (x:A8):0≤dco a f x∧dco a f x≤10006:=by unfold dco; omega
theorem ZCf {a:Alg} {f out:List Term} (h:IsD a.degrees (imgsT a) f out):coT out=dco a f:=funext fun x=>by
  have h1:=h.cf x
  have h2:=h.can.range x
  unfold dco; omega
theorem ZCg {a:Alg} {f:List Term} {s out:List (A8×Int)} (hs:IsMap f s) (hc:Canon f) (h:IsDM a.degrees (imgsT a) s out):co out=dco a f:=funext fun x=>by
  have h1:=h.cf x
  have h2:=h.ok.range x
  rw [Zkh hs hc (fun b n=>dT a.degrees (imgsT a) b n x) (fun b=>Zm6 a.degrees (imgsT a) b x)] at h1
  unfold dco; omega
theorem Zsl {a:Alg} (ok:OkAlg a) (hf:Ju a) {n:Int} {y m:A8} (hm:m∈mons a.degrees n) (hn:n≤38) (h:DMono a.degrees (imgsT a) y m):y∈mons a.degrees (n+1):=by
  have hd:=ok.deg
  have h8:=hd.1
  have ha:=ok.algF hf
  have hl:=ok.len
  obtain ⟨o1,o2,o3⟩:=Zn6 hd hm
  have smallI:∀ j u,u∈(imgsT a).getD j ZC7→OkMono a.degrees u.mono∧∀ i,i < 8→0≤u.mono.get i∧u.mono.get i≤20:=fun j u hu=>by
    by_cases hj:j < a.images.length
    · rw [Zfv a hj] at hu
      have:=(ok.frm j hj).mono hu
      exact⟨this,Zh4 (Zer this) ((ha.fit j hj).pos u hu)⟩
    · simp [imgsT,ZDo,hj] at hu; cases hu
  have homI:∀ j u,u∈(imgsT a).getD j ZC7→j < a.degrees.length→wtU a.degrees u.mono a.degrees.length=a.degrees.getD j ZC7+1:=fun j u hu hj=>by
    rw [Zfv a (by omega)] at hu
    obtain ⟨q,hq,rfl⟩:=ZDm hu
    have:=ok.hom j (by omega) q hq
    rwa [ZCa hq] at this
  obtain ⟨w1,w2⟩:=ZBc h8 o1 o3 smallI h
  obtain ⟨j,u,hj,_,hu,ew⟩:=ZBb h8 o1 h
  rw [homI j u hu hj,o2] at ew
  exact ZBf hd w1 w2 (by rw [ew]; omega) (by omega)
structure InL (a:Alg) (n:Int) (f:List Term):Prop where
  can:Canon f
  mem:∀ t,t∈f→t.mono∈mons a.degrees n
theorem InL.len {a:Alg} {n:Int} {f:List Term} (h:InL a n f):f.length≤(mons a.degrees n).length:=by
  have hn:(f.map Term.mono).Nodup:=ZT9.2 (h.can.1.imp fun q=>Zbn q)
  have:=hn.length_le_of_subset (l₂:=mons a.degrees n) (fun x hx=>by obtain ⟨t,ht,rfl⟩:=ZEh.1 hx; exact h.mem t ht)
  rwa [Z31] at this
theorem InL.form {a:Alg} {n:Int} {f:List Term} (hd:OkDeg a.degrees) (hf:Fits a.degrees n) (h:InL a n f):OkForm a.degrees f∧FitT f :=
  ⟨Zwo h.can (by have:=h.len; unfold Fits at hf; omega) fun t ht=>(Zn6 hd (h.mem t ht)).1,fun t ht=>ZA9 (Zn6 hd (h.mem t ht)).2.2⟩
theorem Zsm {a:Alg} {n:Int} {m:A8} (h:m∈mons a.degrees n):InL a n [⟨m,1⟩]:=⟨Znd m,fun t ht=>by obtain rfl:=ZEf.1 ht; exact h⟩
theorem Zsn {a:Alg} {n:Int} {own:List A8} {row:List Int} (ho:Srt own) (hsub:∀ m,m∈own→m∈mons a.degrees n) (hr:Zom row):InL a n (fm own row):=⟨Zll ho hr,fun t ht=>hsub _ (Zi3 ht)⟩
def Zcx (a:Alg) (n:Int) (f:List Term):List Int:=(mons a.degrees (n+1)).map (dco a f)
theorem ZCh (a:Alg) (n:Int) (f:List Term):RowOk (mons a.degrees (n+1)).length (Zcx a n f):=by
  refine⟨Z31 _,fun j=>?_⟩
  by_cases hj:j < (mons a.degrees (n+1)).length
  · have:vec (Zcx a n f) j=dco a f ((mons a.degrees (n+1)).getD j ZC7):=by simp [vec,Zcx,ZDo,hj]
    rw [this]; exact Zsk ..
  · rw [Zae (by simp [Zcx]; omega)]; omega
theorem Zso {a:Alg} {n:Int} {f:List Term} {K:List Int→Prop} (ok:OkAlg a) (hf:Ju a) (hn:0≤n∧n≤38) (f1:Fits a.degrees n) (f2:Fits a.degrees (n+1)) (h:InL a n f) (hK:K (Zcx a n f)) :
    Zc8 a ⟨f⟩ (fun r=>Zbr r (mons a.degrees (n+1)) K):=by
  obtain ⟨o1,o2⟩:=h.form ok.deg f1
  refine Zqo (ok.algF hf) o1 o2 fun out hD _=>?_
  refine Zry hD.can (Zn4 ok.deg.1 _) (fun t ht=>?_) (by unfold Fits at f2; omega) ?_
  · obtain ⟨s,hs,hm⟩:=hD.mo t ht
    exact Zsl ok hf (h.mem s hs) hn.2 hm
  · rw [ZCf hD]; exact hK
theorem Zsp {a:Alg} {n:Int} {f:List Term} {s:List (A8×Int)} {K:List Int→Prop} (ok:OkAlg a) (hf:Ju a) (hn:0≤n∧n≤38) (f1:Fits a.degrees n) (f2:Fits a.degrees (n+1)) (h:InL a n f) (hs:IsMap f s) (hK:K (Zcx a n f)) :
    Zdz a s (fun r=>Zew ⟨mons a.degrees (n+1),plc (mons a.degrees (n+1)) (mons a.degrees (n+1)).length⟩ r K):=by
  obtain ⟨o1,o2⟩:=h.form ok.deg f1
  refine m_d (ok.algF hf) hs o1 o2 fun out hD=>?_
  refine ZB7 (by unfold Fits at f2; omega) (Srt.nd (Zn4 ok.deg.1 _)) hD.ok.1 (fun p hp=>?_) ?_
  · obtain ⟨t,ht,hm⟩:=hD.mo p hp
    obtain ⟨u,hu,eu⟩:=hs.ks t ht
    exact Zsl ok hf (eu ▸ h.mem u hu) hn.2 hm
  · rw [ZCg hs h.can hD]; exact hK
end Go.Proofs.YtaagfepgbofmlaaGreat
namespace Go.Proofs.YtaagfepgbofmlaaGreat
open Go Vc
theorem Ze5 {a:Alg} {p n:Int} (hd:OkDeg a.degrees) (hn:0≤n∧n≤40) (hf:Fits a.degrees n) {K:List A8→Prop} (h:K (Xw p (mons a.degrees n))):Zb7 a p n K:=by
  unfold Zb7
  rw [if_pos hn.1]
  have hf':(mons a.degrees n).length≤120:=hf
  refine Zrq hd (by omega) ?_
  rw [ZD5 (by omega)]
  refine Yu (fun i s=>s=Xw p ((mons a.degrees n).take i)) (mons a.degrees n).length ?_ ?_ _ _ _ (by omega) rfl
  · intro i s next hi hs hnx
    refine Zny (Zn2 hd hi) ?_
    have hl:s.length≤120:=by
      rw [hs]
      have:=Zf7 p ((mons a.degrees n).take i)
      rw [ZTl] at this
      omega
    by_cases q:p≤wdU ((mons a.degrees n).getD i ZC7) 8
    · refine Yx q ⟨by unfold Zy; omega,hnx _ ?_⟩
      rw [hs,Zf6 hi,if_pos q]
    · refine Yz q (hnx _ ?_)
      rw [hs,Zf6 hi,if_neg q]
  · intro s hs; rw [hs,Z32]; exact h
theorem Zd6 {a:Alg} (ok:OkAlg a) (n:Int):Srt (mons a.degrees n):=Zn4 ok.deg.1 n
theorem Zop {a:Alg} (ok:OkAlg a) (p n:Int):Srt (Xw p (mons a.degrees n)):=(Zd6 ok n).sublist (List.filter_sublist ..)
theorem Zoq {p:Int} {l:List A8}:∀ m,m∈Xw p l→m∈l:=fun m h=>(List.mem_filter.1 h).1
def Zcy (a:Alg):Cx where
  LV:=mons a.degrees
  PL n:=plc (mons a.degrees n) (mons a.degrees n).length
  MX n:=(mons a.degrees n).map fun m=>Zcx a n [⟨m,1⟩]
  CL _:=[]
  BD _:=[]
  KL _:=[]
theorem Zgc {a:Alg} (ok:OkAlg a) {n:Int} (hn:n≤40) (hf:Fits a.degrees n):Zcr (Zcy a) a.degrees n :=
  Zk9 ok.deg hn (fun _=>⟨rfl,ZB3 _⟩) (fun no=>absurd hf no)
theorem ZCi (m:A8):IsMap [⟨m,1⟩] (Yt ([]:List (A8×Int)) m 1) :=
  ⟨Znf m,fun x=>rfl,fun p hp=>by obtain rfl:=ZEf.1 hp; exact⟨_,List.mem_singleton_self _,rfl⟩⟩
theorem ZCj {a:Alg} {n:Int} {i:Nat} (hi:i < (mons a.degrees n).length):((Zcy a).MX n).getD i ZC7=Zcx a n [⟨(mons a.degrees n).getD i ZC7,1⟩]:=by
  simp [Zcy,ZDo,hi]
theorem ZCk {a:Alg} (ok:OkAlg a) (hf:Ju a) {n:Int} (hn:0≤n∧n≤38) (f1:Fits a.degrees n) (f2:Fits a.degrees (n+1)):Zks (Zcy a) a n:=by
  unfold Zks Zkr
  have e:ZFm.wrap (n+1)=n+1:=i64_in _ (by omega)
  rw [e]
  refine⟨Zgc ok (by omega) f1,⟨Zgc ok (by omega) f2,?_⟩,trivial⟩
  have hl:(mons a.degrees n).length≤120:=f1
  refine Yu (fun i s=>s=((mons a.degrees n).take i).map fun m=>Zcx a n [⟨m,1⟩]) (mons a.degrees n).length ?_ ?_ _ _ _ (Nat.zero_add _) rfl
  · intro i s next hi hs hnx
    refine Zsp ok hf hn f1 f2 (Zsm (Xa hi)) (ZCi _) ⟨?_,hnx _ ?_⟩
    · rw [hs,Z31,ZTl]; unfold Zy; omega
    · rw [Xv hi,ZTf,hs]; rfl
  · intro s hs; rw [hs,Z32]; exact⟨rfl,trivial⟩
def below (q:Int) (l:List A8):List A8:=l.filter fun m=>decide (wdU m 8 < q)
theorem Zlp {q:Int} {l:List A8} {i:Nat} (h:i < l.length):below q (l.take (i+1))=if wdU (l.getD i ZC7) 8 < q then below q (l.take i)++[l.getD i ZC7] else below q (l.take i):=by
  rw [Xv h,below,Z4b]
  by_cases c:wdU (l.getD i ZC7) 8 < q
  · rw [if_pos c,Z4c (by simpa using c)]; rfl
  · rw [if_neg c,Z4d (by simpa using c),List.filter_nil,ZUm]; rfl
theorem Zlq (q:Int) (l:List A8):(below q l).length≤l.length:=Z4g _ _
theorem Zlr {α β:Type} [Inhabited α] [Inhabited β] {l:List α} {g:α→β} {i:Nat} (h:i < l.length):(l.map g).getD i ZC7=g (l.getD i ZC7):=by simp [ZDo,h]
def Za3 (p:Int) (l:List A8):List Bool:=l.map fun m=>decide (wdU m 8≥p)
theorem Zls {a:Alg} {p n:Int} {pl:List (A8×Int)} (hd:OkDeg a.degrees) (hf:Fits a.degrees n) {K:List Bool→Prop} (h:K (Za3 p (mons a.degrees n))):Zd1 ⟨mons a.degrees n,pl⟩ p K:=by
  unfold Zd1
  dsimp only
  have hl:(mons a.degrees n).length≤120:=hf
  refine Yu (fun i s=>s=Za3 p ((mons a.degrees n).take i)) (mons a.degrees n).length ?_ ?_ _ _ _ (by omega) rfl
  · intro i s next hi hs hn
    refine ZAk (Zn2 hd hi) ⟨?_,hn _ ?_⟩
    · rw [hs,Za3,Z31,ZTl]; unfold Zy; omega
    · rw [hs,Xv hi,Za3,Za3,ZTf]; rfl
  · intro s hs; rw [hs,Z32]; exact h
theorem ZCl {a : Alg} {n q : Int} {g : A8 → Int} {E : List Int → Prop} (hd : OkDeg a.degrees) (hf : Fits a.degrees n) (h : E ((below q (mons a.degrees n)).map g)) :
    Yc (fun i10 (s11:(List Int)) nx10=>Zcs ((mons a.degrees n).getD i10 ZC7) (fun r28=>(if r28 < q then((0≤(i10:Int)∧(i10:Int) < (((mons a.degrees n).map g).length:Int))∧(Zy (s11.length+1) 8∧nx10 (s11++[((mons a.degrees n).map g).getD i10 ZC7]))) else nx10 s11))) E (mons a.degrees n).length 0 []:=by
  have hl:(mons a.degrees n).length≤120:=hf
  refine Yu (fun i s=>s=(below q ((mons a.degrees n).take i)).map g) (mons a.degrees n).length ?_ ?_ _ _ _ (by omega) rfl
  · intro i s next hi hs hn
    refine Zny (Zn2 hd hi) ?_
    by_cases c:wdU ((mons a.degrees n).getD i ZC7) 8 < q
    · refine Yx c ⟨⟨by omega,by rw [Z31]; omega⟩,?_,hn _ ?_⟩
      · have:=Zlq q ((mons a.degrees n).take i)
        rw [ZTl] at this
        rw [hs,Z31]; unfold Zy; omega
      · rw [Zlr hi,hs,Zlp hi,if_pos c,ZTf]; rfl
    · refine Yz c (hn _ ?_)
      rw [hs,Zlp hi,if_neg c]
  · intro s hs; rw [hs,Z32]; exact h
theorem ZCm {l : List A8} {q : Int} {g : A8 → Int} {E : List Int → Prop} (hl : l.length ≤ 120) (h : E ((below q l).map g)) :
    Yc (fun i12 (s11:(List Int)) nx11=>((0≤(i12:Int)∧(i12:Int) < ((Za3 q l).length:Int))∧(if¬ (((Za3 q l).getD i12 ZC7)=true) then(Zy (s11.length+1) 8∧nx11 (s11++[(l.map g).getD i12 ZC7])) else nx11 s11))) E ((l.map g).length) 0 []:=by
  rw [Z31]
  refine Yu (fun i s=>s=(below q (l.take i)).map g) l.length ?_ ?_ _ _ _ (by omega) rfl
  · intro i s next hi hs hn
    refine⟨⟨by omega,by rw [Za3,Z31]; omega⟩,?_⟩
    have hb:(Za3 q l).getD i ZC7=decide (wdU (l.getD i ZC7) 8≥q):=Zlr hi
    rw [hb]
    by_cases c:wdU (l.getD i ZC7) 8 < q
    · refine Yx (by rw [decide_eq_true_eq]; omega) ⟨?_,hn _ ?_⟩
      · have:=Zlq q (l.take i)
        rw [ZTl] at this
        rw [hs,Z31]; unfold Zy; omega
      · rw [Zlr hi,hs,Zlp hi,if_pos c,ZTf]; rfl
    · refine Yz (by rw [decide_eq_true_eq]; omega) (hn _ ?_)
      rw [hs,Zlp hi,if_neg c]
  · intro s hs; rw [hs,Z32]; exact h
def Zgd (a:Alg) (n q:Int) (m:A8):List Int:=(below q (mons a.degrees (n+1))).map (dco a [⟨m,1⟩])
def Zal (a:Alg) (r p n:Int):List (List Int):=(Xw p (mons a.degrees n)).map (Zgd a n (p+r))
theorem Zor (a:Alg) (r p n:Int):Zaz (below (p+r) (mons a.degrees (n+1))).length (Zal a r p n):=fun x hx=>by
  obtain ⟨m,_,rfl⟩:=ZEh.1 hx
  refine⟨Z31 _,fun j=>?_⟩
  by_cases hj:j < (below (p+r) (mons a.degrees (n+1))).length
  · have:vec (Zgd a n (p+r) m) j=dco a [⟨m,1⟩] ((below (p+r) (mons a.degrees (n+1))).getD j ZC7):=by simp [vec,Zgd,ZDo,hj]
    rw [this]; exact Zsk ..
  · rw [Zae (by simp [Zgd]; omega)]; omega
def ZIs (a:Alg) (r p n:Int) (Z:List (List Int)):Prop :=
  ∃ L,IsKer (below (p+r) (mons a.degrees (n+1))).length (Zal a r p n) L∧L.length≤(Zal a r p n).length∧Z=L.map (J6 (mons a.degrees n) (Xw p (mons a.degrees n)))
theorem ZIs.unique {a:Alg} {r p n:Int} {Z Y:List (List Int)} (h:ZIs a r p n Z) (k:ZIs a r p n Y):Z=Y:=by
  obtain ⟨L,h1,_,rfl⟩:=h
  obtain ⟨L',k1,_,rfl⟩:=k
  rw [h1.unique k1]
theorem Zos {m:Nat} {rows L:List (List Int)} (h:IsKer m rows L):Rref rows.length L:=by
  obtain ⟨R,_,h2⟩:=h
  exact h2.1
theorem Zlt (m:Nat):IsKer m [] []:=⟨[],IsRref.zero _,IsRref.zero _⟩
theorem ZIs.rref {a:Alg} (ok:OkAlg a) {r p n:Int} {Z:List (List Int)} (h:ZIs a r p n Z):Rref (mons a.degrees n).length Z:=by
  obtain ⟨L,h1,_,rfl⟩:=h
  have hL:=Zos h1
  rw [Zal,Z31] at hL
  exact ZCe (Zd6 ok n) (Zop ok p n) Zoq hL
theorem ZIs.len {a:Alg} {r p n:Int} {Z:List (List Int)} (h:ZIs a r p n Z):Z.length≤(mons a.degrees n).length:=by
  obtain ⟨L,_,h1,rfl⟩:=h
  rw [Zal,Z31] at h1
  have:=Zf7 p (mons a.degrees n)
  rw [Z31]; omega
theorem Zsq {own : List A8} {nums : List Int} {K : Vc.Form → Prop} (hl : nums.length = own.length) (hs : own.length ≤ 1000) (h : K ⟨fm own nums⟩) : Zcu nums own K := by
  unfold Zcu
  refine Yu (fun i (s:List Term)=>s=fm (own.take i) (nums.take i)) own.length ?_ ?_ _ _ _ (by omega) rfl
  · intro i s next hi hs' hn
    refine⟨by omega,?_⟩
    by_cases q:nums.getD i ZC7=0
    · refine Yz (fun z=>z q) (hn _ ?_)
      rw [hs',Zoo hl hi,if_pos q,ZUm]
    · refine Yx q ⟨by omega,?_,hn _ ?_⟩
      · have:=ZB9 (own.take i) (nums.take i)
        rw [ZTl] at this
        rw [hs']; unfold Zy; omega
      · rw [hs',Zoo hl hi,if_neg q]
  · intro s hs'; rw [hs',Z32,← hl,Z32]; exact h
theorem ZCn {a:Alg} {n:Int} {own:List A8} {nums:List Int} {K:List Int→Prop} (ok:OkAlg a) (hf:Fits a.degrees n) (ho:Srt own) (hsub:∀ m,m∈own→m∈mons a.degrees n) (hol:own.length≤120) (hn:RowOk own.length nums) (h:K (J6 (mons a.degrees n) own nums)) :
    Zcu nums own (fun r=>Zbr r (mons a.degrees n) K):=by
  refine Zsq hn.len (by omega) ?_
  refine Zry (Zll ho (Zi4 hn)) (Zd6 ok n) (fun t ht=>hsub _ (Zi3 ht)) (by unfold Fits at hf; omega) h
theorem Zsr {a:Alg} {n p:Int} {L:List (List Int)} {K:List (List Int)→Prop} (ok:OkAlg a) (hf:Fits a.degrees n) (hL:∀ v,v∈L→RowOk (Xw p (mons a.degrees n)).length v) (hll:L.length≤1000)
    (h:K (L.map (J6 (mons a.degrees n) (Xw p (mons a.degrees n))))) :
    Yc (fun i12 (s12:(List (List Int))) nx12=>Zcu (L.getD i12 ZC7) (Xw p (mons a.degrees n)) (fun r17=>Zbr r17 (mons a.degrees n) (fun r15=>(Zy (s12.length+1) 24∧nx12 (s12++[r15]))))) (fun (s12:(List (List Int)))=>K s12) L.length 0 []:=by
  have hl:(mons a.degrees n).length≤120:=hf
  have hol:=Zf7 p (mons a.degrees n)
  refine Yu (fun i s=>s=(L.take i).map (J6 (mons a.degrees n) (Xw p (mons a.degrees n)))) L.length ?_ ?_ _ _ _ (by omega) rfl
  · intro i s next hi hs hn
    refine ZCn ok hf (Zop ok p n) Zoq (by omega) (hL _ (Xa hi)) ⟨?_,hn _ ?_⟩
    · rw [hs,Z31,ZTl]; unfold Zy; omega
    · rw [Xv hi,ZTf,hs]; rfl
  · intro s hs; rw [hs,Z32]; exact h
theorem Zot {a:Alg} {r p n:Int} {K:List (List Int)→Prop} (ok:OkAlg a) (hf:Ju a) (hn:0≤n∧n≤38) (hr:-1000≤r∧r≤1000) (hp:-1000≤p∧p≤1000) (f1:Fits a.degrees n) (f2:Fits a.degrees (n+1)) (h:∀ Z,ZIs a r p n Z→K Z):Zdh a r p n K:=by
  have hd:=ok.deg
  have hl1:(mons a.degrees n).length≤120:=f1
  have hl2:(mons a.degrees (n+1)).length≤120:=f2
  have hol:=Zf7 p (mons a.degrees n)
  have hbl:=Zlq (p+r) (mons a.degrees (n+1))
  unfold Zdh
  have e1:ZFm.wrap (n+1)=n+1:=i64_in _ (by omega)
  have e2:ZFm.wrap (p+r)=p+r:=i64_in _ (by omega)
  rw [e1,e2]
  refine Ze5 hd (by omega) f1 (Ze5 hd (by omega) f1 (Ze5 hd (by omega) f2 ?_))
  rw [Zla hd,Zla hd]
  refine Yu (fun i s=>s=((Xw p (mons a.degrees n)).take i).map (Zgd a n (p+r))) (Xw p (mons a.degrees n)).length ?_ ?_ _ _ _ (by omega) rfl
  · intro i s next hi hs hnx
    refine Znb (Zso ok hf hn f1 f2 (Zsm (Zoq _ (Xa hi))) ?_)
    refine ZCl hd f2 ⟨?_,hnx _ ?_⟩
    · rw [hs,Z31,ZTl]; unfold Zy; omega
    · rw [Xv hi,ZTf,hs]; rfl
  · intro s hs
    rw [Z32] at hs
    have hs:s=Zal a r p n:=hs
    subst hs
    have hrl:(Zal a r p n).length=(Xw p (mons a.degrees n)).length:=Z31 _
    have go:∀ L,IsKer (below (p+r) (mons a.degrees (n+1))).length (Zal a r p n) L→L.length≤(Zal a r p n).length→K (L.map (J6 (mons a.degrees n) (Xw p (mons a.degrees n)))):=fun L hL hlen=>h _ ⟨L,hL,hlen,rfl⟩
    by_cases c:((Zal a r p n).length:Int) > 0
    · refine Yx c ⟨by omega,?_⟩
      have e3:((Zal a r p n).getD 0 ZC7).length=(below (p+r) (mons a.degrees (n+1))).length:=(Zor a r p n _ (Xa (by omega))).len
      rw [e3]
      refine Zsg (Zor a r p n) (by omega) (by omega) fun L hL hlen=>?_
      exact Zsr ok f1 (fun v hv=>by have:=((Zos hL).ok v hv).1; rwa [hrl] at this) (by omega) (go L hL hlen)
    · refine Yz c ?_
      have e3:Zal a r p n=[]:=ZUt (by omega)
      have hz:Zaz 0 (Zal a r p n):=fun x hx=>by rw [e3] at hx; cases hx
      refine Zsg (m:=0) hz (by omega) (by omega) fun L hL hlen=>?_
      have hLn:L=[]:=by rw [e3] at hL; exact hL.unique (Zlt 0)
      refine Zsr ok f1 (fun v hv=>by rw [hLn] at hv; cases hv) (by omega) (go L ?_ hlen)
      rw [e3,hLn]; exact Zlt _
def Zi7 (l own:List A8) (idx:List Int):Prop:=idx.length=own.length∧∀ k,k < own.length→∃ i:Nat,idx.getD k ZC7=(i:Int)∧i < l.length∧l.getD i ZC7=own.getD k ZC7
theorem ZCo (f g:List Term) (x:A8):coT (f++g) x=coT f x+coT g x:=Zhr _ f g
theorem ZCp {l own : List A8} {idx nums : List Int} {E : List Int → Prop} (hl : Srt l) (ho : Srt own) (hp : Zi7 l own idx) (hn : RowOk own.length nums) (h : E (J6 l own nums)) :
    Yc (fun i11 (s12:(List Int)) nx13=>((0≤(i11:Int)∧(i11:Int) < (idx.length:Int))∧((0≤idx.getD i11 ZC7∧idx.getD i11 ZC7 < (s12.length:Int))∧nx13 (s12.set ((idx.getD i11 ZC7).toNat) (nums.getD i11 ZC7))))) E (nums.length) 0 (ZC2 ((l.length:Int).toNat) (0:Int)):=by
  have hnl:=hn.len
  rw [Z33]
  refine Yu (fun k (s:List Int)=>s.length=l.length∧∀ j,j < l.length→vec s j=coT (fm (own.take k) (nums.take k)) (l.getD j ZC7)) nums.length ?_ ?_ _ _ _ (by omega) ⟨by simp,fun j hj=>by rw [Zlh]; rfl⟩
  · rintro k s next hk ⟨g1,g2⟩ hnx
    obtain ⟨i,e1,e2,e3⟩:=hp.2 k (by omega)
    rw [e1,Z33]
    refine⟨⟨by omega,by have:=hp.1; omega⟩,⟨by omega,by omega⟩,hnx _ ⟨by rw [ZEk]; exact g1,fun j hj=>?_⟩⟩
    rw [Zi2 (by omega),Zoo hnl (by omega),ZCo]
    have hno:own.getD k ZC7∉own.take k:=fun hm=>by
      obtain ⟨q,hq,eq⟩:=Zln hm
      rw [ZTl] at hq
      have e4:(own.take k).getD q ZC7=own.getD q ZC7:=by simp only [ZDo]; rw [List.getElem?_take,if_pos (by omega)]
      rw [e4] at eq
      have:=Zi6 ho (show q < k by omega) (by omega)
      rw [eq,Zhp] at this; omega
    have last:coT (if nums.getD k ZC7=0 then [] else [⟨own.getD k ZC7,nums.getD k ZC7⟩]) (l.getD j ZC7)=if j=i then nums.getD k ZC7 else 0:=by
      by_cases e:j=i
      · subst e
        rw [if_pos rfl,e3]
        split
        · rename_i z; rw [z]; rfl
        · rw [Zbo,if_pos rfl,Zem,ZTh]
      · rw [if_neg e]
        have hne:own.getD k ZC7≠l.getD j ZC7:=by
          rw [← e3]
          intro z
          rcases Nat.lt_or_gt_of_ne e with q | q
          · have:=Zi6 hl q e2; rw [z,Zhp] at this; omega
          · have:=Zi6 hl q hj; rw [z,Zhp] at this; omega
        split
        · rfl
        · rw [Zbo,if_neg hne,Zem,ZTh]
    rw [last]
    by_cases e:j=i
    · subst e
      rw [if_pos rfl,if_pos rfl,e3,Zon hno,ZN0]
    · rw [if_neg e,if_neg e,g2 j hj,ZTh]
  · rintro s ⟨g1,g2⟩
    rw [hnl,Z32,← hnl,Z32] at g2
    have:s=J6 l own nums:=Zle (by rw [Zlo]; exact g1) fun j=>by
      by_cases hj:j < l.length
      · rw [g2 j hj,Zi5 hj]
      · rw [Zae (by omega),Zae (by rw [Zlo]; omega)]
    rw [this]; exact h
theorem Zss {a:Alg} {n p:Int} {L:List (List Int)} {idx:List Int} {K:List (List Int)→Prop} (ok:OkAlg a) (hf:Fits a.degrees n) (hp:Zi7 (mons a.degrees n) (Xw p (mons a.degrees n)) idx) (hL:∀ v,v∈L→RowOk (Xw p (mons a.degrees n)).length v) (hll:L.length≤1000)
    (h:K (L.map (J6 (mons a.degrees n) (Xw p (mons a.degrees n))))) :
    Yc (fun i13 (s13:(List (List Int))) nx12=>((0≤((mons a.degrees n).length:Int)∧((mons a.degrees n).length:Int) * 8≤281474976710656)∧Yc (fun i11 (s12:(List Int)) nx13=>((0≤(i11:Int)∧(i11:Int) < (idx.length:Int))∧((0≤idx.getD i11 ZC7∧idx.getD i11 ZC7 < (s12.length:Int))∧nx13 (s12.set ((idx.getD i11 ZC7).toNat) ((L.getD i13 ZC7).getD i11 ZC7))))) (fun (s12:(List Int))=>(Zy (s13.length+1) 24∧nx12 (s13++[s12]))) ((L.getD i13 ZC7).length) 0 (ZC2 (((mons a.degrees n).length:Int).toNat) (0:Int)))) (fun (s13:(List (List Int)))=>K s13) L.length 0 []:=by
  have hl:(mons a.degrees n).length≤120:=hf
  refine Yu (fun i s=>s=(L.take i).map (J6 (mons a.degrees n) (Xw p (mons a.degrees n)))) L.length ?_ ?_ _ _ _ (by omega) rfl
  · intro i s next hi hs hn
    refine⟨by omega,ZCp (Zd6 ok n) (Zop ok p n) hp (hL _ (Xa hi)) ⟨?_,hn _ ?_⟩⟩
    · rw [hs,Z31,ZTl]; unfold Zy; omega
    · rw [Xv hi,ZTf,hs]; rfl
  · intro s hs; rw [hs,Z32]; exact h
theorem ZCq {l own:List A8} {idx:List Int} {i:Nat} (h:Zi7 l own idx) (hi:i < l.length):Zi7 l (own++[l.getD i ZC7]) (idx++[(i:Int)]):=by
  refine⟨by simp [h.1],fun k hk=>?_⟩
  rw [ZDh,Z4x] at hk
  by_cases e:k < own.length
  · obtain ⟨j,e1,e2,e3⟩:=h.2 k e
    refine⟨j,?_,e2,?_⟩
    · rw [← e1]; simp only [ZDo]; rw [List.getElem?_append_left (by have:=h.1; omega)]
    · rw [e3]; simp only [ZDo]; rw [List.getElem?_append_left e]
  · obtain rfl:k=own.length:=by omega
    refine⟨i,?_,hi,?_⟩
    · simp only [ZDo]; rw [← h.1,List.getElem?_append_right (ZC6 _)]; simp
    · simp [ZDo]
theorem m_z {a:Alg} {r p n:Int} {K:List (List Int)→Prop} (ok:OkAlg a) (hf:Ju a) (hn:0≤n∧n≤38) (hr:-1000≤r∧r≤1000) (hp:-1000≤p∧p≤1000) (f1:Fits a.degrees n) (f2:Fits a.degrees (n+1)) (h:∀ Z,ZIs a r p n Z→K Z):Zdi (Zcy a) a r p n K:=by
  have hd:=ok.deg
  have hl1:(mons a.degrees n).length≤120:=f1
  have hl2:(mons a.degrees (n+1)).length≤120:=f2
  have hol:=Zf7 p (mons a.degrees n)
  have hbl:=Zlq (p+r) (mons a.degrees (n+1))
  unfold Zdi
  have e1:ZFm.wrap (n+1)=n+1:=i64_in _ (by omega)
  have e2:ZFm.wrap (p+r)=p+r:=i64_in _ (by omega)
  rw [if_neg (by omega),e1,e2]
  refine⟨ZCk ok hf hn f1 f2,Zgc ok (by omega) f2,Zls hd f2 (Zls hd f1 ?_)⟩
  have hbl1:(Za3 p (mons a.degrees n)).length=(mons a.degrees n).length:=Z31 _
  refine Yu (fun i (s:(List Int)×(List (List Int))×Int)=>Zi7 (mons a.degrees n) (Xw p ((mons a.degrees n).take i)) s.1∧s.2.1=(Xw p ((mons a.degrees n).take i)).map (Zgd a n (p+r))∧((s.2.1=[]∧s.2.2=0)∨s.2.2=((below (p+r) (mons a.degrees (n+1))).length:Int))) (mons a.degrees n).length ?_ ?_ _ _ _ (by rw [hbl1]; omega) ⟨⟨rfl,fun k hk=>by simp [Xw] at hk⟩,rfl,.inl ⟨rfl,rfl⟩⟩
  · rintro i ⟨idx,rows,wd⟩ next hi ⟨g1,g2,g3⟩ hnx
    dsimp only at g1 g2 g3 hnx ⊢
    have hb:(Za3 p (mons a.degrees n)).getD i ZC7=decide (wdU ((mons a.degrees n).getD i ZC7) 8≥p):=Zlr hi
    rw [hb]
    have hal:=Zf7 p ((mons a.degrees n).take i)
    rw [ZTl] at hal
    by_cases c:p≤wdU ((mons a.degrees n).getD i ZC7) 8
    · refine Yz (by simpa using c) ⟨?_,?_⟩
      · rw [g1.1]; unfold Zy; omega
      have hML:((Zcy a).MX n).length=(mons a.degrees n).length:=Z31 _
      refine⟨⟨by omega,by rw [hML]; omega⟩,?_⟩
      rw [ZCj hi]
      refine ZCm hl2 ⟨?_,hnx _ ⟨?_,?_,.inr (by rw [Z31])⟩⟩
      · rw [g2,Z31]; unfold Zy; omega
      · rw [Zf6 hi,if_pos c]; exact ZCq g1 hi
      · rw [Zf6 hi,if_pos c,ZTf,g2]; rfl
    · refine Yx (by simpa using c) (hnx _ ⟨?_,?_,g3⟩)
      · rw [Zf6 hi,if_neg c]; exact g1
      · rw [Zf6 hi,if_neg c]; exact g2
  · rintro ⟨idx,rows,wd⟩ ⟨g1,g2,g3⟩
    dsimp only at g1 g2 g3 ⊢
    rw [Z32] at g1 g2
    have g2:rows=Zal a r p n:=g2
    subst g2
    have hrl:(Zal a r p n).length=(Xw p (mons a.degrees n)).length:=Z31 _
    have go:∀ L,IsKer (below (p+r) (mons a.degrees (n+1))).length (Zal a r p n) L→L.length≤(Zal a r p n).length→K (L.map (J6 (mons a.degrees n) (Xw p (mons a.degrees n)))):=fun L hL hlen=>h _ ⟨L,hL,hlen,rfl⟩
    rcases g3 with ⟨e3,rfl⟩ | rfl
    · have hz:Zaz 0 (Zal a r p n):=fun x hx=>by rw [e3] at hx; cases hx
      refine Zsh (m:=0) hz (by omega) (by omega) fun L hL hlen=>?_
      have hLn:L=[]:=by rw [e3] at hL; exact hL.unique (Zlt 0)
      refine Zss ok f1 g1 (fun v hv=>by rw [hLn] at hv; cases hv) (by omega) (go L ?_ hlen)
      rw [e3,hLn]; exact Zlt _
    · refine Zsh (Zor a r p n) (by omega) (by omega) fun L hL hlen=>?_
      exact Zss ok f1 g1 (fun v hv=>by have:=((Zos hL).ok v hv).1; rwa [hrl] at this) (by omega) (go L hL hlen)
end Go.Proofs.YtaagfepgbofmlaaGreat
namespace Go.Proofs.YtaagfepgbofmlaaGreat
open Go Vc
def Zge (a:Alg) (n:Int) (row:List Int):List Int:=Zcx a n (fm (mons a.degrees n) row)
theorem ZCr {a:Alg} {n:Int} {rows:List (List Int)} {K:List (List Int)→Prop} (ok:OkAlg a) (hf:Ju a) (hn:0≤n∧n≤38) (f1:Fits a.degrees n) (f2:Fits a.degrees (n+1)) (hr:Zaz (mons a.degrees n).length rows) (hl:rows.length≤1000) (h:K (rows.map (Zge a n))):Zij a rows n K:=by
  have hd:=ok.deg
  have hl1:(mons a.degrees n).length≤120:=f1
  unfold Zij
  have e1:ZFm.wrap (n+1)=n+1:=i64_in _ (by omega)
  rw [e1]
  refine Ze5 hd (by omega) f1 (Ze5 hd (by omega) f2 ?_)
  rw [Zla hd,Zla hd]
  refine Yu (fun i s=>s=(rows.take i).map (Zge a n)) rows.length ?_ ?_ _ _ _ (by omega) rfl
  · intro i s next hi hs hnx
    have hri:=hr _ (Xa hi)
    refine Zsq hri.len (by omega) (Zso ok hf hn f1 f2 (Zsn (Zd6 ok n) (fun m h=>h) (Zi4 hri)) ⟨?_,hnx _ ?_⟩)
    · rw [hs,Z31,ZTl]; unfold Zy; omega
    · rw [Xv hi,ZTf,hs]; rfl
  · intro s hs; rw [hs,Z32]; exact h
theorem ZCs {a:Alg} {n:Int} {rows:List (List Int)} {K:List (List Int)→Prop} (ok:OkAlg a) (hf:Ju a) (hn:0≤n∧n≤38) (f1:Fits a.degrees n) (f2:Fits a.degrees (n+1)) (hr:Zaz (mons a.degrees n).length rows) (hl:rows.length≤1000) (h:K (rows.map (Zge a n))):Ziu (Zcy a) a n rows K:=by
  have hd:=ok.deg
  have hl1:(mons a.degrees n).length≤120:=f1
  unfold Ziu
  have e1:ZFm.wrap (n+1)=n+1:=i64_in _ (by omega)
  rw [e1]
  refine Yu (fun i s=>s=(rows.take i).map (Zge a n)) rows.length ?_ ?_ _ _ _ (by omega) rfl
  · intro i s next hi hs hnx
    have hri:=hr _ (Xa hi)
    refine⟨Zgc ok (by omega) f2,Zgc ok (by omega) f1,ZB8 (Srt.nd (Zd6 ok n)) hri fun m hm=>?_⟩
    refine Zsp ok hf hn f1 f2 (Zsn (Zd6 ok n) (fun m h=>h) (Zi4 hri)) (ZCb (Zd6 ok n) hri hm) ⟨?_,hnx _ ?_⟩
    · rw [hs,Z31,ZTl]; unfold Zy; omega
    · rw [Xv hi,ZTf,hs]; rfl
  · intro s hs; rw [hs,Z32]; exact h
theorem ZCt (a:Alg) (n:Int) (row:List Int):RowOk (mons a.degrees (n+1)).length (Zge a n row):=ZCh ..
theorem ZCu {n:Nat} {rows:List (List Int)} {K:Int→Prop} (hr:Zaz n rows) (hn:n≤1000000) (hl:rows.length≤1000000) (h:∀ out,IsRref n rows out→out.length≤rows.length→K (out.length:Int)):Ze3 rows K:=by
  unfold Ze3
  exact Zoj hr hn hl fun out ho hlen=>h out ho hlen
def OthersIs (a:Alg) (r p n:Int) (O:List (List Int)):Prop :=
  ∃ Zo,ZIs a (r - 1) (p+1) n Zo∧if n > 0 then∃ Zb,ZIs a (r - 1) (p - r+1) (n - 1) Zb∧O=Zo++Zb.map (Zge a (n - 1)) else O=Zo
theorem OthersIs.unique {a:Alg} {r p n:Int} {O Q:List (List Int)} (h:OthersIs a r p n O) (k:OthersIs a r p n Q):O=Q:=by
  obtain ⟨Zo,h1,h2⟩:=h
  obtain ⟨Zo',k1,k2⟩:=k
  obtain rfl:=h1.unique k1
  by_cases c:n > 0
  · rw [if_pos c] at h2 k2
    obtain ⟨Zb,h3,rfl⟩:=h2
    obtain ⟨Zb',k3,rfl⟩:=k2
    rw [h3.unique k3]
  · rw [if_neg c] at h2 k2; rw [h2,k2]
theorem Zlu {n:Nat} {R:List (List Int)} (h:Rref n R):Zaz n R:=fun a ha=>(h.ok a ha).1
theorem OthersIs.ok {a:Alg} (ok:OkAlg a) {r p n:Int} {O:List (List Int)} (h:OthersIs a r p n O):Zaz (mons a.degrees n).length O:=by
  obtain ⟨Zo,h1,h2⟩:=h
  have z1:=Zlu (h1.rref ok)
  by_cases c:n > 0
  · rw [if_pos c] at h2
    obtain ⟨Zb,h3,rfl⟩:=h2
    intro x hx
    rcases ZDd.1 hx with q | q
    · exact z1 x q
    · obtain ⟨y,hy,rfl⟩:=ZEh.1 q
      have:=ZCt a (n - 1) y
      rwa [show n - 1+1=n by omega] at this
  · rw [if_neg c] at h2; rw [h2]; exact z1
def PageIs (a:Alg) (r p n x:Int):Prop :=
  if r=0 then x=ZFm.wrap (((Xw p (mons a.degrees n)).length:Int) - ((Xw (p+1) (mons a.degrees n)).length:Int))
  else∃ O Z out,OthersIs a r p n O∧ZIs a r p n Z∧IsRref (mons a.degrees n).length O out∧x=ZFm.wrap ((Z.length:Int) - (out.length:Int))
theorem PageIs.unique {a:Alg} {r p n x y:Int} (h:PageIs a r p n x) (k:PageIs a r p n y):x=y:=by
  unfold PageIs at h k
  by_cases c:r=0
  · rw [if_pos c] at h k; rw [h,k]
  · rw [if_neg c] at h k
    obtain ⟨O,Z,out,h1,h2,h3,rfl⟩:=h
    obtain ⟨O',Z',out',k1,k2,k3,rfl⟩:=k
    obtain rfl:=h1.unique k1
    obtain rfl:=h2.unique k2
    rw [h3.unique k3]
theorem OthersIs.len {a:Alg} {r p n:Int} {O:List (List Int)} (f1:Fits a.degrees n) (f0:Fits a.degrees (n - 1)) (h:OthersIs a r p n O):O.length≤240:=by
  obtain ⟨Zo,h1,h2⟩:=h
  have l1:=h1.len
  have hl1:(mons a.degrees n).length≤120:=f1
  have hl0:(mons a.degrees (n - 1)).length≤120:=f0
  by_cases c:n > 0
  · rw [if_pos c] at h2
    obtain ⟨Zb,h3,rfl⟩:=h2
    have:=h3.len
    rw [ZDh,Z31]; omega
  · rw [if_neg c] at h2; rw [h2]; omega
section
variable {a:Alg} {r p n:Int} {K:Int→Prop}
theorem ZCv (ok : OkAlg a) (hf : Ju a) (hn : 0 ≤ n ∧ n ≤ 20) (hr : 0 ≤ r ∧ r ≤ 300) (hp : 0 ≤ p ∧ p ≤ 300) (af : Zcv a.degrees n) (h : ∀ x, PageIs a r p n x → K x) : Zf2 a r p n K := by
  have hd:=ok.deg
  obtain ⟨f0,f1,f2⟩:=af
  have hl1:(mons a.degrees n).length≤120:=f1
  unfold Zf2
  have ep:ZFm.wrap (p+1)=p+1:=i64_in _ (by omega)
  rw [ep]
  by_cases c:r=0
  · refine Yx c (Ze5 hd (by omega) f1 (Ze5 hd (by omega) f1 (h _ ?_)))
    unfold PageIs; rw [if_pos c]
  · have er:ZFm.wrap (r - 1)=r - 1:=i64_in _ (by omega)
    have eq:ZFm.wrap (p - r)=p - r:=i64_in _ (by omega)
    have eq1:ZFm.wrap (p - r+1)=p - r+1:=i64_in _ (by omega)
    have en:ZFm.wrap (n - 1)=n - 1:=i64_in _ (by omega)
    rw [er,eq,eq1,en]
    refine Yz c (Zot ok hf (by omega) (by omega) (by omega) f1 f2 fun Zo hZo=>?_)
    have fin:∀ O,OthersIs a r p n O→Zdh a r p n (fun r15=>Zbq r15 (fun r16=>Zbq O (fun r17=>K (ZFm.wrap ((r16.length:Int) - (r17.length:Int)))))):=fun O hO=>by
      refine Zot ok hf (by omega) (by omega) (by omega) f1 f2 fun Z hZ=>?_
      have zl:=hZ.len
      refine Zli (Zlu (hZ.rref ok)) (by omega) (by omega) fun o1 h1 _=>?_
      have e1:o1=Z:=h1.unique ⟨hZ.rref ok,SpEq.refl _⟩
      have ol:=hO.len f1 f0
      refine Zli (hO.ok ok) (by omega) (by omega) fun o2 h2 _=>h _ ?_
      unfold PageIs; rw [if_neg c]
      exact⟨O,Z,o2,hO,hZ,h2,by rw [e1]⟩
    by_cases cn:n > 0
    · refine Yx cn (Zot ok hf (by omega) (by omega) (by omega) f0 (by rw [show n - 1+1=n by omega]; exact f1) fun Zb hZb=>?_)
      have zb:=hZb.len
      have hl0:(mons a.degrees (n - 1)).length≤120:=f0
      refine ZCr ok hf (by omega) f0 (by rw [show n - 1+1=n by omega]; exact f1) (Zlu (hZb.rref ok)) (by omega) ⟨?_,?_⟩
      · have:=hZo.len
        rw [Z31]; unfold Zy; omega
      · exact fin _ ⟨Zo,hZo,by rw [if_pos cn]; exact⟨Zb,hZb,rfl⟩⟩
    · exact Yz cn (fin _ ⟨Zo,hZo,by rw [if_neg cn]⟩)
theorem Zst (p:Int):∀ l:List A8,((Za3 p l).filter id).length=(Xw p l).length
  | []=>rfl
  | m :: l => by
    have ih:=Zst p l
    unfold Za3 Xw at ih ⊢
    rw [List.map_cons]
    by_cases q:p≤wdU m 8
    · rw [Z4c (by simpa using q),Z4c (by simpa using q),ZFw,ZFw,ih]
    · rw [Z4d (by simpa using q),Z4d (by simpa using q),ih]
theorem ZCw {l:List Bool} (hl:l.length≤1000) (h:K (((l.filter id).length:Nat):Int)):Ze4 l K:=by
  unfold Ze4
  refine Yu (fun i (s:Int)=>s=((((l.take i).filter id).length:Nat):Int)) l.length ?_ ?_ _ _ _ (by omega) rfl
  · intro i s next hi hs hn
    have hb:((l.take i).filter id).length≤i:=ZDa (Z4g _ _) (by rw [ZTl]; omega)
    by_cases q:l.getD i ZC7=true
    · refine Yx q ?_
      rw [i64_in _ (by omega)]
      refine hn _ ?_
      rw [Xv hi,Z4b,q,hs]; simp
    · refine Yz q (hn _ ?_)
      have q':l.getD i ZC7=false:=by simpa using q
      rw [Xv hi,Z4b,q',hs]; simp
  · intro s hs; rw [hs,Z32]; exact h
theorem Zsu {p:Int} {l:List A8} (hl:l.length≤1000) (h:K (((Xw p l).length:Nat):Int)):Ze4 (Za3 p l) K :=
  ZCw (by rw [Za3,Z31]; exact hl) (by rw [Zst]; exact h)
theorem ZCx (ok : OkAlg a) (hf : Ju a) (hn : 0 ≤ n ∧ n ≤ 20) (hr : 0 ≤ r ∧ r ≤ 300) (hp : 0 ≤ p ∧ p ≤ 300) (af : Zcv a.degrees n) (h : ∀ x, PageIs a r p n x → K x) : Zd3 (Zcy a) a r p n K := by
  have hd:=ok.deg
  obtain ⟨f0,f1,f2⟩:=af
  have hl1:(mons a.degrees n).length≤120:=f1
  unfold Zd3
  have ep:ZFm.wrap (p+1)=p+1:=i64_in _ (by omega)
  rw [ep]
  by_cases c:r=0
  · refine Yx c ⟨Zgc ok (by omega) f1,Zls hd f1 (Zsu (by show (mons a.degrees n).length≤1000; omega) (Zls hd f1 (Zsu (by show (mons a.degrees n).length≤1000; omega) (h _ ?_))))⟩
    unfold PageIs; rw [if_pos c]
  · have er:ZFm.wrap (r - 1)=r - 1:=i64_in _ (by omega)
    have eq:ZFm.wrap (p - r)=p - r:=i64_in _ (by omega)
    have eq1:ZFm.wrap (p - r+1)=p - r+1:=i64_in _ (by omega)
    have en:ZFm.wrap (n - 1)=n - 1:=i64_in _ (by omega)
    rw [er,eq,eq1,en]
    refine Yz c (m_z ok hf (by omega) (by omega) (by omega) f1 f2 fun Zo hZo=>?_)
    have fin:∀ O,OthersIs a r p n O→Zdi (Zcy a) a r p n (fun r17=>Ze3 O (fun r18=>K (ZFm.wrap ((r17.length:Int) - r18)))):=fun O hO=>by
      refine m_z ok hf (by omega) (by omega) (by omega) f1 f2 fun Z hZ=>?_
      have ol:=hO.len f1 f0
      refine ZCu (hO.ok ok) (by omega) (by omega) fun o2 h2 _=>h _ ?_
      unfold PageIs; rw [if_neg c]
      exact⟨O,Z,o2,hO,hZ,h2,rfl⟩
    by_cases cn:n > 0
    · refine Yx cn (m_z ok hf (by omega) (by omega) (by omega) f0 (by rw [show n - 1+1=n by omega]; exact f1) fun Zb hZb=>?_)
      have zb:=hZb.len
      have hl0:(mons a.degrees (n - 1)).length≤120:=f0
      refine ZCs ok hf (by omega) f0 (by rw [show n - 1+1=n by omega]; exact f1) (Zlu (hZb.rref ok)) (by omega) ⟨?_,?_⟩
      · have:=hZo.len
        rw [Z31]; unfold Zy; omega
      · exact fin _ ⟨Zo,hZo,by rw [if_pos cn]; exact⟨Zb,hZb,rfl⟩⟩
    · exact Yz cn (fin _ ⟨Zo,hZo,by rw [if_neg cn]⟩)
end
end Go.Proofs.YtaagfepgbofmlaaGreat
namespace Go.Proofs.YtaagfepgbofmlaaGreat
open Go Vc
def Zam (x:Int):Prop:=0≤x∧x≤20
theorem Zi8 {a : Alg} {r p n : Int} {K : Int → Int → Prop} (hf : Ju a) (h1 : ¬ OkAlg a → K 0 1) (h2 : OkAlg a → ¬ Zaw a → K 0 5) (h3 : OkAlg a → Zaw a → ¬ (Zam r ∧ Zam p ∧ Zam n) → K 0 2)
    (h4:OkAlg a→Zaw a→(Zam r∧Zam p∧Zam n)→¬ Zcv a.degrees n→K 0 3) (h5:OkAlg a→Zaw a→(Zam r∧Zam p∧Zam n)→Zcv a.degrees n→∀ x,PageIs a r p n x→K x 0):Ziv a r p n K:=by
  unfold Ziv Zin Zk0
  refine Zho ?_
  by_cases hr:0≤r∧r≤20
  · refine Yx (decide_eq_true hr) (Zho ?_)
    by_cases hp:0≤p∧p≤20
    · refine Zkf (decide_eq_true hp) (Zho (Zn0 hf (fun no=>?_) (fun ok no=>?_) (fun ok mi=>?_)))
      · exact Yz (by decide) (Yx (by decide) (h1 no))
      · exact Yz (by decide) (Yx (by decide) (h2 ok no))
      · by_cases hn:0≤n∧n≤20
        · have e:(if decide (0≤n∧n≤20)=true then(0:Int) else 2)=0:=by rw [decide_eq_true hn]; rfl
          rw [e]
          refine Yx rfl (ZAx (ZAy ok.deg hn (fun no=>?_) (fun af=>?_)))
          · exact h4 ok mi ⟨hr,hp,hn⟩ no
          · exact⟨Zcy a,ZCx ok hf hn (by omega) (by omega) af (h5 ok mi ⟨hr,hp,hn⟩ af)⟩
        · have e:(if decide (0≤n∧n≤20)=true then(0:Int) else 2)=2:=by rw [decide_eq_false hn]; rfl
          rw [e]
          exact Yz (by decide) (Yx (by decide) (h3 ok mi (fun z=>hn z.2.2)))
    · refine Zh1 (by simpa using hp) (Zn0 hf (fun no=>?_) (fun ok no=>?_) (fun ok mi=>?_))
      · exact Yz (by decide) (Yx (by decide) (h1 no))
      · exact Yz (by decide) (Yx (by decide) (h2 ok no))
      · have e:(if false=true then(0:Int) else 2)=2:=rfl
        rw [e]
        exact Yz (by decide) (Yx (by decide) (h3 ok mi (fun z=>hp z.2.1)))
  · refine Yz (by simpa using hr) (Zn0 hf (fun no=>?_) (fun ok no=>?_) (fun ok mi=>?_))
    · exact Yz (by decide) (Yx (by decide) (h1 no))
    · exact Yz (by decide) (Yx (by decide) (h2 ok no))
    · have e:(if false=true then(0:Int) else 2)=2:=rfl
      rw [e]
      exact Yz (by decide) (Yx (by decide) (h3 ok mi (fun z=>hr z.1)))
theorem ZCy {a : Alg} {r p n : Int} {K : Int → Int → Prop} (hf : Ju a) (h1 : ¬ OkAlg a → K 0 1) (h2 : OkAlg a → ¬ Zaw a → K 0 5) (h3 : OkAlg a → Zaw a → ¬ (Zam r ∧ Zam p ∧ Zam n) → K 0 2)
    (h4:OkAlg a→Zaw a→(Zam r∧Zam p∧Zam n)→¬ Zcv a.degrees n→K 0 3) (h5:OkAlg a→Zaw a→(Zam r∧Zam p∧Zam n)→Zcv a.degrees n→∀ x,PageIs a r p n x→K x 0):Zik a r p n K:=by
  unfold Zik
  refine ZAq hf (fun no=>?_) (fun ok no=>?_) (fun ok mi=>?_)
  · exact Yz (by decide) (Yx (by decide) (h1 no))
  · exact Yz (by decide) (Yx (by decide) (h2 ok no))
  · refine Yx rfl (Zhn ?_)
    by_cases hr:0≤r∧r≤20
    · refine Yz (by simpa using hr) (Zhn ?_)
      by_cases hp:0≤p∧p≤20
      · refine Yz (by simpa using hp) (ZAw hf ok (fun no=>?_) (fun hn no=>?_) (fun hn af=>?_))
        · exact Yx (by decide) (h3 ok mi (fun z=>no z.2.2))
        · exact Yx (by decide) (h4 ok mi ⟨hr,hp,hn⟩ no)
        · exact Yz (by decide) (ZCv ok hf hn (by omega) (by omega) af (h5 ok mi ⟨hr,hp,hn⟩ af))
      · exact Yx (by simpa using hp) (h3 ok mi (fun z=>hp z.2.1))
    · exact Yx (by simpa using hr) (h3 ok mi (fun z=>hr z.1))
theorem ZCz (a0:Alg) (a1 a2 a3:Int) (hg:GoodAlg a0) (g1:(Lit.int .i64 a1).wf=true) (g2:(Lit.int .i64 a2).wf=true) (g3:(Lit.int .i64 a3).wf=true) (hb:LenAlg a0):Zk5 a0 a1 a2 a3 (fun r=>r=true):=by
  unfold Zk5
  refine Zxt hb (fun r hr d1 d2 d3=>?_) (fun r hr=>by rw [if_pos hr])
  rw [if_neg (by omega)]
  have hf:=hg.fit d3
  refine Zb3 d1 d2 d3 ?_
  refine ZCy hf (fun no=>?_) (fun ok no=>?_) (fun ok mi no=>?_) (fun ok mi hi no=>?_) (fun ok mi hi af x hx=>?_)
  · exact Zb3 d1 d2 d3 (Zi8 hf (fun _=>Zcp (Zcp (Zb3 d1 d2 d3 (Zh5 (Zh3 rfl))))) (fun ok=>absurd ok no) (fun ok=>absurd ok no) (fun ok=>absurd ok no) (fun ok=>absurd ok no))
  · exact Zb3 d1 d2 d3 (Zi8 hf (fun z=>absurd ok z) (fun _ _=>Zcp (Zcp (Zb3 d1 d2 d3 (Zh5 (Zh3 rfl))))) (fun _ mi=>absurd mi no) (fun _ mi=>absurd mi no) (fun _ mi=>absurd mi no))
  · exact Zb3 d1 d2 d3 (Zi8 hf (fun z=>absurd ok z) (fun _ z=>absurd mi z) (fun _ _ _=>Zcp (Zcp (Zb3 d1 d2 d3 (Zh5 (Zh3 rfl))))) (fun _ _ z=>absurd z no) (fun _ _ z=>absurd z no))
  · exact Zb3 d1 d2 d3 (Zi8 hf (fun z=>absurd ok z) (fun _ z=>absurd mi z) (fun _ _ z=>absurd hi z) (fun _ _ _ _=>Zcp (Zcp (Zb3 d1 d2 d3 (Zh5 (Zh3 rfl))))) (fun _ _ _ z=>absurd z no))
  · exact Zb3 d1 d2 d3 (Zi8 hf (fun z=>absurd ok z) (fun _ z=>absurd mi z) (fun _ _ z=>absurd hi z) (fun _ _ _ z=>absurd af z) (fun _ _ _ _ y hy=>by
      rw [hx.unique hy]
      exact Zcp (Zcp (Zb3 d1 d2 d3 (Zh5 (Zh3 rfl))))))
end Go.Proofs.YtaagfepgbofmlaaGreat
