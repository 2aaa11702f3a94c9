import Derived.Test.YtheenipahifleaaQ2
set_option linter.unusedSectionVars false
set_option linter.unusedSimpArgs false
set_option linter.unusedVariables false
open Classical renaming byContradiction→ZHn
open Decidable renaming not_not→ZGv
open Go renaming wp_seq→ZAc,wp_ret→ZAk,wp_skip→ZAg,wp_block→ZAl,wp_exit→ZAt
open Go.IntKind renaming i64→Zu2,u8→ZAm
open Go.Proofs.SlLaysF renaming n6→ZIn
open Go.Proofs.Try renaming prog→ZAf,underlying32→ZAs,underlying23→ZGy,underlying30→ZAy,underlying22→ZAu,underlying25→ZG8
open Go.Shelf renaming Ren→ZHc
open Go.Sort renaming ahead→ZG0,heap_grow_old→ZIo
open Go.Value renaming ownBlock→Zth
open Inhabited renaming default→Zsn
open Int renaming tmod→Ztb,zero_add→ZC1,add_zero→ZGw,le_refl→ZG1,mul_emod→ZG2,tmod_eq_emod_of_nonneg→ZEq,natCast_nonneg→ZAx,ofNat_lt→ZBk,mul_zero→ZHa,add_emod→ZHb,mul_nonneg→ZHl,mul_le_mul→ZHm,mul_tdiv_add_tmod→ZHv,eq_ofNat_of_zero_le→ZHz
open List renaming mem_cons→Zsj,not_mem_nil→Zur,mem_map→Zty,toArray→ZAa,getD→Zsu,mem_singleton→Zt8,nodup_cons→ZGx,map_cons→Zto,replicate→Zsi,pairwise_cons→Zs8,length_eq_one_iff→ZA6,take_of_length_le→Ztt,getElem_of_mem→Zsx,ext_getElem→Zu8,drop_eq_getElem_cons→ZG5,mem_append→Zsw,pairwise_map→ZG7,length_take→Zup,pairwise_iff_getElem→Zsp,pairwise_singleton→ZHk,mem_append_left→Ztc,mem_append_right→Zs7,getElem_mem→Zsy,drop_eq_nil_of_le→ZHq,pairwise_append→ZHt,mem_of_mem_take→ZIm
open List.Pairwise renaming nil→ZHs
open List.Perm renaming refl→ZHe
open Nat renaming le_of_ble_eq_true→ZAe,le_refl→Zsm,zero_le→Zun,mul_one→ZG6
open Option renaming toList→ZA7
open Prod renaming fst→Ztp
open Vc renaming Form→ZAd,TForm→ZAq
open Vc.A8 renaming ext_get→ZC5,get_set→ZC4
open Vc.Ctx renaming start→ZAv
open Vc.Term renaming mono→ZG3
open Vc.Tr renaming sl→ZGu,item→ZAo
open Vc.Ty renaming item→Zz9
namespace Vc
open Go
theorem Zjq:∀ (xs ys:List Int),xs.length=ys.length→X7 xs ys=0→xs=ys
  | [],[],_,_=>rfl
  | x :: xs, y :: ys, h, h0 => by
    simp only [X7] at h0
    split at h0
    · omega
    · rename_i he
      have he:x=y:=ZGv.1 he
      rw [he,Zjq xs ys (by simpa using h) h0]
  | [],_::_,h,_=>by simp at h
  | _::_,[],h,_=>by simp at h
theorem Zjr:∀ (xs ys:List Int),X7 xs ys=- X7 ys xs
  | [],[]=>rfl
  | x :: xs, y :: ys => by
    simp only [X7]
    have:=Zjr xs ys
    split <;> split <;> omega
  | [],_::_=>rfl
  | _::_,[]=>rfl
theorem A8.list_inj {a b:A8} (h:a.list=b.list):a=b:=by
  cases a; cases b
  simpa [A8.list] using h
theorem Zov (a:A8):pcmp a a=0:=Zmk _
theorem Zjs (a b:A8):pcmp a b=- pcmp b a:=Zjr _ _
theorem Zab {a b c:A8} (h1:pcmp a b < 0) (h2:pcmp b c < 0):pcmp a c < 0:=Ziy a.list b.list c.list rfl rfl h1 h2
theorem Zft {a b:A8} (h1:¬ pcmp a b < 0) (h2:¬ pcmp b a < 0):a=b :=
  A8.list_inj (Zjq _ _ rfl (by have:=Zjs a b; unfold pcmp at *; omega))
theorem Zcj {a b:A8} (h:pcmp a b < 0):a≠b:=by rintro rfl; rw [Zov] at h; omega
theorem Zd5 {a b:A8} (h:pcmp a b < 0):b≠a:=fun e=>Zcj h e.symm
theorem Zjt {a b:A8} (h:pcmp a b < 0):¬ pcmp b a < 0:=by have:=Zjs a b; omega
def tot {α:Type} (f:α→Int):List α→Int
  | []=>0
  | a::l=>f a+tot f l
theorem Zfu {α:Type} (f:α→Int) (l k:List α):tot f (l++k)=tot f l+tot f k:=by
  induction l with
  | nil=>simp [tot]
  | cons a l ih=>simp only [List.cons_append,tot,ih]; omega
theorem Zck {α:Type} (f:α→Int) {l k:List α} (h:l.Perm k):tot f l=tot f k:=by
  induction h with
  | nil=>rfl
  | cons x _ ih=>simp only [tot,ih]
  | swap x y l=>simp only [tot]; omega
  | trans _ _ h1 h2=>exact h1.trans h2
theorem Zbl {α β:Type} (f:β→Int) (g:α→β) (l:List α):tot f (l.map g)=tot (fun a=>f (g a)) l:=by
  induction l with
  | nil=>rfl
  | cons a l ih=>simp only [Zto,tot,ih]
theorem Zd6 {α:Type} {f g:α→Int} {l:List α} (h:∀ a,a∈l→f a=g a):tot f l=tot g l:=by
  induction l with
  | nil=>rfl
  | cons a l ih=>simp only [tot]; rw [h a (by simp),ih fun b hb=>h b (by simp [hb])]
theorem Zow {α:Type} (f g:α→Int) (l:List α):tot (fun a=>f a+g a) l=tot f l+tot g l:=by
  induction l with
  | nil=>simp [tot]
  | cons a l ih=>simp only [tot,ih]; omega
theorem Zfv {α:Type} {f:α→Int} {l:List α} (h:∀ a,a∈l→f a=0):tot f l=0:=by
  induction l with
  | nil=>rfl
  | cons a l ih=>simp only [tot]; rw [h a (by simp),ih fun b hb=>h b (by simp [hb])]; rfl
theorem Zox {α:Type} {f g:α→Int} {l:List α} (h:∀ a,a∈l→f a % 10007=g a % 10007):tot f l % 10007=tot g l % 10007:=by
  induction l with
  | nil=>rfl
  | cons a l ih =>
    have h1:=h a (by simp)
    have h2:=ih fun b hb=>h b (by simp [hb])
    simp only [tot]; omega
def co (l:List (A8×Int)) (m:A8):Int:=tot (fun p=>if p.1=m then p.2 else 0) l
def coT (l:List Term) (m:A8):Int:=tot (fun t=>if t.mono=m then t.factor else 0) l
theorem Jy (p:A8×Int) (l:List (A8×Int)) (m:A8):co (p::l) m=(if p.1=m then p.2 else 0)+co l m:=rfl
theorem Zcl (t:Term) (l:List Term) (m:A8):coT (t::l) m=(if t.mono=m then t.factor else 0)+coT l m:=rfl
theorem Zd7 (m:A8):coT [] m=0:=rfl
theorem Zcm (m:A8):co [] m=0:=rfl
theorem Zau (l:List Term) (t:Term) (m:A8):coT (l++[t]) m=coT l m+(if t.mono=m then t.factor else 0):=by
  rw [coT,Zfu]; simp [tot,coT]
theorem Zd8 {l:List Term} {m:A8} (h:∀ t,t∈l→t.mono≠m):coT l m=0:=Zfv fun t ht=>if_neg (h t ht)
theorem Za4 {l:List (A8×Int)} {m:A8} (h:∀ t,t∈l→t.1≠m):co l m=0:=Zfv fun t ht=>if_neg (h t ht)
def Canon (l:List Term):Prop:=l.Pairwise (fun a b=>pcmp a.mono b.mono < 0)∧∀ t,t∈l→1≤t.factor∧t.factor≤10006
theorem Canon.nil:Canon []:=⟨ZHs,by simp⟩
theorem Canon.tail {t:Term} {l:List Term} (h:Canon (t::l)):Canon l:=⟨(Zs8.1 h.1).2,fun s hs=>h.2 s (by simp [hs])⟩
theorem Canon.head {t:Term} {l:List Term} (h:Canon (t::l)):∀ s,s∈l→pcmp t.mono s.mono < 0:=(Zs8.1 h.1).1
theorem Canon.snoc {l:List Term} {t:Term} (h:Canon l) (hl:∀ s,s∈l→pcmp s.mono t.mono < 0) (hf:1≤t.factor∧t.factor≤10006):Canon (l++[t]):=by
  refine⟨ZHt.2 ⟨h.1,by simp,fun a ha b hb=>?_⟩,fun s hs=>?_⟩
  · obtain rfl:b=t:=by simpa using hb
    exact hl a ha
  · rcases Zsw.1 hs with q | q
    · exact h.2 s q
    · obtain rfl:s=t:=by simpa using q
      exact hf
theorem Canon.at_head {t:Term} {l:List Term} (h:Canon (t::l)):coT (t::l) t.mono=t.factor:=by
  rw [Zcl,if_pos rfl,Zd8 fun s hs=>Zd5 (h.head s hs),ZGw]
theorem Canon.range {l:List Term} (h:Canon l) (m:A8):0≤coT l m∧coT l m≤10006:=by
  induction l with
  | nil=>simp [Zd7]
  | cons t l ih =>
    by_cases hm:t.mono=m
    · subst hm
      rw [h.at_head]
      have:=h.2 t (by simp)
      omega
    · rw [Zcl,if_neg hm,ZC1]
      exact ih h.tail
theorem Zju : ∀ (A B : List Term), Canon A → Canon B → (∀ m, coT A m = coT B m) → A = B
  | [],[],_,_,_=>rfl
  | [], b :: B, _, hB, h => by
    have:=h b.mono
    rw [hB.at_head,Zd7] at this
    have:=hB.2 b (by simp)
    omega
  | a :: A, [], hA, _, h => by
    have:=h a.mono
    rw [hA.at_head,Zd7] at this
    have:=hA.2 a (by simp)
    omega
  | a :: A, b :: B, hA, hB, h => by
    have ha:=hA.2 a (by simp)
    have hb:=hB.2 b (by simp)
    by_cases h1:pcmp a.mono b.mono < 0
    · exfalso
      have:=h a.mono
      rw [hA.at_head,Zd8 (l:=b::B)] at this
      · omega
      · intro t ht
        rcases Zsj.1 ht with rfl | ht
        · exact Zd5 h1
        · exact Zd5 (Zab h1 (hB.head t ht))
    · by_cases h2:pcmp b.mono a.mono < 0
      · exfalso
        have:=h b.mono
        rw [hB.at_head,Zd8 (l:=a::A)] at this
        · omega
        · intro t ht
          rcases Zsj.1 ht with rfl | ht
          · exact Zd5 h2
          · exact Zd5 (Zab h2 (hA.head t ht))
      · have hm:a.mono=b.mono:=Zft h1 h2
        have hf:a.factor=b.factor:=by
          have:=h a.mono
          rw [hA.at_head,hm,hB.at_head] at this; exact this
        have hab:a=b:=by cases a; cases b; simp only at hm hf; rw [hm,hf]
        subst hab
        rw [Zju A B hA.tail hB.tail fun m=>?_]
        have:=h m
        rw [Zcl,Zcl] at this
        omega
theorem Zoy {A B:List Term} (hA:Canon A) (hB:Canon B) (h:∀ m,coT A m % 10007=coT B m % 10007):A=B :=
  Zju A B hA hB fun m=>by have:=h m; have:=hA.range m; have:=hB.range m; omega
theorem Zd9 (x:Int):-10007 < Ztb x 10007∧Ztb x 10007 < 10007:=by
  rcases Int.le_total 0 x with h | h
  · rw [ZEq h]; omega
  · have e:Ztb x 10007=- Ztb (-x) 10007:=by rw [Int.neg_tmod]; omega
    rw [e,ZEq (by omega)]; omega
theorem Zjv (x:Int):Ztb (Ztb x 10007+10007) 10007=x % 10007:=by
  have h1:=Zd9 x
  rw [ZEq (by omega)]
  have h2:x=10007 * Int.tdiv x 10007+Ztb x 10007:=(ZHv x 10007).symm
  omega
theorem Zjw (x:Int):Ztb x 10007 % 10007=x % 10007:=by
  have h2:x=10007 * Int.tdiv x 10007+Ztb x 10007:=(ZHv x 10007).symm
  omega
theorem Zoz {d e:Nat} (h:d * e=10007):d=1∨e=1:=by
  have key:∀ k,k < 101→k ∣ 10007→k≤1:=by decide
  by_cases hd:d < 101
  · left
    have:=key d hd ⟨e,h.symm⟩
    rcases Nat.eq_zero_or_pos d with rfl | q
    · simp at h
    · omega
  · by_cases he:e < 101
    · right
      have:=key e he ⟨d,by rw [Nat.mul_comm]; exact h.symm⟩
      rcases Nat.eq_zero_or_pos e with rfl | q
      · simp at h
      · omega
    · exfalso
      have:101 * 101≤d * e:=Nat.mul_le_mul (by omega) (by omega)
      omega
theorem Zo0 {a:Nat} (h1:1≤a) (h2:a≤10006):Nat.Coprime 10007 a:=by
  obtain ⟨e,he⟩:=Nat.gcd_dvd_left 10007 a
  rcases Zoz he.symm with q | q
  · exact q
  · exfalso
    rw [q,ZG6] at he
    have:=Nat.le_of_dvd (by omega) (Nat.gcd_dvd_right 10007 a)
    omega
theorem Zo1 {a b:Int} (ha:1≤a∧a≤10006) (hb:1≤b∧b≤10006):(a * b) % 10007≠0:=by
  obtain ⟨x,rfl⟩:=ZHz (show 0≤a by omega)
  obtain ⟨y,rfl⟩:=ZHz (show 0≤b by omega)
  intro h
  have h:(x * y) % 10007=0:=by
    have e:((x:Int) * (y:Int))=((x * y:Nat):Int):=(Int.natCast_mul x y).symm
    rw [e] at h; omega
  have:=(Zo0 (a:=x) (by omega) (by omega)).dvd_of_dvd_mul_left (Nat.dvd_of_mod_eq_zero h)
  have:=Nat.le_of_dvd (by omega) this
  omega
theorem Zo2 {s a b:Int} (hs:s=1∨s=-1) (ha:1≤a∧a≤10006) (hb:1≤b∧b≤10006):1≤(s * (a * b)) % 10007∧(s * (a * b)) % 10007≤10006:=by
  have:=Zo1 ha hb
  rcases hs with rfl | rfl <;> omega
theorem Zjx:∀ (a x y:List Int),a.length=x.length→x.length=y.length→X7 (List.zipWith (·+·) a x) (List.zipWith (·+·) a y)=X7 x y
  | [],[],[],_,_=>rfl
  | a :: ar, x :: xs, y :: ys, h1, h2 => by
    simp only [List.zipWith_cons_cons,X7]
    have:=Zjx ar xs ys (by simpa using h1) (by simpa using h2)
    by_cases h:x=y
    · subst h; simpa using this
    · rw [if_pos (by omega),if_pos h]; omega
  | [],_::_,_,h,_=>by simp at h
  | _::_,[],_,h,_=>by simp at h
  | _::_,_::_,[],_,h=>by simp at h
  | [],[],_::_,_,h=>by simp at h
theorem Zo3 (a x y:A8):pcmp (a.add x) (a.add y)=pcmp x y:=Zjx a.list x.list y.list rfl rfl
theorem Jn {α:Type} [Inhabited α] {l:List α} {i:Nat} (h:i < l.length):l.take (i+1)=l.take i++[l.getD i Zsn]:=by
  rw [List.take_add_one]; simp [Zsu,h]
theorem Canon.at_lt {l:List Term} (h:Canon l) {i j:Nat} (hij:i < j) (hj:j < l.length):pcmp (l.getD i Zsn).mono (l.getD j Zsn).mono < 0:=by
  have:=(Zsp.1 h.1) i j (by omega) hj hij
  simpa [Zsu,hj,show i < l.length by omega] using this
theorem Canon.at_range {l:List Term} (h:Canon l) {i:Nat} (hi:i < l.length):1≤(l.getD i Zsn).factor∧(l.getD i Zsn).factor≤10006:=h.2 _ (by simp [Zsu,hi])
theorem Xv {α:Type} [Inhabited α] {l:List α} {i:Nat} (h:i < l.length):l.getD i Zsn∈l:=by simp [Zsu,h]
structure AddI (f g:List Term) (k:Int) (out:List Term) (i j:Nat):Prop where
  hi:i≤f.length
  hj:j≤g.length
  can:Canon out
  cf:∀ m,coT out m % 10007=(coT (f.take i) m+k * coT (g.take j) m) % 10007
  bf:∀ x,x∈out→i < f.length→pcmp x.mono (f.getD i Zsn).mono < 0
  bg:∀ x,x∈out→j < g.length→pcmp x.mono (g.getD j Zsn).mono < 0
  mo:∀ x,x∈out→∃ y,(y∈f∨y∈g)∧y.mono=x.mono
  ln:out.length≤i+j
theorem AddI.zero (f g:List Term) (k:Int):AddI f g k [] 0 0 :=
  ⟨by omega,by omega,Canon.nil,by intro m; simp [Zd7],by simp,by simp,by simp,by simp⟩
theorem Zam {α:Type} {l:List α} {t x:α} (h:x∈l++[t]):x∈l∨x=t:=by simpa using h
theorem AddI.stepF {f g:List Term} {k:Int} {out:List Term} {i j:Nat} (h:AddI f g k out i j) (cf:Canon f) (cg:Canon g) (hi:i < f.length) (hb:j < g.length→pcmp (f.getD i Zsn).mono (g.getD j Zsn).mono < 0) :
    AddI f g k (out++[f.getD i Zsn]) (i+1) j where
  hi:=hi
  hj:=h.hj
  can:=h.can.snoc (fun s hs=>h.bf s hs hi) (cf.at_range hi)
  cf m:=by
    have:=h.cf m
    rw [Zau,Jn hi,Zau]
    omega
  bf x hx hl:=by
    rcases Zam hx with q | rfl
    · exact Zab (h.bf x q hi) (cf.at_lt (by omega) hl)
    · exact cf.at_lt (by omega) hl
  bg x hx hl:=by
    rcases Zam hx with q | rfl
    · exact h.bg x q hl
    · exact hb hl
  mo x hx:=by
    rcases Zam hx with q | rfl
    · exact h.mo x q
    · exact⟨_,.inl (Xv hi),rfl⟩
  ln:=by have:=h.ln; simp; omega
theorem AddI.cfG {f g:List Term} {k:Int} {out:List Term} {i j:Nat} (h:AddI f g k out i j) (hj:j < g.length) (m:A8) :
    k * coT (g.take (j+1)) m=k * coT (g.take j) m+(if(g.getD j Zsn).mono=m then k * (g.getD j Zsn).factor else 0):=by
  rw [Jn hj,Zau,Int.mul_add]
  split <;> simp
theorem AddI.stepG0 {f g:List Term} {k:Int} {out:List Term} {i j:Nat} (h:AddI f g k out i j) (cf:Canon f) (cg:Canon g) (hj:j < g.length)
    (hz:(k * (g.getD j Zsn).factor) % 10007=0):AddI f g k out i (j+1) where
  hi:=h.hi
  hj:=hj
  can:=h.can
  cf m:=by
    have:=h.cf m
    rw [h.cfG hj m]
    split <;> omega
  bf:=h.bf
  bg x hx hl:=Zab (h.bg x hx hj) (cg.at_lt (by omega) hl)
  mo:=h.mo
  ln:=by have:=h.ln; omega
theorem AddI.stepG1 {f g:List Term} {k:Int} {out:List Term} {i j:Nat} (h:AddI f g k out i j) (cf:Canon f) (cg:Canon g) (hj:j < g.length) (hb:i < f.length→pcmp (g.getD j Zsn).mono (f.getD i Zsn).mono < 0)
    {v:Int} (hv:v=(k * (g.getD j Zsn).factor) % 10007) (hz:v≠0):AddI f g k (out++[⟨(g.getD j Zsn).mono,v⟩]) i (j+1) where
  hi:=h.hi
  hj:=hj
  can:=h.can.snoc (fun s hs=>h.bg s hs hj) (by dsimp only; omega)
  cf m:=by
    have:=h.cf m
    rw [h.cfG hj m,Zau]
    dsimp only
    split <;> omega
  bf x hx hl:=by
    rcases Zam hx with q | rfl
    · exact h.bf x q hl
    · exact hb hl
  bg x hx hl:=by
    rcases Zam hx with q | rfl
    · exact Zab (h.bg x q hj) (cg.at_lt (by omega) hl)
    · exact cg.at_lt (by omega) hl
  mo x hx:=by
    rcases Zam hx with q | rfl
    · exact h.mo x q
    · exact⟨_,.inr (Xv hj),rfl⟩
  ln:=by have:=h.ln; simp; omega
theorem AddI.stepB0 {f g:List Term} {k:Int} {out:List Term} {i j:Nat} (h:AddI f g k out i j) (cf:Canon f) (cg:Canon g) (hi:i < f.length) (hj:j < g.length) (he:(f.getD i Zsn).mono=(g.getD j Zsn).mono)
    (hz:((f.getD i Zsn).factor+k * (g.getD j Zsn).factor) % 10007=0):AddI f g k out (i+1) (j+1) where
  hi:=hi
  hj:=hj
  can:=h.can
  cf m:=by
    have:=h.cf m
    rw [h.cfG hj m,Jn hi,Zau,he]
    split <;> omega
  bf x hx hl:=Zab (h.bf x hx hi) (cf.at_lt (by omega) hl)
  bg x hx hl:=Zab (h.bg x hx hj) (cg.at_lt (by omega) hl)
  mo:=h.mo
  ln:=by have:=h.ln; omega
theorem AddI.stepB1 {f g:List Term} {k:Int} {out:List Term} {i j:Nat} (h:AddI f g k out i j) (cf:Canon f) (cg:Canon g) (hi:i < f.length) (hj:j < g.length) (he:(f.getD i Zsn).mono=(g.getD j Zsn).mono)
    {v:Int} (hv:v=((f.getD i Zsn).factor+k * (g.getD j Zsn).factor) % 10007) (hz:v≠0):AddI f g k (out++[⟨(f.getD i Zsn).mono,v⟩]) (i+1) (j+1) where
  hi:=hi
  hj:=hj
  can:=h.can.snoc (fun s hs=>h.bf s hs hi) (by dsimp only; omega)
  cf m:=by
    have:=h.cf m
    rw [h.cfG hj m,Jn hi,Zau,Zau,he]
    dsimp only
    split <;> omega
  bf x hx hl:=by
    rcases Zam hx with q | rfl
    · exact Zab (h.bf x q hi) (cf.at_lt (by omega) hl)
    · exact cf.at_lt (by omega) hl
  bg x hx hl:=by
    rcases Zam hx with q | rfl
    · exact Zab (h.bg x q hj) (cg.at_lt (by omega) hl)
    · dsimp only; rw [he]; exact cg.at_lt (by omega) hl
  mo x hx:=by
    rcases Zam hx with q | rfl
    · exact h.mo x q
    · exact⟨_,.inl (Xv hi),rfl⟩
  ln:=by have:=h.ln; simp; omega
structure IsAdd (f g:List Term) (k:Int) (out:List Term):Prop where
  can:Canon out
  cf:∀ m,coT out m % 10007=(coT f m+k * coT g m) % 10007
  mo:∀ x,x∈out→∃ y,(y∈f∨y∈g)∧y.mono=x.mono
  ln:out.length≤f.length+g.length
theorem AddI.done {f g:List Term} {k:Int} {out:List Term} {i j:Nat} (h:AddI f g k out i j) (hi:¬ i < f.length) (hj:¬ j < g.length):IsAdd f g k out where
  can:=h.can
  cf m:=by have:=h.cf m; rwa [Ztt (by omega),Ztt (by omega)] at this
  mo:=h.mo
  ln:=by have:=h.ln; have:=h.hi; have:=h.hj; omega
def pr1 (ds:List Int) (a:A8) (n:Int) (b:A8) (m':Int) (m:A8):Int:=if(Yu ds a b).1=m then(Yu ds a b).2 * (n * m') else 0
def shC (ds:List Int) (t:Term) (g:List Term) (m:A8):Int:=tot (fun u=>pr1 ds t.mono t.factor u.mono u.factor m) g
def prC (ds:List Int) (f g:List Term) (m:A8):Int:=tot (fun t=>shC ds t g m) f
structure IsShift (ds:List Int) (t:Term) (g out:List Term):Prop where
  can:Canon out
  cf:∀ m,coT out m % 10007=shC ds t g m % 10007
  mo:∀ x,x∈out→∃ u,u∈g∧x.mono=t.mono.add u.mono∧¬ Clash ds t.mono u.mono
  ln:out.length≤g.length
theorem IsShift.nil (ds:List Int) (t:Term):IsShift ds t [] []:=⟨Canon.nil,by intro m; rfl,by simp,by simp⟩
theorem Zjy (ds:List Int) (t:Term) (g:List Term) (u:Term) (m:A8):shC ds t (g++[u]) m=shC ds t g m+pr1 ds t.mono t.factor u.mono u.factor m:=by
  rw [shC,Zfu]; simp [tot,shC]
theorem Canon.init {l:List Term} {u:Term} (h:Canon (l++[u])):Canon l∧∀ s,s∈l→pcmp s.mono u.mono < 0:=by
  have:=ZHt.1 h.1
  exact⟨⟨this.1,fun s hs=>h.2 s (by simp [hs])⟩,fun s hs=>this.2.2 s hs u (by simp)⟩
theorem IsShift.skip {ds:List Int} {t:Term} {g out:List Term} {u:Term} (h:IsShift ds t g out) (hs:(Yu ds t.mono u.mono).2=0):IsShift ds t (g++[u]) out where
  can:=h.can
  cf m:=by
    have:=h.cf m
    rw [Zjy,pr1,hs]
    split <;> simp [this]
  mo x hx:=by
    obtain ⟨u',hu,he⟩:=h.mo x hx
    exact⟨u',by simp [hu],he⟩
  ln:=by have:=h.ln; simp; omega
theorem Zea {ds:List Int} {a b:A8} (h:(Yu ds a b).2≠0):¬ Clash ds a b∧(Yu ds a b).1=a.add b∧((Yu ds a b).2=1∨(Yu ds a b).2=-1):=by
  have hc:¬ Clash ds a b:=fun q=>h (by simp [Yu,q])
  refine⟨hc,by simp [Yu,hc],?_⟩
  simp only [Yu,hc,if_false]
  exact Zi2 _
theorem IsShift.put {ds:List Int} {t:Term} {g out:List Term} {u:Term} (h:IsShift ds t g out) (cg:Canon (g++[u])) (ht:1≤t.factor∧t.factor≤10006) (hs:(Yu ds t.mono u.mono).2≠0) {v:Int} (hv:v=((Yu ds t.mono u.mono).2 * (t.factor * u.factor)) % 10007) :
    IsShift ds t (g++[u]) (out++[⟨(Yu ds t.mono u.mono).1,v⟩]):=by
  obtain ⟨hc,he,hsg⟩:=Zea hs
  have hu:=cg.2 u (by simp)
  have hnz:=Zo2 hsg ht hu
  refine⟨h.can.snoc (fun s hs'=>?_) (by dsimp only; omega),fun m=>?_,fun x hx=>?_,by have:=h.ln; simp; omega⟩
  · obtain ⟨u',hu',he',_⟩:=h.mo s hs'
    dsimp only
    rw [he,he',Zo3]
    exact cg.init.2 u' hu'
  · have:=h.cf m
    rw [Zau,Zjy,pr1]
    dsimp only
    split <;> omega
  · rcases Zam hx with q | rfl
    · obtain ⟨u',hu',he'⟩:=h.mo x q
      exact⟨u',by simp [hu'],he'⟩
    · exact⟨u,by simp,he,hc⟩
structure IsProd (ds:List Int) (f g out:List Term):Prop where
  can:Canon out
  cf:∀ m,coT out m % 10007=prC ds f g m % 10007
  mo:∀ x,x∈out→∃ t u,t∈f∧u∈g∧x.mono=t.mono.add u.mono∧¬ Clash ds t.mono u.mono
  ln:out.length≤f.length * g.length
theorem IsProd.nil (ds:List Int) (g:List Term):IsProd ds [] g []:=⟨Canon.nil,by intro m; rfl,by simp,by simp⟩
theorem IsProd.step {ds:List Int} {f g out sh out':List Term} {t:Term} (h:IsProd ds f g out) (hs:IsShift ds t g sh) (ha:IsAdd out sh 1 out'):IsProd ds (f++[t]) g out' where
  can:=ha.can
  cf m:=by
    have h1:=h.cf m
    have h2:=hs.cf m
    have h3:=ha.cf m
    rw [prC,Zfu]
    simp only [tot]
    unfold prC at h1
    omega
  mo x hx:=by
    obtain ⟨y,hy | hy,he⟩:=ha.mo x hx
    · obtain ⟨a,u,h1,h2,h3,h4⟩:=h.mo y hy
      exact⟨a,u,by simp [h1],h2,he ▸ h3,h4⟩
    · obtain ⟨u,h2,h3,h4⟩:=hs.mo y hy
      exact⟨t,u,by simp,h2,he ▸ h3,h4⟩
  ln:=by
    have h1:=h.ln
    have h2:=hs.ln
    have h3:=ha.ln
    have:(f++[t]).length * g.length=f.length * g.length+g.length:=by simp [Nat.add_mul]
    omega
def MapOk (l:List (A8×Int)):Prop:=(l.map Ztp).Nodup∧∀ p,p∈l→1≤p.2∧p.2≤10006
theorem MapOk.nil:MapOk []:=⟨by simp,by simp⟩
theorem Zcn {l : List (A8 × Int)} (h : (l.map Ztp).Nodup) (m : A8) : (Xz l m).getD 0 = co l m := by
  induction l with
  | nil=>rfl
  | cons p l ih =>
    simp only [Zto,ZGx] at h
    simp only [Xz,Jy]
    by_cases hm:m=p.1
    · subst hm
      rw [if_pos rfl,if_pos rfl,Za4]
      · simp
      · intro t ht e
        exact h.1 (Zty.2 ⟨t,ht,e⟩)
    · rw [if_neg hm,if_neg (fun e=>hm e.symm),ih h.2,ZC1]
theorem Zjz {l : List (A8 × Int)} (h : (l.map Ztp).Nodup) (x : A8) (v : Int) (m : A8) : co (Yk l x v) m = if m = x then v else co l m := by
  induction l with
  | nil => simp only [Yk, Jy, Zcm]; by_cases hm : m = x
           · subst hm; simp
           · rw [if_neg (fun e=>hm e.symm),if_neg hm]; rfl
  | cons p l ih =>
    simp only [Zto,ZGx] at h
    simp only [Yk]
    split
    · rename_i hx
      rw [Jy,Jy]
      dsimp only
      by_cases hm:m=x
      · subst hm
        rw [if_pos rfl,if_pos rfl,Za4]
        · simp
        · intro t ht e
          exact h.1 (Zty.2 ⟨t,ht,by rw [e,hx]⟩)
      · rw [if_neg (fun e=>hm e.symm),if_neg hm,if_neg (fun e=>hm (by rw [hx,e]))]
    · rename_i hx
      rw [Jy,Jy,ih h.2]
      by_cases hm:m=x
      · subst hm; rw [if_pos rfl,if_pos rfl,if_neg (fun e=>hx e.symm)]; simp
      · rw [if_neg hm,if_neg hm]
theorem Zo4 {l : List (A8 × Int)} (h : (l.map Ztp).Nodup) (x : A8) (m : A8) : co (Xk l x) m = if m = x then 0 else co l m := by
  induction l with
  | nil=>simp [Xk,Zcm]
  | cons p l ih =>
    simp only [Zto,ZGx] at h
    simp only [Xk]
    split
    · rename_i hx
      rw [Jy]
      by_cases hm:m=x
      · subst hm
        rw [if_pos rfl,Za4]
        intro t ht e
        exact h.1 (Zty.2 ⟨t,ht,by rw [e,hx]⟩)
      · rw [if_neg hm,if_neg (fun e=>hm (by rw [hx,e]))]; simp
    · rename_i hx
      rw [Jy,Jy,ih h.2]
      by_cases hm:m=x
      · subst hm; rw [if_pos rfl,if_pos rfl,if_neg (fun e=>hx e.symm)]; rfl
      · rw [if_neg hm,if_neg hm]
theorem Zhe {l:List (A8×Int)} {x:A8} {p:A8×Int} (h:p∈Xk l x):p∈l:=by
  induction l with
  | nil=>simp [Xk] at h
  | cons q l ih =>
    simp only [Xk] at h
    split at h
    · simp [h]
    · rcases Zsj.1 h with rfl | h
      · simp
      · simp [ih h]
theorem Zo5 {l:List (A8×Int)} (x:A8) (h:(l.map Ztp).Nodup):((Xk l x).map Ztp).Nodup:=by
  induction l with
  | nil=>simp [Xk]
  | cons q l ih =>
    simp only [Zto,ZGx] at h
    simp only [Xk]
    split
    · exact h.2
    · simp only [Zto,ZGx]
      refine⟨fun hq=>h.1 ?_,ih h.2⟩
      obtain ⟨p,hp,he⟩:=Zty.1 hq
      exact Zty.2 ⟨p,Zhe hp,he⟩
theorem Zhf {l : List (A8 × Int)} {x : A8} {v : Int} {p : A8 × Int} (h : p ∈ Yk l x v) : p = (x, v) ∨ p ∈ l := by
  induction l with
  | nil=>left; simpa [Yk] using h
  | cons q l ih =>
    simp only [Yk] at h
    split at h
    · rcases Zsj.1 h with rfl | h
      · exact .inl rfl
      · exact .inr (by simp [h])
    · rcases Zsj.1 h with rfl | h
      · exact .inr (by simp)
      · rcases ih h with e | e
        · exact .inl e
        · exact .inr (by simp [e])
theorem Zo6 (l:List (A8×Int)) (x:A8) (v:Int):(Yk l x v).length≤l.length+1:=by
  induction l with
  | nil=>simp [Yk]
  | cons q l ih=>simp only [Yk]; split <;> simp; omega
theorem Zo7 (l:List (A8×Int)) (x:A8):(Xk l x).length≤l.length:=by
  induction l with
  | nil=>simp [Xk]
  | cons q l ih=>simp only [Xk]; split <;> simp; omega
theorem MapOk.put {l:List (A8×Int)} (h:MapOk l) {x:A8} {v:Int} (hv:1≤v∧v≤10006):MapOk (Yk l x v) :=
  ⟨Zgt h.1,fun p hp=>by rcases Zhf hp with rfl | q; exact hv; exact h.2 p q⟩
theorem MapOk.del {l:List (A8×Int)} (h:MapOk l) (x:A8):MapOk (Xk l x):=⟨Zo5 x h.1,fun p hp=>h.2 p (Zhe hp)⟩
theorem MapOk.range {l : List (A8 × Int)} (h : MapOk l) (m : A8) : 0 ≤ co l m ∧ co l m ≤ 10006 := by
  rw [← Zcn h.1]
  cases hg:Xz l m with
  | none=>simp
  | some v =>
    have:(m,v)∈l:=by
      clear h
      induction l with
      | nil=>simp [Xz] at hg
      | cons p l ih =>
        simp only [Xz] at hg
        split at hg
        · rename_i e; injection hg with e2; subst e2; subst e; simp
        · simp [ih hg]
    have:=h.2 _ this
    simp only [Option.getD_some]
    dsimp only at this
    omega
structure IsPut (l:List (A8×Int)) (x:A8) (c:Int) (l':List (A8×Int)):Prop where
  ok:MapOk l'
  cf:∀ m,co l' m % 10007=(co l m+if x=m then c else 0) % 10007
  ks:∀ p,p∈l'→p.1=x∨∃ q,q∈l∧q.1=p.1
  ln:l'.length≤l.length+1
theorem IsPut.put {l:List (A8×Int)} (h:MapOk l) {x:A8} {c v:Int} (hv:v=(co l x+c) % 10007) (hz:v≠0):IsPut l x c (Yk l x v) where
  ok:=h.put (by omega)
  cf m:=by
    rw [Zjz h.1]
    by_cases hm:m=x
    · subst hm; rw [if_pos rfl,if_pos rfl]; omega
    · rw [if_neg hm,if_neg (fun e=>hm e.symm)]; simp
  ks p hp:=by
    rcases Zhf hp with rfl | q
    · exact .inl rfl
    · exact .inr ⟨p,q,rfl⟩
  ln:=Zo6 _ _ _
theorem IsPut.del {l:List (A8×Int)} (h:MapOk l) {x:A8} {c:Int} (hz:(co l x+c) % 10007=0):IsPut l x c (Xk l x) where
  ok:=h.del x
  cf m:=by
    rw [Zo4 h.1]
    by_cases hm:m=x
    · subst hm; rw [if_pos rfl,if_pos rfl]; omega
    · rw [if_neg hm,if_neg (fun e=>hm e.symm)]; simp
  ks p hp:=.inr ⟨p,Zhe hp,rfl⟩
  ln:=by have:=Zo7 l x; omega
theorem Zo8 {l : List (A8 × Int)} (h : MapOk l) {xs : List A8} (hp : xs.Perm (l.map Ztp)) (hw : xs.Pairwise (fun a b => ¬ pcmp b a < 0)) : Canon (xs.map fun x => ⟨x, (Xz l x).getD 0⟩) ∧ ∀ m, coT (xs.map fun x => ⟨x, (Xz l x).getD 0⟩) m = co l m := by
  have hnd:xs.Nodup:=hp.nodup_iff.2 h.1
  have hmem:∀ x,x∈xs→∃ v,(x,v)∈l∧(Xz l x).getD 0=v:=by
    intro x hx
    obtain ⟨p,hpl,rfl⟩:=Zty.1 (hp.mem_iff.1 hx)
    refine⟨p.2,hpl,?_⟩
    rw [Zcn h.1]
    have h1:=h.1
    clear hp hx h
    induction l with
    | nil=>simp at hpl
    | cons q l ih =>
      simp only [Zto,ZGx] at h1
      rw [Jy]
      rcases Zsj.1 hpl with rfl | hpl
      · rw [if_pos rfl,Za4]
        · simp
        · intro t ht e; exact h1.1 (Zty.2 ⟨t,ht,e⟩)
      · rw [if_neg (fun e=>h1.1 (Zty.2 ⟨p,hpl,e.symm⟩)),ih hpl h1.2,ZC1]
  refine⟨⟨?_,fun t ht=>?_⟩,fun m=>?_⟩
  · rw [ZG7]
    have:xs.Pairwise (fun a b=>a≠b):=hnd
    refine(hw.and this).imp fun {a b} hab=>?_
    by_cases q:pcmp a b < 0
    · exact q
    · exact absurd (Zft q hab.1) hab.2
  · obtain ⟨x,hx,rfl⟩:=Zty.1 ht
    obtain ⟨v,hv,he⟩:=hmem x hx
    dsimp only
    rw [he]
    exact h.2 _ hv
  · rw [coT,Zbl]
    dsimp only
    rw [Zck _ hp,Zbl]
    refine Zd6 fun p hpl=>?_
    obtain ⟨v,hv,he⟩:=hmem p.1 (hp.mem_iff.2 (Zty.2 ⟨p,hpl,rfl⟩))
    have:v=p.2:=by
      rw [← he,Zcn h.1]
      have h1:=h.1
      clear hp h hmem he hv
      induction l with
      | nil=>simp at hpl
      | cons q l ih =>
        simp only [Zto,ZGx] at h1
        rw [Jy]
        rcases Zsj.1 hpl with rfl | hpl
        · rw [if_pos rfl,Za4]
          · simp
          · intro t ht e; exact h1.1 (Zty.2 ⟨t,ht,e⟩)
        · rw [if_neg (fun e=>h1.1 (Zty.2 ⟨p,hpl,e.symm⟩)),ih hpl h1.2,ZC1]
    rw [he,this]
def Zbm (a:A8):List A8→List A8
  | []=>[a]
  | b::l=>if pcmp a b < 0 then a::b::l else b::Zbm a l
theorem Zj0 (a:A8) (l:List A8):(Zbm a l).Perm (a::l):=by
  induction l with
  | nil=>exact ZHe _
  | cons b l ih =>
    simp only [Zbm]
    split
    · exact ZHe _
    · exact(ih.cons b).trans (List.Perm.swap _ _ _)
theorem Zo9 {a b c:A8} (h1:¬ pcmp b a < 0) (h2:¬ pcmp c b < 0):¬ pcmp c a < 0:=fun h=>by
  by_cases q:pcmp a b < 0
  · exact h2 (Zab h q)
  · have:=Zft q h1
    subst this
    exact h2 h
theorem Zpa {a:A8} {l:List A8} (h:l.Pairwise (fun a b=>¬ pcmp b a < 0)):(Zbm a l).Pairwise (fun a b=>¬ pcmp b a < 0):=by
  induction l with
  | nil=>simp [Zbm]
  | cons b l ih =>
    simp only [Zbm]
    have hb:=Zs8.1 h
    split
    · rename_i q
      refine Zs8.2 ⟨fun x hx=>?_,h⟩
      rcases Zsj.1 hx with rfl | hx
      · exact Zjt q
      · exact Zo9 (Zjt q) (hb.1 x hx)
    · rename_i q
      refine Zs8.2 ⟨fun x hx=>?_,ih hb.2⟩
      rcases Zsj.1 ((Zj0 a l).mem_iff.1 hx) with rfl | hx
      · exact q
      · exact hb.1 x hx
theorem Zj1:∀ l:List A8,∃ xs:List A8,xs.Perm l∧xs.Pairwise (fun a b=>¬ pcmp b a < 0)
  | []=>⟨[],ZHe _,ZHs⟩
  | a :: l => by
    obtain ⟨xs,h1,h2⟩:=Zj1 l
    exact⟨Zbm a xs,(Zj0 a xs).trans (h1.cons a),Zpa h2⟩
end Vc
namespace Vc
open Go Go.RowKit Go.ChangeShapes Go.WideShapes Go.ChangeAt
section
variable {H:Type} {enc:TypeId×Value→H} {P:Program} {W:World}
end
end Vc
set_option maxRecDepth 4000
set_option maxHeartbeats 4000000
namespace Go.Proofs.Ytheenipahifleaa
open Go Go.RowKit Vc
theorem Zj2:ScaT ZAf 53:=⟨⟨_,Try.underlying53,rfl⟩,by kernel_rfl⟩
theorem ag66:AggT ZAf 66 1:=⟨⟨_,Try.underlying66,rfl⟩,by kernel_rfl⟩
theorem sc23:ScaT ZAf 23:=⟨⟨_,ZGy,rfl⟩,by kernel_rfl⟩
theorem Zpb:J8 ZAf 44 (.agg #[.slice none 0 0]) 1 24:=by unfold J8; kernel_rfl
theorem z32:Xx ZAf 32 (.agg #[.slice none 0 0,.slice none 0 0]):=by unfold Xx; kernel_rfl
def Zeb (a0:ZAd) (a1:Alg) (K:Bool→Prop):Prop :=
 Zce a0 (fun r11=>Zds a1 r11 (fun r10=>K (decide ((r10.length:Int) > 0))))
theorem Zpc (a0:ZAd) (a1:Alg) {b1:Nat} {u0_0:Value} {u1_0:Value} {u1_1:Value} {fp0:List Nat} {fp1:List Nat} {K:Bool→Prop} (h:Zeb a0 a1 K) (w0:World) (q0:ZAq.rep a0 [u0_0] fp0 w0) (q1:TAlg.rep a1 [u1_0,u1_1] fp1 w0) (qb1:(blk b1 32 [u1_0,u1_1]).holds w0) :
  Calls ZAf 58 #[.agg #[u0_0],.pointer (some ⟨b1,0,none⟩)] w0 fun e w'=>∃ (r0:Bool),
   e=.returned (.bool r0)∧K r0∧Bel w0 w':=by
 unfold Zeb at h
 refine Zz (args:=[.agg #[u0_0],.pointer (some ⟨b1,0,none⟩)]) Try.func58 rfl 9 Try.ntmps58 (ZAe rfl) ?_
 have hC:=ZAv (X:=Nox) w0 [Zz9 TForm a0 [u0_0] fp0,Zz9 TAlg a1 [u1_0,u1_1] fp1,blk b1 32 [u1_0,u1_1]] (by simp only [Zsj,Zur,or_false,forall_eq_or_imp,forall_eq]; exact⟨q0,q1,qb1⟩)
 have hp4:=(hC.getP 0 rfl)
 replace hC:=hC.derive 0 rfl (Zz9 ETerm.ty.sl a0.terms [u0_0] fp0) (fun _=>(Yx hp4)) (fun _ hb_=>hb_)
 have hp6:=(hC.getP 2 rfl)
 replace hC:=hC.derive 2 rfl (Zz9 ((EI .i64).ty.sl) a1.degrees [u1_0] fp1) (fun _=>(Y3 hp6).1) (fun _ hb_=>hb_)
 replace hC:=hC.derive 3 rfl (Zz9 ZAq.sl a1.images [u1_1] fp1) (fun _=>(Y3 hp6).2) (fun _ hb_=>hb_)
 refine sr (Yg (v:=.agg #[u0_0]) hC [u0_0] rfl rfl fun b9 w10 hB_ hC=>Zc (v:=.bool false) rfl (dn (sr (Yl hC 0 [u0_0] rfl ag44 rfl rfl rfl ?_))))
 refine Zk [.agg #[u0_0]] _ Try.func60 rfl rfl rfl (Zjh a0 h _ (Ys (hC.getP 2 rfl))) (fun ret10 w11 hR10=>?_)
 obtain ⟨r11,b10,rfl,h,hr10,hf10,hB10⟩:=hR10
 refine⟨_,rfl,?_⟩
 replace hC:=hC.push hB10 (Zm (kvA .i64) (vvI .i64) b10 r11) hr10 (fun b_ hb_=>by obtain rfl:=Zt8.1 hb_; exact hf10)
 refine Zk [.pointer (some ⟨b1,0,none⟩),.map (some b10)] _ Try.func59 rfl rfl rfl (Zn7 a1 r11 h _ (Jb (hC.getP 1 rfl) (hC.getP 0 rfl)) (hC.getP 5 rfl) (hC.getM 0 rfl)) (fun ret11 w12 hR11=>?_)
 obtain ⟨r10,b11,rfl,h,hr11,hf11,hB11⟩:=hR11
 refine⟨_,rfl,?_⟩
 replace hC:=hC.push hB11 (Zm (kvA .i64) (vvI .i64) b11 r10) hr11 (fun b_ hb_=>by obtain rfl:=Zt8.1 hb_; exact hf11)
 refine Zmf (hC.getM 0 rfl) Try.underlying95 rfl rfl (Jg rfl rfl (Zc (v:=.bool (decide ((r10.length:Int) > 0))) rfl (dn (ZAk ?_))))
 refine Zg (fn:=Try.f58) rfl ?_ ⟨decide ((r10.length:Int) > 0),rfl,h,hC.below⟩ (.inl rfl)
 exact Zf rfl
def Zfw (a0:List ZAd) (p1:ZAd→(Bool→Prop)→Prop) (K:Int→Prop):Prop :=
 Yh (fun i10 (s10:Unit) nx10=>p1 (a0.getD i10 Zsn) (fun r10=>(if r10=true then K (i10:Int) else nx10 ()))) (fun (s10:Unit)=>K (-1)) a0.length 0 ()
theorem Zpd (a0:List ZAd) (p1:ZAd→(Bool→Prop)→Prop) {u0_0:Value} {fp0:List Nat} {K:Int→Prop} (h:Zfw a0 p1 K) (w0:World) (q0:ZAq.sl.rep a0 [u0_0] fp0 w0) {g1:Nat} {cp1:List Value} {fn1:Func} (hf1:ZAf.funcs[g1]? = some fn1) (hb1:fn1.body.isNone=false) (hn1:(fn1.name == "runtime.NumGoroutine")=false) (hp1:∀ (y0:ZAd) (yu0_0:Value) (yf0:List Nat) (K_:Bool→Prop) (w_:World),Bel w0 w_→ZAq.rep y0 [yu0_0] yf0 w_→p1 y0 K_→Calls ZAf g1 (ZAa ([.agg #[yu0_0]]++cp1)) w_ fun e w'=>∃ (z0:Bool),e=.returned (.bool z0)∧K_ z0∧Bel w_ w') :
  Calls ZAf 61 #[u0_0,.func (.func g1) #[] (ZAa cp1)] w0 fun e w'=>∃ (r0:Int),
   e=.returned (.int .i64 r0)∧K r0∧Bel w0 w':=by
 unfold Zfw at h
 refine Zz (args:=[u0_0,.func (.func g1) #[] (ZAa cp1)]) Try.func61 rfl 19 Try.ntmps61 (ZAe rfl) ?_
 have hC:=ZAv (X:=Nox) w0 [Zz9 ZAq.sl a0 [u0_0] fp0] (by simp only [Zsj,Zur,or_false,forall_eq_or_imp,forall_eq]; exact q0)
 refine sr (Zc (v:=.int .i64 0) rfl (dn (ZAc (sr (Za (v:=u0_0) rfl ?_)))))
 obtain ⟨Ad2,c3,hv4⟩:=Zw (hC.getP 0 rfl)
 refine Zv ZAy (tr rfl hv4) (Za (v:=.int .i64 0) rfl (dn (ZAl ?_)))
 have hN10:a0.length≤9223372036854775807:=Y9 (hC.getP 0 rfl)
 refine Yp (S:=Unit) _ _ (fun i10 s10 e_ w_=>Z1 e_ [(0,u0_0),(1,.func (.func g1) #[] (ZAa cp1)),(7,.int .i64 (a0.length:Int)),(8,.int .i64 (i10:Int))]∧Ctx Nox w0 w_ [] [Zz9 ZAq.sl a0 [u0_0] fp0]) a0.length ?_ ?_ (s0:=()) ?_ h
 ·clear hC h
  rintro i10 s10 e_ w10 nx10 K10 hi10 ⟨hS_,hC⟩ h hK10
  rw [ue hS_]
  refine sr (Zq rfl rfl (dn (ZAc (Yf rfl (decide_eq_true (by omega)) (ZAg (Zd (ZAc (ZAl (sr (Za (v:=.int .i64 (i10:Int)) rfl (Zc (v:=.int .i64 (i10:Int)) rfl ?_)))))))))))
  refine dn (sr (Za (v:=.func (.func g1) #[] (ZAa cp1)) rfl (Za (v:=u0_0) rfl (Za (v:=.int .i64 (i10:Int)) rfl ?_))))
  obtain ⟨Ad10,c10,hv10⟩:=Z6 (hC.getP 0 rfl) i10 hi10
  refine Yv (len:=a0.length) ZAy ag44.size (tr rfl hv10) rfl (ZAx _) (ZBk.2 hi10) ?_
  obtain ⟨cs_,hl10,hc10,hr10⟩:=Ja (hC.getP 0 rfl) hv10 i10 hi10
  obtain ⟨u10,rfl⟩:=ZA6.1 hl10
  clear hl10
  rw [X3 _ _ hi10] at hr10
  have hp10:=hr10
  replace hC:=hC.derive 0 rfl (Zz9 ETerm.ty.sl ((a0.getD i10 Zsn).terms) [u10] fp0) (fun _=>(Yx hp10)) (fun _ hb_=>hb_)
  refine Jh [u10] hc10 ag44 rfl rfl ?_
  refine Zip [.agg #[u10]] _ rfl hf1 hb1 hn1 rfl (hp1 _ _ _ _ _ hC.below (Ys (hC.getP 0 rfl)) h) (fun ret10 w11 hR10=>?_)
  obtain ⟨r10,rfl,h,hB10⟩:=hR10
  refine⟨_,rfl,?_⟩
  replace hC:=hC.grow hB10
  refine dn ?_
  refine Zr rfl (fun hb10=>?_) (fun hb10=>?_)
  ·replace h:=ift h (hb10)
   refine sr (Za (v:=.int .i64 (i10:Int)) rfl (Zc (v:=.int .i64 (i10:Int)) rfl (dn ?_)))
   refine ZAk (Z2 (Ze (Ze (Z2 (Ze ?_)))))
   refine Zg (fn:=Try.f61) rfl ?_ ⟨(i10:Int),rfl,h,hC.below⟩ (.inl rfl)
   exact Zf rfl
  ·replace h:=Zh h (Yw hb10)
   refine ZAg (Zt (Zd (Zn (Zp rfl rfl (Za (v:=.int .i64 (Zu2.wrap ((i10:Int)+1))) rfl (done ?_))))))
   replace hC:=hC.sP [1] (Ps':=[Zz9 ZAq.sl a0 [u0_0] fp0]) rfl
   exact hK10 () _ _ ⟨(sl ⟨rfl,rfl,rfl,(tr rfl (congrArg _ (Yb hi10 hN10))),trivial⟩),hC⟩ h
 ·clear hC h
  rintro s10 e_ w12 K10 ⟨hS_,hC⟩ h
  rw [ue hS_]
  refine sr (Zq rfl rfl (dn (ZAc (Yd rfl (decide_eq_false (by omega)) ?_))))
  refine ZAt (Zl (Zl (Z4 ?_)))
  refine Zd (sr (Zc (v:=.int .i64 (-1)) rfl (dn (ZAk ?_))))
  refine Zg (fn:=Try.f61) rfl ?_ ⟨(-1),rfl,h,hC.below⟩ (.inl rfl)
  exact Zf rfl
 ·skip
  exact⟨(sl ⟨rfl,rfl,rfl,rfl,trivial⟩),hC⟩
def Zco (a0:List ZAd) (p1:ZAd→(Bool→Prop)→Prop) (K:Bool→Prop):Prop :=
 Zfw a0 p1 (fun r5=>K (decide (r5≥0)))
theorem Zj3 (a0:List ZAd) (p1:ZAd→(Bool→Prop)→Prop) {u0_0:Value} {fp0:List Nat} {K:Bool→Prop} (h:Zco a0 p1 K) (w0:World) (q0:ZAq.sl.rep a0 [u0_0] fp0 w0) {g1:Nat} {cp1:List Value} {fn1:Func} (hf1:ZAf.funcs[g1]? = some fn1) (hb1:fn1.body.isNone=false) (hn1:(fn1.name == "runtime.NumGoroutine")=false) (hp1:∀ (y0:ZAd) (yu0_0:Value) (yf0:List Nat) (K_:Bool→Prop) (w_:World),Bel w0 w_→ZAq.rep y0 [yu0_0] yf0 w_→p1 y0 K_→Calls ZAf g1 (ZAa ([.agg #[yu0_0]]++cp1)) w_ fun e w'=>∃ (z0:Bool),e=.returned (.bool z0)∧K_ z0∧Bel w_ w') :
  Calls ZAf 37 #[u0_0,.func (.func g1) #[] (ZAa cp1)] w0 fun e w'=>∃ (r0:Bool),
   e=.returned (.bool r0)∧K r0∧Bel w0 w':=by
 unfold Zco at h
 refine Zz (args:=[u0_0,.func (.func g1) #[] (ZAa cp1)]) Try.func37 rfl 9 Try.ntmps37 (ZAe rfl) ?_
 have hC:=ZAv (X:=Nox) w0 [Zz9 ZAq.sl a0 [u0_0] fp0] (by simp only [Zsj,Zur,or_false,forall_eq_or_imp,forall_eq]; exact q0)
 refine sr (Zc (v:=.bool false) rfl (dn (sr (Za (v:=u0_0) rfl (Za (v:=.func (.func g1) #[] (ZAa cp1)) rfl ?_)))))
 refine Zk [u0_0,.func (.func g1) #[] (ZAa cp1)] _ Try.func61 rfl rfl rfl (Zpd a0 p1 h _ (hC.getP 0 rfl) hf1 hb1 hn1 (fun x0_ x1_ x2_ K_ w_ hb_=>hp1 x0_ x1_ x2_ K_ w_ (Zis hC.below hb_))) (fun Jj w4 hR3=>?_)
 obtain ⟨r5,rfl,h,hB6⟩:=hR3
 refine⟨_,rfl,?_⟩
 replace hC:=hC.grow hB6
 refine Zao rfl rfl (Zc (v:=.bool (decide (r5≥0))) rfl (dn (ZAk ?_)))
 refine Zg (fn:=Try.f37) rfl ?_ ⟨decide (r5≥0),rfl,h,hC.below⟩ (.inl rfl)
 exact Zf rfl
def Zec (a0:Alg) (K:Bool→Prop):Prop :=
 Zdm a0.degrees (fun r11=>(if¬ (r11=true) then K false else(if(a0.images.length:Int)≠(a0.degrees.length:Int) then K false else Yh (fun i10 (s10:Unit) nx10=>Zcg a0.degrees (a0.images.getD i10 Zsn) (fun r10=>(if¬ (r10=true) then K false else((0≤(i10:Int)∧(i10:Int) < (a0.degrees.length:Int))∧Zdq a0.degrees (a0.images.getD i10 Zsn) (Zu2.wrap ((a0.degrees.getD i10 Zsn)+1)) (fun r13=>(if¬ (r13=true) then K false else nx10 ())))))) (fun (s10:Unit)=>Zco a0.images (fun y0_ K_=>Zeb y0_ a0 K_) (fun r12=>K (!r12))) a0.images.length 0 ())))
theorem Zpe (a0:Alg) {u0_0:Value} {u0_1:Value} {fp0:List Nat} {K:Bool→Prop} (h:Zec a0 K) (w0:World) (q0:TAlg.rep a0 [u0_0,u0_1] fp0 w0) :
  Calls ZAf 36 #[.agg #[u0_0,u0_1]] w0 fun e w'=>∃ (r0:Bool),
   e=.returned (.bool r0)∧K r0∧Bel w0 w':=by
 unfold Zec at h
 refine Zz (args:=[.agg #[u0_0,u0_1]]) Try.func36 rfl 50 Try.ntmps36 (ZAe rfl) ?_
 have hC:=ZAv (X:=Nox) w0 [Zz9 TAlg a0 [u0_0,u0_1] fp0] (by simp only [Zsj,Zur,or_false,forall_eq_or_imp,forall_eq]; exact q0)
 have hp2:=(hC.getP 0 rfl)
 replace hC:=hC.derive 0 rfl (Zz9 ((EI .i64).ty.sl) a0.degrees [u0_0] fp0) (fun _=>(Y3 hp2).1) (fun _ hb_=>hb_)
 replace hC:=hC.derive 1 rfl (Zz9 ZAq.sl a0.images [u0_1] fp0) (fun _=>(Y3 hp2).2) (fun _ hb_=>hb_)
 refine sr (Yg (v:=.agg #[u0_0,u0_1]) hC [u0_0,u0_1] rfl rfl fun b5 w7 hB_ hC=>Zc (v:=.bool false) rfl (dn (ZAc (sr (Zx 0 ZAs rfl sc22.size rfl rfl (Z0 hC 0 (u0_0) rfl sc22 rfl rfl ?_))))))
 refine Zk [u0_0] _ Try.func56 rfl rfl rfl (Zn0 a0.degrees h _ (hC.getP 1 rfl)) (fun ret8 w10 hR9=>?_)
 obtain ⟨r11,rfl,h,hB10⟩:=hR9
 refine⟨_,rfl,?_⟩
 replace hC:=hC.grow hB10
 refine Xc rfl (Za (v:=.bool (!r11)) rfl ?_)
 refine Yy (!r11) (fun hb11=>?_) (fun hb11=>?_)
 ·replace h:=ift h (Yw (Xg hb11))
  refine Zi (b:=true) 4 9 rfl (tr rfl (congrArg _ hb11)) (by decide) (Zi (b:=true) 4 9 rfl (tr rfl (congrArg _ hb11)) (by decide) (Zi (b:=true) 4 9 rfl (tr rfl (congrArg _ hb11)) (by decide) (Zi (b:=true) 4 9 rfl (tr rfl (congrArg _ hb11)) (by decide) (Zi (b:=true) 4 9 rfl (tr rfl (congrArg _ hb11)) (by decide) (Zi (b:=true) 4 9 rfl (tr rfl (congrArg _ hb11)) (by decide) (Zi (b:=true) 4 9 rfl (tr rfl (congrArg _ hb11)) (by decide) (Z3 (v:=.bool true) (b:=true) (tr rfl (congrArg _ hb11)) rfl (dn (Yf rfl rfl (sr (Zc (v:=.bool false) rfl ?_)))))))))))
  refine dn ?_
  refine ZAk (Ze ?_)
  refine Zg (fn:=Try.f36) rfl ?_ ⟨false,rfl,h,hC.below⟩ (.inl rfl)
  exact Zf rfl
 ·replace h:=Zh h (not_not_intro ((Xh hb11)))
  refine Zj 4 9 rfl rfl hb11 (Zx 1 ZAs rfl sc30.size rfl rfl (Zj 4 9 rfl rfl hb11 (Z0 hC 0 (u0_1) rfl sc30 rfl rfl (Zj 4 9 rfl rfl hb11 ?_))))
  obtain ⟨Ad11,c10,hv12⟩:=Zw (hC.getP 0 rfl)
  refine Zv ZAy (tr rfl hv12) (Zj 4 9 rfl rfl hb11 (Zx 0 ZAs rfl sc22.size rfl rfl (Zj 4 9 rfl rfl hb11 (Z0 hC 0 (u0_0) rfl sc22 rfl rfl (Zj 4 9 rfl rfl hb11 ?_)))))
  obtain ⟨Ad12,c11,hv13⟩:=Zw (hC.getP 1 rfl)
  refine Zv ZAu (tr rfl hv13) (Zj 4 9 rfl rfl hb11 (Y0 rfl rfl (Z3 (v:=.bool (decide ((a0.images.length:Int)≠(a0.degrees.length:Int)))) (b:=false) (tr rfl (congrArg _ hb11)) rfl (dn ?_))))
  refine Zr rfl (fun hb12=>?_) (fun hb12=>?_)
  ·replace h:=ift h (ct hb12)
   refine sr (Zc (v:=.bool false) rfl (dn ?_))
   refine ZAk (Ze ?_)
   refine Zg (fn:=Try.f36) rfl ?_ ⟨false,rfl,h,hC.below⟩ (.inl rfl)
   exact Zf rfl
  ·replace h:=Zh h (cf hb12)
   refine ZAg (Zd (ZAc (sr (Zx 1 ZAs rfl sc30.size rfl rfl (Z0 hC 0 (u0_1) rfl sc30 rfl rfl ?_)))))
   obtain ⟨Ad13,c12,hv14⟩:=Zw (hC.getP 0 rfl)
   refine Zv ZAy (tr rfl hv14) (Za (v:=.int .i64 0) rfl (dn (ZAl ?_)))
   have hN10:a0.images.length≤9223372036854775807:=Y9 (hC.getP 0 rfl)
   refine Yp (S:=Unit) _ _ (fun i10 s10 e_ w_=>Z1 e_ [(1,.pointer (some ⟨b5,0,none⟩)),(19,u0_1),(20,.int .i64 (a0.images.length:Int)),(21,.int .i64 (i10:Int))]∧Ctx Nox w0 w_ [blk b5 32 [u0_0,u0_1]] [Zz9 ZAq.sl a0.images [u0_1] fp0,Zz9 ((EI .i64).ty.sl) a0.degrees [u0_0] fp0,Zz9 TAlg a0 [u0_0,u0_1] fp0]) a0.images.length ?_ ?_ (s0:=()) ?_ h
   ·clear hC h
    rintro i10 s10 e_ w11 nx10 K10 hi10 ⟨hS_,hC⟩ h hK10
    rw [ue hS_]
    refine sr (Zq rfl rfl (dn (ZAc (Yf rfl (decide_eq_true (by omega)) (ZAg (Zd (ZAc (ZAl (sr (Za (v:=.int .i64 (i10:Int)) rfl ?_))))))))))
    obtain ⟨Ad14,c13,hv10⟩:=Z6 (hC.getP 0 rfl) i10 hi10
    refine Yv (len:=a0.images.length) ZAy ag44.size (tr rfl hv10) rfl (ZAx _) (ZBk.2 hi10) ?_
    obtain ⟨cs_,hl10,hc10,hr10⟩:=Ja (hC.getP 0 rfl) hv10 i10 hi10
    obtain ⟨u10,rfl⟩:=ZA6.1 hl10
    clear hl10
    rw [X3 _ _ hi10] at hr10
    have hp10:=hr10
    replace hC:=hC.derive 0 rfl (Zz9 ETerm.ty.sl ((a0.images.getD i10 Zsn).terms) [u10] fp0) (fun _=>(Yx hp10)) (fun _ hb_=>hb_)
    refine Jh [u10] hc10 ag44 rfl rfl (Ye hC [.slice none 0 0] z44 rfl fun b10 w12 hB_ hC=>Zc (v:=.int .i64 (i10:Int)) rfl (Zy (v:=.agg #[u10]) hC 0 [u10] [u10] rfl ag44.size rfl rfl rfl rfl (Y4 (Zb5 (hC.getP 0 rfl)) rfl) (ZAe rfl) rfl fun w13 hC=>dn (ZAc ?_)))
    refine Yq 15 mixed [0,1,0,7,15,31,63,127,63,63,575,63,3647,7743,15935,32767,65535,131071] [1,2,7,8,10,12,13] [0,4,5,6,7,8,9,10,11,12,13,14] (by kernel_rfl) (by kernel_rfl) (by kernel_rfl) (fun hM11 hM10 w14 hB_=>?_)
    replace hC:=hC.grow hB_
    refine aF 0 (.pointer (some ⟨b5,0,none⟩)) rfl rfl (hM10 0 rfl) (rfl) (fun _=>by exact Yi 0 ZAs rfl sc22.size rfl rfl) (Zb 18 1) (aL 1 (u0_0) rfl rfl (hM11 1 rfl) (rfl) (fun _ hB_=>by exact Yc (hC.grow hB_) 1 (u0_0) rfl sc22 rfl rfl) (Zb 18 3) (aL 2 (.agg #[u10]) rfl rfl (hM11 2 rfl) (rfl) (fun _ hB_=>by exact Y8 (hC.grow hB_) 0 [u10] rfl ag44 rfl rfl rfl) (Zb 18 7) (aO 3 rfl ?_)))
    refine Zk [u0_0,.agg #[u10]] _ Try.func39 rfl rfl rfl (Zjj a0.degrees (a0.images.getD i10 Zsn) h _ (hC.getP 2 rfl) (Ys (hC.getP 0 rfl))) (fun ret10 w15 hR10=>?_)
    obtain ⟨r10,rfl,h,hB11⟩:=hR10
    refine⟨_,rfl,?_⟩
    replace hC:=hC.grow hB11
    refine done (aK (by assumption) (Zb 18 15) (aF 4 (.bool (!r10)) rfl rfl (hM10 4 rfl) (rfl) (fun _=>by exact Zgg rfl) (Zb 18 31) (aF 5 (.bool (!r10)) rfl rfl (hM10 5 rfl) (rfl) (fun _=>by exact Zs (v:=.bool (!r10)) rfl) (Zb 18 63) ?_)))
    refine Yy (!r10) (fun hb10=>?_) (fun hb10=>?_)
    ·replace h:=ift h (Yw (Xg hb10))
     refine Zo Zu 6 undef rfl rfl (by kernel_rfl) (hM10 6 rfl) (fun w_=>.inr ⟨Z5 (b:=true) 5 31 rfl (tr rfl (congrArg _ hb10)) (by decide),rfl⟩) (l9:=(Zb 18 127)) (by kernel_rfl) (Zo Zu 7 undef rfl rfl (by kernel_rfl) (hM10 7 rfl) (fun w_=>.inr ⟨Z5 (b:=true) 5 31 rfl (tr rfl (congrArg _ hb10)) (by decide),rfl⟩) (l9:=(Zb 18 255)) (by kernel_rfl) (Zo Zu 8 undef rfl rfl (by kernel_rfl) (hM10 8 rfl) (fun w_=>.inr ⟨Z5 (b:=true) 5 31 rfl (tr rfl (congrArg _ hb10)) (by decide),rfl⟩) (l9:=(Zb 18 511)) (by kernel_rfl) (Zo Zu 9 undef rfl rfl (by kernel_rfl) (hM10 9 rfl) (fun w_=>.inr ⟨Z5 (b:=true) 5 31 rfl (tr rfl (congrArg _ hb10)) (by decide),rfl⟩) (l9:=(Zb 18 1023)) (by kernel_rfl) (Zo Zu 10 undef rfl rfl (by kernel_rfl) (hM10 10 rfl) (fun w_=>.inr ⟨Z5 (b:=true) 5 31 rfl (tr rfl (congrArg _ hb10)) (by decide),rfl⟩) (l9:=(Zb 18 2047)) (by kernel_rfl) (Zo Zu 11 undef rfl rfl (by kernel_rfl) (hM10 11 rfl) (fun w_=>.inr ⟨Z5 (b:=true) 5 31 rfl (tr rfl (congrArg _ hb10)) (by decide),rfl⟩) (l9:=(Zb 18 4095)) (by kernel_rfl) (Zo Zu 12 undef rfl rfl (by kernel_rfl) (hM10 12 rfl) (fun w_=>.inr ⟨Z5 (b:=true) 5 31 rfl (tr rfl (congrArg _ hb10)) (by decide),rfl⟩) (l9:=(Zb 18 8191)) (by kernel_rfl) (Zo Zu 13 undef rfl rfl (by kernel_rfl) (hM10 13 rfl) (fun w_=>.inr ⟨Z5 (b:=true) 5 31 rfl (tr rfl (congrArg _ hb10)) (by decide),rfl⟩) (l9:=(Zb 18 16383)) (by kernel_rfl) ?_)))))))
     refine Zo Zu 14 undef rfl rfl (by kernel_rfl) (hM10 14 rfl) (fun w_=>.inr ⟨Z5 (b:=true) 5 31 rfl (tr rfl (congrArg _ hb10)) (by decide),rfl⟩) (l9:=(Zb 18 32767)) (by kernel_rfl) (Z7 15 (by decide) (by decide) (by kernel_rfl) (by kernel_rfl) rfl (Zi (b:=true) 5 31 rfl (tr rfl (congrArg _ hb10)) (by decide) (Zi (b:=true) 5 31 rfl (tr rfl (congrArg _ hb10)) (by decide) (Z3 (v:=.bool true) (b:=true) (tr rfl (congrArg _ hb10)) rfl (done (Z8 (Zd (Yf rfl rfl (sr (Zc (v:=.bool false) rfl (dn ?_)))))))))))
     refine ZAk (Z2 (Ze (Ze (Z2 (Ze ?_)))))
     refine Zg (fn:=Try.f36) rfl ?_ ⟨false,rfl,h,hC.below⟩ (.inl rfl)
     exact Zf rfl
    ·replace h:=Zh h (not_not_intro ((Xh hb10)))
     refine aF 6 (.pointer (some ⟨b5,0,none⟩)) rfl rfl (hM10 6 rfl) (Z9 5 31 rfl rfl hb10) (fun _=>by exact Yi 0 ZAs rfl sc22.size rfl rfl) (Zb 18 127) (aL 7 (u0_0) rfl rfl (hM11 7 rfl) (Z9 5 31 rfl rfl hb10) (fun _ hB_=>by exact Yc (hC.grow hB_) 1 (u0_0) rfl sc22 rfl rfl) (Zb 18 255) (aL 8 (.agg #[u10]) rfl rfl (hM11 8 rfl) (Z9 5 31 rfl rfl hb10) (fun _ hB_=>by exact Y8 (hC.grow hB_) 0 [u10] rfl ag44 rfl rfl rfl) (Zb 18 511) (aF 9 (.pointer (some ⟨b5,0,none⟩)) rfl rfl (hM10 9 rfl) (Z9 5 31 rfl rfl hb10) (fun _=>by exact Yi 0 ZAs rfl sc22.size rfl rfl) (Zb 18 1023) (aL 10 (u0_0) rfl rfl (hM11 10 rfl) (Z9 5 31 rfl rfl hb10) (fun _ hB_=>by exact Yc (hC.grow hB_) 1 (u0_0) rfl sc22 rfl rfl) (Zb 18 2047) (aF 11 (.int .i64 (i10:Int)) rfl rfl (hM10 11 rfl) (Z9 5 31 rfl rfl hb10) (fun _=>by exact Zs (v:=.int .i64 (i10:Int)) rfl) (Zb 18 4095) ?_)))))
     obtain ⟨⟨h10,h11⟩,h⟩:=h
     obtain ⟨Ad10,c14,hv11⟩:=Z6 (hC.getP 2 rfl) i10 (show i10 < a0.degrees.length by omega)
     refine aL 12 (.pointer (some (Ad10.add (i10 * 1)))) rfl rfl (hM11 12 rfl) (Z9 5 31 rfl rfl hb10) (fun _ hB_=>by exact Y2 (len:=a0.degrees.length) ZAu sc2.size (by exact tr rfl hv11) rfl h10 h11) (Zb 18 8191) (aL 13 (.int .i64 (a0.degrees.getD i10 Zsn)) rfl rfl (hM11 13 rfl) (Z9 5 31 rfl rfl hb10) (fun _ hB_=>by exact J9 (.int .i64 (a0.degrees.getD i10 Zsn)) (Yj ((hC.grow hB_).getP 2 rfl) hv11 i10 (show i10 < a0.degrees.length by omega)) sc2 rfl) (Zb 18 16383) (aF 14 (.int .i64 (Zu2.wrap ((a0.degrees.getD i10 Zsn)+1))) rfl rfl (hM10 14 rfl) (Z9 5 31 rfl rfl hb10) (fun _=>by exact Zh1 rfl rfl) (Zb 18 32767) (Z7 15 (by decide) (by decide) (by kernel_rfl) (by kernel_rfl) rfl (Zj 5 31 rfl rfl hb10 ?_))))
     refine Zk [u0_0,.agg #[u10],.int .i64 (Zu2.wrap ((a0.degrees.getD i10 Zsn)+1))] _ Try.func57 rfl rfl rfl (Zn5 a0.degrees (a0.images.getD i10 Zsn) (Zu2.wrap ((a0.degrees.getD i10 Zsn)+1)) h _ (hC.getP 2 rfl) (Ys (hC.getP 0 rfl))) (fun ret11 w16 hR11=>?_)
     obtain ⟨r13,rfl,h,hB12⟩:=hR11
     refine⟨_,rfl,?_⟩
     replace hC:=hC.grow hB12
     refine Zj 5 31 rfl rfl hb10 (Xc rfl (Z3 (v:=.bool (!r13)) (b:=false) (tr rfl (congrArg _ hb10)) rfl (done (Z8 (Zd ?_)))))
     refine Zr rfl (fun hb13=>?_) (fun hb13=>?_)
     ·replace h:=ift h (Yw (Xg hb13))
      refine sr (Zc (v:=.bool false) rfl (dn ?_))
      refine ZAk (Z2 (Ze (Ze (Z2 (Ze ?_)))))
      refine Zg (fn:=Try.f36) rfl ?_ ⟨false,rfl,h,hC.below⟩ (.inl rfl)
      exact Zf rfl
     ·replace h:=Zh h (not_not_intro ((Xh hb13)))
      refine ZAg (Zt (Zd (Zn (Zp rfl rfl (Za (v:=.int .i64 (Zu2.wrap ((i10:Int)+1))) rfl (done ?_))))))
      replace hC:=hC.sM [1] (M':=[blk b5 32 [u0_0,u0_1]]) (by decide) rfl
      replace hC:=hC.sP [1,2,3] (Ps':=[Zz9 ZAq.sl a0.images [u0_1] fp0,Zz9 ((EI .i64).ty.sl) a0.degrees [u0_0] fp0,Zz9 TAlg a0 [u0_0,u0_1] fp0]) rfl
      exact hK10 () _ _ ⟨(sl ⟨rfl,rfl,rfl,(tr rfl (congrArg _ (Yb hi10 hN10))),trivial⟩),hC⟩ h
   ·clear hC h
    rintro s10 e_ w17 K10 ⟨hS_,hC⟩ h
    rw [ue hS_]
    refine sr (Zq rfl rfl (dn (ZAc (Yd rfl (decide_eq_false (by omega)) ?_))))
    refine ZAt (Zl (Zl (Z4 ?_)))
    refine Zd (sr (Zx 1 ZAs rfl sc30.size rfl rfl (Z0 hC 0 (u0_1) rfl sc30 rfl rfl (Zir (g:=58) [.pointer (some ⟨b5,0,none⟩)] (Ziq rfl rfl) ?_))))
    refine Zk [u0_1,.func (.func 58) #[] (ZAa [.pointer (some ⟨b5,0,none⟩)])] _ Try.func37 rfl rfl rfl (Zj3 a0.images (fun y0_ K_=>Zeb y0_ a0 K_) h _ (hC.getP 0 rfl) Try.func58 rfl rfl (fun y0_ yu0_0_ yf0_ K_ w_ hb_ rq0_ hq_=>Zpc y0_ a0 hq_ w_ rq0_ (Jb ((hC.grow hb_).getP 1 rfl) ((hC.grow hb_).getP 0 rfl)) ((hC.grow hb_).getM 0 rfl))) (fun ret12 w18 hR12=>?_)
    obtain ⟨r12,rfl,h,hB13⟩:=hR12
    refine⟨_,rfl,?_⟩
    replace hC:=hC.grow hB13
    refine Xc rfl (Zc (v:=.bool (!r12)) rfl (dn (ZAk ?_)))
    refine Zg (fn:=Try.f36) rfl ?_ ⟨!r12,rfl,h,hC.below⟩ (.inl rfl)
    exact Zf rfl
   ·skip
    exact⟨(sl ⟨rfl,rfl,rfl,rfl,trivial⟩),hC⟩
def Zfx (a0:ZAd) (a1:Alg) (K:Bool→Prop):Prop :=
 Zcg a1.degrees a0 (fun r10=>K (!r10))
theorem Zpf (a0:ZAd) (a1:Alg) {b1:Nat} {bp1:Nat} {u0_0:Value} {u1_0:Value} {u1_1:Value} {fp0:List Nat} {fp1:List Nat} {K:Bool→Prop} (h:Zfx a0 a1 K) (w0:World) (q0:ZAq.rep a0 [u0_0] fp0 w0) (q1:TAlg.rep a1 [u1_0,u1_1] fp1 w0) (qb1:(blk b1 32 [u1_0,u1_1]).holds w0) (qbp1:(blk bp1 53 [.pointer (some ⟨b1,0,none⟩)]).holds w0) :
  Calls ZAf 38 #[.agg #[u0_0],.pointer (some ⟨bp1,0,none⟩)] w0 fun e w'=>∃ (r0:Bool),
   e=.returned (.bool r0)∧K r0∧Bel w0 w':=by
 unfold Zfx at h
 refine Zz (args:=[.agg #[u0_0],.pointer (some ⟨bp1,0,none⟩)]) Try.func38 rfl 11 Try.ntmps38 (ZAe rfl) ?_
 have hC:=ZAv (X:=Nox) w0 [Zz9 TForm a0 [u0_0] fp0,Zz9 TAlg a1 [u1_0,u1_1] fp1,blk b1 32 [u1_0,u1_1],blk bp1 53 [.pointer (some ⟨b1,0,none⟩)]] (by simp only [Zsj,Zur,or_false,forall_eq_or_imp,forall_eq]; exact⟨q0,q1,qb1,qbp1⟩)
 have hp5:=(hC.getP 0 rfl)
 replace hC:=hC.derive 0 rfl (Zz9 ETerm.ty.sl a0.terms [u0_0] fp0) (fun _=>(Yx hp5)) (fun _ hb_=>hb_)
 have hp7:=(hC.getP 2 rfl)
 replace hC:=hC.derive 2 rfl (Zz9 ((EI .i64).ty.sl) a1.degrees [u1_0] fp1) (fun _=>(Y3 hp7).1) (fun _ hb_=>hb_)
 replace hC:=hC.derive 3 rfl (Zz9 ZAq.sl a1.images [u1_1] fp1) (fun _=>(Y3 hp7).2) (fun _ hb_=>hb_)
 refine sr (Yg (v:=.agg #[u0_0]) hC [u0_0] rfl rfl fun b10 w10 hB_ hC=>Zc (v:=.bool false) rfl (dn (ZAc ?_)))
 refine Yq 5 mixed [0,1,3,7,0,31,63,127] [0,3,4] [1,2] (by kernel_rfl) (by kernel_rfl) (by kernel_rfl) (fun hM10 hM11 w11 hB_=>?_)
 replace hC:=hC.grow hB_
 refine aL 0 (.pointer (some ⟨b1,0,none⟩)) rfl rfl (hM10 0 rfl) (rfl) (fun _ hB_=>by exact Zc5 (.pointer (some ⟨b1,0,none⟩)) ((hC.grow hB_).getP 6 rfl) Zj2 rfl rfl) (Zb 8 1) (aF 1 (.pointer (some ⟨b1,0,none⟩)) rfl rfl (hM11 1 rfl) (rfl) (fun _=>by exact Zgi rfl) (Zb 8 3) (aF 2 (.pointer (some ⟨b1,0,none⟩)) rfl rfl (hM11 2 rfl) (rfl) (fun _=>by exact Yi 0 ZAs rfl sc22.size rfl rfl) (Zb 8 7) (aL 3 (u1_0) rfl rfl (hM10 3 rfl) (rfl) (fun _ hB_=>by exact Zc5 (u1_0) ((hC.grow hB_).getP 5 rfl) sc22 rfl rfl) (Zb 8 15) (aL 4 (.agg #[u0_0]) rfl rfl (hM10 4 rfl) (rfl) (fun _ hB_=>by exact Y8 (hC.grow hB_) 0 [u0_0] rfl ag44 rfl rfl rfl) (Zb 8 31) (Z7 5 (by decide) (by decide) (by kernel_rfl) (by kernel_rfl) rfl ?_)))))
 refine Zk [u1_0,.agg #[u0_0]] _ Try.func39 rfl rfl rfl (Zjj a1.degrees a0 h _ (hC.getP 1 rfl) (Ys (hC.getP 2 rfl))) (fun ret10 w12 hR10=>?_)
 obtain ⟨r10,rfl,h,hB10⟩:=hR10
 refine⟨_,rfl,?_⟩
 replace hC:=hC.grow hB10
 refine Xc rfl (Zc (v:=.bool (!r10)) rfl (done (Z8 (Zd (ZAk ?_)))))
 refine Zg (fn:=Try.f38) rfl ?_ ⟨!r10,rfl,h,hC.below⟩ (.inl rfl)
 exact Zf rfl
def Zed (a0:Alg) (a1:List ZAd) (K:Int→Prop):Prop :=
 Zec a0 (fun r11=>(if¬ (r11=true) then Zci true 1 (fun r12=>K r12) else Zco a1 (fun y0_ K_=>Zfx y0_ a0 K_) (fun r10=>Zci r10 1 (fun r13=>K r13))))
theorem Zpg (a0:Alg) (a1:List ZAd) {b0:Nat} {u0_0:Value} {u0_1:Value} {u1_0:Value} {fp0:List Nat} {fp1:List Nat} {K:Int→Prop} (h:Zed a0 a1 K) (w0:World) (q0:TAlg.rep a0 [u0_0,u0_1] fp0 w0) (qb0:(blk b0 32 [u0_0,u0_1]).holds w0) (q1:ZAq.sl.rep a1 [u1_0] fp1 w0) :
  Calls ZAf 19 #[.pointer (some ⟨b0,0,none⟩),u1_0] w0 fun e w'=>∃ (r0:Int),
   e=.returned (.int .i64 r0)∧K r0∧Bel w0 w':=by
 unfold Zed at h
 refine Zz (args:=[.pointer (some ⟨b0,0,none⟩),u1_0]) Try.func19 rfl 18 Try.ntmps19 (ZAe rfl) ?_
 have hC:=ZAv (X:=Nox) w0 [Zz9 TAlg a0 [u0_0,u0_1] fp0,Zz9 ZAq.sl a1 [u1_0] fp1,blk b0 32 [u0_0,u0_1]] (by simp only [Zsj,Zur,or_false,forall_eq_or_imp,forall_eq]; exact⟨q0,q1,qb0⟩)
 have hp4:=(hC.getP 0 rfl)
 replace hC:=hC.derive 0 rfl (Zz9 ((EI .i64).ty.sl) a0.degrees [u0_0] fp0) (fun _=>(Y3 hp4).1) (fun _ hb_=>hb_)
 replace hC:=hC.derive 1 rfl (Zz9 ZAq.sl a0.images [u0_1] fp0) (fun _=>(Y3 hp4).2) (fun _ hb_=>hb_)
 refine sr (Yg (v:=.pointer (some ⟨b0,0,none⟩)) hC [.pointer (some ⟨b0,0,none⟩)] rfl rfl fun b7 w9 hB_ hC=>Zc (v:=.int .i64 0) rfl (dn (sr (Z0 hC 0 (.pointer (some ⟨b0,0,none⟩)) rfl Zj2 rfl rfl (Zbx rfl (Zl2 [u0_0,u0_1] (hC.getP 4 rfl) ag32 rfl rfl rfl ?_))))))
 refine Zk [.agg #[u0_0,u0_1]] _ Try.func36 rfl rfl rfl (Zpe a0 h _ (Jb (hC.getP 1 rfl) (hC.getP 0 rfl))) (fun ret10 w10 hR10=>?_)
 obtain ⟨r11,rfl,h,hB10⟩:=hR10
 refine⟨_,rfl,?_⟩
 replace hC:=hC.grow hB10
 refine Xc rfl (Za (v:=.bool (!r11)) rfl ?_)
 refine Yy (!r11) (fun hb10=>?_) (fun hb10=>?_)
 ·replace h:=ift h (Yw (Xg hb10))
  refine Zi (b:=true) 5 11 rfl (tr rfl (congrArg _ hb10)) (by decide) (Zi (b:=true) 5 11 rfl (tr rfl (congrArg _ hb10)) (by decide) (Zi (b:=true) 5 11 rfl (tr rfl (congrArg _ hb10)) (by decide) (Z3 (v:=.bool true) (b:=true) (tr rfl (congrArg _ hb10)) rfl (Zc (v:=.bool true) rfl (dn (sr (Za (v:=.bool true) rfl ?_)))))))
  refine Zk [.bool true,.int .i64 1] _ Try.func40 rfl rfl rfl (Zjl true 1 h _) (fun ret11 w11 hR11=>?_)
  obtain ⟨r12,rfl,h,hB11⟩:=hR11
  refine⟨_,rfl,?_⟩
  replace hC:=hC.grow hB11
  refine Zc (v:=.int .i64 r12) rfl (dn (ZAk ?_))
  refine Zg (fn:=Try.f19) rfl ?_ ⟨r12,rfl,h,hC.below⟩ (.inl rfl)
  exact Zf rfl
 ·replace h:=Zh h (not_not_intro ((Xh hb10)))
  refine Zj 5 11 rfl rfl hb10 (Za (v:=u1_0) rfl (Zj 5 11 rfl rfl hb10 (Zir (g:=38) [.pointer (some ⟨b7,0,none⟩)] (Ziq rfl rfl) (Zj 5 11 rfl rfl hb10 ?_))))
  refine Zk [u1_0,.func (.func 38) #[] (ZAa [.pointer (some ⟨b7,0,none⟩)])] _ Try.func37 rfl rfl rfl (Zj3 a1 (fun y0_ K_=>Zfx y0_ a0 K_) h _ (hC.getP 3 rfl) Try.func38 rfl rfl (fun y0_ yu0_0_ yf0_ K_ w_ hb_ rq0_ hq_=>Zpf y0_ a0 hq_ w_ rq0_ (Jb ((hC.grow hb_).getP 1 rfl) ((hC.grow hb_).getP 0 rfl)) ((hC.grow hb_).getP 4 rfl) ((hC.grow hb_).getM 0 rfl))) (fun ret12 w12 hR12=>?_)
  obtain ⟨r10,rfl,h,hB12⟩:=hR12
  refine⟨_,rfl,?_⟩
  replace hC:=hC.grow hB12
  refine Z3 (v:=.bool r10) (b:=false) (tr rfl (congrArg _ hb10)) rfl (Zc (v:=.bool r10) rfl (dn (sr (Za (v:=.bool r10) rfl ?_))))
  refine Zk [.bool r10,.int .i64 1] _ Try.func40 rfl rfl rfl (Zjl r10 1 h _) (fun ret13 w13 hR13=>?_)
  obtain ⟨r13,rfl,h,hB13⟩:=hR13
  refine⟨_,rfl,?_⟩
  replace hC:=hC.grow hB13
  refine Zc (v:=.int .i64 r13) rfl (dn (ZAk ?_))
  refine Zg (fn:=Try.f19) rfl ?_ ⟨r13,rfl,h,hC.below⟩ (.inl rfl)
  exact Zf rfl
def Zfy (a0:List Term) (a1:Int) (K:Int→Prop):Prop :=
 (if Zu2.wrap (a1 - (a0.length:Int)) < 0 then K (-1) else K (Zu2.wrap (a1 - (a0.length:Int))))
theorem Zph (a0:List Term) (a1:Int) {u0_0:Value} {fp0:List Nat} {K:Int→Prop} (h:Zfy a0 a1 K) (w0:World) (q0:ETerm.ty.sl.rep a0 [u0_0] fp0 w0) :
  Calls ZAf 46 #[u0_0,.int .i64 a1] w0 fun e w'=>∃ (r0:Int),
   e=.returned (.int .i64 r0)∧K r0∧Bel w0 w':=by
 unfold Zfy at h
 refine Zz (args:=[u0_0,.int .i64 a1]) Try.func46 rfl 12 Try.ntmps46 (ZAe rfl) ?_
 have hC:=ZAv (X:=Nox) w0 [Zz9 ETerm.ty.sl a0 [u0_0] fp0] (by simp only [Zsj,Zur,or_false,forall_eq_or_imp,forall_eq]; exact q0)
 refine sr (Zc (v:=.int .i64 0) rfl (dn (sr (Za (v:=.int .i64 a1) rfl (Za (v:=u0_0) rfl ?_)))))
 obtain ⟨Ad2,c3,hv4⟩:=Zw (hC.getP 0 rfl)
 refine Zv Try.underlying64 (tr rfl hv4) (Zbv rfl rfl (Zc (v:=.int .i64 (Zu2.wrap (a1 - (a0.length:Int)))) rfl (dn (ZAc (sr (Za (v:=.int .i64 (Zu2.wrap (a1 - (a0.length:Int)))) rfl (Zq rfl rfl (dn ?_))))))))
 refine Zr rfl (fun hb5=>?_) (fun hb5=>?_)
 ·replace h:=ift h (ct hb5)
  refine sr (Zc (v:=.int .i64 (-1)) rfl (dn ?_))
  refine ZAk (Ze ?_)
  refine Zg (fn:=Try.f46) rfl ?_ ⟨(-1),rfl,h,hC.below⟩ (.inl rfl)
  exact Zf rfl
 ·replace h:=Zh h (cf hb5)
  refine ZAg (Zd (sr (Za (v:=.int .i64 (Zu2.wrap (a1 - (a0.length:Int)))) rfl (Zc (v:=.int .i64 (Zu2.wrap (a1 - (a0.length:Int)))) rfl (dn (ZAk ?_))))))
  refine Zg (fn:=Try.f46) rfl ?_ ⟨Zu2.wrap (a1 - (a0.length:Int)),rfl,h,hC.below⟩ (.inl rfl)
  exact Zf rfl
def Zcp (a0:ZAd) (a1:Int) (K:Int→Prop):Prop :=
 Zfy a0.terms a1 (fun r10=>(if r10 < 0 then K (-1) else K r10))
theorem Zpi (a0:ZAd) (a1:Int) {u0_0:Value} {fp0:List Nat} {K:Int→Prop} (h:Zcp a0 a1 K) (w0:World) (q0:ZAq.rep a0 [u0_0] fp0 w0) :
  Calls ZAf 29 #[.agg #[u0_0],.int .i64 a1] w0 fun e w'=>∃ (r0:Int),
   e=.returned (.int .i64 r0)∧K r0∧Bel w0 w':=by
 unfold Zcp at h
 refine Zz (args:=[.agg #[u0_0],.int .i64 a1]) Try.func29 rfl 12 Try.ntmps29 (ZAe rfl) ?_
 have hC:=ZAv (X:=Nox) w0 [Zz9 TForm a0 [u0_0] fp0] (by simp only [Zsj,Zur,or_false,forall_eq_or_imp,forall_eq]; exact q0)
 have hp2:=(hC.getP 0 rfl)
 replace hC:=hC.derive 0 rfl (Zz9 ETerm.ty.sl a0.terms [u0_0] fp0) (fun _=>(Yx hp2)) (fun _ hb_=>hb_)
 refine sr (Yg (v:=.agg #[u0_0]) hC [u0_0] rfl rfl fun b4 w6 hB_ hC=>Zc (v:=.int .i64 0) rfl (dn (sr (Zx 0 Try.underlying66 rfl sc64.size rfl rfl (Z0 hC 0 (u0_0) rfl sc64 rfl rfl (Za (v:=.int .i64 a1) rfl ?_))))))
 refine Zk [u0_0,.int .i64 a1] _ Try.func46 rfl rfl rfl (Zph a0.terms a1 h _ (hC.getP 0 rfl)) (fun ret7 w9 hR8=>?_)
 obtain ⟨r10,rfl,h,hB10⟩:=hR8
 refine⟨_,rfl,?_⟩
 replace hC:=hC.grow hB10
 refine Zc (v:=.int .i64 r10) rfl (dn (ZAc (sr (Za (v:=.int .i64 r10) rfl (Zq rfl rfl (dn ?_))))))
 refine Zr rfl (fun hb10=>?_) (fun hb10=>?_)
 ·replace h:=ift h (ct hb10)
  refine sr (Zc (v:=.int .i64 (-1)) rfl (dn ?_))
  refine ZAk (Ze ?_)
  refine Zg (fn:=Try.f29) rfl ?_ ⟨(-1),rfl,h,hC.below⟩ (.inl rfl)
  exact Zf rfl
 ·replace h:=Zh h (cf hb10)
  refine ZAg (Zd (sr (Za (v:=.int .i64 r10) rfl (Zc (v:=.int .i64 r10) rfl (dn (ZAk ?_))))))
  refine Zg (fn:=Try.f29) rfl ?_ ⟨r10,rfl,h,hC.below⟩ (.inl rfl)
  exact Zf rfl
def Zee (a0:List ZAd) (a1:Int) (K:Int→Prop):Prop :=
 (if Zu2.wrap (a1 - (a0.length:Int)) < 0 then K (-1) else Yh (fun i10 (s10:Int) nx10=>Zcp (a0.getD i10 Zsn) s10 (fun r10=>(if r10 < 0 then K (-1) else nx10 r10))) (fun (s10:Int)=>K s10) a0.length 0 (Zu2.wrap (a1 - (a0.length:Int))))
theorem Zpj (a0:List ZAd) (a1:Int) {u0_0:Value} {fp0:List Nat} {K:Int→Prop} (h:Zee a0 a1 K) (w0:World) (q0:ZAq.sl.rep a0 [u0_0] fp0 w0) :
  Calls ZAf 14 #[u0_0,.int .i64 a1] w0 fun e w'=>∃ (r0:Int),
   e=.returned (.int .i64 r0)∧K r0∧Bel w0 w':=by
 unfold Zee at h
 refine Zz (args:=[u0_0,.int .i64 a1]) Try.func14 rfl 27 Try.ntmps14 (ZAe rfl) ?_
 have hC:=ZAv (X:=Nox) w0 [Zz9 ZAq.sl a0 [u0_0] fp0] (by simp only [Zsj,Zur,or_false,forall_eq_or_imp,forall_eq]; exact q0)
 refine sr (Zc (v:=.int .i64 0) rfl (dn (sr (Za (v:=.int .i64 a1) rfl (Za (v:=u0_0) rfl ?_)))))
 obtain ⟨Ad2,c3,hv4⟩:=Zw (hC.getP 0 rfl)
 refine Zv ZGy (tr rfl hv4) (Zbv rfl rfl (Zc (v:=.int .i64 (Zu2.wrap (a1 - (a0.length:Int)))) rfl (dn (ZAc (sr (Za (v:=.int .i64 (Zu2.wrap (a1 - (a0.length:Int)))) rfl (Zq rfl rfl (dn ?_))))))))
 refine Zr rfl (fun hb5=>?_) (fun hb5=>?_)
 ·replace h:=ift h (ct hb5)
  refine sr (Zc (v:=.int .i64 (-1)) rfl (dn ?_))
  refine ZAk (Ze ?_)
  refine Zg (fn:=Try.f14) rfl ?_ ⟨(-1),rfl,h,hC.below⟩ (.inl rfl)
  exact Zf rfl
 ·replace h:=Zh h (cf hb5)
  refine ZAg (Zd (ZAc (sr (Zc (v:=.int .i64 0) rfl (dn (ZAl ?_))))))
  have hN10:a0.length≤9223372036854775807:=Y9 (hC.getP 0 rfl)
  refine Yp (S:=Int) _ _ (fun i10 s10 e_ w_=>Z1 e_ [(0,u0_0),(1,.int .i64 s10),(5,.int .i64 (i10:Int))]∧Ctx Nox w0 w_ [] [Zz9 ZAq.sl a0 [u0_0] fp0]) a0.length ?_ ?_ (s0:=(Zu2.wrap (a1 - (a0.length:Int)))) ?_ h
  ·clear hC h
   rintro i10 s10 e_ w10 nx10 K10 hi10 ⟨hS_,hC⟩ h hK10
   rw [ue hS_]
   refine ZAc (sr (Za (v:=.int .i64 (i10:Int)) rfl (Za (v:=u0_0) rfl ?_)))
   obtain ⟨Ad10,c10,hv11⟩:=Zw (hC.getP 0 rfl)
   refine Zv ZGy (tr rfl hv11) (Zq rfl rfl (dn (Yf rfl (decide_eq_true (by omega)) (ZAg (Zd (ZAc (ZAl (sr (Za (v:=u0_0) rfl (Za (v:=.int .i64 (i10:Int)) rfl ?_))))))))))
   obtain ⟨Ad11,c11,hv10⟩:=Z6 (hC.getP 0 rfl) i10 hi10
   refine Yv (len:=a0.length) ZGy ag66.size (tr rfl hv10) rfl (ZAx _) (ZBk.2 hi10) ?_
   obtain ⟨cs_,hl10,hc10,hr10⟩:=Ja (hC.getP 0 rfl) hv10 i10 hi10
   obtain ⟨u10,rfl⟩:=ZA6.1 hl10
   clear hl10
   rw [X3 _ _ hi10] at hr10
   have hp10:=hr10
   replace hC:=hC.derive 0 rfl (Zz9 ETerm.ty.sl ((a0.getD i10 Zsn).terms) [u10] fp0) (fun _=>(Yx hp10)) (fun _ hb_=>hb_)
   refine Jh [u10] hc10 ag66 rfl rfl (Za (v:=.int .i64 s10) rfl ?_)
   refine Zk [.agg #[u10],.int .i64 s10] _ Try.func29 rfl rfl rfl (Zpi (a0.getD i10 Zsn) s10 h _ (Ys (hC.getP 0 rfl))) (fun ret10 w11 hR10=>?_)
   obtain ⟨r10,rfl,h,hB10⟩:=hR10
   refine⟨_,rfl,?_⟩
   replace hC:=hC.grow hB10
   refine Zc (v:=.int .i64 r10) rfl (dn (sr (Za (v:=.int .i64 r10) rfl (Zq rfl rfl (dn ?_)))))
   refine Zr rfl (fun hb10=>?_) (fun hb10=>?_)
   ·replace h:=ift h (ct hb10)
    refine sr (Zc (v:=.int .i64 (-1)) rfl (dn ?_))
    refine ZAk (Z2 (Ze (Ze (Z2 (Ze ?_)))))
    refine Zg (fn:=Try.f14) rfl ?_ ⟨(-1),rfl,h,hC.below⟩ (.inl rfl)
    exact Zf rfl
   ·replace h:=Zh h (cf hb10)
    refine ZAg (Zt (Zd (Zn (Za (v:=.int .i64 (i10:Int)) rfl (Zp rfl rfl (Zc (v:=.int .i64 (Zu2.wrap ((i10:Int)+1))) rfl (done ?_)))))))
    replace hC:=hC.sP [1] (Ps':=[Zz9 ZAq.sl a0 [u0_0] fp0]) rfl
    exact hK10 r10 _ _ ⟨(sl ⟨rfl,rfl,(tr rfl (congrArg _ (Yb hi10 hN10))),trivial⟩),hC⟩ h
  ·clear hC h
   rintro s10 e_ w12 K10 ⟨hS_,hC⟩ h
   rw [ue hS_]
   refine ZAc (sr (Za (v:=.int .i64 (a0.length:Int)) rfl (Za (v:=u0_0) rfl ?_)))
   obtain ⟨Ad12,c12,hv12⟩:=Zw (hC.getP 0 rfl)
   refine Zv ZGy (tr rfl hv12) (Zq rfl rfl (dn (Yd rfl (decide_eq_false (by omega)) ?_)))
   refine ZAt (Zl (Zl (Z4 ?_)))
   refine Zd (sr (Za (v:=.int .i64 s10) rfl (Zc (v:=.int .i64 s10) rfl (dn (ZAk ?_)))))
   refine Zg (fn:=Try.f14) rfl ?_ ⟨s10,rfl,h,hC.below⟩ (.inl rfl)
   exact Zf rfl
  ·skip
   exact⟨(sl ⟨rfl,rfl,rfl,trivial⟩),hC⟩
def Zfz (a0:List Int) (a1:Int) (K:Int→Prop):Prop :=
 (if Zu2.wrap (a1 - (a0.length:Int)) < 0 then K (-1) else K (Zu2.wrap (a1 - (a0.length:Int))))
theorem Zpk (a0:List Int) (a1:Int) {u0_0:Value} {fp0:List Nat} {K:Int→Prop} (h:Zfz a0 a1 K) (w0:World) (q0:((EI .i64).ty.sl).rep a0 [u0_0] fp0 w0) :
  Calls ZAf 13 #[u0_0,.int .i64 a1] w0 fun e w'=>∃ (r0:Int),
   e=.returned (.int .i64 r0)∧K r0∧Bel w0 w':=by
 unfold Zfz at h
 refine Zz (args:=[u0_0,.int .i64 a1]) Try.func13 rfl 12 Try.ntmps13 (ZAe rfl) ?_
 have hC:=ZAv (X:=Nox) w0 [Zz9 ((EI .i64).ty.sl) a0 [u0_0] fp0] (by simp only [Zsj,Zur,or_false,forall_eq_or_imp,forall_eq]; exact q0)
 refine sr (Zc (v:=.int .i64 0) rfl (dn (sr (Za (v:=.int .i64 a1) rfl (Za (v:=u0_0) rfl ?_)))))
 obtain ⟨Ad2,c3,hv4⟩:=Zw (hC.getP 0 rfl)
 refine Zv ZAu (tr rfl hv4) (Zbv rfl rfl (Zc (v:=.int .i64 (Zu2.wrap (a1 - (a0.length:Int)))) rfl (dn (ZAc (sr (Za (v:=.int .i64 (Zu2.wrap (a1 - (a0.length:Int)))) rfl (Zq rfl rfl (dn ?_))))))))
 refine Zr rfl (fun hb5=>?_) (fun hb5=>?_)
 ·replace h:=ift h (ct hb5)
  refine sr (Zc (v:=.int .i64 (-1)) rfl (dn ?_))
  refine ZAk (Ze ?_)
  refine Zg (fn:=Try.f13) rfl ?_ ⟨(-1),rfl,h,hC.below⟩ (.inl rfl)
  exact Zf rfl
 ·replace h:=Zh h (cf hb5)
  refine ZAg (Zd (sr (Za (v:=.int .i64 (Zu2.wrap (a1 - (a0.length:Int)))) rfl (Zc (v:=.int .i64 (Zu2.wrap (a1 - (a0.length:Int)))) rfl (dn (ZAk ?_))))))
  refine Zg (fn:=Try.f13) rfl ?_ ⟨Zu2.wrap (a1 - (a0.length:Int)),rfl,h,hC.below⟩ (.inl rfl)
  exact Zf rfl
def Zef (a0:Alg) (a1:Int) (K:Int→Prop):Prop :=
 Zfz a0.degrees a1 (fun r10=>(if r10 < 0 then K (-1) else Zee a0.images r10 (fun r11=>(if r11 < 0 then K (-1) else K r11))))
theorem Zpl (a0:Alg) (a1:Int) {u0_0:Value} {u0_1:Value} {fp0:List Nat} {K:Int→Prop} (h:Zef a0 a1 K) (w0:World) (q0:TAlg.rep a0 [u0_0,u0_1] fp0 w0) :
  Calls ZAf 4 #[.agg #[u0_0,u0_1],.int .i64 a1] w0 fun e w'=>∃ (r0:Int),
   e=.returned (.int .i64 r0)∧K r0∧Bel w0 w':=by
 unfold Zef at h
 refine Zz (args:=[.agg #[u0_0,u0_1],.int .i64 a1]) Try.func4 rfl 18 Try.ntmps4 (ZAe rfl) ?_
 have hC:=ZAv (X:=Nox) w0 [Zz9 TAlg a0 [u0_0,u0_1] fp0] (by simp only [Zsj,Zur,or_false,forall_eq_or_imp,forall_eq]; exact q0)
 have hp2:=(hC.getP 0 rfl)
 replace hC:=hC.derive 0 rfl (Zz9 ((EI .i64).ty.sl) a0.degrees [u0_0] fp0) (fun _=>(Y3 hp2).1) (fun _ hb_=>hb_)
 replace hC:=hC.derive 1 rfl (Zz9 ZAq.sl a0.images [u0_1] fp0) (fun _=>(Y3 hp2).2) (fun _ hb_=>hb_)
 refine sr (Yg (v:=.agg #[u0_0,u0_1]) hC [u0_0,u0_1] rfl rfl fun b5 w7 hB_ hC=>Zc (v:=.int .i64 0) rfl (dn (sr (Zx 0 ZG8 rfl sc22.size rfl rfl (Z0 hC 0 (u0_0) rfl sc22 rfl rfl (Za (v:=.int .i64 a1) rfl ?_))))))
 refine Zk [u0_0,.int .i64 a1] _ Try.func13 rfl rfl rfl (Zpk a0.degrees a1 h _ (hC.getP 1 rfl)) (fun ret8 w10 hR9=>?_)
 obtain ⟨r10,rfl,h,hB10⟩:=hR9
 refine⟨_,rfl,?_⟩
 replace hC:=hC.grow hB10
 refine Zc (v:=.int .i64 r10) rfl (dn (ZAc (sr (Za (v:=.int .i64 r10) rfl (Zq rfl rfl (dn ?_))))))
 refine Zr rfl (fun hb10=>?_) (fun hb10=>?_)
 ·replace h:=ift h (ct hb10)
  refine sr (Zc (v:=.int .i64 (-1)) rfl (dn ?_))
  refine ZAk (Ze ?_)
  refine Zg (fn:=Try.f4) rfl ?_ ⟨(-1),rfl,h,hC.below⟩ (.inl rfl)
  exact Zf rfl
 ·replace h:=Zh h (cf hb10)
  refine ZAg (Zd (sr (Zx 1 ZG8 rfl sc23.size rfl rfl (Z0 hC 0 (u0_1) rfl sc23 rfl rfl (Za (v:=.int .i64 r10) rfl ?_)))))
  refine Zk [u0_1,.int .i64 r10] _ Try.func14 rfl rfl rfl (Zpj a0.images r10 h _ (hC.getP 0 rfl)) (fun ret10 w11 hR10=>?_)
  obtain ⟨r11,rfl,h,hB11⟩:=hR10
  refine⟨_,rfl,?_⟩
  replace hC:=hC.grow hB11
  refine Zc (v:=.int .i64 r11) rfl (dn (ZAc (sr (Za (v:=.int .i64 r11) rfl (Zq rfl rfl (dn ?_))))))
  refine Zr rfl (fun hb11=>?_) (fun hb11=>?_)
  ·replace h:=ift h (ct hb11)
   refine sr (Zc (v:=.int .i64 (-1)) rfl (dn ?_))
   refine ZAk (Ze ?_)
   refine Zg (fn:=Try.f4) rfl ?_ ⟨(-1),rfl,h,hC.below⟩ (.inl rfl)
   exact Zf rfl
  ·replace h:=Zh h (cf hb11)
   refine ZAg (Zd (sr (Za (v:=.int .i64 r11) rfl (Zc (v:=.int .i64 r11) rfl (dn (ZAk ?_))))))
   refine Zg (fn:=Try.f4) rfl ?_ ⟨r11,rfl,h,hC.below⟩ (.inl rfl)
   exact Zf rfl
def Zeg (a0:List ZAd) (K:List ZAd→Prop):Prop :=
 ((0≤(a0.length:Int)∧(a0.length:Int) * 24≤281474976710656)∧Yh (fun i10 (s10:(List ZAd)) nx10=>Zdy (a0.getD i10 Zsn) (fun r10=>((0≤(i10:Int)∧(i10:Int) < (s10.length:Int))∧nx10 (s10.set i10 r10)))) (fun (s10:(List ZAd))=>K s10) a0.length 0 (Zsi ((a0.length:Int).toNat) ((⟨[]⟩:ZAd):ZAd)))
theorem Zpm (a0:List ZAd) {u0_0:Value} {fp0:List Nat} {K:List ZAd→Prop} (h:Zeg a0 K) (w0:World) (q0:ZAq.sl.rep a0 [u0_0] fp0 w0) :
  Calls ZAf 18 #[u0_0] w0 fun e w'=>∃ (r0:List ZAd) (z0_0:Value) (fz0:List Nat),
   e=.returned (z0_0)∧K r0∧(ZAo (ZGu 44 (Ya 49)) r0 [z0_0] fz0).holds w'∧(∀ b,b∈fz0→w0.heap.size≤b)∧Bel w0 w':=by
 unfold Zeg at h
 refine Zz (args:=[u0_0]) Try.func18 rfl 23 Try.ntmps18 (ZAe rfl) ?_
 have hC:=ZAv (X:=Nox) w0 [Zz9 ZAq.sl a0 [u0_0] fp0] (by simp only [Zsj,Zur,or_false,forall_eq_or_imp,forall_eq]; exact q0)
 refine sr (Zc (v:=.slice none 0 0) rfl (dn (sr (Za (v:=u0_0) rfl ?_))))
 obtain ⟨Ad2,c3,hv4⟩:=Zw (hC.getP 0 rfl)
 refine Zv ZGy (tr rfl hv4) ?_
 obtain ⟨hm7,h⟩:=h
 refine Zgo (sz:=1) hC (Zsi ((a0.length:Int).toNat) (.slice none 0 0)) ZAy Zpb (tr rfl (congrArg (Value.int .i64) (Int.toNat_of_nonneg hm7.1).symm)) (tr rfl (congrArg (Value.int .i64) (Int.toNat_of_nonneg hm7.1).symm)) (by omega) (by omega) (Zm0 _) fun v5 w6 hB_ hC=>?_
 replace hC:=hC.pushM0 (Yn (Ya 49) (Zsi ((a0.length:Int).toNat) ((⟨[]⟩:ZAd):ZAd)) (Zsi ((a0.length:Int).toNat) (.slice none 0 0)) (Zsi ((a0.length:Int).toNat) [])) (Zm2 (Zaj (Zfg _ _ _)) rfl _) (Zm1 _)
 replace hC:=hC.gather (c:=ZAo (ZGu 44 (Ya 49)) (Zsi ((a0.length:Int).toNat) ((⟨[]⟩:ZAd):ZAd)) [v5] ((ZA7 (Zth v5))++(Zsi ((a0.length:Int).toNat) ([]:List Nat)).flatten)) (fun x_ hx_=>(Zsw.1 hx_).symm) (fun h1_ h2_ hd_=>Zbg (by rw [List.length_replicate]; exact h2_) h1_ (fun b_ hb_ hb2_=>hd_ b_ hb2_ hb_))
 refine Zc (v:=v5) rfl (dn (ZAc (sr (Zc (v:=.int .i64 0) rfl (dn (ZAl ?_))))))
 have hN10:a0.length≤9223372036854775807:=Y9 (hC.getP 0 rfl)
 refine Yp (S:=(List ZAd)) _ _ (fun i10 s10 e_ w_=>∃ (v10:Value),∃ (f10:List Nat),Z1 e_ [(0,u0_0),(3,v10),(4,.int .i64 (i10:Int))]∧Ctx Nox w0 w_ [ZAo (ZGu 44 (Ya 49)) s10 [v10] f10] [Zz9 ZAq.sl a0 [u0_0] fp0]) a0.length ?_ ?_ (s0:=(Zsi ((a0.length:Int).toNat) ((⟨[]⟩:ZAd):ZAd))) ?_ h
 ·clear hC h
  rintro i10 s10 e_ w10 nx10 K10 hi10 ⟨v10,f10,hS_,hC⟩ h hK10
  rw [ue hS_]
  refine ZAc (sr (Za (v:=.int .i64 (i10:Int)) rfl (Za (v:=u0_0) rfl ?_)))
  obtain ⟨Ad10,c10,hv12⟩:=Zw (hC.getP 0 rfl)
  refine Zv ZGy (tr rfl hv12) (Zq rfl rfl (dn (Yf rfl (decide_eq_true (by omega)) (ZAg (Zd (ZAc (ZAl (Zn (Za (v:=v10) rfl (Za (v:=.int .i64 (i10:Int)) rfl (Za (v:=u0_0) rfl ?_)))))))))))
  refine Za (v:=.int .i64 (i10:Int)) rfl ?_
  obtain ⟨Ad11,c11,hv10⟩:=Z6 (hC.getP 0 rfl) i10 hi10
  refine Yv (len:=a0.length) ZGy ag66.size (tr rfl hv10) rfl (ZAx _) (ZBk.2 hi10) ?_
  obtain ⟨cs_,hl10,hc10,hr10⟩:=Ja (hC.getP 0 rfl) hv10 i10 hi10
  obtain ⟨u11,rfl⟩:=ZA6.1 hl10
  clear hl10
  rw [X3 _ _ hi10] at hr10
  have hp10:=hr10
  replace hC:=hC.derive 0 rfl (Zz9 ETerm.ty.sl ((a0.getD i10 Zsn).terms) [u11] fp0) (fun _=>(Yx hp10)) (fun _ hb_=>hb_)
  refine Jh [u11] hc10 ag66 rfl rfl ?_
  refine Zk [.agg #[u11]] _ Try.func35 rfl rfl rfl (Zod (a0.getD i10 Zsn) h _ (Ys (hC.getP 0 rfl))) (fun ret10 w11 hR10=>?_)
  obtain ⟨r10,u10,f11,rfl,h,hr11,hf10,hB10⟩:=hR10
  refine⟨_,rfl,?_⟩
  replace hC:=hC.push hB10 (ZAo (Ya 49) r10 [u10] f11) hr11 hf10
  obtain ⟨ho10,hf11⟩:=X0 (hC.getM 0 rfl)
  subst hf11
  replace hC:=hC.recast (c:=own 49 9 u10 r10.terms.length (ETerm.encs r10.terms)) (fun _ h_=>h_) (fun _=>ho10)
  obtain ⟨⟨h10,h11⟩,h⟩:=h
  obtain ⟨g10,cap10,hv11⟩:=Znj (hC.getM 1 rfl) (Nat.lt_of_le_of_lt (Zun _) (show i10 < s10.length by omega))
  refine Zar (i10 * 1) ZAy ag44.size (tr rfl hv11) rfl h10 h11 rfl ?_
  replace hC:=hC.recast (c:=ZAo (Ya 49) r10 [u10] (ZA7 (Zth u10))) (fun _ h_=>h_) (fun h_=>Zaj (Jw h_))
  replace hC:=hC.sM [1,0] (M':=[ZAo (ZGu 44 (Ya 49)) s10 [v10] f10,ZAo (Ya 49) r10 [u10] (ZA7 (Zth u10))]) (by decide) rfl
  refine Znk (u:=.agg #[u10]) hC (show i10 < s10.length by omega) hv11 ag44.size rfl rfl rfl rfl fun f12 w12 hC=>done (Zt (Zd (Zn (Za (v:=.int .i64 (i10:Int)) rfl (Zp rfl rfl (Zc (v:=.int .i64 (Zu2.wrap ((i10:Int)+1))) rfl (done ?_)))))))
  replace hC:=hC.sP [1] (Ps':=[Zz9 ZAq.sl a0 [u0_0] fp0]) rfl
  exact hK10 (s10.set i10 r10) _ _ ⟨v10,f12,(sl ⟨rfl,rfl,(tr rfl (congrArg _ (Yb hi10 hN10))),trivial⟩),hC⟩ h
 ·clear hC h
  rintro s10 e_ w13 K10 ⟨v10,f10,hS_,hC⟩ h
  rw [ue hS_]
  refine ZAc (sr (Za (v:=.int .i64 (a0.length:Int)) rfl (Za (v:=u0_0) rfl ?_)))
  obtain ⟨Ad12,c12,hv13⟩:=Zw (hC.getP 0 rfl)
  refine Zv ZGy (tr rfl hv13) (Zq rfl rfl (dn (Yd rfl (decide_eq_false (by omega)) ?_)))
  refine ZAt (Zl (Zl (Z4 ?_)))
  refine Zd (sr (Za (v:=v10) rfl (Zc (v:=v10) rfl (dn (ZAk ?_)))))
  refine Zg (fn:=Try.f18) rfl ?_ ⟨s10,v10,f10,rfl,h,(hC.getM 0 rfl),(Zfe hC 0 rfl),hC.below⟩ (.inl rfl)
  exact Zf rfl
 ·skip
  exact⟨v5,((ZA7 (Zth v5))++(Zsi ((a0.length:Int).toNat) ([]:List Nat)).flatten),(sl ⟨rfl,rfl,rfl,trivial⟩),hC⟩
def Za5 (a0:Alg) (K:Alg→Prop):Prop :=
 Zdu a0.degrees (fun r10=>Zeg a0.images (fun r11=>K (⟨r10,r11⟩:Alg)))
theorem Zf0 (a0:Alg) {u0_0:Value} {u0_1:Value} {fp0:List Nat} {K:Alg→Prop} (h:Za5 a0 K) (w0:World) (q0:TAlg.rep a0 [u0_0,u0_1] fp0 w0) :
  Calls ZAf 6 #[.agg #[u0_0,u0_1]] w0 fun e w'=>∃ (r0:Alg) (z0_0:Value) (z0_1:Value) (fz0:List Nat),
   e=.returned (.agg #[z0_0,z0_1])∧K r0∧(ZAo (Zbf 2 49 44) r0 [z0_0,z0_1] fz0).holds w'∧(∀ b,b∈fz0→w0.heap.size≤b)∧Bel w0 w':=by
 unfold Za5 at h
 refine Zz (args:=[.agg #[u0_0,u0_1]]) Try.func6 rfl 13 Try.ntmps6 (ZAe rfl) ?_
 have hC:=ZAv (X:=Nox) w0 [Zz9 TAlg a0 [u0_0,u0_1] fp0] (by simp only [Zsj,Zur,or_false,forall_eq_or_imp,forall_eq]; exact q0)
 have hp2:=(hC.getP 0 rfl)
 replace hC:=hC.derive 0 rfl (Zz9 ((EI .i64).ty.sl) a0.degrees [u0_0] fp0) (fun _=>(Y3 hp2).1) (fun _ hb_=>hb_)
 replace hC:=hC.derive 1 rfl (Zz9 ZAq.sl a0.images [u0_1] fp0) (fun _=>(Y3 hp2).2) (fun _ hb_=>hb_)
 refine sr (Yg (v:=.agg #[u0_0,u0_1]) hC [u0_0,u0_1] rfl rfl fun b5 w7 hB_ hC=>Ye hC [.slice none 0 0,.slice none 0 0] z32 rfl fun b8 w10 hB_ hC=>dn (sr (Ye hC [.slice none 0 0,.slice none 0 0] z32 rfl fun b10 w11 hB_ hC=>dn (sr (Zx 0 ZG8 rfl sc22.size rfl rfl (Z0 hC 2 (u0_0) rfl sc22 rfl rfl ?_))))))
 refine Zk [u0_0] _ Try.func17 rfl rfl rfl (Zn9 a0.degrees h _ (hC.getP 1 rfl)) (fun ret10 w12 hR10=>?_)
 obtain ⟨r10,u10,f11,rfl,h,hr10,hf10,hB10⟩:=hR10
 refine⟨_,rfl,?_⟩
 replace hC:=hC.push hB10 (ZAo (ZGu 2 ((EI .i64).tr)) r10 [u10] f11) hr10 hf10
 obtain ⟨ho10,hf11⟩:=Zb7 (hC.getM 0 rfl).1
 subst hf11
 replace hC:=hC.recast (c:=own 2 1 u10 r10.length ((EI .i64).encs r10)) (fun _ h_=>h_) (fun _=>ho10)
 refine Zx 0 ZAs rfl sc22.size rfl rfl (Zy (v:=u10) hC 1 [u10] [u10,.slice none 0 0] rfl sc22.size rfl rfl (Zbd (hC.getM 0 rfl)) rfl (Y4 (Xe (hC.getM 0 rfl)) rfl) (ZAe rfl) rfl fun w13 hC=>dn (sr (Zx 1 ZG8 rfl sc23.size rfl rfl (Z0 hC 3 (u0_1) rfl sc23 rfl rfl ?_))))
 refine Zk [u0_1] _ Try.func18 rfl rfl rfl (Zpm a0.images h _ (hC.getP 0 rfl)) (fun ret11 w14 hR11=>?_)
 obtain ⟨r11,u11,f10,rfl,h,hr11,hf12,hB11⟩:=hR11
 refine⟨_,rfl,?_⟩
 replace hC:=hC.push hB11 (ZAo (ZGu 44 (Ya 49)) r11 [u11] f10) hr11 hf12
 refine Zx 1 ZAs rfl sc30.size rfl rfl (Zy (v:=u11) hC 2 [u11] [u10,u11] rfl sc30.size rfl rfl (Zl4 (Tr.trep _ (hC.getM 0 rfl).1)) rfl (Y4 (Zb5 (Tr.trep _ (hC.getM 0 rfl).1)) rfl) (ZAe rfl) rfl fun w15 hC=>dn (sr (Yl hC 2 [u10,u11] rfl ag32 rfl rfl rfl (Zy (v:=.agg #[u10,u11]) hC 3 [u10,u11] [u10,u11] rfl ag32.size rfl rfl rfl rfl (Y4 (Xe (hC.getM 1 rfl)) (Y4 (Zb5 (Tr.trep _ (hC.getM 0 rfl).1)) rfl)) (ZAe rfl) rfl fun w16 hC=>dn (ZAk ?_)))))
 refine Zg (fn:=Try.f6) rfl ?_ ⟨(⟨r10,r11⟩:Alg),u10,u11,((ZA7 (Zth u10))++f10),rfl,h,(Zmy (Jw (hC.getM 1 rfl)) (hC.getM 0 rfl) (fun x hx hx'=>hC.mm 1 0 rfl rfl (by decide) x hx hx')),(fun b hb=>(Zsw.1 hb).elim (fun hb=>(Zaf hC 1 rfl) b hb) (fun hb=>(Zfe hC 0 rfl) b hb)),hC.below⟩ (.inl rfl)
 exact X9 hC 3 rfl ag32 rfl rfl
def Zcq (a0:Alg) (a1:Alg) (K:Bool→Prop):Prop :=
 Zch a0.degrees a1.degrees (fun r10=>(if¬ (r10=true) then K false else Zfq a0.images a1.images (fun r11=>(if¬ (r11=true) then K false else K true))))
theorem Zpn (a0:Alg) (a1:Alg) {u0_0:Value} {u0_1:Value} {u1_0:Value} {u1_1:Value} {fp0:List Nat} {fp1:List Nat} {K:Bool→Prop} (h:Zcq a0 a1 K) (w0:World) (q0:TAlg.rep a0 [u0_0,u0_1] fp0 w0) (q1:TAlg.rep a1 [u1_0,u1_1] fp1 w0) :
  Calls ZAf 9 #[.agg #[u0_0,u0_1],.agg #[u1_0,u1_1]] w0 fun e w'=>∃ (r0:Bool),
   e=.returned (.bool r0)∧K r0∧Bel w0 w':=by
 unfold Zcq at h
 refine Zz (args:=[.agg #[u0_0,u0_1],.agg #[u1_0,u1_1]]) Try.func9 rfl 17 Try.ntmps9 (ZAe rfl) ?_
 have hC:=ZAv (X:=Nox) w0 [Zz9 TAlg a0 [u0_0,u0_1] fp0,Zz9 TAlg a1 [u1_0,u1_1] fp1] (by simp only [Zsj,Zur,or_false,forall_eq_or_imp,forall_eq]; exact⟨q0,q1⟩)
 have hp3:=(hC.getP 0 rfl)
 replace hC:=hC.derive 0 rfl (Zz9 ((EI .i64).ty.sl) a0.degrees [u0_0] fp0) (fun _=>(Y3 hp3).1) (fun _ hb_=>hb_)
 replace hC:=hC.derive 1 rfl (Zz9 ZAq.sl a0.images [u0_1] fp0) (fun _=>(Y3 hp3).2) (fun _ hb_=>hb_)
 have hp6:=(hC.getP 3 rfl)
 replace hC:=hC.derive 3 rfl (Zz9 ((EI .i64).ty.sl) a1.degrees [u1_0] fp1) (fun _=>(Y3 hp6).1) (fun _ hb_=>hb_)
 replace hC:=hC.derive 4 rfl (Zz9 ZAq.sl a1.images [u1_1] fp1) (fun _=>(Y3 hp6).2) (fun _ hb_=>hb_)
 refine sr (Yg (v:=.agg #[u0_0,u0_1]) hC [u0_0,u0_1] rfl rfl fun b9 w10 hB_ hC=>Yg (v:=.agg #[u1_0,u1_1]) hC [u1_0,u1_1] rfl rfl fun b10 w11 hB_ hC=>Zc (v:=.bool false) rfl (dn (ZAc (sr (Zx 0 ZAs rfl sc22.size rfl rfl (Z0 hC 1 (u0_0) rfl sc22 rfl rfl (Zx 0 ZAs rfl sc22.size rfl rfl (Z0 hC 0 (u1_0) rfl sc22 rfl rfl ?_))))))))
 refine Zk [u0_0,u1_0] _ Try.func24 rfl rfl rfl (Zjk a0.degrees a1.degrees h _ (hC.getP 3 rfl) (hC.getP 1 rfl)) (fun ret10 w12 hR10=>?_)
 obtain ⟨r10,rfl,h,hB10⟩:=hR10
 refine⟨_,rfl,?_⟩
 replace hC:=hC.grow hB10
 refine Xc rfl (dn ?_)
 refine Zr rfl (fun hb10=>?_) (fun hb10=>?_)
 ·replace h:=ift h (Yw (Xg hb10))
  refine sr (Zc (v:=.bool false) rfl (dn ?_))
  refine ZAk (Ze ?_)
  refine Zg (fn:=Try.f9) rfl ?_ ⟨false,rfl,h,hC.below⟩ (.inl rfl)
  exact Zf rfl
 ·replace h:=Zh h (not_not_intro ((Xh hb10)))
  refine ZAg (Zd (ZAc (sr (Zx 1 ZAs rfl sc30.size rfl rfl (Z0 hC 1 (u0_1) rfl sc30 rfl rfl (Zx 1 ZAs rfl sc30.size rfl rfl (Z0 hC 0 (u1_1) rfl sc30 rfl rfl ?_)))))))
  refine Zk [u0_1,u1_1] _ Try.func25 rfl rfl rfl (Zoh a0.images a1.images h _ (hC.getP 2 rfl) (hC.getP 0 rfl)) (fun ret11 w13 hR11=>?_)
  obtain ⟨r11,rfl,h,hB11⟩:=hR11
  refine⟨_,rfl,?_⟩
  replace hC:=hC.grow hB11
  refine Xc rfl (dn ?_)
  refine Zr rfl (fun hb11=>?_) (fun hb11=>?_)
  ·replace h:=ift h (Yw (Xg hb11))
   refine sr (Zc (v:=.bool false) rfl (dn ?_))
   refine ZAk (Ze ?_)
   refine Zg (fn:=Try.f9) rfl ?_ ⟨false,rfl,h,hC.below⟩ (.inl rfl)
   exact Zf rfl
  ·replace h:=Zh h (not_not_intro ((Xh hb11)))
   refine ZAg (Zd (sr (Zc (v:=.bool true) rfl (dn (ZAk ?_)))))
   refine Zg (fn:=Try.f9) rfl ?_ ⟨true,rfl,h,hC.below⟩ (.inl rfl)
   exact Zf rfl
def Za6 (a0:List Int) (a1:Int) (K:Int→List Int→Prop):Prop :=
 Xa (fun (s10:(List Int)×Int×Int) nx10=>(if s10.2.2 < (s10.1.length:Int) then((0≤s10.2.2∧s10.2.2 < (s10.1.length:Int))∧nx10 (s10.1.set s10.2.2.toNat s10.2.1,Zu2.wrap (s10.2.1+1),Zu2.wrap (s10.2.2+1))) else K s10.2.1 s10.1)) (a0,a1,0)
theorem Zj4 (a0:List Int) (a1:Int) {u0_0:Value} {K:Int→List Int→Prop} (h:Za6 a0 a1 K) (w0:World) (qw0:(own 2 1 u0_0 a0.length ((EI .i64).encs a0)).holds w0) :
  Calls ZAf 26 #[u0_0,.int .i64 a1] w0 fun e w'=>∃ (r0:Int) (mw:List Int),
   e=.returned (.int .i64 r0)∧K r0 mw∧(own 2 1 u0_0 mw.length ((EI .i64).encs mw)).holds w'∧BelO ((ZA7 (Zth u0_0))) w0 w':=by
 unfold Za6 at h
 refine Zz (args:=[u0_0,.int .i64 a1]) Try.func26 rfl 19 Try.ntmps26 (ZAe rfl) ?_
 have hC:=Ctx.startL w0 ((ZA7 (Zth u0_0))) [own 2 1 u0_0 a0.length ((EI .i64).encs a0)] [] (by simp only [Zsj,Zur,or_false,forall_eq_or_imp,forall_eq]; exact qw0) (by simp) (by simp only [Zsj,Zur,or_false,forall_eq_or_imp,forall_eq]; exact fun b hb=>hb) (ZHk _ _) (by simp)
 refine sr (Zc (v:=.int .i64 0) rfl (dn (ZAc (sr (Zc (v:=.int .i64 0) rfl (dn (ZAl ?_)))))))
 refine Xq (S:=(List Int)×Int×Int) _ (fun s10 e_ w_=>Z1 e_ [(0,u0_0),(1,.int .i64 s10.2.1),(5,.int .i64 s10.2.2)]∧Ctx (fun c_=>c_∈(ZA7 (Zth u0_0))) w0 w_ [own 2 1 u0_0 s10.1.length ((EI .i64).encs s10.1)] []) ?_ (s0:=(a0,a1,0)) ?_ h
 ·clear hC h
  rintro s10 e_ w10 nx10 K10 ⟨hS_,hC⟩ h hK10
  rw [ue hS_]
  refine ZAc (sr (Za (v:=.int .i64 s10.2.2) rfl (Za (v:=u0_0) rfl ?_)))
  obtain ⟨Ad10,c10,hv11⟩:=Zax (hC.getM 0 rfl)
  refine Zv ZAu (tr rfl hv11) (Zq rfl rfl (dn ?_))
  refine Zr rfl (fun hb10=>?_) (fun hb10=>?_)
  ·replace h:=ift h (ct hb10)
   refine ZAg (Zd (ZAc (ZAl (sr (Za (v:=u0_0) rfl (Za (v:=.int .i64 s10.2.2) rfl (Za (v:=.int .i64 s10.2.1) rfl ?_)))))))
   obtain ⟨⟨h10,h11⟩,h⟩:=h
   obtain ⟨Ad11,c11,hv10⟩:=Zap (hC.getM 0 rfl) (Nat.lt_of_le_of_lt (Zun _) (show s10.2.2.toNat < s10.1.length by omega))
   refine Zar (s10.2.2.toNat * 1) ZAu sc2.size (tr rfl hv10) rfl h10 h11 rfl (Zb0 (v:=.int .i64 s10.2.1) hC 0 [.int .i64 s10.2.1] ((EI .i64).encs (s10.1.set s10.2.2.toNat s10.2.1)) rfl hv10 sc2.size rfl rfl rfl rfl rfl (by rw [Enc.encs_len]; exact Zaa (sz:=1) (show s10.2.2.toNat < s10.1.length by omega)) (Zeu _ _ _ (show s10.2.2.toNat < s10.1.length by omega)) fun w11 hC=>?_)
   replace hC:=Js hC 0 ((s10.1.set s10.2.2.toNat s10.2.1).length) ((EI .i64).encs (s10.1.set s10.2.2.toNat s10.2.1)) rfl (by simp) rfl
   refine dn (Zn (Za (v:=.int .i64 s10.2.1) rfl (Zp rfl rfl (Zc (v:=.int .i64 (Zu2.wrap (s10.2.1+1))) rfl (done (Zt (Zd (Zn (Za (v:=.int .i64 s10.2.2) rfl (Zp rfl rfl (Zc (v:=.int .i64 (Zu2.wrap (s10.2.2+1))) rfl ?_)))))))))))
   refine done ?_
   exact hK10 (s10.1.set s10.2.2.toNat s10.2.1,Zu2.wrap (s10.2.1+1),Zu2.wrap (s10.2.2+1)) _ _ ⟨(sl ⟨rfl,rfl,rfl,trivial⟩),hC⟩ h
  ·replace h:=Zh h (cf hb10)
   refine ZAt (Zl (Zl (Z4 ?_)))
   refine Zd (sr (Za (v:=.int .i64 s10.2.1) rfl (Zc (v:=.int .i64 s10.2.1) rfl (dn (ZAk ?_)))))
   refine Zg (fn:=Try.f26) rfl ?_ ⟨s10.2.1,s10.1,rfl,h,(hC.getM 0 rfl),hC.belO⟩ (.inl rfl)
   exact Zf rfl
 ·skip
  exact⟨(sl ⟨rfl,rfl,rfl,trivial⟩),hC⟩
def Zeh (a0:List ZAd) (a1:Int) (K:Int→List ZAd→Prop):Prop :=
 Xa (fun (s10:(List ZAd)×Int×Int) nx10=>(if s10.2.2 < (s10.1.length:Int) then((0≤s10.2.2∧s10.2.2 < (s10.1.length:Int))∧Zd1 ((s10.1.getD s10.2.2.toNat Zsn).terms) s10.2.1 (fun r10 m10=>nx10 (s10.1.set s10.2.2.toNat (⟨m10⟩:ZAd),r10,Zu2.wrap (s10.2.2+1)))) else K s10.2.1 s10.1)) (a0,a1,0)
theorem Zpo (a0:List ZAd) (a1:Int) {u0_0:Value} {fp0_0:List Nat} {K:Int→List ZAd→Prop} (h:Zeh a0 a1 K) (w0:World) (qw0:(ZAo (ZGu 44 (Ya 49)) a0 [u0_0] fp0_0).holds w0) :
  Calls ZAf 27 #[u0_0,.int .i64 a1] w0 fun e w'=>∃ (r0:Int) (mw:List ZAd),
   e=.returned (.int .i64 r0)∧K r0 mw∧(ZAo (ZGu 44 (Ya 49)) mw [u0_0] fp0_0).holds w'∧BelO (fp0_0) w0 w':=by
 unfold Zeh at h
 refine Zz (args:=[u0_0,.int .i64 a1]) Try.func27 rfl 20 Try.ntmps27 (ZAe rfl) ?_
 have hC:=Ctx.startL w0 (fp0_0) [ZAo (ZGu 44 (Ya 49)) a0 [u0_0] fp0_0] [] (by simp only [Zsj,Zur,or_false,forall_eq_or_imp,forall_eq]; exact qw0) (by simp) (by simp only [Zsj,Zur,or_false,forall_eq_or_imp,forall_eq]; exact fun b hb=>hb) (ZHk _ _) (by simp)
 refine sr (Zc (v:=.int .i64 0) rfl (dn (ZAc (sr (Zc (v:=.int .i64 0) rfl (dn (ZAl ?_)))))))
 refine Xq (S:=(List ZAd)×Int×Int) _ (fun s10 e_ w_=>Z1 e_ [(0,u0_0),(1,.int .i64 s10.2.1),(5,.int .i64 s10.2.2)]∧Ctx (fun c_=>c_∈fp0_0) w0 w_ [ZAo (ZGu 44 (Ya 49)) s10.1 [u0_0] fp0_0] []) ?_ (s0:=(a0,a1,0)) ?_ h
 ·clear hC h
  rintro s10 e_ w10 nx10 K10 ⟨hS_,hC⟩ h hK10
  rw [ue hS_]
  refine ZAc (sr (Za (v:=.int .i64 s10.2.2) rfl (Za (v:=u0_0) rfl ?_)))
  obtain ⟨Ad10,c10,hv10⟩:=Zi8 (hC.getM 0 rfl)
  refine Zv ZAy (tr rfl hv10) (Zq rfl rfl (dn ?_))
  refine Zr rfl (fun hb10=>?_) (fun hb10=>?_)
  ·replace h:=ift h (ct hb10)
   refine ZAg (Zd (ZAc (ZAl (Zn (Za (v:=u0_0) rfl (Za (v:=.int .i64 s10.2.2) rfl ?_))))))
   obtain ⟨⟨h10,h11⟩,h⟩:=h
   obtain ⟨cs10,f10,⟨g10,cap10,hv11,hcell10⟩,hin10,hsub10,hout10⟩:=Zi6 (hC.getM 0 rfl) s10.2.2.toNat (show s10.2.2.toNat < s10.1.length by omega)
   refine Zar (s10.2.2.toNat * 1) ZAy ag44.size (tr rfl hv11) rfl h10 h11 rfl (Zx (s10.2.2.toNat * 1+0) Try.underlying44 rfl sc42.size rfl rfl ?_)
   obtain ⟨u10,rfl⟩:=ZA6.1 (show cs10.length=1 from((Ya 49)).ty.len (Tr.trep _ hin10.1))
   have hin11:=hin10; rw [X3 _ _ (show s10.2.2.toNat < s10.1.length by omega)] at hin11
   obtain ⟨ho10,hf10⟩:=Zb7 (show (ZGu 49 ETerm.tr).tree ((s10.1.getD s10.2.2.toNat Zsn).terms) [u10] f10 _ from hin11.1)
   subst hf10
   refine Xy (u10) (Zgs (o:=0) (k:=1) hcell10 rfl) sc42 rfl (Za (v:=.int .i64 s10.2.1) rfl ?_)
   refine Zk [u10,.int .i64 s10.2.1] _ Try.func45 rfl rfl rfl (Zoi ((s10.1.getD s10.2.2.toNat Zsn).terms) s10.2.1 h _ ho10) (fun ret10 w11 hR10=>?_)
   obtain ⟨r10,m10,rfl,h,hm10,hB10⟩:=hR10
   refine⟨_,rfl,?_⟩
   replace hC:=hC.turn 0 (jt:=ZAo (ZGu 44 (Ya 49)) (s10.1.set s10.2.2.toNat (⟨m10⟩:ZAd)) [u0_0] fp0_0) rfl hB10.os hB10.tape hB10.output hB10.size hB10.drawn (fun c_ hc_ hn_=>hB10.old c_ hc_ (fun h_=>hn_ (hsub10 c_ h_))) (hout10 (⟨m10⟩:ZAd) _ (Zg1 hm10) hB10) (fun b_ hb_=>.inl hb_)
   refine Zc (v:=.int .i64 r10) rfl (done (Zt (Zd (Zn (Za (v:=.int .i64 s10.2.2) rfl (Zp rfl rfl (Zc (v:=.int .i64 (Zu2.wrap (s10.2.2+1))) rfl (done ?_))))))))
   exact hK10 (s10.1.set s10.2.2.toNat (⟨m10⟩:ZAd),r10,Zu2.wrap (s10.2.2+1)) _ _ ⟨(sl ⟨rfl,rfl,rfl,trivial⟩),hC⟩ h
  ·replace h:=Zh h (cf hb10)
   refine ZAt (Zl (Zl (Z4 ?_)))
   refine Zd (sr (Za (v:=.int .i64 s10.2.1) rfl (Zc (v:=.int .i64 s10.2.1) rfl (dn (ZAk ?_)))))
   refine Zg (fn:=Try.f27) rfl ?_ ⟨s10.2.1,s10.1,rfl,h,(hC.getM 0 rfl),hC.belO⟩ (.inl rfl)
   exact Zf rfl
 ·skip
  exact⟨(sl ⟨rfl,rfl,rfl,trivial⟩),hC⟩
def Zei (a0:Alg) (a1:Int) (K:Int→Alg→Prop):Prop :=
 Za6 a0.degrees a1 (fun r9 m10=>Zeh a0.images r9 (fun r10 m11=>K r10 (⟨m10,m11⟩:Alg)))
theorem Zpp (a0:Alg) (a1:Int) {u0_0:Value} {u0_1:Value} {fp0_1:List Nat} {K:Int→Alg→Prop} (h:Zei a0 a1 K) (w0:World) (qw0:(own 2 1 u0_0 a0.degrees.length ((EI .i64).encs a0.degrees)).holds w0) (qw1:(ZAo (ZGu 44 (Ya 49)) a0.images [u0_1] fp0_1).holds w0) (dw0_1:∀ x,x∈(ZA7 (Zth u0_0))→x∉fp0_1) :
  Calls ZAf 10 #[.agg #[u0_0,u0_1],.int .i64 a1] w0 fun e w'=>∃ (r0:Int) (mw:Alg),
   e=.returned (.int .i64 r0)∧K r0 mw∧(own 2 1 u0_0 mw.degrees.length ((EI .i64).encs mw.degrees)).holds w'∧(ZAo (ZGu 44 (Ya 49)) mw.images [u0_1] fp0_1).holds w'∧BelO ((ZA7 (Zth u0_0))++fp0_1) w0 w':=by
 unfold Zei at h
 refine Zz (args:=[.agg #[u0_0,u0_1],.int .i64 a1]) Try.func10 rfl 14 Try.ntmps10 (ZAe rfl) ?_
 have hC:=Ctx.startL w0 ((ZA7 (Zth u0_0))++fp0_1) [own 2 1 u0_0 a0.degrees.length ((EI .i64).encs a0.degrees),ZAo (ZGu 44 (Ya 49)) a0.images [u0_1] fp0_1] [] (by simp only [Zsj,Zur,or_false,forall_eq_or_imp,forall_eq]; exact⟨qw0,qw1⟩) (by simp) (by simp only [Zsj,Zur,or_false,forall_eq_or_imp,forall_eq]; exact⟨fun b hb=>(Ztc _ hb),fun b hb=>(Zs7 _ hb)⟩) (Zs8.2 ⟨(by simp only [Zsj,Zur,or_false,forall_eq_or_imp,forall_eq]; exact dw0_1),(ZHk _ _)⟩) (by simp)
 refine sr (Yg (v:=.agg #[u0_0,u0_1]) hC [u0_0,u0_1] rfl rfl fun b3 w5 hB_ hC=>Zc (v:=.int .i64 0) rfl (dn (sr (Zx 0 ZAs rfl sc22.size rfl rfl (Z0 hC 0 (u0_0) rfl sc22 rfl rfl (Za (v:=.int .i64 a1) rfl ?_))))))
 refine Zk [u0_0,.int .i64 a1] _ Try.func26 rfl rfl rfl (Zj4 a0.degrees a1 h _ (hC.getM 1 rfl)) (fun ret6 w8 hR7=>?_)
 obtain ⟨r9,m10,rfl,h,hm10,hB10⟩:=hR7
 refine⟨_,rfl,?_⟩
 replace hC:=hC.turnL hB10 (M':=[blk b3 32 [u0_0,u0_1],own 2 1 u0_0 m10.length ((EI .i64).encs m10),ZAo (ZGu 44 (Ya 49)) a0.images [u0_1] fp0_1]) rfl (fun x_ hx_=>⟨_,List.mem_of_getElem? (i:=1) rfl,hx_⟩) (by simp only [Zsj,Zur,or_false,forall_eq_or_imp,forall_eq]; exact⟨(hC.stay 0 rfl hB10 (fun x_ hq_ hx_=>hC.mm 0 1 rfl rfl (by decide) x_ hq_ hx_)),hm10,(hC.stay 2 rfl hB10 (fun x_ hq_ hx_=>hC.mm 2 1 rfl rfl (by decide) x_ hq_ hx_))⟩)
 refine Zc (v:=.int .i64 r9) rfl (dn (sr (Zx 1 ZAs rfl sc30.size rfl rfl (Z0 hC 0 (u0_1) rfl sc30 rfl rfl (Za (v:=.int .i64 r9) rfl ?_)))))
 refine Zk [u0_1,.int .i64 r9] _ Try.func27 rfl rfl rfl (Zpo a0.images r9 h _ (hC.getM 2 rfl)) (fun ret10 w10 hR10=>?_)
 obtain ⟨r10,m11,rfl,h,hm11,hB11⟩:=hR10
 refine⟨_,rfl,?_⟩
 replace hC:=hC.turnL hB11 (M':=[blk b3 32 [u0_0,u0_1],own 2 1 u0_0 m10.length ((EI .i64).encs m10),ZAo (ZGu 44 (Ya 49)) m11 [u0_1] fp0_1]) rfl (fun x_ hx_=>⟨_,List.mem_of_getElem? (i:=2) rfl,hx_⟩) (by simp only [Zsj,Zur,or_false,forall_eq_or_imp,forall_eq]; exact⟨(hC.stay 0 rfl hB11 (fun x_ hq_ hx_=>hC.mm 0 2 rfl rfl (by decide) x_ hq_ hx_)),(hC.stay 1 rfl hB11 (fun x_ hq_ hx_=>hC.mm 1 2 rfl rfl (by decide) x_ hq_ hx_)),hm11⟩)
 refine Zc (v:=.int .i64 r10) rfl (dn (sr (Za (v:=.int .i64 r10) rfl (Zc (v:=.int .i64 r10) rfl (dn (ZAk ?_))))))
 refine Zg (fn:=Try.f10) rfl ?_ ⟨r10,(⟨m10,m11⟩:Alg),rfl,h,(hC.getM 1 rfl),(hC.getM 2 rfl),hC.belO⟩ (.inl rfl)
 exact Zf rfl
def Zcr (a0:List Int) (a1:Int) (K:Int→Prop):Prop :=
 Yh (fun i10 (s10:Int) nx10=>(if a0.getD i10 Zsn≠s10 then K (-1) else nx10 (Zu2.wrap (s10+1)))) (fun (s10:Int)=>K s10) a0.length 0 a1
theorem Zpq (a0:List Int) (a1:Int) {u0_0:Value} {fp0:List Nat} {K:Int→Prop} (h:Zcr a0 a1 K) (w0:World) (q0:((EI .i64).ty.sl).rep a0 [u0_0] fp0 w0) :
  Calls ZAf 28 #[u0_0,.int .i64 a1] w0 fun e w'=>∃ (r0:Int),
   e=.returned (.int .i64 r0)∧K r0∧Bel w0 w':=by
 unfold Zcr at h
 refine Zz (args:=[u0_0,.int .i64 a1]) Try.func28 rfl 21 Try.ntmps28 (ZAe rfl) ?_
 have hC:=ZAv (X:=Nox) w0 [Zz9 ((EI .i64).ty.sl) a0 [u0_0] fp0] (by simp only [Zsj,Zur,or_false,forall_eq_or_imp,forall_eq]; exact q0)
 refine sr (Zc (v:=.int .i64 0) rfl (dn (ZAc (sr (Zc (v:=.int .i64 0) rfl (dn (ZAl ?_)))))))
 have hN10:a0.length≤9223372036854775807:=Y9 (hC.getP 0 rfl)
 refine Yp (S:=Int) _ _ (fun i10 s10 e_ w_=>Z1 e_ [(0,u0_0),(1,.int .i64 s10),(5,.int .i64 (i10:Int))]∧Ctx Nox w0 w_ [] [Zz9 ((EI .i64).ty.sl) a0 [u0_0] fp0]) a0.length ?_ ?_ (s0:=a1) ?_ h
 ·clear hC h
  rintro i10 s10 e_ w10 nx10 K10 hi10 ⟨hS_,hC⟩ h hK10
  rw [ue hS_]
  refine ZAc (sr (Za (v:=.int .i64 (i10:Int)) rfl (Za (v:=u0_0) rfl ?_)))
  obtain ⟨Ad10,c10,hv11⟩:=Zw (hC.getP 0 rfl)
  refine Zv ZAu (tr rfl hv11) (Zq rfl rfl (dn (Yf rfl (decide_eq_true (by omega)) (ZAg (Zd (ZAc (ZAl (ZAc (sr (Za (v:=u0_0) rfl (Za (v:=.int .i64 (i10:Int)) rfl ?_)))))))))))
  obtain ⟨Ad11,c11,hv10⟩:=Z6 (hC.getP 0 rfl) i10 hi10
  refine Yv (len:=a0.length) ZAu sc2.size (tr rfl hv10) rfl (ZAx _) (ZBk.2 hi10) (Xy (.int .i64 (a0.getD i10 Zsn)) (Yj (hC.getP 0 rfl) hv10 i10 hi10) sc2 rfl (Za (v:=.int .i64 s10) rfl (Y0 rfl rfl (dn ?_))))
  refine Zr rfl (fun hb10=>?_) (fun hb10=>?_)
  ·replace h:=ift h (ct hb10)
   refine sr (Zc (v:=.int .i64 (-1)) rfl (dn ?_))
   refine ZAk (Ze (Z2 (Ze (Ze (Z2 (Ze ?_))))))
   refine Zg (fn:=Try.f28) rfl ?_ ⟨(-1),rfl,h,hC.below⟩ (.inl rfl)
   exact Zf rfl
  ·replace h:=Zh h (cf hb10)
   refine ZAg (Zd (Zn (Za (v:=.int .i64 s10) rfl (Zp rfl rfl (Zc (v:=.int .i64 (Zu2.wrap (s10+1))) rfl (done (Zt (Zd (Zn (Za (v:=.int .i64 (i10:Int)) rfl (Zp rfl rfl ?_)))))))))))
   refine Zc (v:=.int .i64 (Zu2.wrap ((i10:Int)+1))) rfl (done ?_)
   exact hK10 (Zu2.wrap (s10+1)) _ _ ⟨(sl ⟨rfl,rfl,(tr rfl (congrArg _ (Yb hi10 hN10))),trivial⟩),hC⟩ h
 ·clear hC h
  rintro s10 e_ w11 K10 ⟨hS_,hC⟩ h
  rw [ue hS_]
  refine ZAc (sr (Za (v:=.int .i64 (a0.length:Int)) rfl (Za (v:=u0_0) rfl ?_)))
  obtain ⟨Ad12,c12,hv12⟩:=Zw (hC.getP 0 rfl)
  refine Zv ZAu (tr rfl hv12) (Zq rfl rfl (dn (Yd rfl (decide_eq_false (by omega)) ?_)))
  refine ZAt (Zl (Zl (Z4 ?_)))
  refine Zd (sr (Za (v:=.int .i64 s10) rfl (Zc (v:=.int .i64 s10) rfl (dn (ZAk ?_)))))
  refine Zg (fn:=Try.f28) rfl ?_ ⟨s10,rfl,h,hC.below⟩ (.inl rfl)
  exact Zf rfl
 ·skip
  exact⟨(sl ⟨rfl,rfl,rfl,trivial⟩),hC⟩
end Go.Proofs.Ytheenipahifleaa
namespace Go.Proofs.Ytheenipahifleaa
open Go Vc
theorem Zhg {a b:A8} {K:Bool→Prop} (h:K (decide (pcmp a b < 0))):Zbj a b K:=by
  simp only [Zbj,Yh,A8.get]
  simp only [pcmp,A8.list,X7] at h
  have e:∀ x y:Int,decide (x - y < 0)=decide (x < y):=fun x y=>decide_eq_decide.2 (by omega)
  repeat' split
  all_goals (simp_all)
theorem Zbn {x:Int} {K:Int→Prop} (h:K (x % 10007)):Xu x K:=by
  unfold Xu
  have:=Zd9 x
  rw [i64_in _ (by omega),Zjv]
  exact h
theorem Zj5 {x:Int} {K:Int→Prop} (h:K (x % 10007)):Za3 x K:=by
  unfold Za3
  have:=Zd9 x
  rw [i64_in _ (by omega),Zjv]
  exact h
theorem Zf1 {a b:Int} (ha:0≤a∧a≤10006) (hb:0≤b∧b≤10006):0≤a * b∧a * b≤100120036 :=
  ⟨ZHl ha.1 hb.1,by have:=ZHm ha.2 hb.2 hb.1 (by omega:(0:Int)≤10006); omega⟩
theorem Zhh {S:Type} {c:Prop} [Decidable c] {A B:(S→Prop)→Prop} {T:S→Prop} (h:c) (k:A T):joinP (fun J=>if c then A J else B J) T:=by show if c then A T else B T; rw [if_pos h]; exact k
theorem Zf2 {S:Type} {c:Prop} [Decidable c] {A B:(S→Prop)→Prop} {T:S→Prop} (h:¬ c) (k:B T):joinP (fun J=>if c then A J else B J) T:=by show if c then A T else B T; rw [if_neg h]; exact k
theorem Zcs {A B:Prop} (h:A):if true=true then A else B:=by simpa using h
theorem Zf3 {A B:Prop} (h:B):if false=true then A else B:=by simpa using h
theorem Zac {c:Prop} [Decidable c] {A B:Prop} (h:c) (k:A):if c then A else B:=by rw [if_pos h]; exact k
theorem J4 {c:Prop} [Decidable c] {A B:Prop} (h:¬ c) (k:B):if c then A else B:=by rw [if_neg h]; exact k
theorem Zj6 {f g : List Term} {k : Int} {K : ZAd → Prop} (cf : Canon f) (cg : Canon g) (hk : 0 ≤ k ∧ k ≤ 10006) (hf : f.length ≤ 100000000) (hg : g.length ≤ 100000000) (h : ∀ out, IsAdd f g k out → K ⟨out⟩) : Jx ⟨f⟩ ⟨g⟩ k K := by
  unfold Jx
  dsimp only
  refine Xo (fun (s:List Term×Int×Int)=>0≤s.2.1∧0≤s.2.2∧AddI f g k s.1 s.2.1.toNat s.2.2.toNat) (fun s=>(f.length - s.2.1.toNat)+(g.length - s.2.2.toNat)) ?_ ⟨ZG1 _,ZG1 _,AddI.zero f g k⟩
  rintro ⟨out,i,j⟩ next ⟨h1,h2,hI⟩ hn
  have hi:=hI.hi
  have hj:=hI.hj
  have hln:=hI.ln
  have hR:Xf (out.length+1) 16:=by unfold Xf; dsimp only at hln hi hj ⊢; omega
  dsimp only at h1 h2 hI hi hj hR hn ⊢
  have ni:(i+1).toNat=i.toNat+1:=by omega
  have nj:(j+1).toNat=j.toNat+1:=by omega
  have wi:Zu2.wrap (i+1)=i+1:=i64_in _ (by omega)
  have wj:Zu2.wrap (j+1)=j+1:=i64_in _ (by omega)
  rw [wi,wj]
  have goF:i.toNat < f.length→(j.toNat < g.length→pcmp (f.getD i.toNat Zsn).mono (g.getD j.toNat Zsn).mono < 0)→next (out++[f.getD i.toNat Zsn],i+1,j):=fun a b =>
    hn _ ⟨by dsimp only; omega,by dsimp only; omega,by dsimp only; rw [ni]; exact hI.stepF cf cg a b⟩ (by dsimp only; omega)
  have bg:j.toNat < g.length→1≤(g.getD j.toNat Zsn).factor∧(g.getD j.toNat Zsn).factor≤10006:=fun a=>cg.at_range a
  have bf:i.toNat < f.length→1≤(f.getD i.toNat Zsn).factor∧(f.getD i.toNat Zsn).factor≤10006:=fun a=>cf.at_range a
  have wk:j.toNat < g.length→Zu2.wrap (k * (g.getD j.toNat Zsn).factor)=k * (g.getD j.toNat Zsn).factor:=fun a=>by
    have:=bg a
    have:=Zf1 hk (show 0≤(g.getD j.toNat Zsn).factor∧(g.getD j.toNat Zsn).factor≤10006 by omega)
    exact i64_in _ (by omega)
  have goG:j.toNat < g.length→(i.toNat < f.length→pcmp (g.getD j.toNat Zsn).mono (f.getD i.toNat Zsn).mono < 0) →
      Xu (Zu2.wrap (k * ((g.getD j.toNat Zsn).factor))) (fun r=>(if r≠0 then((0≤j∧j < (g.length:Int))∧(Xf (out.length+1) 16∧next (out++[(⟨(g.getD j.toNat Zsn).mono,r⟩:Term)],i,j+1))) else next (out,i,j+1))):=by
    intro a b
    refine Zbn ?_
    rw [wk a]
    split
    · rename_i q
      exact⟨by omega,hR,hn _ ⟨by dsimp only; omega,by dsimp only; omega,by dsimp only; rw [nj]; exact hI.stepG1 cf cg a b rfl q⟩ (by dsimp only; omega)⟩
    · rename_i q
      exact hn _ ⟨by dsimp only; omega,by dsimp only; omega,by dsimp only; rw [nj]; exact hI.stepG0 cf cg a (by omega)⟩ (by dsimp only; omega)
  have goB:i.toNat < f.length→j.toNat < g.length→(f.getD i.toNat Zsn).mono=(g.getD j.toNat Zsn).mono →
      ((0≤i∧i < (f.length:Int))∧((0≤j∧j < (g.length:Int))∧Xu (Zu2.wrap (k * ((g.getD j.toNat Zsn).factor))) (fun r753=>Xu (Zu2.wrap (((f.getD i.toNat Zsn).factor)+r753)) (fun r758=>(if r758≠0 then((0≤i∧i < (f.length:Int))∧(Xf (out.length+1) 16∧next (out++[(⟨(f.getD i.toNat Zsn).mono,r758⟩:Term)],i+1,j+1))) else next (out,i+1,j+1)))))):=by
    intro a b e
    refine⟨by omega,by omega,Zbn ?_⟩
    rw [wk b]
    have:=bf a
    rw [i64_in _ (by omega)]
    refine Zbn ?_
    rw [show ((f.getD i.toNat Zsn).factor+k * (g.getD j.toNat Zsn).factor % 10007) % 10007=((f.getD i.toNat Zsn).factor+k * (g.getD j.toNat Zsn).factor) % 10007 by omega]
    split
    · rename_i q
      exact⟨by omega,hR,hn _ ⟨by dsimp only; omega,by dsimp only; omega,by dsimp only; rw [ni,nj]; exact hI.stepB1 cf cg a b e rfl q⟩ (by dsimp only; omega)⟩
    · rename_i q
      exact hn _ ⟨by dsimp only; omega,by dsimp only; omega,by dsimp only; rw [ni,nj]; exact hI.stepB0 cf cg a b e (by omega)⟩ (by dsimp only; omega)
  by_cases hif:i < (f.length:Int)
  · refine Zhh hif (Zcs ?_)
    by_cases hjg:j=(g.length:Int)
    · exact Zhh hjg (Zcs ⟨by omega,hR,goF (by omega) (fun q=>by omega)⟩)
    · refine Zf2 hjg (Zac hif ⟨by omega,by omega,Zhg ?_⟩)
      by_cases hp:pcmp (f.getD i.toNat Zsn).mono (g.getD j.toNat Zsn).mono < 0
      · rw [decide_eq_true hp]
        exact Zcs ⟨by omega,hR,goF (by omega) (fun _=>hp)⟩
      · rw [decide_eq_false hp]
        refine Zf3 (Zf2 (by omega) ⟨by omega,by omega,Zhg ?_⟩)
        by_cases hq:pcmp (g.getD j.toNat Zsn).mono (f.getD i.toNat Zsn).mono < 0
        · rw [decide_eq_true hq]
          exact Zcs ⟨by omega,goG (by omega) (fun _=>hq)⟩
        · rw [decide_eq_false hq]
          exact Zf3 (goB (by omega) (by omega) (Zft hp hq))
  · refine Zf2 hif ?_
    by_cases hjg:j < (g.length:Int)
    · rw [decide_eq_true hjg]
      refine Zcs (Zf2 (by omega) (J4 hif (Zf3 (Zhh (by omega) (Zcs ⟨by omega,goG (by omega) (fun q=>by omega)⟩)))))
    · rw [decide_eq_false hjg]
      exact Zf3 (h _ (hI.done (by omega) (by omega)))
def OkForm (ds:List Int) (l:List Term):Prop:=l.length≤400∧∀ i,i < l.length→OkMono ds (l.getD i Zsn).mono∧(1≤(l.getD i Zsn).factor∧(l.getD i Zsn).factor≤10006)∧(0 < i→pcmp (l.getD (i - 1) Zsn).mono (l.getD i Zsn).mono < 0)
instance (ds:List Int) (l:List Term):Decidable (OkForm ds l):=inferInstanceAs (Decidable (_∧∀ i,i < l.length→_))
theorem OkForm.canon {ds:List Int} {l:List Term} (h:OkForm ds l):Canon l:=by
  have step:∀ n i,i+n+1 < l.length→pcmp (l.getD i Zsn).mono (l.getD (i+n+1) Zsn).mono < 0:=by
    intro n
    induction n with
    | zero=>intro i hi; have:=(h.2 (i+1) (by omega)).2.2 (by omega); simpa using this
    | succ n ih =>
      intro i hi
      have h1:=ih i (by omega)
      have h2:=(h.2 (i+(n+1)+1) (by omega)).2.2 (by omega)
      rw [show i+(n+1)+1 - 1=i+n+1 by omega] at h2
      exact Zab h1 h2
  refine⟨Zsp.2 fun i j hi hj hij=>?_,fun t ht=>?_⟩
  · have:=step (j - i - 1) i (by omega)
    rw [show i+(j - i - 1)+1=j by omega] at this
    simpa [Zsu,hi,hj] using this
  · obtain ⟨i,hi,rfl⟩:=Zsx ht
    have:=(h.2 i hi).2.1
    simpa [Zsu,hi] using this
theorem OkForm.mono {ds:List Int} {l:List Term} (h:OkForm ds l) {t:Term} (ht:t∈l):OkMono ds t.mono:=by
  obtain ⟨i,hi,rfl⟩:=Zsx ht
  have:=(h.2 i hi).1
  simpa [Zsu,hi] using this
def Zbo (l:List Term):Prop:=∀ t,t∈l→∀ i,i < 8→0≤t.mono.get i∧t.mono.get i≤255
theorem Zpr {ds : List Int} {l : List Term} {K : Bool → Prop} (hd : ds.length ≤ 8) (hp : Zbo l) (hl : l.length ≤ 100000000) (h : K (decide (OkForm ds l))) : Zdf ds ⟨l⟩ K := by
  unfold Zdf
  dsimp only
  refine Xo (fun (s:Int)=>0≤s∧s≤l.length∧∀ i,i < s.toNat→OkMono ds (l.getD i Zsn).mono∧(1≤(l.getD i Zsn).factor∧(l.getD i Zsn).factor≤10006)∧(0 < i→pcmp (l.getD (i - 1) Zsn).mono (l.getD i Zsn).mono < 0)) (fun s=>l.length - s.toNat) ?_ ⟨by omega,by omega,fun i hi=>by omega⟩
  rintro i next ⟨h1,h2,h3⟩ hn
  have bad:(i.toNat < l.length)→¬ (OkMono ds (l.getD i.toNat Zsn).mono∧(1≤(l.getD i.toNat Zsn).factor∧(l.getD i.toNat Zsn).factor≤10006)∧(0 < i.toNat→pcmp (l.getD (i.toNat - 1) Zsn).mono (l.getD i.toNat Zsn).mono < 0))→K false:=by
    intro a b
    have:¬ OkForm ds l:=fun q=>b (q.2 _ a)
    rwa [decide_eq_false this] at h
  split
  · rename_i hi
    have a:i.toNat < l.length:=by omega
    refine⟨by omega,Zom (fun q hq=>(hp _ (Xv a) q hq).1) hd ?_⟩
    split
    · rename_i q
      exact bad a fun z=>q (decide_eq_true z.1)
    · rename_i q1
      have q1:OkMono ds (l.getD i.toNat Zsn).mono:=by simpa using q1
      refine Zjn ?_
      split
      · rename_i q
        exact bad a fun z=>q (decide_eq_true z.2.1)
      · rename_i q2
        have q2:1≤(l.getD i.toNat Zsn).factor∧(l.getD i.toNat Zsn).factor≤10006:=by simpa using q2
        have w1:Zu2.wrap (i+1)=i+1:=i64_in _ (by omega)
        rw [w1]
        have ok:(0 < i.toNat→pcmp (l.getD (i.toNat - 1) Zsn).mono (l.getD i.toNat Zsn).mono < 0)→next (i+1):=fun q3=>by
          refine hn _ ⟨by omega,by omega,fun j hj=>?_⟩ (by omega)
          by_cases hji:j=i.toNat
          · subst hji; exact⟨q1,q2,q3⟩
          · exact h3 j (by omega)
        split
        · have w2:Zu2.wrap (i - 1)=i - 1:=i64_in _ (by omega)
          rw [w2,show (i - 1).toNat=i.toNat - 1 by omega]
          refine⟨by omega,Zhg ?_⟩
          split
          · rename_i q
            exact bad a fun z=>q (decide_eq_true (z.2.2 (by omega)))
          · rename_i q
            exact ok fun _=>by simpa using q
        · exact ok fun q=>by omega
  · rename_i hi
    have:OkForm ds l↔(l.length:Int)≤400:=⟨fun q=>by have:=q.1; omega,fun q=>⟨by omega,fun i hi'=>h3 i (by omega)⟩⟩
    rw [decide_eq_decide.2 this] at h
    exact h
theorem Zhi {s a b:Int} (hs:s=1∨s=-1) (ha:1≤a∧a≤10006) (hb:1≤b∧b≤10006):Zu2.wrap (Zu2.wrap (s * a) * b)=s * (a * b):=by
  have:=Zf1 (show 0≤a∧a≤10006 by omega) (show 0≤b∧b≤10006 by omega)
  rcases hs with rfl | rfl
  · rw [i64_in (1 * a) (by omega),Int.mul_assoc,i64_in _ (by omega)]
  · rw [i64_in (-1 * a) (by omega),Int.mul_assoc,i64_in _ (by omega)]
theorem Zps {ds:List Int} {t:Term} {g:List Term} {K:ZAd→Prop} (hd:OkDeg ds) (ht:Xt ds t.mono) (htf:1≤t.factor∧t.factor≤10006) (pt:∀ i,i < 8→0≤t.mono.get i) (cg:Canon g) (wg:∀ u,u∈g→Xt ds u.mono) (pg:Zbo g) (hl:g.length≤100000000)
    (h:∀ out,IsShift ds t g out→K ⟨out⟩):Zde ds t ⟨g⟩ K:=by
  unfold Zde
  dsimp only
  refine Xo (fun (s:List Term×Int)=>0≤s.2∧s.2≤g.length∧IsShift ds t (g.take s.2.toNat) s.1) (fun s=>g.length - s.2.toNat) ?_ ⟨by omega,by omega,by simpa using IsShift.nil ds t⟩
  rintro ⟨out,i⟩ next ⟨h1,h2,hI⟩ hn
  dsimp only at h1 h2 hI hn ⊢
  split
  · rename_i hi
    have a:i.toNat < g.length:=by omega
    have hu:=Xv a
    have ni:(i+1).toNat=i.toNat+1:=by omega
    have wi:Zu2.wrap (i+1)=i+1:=i64_in _ (by omega)
    rw [wi]
    have hct:Canon (g.take i.toNat++[g.getD i.toNat Zsn]):=by
      rw [← Jn a]
      exact⟨cg.1.sublist (List.take_sublist _ _),fun s hs=>cg.2 s (ZIm hs)⟩
    refine⟨by omega,Zot hd ht (wg _ hu) pt (fun q hq=>(pg _ hu q hq).1) ?_⟩
    split
    · rename_i hs
      have hf:=cg.at_range a
      have hln:=hI.ln
      simp only [Zup] at hln
      refine⟨by omega,Zbn ?_⟩
      rw [Zhi (Zea hs).2.2 htf hf]
      refine⟨by unfold Xf; omega,hn _ ⟨by dsimp only; omega,by dsimp only; omega,?_⟩ (by dsimp only; omega)⟩
      dsimp only
      rw [ni,Jn a]
      exact hI.put hct htf hs rfl
    · rename_i hs
      refine hn _ ⟨by dsimp only; omega,by dsimp only; omega,?_⟩ (by dsimp only; omega)
      dsimp only
      rw [ni,Jn a]
      exact hI.skip (by simpa using hs)
  · rename_i hi
    rw [Ztt (by omega)] at hI
    exact h _ hI
theorem Zj7 {ds:List Int} {f g:List Term} {K:ZAd→Prop} (hd:OkDeg ds) (cf:Canon f) (wf:∀ u,u∈f→Xt ds u.mono) (pf:Zbo f) (cg:Canon g) (wg:∀ u,u∈g→Xt ds u.mono) (pg:Zbo g) (hf:f.length≤10000) (hg:g.length≤10000)
    (h:∀ out,IsProd ds f g out→K ⟨out⟩):Je ds ⟨f⟩ ⟨g⟩ K:=by
  unfold Je
  dsimp only
  refine Xo (fun (s:List Term×Int)=>0≤s.2∧s.2≤f.length∧IsProd ds (f.take s.2.toNat) g s.1) (fun s=>f.length - s.2.toNat) ?_ ⟨by omega,by omega,by simpa using IsProd.nil ds g⟩
  rintro ⟨out,i⟩ next ⟨h1,h2,hI⟩ hn
  dsimp only at h1 h2 hI hn ⊢
  split
  · rename_i hi
    have a:i.toNat < f.length:=by omega
    have hu:=Xv a
    have ni:(i+1).toNat=i.toNat+1:=by omega
    have wi:Zu2.wrap (i+1)=i+1:=i64_in _ (by omega)
    rw [wi]
    refine⟨by omega,Zps hd (wf _ hu) (cf.at_range a) (fun q hq=>(pf _ hu q hq).1) cg wg pg (by omega) fun sh hsh=>?_⟩
    have hln:=hI.ln
    have hls:=hsh.ln
    have:(f.take i.toNat).length * g.length≤10000 * 10000:=Nat.mul_le_mul (by rw [Zup]; omega) hg
    refine Zj6 hI.can hsh.can (by omega) (by omega) (by omega) fun out' ho=>?_
    refine hn _ ⟨by dsimp only; omega,by dsimp only; omega,?_⟩ (by dsimp only; omega)
    dsimp only
    rw [ni,Jn a]
    exact hI.step hsh ho
  · rename_i hi
    rw [Ztt (by omega)] at hI
    exact h _ hI
end Go.Proofs.Ytheenipahifleaa
namespace Go.Proofs.Ytheenipahifleaa
open Go Vc
theorem Zpt {a b:A8} {K:Int→Prop} (ha:OkP a) (hb:OkP b) (h:K (pcmp a b)):Zfl a b K:=Zml ha hb h
def FitT (l:List Term):Prop:=∀ t,t∈l→Ju .u8 t.mono
theorem FitT.pos {l:List Term} (h:FitT l):Zbo l:=fun t ht i hi=>Zgx (Zgy (h t ht) hi)
theorem Zj8 {a:A8} (h:Ju .u8 a):OkP a:=fun x hx=>by
  obtain ⟨i,hi,rfl⟩:=A8.mem_list.1 hx
  have:=Zgx (Zgy h hi)
  omega
theorem Zpu {x:Int} {K:Bool→Prop} (h:K (decide (1≤x∧x≤10006))):Zfo x K:=Zjo h
theorem Zpv {ds : List Int} {l : List Term} {K : Bool → Prop} (hd : OkDeg ds) (hp : FitT l) (h : K (decide (OkForm ds l))) : Zcg ds ⟨l⟩ K := by
  unfold Zcg
  dsimp only
  split
  · rename_i q
    have:¬ OkForm ds l:=fun z=>by have:=z.1; omega
    rwa [decide_eq_false this] at h
  · rename_i q0
    refine Yz (fun i _=>∀ j,j < i→OkMono ds (l.getD j Zsn).mono∧(1≤(l.getD j Zsn).factor∧(l.getD j Zsn).factor≤10006)∧(0 < j→pcmp (l.getD (j - 1) Zsn).mono (l.getD j Zsn).mono < 0)) l.length ?_ ?_ _ _ _ (by omega) (by intro j hj; omega)
    · intro i s next hi hI hn
      have bad:¬ (OkMono ds (l.getD i Zsn).mono∧(1≤(l.getD i Zsn).factor∧(l.getD i Zsn).factor≤10006)∧(0 < i→pcmp (l.getD (i - 1) Zsn).mono (l.getD i Zsn).mono < 0))→K false:=by
        intro b
        have:¬ OkForm ds l:=fun q=>b (q.2 _ hi)
        rwa [decide_eq_false this] at h
      refine Zon hd (fun q hq=>(hp.pos _ (Xv hi) q hq).1) ?_
      split
      · rename_i q
        exact bad fun z=>q (decide_eq_true z.1)
      · rename_i q1
        have q1:OkMono ds (l.getD i Zsn).mono:=of_decide_eq_true (ZGv.1 q1)
        refine Zpu ?_
        split
        · rename_i q
          exact bad fun z=>q (decide_eq_true z.2.1)
        · rename_i q2
          have q2:1≤(l.getD i Zsn).factor∧(l.getD i Zsn).factor≤10006:=of_decide_eq_true (ZGv.1 q2)
          have ok:(0 < i→pcmp (l.getD (i - 1) Zsn).mono (l.getD i Zsn).mono < 0)→next ():=fun q3=>by
            refine hn _ fun j hj=>?_
            by_cases hji:j=i
            · subst hji; exact⟨q1,q2,q3⟩
            · exact hI j (by omega)
          split
          · have w2:Zu2.wrap ((i:Int) - 1)=(i:Int) - 1:=i64_in _ (by omega)
            rw [w2,show ((i:Int) - 1).toNat=i - 1 by omega]
            have f1:=hp _ (Xv (show i - 1 < l.length by omega))
            have f2:=hp _ (Xv hi)
            refine⟨by omega,Zd4 f1 (Zd4 f2 (Zpt (Zj8 f1) (Zj8 f2) ?_))⟩
            split
            · rename_i q
              exact bad fun z=>by have:=z.2.2 (by omega); omega
            · rename_i q
              exact ok fun _=>by omega
          · exact ok fun q=>by omega
    · intro s hI
      have:OkForm ds l:=⟨by omega,hI⟩
      rwa [decide_eq_true this] at h
structure IsMap (l:List Term) (m:List (A8×Int)):Prop where
  ok:MapOk m
  cf:∀ x,co m x=coT l x
  ks:∀ p,p∈m→∃ t,t∈l∧t.mono=p.1
theorem Zj9 {l : List Term} {K : List (A8 × Int) → Prop} (hc : Canon l) (hp : FitT l) (h : ∀ m, IsMap l m → K m) : Zce ⟨l⟩ K := by
  unfold Zce
  dsimp only
  refine Yz (fun i (s:List (A8×Int))=>IsMap (l.take i) s) l.length ?_ ?_ _ _ _ (by omega) ⟨MapOk.nil,by intro x; rfl,by simp⟩
  · intro i s next hi hI hn
    refine Zd4 (hp _ (Xv hi)) (hn _ ?_)
    rw [Jn hi]
    have hnew:co s (l.getD i Zsn).mono=0:=by
      rw [hI.cf]
      refine Zd8 fun t ht=>?_
      obtain ⟨j,hj,rfl⟩:=Zsx ht
      rw [Zup] at hj
      have:=hc.at_lt (show j < i by omega) hi
      have hjl:j < l.length:=by omega
      simp only [List.getElem_take]
      rw [show l.getD j Zsn=l[j] by simp [Zsu,hjl]] at this
      exact Zcj this
    refine⟨hI.ok.put (hc.at_range hi),fun x=>?_,fun p hpm=>?_⟩
    · rw [Zjz hI.ok.1,Zau,← hI.cf]
      by_cases hx:x=(l.getD i Zsn).mono
      · subst hx; rw [if_pos rfl,if_pos rfl,hnew,ZC1]
      · rw [if_neg hx,if_neg (fun e=>hx e.symm),ZGw]
    · rcases Zhf hpm with rfl | q
      · exact⟨_,by simp,rfl⟩
      · obtain ⟨t,ht,e⟩:=hI.ks p q
        exact⟨t,by simp [ht],e⟩
  · intro s hI
    rw [List.take_length] at hI
    exact h _ hI
theorem Zka {l:List (A8×Int)} {x:A8} {c:Int} {K:List (A8×Int)→Prop} (hl:MapOk l) (hc:-100000000000≤c∧c≤100000000000) (h:∀ l',IsPut l x c l'→K l'):Zcd l x c K:=by
  unfold Zcd
  rw [Zcn hl.1]
  have:=hl.range x
  rw [i64_in _ (by omega)]
  refine Zj5 ?_
  split
  · rename_i q; exact h _ (IsPut.put hl rfl q)
  · rename_i q; exact h _ (IsPut.del hl (by omega))
structure IsSum (s t:List (A8×Int)) (k:Int) (out:List (A8×Int)):Prop where
  ok:MapOk out
  cf:∀ m,co out m % 10007=(co s m+k * co t m) % 10007
  ks:∀ p,p∈out→∃ q,(q∈s∨q∈t)∧q.1=p.1
  ln:out.length≤s.length+t.length
theorem Zpw {s t : List (A8 × Int)} {k : Int} {K : List (A8 × Int) → Prop} (hs : MapOk s) (ht : MapOk t) (hk : 0 ≤ k ∧ k ≤ 10006) (h : ∀ out, IsSum s t k out → K out) : Zbk s t k K := by
  unfold Zbk
  refine Zfb (fun l' (out:List (A8×Int))=>(∀ p,p∈l'→p∈t)∧MapOk out∧(∀ m,(co out m+k * co l' m) % 10007=(co s m+k * co t m) % 10007)∧(∀ p,p∈out→∃ q,(q∈s∨q∈t)∧q.1=p.1)∧out.length+l'.length≤s.length+t.length) ?_ ?_ t s ⟨fun _ h=>h,hs,fun _=>rfl,fun p hp=>⟨p,.inl hp,rfl⟩,by omega⟩
  · intro l' p l'' out next hp ⟨h0,h1,h2,h3,h4⟩ hn
    have hperm:=Zfc hp
    have hpm:p∈l':=hperm.mem_iff.2 (by simp)
    have hpt:=ht.2 p (h0 p hpm)
    have hb:=Zf1 (show 0≤p.2∧p.2≤10006 by omega) hk
    rw [i64_in _ (by omega)]
    have htm:=Zd9 (p.2 * k)
    refine Zka h1 (by omega) fun out' ho=>hn _ ⟨fun q hq=>h0 q (hperm.mem_iff.2 (by simp [hq])),ho.ok,fun m=>?_,fun q hq=>?_,?_⟩
    · have e1:=ho.cf m
      have e2:=h2 m
      have e3:co l' m=(if p.1=m then p.2 else 0)+co l'' m:=by rw [co,Zck _ hperm]; rfl
      rw [e3,Int.mul_add] at e2
      by_cases hm:p.1=m
      · rw [if_pos hm] at e1 e2
        have e4:=Zjw (p.2 * k)
        rw [Int.mul_comm k p.2] at e2
        omega
      · rw [if_neg hm] at e1 e2
        omega
    · rcases ho.ks q hq with e | ⟨q',hq',e⟩
      · exact⟨p,.inr (h0 p hpm),e.symm⟩
      · obtain ⟨z,hz,e'⟩:=h3 q' hq'
        exact⟨z,hz,e'.trans e⟩
    · have:=ho.ln
      have:=Zc9 hp
      omega
  · intro out ⟨_,h1,h2,h3,h4⟩
    exact h _ ⟨h1,fun m=>by have:=h2 m; rw [Zcm,ZHa,ZGw] at this; exact this,h3,by simpa using h4⟩
def shM (ds:List Int) (p:A8×Int) (t:List (A8×Int)) (m:A8):Int:=tot (fun q=>pr1 ds p.1 p.2 q.1 q.2 m) t
def prM (ds:List Int) (s t:List (A8×Int)) (m:A8):Int:=tot (fun p=>shM ds p t m) s
structure IsProdM (ds:List Int) (s t out:List (A8×Int)):Prop where
  ok:MapOk out
  cf:∀ m,co out m % 10007=prM ds s t m % 10007
  ks:∀ p,p∈out→∃ a b,a∈s∧b∈t∧p.1=a.1.add b.1∧¬ Clash ds a.1 b.1
theorem Zkb {ds : List Int} {s t : List (A8 × Int)} {K : List (A8 × Int) → Prop} (hd : OkDeg ds) (hs : MapOk s) (ws : ∀ p, p ∈ s → Xt ds p.1) (ps : ∀ p, p ∈ s → ∀ i, i < 8 → 0 ≤ p.1.get i) (ht : MapOk t) (wt : ∀ p, p ∈ t → Xt ds p.1) (pt : ∀ p, p ∈ t → ∀ i, i < 8 → 0 ≤ p.1.get i)
    (h:∀ out,IsProdM ds s t out→K out):Zal s ds t K:=by
  unfold Zal
  refine Zfb (fun l' (out:List (A8×Int))=>(∀ p,p∈l'→p∈s)∧MapOk out∧(∀ m,(co out m+prM ds l' t m) % 10007=prM ds s t m % 10007)∧(∀ p,p∈out→∃ a b,a∈s∧b∈t∧p.1=a.1.add b.1∧¬ Clash ds a.1 b.1)) ?_ ?_ s [] ⟨fun _ h=>h,MapOk.nil,fun m=>by rw [Zcm,ZC1],by simp⟩
  · intro l' p l'' out next hp ⟨h0, h1, h2, h3⟩ hn
    have hperm:=Zfc hp
    have hpm:p∈s:=h0 p (hperm.mem_iff.2 (by simp))
    have hpf:=hs.2 p hpm
    have e3:∀ m,prM ds l' t m=shM ds p t m+prM ds l'' t m:=fun m=>by rw [prM,Zck _ hperm]; rfl
    refine Zfb (fun k' (o2:List (A8×Int))=>(∀ q,q∈k'→q∈t)∧MapOk o2∧(∀ m,(co o2 m+shM ds p k' m) % 10007=(co out m+shM ds p t m) % 10007)∧(∀ q,q∈o2→∃ a b,a∈s∧b∈t∧q.1=a.1.add b.1∧¬ Clash ds a.1 b.1)) ?_ ?_ t out ⟨fun _ h=>h,h1,fun _=>rfl,h3⟩
    · intro k' q k'' o2 next' hq ⟨g0, g1, g2, g3⟩ hn'
      have hperm2:=Zfc hq
      have hqm:q∈t:=g0 q (hperm2.mem_iff.2 (by simp))
      have hqf:=ht.2 q hqm
      have e4:∀ m,shM ds p k' m=pr1 ds p.1 p.2 q.1 q.2 m+shM ds p k'' m:=fun m=>by rw [shM,Zck _ hperm2]; rfl
      refine Zou hd (ws p hpm) (wt q hqm) (ps p hpm) (pt q hqm) ?_
      split
      · rename_i hsg
        rw [Zhi (Zea hsg).2.2 hpf hqf]
        have htm:=Zd9 ((Yu ds p.1 q.1).2 * (p.2 * q.2))
        refine Zka g1 (by omega) fun o3 ho=>hn' _ ⟨fun z hz=>g0 z (hperm2.mem_iff.2 (by simp [hz])),ho.ok,fun m=>?_,fun z hz=>?_⟩
        · have e1:=ho.cf m
          have e2:=g2 m
          rw [e4,pr1] at e2
          by_cases hm:(Yu ds p.1 q.1).1=m
          · rw [if_pos hm] at e1 e2
            have e5:=Zjw ((Yu ds p.1 q.1).2 * (p.2 * q.2))
            omega
          · rw [if_neg hm] at e1 e2
            omega
        · rcases ho.ks z hz with e | ⟨z',hz',e⟩
          · exact⟨p,q,hpm,hqm,by rw [e,(Zea hsg).2.1],(Zea hsg).1⟩
          · obtain ⟨a,b,ha,hb,e',hc⟩:=g3 z' hz'
            exact⟨a,b,ha,hb,e ▸ e',hc⟩
      · rename_i hsg
        refine hn' _ ⟨fun z hz=>g0 z (hperm2.mem_iff.2 (by simp [hz])),g1,fun m=>?_,g3⟩
        have e2:=g2 m
        rw [e4,pr1,show (Yu ds p.1 q.1).2=0 by simpa using hsg] at e2
        simpa using e2
    · intro o2 ⟨_,g1,g2,g3⟩
      refine hn _ ⟨fun q hq=>h0 q (hperm.mem_iff.2 (by simp [hq])),g1,fun m=>?_,g3⟩
      have e1:=g2 m
      have e2:=h2 m
      rw [e3] at e2
      rw [show shM ds p [] m=0 from rfl] at e1
      omega
  · intro out ⟨_,h1,h2,h3⟩
    exact h _ ⟨h1,fun m=>by have:=h2 m; rw [show prM ds [] t m=0 from rfl,ZGw] at this; exact this,h3⟩
theorem Zhj {l : List Term} {k : List (A8 × Int)} (hk : IsMap l k) (hc : Canon l) (F : A8 → Int → Int) (hF : ∀ a, F a 0 = 0) : tot (fun p => F p.1 p.2) k = tot (fun t => F t.mono t.factor) l := by
  have hnd:(l.map fun t=>(t.mono,t.factor)).Nodup:=by
    refine ZG7.2 (hc.1.imp fun {a b} h e=>?_)
    exact Zcj h (congrArg Ztp e)
  have hperm:k.Perm (l.map fun t=>(t.mono,t.factor)):=by
    have hkn:k.Nodup:=by
      have:=hk.ok.1
      exact List.Pairwise.imp (fun {a b} h e=>h (congrArg Ztp e)) (ZG7.1 this)
    refine(List.perm_ext_iff_of_nodup hkn hnd).2 fun p=>?_
    have atk:∀ p,p∈k→co k p.1=p.2:=by
      intro p hp
      obtain ⟨i,hi,rfl⟩:=Zsx hp
      have hkk:=hk.ok.1
      clear hk hkn
      induction k generalizing i with
      | nil=>simp at hi
      | cons q k ih =>
        simp only [Zto,ZGx] at hkk
        rw [Jy]
        cases i with
        | zero=>rw [List.getElem_cons_zero,if_pos rfl,Za4 fun t ht e=>hkk.1 (Zty.2 ⟨t,ht,e⟩),ZGw]
        | succ i =>
          have hi':i < k.length:=by simpa using hi
          rw [List.getElem_cons_succ,if_neg (fun e=>hkk.1 (Zty.2 ⟨_,Zsy hi',e.symm⟩)),ZC1]
          exact ih i hi' (Zsy hi') hkk.2
    have atl:∀ t,t∈l→coT l t.mono=t.factor:=by
      intro t ht
      clear hk hkn hnd atk
      induction l with
      | nil=>simp at ht
      | cons q l ih =>
        rcases Zsj.1 ht with rfl | ht
        · exact hc.at_head
        · rw [Zcl,if_neg (Zcj (hc.head t ht)),ZC1]; exact ih hc.tail ht
    constructor
    · intro hp
      obtain ⟨t,ht,e⟩:=hk.ks p hp
      refine Zty.2 ⟨t,ht,?_⟩
      have h1:=atk p hp
      rw [hk.cf,← e,atl t ht] at h1
      rw [e,h1]
    · intro hp
      obtain ⟨t,ht,rfl⟩:=Zty.1 hp
      have h1:=hk.cf t.mono
      rw [atl t ht] at h1
      have hnz:=hc.2 t ht
      have:∃ p,p∈k∧p.1=t.mono:=by
        refine ZHn fun hno=>?_
        rw [Za4 (fun p hp e=>hno ⟨p,hp,e⟩)] at h1
        omega
      obtain ⟨p,hp,e⟩:=this
      have h2:=atk p hp
      rw [e,h1] at h2
      rw [← e,h2]; exact hp
  rw [Zck _ hperm,Zbl]
def Low (a:A8):Prop:=∀ i,i < 8→a.get i≤20
instance (a:A8):Decidable (Low a):=inferInstanceAs (Decidable (∀ i,i < 8→_))
end Go.Proofs.Ytheenipahifleaa
namespace Vc
open Go
def A8.mkf (f:Nat→Int):A8:=⟨f 0,f 1,f 2,f 3,f 4,f 5,f 6,f 7⟩
theorem A8.get_mkf (f:Nat→Int) {i:Nat} (hi:i < 8):(A8.mkf f).get i=f i:=by
  match i,hi with
  | 0,_ | 1,_ | 2,_ | 3,_ | 4,_ | 5,_ | 6,_ | 7,_=>rfl
def Xm (m:A8) (i:Nat):A8:=A8.mkf fun j=>if j < i then m.get j else 0
def leftA (m:A8) (i:Nat):A8:=A8.mkf fun j=>if j < i then m.get j else if j=i then m.get i - 1 else 0
def backA (m:A8) (i:Nat):A8:=A8.mkf fun j=>if i < j then m.get j else 0
def wtU (ds:List Int) (m:A8):Nat→Int
  | 0=>0
  | i+1=>wtU ds m i+ds.getD i Zsn * m.get i
theorem Zkc (F : A8 → Int) (S : List A8) (hS : S.Nodup) : ∀ l : List Term, (∀ t, t ∈ l → t.mono ∈ S) → tot (fun t => F t.mono * t.factor) l = tot (fun x => F x * coT l x) S := by
  intro l
  induction l with
  | nil=>intro _; simp only [tot]; rw [Zfv]; intro x _; rw [Zd7,ZHa]
  | cons t l ih =>
    intro h
    simp only [tot]
    rw [ih fun s hs=>h s (by simp [hs])]
    have e:∀ x,F x * coT (t::l) x=(if t.mono=x then F x * t.factor else 0)+F x * coT l x:=fun x=>by
      rw [Zcl,Int.mul_add]
      congr 1
      split
      · rfl
      · rw [ZHa]
    rw [Zd6 (fun x _=>e x),Zow]
    congr 1
    have ht:=h t (by simp)
    clear ih h e
    induction S with
    | nil=>cases ht
    | cons s S ihS =>
      simp only [tot]
      have hn:=ZGx.1 hS
      by_cases hs:t.mono=s
      · subst hs
        rw [if_pos rfl,Zfv]
        · omega
        · intro x hx
          rw [if_neg]
          rintro rfl
          exact hn.1 hx
      · rw [if_neg hs,ZC1]
        refine ihS hn.2 ?_
        rcases Zsj.1 ht with q | q
        · exact absurd q hs
        · exact q
def Zan:List A8→List A8
  | []=>[]
  | a::l=>if a∈Zan l then Zan l else a::Zan l
theorem Zhk {a:A8}:∀ l,a∈l→a∈Zan l
  | b :: l, h => by
    simp only [Zan]
    rcases Zsj.1 h with rfl | h
    · split
      · assumption
      · simp
    · have:=Zhk l h
      split
      · exact this
      · simp [this]
theorem Zf4:∀ l,(Zan l).Nodup
  | []=>List.nodup_nil
  | a :: l => by
    simp only [Zan]
    split
    · exact Zf4 l
    · exact ZGx.2 ⟨by assumption,Zf4 l⟩
theorem lin (F:A8→Int) {l k:List Term} (h:∀ x,coT l x % 10007=coT k x % 10007):tot (fun t=>F t.mono * t.factor) l % 10007=tot (fun t=>F t.mono * t.factor) k % 10007:=by
  have S:=Zan (l.map ZG3++k.map ZG3)
  rw [Zkc F (Zan (l.map ZG3++k.map ZG3)) (Zf4 _) l fun t ht=>Zhk _ (by simp; exact .inl ⟨t,ht,rfl⟩),
    Zkc F (Zan (l.map ZG3++k.map ZG3)) (Zf4 _) k fun t ht=>Zhk _ (by simp; exact .inr ⟨t,ht,rfl⟩)]
  refine Zox fun x _=>?_
  rw [ZG2,h x,← ZG2]
def tri (ds:List Int) (l b u:A8) (n:Int) (x:A8):Int:=if(Yu ds (Yu ds l u).1 b).1=x then(Yu ds (Yu ds l u).1 b).2 * ((Yu ds l u).2 * n) else 0
def triC (ds:List Int) (l b:A8) (img:List Term) (x:A8):Int:=tot (fun u=>tri ds l b u.mono u.factor x) img
theorem Zkd {ds:List Int} {l b:A8} {img own prod:List Term} (h1:∀ y,coT own y % 10007=shC ds ⟨l,1⟩ img y % 10007) (h2:∀ x,coT prod x % 10007=prC ds own [⟨b,1⟩] x % 10007) (x:A8):coT prod x % 10007=triC ds l b img x % 10007:=by
  rw [h2]
  have e1:prC ds own [⟨b,1⟩] x=tot (fun t=>(if(Yu ds t.mono b).1=x then(Yu ds t.mono b).2 else 0) * t.factor) own:=by
    refine Zd6 fun t _=>?_
    unfold shC pr1
    simp only [tot,Int.mul_one,ZGw]
    split <;> simp
  have hL:∀ y,coT own y % 10007=coT (img.map fun u=>(⟨(Yu ds l u.mono).1,(Yu ds l u.mono).2 * u.factor⟩:Term)) y % 10007:=fun y=>by
    rw [h1 y,shC,coT,Zbl]
    congr 1
    refine Zd6 fun u _=>?_
    unfold pr1
    simp only [Int.one_mul]
  rw [e1,lin (fun y=>if(Yu ds y b).1=x then(Yu ds y b).2 else 0) hL,Zbl]
  congr 1
  refine Zd6 fun u _=>?_
  unfold tri
  dsimp only
  split <;> simp
def dK (ds:List Int) (m:A8) (n:Int) (i:Nat):Int:=(sg (wtU ds m i) * (n * m.get i)) % 10007
def dS (ds:List Int) (imgs:List (List Term)) (m:A8) (n:Int) (x:A8):Nat→Nat→Int
  | 0,_=>0
  | r+1,i=>(if m.get i > 0 then dK ds m n i * triC ds (leftA m i) (backA m i) (imgs.getD i Zsn) x else 0)+dS ds imgs m n x r (i+1)
def dT (ds:List Int) (imgs:List (List Term)) (m:A8) (n:Int) (x:A8):Int:=dS ds imgs m n x 8 0
theorem Zpx (ds:List Int) (m:A8) (i:Nat):dK ds m 0 i=0:=by simp [dK]
theorem Zke (ds:List Int) (imgs:List (List Term)) (m x:A8):dT ds imgs m 0 x=0:=by
  have:∀ r i,dS ds imgs m 0 x r i=0:=by
    intro r
    induction r with
    | zero=>intro i; rfl
    | succ r ih=>intro i; simp only [dS,ih,Zpx]; split <;> simp
  exact this 8 0
theorem Zpy {ds:List Int} {imgs:List (List Term)} {m:A8} {n:Int} {x:A8}:∀ r i,(∀ j,i≤j→j < i+r→m.get j=0)→dS ds imgs m n x r i=0:=by
  intro r
  induction r with
  | zero=>intro i _; rfl
  | succ r ih=>intro i h; simp only [dS]; rw [h i (by omega) (by omega),if_neg (by omega),ih (i+1) fun j h1 h2=>h j (by omega) (by omega)]; rfl
def DMono (ds:List Int) (imgs:List (List Term)) (x m:A8):Prop:=∃ i u,i < 8∧0 < m.get i∧u∈imgs.getD i Zsn∧x=((leftA m i).add u.mono).add (backA m i)∧¬ Clash ds (leftA m i) u.mono∧¬ Clash ds ((leftA m i).add u.mono) (backA m i)
structure IsD (ds:List Int) (imgs:List (List Term)) (f out:List Term):Prop where
  can:Canon out
  cf:∀ x,coT out x % 10007=tot (fun t=>dT ds imgs t.mono t.factor x) f % 10007
  mo:∀ y,y∈out→∃ t,t∈f∧DMono ds imgs y.mono t.mono
theorem Zkf {ds : List Int} {m : A8} {i : Nat} (h : OkMono ds m) (hi : i < 8) (hp : 0 < m.get i) : Xt ds (leftA m i) ∧ Xt ds (backA m i) := by
  constructor
  · intro j hj
    rw [leftA,A8.get_mkf _ hj]
    have hm:=h j hj
    refine⟨fun hl=>?_,fun hl=>?_⟩
    · have h1:=hm.1 hl
      split
      · exact⟨by omega,h1.2⟩
      · split
        · rename_i e; subst e; exact⟨by omega,fun q=>by have:=h1.2 q; omega⟩
        · exact⟨by omega,fun _=>by omega⟩
    · have h1:=hm.2 hl
      split
      · exact h1
      · split
        · rename_i e; subst e; omega
        · rfl
  · intro j hj
    rw [backA,A8.get_mkf _ hj]
    have hm:=h j hj
    refine⟨fun hl=>?_,fun hl=>?_⟩
    · have h1:=hm.1 hl
      split
      · exact⟨by omega,h1.2⟩
      · exact⟨by omega,fun _=>by omega⟩
    · have h1:=hm.2 hl
      split
      · exact h1
      · rfl
theorem Zkg {ds:List Int} {a b:A8} (ha:Xt ds a) (hb:Xt ds b) (pa:∀ i,i < 8→0≤a.get i) (pb:∀ i,i < 8→0≤b.get i) (hs:∀ i,i < 8→a.get i+b.get i≤100) (hc:¬ Clash ds a b):Xt ds (a.add b):=by
  intro j hj
  rw [A8.get_add]
  have h1:=ha j hj
  have h2:=hb j hj
  refine⟨fun hl=>⟨hs j hj,fun ho=>?_⟩,fun hl=>by rw [h1.2 hl,h2.2 hl]; rfl⟩
  have g1:=(h1.1 hl).2 ho
  have g2:=(h2.1 hl).2 ho
  have:=pa j hj
  have:=pb j hj
  have:¬ (0 < a.get j∧0 < b.get j):=fun q=>hc ⟨j,hl,ho,q⟩
  omega
end Vc
namespace Go.Proofs.Ytheenipahifleaa
open Go Vc
def asT (m:List (A8×Int)):List Term:=m.map fun p=>⟨p.1,p.2⟩
theorem Zhl (m:List (A8×Int)) (x:A8):coT (asT m) x=co m x:=by rw [coT,asT,Zbl]; rfl
theorem Zkh {l : List Term} {out : List (A8 × Int)} (hc : Canon l) (ho : MapOk out) (h : ∀ x, co out x % 10007 = coT l x % 10007) : IsMap l out := by
  have hcf:∀ x,co out x=coT l x:=fun x=>by have:=h x; have:=ho.range x; have:=hc.range x; omega
  refine⟨ho,hcf,fun p hp=>ZHn fun hno=>?_⟩
  have h1:coT l p.1=0:=Zd8 fun t ht e=>hno ⟨t,ht,e⟩
  rw [← hcf,← Zcn ho.1] at h1
  have h2:=ho.2 p hp
  have h3:(Xz out p.1).getD 0=p.2:=by
    rw [Zcn ho.1]
    have hk:=ho.1
    clear h hcf hno h1 h2 ho
    induction out with
    | nil=>simp at hp
    | cons q k ih =>
      simp only [Zto,ZGx] at hk
      rw [Jy]
      rcases Zsj.1 hp with rfl | hp
      · rw [if_pos rfl,Za4 fun t ht e=>hk.1 (Zty.2 ⟨t,ht,e⟩),ZGw]
      · rw [if_neg (fun e=>hk.1 (Zty.2 ⟨p,hp,e.symm⟩)),ZC1]
        exact ih hp hk.2
  omega
theorem Zpz {ds:List Int} {l b:A8} {img:List Term} {s own t:List (A8×Int)} (hs:IsMap img s) (hc:Canon img) (h1:IsProdM ds [(l,1)] s own) (h2:IsProdM ds own [(b,1)] t) (x:A8):co t x % 10007=triC ds l b img x % 10007:=by
  rw [← Zhl]
  refine Zkd (own:=asT own) (fun y=>?_) (fun x=>?_) x
  · rw [Zhl,h1.cf]
    unfold prM shM shC
    simp only [tot,ZGw]
    rw [Zhj hs hc (fun a n=>pr1 ds l 1 a n y) (fun a=>by unfold pr1; split <;> simp)]
  · rw [Zhl,h2.cf]
    unfold prM shM prC shC asT
    rw [Zbl]
    simp only [tot,ZGw]
structure IsDM (ds:List Int) (imgs:List (List Term)) (s out:List (A8×Int)):Prop where
  ok:MapOk out
  cf:∀ x,co out x % 10007=tot (fun p=>dT ds imgs p.1 p.2 x) s % 10007
  mo:∀ y,y∈out→∃ t,t∈s∧DMono ds imgs y.1 t.1
theorem Zp0 {ds:List Int} {imgs:List (List Term)} {f:List Term} {s out':List (A8×Int)} {out:List Term} (hs:IsMap f s) (hc:Canon f) (h:IsD ds imgs f out) (h':IsDM ds imgs s out'):IsMap out out' :=
  Zkh h.can h'.ok fun x=>by
    rw [h'.cf,h.cf,Zhj hs hc (fun a n=>dT ds imgs a n x) (fun a=>Zke ds imgs a x)]
theorem Zki {l:List Term} {m:List (A8×Int)} (h:IsMap l m) (hc:Canon l):m=[]↔l=[]:=by
  constructor
  · intro e
    cases l with
    | nil=>rfl
    | cons t l =>
      have h1:=h.cf t.mono
      rw [hc.at_head,e,Zcm] at h1
      have:=hc.2 t (by simp)
      omega
  · intro e
    cases m with
    | nil=>rfl
    | cons p m =>
      obtain ⟨t,ht,_⟩:=h.ks p (by simp)
      rw [e] at ht; cases ht
end Go.Proofs.Ytheenipahifleaa
namespace Go.Proofs.Ytheenipahifleaa
open Go Vc
theorem Zp1 {a b:Term} {K:Bool→Prop} (h:K (decide (a=b))):Zdz a b K:=by
  unfold Zdz
  refine Zor ?_
  cases a with | mk m x=>cases b with | mk n y =>
  by_cases h1:m=n
  · by_cases h2:x=y
    · simpa [h1,h2] using h
    · simpa [h1,h2] using h
  · simpa [h1] using h
theorem Zhm {α : Type} [DecidableEq α] [Inhabited α] {a b : List α} {K : Bool → Prop} {eq : α → α → (Bool → Prop) → Prop} (he : ∀ x y K, K (decide (x = y)) → eq x y K) (h : K (decide (a = b))) :
    (if(a.length:Int)≠(b.length:Int) then K false else Yh (fun i (s:Unit) next=>((0≤(i:Int)∧(i:Int) < (b.length:Int))∧eq (a.getD i Zsn) (b.getD i Zsn) (fun r=>(if¬ (r=true) then K false else next ())))) (fun (s:Unit)=>K true) a.length 0 ()):=by
  split
  · rename_i h1
    have:¬ a=b:=fun e=>h1 (by rw [e])
    simpa [this] using h
  · rename_i h1
    have hl:a.length=b.length:=by omega
    refine Yz (fun i _=>∀ j,j < i→a.getD j Zsn=b.getD j Zsn) a.length ?_ ?_ _ _ _ (by omega) (by intro j hj; omega)
    · intro i s next hi hI hn
      refine⟨by omega,he _ _ _ ?_⟩
      split
      · rename_i h1
        have:¬ a=b:=fun e=>h1 (by rw [e]; simp)
        simpa [this] using h
      · rename_i h1
        refine hn _ fun j hj=>?_
        by_cases hji:j=i
        · subst hji; simpa only [decide_eq_true_eq,ZGv] using h1
        · exact hI j (by omega)
    · intro s hI
      have:a=b:=by
        apply Zu8 hl
        intro i h1 h2
        have:=hI i h1
        simpa [Zsu,h1,h2] using this
      simpa [this] using h
theorem Zp2 {a b:List Term} {K:Bool→Prop} (h:K (decide (a=b))):Zfp a b K:=Zhm (fun _ _ _ h=>Zp1 h) h
theorem Zp3 {a b:ZAd} {K:Bool→Prop} (h:K (decide (a=b))):Zd0 a b K:=by
  unfold Zd0
  refine Zp2 ?_
  cases a with | mk s=>cases b with | mk t =>
  by_cases h1:s=t
  · simpa [h1] using h
  · simpa [h1] using h
theorem Zp4 {a b:List ZAd} {K:Bool→Prop} (h:K (decide (a=b))):Zfq a b K:=Zhm (fun _ _ _ h=>Zp3 h) h
theorem Zp5 {a b:Alg} {K:Bool→Prop} (h:K (decide (a=b))):Zcq a b K:=by
  unfold Zcq
  refine Zjp ?_
  cases a with | mk s t=>cases b with | mk u v =>
  dsimp only
  by_cases h1:s=u
  · simp only [h1,decide_true,not_true_eq_false,if_false]
    refine Zp4 ?_
    by_cases h2:t=v
    · simpa [h1,h2] using h
    · simpa [h2] using h
  · simpa [h1] using h
theorem Zav {α:Type} [Inhabited α] {xs:List α} {i j:Nat} {x:α} (hi:i < xs.length):(xs.set i x).getD j Zsn=if j=i then x else xs.getD j Zsn:=by
  by_cases h:j=i
  · subst h; simp [Zsu,hi]
  · simp [Zsu,List.getElem?_set_ne (fun e=>h e.symm),h]
def Zhn (t:Term) (c:Int):Prop:=(∀ q,q < 8→t.mono.get q=ZAm.wrap (c+q))∧t.factor=c+8
theorem Zp6 {l : List Term} {m : Int} {K : Int → List Term → Prop} (hm : 0 ≤ m ∧ m + 9 * l.length ≤ 4611686018427387904) (h : ∀ x', x'.length = l.length → (∀ j : Nat, j < x'.length → Zhn (x'.getD j Zsn) (m + 9 * j)) → K (m + 9 * l.length) x') : Zd1 l m K := by
  unfold Zd1
  refine Xo (fun (s:List Term×Int×Int)=>s.1.length=l.length∧(0≤s.2.2∧s.2.2≤l.length)∧s.2.1=m+9 * s.2.2∧∀ j:Nat,(j:Int) < s.2.2→Zhn (s.1.getD j Zsn) (m+9 * j)) (fun s=>l.length - s.2.2.toNat) ?_ ⟨rfl,by dsimp only; omega,by simp,by intro j hj; dsimp only at hj; omega⟩
  rintro ⟨x,c,i⟩ next ⟨h1,h2,h3,h4⟩ hn
  dsimp only at h1 h2 h3 h4 ⊢
  split
  · rename_i hi
    refine Yz (fun q (s:List Term×Int)=>s.1.length=l.length∧s.2=c+q∧(∀ j:Nat,(j:Int) < i→Zhn (s.1.getD j Zsn) (m+9 * j))∧∀ r,r < q→(s.1.getD i.toNat Zsn).mono.get r=ZAm.wrap (c+r)) 8 ?_ ?_ _ _ _ (by omega) ⟨h1,by simp,h4,by intro r hr; omega⟩
    · rintro q ⟨y,d⟩ next' hq ⟨g1,g2,g3,g4⟩ hn'
      dsimp only at g1 g2 g3 g4 ⊢
      refine⟨by omega,?_⟩
      rw [i64_in (d+1) (by omega)]
      refine hn' _ ⟨by simpa using g1,by dsimp only; omega,fun j hj=>?_,fun r hr=>?_⟩
      · dsimp only; rw [Zav (by omega),if_neg (by omega)]; exact g3 j hj
      · dsimp only; rw [Zav (by omega),if_pos rfl]
        dsimp only
        rw [ZC4 hq]
        split
        · rename_i e; rw [g2,e]
        · exact g4 r (by omega)
    · rintro ⟨y,d⟩ ⟨g1,g2,g3,g4⟩
      dsimp only at g1 g2 g3 g4 ⊢
      refine⟨by omega,?_⟩
      rw [i64_in (d+1) (by omega),i64_in (i+1) (by omega)]
      refine hn _ ⟨by simpa using g1,by dsimp only; omega,by dsimp only; omega,fun j hj=>?_⟩ (by dsimp only; omega)
      dsimp only at hj ⊢
      rw [Zav (by omega)]
      split
      · rename_i e
        have hc:c=m+9 * (j:Int):=by rw [h3]; omega
        exact⟨fun q hq=>by dsimp only; rw [g4 q hq,hc],by dsimp only; omega⟩
      · exact g3 j (by omega)
  · rename_i hi
    have hc:c=m+9 * l.length:=by rw [h3]; omega
    rw [hc]
    exact h x h1 fun j hj=>h4 j (by omega)
end Go.Proofs.Ytheenipahifleaa
namespace Go.Proofs.Ytheenipahifleaa
open Go Vc
theorem Zp7 {t:Term} {K:Term→Prop} (h:K t):Zdw t K:=by
  unfold Zdw
  exact Zop h
theorem Zp8 {l:List Term} {K:List Term→Prop} (hl:l.length≤1048576) (h:K l):Zdx l K:=by
  unfold Zdx
  refine⟨by omega,?_⟩
  refine Yz (fun i (s:List Term)=>s.length=l.length∧∀ j,j < i→s.getD j Zsn=l.getD j Zsn) l.length ?_ ?_ _ _ _ (by omega) ⟨by simp,by intro j hj; omega⟩
  · intro i s next hi ⟨h1,h2⟩ hn
    refine Zp7 ⟨by omega,hn _ ⟨by simpa using h1,fun j hj=>?_⟩⟩
    rw [Zav (by omega)]
    by_cases e:j=i
    · rw [if_pos e,e]
    · rw [if_neg e]; exact h2 j (by omega)
  · intro s ⟨h1,h2⟩
    have:s=l:=Zu8 h1 fun j hj hj'=>by have:=h2 j (by omega); simpa [Zsu,hj,hj'] using this
    rw [this]; exact h
theorem Zp9 {f:ZAd} {K:ZAd→Prop} (hl:f.terms.length≤1048576) (h:K f):Zdy f K:=by
  unfold Zdy
  exact Zp8 hl h
theorem Zqa {f:ZAd} {n:Int} {K:Int→Prop} (hl:(f.terms.length:Int)≤9223372036854775807) (hn:0≤n∧n≤1048576) (h1:(f.terms.length:Int)≤n→K (n - f.terms.length)) (h2:∀ r,r < 0→K r):Zcp f n K:=by
  unfold Zcp Zfy
  rw [i64_in _ (by omega)]
  split
  · exact h2 _ (by omega)
  · dsimp only
    rw [if_neg (by assumption)]
    exact h1 (by omega)
theorem FitT.map {l:List Term} {m:List (A8×Int)} (h:FitT l) (hm:IsMap l m):∀ p,p∈m→∀ i,i < 8→0≤p.1.get i∧p.1.get i≤255:=fun p hp=>by
  obtain ⟨t,ht,e⟩:=hm.ks p hp
  rw [← e]; exact h.pos t ht
theorem Zct {ds:List Int} {a:A8} (h:OkMono ds a):Low a:=fun i hi=>by
  by_cases hl:i < ds.length
  · exact((h i hi).1 hl).1
  · rw [(h i hi).2 (by omega)]; omega
theorem Zkj {b:Bool} {c:Int} {K:Int→Prop} (h:K (if b=true then c else 0)):Zci b c K:=by
  unfold Zci
  split
  · rename_i q; rwa [if_pos q] at h
  · rename_i q; rwa [if_neg q] at h
theorem Zf5 {A B:Prop} (h:B):if¬ (true=true) then A else B:=by simpa using h
theorem Zf6 {c:Int} {A B:Prop} (h:B):if c≠c then A else B:=by simpa using h
theorem Zho {c:Int} {A B:Prop} (hc:0≤c) (h:B):if c < 0 then A else B:=by rw [if_neg (by omega)]; exact h
end Go.Proofs.Ytheenipahifleaa
namespace Go.Proofs.Ytheenipahifleaa
open Go Vc
def imgsT (a:Alg):List (List Term):=a.images.map Vc.Form.terms
theorem Zf7 (a:Alg) {i:Nat} (h:i < a.images.length):(imgsT a).getD i Zsn=(a.images.getD i Zsn).terms:=by
  simp [imgsT,Zsu,h]
structure AlgF (a:Alg):Prop where
  deg:OkDeg a.degrees
  len:a.images.length=a.degrees.length
  frm:∀ i,i < a.images.length→OkForm a.degrees (a.images.getD i Zsn).terms
  fit:∀ i,i < a.images.length→FitT (a.images.getD i Zsn).terms
theorem Zkk {m:A8} {K:ZAd→Prop} (h:K ⟨[⟨m,1⟩]⟩):Jd m 1 K:=by
  unfold Jd
  refine Zbn ?_
  rw [if_neg (by decide)]
  exact Zbn h
theorem Zcu {ds:List Int} {m:A8} (hd:OkDeg ds) (hm:∀ i,i < 8→0≤m.get i∧m.get i≤255):∀ k,k≤ds.length→0≤wtU ds m k∧wtU ds m k≤3060 * k:=by
  intro k
  induction k with
  | zero=>intro _; simp [wtU]
  | succ k ih =>
    intro hk
    have h1:=ih (by omega)
    have h2:=hd.2 k (by omega)
    have h3:=hm k (by have:=hd.1; omega)
    have h4:0≤ds.getD k Zsn * m.get k:=ZHl (by omega) h3.1
    have h5:ds.getD k Zsn * m.get k≤12 * 255:=ZHm h2.2 h3.2 h3.1 (by omega)
    simp only [wtU]
    omega
theorem Zkl {ds:List Int} {m:A8} (hd:OkDeg ds) (hm:∀ i,i < 8→0≤m.get i∧m.get i≤255) {k:Nat} (hk:k < ds.length):0≤ds.getD k Zsn * m.get k∧ds.getD k Zsn * m.get k≤3060:=by
  have h2:=hd.2 k hk
  have h3:=hm k (by have:=hd.1; omega)
  exact⟨ZHl (by omega) h3.1,ZHm h2.2 h3.2 h3.1 (by omega)⟩
theorem Zhp {ds:List Int} {m:A8} {K:Int→Prop} (hd:OkDeg ds) (hm:∀ i,i < 8→0≤m.get i∧m.get i≤255) (h:K (wtU ds m ds.length)):Za2 ds m K:=by
  unfold Za2
  have h8:=hd.1
  refine Yz (fun i (s:Int)=>s=wtU ds m i) ds.length ?_ ?_ _ _ _ (by omega) rfl
  · intro i s next hi hs hn
    have h1:=hm i (by omega)
    have h2:=Zkl hd hm hi
    have h3:=Zcu hd hm i (by omega)
    refine⟨by omega,?_⟩
    rw [i64_in (m.get i) (by omega),i64_in (ds.getD i Zsn * m.get i) (by omega),i64_in _ (by omega)]
    exact hn _ (by simp only [wtU]; rw [hs])
  · intro s hs; rw [hs]; exact h
theorem Zqb {ds:List Int} {m:A8} {K:Int→Prop} (hd:OkDeg ds) (hm:∀ i,i < 8→0≤m.get i∧m.get i≤255) (h:K (wtU ds m ds.length)):Zdo m ds K:=by
  unfold Zdo
  have h8:=hd.1
  refine Yz (fun i (s:Int)=>s=wtU ds m i) ds.length ?_ ?_ _ _ _ (by omega) rfl
  · intro i s next hi hs hn
    have h2:=Zkl hd hm hi
    have h3:=Zcu hd hm i (by omega)
    refine⟨by omega,?_⟩
    rw [i64_in (ds.getD i Zsn * m.get i) (by omega),i64_in _ (by omega)]
    exact hn _ (by simp only [wtU]; rw [hs])
  · intro s hs; rw [hs]; exact h
theorem Zqc {ds:List Int} {m:A8} {i:Nat} (h8:ds.length≤8):∀ k,k≤ds.length→wtU ds (Xm m i) k=wtU ds m (min i k):=by
  intro k
  induction k with
  | zero=>intro _; simp [wtU]
  | succ k ih =>
    intro hk
    simp only [wtU]
    rw [ih (by omega),Xm,A8.get_mkf _ (by omega)]
    by_cases h:k < i
    · rw [if_pos h,show min i (k+1)=k+1 by omega,show min i k=k by omega]
      simp only [wtU]
    · rw [if_neg h,show min i (k+1)=i by omega,show min i k=i by omega]
      simp
theorem Zkm (m:A8):Canon [⟨m,1⟩]:=⟨by simp,by intro t ht; obtain rfl:=Zt8.1 ht; simp⟩
theorem Zqd {l g:List Term} {m:A8} (h:l.length≤([⟨m,1⟩]:List Term).length * g.length):l.length≤g.length:=by simpa using h
theorem Zf8 {a:A8} (h:Low a) (p:∀ i,i < 8→0≤a.get i∧a.get i≤255):∀ i,i < 8→0≤a.get i∧a.get i≤20:=fun i hi=>⟨(p i hi).1,h i hi⟩
theorem Zkn {m:A8} {i:Nat} (hm:∀ i,i < 8→0≤m.get i∧m.get i≤20) (hp:0 < m.get i):(∀ j,j < 8→0≤(leftA m i).get j∧(leftA m i).get j≤20)∧(∀ j,j < 8→0≤(backA m i).get j∧(backA m i).get j≤20)∧∀ j,j < 8→(leftA m i).get j+(backA m i).get j≤20:=by
  refine⟨fun j hj=>?_,fun j hj=>?_,fun j hj=>?_⟩
  · rw [leftA,A8.get_mkf _ hj]
    have:=hm j hj
    split
    · exact this
    · split
      · rename_i e; subst e; omega
      · omega
  · rw [backA,A8.get_mkf _ hj]
    have:=hm j hj
    split <;> omega
  · rw [leftA,backA,A8.get_mkf _ hj,A8.get_mkf _ hj]
    have:=hm j hj
    split
    · rw [if_neg (by omega)]; omega
    · split
      · rename_i e; subst e; rw [if_neg (by omega)]; omega
      · split <;> omega
theorem Zko (ds:List Int) (m:A8) (n:Int) (i:Nat):0≤dK ds m n i∧dK ds m n i≤10006:=by unfold dK; omega
theorem Zqe {w:Int} (hw:0≤w):(Ztb w 2≠0∧sg w=-1)∨(¬ Ztb w 2≠0∧sg w=1):=by
  rw [ZEq hw]
  unfold sg
  by_cases h:w % 2=0
  · right; rw [if_pos h]; exact⟨by omega,rfl⟩
  · left; rw [if_neg h]; exact⟨h,rfl⟩
structure StepD (ds:List Int) (imgs:List (List Term)) (m:A8) (n:Int) (i:Nat) (out out':List Term):Prop where
  can:Canon out'
  cf:∀ x,coT out' x % 10007=(coT out x+dK ds m n i * triC ds (leftA m i) (backA m i) (imgs.getD i Zsn) x) % 10007
  mo:∀ y,y∈out'→(∃ z,z∈out∧z.mono=y.mono)∨DMono ds imgs y.mono m
  ln:out'.length≤out.length+400
theorem Zqf {a:Alg} {K:ZAd→Prop} {m:A8} {n v:Int} {i:Nat} {out:List Term} (ha:AlgF a) (hi:i < a.images.length) (hm:OkMono a.degrees m) (pm:∀ i,i < 8→0≤m.get i∧m.get i≤255) (hp:0 < m.get i) (hc:Canon out) (hl:out.length≤50000000) (hv:v % 10007=dK a.degrees m n i)
    (h:∀ out',StepD a.degrees (imgsT a) m n i out out'→K ⟨out'⟩) :
    Jd (leftA m i) 1 (fun r=>Je a.degrees r (a.images.getD i Zsn) (fun r'=>Jd (backA m i) 1 (fun r2=>Je a.degrees r' r2 (fun r3=>Xu v (fun k=>Jx ⟨out⟩ r3 k K))))):=by
  have hd:=ha.deg
  have hi8:i < 8:=by have:=hd.1; have:=ha.len; omega
  have hf:=ha.frm i hi
  have ff:=ha.fit i hi
  have hm20:=Zf8 (Zct hm) pm
  obtain ⟨lb,bb,lbb⟩:=Zkn hm20 hp
  obtain ⟨wl,wb⟩:=Zkf hm hi8 hp
  refine Zkk ?_
  have hL:(⟨(a.images.getD i Zsn).terms⟩:ZAd)=a.images.getD i Zsn:=rfl
  rw [← hL]
  refine Zj7 hd (Zkm _) (fun u hu=>by obtain rfl:=Zt8.1 hu; exact wl) (fun u hu q hq=>by obtain rfl:=Zt8.1 hu; have:=lb q hq; dsimp only; omega) hf.canon (fun u hu=>(hf.mono hu).wk) ff.pos (by simp) (by have:=hf.1; omega) fun own ho=>?_
  refine Zkk ?_
  have hown:∀ u,u∈own→∃ z,z∈(a.images.getD i Zsn).terms∧u.mono=(leftA m i).add z.mono∧¬ Clash a.degrees (leftA m i) z.mono∧(∀ q,q < 8→0≤z.mono.get q∧z.mono.get q≤20):=fun u hu=>by
    obtain ⟨t,z,ht,hz,e,hcl⟩:=ho.mo u hu
    obtain rfl:=Zt8.1 ht
    exact⟨z,hz,e,hcl,Zf8 (Zct (hf.mono hz)) (ff.pos z hz)⟩
  have wown:∀ u,u∈own→Xt a.degrees u.mono∧∀ q,q < 8→0≤u.mono.get q∧u.mono.get q≤40:=fun u hu=>by
    obtain ⟨z,hz,e,hcl,hz20⟩:=hown u hu
    rw [e]
    refine⟨Zkg wl (hf.mono hz).wk (fun q hq=>(lb q hq).1) (fun q hq=>(hz20 q hq).1) (fun q hq=>by have:=lb q hq; have:=hz20 q hq; omega) hcl,fun q hq=>?_⟩
    rw [A8.get_add]
    have:=lb q hq
    have:=hz20 q hq
    omega
  have lo:=Zqd ho.ln
  refine Zj7 hd ho.can (fun u hu=>(wown u hu).1) (fun u hu q hq=>by have:=(wown u hu).2 q hq; omega) (Zkm _) (fun u hu=>by obtain rfl:=Zt8.1 hu; exact wb) (fun u hu q hq=>by obtain rfl:=Zt8.1 hu; have:=bb q hq; dsimp only; omega) (by have:=hf.1; omega) (by simp) fun prod hpr=>?_
  have lp:prod.length≤400:=by have h1:=hpr.ln; have:=hf.1; simp at h1; omega
  refine Zbn ?_
  rw [hv]
  refine Zj6 hc hpr.can (Zko _ _ _ _) (by omega) (by omega) fun out' hout=>h out' ⟨hout.can,fun x=>?_,fun y hy=>?_,by have:=hout.ln; omega⟩
  · rw [hout.cf]
    have e1:=Zkd (ds:=a.degrees) (l:=leftA m i) (b:=backA m i) (img:=(a.images.getD i Zsn).terms) (own:=own) (prod:=prod) (fun y=>by rw [ho.cf]; simp [prC,tot]) (fun x=>hpr.cf x) x
    rw [Zf7 a hi,ZHb,ZG2,e1,← ZG2,← ZHb]
  · obtain ⟨z,hz,e⟩:=hout.mo y hy
    rcases hz with hz | hz
    · exact .inl ⟨z,hz,e⟩
    · obtain ⟨t,b,ht,hb,e2,hcl2⟩:=hpr.mo z hz
      obtain rfl:=Zt8.1 hb
      obtain ⟨u,hu,e3,hcl,_⟩:=hown t ht
      refine .inr ⟨i,u,hi8,hp,by rw [Zf7 a hi]; exact hu,by rw [← e,e2,e3],hcl,?_⟩
      rw [← e3]; exact hcl2
theorem Zqg {a : Alg} {f : List Term} {K : ZAd → Prop} (ha : AlgF a) (hf : OkForm a.degrees f) (ff : FitT f) (h : ∀ out, IsD a.degrees (imgsT a) f out → out.length ≤ 1280000 → K ⟨out⟩) : Zdh a ⟨f⟩ K := by
  have hd:=ha.deg
  have h8:=hd.1
  have hlen:=ha.len
  have hl4:=hf.1
  unfold Zdh
  dsimp only
  refine Xo (fun (s:List Term×Int)=>0≤s.2∧s.2≤f.length∧IsD a.degrees (imgsT a) (f.take s.2.toNat) s.1∧s.1.length≤3200 * s.2.toNat) (fun s=>f.length - s.2.toNat) ?_ ⟨ZG1 _,by dsimp only; omega,⟨Canon.nil,by intro x; rfl,by intro y hy; cases hy⟩,by simp⟩
  rintro ⟨out0,k⟩ next ⟨h1,h2,hI,hL⟩ hn
  dsimp only at h1 h2 hI hL hn ⊢
  split
  · rename_i hk
    have kn:k.toNat < f.length:=by omega
    refine⟨by omega,?_⟩
    have tm:=Xv kn
    have hm:=hf.mono tm
    have pm:=ff.pos _ tm
    have hfac:=hf.canon.at_range kn
    generalize hgm:(f.getD k.toNat Zsn).mono=m at hm pm ⊢
    generalize hgn:(f.getD k.toNat Zsn).factor=n at hfac ⊢
    have nk:(k+1).toNat=k.toNat+1:=by omega
    have wk1:Zu2.wrap (k+1)=k+1:=i64_in _ (by omega)
    refine Xo (fun (s:List Term×Int)=>0≤s.2∧s.2≤a.degrees.length∧Canon s.1∧(∀ x,(coT s.1 x+dS a.degrees (imgsT a) m n x (8 - s.2.toNat) s.2.toNat) % 10007=(tot (fun t=>dT a.degrees (imgsT a) t.mono t.factor x) (f.take k.toNat)+dT a.degrees (imgsT a) m n x) % 10007)∧(∀ y,y∈s.1→∃ t,t∈f.take (k.toNat+1)∧DMono a.degrees (imgsT a) y.mono t.mono)∧s.1.length≤3200 * k.toNat+400 * s.2.toNat)
      (fun s=>a.degrees.length - s.2.toNat) ?_ ⟨ZG1 _,by dsimp only; omega,hI.can,fun x=>?_,fun y hy=>?_,by dsimp only; omega⟩
    · rintro ⟨out,i⟩ next' ⟨g1,g2,gc,gf,gm,gl⟩ hn'
      dsimp only at g1 g2 gc gf gm gl hn' ⊢
      have ni:(i+1).toNat=i.toNat+1:=by omega
      have wi:Zu2.wrap (i+1)=i+1:=i64_in _ (by omega)
      rw [wi,wk1]
      split
      · rename_i hi
        have hin:i.toNat < a.degrees.length:=by omega
        have hi8:i.toNat < 8:=by omega
        have pmi:=pm i.toNat hi8
        have hdS:∀ x,dS a.degrees (imgsT a) m n x (8 - i.toNat) i.toNat=(if m.get i.toNat > 0 then dK a.degrees m n i.toNat * triC a.degrees (leftA m i.toNat) (backA m i.toNat) ((imgsT a).getD i.toNat Zsn) x else 0)+dS a.degrees (imgsT a) m n x (8 - (i.toNat+1)) (i.toNat+1):=fun x=>by
          rw [show 8 - i.toNat=(8 - (i.toNat+1))+1 by omega]; rfl
        refine⟨by omega,?_⟩
        split
        · rename_i he
          refine hn' _ ⟨by dsimp only; omega,by dsimp only; omega,gc,fun x=>?_,gm,by dsimp only; omega⟩ (by dsimp only; omega)
          dsimp only
          rw [ni]
          have:=gf x
          rw [hdS,if_neg (by omega),ZC1] at this
          exact this
        · rename_i he
          have hp:0 < m.get i.toNat:=by omega
          refine Yz (fun j (s:A8×A8)=>∀ q,q < 8→(s.1.get q=if q < j∧i.toNat≤q then 0 else m.get q)∧(s.2.get q=if q < j∧q≤i.toNat then 0 else m.get q)) 8 ?_ ?_ _ _ _ (by omega) (fun q hq=>⟨by rw [if_neg (by omega)],by rw [if_neg (by omega)]⟩)
          · rintro j ⟨s1,s2⟩ nx hj hs hnx
            dsimp only at hs ⊢
            have fin:∀ t1 t2:A8,(∀ q,q < 8→t1.get q=if q=j∧i.toNat≤j then 0 else s1.get q)→(∀ q,q < 8→t2.get q=if q=j∧j≤i.toNat then 0 else s2.get q)→nx (t1,t2):=fun t1 t2 e1 e2=>hnx _ fun q hq=>by
              obtain ⟨a1,a2⟩:=hs q hq
              dsimp only
              rw [e1 q hq,e2 q hq]
              constructor
              · by_cases c1:q=j∧i.toNat≤j
                · rw [if_pos c1,if_pos ⟨by omega,by omega⟩]
                · rw [if_neg c1,a1]
                  by_cases c2:q < j∧i.toNat≤q
                  · rw [if_pos c2,if_pos ⟨by omega,c2.2⟩]
                  · rw [if_neg c2,if_neg (by omega)]
              · by_cases c1:q=j∧j≤i.toNat
                · rw [if_pos c1,if_pos ⟨by omega,by omega⟩]
                · rw [if_neg c1,a2]
                  by_cases c2:q < j∧q≤i.toNat
                  · rw [if_pos c2,if_pos ⟨by omega,c2.2⟩]
                  · rw [if_neg c2,if_neg (by omega)]
            have z0:∀ (s:A8) q,(s.set j 0).get q=if q=j then 0 else s.get q:=fun s q=>ZC4 hj
            split
            · rename_i hge
              split
              · rename_i hle
                exact fin _ _ (fun q hq=>by rw [z0]; by_cases e:q=j <;> simp [e]; omega) (fun q hq=>by rw [z0]; by_cases e:q=j <;> simp [e]; omega)
              · rename_i hle
                exact fin _ _ (fun q hq=>by rw [z0]; by_cases e:q=j <;> simp [e]; omega) (fun q hq=>by rw [if_neg (by omega)])
            · rename_i hge
              split
              · rename_i hle
                exact fin _ _ (fun q hq=>by rw [if_neg (by omega)]) (fun q hq=>by rw [z0]; by_cases e:q=j <;> simp [e]; omega)
              · rename_i hle
                exact fin _ _ (fun q hq=>by rw [if_neg (by omega)]) (fun q hq=>by rw [if_neg (by omega)])
          · rintro ⟨s1,s2⟩ hs
            have e1:s1=Xm m i.toNat:=ZC5 fun q hq=>by
              rw [(hs q hq).1,Xm,A8.get_mkf _ hq]
              by_cases hh:q < i.toNat
              · rw [if_neg (by omega),if_pos hh]
              · rw [if_pos ⟨hq,by omega⟩,if_neg hh]
            have e2:s2=backA m i.toNat:=ZC5 fun q hq=>by
              rw [(hs q hq).2,backA,A8.get_mkf _ hq]
              by_cases hh:i.toNat < q
              · rw [if_neg (by omega),if_pos hh]
              · rw [if_pos ⟨hq,by omega⟩,if_neg hh]
            dsimp only
            rw [e1,e2]
            have hw:∀ q,q < 8→0≤(Xm m i.toNat).get q∧(Xm m i.toNat).get q≤255:=fun q hq=>by
              rw [Xm,A8.get_mkf _ hq]
              have:=pm q hq
              split <;> omega
            have hwt:wtU a.degrees (Xm m i.toNat) a.degrees.length=wtU a.degrees m i.toNat:=by rw [Zqc h8 _ (Zsm _),show min i.toNat a.degrees.length=i.toNat by omega]
            have hwb:=Zcu hd pm i.toNat (by omega)
            have hml:=Zct hm i.toNat hi8
            have hset:(Xm m i.toNat).set i.toNat (ZAm.wrap (m.get i.toNat - 1))=leftA m i.toNat:=ZC5 fun q hq=>by
              rw [ZC4 hi8,Zi1 _ (by omega),Xm,leftA,A8.get_mkf _ hq,A8.get_mkf _ hq]
              by_cases e:q=i.toNat
              · subst e; rw [if_pos rfl,if_neg (by omega),if_pos rfl]
              · rw [if_neg e]
                by_cases hh:q < i.toNat
                · rw [if_pos hh,if_pos hh]
                · rw [if_neg hh,if_neg hh,if_neg e]
            rw [hset]
            have hwm:Zu2.wrap (m.get i.toNat)=m.get i.toNat:=i64_in _ (by omega)
            have hpb:0≤n * m.get i.toNat∧n * m.get i.toNat≤100120036:=Zf1 (by omega) (by omega)
            rw [hwm,i64_in (n * m.get i.toNat) (by omega),i64_in (0 - n * m.get i.toNat) (by omega)]
            refine⟨by omega,by omega,by omega,by omega,Zhp hd hw ?_⟩
            rw [hwt]
            have key:∀ v,v % 10007=dK a.degrees m n i.toNat→Jd (leftA m i.toNat) 1 (fun r=>Je a.degrees r (a.images.getD i.toNat Zsn) (fun r'=>Jd (backA m i.toNat) 1 (fun r2=>Je a.degrees r' r2 (fun r3=>Xu v (fun k=>Jx ⟨out⟩ r3 k (fun r=>next' (r.terms,i+1))))))):=fun v hv =>
              Zqf ha (by omega) hm pm hp gc (by omega) hv fun out' hs' => by
                refine hn' _ ⟨by dsimp only; omega,by dsimp only; omega,hs'.can,fun x=>?_,fun y hy=>?_,by have:=hs'.ln; dsimp only; omega⟩ (by dsimp only; omega)
                · dsimp only
                  rw [ni]
                  have b1:=gf x
                  have b2:=hs'.cf x
                  rw [hdS,if_pos (by omega)] at b1
                  omega
                · rcases hs'.mo y hy with ⟨z,hz,e⟩ | hD
                  · obtain ⟨t,ht,q⟩:=gm z hz
                    exact⟨t,ht,e ▸ q⟩
                  · exact⟨f.getD k.toNat Zsn,by rw [Jn kn]; exact Zs7 _ (Zt8.2 rfl),by rw [hgm]; exact hD⟩
            rcases Zqe hwb.1 with ⟨q1,q2⟩ | ⟨q1,q2⟩
            · rw [if_pos q1]
              refine⟨by omega,key _ ?_⟩
              unfold dK; rw [q2]; congr 1; omega
            · rw [if_neg q1]
              refine⟨by omega,key _ ?_⟩
              unfold dK; rw [q2]; congr 1; omega
      · rename_i hi
        refine hn _ ⟨by dsimp only; omega,by dsimp only; omega,⟨gc,fun x=>?_,fun y hy=>?_⟩,by dsimp only; omega⟩ (by dsimp only; omega)
        · dsimp only
          rw [nk,Jn kn,Zfu]
          simp only [tot]
          rw [hgm,hgn]
          have:=gf x
          rw [Zpy _ _ (fun j hj1 hj2=>(hm j (by omega)).2 (by omega))] at this
          omega
        · dsimp only
          rw [nk]; exact gm y hy
    · dsimp only
      have:=hI.cf x
      show (coT out0 x+dT a.degrees (imgsT a) m n x) % 10007=_
      omega
    · obtain ⟨t,ht,q⟩:=hI.mo y hy
      exact⟨t,ZIm (i:=k.toNat) (by rw [List.take_take,show min k.toNat (k.toNat+1)=k.toNat by omega]; exact ht),q⟩
  · rename_i hk
    rw [Ztt (by omega)] at hI
    exact h _ hI (by omega)
end Go.Proofs.Ytheenipahifleaa
namespace Go.Proofs.Ytheenipahifleaa
open Go Vc
theorem Zqh {a:Alg} {K:List (Option (List (A8×Int)))→Prop} (ha:AlgF a) (h:∀ ls:List (Option (List (A8×Int))),(∀ i,i < a.images.length→∃ m,ls[i]? = some (some m)∧IsMap (a.images.getD i Zsn).terms m)→K ls):Zdr a K:=by
  unfold Zdr
  have h8:a.images.length≤8:=by have:=ha.deg.1; have:=ha.len; omega
  refine Yz (fun i (s:List (Option (List (A8×Int))))=>s.length=8∧∀ j,j < i→∃ m,s[j]? = some (some m)∧IsMap (a.images.getD j Zsn).terms m) a.images.length ?_ ?_ _ _ _ (by omega) ⟨by simp,by intro j hj; omega⟩
  · intro i s next hi ⟨h1,h2⟩ hn
    have hL:(⟨(a.images.getD i Zsn).terms⟩:ZAd)=a.images.getD i Zsn:=rfl
    rw [← hL]
    refine Zj9 (ha.frm i hi).canon (ha.fit i hi) fun m hm=>⟨by omega,hn _ ⟨by simpa using h1,fun j hj=>?_⟩⟩
    by_cases e:j=i
    · subst e
      exact⟨m,by rw [List.getElem?_set_self (by omega)],hm⟩
    · rw [List.getElem?_set_ne (fun q=>e q.symm)]
      exact h2 j (by omega)
  · intro s ⟨h1,h2⟩
    exact h s h2
theorem Zkp (m:A8):MapOk [(m,1)]:=⟨by simp,by intro p hp; obtain rfl:=Zt8.1 hp; simp⟩
theorem Zqi {a:Alg} {K:List (A8×Int)→Prop} {m:A8} {n v:Int} {i:Nat} {out ml:List (A8×Int)} (ha:AlgF a) (hi:i < a.images.length) (hm:OkMono a.degrees m) (pm:∀ i,i < 8→0≤m.get i∧m.get i≤255) (hp:0 < m.get i) (ho:MapOk out) (hml:IsMap (a.images.getD i Zsn).terms ml) (hv:v % 10007=dK a.degrees m n i)
    (h:∀ out',MapOk out'→(∀ x,co out' x % 10007=(co out x+dK a.degrees m n i * triC a.degrees (leftA m i) (backA m i) ((imgsT a).getD i Zsn) x) % 10007)→(∀ y,y∈out'→(∃ z,z∈out∧z.1=y.1)∨DMono a.degrees (imgsT a) y.1 m)→K out') :
    Zal (Yk ([]:List (A8×Int)) (leftA m i) 1) a.degrees ml (fun r=>Zal r a.degrees (Yk ([]:List (A8×Int)) (backA m i) 1) (fun r2=>Za3 v (fun k=>Zbk out r2 k K))):=by
  have hd:=ha.deg
  have hi8:i < 8:=by have:=hd.1; have:=ha.len; omega
  have hf:=ha.frm i hi
  have ff:=ha.fit i hi
  have hm20:=Zf8 (Zct hm) pm
  obtain ⟨lb,bb,lbb⟩:=Zkn hm20 hp
  obtain ⟨wl,wb⟩:=Zkf hm hi8 hp
  have hml20:∀ p,p∈ml→OkMono a.degrees p.1∧∃ t,t∈(a.images.getD i Zsn).terms∧t.mono=p.1∧∀ q,q < 8→0≤p.1.get q∧p.1.get q≤20:=fun p hpm=>by
    obtain ⟨t,ht,e⟩:=hml.ks p hpm
    rw [← e]
    exact⟨hf.mono ht,t,ht,rfl,Zf8 (Zct (hf.mono ht)) (ff.pos t ht)⟩
  show Zal [(leftA m i,1)] a.degrees ml _
  refine Zkb hd (Zkp _) (fun p hp'=>by obtain rfl:=Zt8.1 hp'; exact wl) (fun p hp' q hq=>by obtain rfl:=Zt8.1 hp'; exact(lb q hq).1) hml.ok (fun p hpm=>(hml20 p hpm).1.wk) (fun p hpm q hq=>by obtain ⟨_,t,_,_,b⟩:=hml20 p hpm; exact(b q hq).1) fun own hown=>?_
  have wown:∀ u,u∈own→∃ z,z∈(a.images.getD i Zsn).terms∧u.1=(leftA m i).add z.mono∧¬ Clash a.degrees (leftA m i) z.mono∧Xt a.degrees u.1∧∀ q,q < 8→0≤u.1.get q∧u.1.get q≤40:=fun u hu=>by
    obtain ⟨t,z,ht,hz,e,hcl⟩:=hown.ks u hu
    obtain rfl:=Zt8.1 ht
    obtain ⟨hzm,tt,htt,ett,hz20⟩:=hml20 z hz
    refine⟨tt,htt,by rw [ett]; exact e,by rw [ett]; exact hcl,?_,fun q hq=>?_⟩
    · rw [e]
      exact Zkg wl hzm.wk (fun q hq=>(lb q hq).1) (fun q hq=>(hz20 q hq).1) (fun q hq=>by have:=lb q hq; have:=hz20 q hq; dsimp only; omega) hcl
    · rw [e,A8.get_add]
      have:=lb q hq
      have:=hz20 q hq
      dsimp only
      omega
  show Zal own a.degrees [(backA m i,1)] _
  refine Zkb hd hown.ok (fun u hu=>by obtain ⟨_,_,_,_,w,_⟩:=wown u hu; exact w) (fun u hu q hq=>by obtain ⟨_,_,_,_,_,b⟩:=wown u hu; exact(b q hq).1) (Zkp _) (fun p hp'=>by obtain rfl:=Zt8.1 hp'; exact wb) (fun p hp' q hq=>by obtain rfl:=Zt8.1 hp'; exact(bb q hq).1) fun prod hpr=>?_
  refine Zj5 ?_
  rw [hv]
  refine Zpw ho hpr.ok (Zko _ _ _ _) fun out' hout=>h out' hout.ok (fun x=>?_) fun y hy=>?_
  · rw [hout.cf,Zf7 a hi]
    have e1:=Zpz hml hf.canon hown hpr x
    rw [ZHb,ZG2,e1,← ZG2,← ZHb]
  · obtain ⟨z,hz,e⟩:=hout.ks y hy
    rcases hz with hz | hz
    · exact .inl ⟨z,hz,e⟩
    · obtain ⟨t,b,ht,hb,e2,hcl2⟩:=hpr.ks z hz
      obtain rfl:=Zt8.1 hb
      obtain ⟨u,hu,e3,hcl,_⟩:=wown t ht
      refine .inr ⟨i,u,hi8,hp,by rw [Zf7 a hi]; exact hu,by rw [← e,e2,e3],hcl,?_⟩
      rw [← e3]; exact hcl2
theorem Zqj (m:A8):A8.zero=Xm m 0:=ZC5 fun q hq=>by rw [A8.get_zero,Xm,A8.get_mkf _ hq,if_neg (by omega)]
theorem Zqk {m:A8} {i:Nat} (hi:i < 8):(Xm m i).set i (m.get i)=Xm m (i+1):=ZC5 fun q hq=>by
  rw [ZC4 hi,Xm,Xm,A8.get_mkf _ hq,A8.get_mkf _ hq]
  by_cases e:q=i
  · subst e; rw [if_pos rfl,if_pos (by omega)]
  · rw [if_neg e]
    by_cases hh:q < i
    · rw [if_pos hh,if_pos (by omega)]
    · rw [if_neg hh,if_neg (by omega)]
theorem Zql {d e:Int} (hd:1≤d∧d≤12) (he:0≤e):sg (d * e)=if Ztb d 2=1∧Ztb e 2=1 then -1 else 1:=by
  rw [ZEq (by omega),ZEq he]
  unfold sg
  have h:=ZG2 d e 2
  rcases (by omega:d % 2=0∨d % 2=1) with a | a <;> rcases (by omega:e % 2=0∨e % 2=1) with b | b <;> rw [a,b] at h <;> simp [h,a,b]
theorem m_d {a : Alg} {f : List Term} {s : List (A8 × Int)} {K : List (A8 × Int) → Prop} (ha : AlgF a) (hs : IsMap f s) (hf : OkForm a.degrees f) (ff : FitT f) (h : ∀ out, IsDM a.degrees (imgsT a) s out → K out) : Zds a s K := by
  have hd:=ha.deg
  have h8:=hd.1
  have hlen:=ha.len
  unfold Zds
  refine Zqh ha fun ls hls=>?_
  refine Zfb (fun l' (out:List (A8×Int))=>(∀ p,p∈l'→p∈s)∧MapOk out∧(∀ x,(co out x+tot (fun p=>dT a.degrees (imgsT a) p.1 p.2 x) l') % 10007=tot (fun p=>dT a.degrees (imgsT a) p.1 p.2 x) s % 10007)∧(∀ y,y∈out→∃ t,t∈s∧DMono a.degrees (imgsT a) y.1 t.1)) ?_ ?_ s [] ⟨fun _ h=>h,MapOk.nil,fun x=>by rw [Zcm,ZC1],by simp⟩
  · intro l' p l'' out next hpk ⟨h0, h1, h2, h3⟩ hn
    have hperm:=Zfc hpk
    have hpm:p∈s:=h0 p (hperm.mem_iff.2 (by simp))
    have hpf:=hs.ok.2 p hpm
    obtain ⟨t,ht,et⟩:=hs.ks p hpm
    have hm:OkMono a.degrees p.1:=by rw [← et]; exact hf.mono ht
    have pm:∀ i,i < 8→0≤p.1.get i∧p.1.get i≤255:=by rw [← et]; exact ff.pos t ht
    have e3:∀ x,tot (fun p=>dT a.degrees (imgsT a) p.1 p.2 x) l'=dT a.degrees (imgsT a) p.1 p.2 x+tot (fun p=>dT a.degrees (imgsT a) p.1 p.2 x) l'':=fun x=>by rw [Zck _ hperm]; rfl
    refine Yz (fun i (t:A8×(List (A8×Int))×Int)=>t.1=Xm p.1 i∧MapOk t.2.1∧t.2.2=sg (wtU a.degrees p.1 i)∧(∀ x,(co t.2.1 x+dS a.degrees (imgsT a) p.1 p.2 x (8 - i) i) % 10007=(co out x+dT a.degrees (imgsT a) p.1 p.2 x) % 10007)∧(∀ y,y∈t.2.1→∃ t,t∈s∧DMono a.degrees (imgsT a) y.1 t.1)) 8 ?_ ?_ _ _ _ (by omega) ⟨Zqj _,h1,rfl,fun x=>rfl,h3⟩
    · rintro i ⟨t1,o1,sg1⟩ nx hi ⟨g1,g2,g3,g4,g5⟩ hnx
      dsimp only at g1 g2 g3 g4 g5 ⊢
      subst g1 g3
      have pmi:=pm i hi
      have hdS:∀ x,dS a.degrees (imgsT a) p.1 p.2 x (8 - i) i=(if p.1.get i > 0 then dK a.degrees p.1 p.2 i * triC a.degrees (leftA p.1 i) (backA p.1 i) ((imgsT a).getD i Zsn) x else 0)+dS a.degrees (imgsT a) p.1 p.2 x (8 - (i+1)) (i+1):=fun x=>by
        rw [show 8 - i=(8 - (i+1))+1 by omega]; rfl
      have hspm:=Zi2 (wtU a.degrees p.1 i)
      have tail:∀ o2:List (A8×Int),MapOk o2→(∀ x,(co o2 x+dS a.degrees (imgsT a) p.1 p.2 x (8 - (i+1)) (i+1)) % 10007=(co out x+dT a.degrees (imgsT a) p.1 p.2 x) % 10007)→(∀ y,y∈o2→∃ t,t∈s∧DMono a.degrees (imgsT a) y.1 t.1) →
          (if(i:Int) < (a.degrees.length:Int) then((0≤(i:Int)∧(i:Int) < (a.degrees.length:Int))∧(if Ztb (a.degrees.getD i Zsn) 2=1 then(if Ztb (p.1.get i) 2=1 then nx ((Xm p.1 i).set i (p.1.get i),o2,Zu2.wrap (0 - sg (wtU a.degrees p.1 i))) else nx ((Xm p.1 i).set i (p.1.get i),o2,sg (wtU a.degrees p.1 i))) else nx ((Xm p.1 i).set i (p.1.get i),o2,sg (wtU a.degrees p.1 i)))) else nx ((Xm p.1 i).set i (p.1.get i),o2,sg (wtU a.degrees p.1 i))):=by
        intro o2 k1 k2 k3
        rw [Zqk hi]
        have go:∀ z,z=sg (wtU a.degrees p.1 (i+1))→nx (Xm p.1 (i+1),o2,z):=fun z hz=>hnx _ ⟨rfl,k1,hz,k2,k3⟩
        have hw:wtU a.degrees p.1 (i+1)=wtU a.degrees p.1 i+a.degrees.getD i Zsn * p.1.get i:=rfl
        split
        · rename_i hin
          have hdi:=hd.2 i (by omega)
          have hstep:=Zql hdi pmi.1
          refine⟨by omega,?_⟩
          split
          · rename_i q1
            split
            · rename_i q2
              rw [if_pos ⟨q1,q2⟩] at hstep
              rw [i64_in _ (by omega)]
              exact go _ (by rw [hw,Zfd,hstep]; omega)
            · rename_i q2
              rw [if_neg (fun z=>q2 z.2)] at hstep
              exact go _ (by rw [hw,Zfd,hstep,Int.mul_one])
          · rename_i q1
            rw [if_neg (fun z=>q1 z.1)] at hstep
            exact go _ (by rw [hw,Zfd,hstep,Int.mul_one])
        · rename_i hin
          have:=(hm i hi).2 (by omega)
          exact go _ (by rw [hw,this,ZHa,ZGw])
      split
      · rename_i hp0
        have hp0':0 < p.1.get i:=hp0
        have hin:i < a.images.length:=by
          rcases Nat.lt_or_ge i a.images.length with q | q
          · exact q
          · have:=(hm i hi).2 (by omega); omega
        have wi:Zu2.wrap ((i:Int)+1)=(i:Int)+1:=i64_in _ (by omega)
        rw [wi]
        refine Xo (fun (t:A8×Int)=>0≤t.2∧t.2≤i+1∧∀ q,q < 8→t.1.get q=if(q:Int) < t.2 then 0 else p.1.get q) (fun t=>i+1 - t.2.toNat) ?_ ⟨ZG1 _,by dsimp only; omega,fun q hq=>by rw [if_neg (by dsimp only; omega)]⟩
        rintro ⟨t1,k⟩ nk ⟨b1,b2,b3⟩ hnk
        dsimp only at b1 b2 b3 hnk ⊢
        split
        · rename_i hk
          refine⟨by omega,?_⟩
          rw [i64_in (k+1) (by omega)]
          refine hnk _ ⟨by dsimp only; omega,by dsimp only; omega,fun q hq=>?_⟩ (by dsimp only; omega)
          dsimp only
          rw [ZC4 (by omega),b3 q hq]
          by_cases e:q=k.toNat
          · rw [if_pos e,if_pos (by omega)]
          · rw [if_neg e]
            by_cases hh:(q:Int) < k
            · rw [if_pos hh,if_pos (by omega)]
            · rw [if_neg hh,if_neg (by omega)]
        · rename_i hk
          have eb:t1=backA p.1 i:=ZC5 fun q hq=>by
            rw [b3 q hq,backA,A8.get_mkf _ hq]
            by_cases hh:i < q
            · rw [if_neg (by omega),if_pos hh]
            · rw [if_pos (by omega),if_neg hh]
          have hml:=Zct hm i hi
          have el:(Xm p.1 i).set i (Zu2.wrap (p.1.get i - 1))=leftA p.1 i:=ZC5 fun q hq=>by
            rw [ZC4 hi,i64_in _ (by omega),Xm,leftA,A8.get_mkf _ hq,A8.get_mkf _ hq]
            by_cases e:q=i
            · subst e; rw [if_pos rfl,if_neg (by omega),if_pos rfl]
            · rw [if_neg e]
              by_cases hh:q < i
              · rw [if_pos hh,if_pos hh]
              · rw [if_neg hh,if_neg hh,if_neg e]
          rw [eb,el]
          obtain ⟨ml,hml1,hml2⟩:=hls i hin
          refine⟨ml,hml1,?_⟩
          refine Zqi (n:=p.2) ha hin hm pm hp0' g2 hml2 ?_ fun o2 k1 k2 k3=>?_
          · rw [Zhi hspm hpf (by omega)]; rfl
          · refine tail o2 k1 (fun x=>?_) fun y hy=>?_
            · have c1:=g4 x
              have c2:=k2 x
              rw [hdS,if_pos hp0] at c1
              omega
            · rcases k3 y hy with ⟨z,hz,e⟩ | hD
              · obtain ⟨t,ht,q⟩:=g5 z hz
                exact⟨t,ht,e ▸ q⟩
              · exact⟨p,hpm,hD⟩
      · rename_i hp0
        refine tail o1 g2 (fun x=>?_) g5
        have c1:=g4 x
        rw [hdS,if_neg hp0,ZC1] at c1
        exact c1
    · rintro ⟨t1,o1,sg1⟩ ⟨g1,g2,g3,g4,g5⟩
      dsimp only at g2 g4 g5 ⊢
      refine hn _ ⟨fun q hq=>h0 q (hperm.mem_iff.2 (by simp [hq])),g2,fun x=>?_,g5⟩
      have c1:=g4 x
      have c2:=h2 x
      rw [e3] at c2
      simp only [Nat.sub_self,dS] at c1
      omega
  · intro out ⟨_,h1,h2,h3⟩
    exact h _ ⟨h1,fun x=>by have:=h2 x; simp only [tot,ZGw] at this; exact this,h3⟩
theorem Zqm {m:List (A8×Int)} (hm:MapOk m):∃ l,Canon l∧(∀ x,coT l x=co m x)∧∀ t,t∈l→∃ p,p∈m∧p.1=t.mono:=by
  obtain ⟨xs,hxs,hw⟩:=Zj1 (m.map (·.1))
  obtain ⟨h1,h2⟩:=Zo8 hm hxs hw
  refine⟨_,h1,h2,fun t ht=>?_⟩
  obtain ⟨x,hx,rfl⟩:=Zty.1 ht
  obtain ⟨p,hpm,e⟩:=Zty.1 (hxs.mem_iff.1 hx)
  exact⟨p,hpm,e⟩
theorem Zqn {ds:List Int} {imgs:List (List Term)} {f:List Term} {s out':List (A8×Int)} (hs:IsMap f s) (hc:Canon f) (h':IsDM ds imgs s out'):out'=[]↔∀ out,IsD ds imgs f out→out=[]:=by
  constructor
  · intro e out ho
    exact(Zki (Zp0 hs hc ho h') ho.can).1 e
  · intro hall
    obtain ⟨l,hl,hcf,hks⟩:=Zqm h'.ok
    have hd:IsD ds imgs f l:=⟨hl,fun x=>by rw [hcf,h'.cf,Zhj hs hc (fun a n=>dT ds imgs a n x) (fun a=>Zke ds imgs a x)],fun y hy=>by
      obtain ⟨p,hp,e⟩:=hks y hy
      obtain ⟨t,ht,q⟩:=h'.mo p hp
      obtain ⟨u,hu,e2⟩:=hs.ks t ht
      exact⟨u,hu,by rw [← e,e2]; exact q⟩⟩
    have e:=hall l hd
    have hm:IsMap l out':=Zkh hl h'.ok fun x=>by rw [hcf]
    exact(Zki hm hl).2 e
theorem Zqo {ds:List Int} {imgs:List (List Term)} {f out out2:List Term} (h:IsD ds imgs f out) (k:IsD ds imgs f out2):out=out2:=Zoy h.can k.can fun x=>by rw [h.cf,k.cf]
def Hom (ds:List Int) (l:List Term) (n:Int):Prop:=∀ i,i < l.length→wtU ds (l.getD i Zsn).mono ds.length=n
instance (ds:List Int) (l:List Term) (n:Int):Decidable (Hom ds l n):=inferInstanceAs (Decidable (∀ i,i < l.length→_))
theorem Zqp {ds : List Int} {l : List Term} {K : Int → Bool → Prop} (hd : OkDeg ds) (hp : FitT l) (h0 : l.length = 0 → K (-1) true) (h1 : 0 < l.length → Hom ds l (wtU ds (l.getD 0 Zsn).mono ds.length) → K (wtU ds (l.getD 0 Zsn).mono ds.length) true) (h2 : (∀ n, ¬ Hom ds l n) → K 0 false) : Zdp ds ⟨l⟩ K := by
  unfold Zdp
  dsimp only
  refine Yz (fun i (s:Int)=>(i=0∧s=-1)∨(0 < i∧s=wtU ds (l.getD 0 Zsn).mono ds.length∧∀ j,j < i→wtU ds (l.getD j Zsn).mono ds.length=wtU ds (l.getD 0 Zsn).mono ds.length)) l.length ?_ ?_ _ _ _ (by omega) (.inl ⟨rfl,rfl⟩)
  · intro i s next hi hI hn
    have f1:=hp _ (Xv hi)
    have b0:=hp.pos _ (Xv hi)
    have hw:=Zcu hd b0 ds.length (Zsm _)
    refine Zd4 f1 (Zqb hd b0 ?_)
    rcases hI with ⟨e1,e2⟩ | ⟨e1,e2,e3⟩
    · subst e1 e2
      rw [if_neg (by omega)]
      exact hn _ (.inr ⟨by omega, rfl, fun j hj => by obtain rfl : j = 0 := by omega
                                                      rfl⟩)
    · have hw0:=Zcu hd (hp.pos _ (Xv (show 0 < l.length by omega))) ds.length (Zsm _)
      rw [if_pos (by omega)]
      split
      · rename_i q
        refine h2 fun n hn'=>q ?_
        rw [hn' i hi,e2,hn' 0 (by omega)]
      · rename_i q
        have q:wtU ds (l.getD i Zsn).mono ds.length=s:=ZGv.1 q
        refine hn _ (.inr ⟨by omega,by rw [q,e2],fun j hj=>?_⟩)
        by_cases e:j=i
        · subst e; rw [q,e2]
        · exact e3 j (by omega)
  · intro s hI
    rcases hI with ⟨e1,e2⟩ | ⟨e1,e2,e3⟩
    · rw [e2]; exact h0 e1
    · rw [e2]; exact h1 e1 e3
theorem Zqq {ds:List Int} {l:List Term} {n:Int} {K:Bool→Prop} (hd:OkDeg ds) (hp:FitT l) (h:K (decide (Hom ds l n))):Zdq ds ⟨l⟩ n K:=by
  unfold Zdq
  refine Zqp hd hp (fun e=>?_) (fun e hh=>?_) (fun hno=>?_)
  · rw [if_pos rfl,if_pos rfl]
    have:Hom ds l n:=fun i hi=>by omega
    rwa [decide_eq_true this] at h
  · have hw0:=Zcu hd (hp.pos _ (Xv e)) ds.length (Zsm _)
    rw [if_pos rfl,if_neg (by omega)]
    have:Hom ds l n↔wtU ds (l.getD 0 Zsn).mono ds.length=n:=⟨fun q=>q 0 e,fun q=>q ▸ hh⟩
    rwa [decide_eq_decide.2 this] at h
  · rw [if_neg (by simp)]
    rwa [decide_eq_false (hno n)] at h
theorem Zqr {ds : List Int} {l : List Term} {K : Int → Bool → Prop} (hd : OkDeg ds) (hp : Zbo l) (hl : l.length ≤ 100000000) (h0 : l.length = 0 → K (-1) true) (h1 : 0 < l.length → Hom ds l (wtU ds (l.getD 0 Zsn).mono ds.length) → K (wtU ds (l.getD 0 Zsn).mono ds.length) true) (h2 : (∀ n, ¬ Hom ds l n) → K 0 false) : Zdg ds ⟨l⟩ K := by
  unfold Zdg
  dsimp only
  split
  · exact h0 (by omega)
  · rename_i q0
    have hpos:0 < l.length:=by omega
    refine⟨by omega,Zhp hd (hp _ (Xv hpos)) ?_⟩
    refine Xo (fun (s:Int)=>1≤s∧s≤l.length∧∀ j:Nat,(j:Int) < s→wtU ds (l.getD j Zsn).mono ds.length=wtU ds (l.getD 0 Zsn).mono ds.length) (fun s=>l.length - s.toNat) ?_ ⟨ZG1 _,by omega,fun j hj=>by
      have hj':(j:Int) < 1:=hj
      obtain rfl:j=0:=by omega
      rfl⟩
    rintro i next ⟨g1,g2,g3⟩ hn
    split
    · rename_i hi
      have a:i.toNat < l.length:=by omega
      refine⟨by omega,Zhp hd (hp _ (Xv a)) ?_⟩
      split
      · rename_i q
        refine h2 fun n hn'=>q ?_
        rw [hn' _ a,hn' 0 hpos]
      · rename_i q
        have q:=ZGv.1 q
        rw [i64_in _ (by omega)]
        refine hn _ ⟨by omega,by omega,fun j hj=>?_⟩ (by omega)
        by_cases e:j=i.toNat
        · subst e; exact q
        · exact g3 j (by omega)
    · exact h1 hpos fun j hj=>g3 j (by omega)
structure OkAlg (a:Alg):Prop where
  deg:OkDeg a.degrees
  len:a.images.length=a.degrees.length
  frm:∀ i,i < a.images.length→OkForm a.degrees (a.images.getD i Zsn).terms
  hom:∀ i,i < a.images.length→Hom a.degrees (a.images.getD i Zsn).terms (a.degrees.getD i Zsn+1)
  clo:∀ i,i < a.images.length→∀ out,IsD a.degrees (imgsT a) (a.images.getD i Zsn).terms out→out=[]
def Jz (a:Alg):Prop:=∀ i,i < a.images.length→FitT (a.images.getD i Zsn).terms∧(a.images.getD i Zsn).terms.length≤1048576
theorem Zqs {a : Alg} {K : Bool → Prop} (hf : Jz a) (h1 : OkAlg a → K true) (h2 : ¬ OkAlg a → K false) : Zdi a K := by
  unfold Zdi
  refine Zol ?_
  split
  · rename_i q; exact h2 fun z=>q (decide_eq_true z.deg)
  · rename_i q1
    have q1:=of_decide_eq_true (ZGv.1 q1)
    have h8:=q1.1
    split
    · rename_i q; exact h2 fun z=>q (by rw [z.len])
    · rename_i q2
      have q2:a.images.length=a.degrees.length:=by have:=ZGv.1 q2; omega
      refine Xo (fun (s:Int)=>0≤s∧s≤a.images.length∧∀ i:Nat,(i:Int) < s→OkForm a.degrees (a.images.getD i Zsn).terms∧Hom a.degrees (a.images.getD i Zsn).terms (a.degrees.getD i Zsn+1)) (fun s=>a.images.length - s.toNat) ?_ ⟨ZG1 _,by omega,fun i hi=>by omega⟩
      rintro i next ⟨g1,g2,g3⟩ hn
      split
      · rename_i hi
        have hin:i.toNat < a.images.length:=by omega
        obtain ⟨hft,hfl⟩:=hf i.toNat hin
        have hL:(⟨(a.images.getD i.toNat Zsn).terms⟩:ZAd)=a.images.getD i.toNat Zsn:=rfl
        have hdi:=q1.2 i.toNat (by omega)
        have wi:Zu2.wrap (i+1)=i+1:=i64_in _ (by omega)
        rw [wi,← hL]
        refine⟨by omega,Zpr h8 hft.pos (by omega) ?_⟩
        split
        · rename_i q; exact h2 fun z=>q (decide_eq_true (z.frm _ hin))
        · rename_i q3
          have q3:=of_decide_eq_true (ZGv.1 q3)
          have good:Hom a.degrees (a.images.getD i.toNat Zsn).terms (a.degrees.getD i.toNat Zsn+1)→next (i+1):=fun hh=>hn _ ⟨by omega,by omega,fun j hj=>by
            by_cases e:j=i.toNat
            · subst e; exact⟨q3,hh⟩
            · exact g3 j (by omega)⟩ (by omega)
          have hwd:Zu2.wrap (a.degrees.getD i.toNat Zsn+1)=a.degrees.getD i.toNat Zsn+1:=i64_in _ (by omega)
          rw [hwd]
          refine⟨by omega,Zqr q1 hft.pos (by omega) (fun e=>?_) (fun e hh=>?_) (fun hno=>?_)⟩
          · rw [if_neg (by simp)]
            dsimp only
            refine⟨by omega,?_⟩
            rw [if_neg (by omega)]
            exact good fun j hj=>by omega
          · rw [if_neg (by simp)]
            dsimp only
            refine⟨by omega,?_⟩
            rw [if_pos (by omega)]
            refine⟨by omega,?_⟩
            split
            · rename_i q
              exact h2 fun z=>q (z.hom _ hin 0 e)
            · rename_i q
              have q:=ZGv.1 q
              exact good (q ▸ hh)
          · rw [if_pos (by simp)]
            exact h2 fun z=>hno _ (z.hom _ hin)
      · rename_i hi
        have hF:AlgF a:=⟨q1,q2,fun i hi=>(g3 i (by omega)).1,fun i hi=>(hf i hi).1⟩
        refine Xo (fun (s:Int)=>0≤s∧s≤a.images.length∧∀ i:Nat,(i:Int) < s→∀ out,IsD a.degrees (imgsT a) (a.images.getD i Zsn).terms out→out=[]) (fun s=>a.images.length - s.toNat) ?_ ⟨ZG1 _,by omega,fun i hi=>by omega⟩
        rintro k next' ⟨k1,k2,k3⟩ hn'
        split
        · rename_i hk
          have hkn:k.toNat < a.images.length:=by omega
          have hL:(⟨(a.images.getD k.toNat Zsn).terms⟩:ZAd)=a.images.getD k.toNat Zsn:=rfl
          rw [← hL]
          refine⟨by omega,Zqg hF (hF.frm _ hkn) (hF.fit _ hkn) fun out ho _=>?_⟩
          dsimp only
          split
          · rename_i q
            refine h2 fun z=>?_
            have:=z.clo _ hkn out ho
            rw [this] at q; simp at q
          · rename_i q
            rw [i64_in _ (by omega)]
            have e:out=[]:=List.length_eq_zero_iff.1 (by omega)
            refine hn' _ ⟨by omega,by omega,fun j hj=>?_⟩ (by omega)
            by_cases ej:j=k.toNat
            · subst ej; intro o2 ho2; rw [Zqo ho2 ho,e]
            · exact k3 j (by omega)
        · rename_i hk
          exact h1 ⟨q1,q2,hF.frm,fun i hi=>(g3 i (by omega)).2,fun i hi=>k3 i (by omega)⟩
theorem Zkq {l:List ZAd} {p:ZAd→(Bool→Prop)→Prop} {K:Bool→Prop} {Q:ZAd→Prop} (hp:∀ i,i < l.length→∀ K':Bool→Prop,(Q (l.getD i Zsn)→K' true)→(¬ Q (l.getD i Zsn)→K' false)→p (l.getD i Zsn) K')
    (h1:(∃ i,i < l.length∧Q (l.getD i Zsn))→K true) (h2:(∀ i,i < l.length→¬ Q (l.getD i Zsn))→K false):Zco l p K:=by
  unfold Zco Zfw
  refine Yz (fun i (_:Unit)=>∀ j,j < i→¬ Q (l.getD j Zsn)) l.length ?_ ?_ _ _ _ (by omega) (by intro j hj; omega)
  · intro i s next hi hI hn
    refine hp i hi _ (fun q=>?_) (fun q=>?_)
    · rw [if_pos rfl]
      show K (decide ((i:Int)≥0))
      rw [decide_eq_true (show (i:Int)≥0 by omega)]
      exact h1 ⟨i,hi,q⟩
    · rw [if_neg (by simp)]
      refine hn _ fun j hj=>?_
      by_cases e:j=i
      · subst e; exact q
      · exact hI j (by omega)
  · intro s hI
    show K (decide ((-1:Int)≥0))
    rw [decide_eq_false (show ¬ (-1:Int)≥0 by omega)]
    exact h2 hI
theorem Zqt {a : Alg} {K : Bool → Prop} (hf : Jz a) (h1 : OkAlg a → K true) (h2 : ¬ OkAlg a → K false) : Zec a K := by
  unfold Zec
  refine Zoo ?_
  split
  · rename_i q; exact h2 fun z=>q (decide_eq_true z.deg)
  · rename_i q1
    have q1:=of_decide_eq_true (ZGv.1 q1)
    have h8:=q1.1
    split
    · rename_i q; exact h2 fun z=>q (by rw [z.len])
    · rename_i q2
      have q2:a.images.length=a.degrees.length:=by have:=ZGv.1 q2; omega
      refine Yz (fun i (_:Unit)=>∀ j:Nat,j < i→OkForm a.degrees (a.images.getD j Zsn).terms∧Hom a.degrees (a.images.getD j Zsn).terms (a.degrees.getD j Zsn+1)) a.images.length ?_ ?_ _ _ _ (by omega) (by intro j hj; omega)
      · intro i s next hi hI hn
        obtain ⟨hft,hfl⟩:=hf i hi
        have hL:(⟨(a.images.getD i Zsn).terms⟩:ZAd)=a.images.getD i Zsn:=rfl
        have hdi:=q1.2 i (by omega)
        rw [← hL]
        refine Zpv q1 hft ?_
        split
        · rename_i q; exact h2 fun z=>q (decide_eq_true (z.frm _ hi))
        · rename_i q3
          have q3:=of_decide_eq_true (ZGv.1 q3)
          rw [i64_in _ (by omega)]
          refine⟨by omega,Zqq q1 hft ?_⟩
          split
          · rename_i q; exact h2 fun z=>q (decide_eq_true (z.hom _ hi))
          · rename_i q4
            have q4:=of_decide_eq_true (ZGv.1 q4)
            refine hn _ fun j hj=>?_
            by_cases e:j=i
            · subst e; exact⟨q3,q4⟩
            · exact hI j (by omega)
      · intro s hI
        have hF:AlgF a:=⟨q1,q2,fun i hi=>(hI i hi).1,fun i hi=>(hf i hi).1⟩
        refine Zkq (Q:=fun f=>¬ ∀ out,IsD a.degrees (imgsT a) f.terms out→out=[]) (fun i hi K' c1 c2=>?_) (fun hex=>?_) (fun hall=>?_)
        · unfold Zeb
          have hL:(⟨(a.images.getD i Zsn).terms⟩:ZAd)=a.images.getD i Zsn:=rfl
          rw [← hL]
          refine Zj9 (hF.frm i hi).canon (hF.fit i hi) fun m hm=>m_d hF hm (hF.frm i hi) (hF.fit i hi) fun out ho=>?_
          have hiff:=Zqn hm (hF.frm i hi).canon ho
          by_cases e:out=[]
          · subst e
            rw [decide_eq_false (by simp)]
            exact c2 fun z=>z (hiff.1 rfl)
          · have hlen:0 < out.length:=List.length_pos_iff.2 e
            rw [decide_eq_true (by omega)]
            exact c1 fun z=>e (hiff.2 z)
        · obtain ⟨i,hi,hq⟩:=hex
          exact h2 fun z=>hq (z.clo i hi)
        · exact h1 ⟨q1,q2,hF.frm,fun i hi=>(hI i hi).2,fun i hi=>ZHn (hall i hi)⟩
theorem Zqu {a:Alg} {K:Int→Prop} (hf:Jz a) (h1:OkAlg a→K 0) (h2:¬ OkAlg a→K 1):Zed a [] K:=by
  unfold Zed
  refine Zqt hf (fun z=>?_) (fun z=>?_)
  · rw [if_neg (by simp)]
    refine Zkq (Q:=fun _=>True) (fun i hi=>by simp at hi) (fun hex=>by obtain ⟨i,hi,_⟩:=hex; simp at hi) (fun _=>?_)
    exact Zkj (h1 z)
  · rw [if_pos (by simp)]
    exact Zkj (h2 z)
end Go.Proofs.Ytheenipahifleaa
namespace Go.Proofs.Ytheenipahifleaa
open Go Vc
def Big (n:Nat):Prop:=n < 9223372036854775808
structure LenAlg (a:Alg):Prop where
  deg:Big a.degrees.length
  img:Big a.images.length
  trm:∀ f,f∈a.images→Big f.terms.length
theorem Zqv {x:Alg} {u v:Value} {fp:List Nat} {w:World} (h:TAlg.rep x [u,v] fp w):LenAlg x:=by
  have h1:=Y9 (Y3 h).1
  have h2:=Y9 (Y3 h).2
  refine⟨by unfold Big; omega,by unfold Big; omega,fun f hf=>?_⟩
  obtain ⟨i,hi,rfl⟩:=Zsx hf
  obtain ⟨A,c,hv,cs,hl,hc,hr⟩:=Zet (Y3 h).2 i hi
  obtain ⟨z,rfl⟩:=ZA6.1 (show cs.length=1 from hl)
  have h3:=Y9 (Yx hr)
  unfold Big; omega
theorem Zqw {f:ZAd} {n:Int} {K:Int→Prop} (hl:Big f.terms.length) (hn:0≤n∧n≤1048576) (h1:(f.terms.length:Int)≤n→K (n - f.terms.length)) (h2:∀ r,r < 0→K r):Zcp f n K:=Zqa (by unfold Big at hl; omega) hn h1 h2
theorem Zqx {l:List ZAd} {n:Int} {K:Int→Prop} (hl:Big l.length) (ht:∀ f,f∈l→Big f.terms.length) (hn:0≤n∧n≤1048576) (h1:∀ r,0≤r→r≤n→(l.length:Int)≤n→(∀ i,i < l.length→(l.getD i Zsn).terms.length≤1048576)→K r) (h2:∀ r,r < 0→K r):Zee l n K:=by
  unfold Zee
  unfold Big at hl
  rw [i64_in _ (by omega)]
  split
  · exact h2 _ (by omega)
  · rename_i q
    refine Yz (fun i (s:Int)=>0≤s∧s≤n∧∀ j,j < i→(l.getD j Zsn).terms.length≤1048576) l.length ?_ ?_ _ _ _ (by omega) ⟨by omega,by omega,by intro j hj; omega⟩
    · intro i s next hi ⟨g1,g2,g3⟩ hn'
      refine Zqw (ht _ (Xv hi)) (by omega) (fun hle=>?_) (fun r hr=>by rw [if_pos hr]; exact h2 _ (by omega))
      rw [if_neg (by omega)]
      refine hn' _ ⟨by omega,by omega,fun j hj=>?_⟩
      by_cases e:j=i
      · subst e; omega
      · exact g3 j (by omega)
    · intro s ⟨g1,g2,g3⟩
      exact h1 s g1 g2 (by omega) g3
theorem Zqy {a:Alg} {K:Int→Prop} (hb:LenAlg a) (h1:∀ r,0≤r→a.degrees.length≤1048576→a.images.length≤1048576→(∀ i,i < a.images.length→(a.images.getD i Zsn).terms.length≤1048576)→K r) (h2:∀ r,r < 0→K r):Zef a 1048576 K:=by
  unfold Zef Zfz
  have hd:=hb.deg
  unfold Big at hd
  rw [i64_in _ (by omega)]
  split
  · dsimp only; rw [if_pos (by omega)]; exact h2 _ (by omega)
  · dsimp only; rw [if_neg (by omega)]
    refine Zqx hb.img hb.trm (by omega) (fun r g1 g2 g3 g4=>?_) (fun r hr=>by rw [if_pos hr]; exact h2 _ (by omega))
    rw [if_neg (by omega)]
    exact h1 r g1 (by omega) (by omega) g4
theorem Zqz {l:List ZAd} {K:List ZAd→Prop} (hl:l.length≤1048576) (ht:∀ i,i < l.length→(l.getD i Zsn).terms.length≤1048576) (h:K l):Zeg l K:=by
  unfold Zeg
  refine⟨by omega,?_⟩
  refine Yz (fun i (s:List ZAd)=>s.length=l.length∧∀ j,j < i→s.getD j Zsn=l.getD j Zsn) l.length ?_ ?_ _ _ _ (by omega) ⟨by simp,by intro j hj; omega⟩
  · intro i s next hi ⟨h1,h2⟩ hn
    refine Zp9 (ht i hi) ⟨by omega,hn _ ⟨by simpa using h1,fun j hj=>?_⟩⟩
    rw [Zav (by omega)]
    by_cases e:j=i
    · rw [if_pos e,e]
    · rw [if_neg e]; exact h2 j (by omega)
  · intro s ⟨h1,h2⟩
    have:s=l:=Zu8 h1 fun j hj hj'=>by have:=h2 j (by omega); simpa [Zsu,hj,hj'] using this
    rw [this]; exact h
theorem Zf9 {a:Alg} {K:Alg→Prop} (h1:a.degrees.length≤1048576) (h2:a.images.length≤1048576) (h3:∀ i,i < a.images.length→(a.images.getD i Zsn).terms.length≤1048576) (h:K a):Za5 a K:=by
  unfold Za5
  exact Zoq h1 (Zqz h2 h3 h)
theorem Zq0 {a:Alg} {K:Bool→Prop} (h:K true):Zcq a a K:=Zp5 (by simpa using h)
def GoodAlg (a:Alg):Prop:=(∀ x,x∈a.degrees→Fit .i64 x)∧∀ f,f∈a.images→∀ t,t∈f.terms→Ju .u8 t.mono∧Fit .i64 t.factor
theorem GoodAlg.fit {a:Alg} (h:GoodAlg a) (h3:∀ i,i < a.images.length→(a.images.getD i Zsn).terms.length≤1048576):Jz a:=fun i hi=>⟨fun t ht=>(h.2 _ (Xv hi) t ht).1,h3 i hi⟩
end Go.Proofs.Ytheenipahifleaa
namespace Vc
open Go Go.RowKit
section
variable {P:Program} {ops:Array Oper} {Q:Exit→Act→World→Prop} {n:Nat} {e:Env} {w w':World} {rest:List Oper}
variable {X:Nat→Prop} {w0:World} {M Ps:List Item}
variable {d ty:Nat} {pos:String} {af:Array Edge}
end
section
variable {X:Nat→Prop} {w0 w w':World} {M Ps:List Item}
end
section
variable {P:Program} {ops:Array Oper} {Q:Exit→Act→World→Prop} {n:Nat} {e:Env} {w w':World} {rest:List Oper}
variable {d ty:Nat} {pos:String} {af:Array Edge}
end
end Vc
namespace Vc
open Go Go.RowKit
section
variable {α β:Type}
end
structure Derive where
  alg:Alg
  drop:Int
  images:List (List (A8×Int))
  deriving Inhabited
section
variable {α β:Type} {kv:α→Value} {vv:β→Value}
end
end Vc
namespace Vc
open Go Go.RowKit
section
variable {X:Nat→Prop} {w0 w w':World} {M Ps:List Item}
end
section
variable {P:Program} {ops:Array Oper} {Q:Exit→Act→World→Prop} {n:Nat} {e:Env} {w w':World} {rest:List Oper}
variable {X:Nat→Prop} {w0:World} {M Ps:List Item}
variable {d ty:Nat} {pos:String} {af:Array Edge}
end
section
variable {P:Program} {ops:Array Oper} {Q:Exit→Act→World→Prop} {n:Nat} {e:Env} {w w':World} {rest:List Oper}
variable {d ty:Nat} {pos:String} {af:Array Edge}
theorem Zq1 {t t':Nat} {ik:IntKind} {x y:Operand} {a b:A8} {gd:Option (Nat×Bool)} (K:KeyT P t (kvA ik)) (hm:P.eqGuardType P.depth t=false) (hx:ev n e x=.agg (ZAa (a.enc ik))) (hy:ev n e y=.agg (ZAa (b.enc ik))) :
    (execOp (ev n e) ⟨some d,.binOp .eql t x y t',ty,pos,af,gd⟩).run P w=.ok (.value (.bool (decide (a=b)))) w:=by
  have hq:=run_eqGuard_agg (P:=P) w .eql t x y (ZAa (a.enc ik)) (ZAa (b.enc ik)) hm
  have hr:(Op.equalIn 10000 t (.agg (ZAa (a.enc ik))) (.agg (ZAa (b.enc ik)))).run P w=.ok (decide (a=b)) w:=K.equal w a b
  simp only [execOp,hx,hy,Sem.run_bind,hq,Result.andThen_ok,run_eql_struct,hr,Sem.run_pure]
theorem Zq2 {t t':Nat} {ik:IntKind} {x y:Operand} {a b:A8} (K:KeyT P t (kvA ik)) (hm:P.eqGuardType P.depth t=false) (hx:ev n e x=.agg (ZAa (a.enc ik))) (hy:ev n e y=.agg (ZAa (b.enc ik)))
    (h:W P ops Q rest n (upd e d (.bool (decide (a=b)))) w):W P ops Q (⟨some d,.binOp .eql t x y t',ty,pos,af,none⟩::rest) n e w :=
  Yo _ rfl rfl (Zq1 K hm hx hy) h
end
section
variable {P:Program} {ops:Array Oper} {Q:Exit→Act→World→Prop} {n:Nat} {e:Env} {w w':World} {rest:List Oper}
variable {X:Nat→Prop} {w0:World} {M Ps:List Item}
variable {d ty:Nat} {pos:String} {af:Array Edge} {gd:Option (Nat×Bool)}
end
end Vc
namespace Vc
open Go Go.RowKit
section
variable {P:Program} {ops:Array Oper} {Q:Exit→Act→World→Prop} {n:Nat} {e:Env} {w w':World} {rest:List Oper}
variable {X:Nat→Prop} {w0:World} {M Ps:List Item}
variable {d ty:Nat} {pos:String} {af:Array Edge}
end
end Vc
namespace Vc
open Go Go.RowKit
structure Elem where
  gen:Int
  mono:A8
  deriving DecidableEq,Inhabited
def Elem.enc (t:Elem):List Value:=.int .i64 t.gen::A8.enc .i64 t.mono
section
variable {P:Program} {k:Nat} {ik:IntKind}
end
section
variable {P:Program} {ops:Array Oper} {Q:Exit→Act→World→Prop} {n:Nat} {e:Env} {w w':World} {rest:List Oper}
variable {X:Nat→Prop} {w0:World} {M Ps:List Item}
variable {d ty:Nat} {pos:String} {af:Array Edge}
end
section
variable {P:Program} {ops:Array Oper} {Q:Exit→Act→World→Prop} {n:Nat} {e:Env} {w w':World} {rest:List Oper}
variable {X:Nat→Prop} {w0:World} {M Ps:List Item}
variable {d ty:Nat} {pos:String} {af:Array Edge}
end
end Vc
namespace Vc
open Go Go.RowKit
abbrev hd (ecs:List Value) (i:Nat):Value:=ecs.getD i undef
section
variable {α:Type} {E:Enc α} {t e:Nat} {v:Value} {ecs:List Value} {xs:List (List α)} {w w':World}
end
section
variable {α:Type} {E:Enc α} {t e:Nat} {v:Value} {ecs:List Value} {xs:List (List α)} {w w':World}
variable {X:Nat→Prop} {w0:World} {M Ps:List Item}
end
section
variable {P:Program} {ops:Array Oper} {Q:Exit→Act→World→Prop} {n:Nat} {ev_:Env} {w w':World} {rest:List Oper}
variable {X:Nat→Prop} {w0:World} {M Ps:List Item}
variable {d ty:Nat} {pos:String} {af:Array Edge}
variable {α:Type} {E:Enc α} {t e:Nat} {v:Value} {ecs:List Value} {xs:List (List α)}
end
section
variable {α:Type}
end
section
variable {P:Program} {ops:Array Oper} {Q:Exit→Act→World→Prop} {n:Nat} {ev_:Env} {w:World} {rest:List Oper}
variable {d ty:Nat} {pos:String} {af:Array Edge}
end
end Vc
namespace Vc
open Go Go.RowKit
open Go.Proofs (CmpLays1 ltOf)
open Go.Sort (grow putRow Holds SWO PermIn SortedIn mapBlock onCells putCells)
structure CmpT (P:Program) (ρ:ZHc) {α:Type} (T:Tr α) (cf:α→α→Int) (g:Nat):Prop where
  lays:ZIn P ρ
  one:∃ a v,∀ w,T.tree a [v] [] w
  sz:T.ty.sz=1
  swo:SWO (ltOf cf)
  fn:∃ fn:Func,P.funcs[g]? = some fn∧fn.body.isNone=false∧(fn.name == "runtime.NumGoroutine")=false
  call:∀ a b x y f1 f2 w,T.ty.rep a [x] f1 w→T.ty.rep b [y] f2 w→Calls P g #[x,y] w fun e w'=>e=.returned (.int .i64 (cf a b))∧Bel w w'
def Zhq {α:Type} (cf:α→α→Int) (xs:List α) (K:List α→Prop):Prop :=
  xs.length < 4611686018427387904∧∀ xs',xs'.Perm xs→xs'.Pairwise (fun a b=>¬ cf b a < 0)→K xs'
theorem Zq3 {α S:Type} (cf:α→α→Int) (f:S→α) (h:SWO (ltOf cf)):SWO (ltOf (fun a b:S=>cf (f a) (f b))) :=
  ⟨fun a=>h.irrefl (f a),fun a b c=>h.trans (f a) (f b) (f c),fun a b c=>h.ntrans (f a) (f b) (f c)⟩
theorem Zq4 {P : Program} {ρ : ZHc} {α : Type} {T : Tr α} {cf : α → α → Int} {g : Nat} (K : CmpT P ρ T cf g)
    {t:Nat} {v:Value} {xs:List α} {fp:List Nat} {w:World} (hH:((ZGu t T).item xs [v] fp).holds w) (hs:xs.length < 4611686018427387904) :
    Calls P (ρ.f 6) #[v,.func (.func g) #[] #[]] w fun e w'=>e=.returned (.tuple #[])∧∃ xs' fp',xs'.Perm xs∧xs'.Pairwise (fun a b=>¬ cf b a < 0)∧((ZGu t T).item xs' [v] fp').holds w'∧(∀ b,b∈fp'→b∈fp)∧BelO v.ownBlock.toList w w':=by
  obtain ⟨⟨v',ecs,fps,hv,ho,ht,rfl⟩,hnd⟩:=hH
  obtain rfl:v=v':=by simpa using hv
  have hlo:=(Item.low _ _ ho)
  rcases ho.2 with ⟨rfl,hn0⟩ | ⟨blk,cap,cur,rfl,_,hcur,hcap,hmax,hsz,htk⟩
  · obtain rfl:xs=[]:=List.eq_nil_of_length_eq_zero hn0
    refine(Go.Proofs.AnyF.slices_SortFunc_none { K.lays with } none 0 _ w).mono ?_
    rintro e w' ⟨rfl,rfl⟩
    exact⟨rfl,[],_,.refl _,.nil,⟨⟨_,ecs,fps,rfl,ho,ht,rfl⟩,hnd⟩,fun _ h=>h,⟨rfl,rfl,rfl,Zsm _,Zsm _,fun _ _ _=>rfl⟩⟩
  · have hblk:blk < w.heap.size:=Zad hcur
    have hob:(Value.slice (some ⟨blk,0,none⟩) xs.length cap).ownBlock.toList=[blk]:=rfl
    rw [hob] at hnd
    have hnd':=List.nodup_append.1 hnd
    let Sx:={p:α×Value×List Nat // T.tree p.1 [p.2.1] p.2.2 w∧blk∉p.2.2}
    obtain ⟨a0,v0,h0⟩:=K.one
    haveI:Inhabited Sx:=⟨⟨(a0,v0,[]),h0 w,by simp⟩⟩
    have hsz1:=K.sz
    have hel:ecs.length=xs.length:=by rw [ht.1,hsz1,ZG6]
    have hfl:fps.length=xs.length:=ht.2.1
    have elt:∀ i (hi:i < xs.length),T.tree xs[i] [ecs[i]'(by omega)] (fps[i]'(by omega)) w∧blk∉fps[i]'(by omega):=by
      intro i hi
      have h1:=ht.2.2 i hi
      rw [hsz1,ZG6] at h1
      have e1:(ecs.drop i).take 1=[ecs[i]'(by omega)]:=by
        rw [ZG5 (by omega:i < ecs.length)]; rfl
      have e2:fps.getD i []=fps[i]'(by omega):=by simp [Zsu,show i < fps.length by omega]
      rw [e1,e2] at h1
      refine⟨h1,fun hb=>hnd'.2.2 blk (by simp) blk ?_ rfl⟩
      exact List.mem_flatten.2 ⟨_,Zsy _,hb⟩
    let d:Array Sx:=Array.ofFn (n:=xs.length) fun i=>⟨(xs[i],ecs[i.1]'(by omega),fps[i.1]'(by omega)),elt i.1 i.2⟩
    have hds:d.size=xs.length:=by simp [d]
    let enc:Sx→Value:=fun x=>x.1.2.1
    have hget:∀ j (hj:j < xs.length),d[j]! = ⟨(xs[j],ecs[j]'(by omega),fps[j]'(by omega)),elt j hj⟩:=by
      intro j hj
      rw [getElem!_pos d j (by omega)]
      simp [d]
    have hHK:Holds enc w blk 0 d:=by
      intro j hj
      rw [hds] at hj
      rw [hget j hj]
      constructor
      · simp only [World.cell?,hcur,Nat.zero_add]
        have h2:ecs[j]? = some (ecs[j]'(by omega)):=List.getElem?_eq_getElem _
        have h3:(cur.toList.take (xs.length * T.ty.sz))[j]? = cur[j]? := by
          rw [List.getElem?_take,if_pos (by rw [hsz1]; omega),Array.getElem?_toList]
        rw [htk] at h3
        rw [h3] at h2
        simpa [enc] using h2
      · simp [World.frozen?,hcur]
    have hkeep:∀ (w1:World),BelO [blk] w w1→∀ x:Sx,T.tree x.1.1 [x.1.2.1] x.1.2.2 w1:=fun w1 hB x =>
      T.tkeep (fun b hb=>hB.old b (T.tlow x.2.1 b hb) (fun hm=>x.2.2 (by rw [Zt8] at hm; exact hm ▸ hb))) x.2.1
    have hbel:∀ m (dk:Array Sx) os,BelO [blk] w (Go.Proofs.sortWorld enc w blk 0 m dk os):=by
      intro m dk os
      have hmsz:(putRow enc (ZG0 w m) blk 0 dk).heap.size=w.heap.size:=by simp [putRow,mapBlock,ZG0]
      refine⟨rfl,rfl,rfl,?_,Nat.le_add_right _ _,fun c hc hne=>?_⟩
      · show w.heap.size≤(grow (putRow enc (ZG0 w m) blk 0 dk) os).heap.size
        rw [Go.Sort.size_grow,hmsz]; omega
      · show (grow (putRow enc (ZG0 w m) blk 0 dk) os).heap[c]? = _
        rw [ZIo _ _ (by rw [hmsz]; exact hc)]
        have hne':blk≠c:=fun e=>hne (by simp [e])
        simp only [putRow,mapBlock,ZG0,Array.getElem?_modify,hne',if_false]
    have hcl:CmpLays1 P g #[] enc (fun a b=>cf a.1.1 b.1.1) blk 0 d.size w:=by
      intro m os dk hdk x y
      refine(K.call x.1.1 y.1.1 x.1.2.1 y.1.2.1 _ _ _ (T.trep (hkeep _ (hbel m dk os) x)) (T.trep (hkeep _ (hbel m dk os) y))).mono ?_
      rintro e w' ⟨rfl,hB⟩
      exact⟨rfl,Zmj hB⟩
    have eg:∀ args w,(callFunc g args).run P w=.ok (.enter g args) w:=by
      intro args w
      obtain ⟨fn,hf,hb,hn⟩:=K.fn
      unfold callFunc
      simp only [run_program,Sem.run_bind,Result.andThen_ok,hf,hn,hb,Bool.false_eq_true,if_false,Sem.run_pure]
    have hone:Go.Proofs.OneCell enc:=fun x=>T.ty.one (T.trep x.2.1) _ (by simp [enc])
    have hcon:=Go.Proofs.Any.slices_SortFunc K.lays enc hone (fun a b=>cf a.1.1 b.1.1) (Zq3 cf (fun x:Sx=>x.1.1) K.swo) g #[] blk 0 cap d w eg hcl hHK hblk (by rw [hds]; exact hs)
    rw [hds] at hcon
    refine hcon.mono ?_
    rintro e w' ⟨rfl,d',n,os,hp,hsorted,rfl⟩
    have hds':d'.size=xs.length:=hp.1.trans hds
    have hperm:d'.toList.Perm d.toList:=by
      have:=hp.2.2
      rwa [show d'.extract 0 xs.length=d' by rw [← hds']; simp,show d.extract 0 xs.length=d by rw [← hds]; simp] at this
    have hB:=hbel n d' os
    have hdx:d.toList.map (fun x=>x.1.1)=xs:=by
      apply Zu8 (by simp [hds])
      intro i h1 h2
      simp [d]
    have hdf:d.toList.map (fun x=>x.1.2.2)=fps:=by
      apply Zu8 (by simp [hds,hfl])
      intro i h1 h2
      simp [d]
    have hpf:(d'.toList.map (fun x=>x.1.2.2)).Perm fps:=by have:=hperm.map (fun x:Sx=>x.1.2.2); rwa [hdf] at this
    have hl':(d'.toList.map (fun x=>x.1.1)).length=xs.length:=by simpa using hds'
    have hmsz:(putRow enc (ZG0 w n) blk 0 d').heap.size=w.heap.size:=by simp [putRow,mapBlock,ZG0]
    have hflat:(d'.toList.map (fun x=>x.1.2.2)).flatten.Perm fps.flatten:=hpf.flatten
    refine⟨rfl,d'.toList.map (fun x=>x.1.1),[blk]++(d'.toList.map (fun x=>x.1.2.2)).flatten,?_,?_,⟨⟨_,d'.toList.map enc,d'.toList.map (fun x=>x.1.2.2),rfl,⟨?_,.inr ⟨blk,cap,putCells enc 0 d' cur,by rw [hl'],Zun _,?_,by rw [hl']; exact hcap,hmax,by simp [putCells,hsz],?_⟩⟩,⟨by simp [hsz1],by simp,?_⟩,rfl⟩,?_⟩,?_,hB⟩
    · have:=hperm.map (fun x:Sx=>x.1.1); rwa [hdx] at this
    · rw [ZG7,Zsp]
      intro i j hi hj hij
      have:=hsorted i j (Zun _) hij (by simpa [hds'] using hj)
      rw [getElem!_pos d' i (by simpa using hi),getElem!_pos d' j (by simpa using hj)] at this
      simpa [ltOf] using this
    · simp [hsz1]
    · show (grow (putRow enc (ZG0 w n) blk 0 d') os).heap[blk]? = _
      rw [ZIo _ _ (by rw [hmsz]; exact hblk)]
      simp only [putRow,mapBlock,ZG0,Array.getElem?_modify,if_true,hcur,Option.map_some,onCells]
    · apply List.ext_getElem?
      intro j
      by_cases hj:j < xs.length
      · have hjc:j < cur.size:=by rw [hsz,hsz1]; omega
        rw [List.getElem?_take,if_pos (by simpa [hds',hsz1] using hj)]
        simp only [putCells,Array.getElem?_toList,Array.getElem?_mapIdx,Array.getElem?_eq_getElem hjc,Option.map_some,Zun,true_and,Nat.zero_add,hds',hj,if_true,Nat.sub_zero,List.getElem?_map]
        rw [getElem!_pos d' j (by omega),Array.getElem?_eq_getElem (by omega)]
        rfl
      · rw [List.getElem?_eq_none (by rw [Zup,hl',hsz1]; omega),List.getElem?_eq_none (by simp [hds']; omega)]
    · intro i hi
      have hi':i < d'.size:=by simpa using hi
      rw [hsz1,ZG6]
      have e1:((d'.toList.map enc).drop i).take 1=[enc d'[i]]:=by
        rw [ZG5 (by simpa using hi')]; simp
      have e2:(d'.toList.map (fun x=>x.1.2.2)).getD i []=d'[i].1.2.2:=by simp [Zsu,hi']
      rw [e1,e2]
      have:=hkeep _ hB d'[i]
      simpa [enc] using this
    · exact(List.Perm.nodup_iff (List.Perm.append_left _ hflat)).2 hnd
    · intro b hb
      rcases Zsw.1 hb with h | h
      · exact Ztc _ h
      · exact Zs7 _ (hflat.mem_iff.1 h)
section
variable {P:Program} {ops:Array Oper} {Q:Exit→Act→World→Prop} {n:Nat} {e:Env} {w w':World} {rest:List Oper}
variable {X:Nat→Prop} {w0:World} {M Ps:List Item}
variable {d ty:Nat} {pos:String} {af:Array Edge}
theorem Zq5 (hC:Ctx X w0 w M Ps) (k:Nat) {ρ:ZHc} {α:Type} {T:Tr α} {cf:α→α→Int} {g f:Nat} (K:CmpT P ρ T cf g) (hff:ρ.f 6=f) {t:Nat} {v:Value} {xs:List α} {fp:List Nat} {x y:Operand} {G:List α→Prop} (hk:M[k]? = some ((ZGu t T).item xs [v] fp))
    {fn:Func} {at_:Array Nat} (hf:P.funcs[f]? = some fn) (hb:fn.body.isNone=false) (hne:(fn.name == "runtime.NumGoroutine")=false)
    (hx:ev n e x=v) (hy:ev n e y=.func (.func g) #[] #[]) (hs:Zhq cf xs G)
    (h:∀ xs' fp' w',G xs'→Ctx X w0 w' (M.set k ((ZGu t T).item xs' [v] fp')) Ps→W P ops Q rest n (upd e d (.tuple #[])) w') :
    W P ops Q (⟨some d,.call { callee:=.value (.func f),args:=#[x,y],argTypes:=at_ }, ty,pos,af,none⟩::rest) n e w:=by
  have hc:=Zq4 K (hC.getM k hk) hs.1
  rw [hff] at hc
  refine Zk (l:=[x,y]) [v,.func (.func g) #[] #[]] _ hf hb hne (by simp [hx,hy]) hc ?_
  rintro ret w'' ⟨rfl,xs',fp',hp,hw,hh,hsub,hB⟩
  refine⟨_,rfl,h xs' fp' w'' (hs.2 xs' hp hw) (hC.turn k hk hB.os hB.tape hB.output hB.size hB.drawn ?_ hh (fun b hb=>.inl (hsub b hb)))⟩
  intro b hb hn
  refine hB.old b hb (fun hm=>hn ?_)
  obtain ⟨⟨v',ecs,fps,hv,_,_,rfl⟩,_⟩:=hC.getM k hk
  obtain rfl:v=v':=by simpa using hv
  exact Ztc _ hm
end
end Vc
namespace Go.Proofs
open Go.Shelf
def Try.sortRows_ren:ZHc:=⟨fun | 6=>22 | 15=>42 | 14=>41 | 28=>73 | 29=>74 | 20=>65 | 21=>66 | 22=>67 | 23=>68 | 24=>69 | 25=>70 | 26=>71 | 27=>72 | 46=>87 | 47=>88 | 48=>89 | 49=>90 | 50=>91 | 57=>99 | n=>n,fun | 22=>27 | 24=>22 | 25=>59 | 3=>3 | 39=>79 | 0=>0 | 53=>110 | 55=>112 | 4=>4 | 46=>103 | 45=>102 | 50=>107 | 5=>5 | 9=>9 | 66=>123 | 70=>127 | 76=>138 | 77=>139 | n=>n,fun | n=>n⟩
theorem Try.sortRows:ZIn ZAf Try.sortRows_ren:={
  mixed:=by kernel_rfl
  f6:=⟨Try.f22.name,by decide,Try.func22.trans (congrArg some (by kernel_rfl))⟩
  f14:=⟨Try.f41.name,by decide,Try.func41.trans (congrArg some (by kernel_rfl))⟩
  f15:=Try.func42.trans (congrArg some (by kernel_rfl))
  f20:=⟨Try.f65.name,by decide,Try.func65.trans (congrArg some (by kernel_rfl))⟩
  f21:=⟨Try.f66.name,by decide,Try.func66.trans (congrArg some (by kernel_rfl))⟩
  f22:=⟨Try.f67.name,by decide,Try.func67.trans (congrArg some (by kernel_rfl))⟩
  f23:=⟨Try.f68.name,by decide,Try.func68.trans (congrArg some (by kernel_rfl))⟩
  f24:=⟨Try.f69.name,by decide,Try.func69.trans (congrArg some (by kernel_rfl))⟩
  f25:=⟨Try.f70.name,by decide,Try.func70.trans (congrArg some (by kernel_rfl))⟩
  f26:=⟨Try.f71.name,by decide,Try.func71.trans (congrArg some (by kernel_rfl))⟩
  f27:=⟨Try.f72.name,by decide,Try.func72.trans (congrArg some (by kernel_rfl))⟩
  f28:=Try.func73.trans (congrArg some (by kernel_rfl))
  f29:=Try.func74.trans (congrArg some (by kernel_rfl))
  f46:=⟨Try.f87.name,by decide,Try.func87.trans (congrArg some (by kernel_rfl))⟩
  f47:=Try.func88.trans (congrArg some (by kernel_rfl))
  f48:=Try.func89.trans (congrArg some (by kernel_rfl))
  f49:=⟨Try.f90.name,by decide,Try.func90.trans (congrArg some (by kernel_rfl))⟩
  f50:=⟨Try.f91.name,by decide,Try.func91.trans (congrArg some (by kernel_rfl))⟩
  f57:=⟨Try.f99.name,by decide,Try.func99.trans (congrArg some (by kernel_rfl))⟩
  t0:=Try.underlying0
  a0:=Try.isAgg0
  z0:=Try.sizeOf0
  v0:=Try.zeroValue0
  t3:=Try.underlying3
  a3:=Try.isAgg3
  z3:=Try.sizeOf3
  v3:=Try.zeroValue3
  t4:=Try.underlying4
  a4:=Try.isAgg4
  z4:=Try.sizeOf4
  v4:=Try.zeroValue4
  t5:=Try.underlying5
  a5:=Try.isAgg5
  z5:=Try.sizeOf5
  v5:=Try.zeroValue5
  t9:=Try.underlying9
  a9:=Try.isAgg9
  z9:=Try.sizeOf9
  v9:=Try.zeroValue9
  t22:=Try.underlying27
  a22:=Try.isAgg27
  z22:=Try.sizeOf27
  v22:=Try.zeroValue27
  a24:=Try.isAgg22
  z24:=Try.sizeOf22
  t25:=Try.underlying59
  a25:=Try.isAgg59
  z25:=Try.sizeOf59
  v25:=Try.zeroValue59
  t39:=Try.underlying79
  a39:=Try.isAgg79
  z39:=Try.sizeOf79
  v39:=Try.zeroValue79
  t45:=Try.underlying102
  a45:=Try.isAgg102
  z45:=Try.sizeOf102
  v45:=Try.zeroValue102
  t46:=Try.underlying103
  a46:=Try.isAgg103
  z46:=Try.sizeOf103
  v46:=Try.zeroValue103
  t50:=Try.underlying107
  a50:=Try.isAgg107
  z50:=Try.sizeOf107
  v50:=Try.zeroValue107
  t53:=Try.underlying110
  a53:=Try.isAgg110
  z53:=Try.sizeOf110
  v53:=Try.zeroValue110
  t55:=Try.underlying112
  a55:=Try.isAgg112
  z55:=Try.sizeOf112
  v55:=Try.zeroValue112
  t66:=Try.underlying123
  a66:=Try.isAgg123
  z66:=Try.sizeOf123
  v66:=Try.zeroValue123
  t70:=Try.underlying127
  a70:=Try.isAgg127
  z70:=Try.sizeOf127
  v70:=Try.zeroValue127
  t76:=Try.underlying138
  a76:=Try.isAgg138
  z76:=Try.sizeOf138
  v76:=Try.zeroValue138
  t77:=Try.underlying139
  a77:=Try.isAgg139
  z77:=Try.sizeOf139
  v77:=Try.zeroValue139 }
end Go.Proofs
namespace Go.Proofs.Ytheenipahifleaa
open Go Go.RowKit Vc
open Go.Proofs (ltOf)
def Ym:List Int→List Int→Int
  | [],[]=>0
  | [],_::_=>-1
  | _::_,[]=>1
  | a::xs,b::ys=>if a < b then -1 else if b < a then 1 else Ym xs ys
theorem Zhr:∀ a,Ym a a=0
  | []=>rfl
  | a::xs=>by simp [Ym,Zhr xs]
theorem Zej:∀ a b,Ym a b=- Ym b a
  | [],[]=>rfl
  | [],_::_=>rfl
  | _::_,[]=>rfl
  | a :: xs, b :: ys => by
    simp only [Ym]
    rcases Int.lt_trichotomy a b with h | h | h
    · rw [if_pos h,if_neg (by omega),if_pos h]
    · subst h; simp [Zej xs ys]
    · rw [if_neg (by omega),if_pos h,if_pos h]; rfl
theorem Zga : ∀ {a b}, Ym a b = 0 → a = b
  | [],[],_=>rfl
  | [],_::_,h=>by simp [Ym] at h
  | _::_,[],h=>by simp [Ym] at h
  | a :: xs, b :: ys, h => by
    simp only [Ym] at h
    by_cases h1:a < b
    · rw [if_pos h1] at h; omega
    · rw [if_neg h1] at h
      by_cases h2:b < a
      · rw [if_pos h2] at h; omega
      · rw [if_neg h2] at h
        rw [Zga h,show a=b by omega]
theorem Zgb : ∀ {a b c}, Ym a b < 0 → Ym b c < 0 → Ym a c < 0
  | [],[],_,h,_=>by simp [Ym] at h
  | [],_::_,[],_,k=>by simp [Ym] at k
  | [],_::_,_::_,_,_=>by simp [Ym]
  | _::_,[],_,h,_=>by simp [Ym] at h
  | _::_,_::_,[],_,k=>by simp [Ym] at k
  | a :: xs, b :: ys, c :: zs, h, k => by
    simp only [Ym] at h k ⊢
    by_cases h1:a < b
    · by_cases k1:b < c
      · rw [if_pos (by omega)]; omega
      · rw [if_neg k1] at k
        by_cases k2:c < b
        · rw [if_pos k2] at k; omega
        · rw [if_pos (by omega)]; omega
    · rw [if_neg h1] at h
      by_cases h2:b < a
      · rw [if_pos h2] at h; omega
      · rw [if_neg h2] at h
        obtain rfl:a=b:=by omega
        by_cases k1:a < c
        · rw [if_pos k1]; omega
        · rw [if_neg k1] at k ⊢
          by_cases k2:c < a
          · rw [if_pos k2] at k; omega
          · rw [if_neg k2] at k ⊢
            exact Zgb h k
theorem Zq6 : Go.Sort.SWO (ltOf Ym) := by
  refine⟨fun x=>by simp [ltOf,Zhr],fun x y z h k=>?_,fun x y z h k=>?_⟩
  · simp only [ltOf,decide_eq_true_eq] at *
    exact Zgb h k
  · simp only [ltOf,decide_eq_false_iff_not] at *
    intro hc
    have a1:=Zej x y
    have a2:=Zej y z
    by_cases e1:Ym x y=0
    · rw [Zga e1] at hc; exact k hc
    · by_cases e2:Ym y z=0
      · rw [← Zga e2] at hc; exact h hc
      · have h1:Ym z y < 0:=by omega
        have h2:Ym y x < 0:=by omega
        have h3:=Zgb h1 h2
        have a3:=Zej x z
        omega
theorem Zq7 {a b:Int} {K:Int→Prop} (h:K (if a < b then -1 else if b < a then 1 else 0)):Zd3 a b K:=by
  unfold Zd3 Zd2
  rw [show decide (a≠a)=false by simp,show decide (b≠b)=false by simp]
  simp only [Bool.false_eq_true,if_false]
  by_cases h1:a < b
  · rw [if_pos h1] at h ⊢; exact h
  · rw [if_neg h1] at h ⊢
    by_cases h2:b < a
    · rw [if_pos h2] at h; rw [if_pos (by omega)]; exact h
    · rw [if_neg h2] at h; rw [if_neg (by omega)]; exact h
theorem Zq8 {a b : List Int} {K : Int → Prop} (h : K (Ym a b)) : Zfr a b K := by
  unfold Zfr
  suffices H:∀ r i (hr:i+r=a.length) (hi:i≤b.length) (hl:Ym (a.drop i) (b.drop i)=Ym a b),Yh _ _ r i () from H a.length 0 (by omega) (by omega) (by simp)
  intro r
  induction r with
  | zero =>
    intro i hr hi hl
    show ite _ _ _
    have hd:a.drop i=[]:=ZHq (by omega)
    rw [hd] at hl
    by_cases q:(a.length:Int) < (b.length:Int)
    · rw [if_pos q]
      have:Ym a b=-1:=by
        rw [← hl,ZG5 (by omega:i < b.length)]; rfl
      rw [← this]; exact h
    · rw [if_neg q]
      have:Ym a b=0:=by
        rw [← hl,ZHq (by omega:b.length≤i)]; rfl
      rw [← this]; exact h
  | succ r ih =>
    intro i hr hi hl
    show ite _ _ _
    have hda:a.drop i=a.getD i Zsn::a.drop (i+1):=by
      rw [ZG5 (by omega:i < a.length)]; simp [Zsu,show i < a.length by omega]
    by_cases q:(i:Int)≥(b.length:Int)
    · rw [if_pos q]
      have:Ym a b=1:=by
        rw [← hl,ZHq (by omega:b.length≤i),hda]; rfl
      rw [← this]; exact h
    · rw [if_neg q]
      refine⟨⟨by omega,by omega⟩,Zq7 ?_⟩
      have hdb:b.drop i=b.getD i Zsn::b.drop (i+1):=by
        rw [ZG5 (by omega:i < b.length)]; simp [Zsu,show i < b.length by omega]
      rw [hda,hdb] at hl
      simp only [Ym] at hl
      by_cases h1:a.getD i Zsn < b.getD i Zsn
      · rw [if_pos h1] at hl ⊢
        rw [if_pos (by decide)]; rw [hl]; exact h
      · rw [if_neg h1] at hl ⊢
        by_cases h2:b.getD i Zsn < a.getD i Zsn
        · rw [if_pos h2] at hl ⊢
          rw [if_pos (by decide)]; rw [hl]; exact h
        · rw [if_neg h2] at hl ⊢
          rw [if_neg (by decide)]
          exact ih (i+1) (by omega) (by omega) hl
theorem Zq9:CmpT ZAf Try.sortRows_ren (ZGu 2 ((EI .i64).tr)) Ym 23:=by
  refine⟨Try.sortRows,⟨[],.slice none 0 0,fun w=>Zi5 2 _ w⟩,rfl,Zq6,⟨_,Try.func23,rfl,rfl⟩,fun a b x y f1 f2 w h1 h2=>?_⟩
  refine(Zok a b (K:=fun r=>r=Ym a b) (Zq8 rfl) w h1 h2).mono ?_
  rintro e w' ⟨r,rfl,rfl,hB⟩
  exact⟨rfl,hB⟩
end Go.Proofs.Ytheenipahifleaa
