import Derived.Calls
import Derived.WalkKit
import Derived.Orders
import Derived.Tactics
import Derived.Below
import Derived.Laws.Rows
import Derived.Laws.Cells
import Derived.Laws.Tables
import Derived.Laws.Sem
import Derived.Laws.World
import Derived.Laws.CopyRow
import Derived.Laws.Entries
import Derived.Maps.AppendAt
import Derived.IntWalk
import Derived.Laws.MakeOwn
import Derived.OwnWalk
import Derived.Laws.OwnMore
import Derived.KernelRfl
import Derived.Maps.RangeRun
import Derived.Shelf.SlSortCmp.WholeK
import Derived.Shelf.SlSortCmp.NoneTotal
import Derived.ProofKit
import Derived.OpenShut
import Derived.Deep.Slices
import Derived.Ground.SlsfProg
import Derived.Test.YtaagfepgbofmlaaGreatProg
import Derived.Lib.AppendZeros
import Derived.Lib.AppendZerosOnto
import Derived.Laws.Slices
import Derived.Laws.StructEq
set_option linter.unusedSectionVars false
set_option linter.unusedSimpArgs false
set_option linter.unusedVariables false
open Array renaming getD→Cy,length_toList→Zv2,all_eq_true'→Zwe,any_eq_true'→Zw2,setIfInBounds_comm→Zx7,toList_filter→Zym
open Bool renaming and_eq_true→C0,or_eq_true→Fj,false_eq_true→Zv5,beq_eq_decide_eq→Zws,not_eq_true'→Zw0
open Decidable renaming byContradiction→Zxb,not_not→Zxc
open Go.Act renaming put_comm→Zvu
open Go.Addr renaming add→F7
open Go.Builtin renaming len_→Zwx,append_→Zwy,delete_→Zw7,firstCells→Zx4
open Go.ChangeMaps renaming map_eraseIdx→Fx
open Go.Deferred renaming ofValue→Zxr
open Go.Exit renaming inBlock→Zv7
open Go.Instr renaming sureAddr→Cm,loadAt→C7,checkKey→Zvv,indexAt→Zv4,sameNow→Zw4,findNow→Zw5,mapUpdate→Zw6
open Go.IntKind renaming i64→Zwt
open Go.Op renaming intCmp→C6,intArith→Ff,equalIn→Zwh
open Go.Oper renaming wp→C5,upon→Fh,upon_value→Zvz
open Go.Region renaming wanted→Cf,ready→Cn,binds→Cz,Mode→Fv
open Go.Result renaming andThen_ok→Cc
open Go.Sem renaming run_bind→Ca,run_pure→Ce,run→Cr
open Go.Value renaming ownBlock→Fe
open Inhabited renaming default→Ci
open Int renaming mul_emod→Ct,tmod→Fa,mul_assoc→Fp,zero_add→F3,emod_emod→F4,mul_comm→Zvy,add_emod→Zwi
open List renaming mem_cons→Cb,replicate→Cd,mem_append→Ch,pairwise_cons→Cl,getD→Co,mem_map→Cp,pairwise_iff_getElem→Cq,mem_append_right→Cu,mem_append_left→Cv,getElem_of_mem→Cw,getElem_mem→C4,length_append→C8,range→C9,mem_singleton→Fc,length→Fg,all_eq_true→Fi,nodup_append→Fk,map_cons→Fm,take_of_length_le→Fs,drop_drop→Ft,drop_left'→Fu,flatMap_cons→F8,drop_zero→F9,mem_range→Zvt,flatten_cons→Zvw,ext_getElem→Zvx,getElem_set→Zv0,take_one→Zv6,take_append_of_le_length→Zv9,length_drop→Zwa,not_mem_nil→Zwd,replicate_succ→Zwg,pairwise_append→Zwk,eraseIdx_sublist→Zwq,length_cons→Zw3,length_eraseIdx_of_lt→Zxl,getElem_append_left→Zxz,drop_append_of_le_length→Zx0,getElem_cons_zero→Zx8,getElem_cons_succ→Zx9,take_append_drop→Zya,length_eq_zero_iff→Zyo
open List.Perm renaming swap→Fy
open List.cons renaming injEq→Zye
open Nat renaming le_refl→Cg,le_trans→Cj,blt→Ck,add_mul→Cs,blt_eq→C1,not_lt→C2,one_mul→C3,lt_or_ge→Fb,add_comm→Fl,zero_le→Fq,le_succ→F5,beq→F6,zero_mul→Zv8,mul_comm→Zwb,mod_lt→Zwc,lt_succ_self→Zwf,lt_trichotomy→Zwj,lt_succ_of_lt→Zwl,lt_of_lt_of_le→Zwo,lt_or_gt_of_ne→Zwp,mul_le_mul_right→Zww,zero_add→Zwz,div_add_mod'→Zw8,eq_of_beq_eq_true→Zxh
open Option renaming map_some→Fw,getD_some→Zw1,map_eq_some_iff→Zx1
open Option.some renaming inj→Zyk
open Prod renaming fst→Fo
open Prod.mk renaming injEq→Zvs
open Std.Legacy.Range renaming forIn_eq_forIn_range'→Zyp
namespace Vc
theorem I1 {α:Sort _} {β:Sort _} {a b:α} (f:α->β) (h:a=b):f a=f b:=congrArg f h
end Vc
namespace Vc
abbrev Vec:=Nat->Int
inductive Sp (S:Vec->Prop):Vec->Prop
 | zero {u:Vec}:(∀ j,u j % 10007=0)->Sp S u
 | add {r v u:Vec} (k:Int):S r->Sp S v->(∀ j,u j % 10007=(v j+k * r j) % 10007)->Sp S u
theorem Gx {a b c d:Int} (k:Int) (h:a % 10007=b % 10007) (A:c % 10007=d % 10007):(a+k * c) % 10007=(b+k * d) % 10007:=by
 rw [Zwi,Ct k c,h,A,<- Ct,<- Zwi]
theorem Sp.cong {S:Vec->Prop} {u v:Vec} (h:Sp S u) (e:∀ j,v j % 10007=u j % 10007):Sp S v:=by
 cases h with
 | zero z=>exact .zero λj=>by rw [e,z]
 | add k hr hv q=>exact .add k hr hv λj=>by rw [e,q]
theorem Sp.nil (S:Vec->Prop):Sp S (λ_=>0):=.zero λ_=>rfl
theorem Sp.gen {S:Vec->Prop} {r:Vec} (h:S r):Sp S r:=.add 1 h (Sp.nil S) λj=>by simp
theorem Sp.sum {S:Vec->Prop} {u v:Vec} (k:Int) (hu:Sp S u) (hv:Sp S v):∀ {w:Vec}, (∀ j,w j % 10007=(u j+k * v j) % 10007)->Sp S w:=by
 induction hv with
 | @zero v z=>intro w e; exact hu.cong λj=>by rw [e,Zwi,Ct,z]; simp
 | @add r v' u' k' hr hv q ih =>
  intro w e;refine .add (k * k') hr (ih (w:=λj=>u j+k * v' j) λ_=>rfl) λj=>?_
  rw [e,Gx k rfl (q j)]
  congr 1
  rw [Int.mul_add,Fp];omega
theorem Sp.mono {S T:Vec->Prop} (h:∀ r,S r->Sp T r) {u:Vec} (hu:Sp S u):Sp T u:=by
 induction hu with
 | zero z=>exact .zero z
 | add k hr hv q ih=>exact ih.sum k (h _ hr) q
def vec (a:List Int):Vec:=λj=>a.getD j 0
def ld:List Int->Nat
 | []=>0
 | x::xs=>if x=0 then ld xs+1 else 0
theorem B6 (x:Int) (xs:List Int) (j:Nat):vec (x::xs) (j+1)=vec xs j:=rfl
theorem Xs {a:List Int} {j:Nat} (h:a.length<=j):vec a j=0:=by simp [vec,Co,List.getElem?_eq_none h]
theorem U5 {a:List Int} {j:Nat} (h:j < a.length):vec a j=a[j]:=by simp [vec,Co,h]
theorem Jd:∀ {a:List Int} {q:Nat}, q < ld a->vec a q=0
 | [],q,h=>by simp [ld] at h
 | x :: xs, q, h => by
  unfold ld at h
  split at h
  ·rename_i e;cases q with
   | zero=>exact e
   | succ q=>rw [B6]; exact Jd (by omega)
  ·omega
theorem Nx:∀ {a:List Int}, ld a < a.length->vec a (ld a)≠0
 | [],h=>by simp at h
 | x :: xs, h => by
  unfold ld at h ⊢
  split
  ·rename_i e;rw [if_pos e] at h
   rw [B6]; exact Nx (by simp at h; omega)
  ·rename_i e; exact e
theorem Gy {a:List Int} {k:Nat} (h:vec a k≠0):k < a.length:=Nat.lt_of_not_le λz=>h (Xs z)
theorem Tp {a:List Int} {k:Nat} (A:∀ q,q < k->vec a q=0) (h:vec a k≠0):ld a=k:=by
 have hk:=Gy h;rcases Zwj (ld a) k with q | q | q
 ·exact absurd (A _ q) (Nx (by omega))
 ·exact q
 ·exact absurd (Jd q) h
structure RowOk (n:Nat) (a:List Int):Prop where
 len:a.length=n
 rng:∀ j,0<=vec a j/\vec a j<=10006
theorem RowOk.mod {n:Nat} {a:List Int} (h:RowOk n a) (j:Nat):vec a j % 10007=vec a j:=by have:=h.rng j; omega
theorem Gz {a b:List Int} (hl:a.length=b.length) (h:∀ j,vec a j=vec b j):a=b:=by
 refine Zvx hl λi A B=>?_
 have:=h i;rwa [U5 A,U5 B] at this
theorem RowOk.ext {n:Nat} {a b:List Int} (ha:RowOk n a) (hb:RowOk n b) (h:∀ j,vec a j % 10007=vec b j % 10007):a=b :=
 Gz (ha.len.trans hb.len.symm) λj=>by have:=h j; rwa [ha.mod,hb.mod] at this
def subR (k:Int) (a b:List Int):List Int:=List.zipWith (λx y=>(x - k * y) % 10007) a b
theorem Lr {k:Int} {a b:List Int} (h:a.length=b.length):(subR k a b).length=a.length:=by simp [subR,h]
theorem Vm {k:Int} {a b:List Int} (h:a.length=b.length) (j:Nat):vec (subR k a b) j=(vec a j - k * vec b j) % 10007:=by
 by_cases hj:j < a.length
 ·rw [U5 (by rw [Lr h]; exact hj),U5 hj,U5 (by omega)]
  simp [subR]
 ·rw [Xs (by rw [Lr h]; omega),Xs (by omega),Xs (by omega)]; simp
theorem Ny {n:Nat} {k:Int} {a b:List Int} (ha:RowOk n a) (hb:RowOk n b):RowOk n (subR k a b):=by
 have h:=ha.len.trans hb.len.symm;exact⟨by rw [Lr h,ha.len],λj=>by rw [Vm h]; omega⟩
theorem G0 {n:Nat} {a b:List Int} (ha:RowOk n a) (hb:RowOk n b):subR 0 a b=a:=by
 have h:=ha.len.trans hb.len.symm;refine(Ny ha hb).ext ha λj=>?_
 rw [Vm h]; simp
def Xt (k:Int) (a:List Int):List Int:=a.map λx=>x * k % 10007
theorem V7 (k:Int) (a:List Int) (j:Nat):vec (Xt k a) j=vec a j * k % 10007:=by
 by_cases hj:j < a.length
 ·rw [U5 (by simpa [Xt] using hj),U5 hj]; simp [Xt]
 ·rw [Xs (by simp [Xt]; omega),Xs (by omega)]; simp
theorem Nz {n:Nat} {k:Int} {a:List Int} (ha:RowOk n a):RowOk n (Xt k a):=⟨by simp [Xt,ha.len],λj=>by rw [V7]; omega⟩
def tt {α:Type} (f:α->Int):List α->Int
 | []=>0
 | a::l=>f a+tt f l
theorem Si {α:Type} {f:α->Int}:∀ {l:List α}, (∀ a,a∈l->f a=0)->tt f l=0
 | [],_=>rfl
 | a::l,h=>by simp only [tt]; rw [h a (by simp),Si λb hb=>h b (by simp [hb])]; rfl
theorem Qh {α:Type} {f:α->Int}:∀ {l:List α}, (∀ a,a∈l->f a % 10007=0)->tt f l % 10007=0
 | [],_=>rfl
 | a :: l, h => by
  have A:=h a (by simp)
  have B:=Qh (f:=f) (l:=l) λb hb=>h b (by simp [hb])
  simp only [tt]; omega
theorem N0 {α:Type} {f g e:α->Int} (k:Int):∀ {l:List α}, (∀ a,a∈l->e a % 10007=(f a+k * g a) % 10007)->tt e l % 10007=(tt f l+k * tt g l) % 10007
 | [],_=>by simp [tt]
 | a :: l, h => by
  have A:=h a (by simp)
  have B:=N0 (f:=f) (g:=g) (e:=e) k (l:=l) λb hb=>h b (by simp [hb])
  simp only [tt,Int.mul_add];generalize k * g a=x at *
  generalize k * tt g l=y at *
  omega
structure Rref (n:Nat) (out:List (List Int)):Prop where
 ok:∀ a,a∈out->RowOk n a/\vec a (ld a)=1
 pw:out.Pairwise (λa b=>ld a < ld b/\vec a (ld b)=0)
def gens (rows:List (List Int)):Vec->Prop:=λv=>∃ a,a∈rows/\v=vec a
theorem Yy {rows:List (List Int)} {a:List Int} (h:a∈rows):Sp (gens rows) (vec a):=.gen ⟨a,h,rfl⟩
def SpEq (a b:List (List Int)):Prop:=∀ u,Sp (gens a) u↔Sp (gens b) u
theorem SpEq.refl (a:List (List Int)):SpEq a a:=λ_=>Iff.rfl
theorem SpEq.symm {a b:List (List Int)} (h:SpEq a b):SpEq b a:=λu=>(h u).symm
theorem SpEq.trans {a b c:List (List Int)} (h:SpEq a b) (h':SpEq b c):SpEq a c:=λu=>(h u).trans (h' u)
theorem Ls {a b:List (List Int)} (h:∀ x,x∈a->Sp (gens b) (vec x)) (A:∀ x,x∈b->Sp (gens a) (vec x)):SpEq a b:=λu =>
 ⟨Sp.mono λr ⟨x,hx,e⟩=>e ▸ h x hx,Sp.mono λr ⟨x,hx,e⟩=>e ▸ A x hx⟩
theorem Zea {q:Nat}:∀ {out:List (List Int)}, (∀ a,a∈out->vec a (ld a)=1)->out.Pairwise (λa b=>ld a < ld b/\vec a (ld b)=0)->∀ a,a∈out->tt (λz=>vec a (ld z) * vec z q) out=vec a q
 | [],_,_,a,ha=>by simp at ha
 | I :: l, h, hp, a, ha => by
  obtain ⟨A,B⟩:=Cl.1 hp;simp only [tt];rcases Cb.1 ha with rfl | ha
  ·rw [h a (by simp),Si λz hz=>by rw [(A z hz).2,Int.zero_mul]]; omega
  ·rw [Jd (A a ha).1,Int.zero_mul,F3];exact Zea (λb hb=>h b (by simp [hb])) B a ha
theorem Rref.comb {n:Nat} {out:List (List Int)} (h:Rref n out) {u:Vec} (hu:Sp (gens out) u) (q:Nat):u q % 10007=tt (λz=>u (ld z) * vec z q) out % 10007:=by
 induction hu with
 | zero z=>rw [z,Qh λa ha=>by rw [Ct,z]; simp]
 | @add r v u k hr hv e ih =>
  obtain ⟨a,ha,rfl⟩:=hr;rw [e,Gx k ih (b:=tt (λz=>v (ld z) * vec z q) out) (d:=tt (λz=>vec a (ld z) * vec z q) out) (by rw [Zea (λb hb=>(h.ok b hb).2) h.pw a ha])]
  refine(N0 k λz hz=>?_).symm
  rw [Ct,e,<- Ct,Int.add_mul,Fp]
theorem Rref.leads {n:Nat} {out:List (List Int)} (h:Rref n out) {u:Vec} (hu:Sp (gens out) u) {q:Nat} (A:∀ j,j < q->u j % 10007=0) (B:u q % 10007≠0):∃ z,z∈out/\ld z=q:=by
 refine Classical.byContradiction λno=>B ?_
 rw [h.comb hu];refine Qh λz hz=>?_
 rcases Zwj (ld z) q with c | c | c
 ·rw [Ct,A _ c]; simp
 ·exact absurd ⟨z,hz,c⟩ no
 ·rw [Jd c]; simp
theorem Rref.sep {n:Nat} {out:List (List Int)} (h:Rref n out):∀ {y z:List Int}, y∈out->z∈out->(y=z\/(ld y≠ld z/\vec z (ld y)=0)):=by
 have hp:=h.pw;clear h
 induction out with
 | nil=>intro y z hy; simp at hy
 | cons x l ih =>
  obtain ⟨A,B⟩:=Cl.1 hp;intro y z hy hz;rcases Cb.1 hy with ey | hy'
  ·rcases Cb.1 hz with ez | hz'
   ·exact .inl (ey.trans ez.symm)
   ·have:=(A z hz').1; rw [ey]; exact .inr ⟨by omega,Jd this⟩
  ·rcases Cb.1 hz with ez | hz'
   ·have:=A y hy'; rw [ez]; exact .inr ⟨by omega,this.2⟩
   ·exact ih B hy' hz'
theorem Zeb {α:Type} {R:α->α->Prop} (A:∀ a b,R a b->¬ R b a):∀ {a b:List α}, a.Pairwise R->b.Pairwise R->(∀ x,x∈a↔x∈b)->a=b
 | [],[],_,_,_=>rfl
 | [],y::b,_,_,h=>absurd ((h y).2 (by simp)) (by simp)
 | x::a,[],_,_,h=>absurd ((h x).1 (by simp)) (by simp)
 | x :: a, y :: b, ha, hb, h => by
  obtain ⟨B,I⟩:=Cl.1 ha;obtain ⟨b1,b2⟩:=Cl.1 hb
  have e:x=y:=by
   rcases Cb.1 ((h x).1 (by simp)) with q | q
   ·exact q
   ·rcases Cb.1 ((h y).2 (by simp)) with q' | q'
    ·exact q'.symm
    ·exact absurd (B y q') (A _ _ (b1 x q))
  subst e;have irr:∀ z,¬ R z z:=λz hz=>A z z hz hz
  rw [Zeb A I b2 λz=>⟨λhz=>?_,λhz=>?_⟩]
  ·rcases Cb.1 ((h z).1 (by simp [hz])) with q | q
   ·subst q; exact absurd (B z hz) (irr z)
   ·exact q
  ·rcases Cb.1 ((h z).2 (by simp [hz])) with q | q
   ·subst q; exact absurd (b1 z hz) (irr z)
   ·exact q
theorem Zec {p:Nat->Prop} [DecidablePred p]:∀ {n:Nat}, p n->∃ m,p m/\∀ j,j < m->¬ p j:=by
 intro n
 induction n using Nat.strongRecOn with
 | _ n ih =>
  intro hn;by_cases h:∃ j,j < n/\p j
  ·obtain ⟨j,hj,pj⟩:=h; exact ih j hj pj
  ·exact⟨n,hn,λj hj pj=>h ⟨j,hj,pj⟩⟩
theorem Rref.in_of {n:Nat} {a b:List (List Int)} (ha:Rref n a) (hb:Rref n b) (h:SpEq a b) {x:List Int} (hx:x∈a):x∈b:=by
 have lead:∀ {a b:List (List Int)}, Rref n a->Rref n b->SpEq a b->∀ x,x∈a->∃ z,z∈b/\ld z=ld x:=λha hb h x hx =>
  hb.leads ((h _).1 (Yy hx)) (λj hj=>by rw [Jd hj]; rfl) (by rw [(ha.ok x hx).2]; decide)
 obtain ⟨z,hz,ez⟩:=lead ha hb h x hx
 have:x=z:=by
  refine(ha.ok x hx).1.ext (hb.ok z hz).1 λj=>?_
  refine Zxb λnj=>?_
  have hd:Sp (gens b) (λj=>vec x j - vec z j):=Sp.sum (-1) ((h _).1 (Yy hx)) (Yy hz) λj=>by congr 1; omega
  have nj':(vec x j - vec z j) % 10007≠0:=by omega
  obtain ⟨q,A,B⟩:=Zec (p:=λj=>(vec x j - vec z j) % 10007≠0) nj'
  obtain ⟨y,hy,ey⟩:=hb.leads hd (q:=q) (λj hj=>Zxc.1 (B j hj)) A
  refine A ?_
  rw [<- ey]
  rcases hb.sep hy hz with e | ⟨O,I⟩
  ·subst e;rw [(hb.ok y hy).2,ez,(ha.ok x hx).2]; rfl
  ·obtain ⟨y',hy',ey'⟩:=lead hb ha h.symm y hy;rcases ha.sep hy' hx with e | ⟨_,L⟩
   ·subst e; omega
   ·rw [I,<- ey',L]; rfl
 rw [this]; exact hz
theorem Rref.unique {n:Nat} {a b:List (List Int)} (ha:Rref n a) (hb:Rref n b) (h:SpEq a b):a=b :=
 Zeb (R:=λa b=>ld a < ld b/\vec a (ld b)=0) (λa b A B=>by omega) ha.pw hb.pw λx=>⟨ha.in_of hb h,hb.in_of ha h.symm⟩
structure IsRref (n:Nat) (rows out:List (List Int)):Prop where
 red:Rref n out
 sp:SpEq rows out
theorem IsRref.unique {n:Nat} {rows a b:List (List Int)} (ha:IsRref n rows a) (hb:IsRref n rows b):a=b:=ha.red.unique hb.red (ha.sp.symm.trans hb.sp)
theorem Rref.nil (n:Nat):Rref n []:=⟨by simp,.nil⟩
theorem Qi {n:Nat} {a:List Int} (h:RowOk n a/\vec a (ld a)=1):ld a < n:=by
 have:=Gy (a:=a) (k:=ld a) (by rw [h.2]; decide)
 rw [h.1.len] at this; exact this
structure Elim (n:Nat) (row z f:List Int):Prop where
 ok:RowOk n f
 ldq:Vc.ld f=Vc.ld z
 one:vec f (Vc.ld z)=1
 at0:vec f (Vc.ld row)=0
 oth:∀ q,vec row q=0->vec f q=vec z q
theorem elim {n:Nat} {row z:List Int} (hr:RowOk n row) (A:vec row (ld row)=1) (hz:RowOk n z) (h:vec z (ld z)=1) (B:vec row (ld z)=0):Elim n row z (subR (vec z (ld row)) z row):=by
 have hl:=hz.len.trans hr.len.symm;have oth:∀ q,vec row q=0->vec (subR (vec z (ld row)) z row) q=vec z q:=λq hq=>by rw [Vm hl,hq,Int.mul_zero,Int.sub_zero,hz.mod]
 have one:vec (subR (vec z (ld row)) z row) (ld z)=1:=by rw [oth _ B,h]
 refine⟨Ny hz hr,Tp (λq hq=>?_) (by rw [one]; decide),one,by rw [Vm hl,A]; simp,oth⟩
 rcases Zwj q (ld row) with c | c | c
 ·rw [oth _ (Jd c),Jd hq]
 ·have:vec z (ld row)=0:=by rw [<- c]; exact Jd hq
  rw [this,G0 hz hr,Jd hq]
 ·have:vec z (ld row)=0:=Jd (by omega)
  rw [this,G0 hz hr,Jd hq]
theorem Rref.insert {n:Nat} {A B:List (List Int)} {row:List Int} (h:Rref n (A++B)) (hr:RowOk n row) (U:vec row (ld row)=1) (O:∀ z,z∈A++B->vec row (ld z)=0) (hb:∀ z,z∈A->ld z < ld row) (ha:∀ z,z∈B->ld row < ld z) :
  Rref n (A.map (λz=>subR (vec z (ld row)) z row)++row::B.map (λz=>subR (vec z (ld row)) z row)):=by
 have he:∀ z,z∈A++B->Elim n row z (subR (vec z (ld row)) z row):=λz hz=>elim hr U (h.ok z hz).1 (h.ok z hz).2 (O z hz)
 have I:∀ {z}, z∈A->z∈A++B:=λq=>Cv _ q
 have L:∀ {z}, z∈B->z∈A++B:=λq=>Cu _ q
 obtain ⟨p1,p2,V⟩:=Zwk.1 h.pw
 have keep:∀ {y z}, y∈A++B->z∈A++B->(ld y < ld z/\vec y (ld z)=0)->(ld (subR (vec y (ld row)) y row) < ld (subR (vec z (ld row)) z row)/\vec (subR (vec y (ld row)) y row) (ld (subR (vec z (ld row)) z row))=0):=λ{y z} hy hz q=>by
  rw [(he y hy).ldq,(he z hz).ldq,(he y hy).oth _ (O z hz)]; exact q
 refine⟨λa ha'=>?_,Zwk.2 ⟨?_,Cl.2 ⟨?_,?_⟩,?_⟩⟩
 ·have fin:∀ z,z∈A++B->RowOk n (subR (vec z (ld row)) z row)/\vec (subR (vec z (ld row)) z row) (ld (subR (vec z (ld row)) z row))=1:=λz hz=>⟨(he z hz).ok,by rw [(he z hz).ldq]; exact(he z hz).one⟩
  rcases Ch.1 ha' with q | q
  ·obtain ⟨z,hz,rfl⟩:=Cp.1 q; exact fin z (I hz)
  ·rcases Cb.1 q with rfl | q
   ·exact⟨hr,U⟩
   ·obtain ⟨z,hz,rfl⟩:=Cp.1 q; exact fin z (L hz)
 ·exact List.pairwise_map.2 (p1.imp_of_mem λha hb q=>keep (I ha) (I hb) q)
 ·intro f hf;obtain ⟨z,hz,rfl⟩:=Cp.1 hf;rw [(he z (L hz)).ldq];exact⟨ha z hz,O z (L hz)⟩
 ·exact List.pairwise_map.2 (p2.imp_of_mem λha hb q=>keep (L ha) (L hb) q)
 ·intro f hf g hg;obtain ⟨y,hy,rfl⟩:=Cp.1 hf;rcases Cb.1 hg with rfl | hg
  ·rw [(he y (I hy)).ldq]; exact⟨hb y hy,(he y (I hy)).at0⟩
  ·obtain ⟨z,hz,rfl⟩:=Cp.1 hg;exact keep (I hy) (L hz) (V y hy z hz)
theorem Zed {S:Vec->Prop} {k:Int} {a b:List Int} (h:a.length=b.length) (ha:Sp S (vec a)) (hb:Sp S (vec b)):Sp S (vec (subR k a b)) :=
 Sp.sum (-k) ha hb λj=>by rw [Vm h,F4,Int.neg_mul]; congr 1
theorem Zee {S:Vec->Prop} {k:Int} {a b:List Int} (h:a.length=b.length) (ha:Sp S (vec (subR k a b))) (hb:Sp S (vec b)):Sp S (vec a) :=
 Sp.sum k ha hb λj=>by
  rw [Vm h];generalize k * vec b j=x;omega
def at_ (w:List (List Int)) (i:Nat):List Int:=w.getD i []
theorem Tq {w:List (List Int)} {i:Nat} (h:i < w.length):at_ w i=w[i]:=by simp [at_,Co,h]
theorem Wx {w:List (List Int)} {i:Nat} (h:i < w.length):at_ w i∈w:=by rw [Tq h]; exact C4 h
theorem N1 {w:List (List Int)} {a:List Int} (h:a∈w):∃ i,i < w.length/\at_ w i=a:=by
 obtain ⟨i,hi,e⟩:=Cw h;exact⟨i,hi,by rw [Tq hi,e]⟩
theorem N2 {w:List (List Int)} {d:Nat} (hd:d < w.length) (x:List Int) (i:Nat):at_ (w.set d x) i=if i=d then x else at_ w i:=by
 unfold at_;simp only [Co];by_cases e:i=d
 ·subst e; rw [if_pos rfl,List.getElem?_set_self hd]; rfl
 ·rw [if_neg e,List.getElem?_set_ne (λz=>e z.symm)]
theorem Lt {w:List (List Int)} {d i:Nat} (h:i < d):at_ (w.take d) i=at_ w i:=by
 unfold at_; simp only [Co]; rw [List.getElem?_take,if_pos h]
theorem B7 {a b:List (List Int)} (h:∀ i,i < a.length->Sp (gens b) (vec (at_ a i))) (A:∀ i,i < b.length->Sp (gens a) (vec (at_ b i))):SpEq a b :=
 Ls (λx hx=>by obtain ⟨i,hi,rfl⟩:=N1 hx; exact h i hi) (λx hx=>by obtain ⟨i,hi,rfl⟩:=N1 hx; exact A i hi)
structure Inv (n:Nat) (rows work:List (List Int)) (d c:Nat):Prop where
 ok:∀ i,i < work.length->RowOk n (at_ work i)
 sp:SpEq rows work
 dl:d<=work.length
 piv:∀ i,i < d->ld (at_ work i) < c/\vec (at_ work i) (ld (at_ work i))=1
 clr:∀ i j,i < d->j < work.length->i≠j->vec (at_ work j) (ld (at_ work i))=0
 inc:∀ i j,i < j->j < d->ld (at_ work i) < ld (at_ work j)
 rest:∀ i q,d<=i->i < work.length->q < c->vec (at_ work i) q=0
theorem Inv.start {n:Nat} {rows:List (List Int)} (h:∀ a,a∈rows->RowOk n a):Inv n rows rows 0 0 :=
 ⟨λi hi=>h _ (Wx hi),SpEq.refl _,Fq _,λi hi=>absurd hi (by omega),λi j hi=>absurd hi (by omega),λi j _ hj=>absurd hj (by omega),λi q _ _ hq=>absurd hq (by omega)⟩
theorem Inv.skip {n:Nat} {rows work:List (List Int)} {d c:Nat} (h:Inv n rows work d c) (hz:∀ i,d<=i->i < work.length->vec (at_ work i) c=0):Inv n rows work d (c+1) :=
 ⟨h.ok,h.sp,h.dl,λi hi=>⟨Zwl (h.piv i hi).1,(h.piv i hi).2⟩,h.clr,h.inc,λi q A B hq=>by
  rcases Fb q c with g | g
  ·exact h.rest i q A B g
  ·obtain rfl:q=c:=by omega
   exact hz i A B⟩
def W7 (l:List (List Int)) (i j:Nat):List (List Int):=(l.set i (at_ l j)).set j (at_ l i)
theorem G1 {l:List (List Int)} {d p:Nat} (hd:d < l.length) (hp:p < l.length) (i:Nat):at_ (W7 l d p) i=if i=p then at_ l d else if i=d then at_ l p else at_ l i:=by
 unfold W7;rw [N2 (by simpa using hp)]
 split
 ·rfl
 ·rw [N2 hd]
theorem Lu {l:List (List Int)} {d p:Nat}:(W7 l d p).length=l.length:=by simp [W7]
structure Swept (d c:Nat) (w w3:List (List Int)):Prop where
 len:w3.length=w.length
 row:∀ j,j < w.length->at_ w3 j=if j=d then at_ w d else subR (vec (at_ w j) c) (at_ w j) (at_ w d)
theorem Inv.step {n:Nat} {rows work w3:List (List Int)} {d c p:Nat} {by_:Int} (h:Inv n rows work d c) (hdp:d<=p) (hp:p < work.length)
  (hby:vec (at_ work p) c * by_ % 10007=1) (hs:Swept d c ((W7 work d p).set d (Xt by_ (at_ (W7 work d p) d))) w3):Inv n rows w3 (d+1) (c+1):=by
 have hd:d < work.length:=by omega
 have ab:d < (W7 work d p).length:=by rw [Lu]; exact hd
 generalize V:(W7 work d p).set d (Xt by_ (at_ (W7 work d p) d))=A at hs
 have l2:A.length=work.length:=by rw [<- V,List.length_set,Lu]
 have U:w3.length=work.length:=by rw [hs.len,l2]
 have e1:at_ (W7 work d p) d=at_ work p:=by
  rw [G1 hd hp];by_cases q:d=p
  ·subst q; rw [if_pos rfl]
  ·rw [if_neg q,if_pos rfl]
 have I:∀ i,at_ A i=if i=d then Xt by_ (at_ work p) else if i=p then at_ work d else at_ work i:=λi=>by
  rw [<- V,N2 ab,e1,G1 hd hp]
  by_cases q:i=d
  ·rw [if_pos q,if_pos q]
  ·rw [if_neg q,if_neg q];by_cases L:i=p
   ·rw [if_pos L,if_neg q]
   ·rw [if_neg L,if_neg q]
 have hr:at_ A d=Xt by_ (at_ work p):=by rw [I,if_pos rfl]
 have rok:RowOk n (at_ A d):=by rw [hr]; exact Nz (h.ok p hp)
 have rc:vec (at_ A d) c=1:=by rw [hr,V7,hby]
 have rl:∀ q,q < c->vec (at_ A d) q=0:=λq hq=>by rw [hr,V7,h.rest p q hdp hp hq]; simp
 have rld:ld (at_ A d)=c:=Tp rl (by rw [rc]; decide)
 have O:∀ i,i < work.length->RowOk n (at_ A i):=λi hi=>by
  rw [I]; split
  ·exact Nz (h.ok p hp)
  ·split
   ·exact h.ok d hd
   ·exact h.ok i hi
 have a3:∀ j,j < work.length->at_ w3 j=if j=d then at_ A d else subR (vec (at_ A j) c) (at_ A j) (at_ A d):=λj hj=>hs.row j (by omega)
 have a3d:at_ w3 d=at_ A d:=by rw [a3 d hd,if_pos rfl]
 have a3n:∀ j,j < work.length->j≠d->at_ w3 j=subR (vec (at_ A j) c) (at_ A j) (at_ A d):=λj hj hn=>by rw [a3 j hj,if_neg hn]
 have B:∀ j,j < work.length->(at_ A j).length=(at_ A d).length:=λj hj=>(O j hj).len.trans rok.len.symm
 -- a row at which the row d has nothing keeps its number
 have keep:∀ j q,j < work.length->j≠d->vec (at_ A d) q=0->vec (at_ w3 j) q=vec (at_ A j) q:=λj q hj hn hq=>by
  rw [a3n j hj hn,Vm (B j hj),hq,Int.mul_zero,Int.sub_zero,(O j hj).mod]
 have atc:∀ j,j < work.length->j≠d->vec (at_ w3 j) c=0:=λj hj hn=>by rw [a3n j hj hn,Vm (B j hj),rc]; simp
 have aa:∀ i,i < d->at_ A i=at_ work i:=λi hi=>by rw [I,if_neg (by omega),if_neg (by omega)]
 have el:∀ i,i < d->Elim n (at_ A d) (at_ work i) (at_ w3 i):=λi hi=>by
  have hi':i < work.length:=by omega
  have hpv:=h.piv i hi;have:=elim rok (by rw [rld,rc]) (h.ok i hi') hpv.2 (rl _ hpv.1)
  rw [rld] at this
  rw [a3n i hi' (by omega),aa i hi]; exact this
 have ldi:∀ i,i < d->ld (at_ w3 i)=ld (at_ work i):=λi hi=>(el i hi).ldq
 refine⟨λi hi=>?_,h.sp.trans ?_,by omega,λi hi=>?_,λi j hi hj hij=>?_,λi j hij hj=>?_,λi q hi hil hq=>?_⟩
 ·rw [U] at hi
  rw [a3 i hi]; split
  ·exact rok
  ·exact Ny (O i hi) rok
 ·have s1:SpEq work A:=by
   refine B7 (λi hi=>?_) (λi hi=>?_)
   ·have back:Sp (gens A) (vec (at_ work p)):=by
     refine Sp.sum (vec (at_ work p) c) (Sp.nil _) (Yy (Wx (w:=A) (i:=d) (by omega))) λj=>?_
     rw [hr,V7,F3,Ct,F4,<- Ct]
     have:vec (at_ work p) c * (vec (at_ work p) j * by_)=vec (at_ work p) j * (vec (at_ work p) c * by_):=by
      rw [<- Fp,Zvy (vec (at_ work p) c),Fp]
     rw [this,Ct,hby]; simp
    by_cases q:i=p
    ·rw [q]; exact back
    ·by_cases L:i=d
     ·have:at_ work i=at_ A p:=by rw [I,if_neg (by omega),if_pos rfl,L]
      rw [this]; exact Yy (Wx (by omega))
     ·have:at_ work i=at_ A i:=by rw [I,if_neg L,if_neg q]
      rw [this]; exact Yy (Wx (by omega))
   ·rw [l2] at hi
    rw [I]; split
    ·refine Sp.sum by_ (Sp.nil _) (Yy (Wx hp)) λj=>?_
     rw [V7,F4,F3,Zvy]
    ·split
     ·exact Yy (Wx hd)
     ·exact Yy (Wx hi)
  have s2:SpEq A w3:=by
   have g3:Sp (gens w3) (vec (at_ A d)):=by rw [<- a3d]; exact Yy (Wx (by omega))
   have g2:Sp (gens A) (vec (at_ A d)):=Yy (Wx (by omega))
   refine B7 (λi hi=>?_) (λi hi=>?_)
   ·rw [l2] at hi
    by_cases q:i=d
    ·rw [q]; exact g3
    ·refine Zee (k:=vec (at_ A i) c) (B i hi) ?_ g3
     rw [<- a3n i hi q]; exact Yy (Wx (by omega))
   ·rw [U] at hi
    by_cases q:i=d
    ·rw [q,a3d]; exact g2
    ·rw [a3n i hi q];exact Zed (B i hi) (Yy (Wx (by omega))) g2
  exact s1.trans s2
 ·by_cases q:i=d
  ·rw [q,a3d,rld]; exact⟨by omega,rc⟩
  ·have hi':i < d:=by omega
   rw [ldi i hi'];exact⟨Zwl (h.piv i hi').1,(el i hi').one⟩
 ·rw [U] at hj
  by_cases q:i=d
  ·subst q; rw [a3d,rld]; exact atc j hj (λz=>hij z.symm)
  ·have hi':i < d:=by omega
   rw [ldi i hi'];have hpv:=h.piv i hi';by_cases qj:j=d
   ·rw [qj,a3d]; exact rl _ hpv.1
   ·rw [keep j _ hj qj (rl _ hpv.1),I,if_neg qj];split
    ·exact h.clr i d hi' hd (by omega)
    ·exact h.clr i j hi' hj hij
 ·by_cases q:j=d
  ·have hi':i < d:=by omega
   rw [q,a3d,rld,ldi i hi']; exact(h.piv i hi').1
  ·rw [ldi i (by omega),ldi j (by omega)]; exact h.inc i j hij (by omega)
 ·rw [U] at hil
  have qd:i≠d:=by omega
  by_cases qc:q=c
  ·rw [qc]; exact atc i hil qd
  ·rw [keep i q hil qd (rl q (by omega)),I,if_neg qd]
   split
   ·exact h.rest d q (Cg _) hd (by omega)
   ·exact h.rest i q (by omega) hil (by omega)
theorem Inv.fin {n:Nat} {rows work:List (List Int)} {d c:Nat} (h:Inv n rows work d c) (he:d=work.length\/n<=c):IsRref n rows (work.take d):=by
 have hd:=h.dl;have lt:(work.take d).length=d:=by rw [List.length_take]; omega
 refine⟨⟨λa ha=>?_,?_⟩,h.sp.trans (B7 (λi hi=>?_) (λi hi=>?_))⟩
 ·obtain ⟨i,hi,rfl⟩:=N1 ha;rw [Lt (by omega)]
  exact⟨h.ok i (by omega),(h.piv i (by omega)).2⟩
 ·rw [Cq];intro i j hi hj hij;rw [<- Tq hi,<- Tq hj,Lt (by omega),Lt (by omega)]
  exact⟨h.inc i j hij (by omega),h.clr j i (by omega) (by omega) (by omega)⟩
 ·by_cases q:i < d
  ·rw [<- Lt q]; exact Yy (Wx (by omega))
  ·refine .zero λj=>?_
   rcases he with e | e
   ·omega
   ·rcases Fb j n with g | g
    ·rw [h.rest i j (by omega) hi (by omega)]; rfl
    ·rw [Xs (by rw [(h.ok i hi).len]; exact g)]; rfl
 ·rw [Lt (by omega)]; exact Yy (Wx (by omega))
theorem Rref.split_at {n:Nat} {out:List (List Int)} (h:Rref n out) (k:Nat):∃ A B,out=A++B/\(∀ z,z∈A->ld z < k)/\∀ z,z∈B->k<=ld z:=by
 have hp:=h.pw;clear h
 induction out with
 | nil=>exact⟨[],[],rfl,by simp,by simp⟩
 | cons x l ih =>
  obtain ⟨I,L⟩:=Cl.1 hp;by_cases q:ld x < k
  ·obtain ⟨A,B,e,O,U⟩:=ih L
   exact⟨x::A,B,by rw [e]; rfl,λz hz=>by
    rcases Cb.1 hz with rfl | hz
    ·exact q
    ·exact O z hz,U⟩
  ·exact⟨[],x::l,rfl,by simp,λz hz=>by
    rcases Cb.1 hz with rfl | hz
    ·omega
    ·have:=(I z hz).1; omega⟩
structure IsBy (n:Nat) (out:List (List Int)) (row r:List Int):Prop where
 ok:RowOk n r
 clr:∀ z,z∈out->vec r (ld z)=0
 df:Sp (gens out) (λj=>vec row j - vec r j)
theorem IsBy.nil {n:Nat} {row:List Int} (h:RowOk n row):IsBy n [] row row:=⟨h,by simp,.zero λj=>by simp⟩
theorem IsBy.step {n:Nat} {A I:List (List Int)} {z row r:List Int} (B:Rref n (A++z::I)) (h:IsBy n A row r):IsBy n (A++[z]) row (subR (vec r (ld z)) r z):=by
 have hz:=B.ok z (by simp)
 have hl:=h.ok.len.trans hz.1.len.symm;obtain ⟨_,_,L⟩:=Zwk.1 B.pw;refine⟨Ny h.ok hz.1,λy hy=>?_,Sp.sum (vec r (ld z)) (h.df.mono λv ⟨x,hx,e⟩=>.gen ⟨x,by simp [hx],e⟩) (Yy (a:=z) (by simp)) λj=>?_⟩
 ·rw [Vm hl];rcases Ch.1 hy with hy | hy
  ·rw [h.clr y hy,Jd (L y hy z (by simp)).1]; simp
  ·obtain rfl:=Fc.1 hy;rw [hz.2]; simp
 ·rw [Vm hl];generalize vec r (ld z) * vec z j=x;omega
theorem IsBy.same {n:Nat} {A I:List (List Int)} {z row r:List Int} (B:Rref n (A++z::I)) (h:IsBy n A row r) (L:vec r (ld z)=0):IsBy n (A++[z]) row r:=by
 have:=h.step B;rwa [L,G0 h.ok (B.ok z (by simp)).1] at this
theorem IsBy.unique {n:Nat} {out:List (List Int)} {row a b:List Int} (A:Rref n out) (ha:IsBy n out row a) (hb:IsBy n out row b):a=b:=by
 refine ha.ok.ext hb.ok λj=>?_
 refine Zxb λnj=>?_
 have hd:Sp (gens out) (λj=>vec a j - vec b j):=Sp.sum (-1) hb.df ha.df λj=>by congr 1; omega
 have nj':(vec a j - vec b j) % 10007≠0:=by omega
 obtain ⟨q,h,B⟩:=Zec (p:=λj=>(vec a j - vec b j) % 10007≠0) nj'
 obtain ⟨y,hy,ey⟩:=A.leads hd (q:=q) (λj hj=>Zxc.1 (B j hj)) h
 refine h ?_
 rw [<- ey,ha.clr y hy,hb.clr y hy]; rfl
theorem IsRref.zero (n:Nat):IsRref n [] []:=⟨Rref.nil n,SpEq.refl _⟩
theorem Lv {S:Vec->Prop} {a b:Vec} (hd:Sp S (λj=>a j - b j)):Sp S a↔Sp S b :=
 ⟨λh=>Sp.sum (-1) h hd λj=>by congr 1; omega,λh=>Sp.sum 1 h hd λj=>by congr 1; omega⟩
theorem IsRref.put0 {n:Nat} {rows out:List (List Int)} {row r:List Int} (h:IsRref n rows out) (hb:IsBy n out row r) (A:∀ j,vec r j=0):IsRref n (rows++[row]) out:=by
 refine⟨h.red,Ls (λx hx=>?_) (λx hx=>?_)⟩
 ·rcases Ch.1 hx with hx | hx
  ·exact(h.sp _).1 (Yy hx)
  ·obtain rfl:=Fc.1 hx;exact(Lv hb.df).2 (.zero λj=>by rw [A]; rfl)
 ·exact((h.sp _).2 (Yy hx)).mono λv ⟨y,hy,e⟩=>.gen ⟨y,by simp [hy],e⟩
theorem IsRref.put {n:Nat} {rows A B:List (List Int)} {row r:List Int} {k:Int} (h:IsRref n rows (A++B)) (hb:IsBy n (A++B) row r) (hk:vec r (ld r) * k % 10007=1) (U:∀ z,z∈A->ld z < ld r) (V:∀ z,z∈B->ld r<=ld z) :
  IsRref n (rows++[row]) (A.map (λz=>subR (vec z (ld r)) z (Xt k r))++Xt k r::B.map (λz=>subR (vec z (ld r)) z (Xt k r))):=by
 have rok:RowOk n (Xt k r):=Nz hb.ok;have I:vec (Xt k r) (ld r)=1:=by rw [V7,hk]
 have rl:ld (Xt k r)=ld r:=Tp (λq hq=>by rw [V7,Jd hq]; simp) (by rw [I]; decide)
 have rz:∀ z,z∈A++B->vec (Xt k r) (ld z)=0:=λz hz=>by rw [V7,hb.clr z hz]; simp
 have n0:vec r (ld r)≠0:=λz=>by rw [z] at hk; simp at hk
 have ins:=h.red.insert rok (by rw [rl]; exact I) rz (λz hz=>by rw [rl]; exact U z hz) (λz hz=>by
  rw [rl];have:=V z hz;have:=hb.clr z (Cu _ hz);rcases Fb (ld r) (ld z) with g | g
  ·exact g
  ·rw [show ld z=ld r by omega] at this; exact absurd this n0)
 rw [rl] at ins
 refine⟨ins,Ls (λx hx=>?_) (λx hx=>?_)⟩
 ·generalize L:A.map (λz=>subR (vec z (ld r)) z (Xt k r))++Xt k r::B.map (λz=>subR (vec z (ld r)) z (Xt k r))=T at *
  have gr:Sp (gens T) (vec (Xt k r)):=Yy (by rw [<- L]; simp)
  have gz:∀ z,z∈A++B->Sp (gens T) (vec z):=λz hz=>by
   refine Zee (k:=vec z (ld r)) ((h.red.ok z hz).1.len.trans rok.len.symm) (Yy ?_) gr
   rw [<- L]
   rcases Ch.1 hz with q | q
   ·exact Cv _ (Cp.2 ⟨z,q,rfl⟩)
   ·exact Cu _ (List.mem_cons_of_mem _ (Cp.2 ⟨z,q,rfl⟩))
  have up:∀ {v}, Sp (gens (A++B)) v->Sp (gens T) v:=λq=>q.mono λv ⟨y,hy,e⟩=>e ▸ gz y hy
  rcases Ch.1 hx with hx | hx
  ·exact up ((h.sp _).1 (Yy hx))
  ·obtain rfl:=Fc.1 hx;refine(Lv (up hb.df)).2 (Sp.sum (vec r (ld r)) (Sp.nil _) gr λj=>?_)
   rw [V7,F3,Ct,F4,<- Ct]
   have:vec r (ld r) * (vec r j * k)=vec r j * (vec r (ld r) * k):=by
    rw [<- Fp,Zvy (vec r (ld r)),Fp]
   rw [this,Ct,hk]; simp
 ·generalize O:rows++[row]=R;have up:∀ {v}, Sp (gens rows) v->Sp (gens R) v:=λq=>q.mono λv ⟨y,hy,e⟩=>.gen ⟨y,by rw [<- O]; simp [hy],e⟩
  have gz:∀ z,z∈A++B->Sp (gens R) (vec z):=λz hz=>up ((h.sp _).2 (Yy hz))
  have grow:Sp (gens R) (vec r):=by
   refine(Lv (hb.df.mono λv ⟨y,hy,e⟩=>e ▸ gz y hy)).1 (Yy (by rw [<- O]; simp))
  have gr:Sp (gens R) (vec (Xt k r)):=Sp.sum k (Sp.nil _) grow λj=>by rw [V7,F4,F3,Zvy]
  have fin:∀ z,z∈A++B->Sp (gens R) (vec (subR (vec z (ld r)) z (Xt k r))):=λz hz=>Zed ((h.red.ok z hz).1.len.trans rok.len.symm) (gz z hz) gr
  rcases Ch.1 hx with q | q
  ·obtain ⟨z,hz,rfl⟩:=Cp.1 q; exact fin z (Cv _ hz)
  ·rcases Cb.1 q with rfl | q
   ·exact gr
   ·obtain ⟨z,hz,rfl⟩:=Cp.1 q; exact fin z (Cu _ hz)
open Go
theorem Zka {α:Type} (q:Ask α):∀ w:World,w.drawn<=(w.ask q).2.drawn:=by
 induction q with
 | done a=>intro w; exact Cg _
 | ask what range k ih =>
  intro w;simp only [World.ask];split
  ·exact ih _ _
  ·exact Cj (F5 _) (ih _ { w with drawn:=w.drawn+1 })
theorem Zkb (w:World) (c:Sys):w.drawn<=(w.sys c).2.drawn:=by
 unfold World.sys;have:=Zka (Kernel.perform c w.os) w;split
 ·exact Cg _
 ·rename_i r os A _ h;rw [h] at this
  exact this
theorem Zkc {P:Program} {w A:World} {a:Addr} {v:Value} {b:Bool} {l:List Addr} (h:w.farStore P a v b=.ok (A,l)):A.drawn=w.drawn:=by
 unfold World.farStore at h
 split at h
 ·split at h
  ·rename_i r hr
   injection h with h
   subst h;unfold World.viewStore at hr
   simp only [bind,Except.bind,pure,Except.pure] at hr
   repeat' (first | (cases hr; done) | split at hr)
   all_goals (injection hr with hr; injection hr with hr; rw [<- hr])
  ·cases h
 ·cases h
theorem Vy {α:Type} {P:Program} (s:Sem α):∀ (w:World) (v:α) (w':World),s.run P w=.ok v w'->w.drawn<=w'.drawn:=by
 induction s with
 | pure a=>intro w v w' h; simp [Cr] at h; obtain ⟨_,rfl⟩:=h; exact Cg _
 | load m a k ih =>
  intro w v w' h;simp only [Cr] at h
  split at h
  ·exact ih _ _ _ _ h
  ·split at h
   ·exact ih _ _ _ _ h
   ·cases h
 | store m a v k ih =>
  intro w u w' h;have key:∀ w1,k.run P w1=.ok u w'->w1.drawn=w.drawn->w.drawn<=w'.drawn:=λw1 h1 h2=>h2 ▸ ih _ _ _ h1
  have hs:(match w.cell? a with
   | some _=>if w.frozen? a then(.halt (.unsupported (.unsafePointer "a write to bytes that a string shares")) w:Result α) else k.run P (w.setCell a v)
   | none => match w.farStore P a v (m == Go.Mode.atomic) with
    | .ok (w,_)=>k.run P w
    | .error h=>.halt h w)=.ok u w':=by
   cases v <;> first | exact h | (simp [Cr] at h)
  split at hs
  ·split at hs
   ·cases hs
   ·exact key _ hs rfl
  ·split at hs
   ·rename_i hf;exact key _ hs (Zkc hf)
   ·cases hs
 | new o k ih=>intro w v w' h; have:=ih w.heap.size { w with heap:=w.heap.push o } v w' h; exact this
 | shape r k ih=>intro w v w' h; exact ih _ _ _ _ h
 | freeze a n k ih =>
  intro w v w' h;have:=ih _ _ _ h;unfold World.freeze at this
  split at this <;> exact this
 | frozen a k ih=>intro w v w' h; exact ih _ _ _ _ h
 | getObj r k ih =>
  intro w v w' h;simp only [Cr] at h
  split at h
  ·cases h
  ·exact ih _ _ _ _ h
  ·cases h
 | setObj r o k ih =>
  intro w v w' h;simp only [Cr] at h
  split at h
  ·cases h
  ·have:=ih { w with heap:=w.heap.setIfInBounds r o } v w' h
   exact this
  ·cases h
 | choose q k ih =>
  intro w v w' h;simp only [Cr] at h
  split at h
  ·exact ih _ _ _ _ h
  ·exact Cj (F5 _) (ih _ _ _ _ h)
 | sys c k ih =>
  intro w v w' h;exact Cj (Zkb w c) (ih _ _ _ _ h)
 | program k ih=>intro w v w' h; exact ih _ _ _ _ h
 | mark m k ih=>intro w v w' h; exact ih _ _ _ h
 | halt h=>intro w v w' hh; simp [Cr] at hh
abbrev Env:=Nat->Value
def upd (e:Env) (d:Nat) (v:Value):Env:=λi=>bif F6 i d then v else e i
def actOf (n:Nat) (e:Env):Act:=⟨Array.ofFn (n:=n) (λi=>e i.val),[]⟩
def ev (n:Nat) (e:Env):Operand->Value
 | .tmp t=>bif Ck t n then e t else undef
 | .const v=>v
 | .global g=>.pointer (some ⟨g,0,none⟩)
 | .func f=>.func (.func f) #[] #[]
theorem Up (n:Nat) (e:Env):(actOf n e).eval=ev n e:=by
 funext x
 cases x with
 | tmp t =>
  simp only [Act.eval,actOf,ev];by_cases h:t < n
  ·simp [Cy,h,show Ck t n=true by rw [C1]; exact h]
  ·simp [Cy,h,show Ck t n=false by
    cases hb:Ck t n with
    | false=>rfl
    | true=>rw [C1] at hb; exact absurd hb h]
 | _=>rfl
theorem Zkd {i d:Nat} (h:i≠d):F6 i d=false:=by
 cases hb:F6 i d with
 | false=>rfl
 | true=>exact absurd (Zxh hb) h
theorem Qj (n:Nat) (e:Env) (d:Nat) (v:Value):(actOf n e).put (some d) v=actOf n (upd e d v):=by
 simp only [Act.put,actOf]
 congr 1
 apply Array.ext
 ·simp
 ·intro i B h;by_cases hd:d=i
  ·subst hd; simp [upd,Nat.beq_refl]
  ·have A:i < n:=by simpa using h
   rw [Array.getElem_setIfInBounds_ne (by simpa using A) hd]
   simp [upd,Zkd (Ne.symm hd)]
theorem Zke {i d:Nat} (h:i≠d):F6 i d=false:=by
 cases hb:F6 i d with
 | false=>rfl
 | true=>exact absurd (Zxh hb) h
theorem Zkf {e:Env} {d:Nat} {v:Value} (h:e d=v):upd e d v=e:=by
 funext i; unfold upd;by_cases hi:i=d
 ·subst hi; simp [Nat.beq_refl,h]
 ·simp [Zke hi]
structure W (P:Program) (ops:Array Oper) (Q:Exit->Act->World->Prop) (l:List Oper) (n:Nat) (e:Env) (w:World):Prop where
 out:wpList P ops Q l (actOf n e) w
section
variable {P:Program} {ops:Array Oper} {Q:Exit->Act->World->Prop} {n:Nat} {e:Env} {w w':World} {rest:List Oper} {o:Oper}
theorem Y2 {d:Nat} (v:Value) (hg:o.guard=none) (hd:o.dst=some d) (hr:(execOp (ev n e) o).run P w=.ok (.value v) w')
  (h:W P ops Q rest n (upd e d v) w'):W P ops Q (o::rest) n e w:=by
 refine⟨?_⟩
 unfold wpList;rw [if_pos (by simp [Cf,hg])]
 refine .inl ?_
 unfold C5;rw [Up,hr,Zvz,hd,Qj];exact h.out
theorem Uq (hg:o.guard=none) (hd:o.dst=none) (hr:(execOp (ev n e) o).run P w=.ok .skip w')
  (h:W P ops Q rest n e w'):W P ops Q (o::rest) n e w:=by
 refine⟨?_⟩
 unfold wpList;rw [if_pos (by simp [Cf,hg])]
 refine .inl ?_
 unfold C5;rw [Up,hr,Oper.upon_skip,hd];exact h.out
def J2 (ops:Array Oper) (n:Nat) (e:Env) (g:Nat):Option Bool :=
 match (ops[g]?).bind (·.dst) with
 | some d=>if d < n then(match e d with | .bool b=>some b | _=>none) else none
 | none=>none
theorem Qk (g:Nat):yielded ops (actOf n e).tmps g=J2 ops n e g:=by
 unfold yielded J2;cases h:(ops[g]?).bind (·.dst) with
 | none=>rfl
 | some d =>
  simp only [Option.bind_some,actOf];by_cases hd:d < n
  ·simp [hd];cases e d <;> rfl
  ·simp [hd]
theorem stepG0 {g:Nat} {want b:Bool} {d:Nat} (hg:o.guard=some (g,want)) (hd:o.dst=some d) (hb:J2 ops n e g=some b) (hne:b≠want)
  (h:W P ops Q rest n (upd e d undef) w):W P ops Q (o::rest) n e w:=by
 refine⟨?_⟩
 unfold wpList;rw [if_neg (by simp [Cf,hg,Qk,hb,hne]),hd,Qj]
 exact h.out
theorem stepG1 {g:Nat} {want:Bool} {d:Nat} (v:Value) (hg:o.guard=some (g,want)) (hd:o.dst=some d) (hb:J2 ops n e g=some want)
  (hr:(execOp (ev n e) o).run P w=.ok (.value v) w')
  (h:W P ops Q rest n (upd e d v) w'):W P ops Q (o::rest) n e w:=by
 refine⟨?_⟩
 unfold wpList;rw [if_pos (by simp [Cf,hg,Qk,hb])]
 refine .inl ?_
 unfold C5;rw [Up,hr,Zvz,hd,Qj];exact h.out
theorem Zef {d:Nat} (f:FuncId) (args:Array Value) (R:Ending->World->Prop) (hw:∀ g b,o.guard=some (g,b)->J2 ops n e g=some b) (hd:o.dst=some d)
  (hr:(execOp (ev n e) o).run P w=.ok (.enter f args) w') (hc:Calls P f args w' R)
  (h:∀ ret w'',R ret w''->∃ v,ret=.returned v/\W P ops Q rest n (upd e d v) w''):W P ops Q (o::rest) n e w:=by
 refine⟨?_⟩
 unfold wpList
 rw [if_pos (by
  unfold Cf;cases hg:o.guard with
  | none=>rfl
  | some gb=>obtain ⟨g,b⟩:=gb; simp [Qk,hw g b hg])]
 refine .inl ?_
 unfold C5;rw [Up,hr,Oper.upon_enter];refine hc.mono λret w'' A=>?_
 obtain ⟨v,rfl,hk⟩:=h ret w'' A
 show wpList P ops Q rest ((actOf n e).put o.dst v) w''
 rw [hd,Qj];exact hk.out
theorem Zh {id:Nat} {l:List Oper} (h:W P l.toArray Q l n e w):(Code.region id l.toArray false).wp P Q (actOf n e) w:=wp_region_lit h.out
theorem Zs {c:Operand} {x y:Code} {b:Bool} (hc:ev n e c=.bool b) (ht:b=true->x.wp P Q (actOf n e) w) (hf:b=false->y.wp P Q (actOf n e) w) :
  (Code.cond c x y).wp P Q (actOf n e) w:=wp_cond_split (by rw [Up]; exact hc) ht hf
theorem Z8 {c:Operand} {x y:Code} {b:Bool} (hc:ev n e c=.bool b) (hb:b=true) (h:x.wp P Q (actOf n e) w):(Code.cond c x y).wp P Q (actOf n e) w:=wp_cond_true (by rw [Up,hc,hb]) h
theorem Z4 {c:Operand} {x y:Code} {b:Bool} (hc:ev n e c=.bool b) (hb:b=false) (h:y.wp P Q (actOf n e) w):(Code.cond c x y).wp P Q (actOf n e) w:=wp_cond_false (by rw [Up,hc,hb]) h
def Lw (args:List Value):Env:=λi=>(args[i]?).getD undef
theorem B8 {f:FuncId} {fn:Func} {c:Code} {args:List Value} {w:World} {R:Ending->World->Prop}
  (hf:P.funcs[f]? = some fn) (hb:fn.body=some c) (n:Nat) (hn:fn.ntmps=n) (hl:args.length<=n)
  (h:c.wp P (bodyPost P fn R) (actOf n (Lw args)) w):Calls P f args.toArray w R:=by
 refine calls_of_wp hf hb ?_
 have:({ tmps:=args.toArray++Array.replicate (fn.ntmps - args.toArray.size) undef,defers:=[] }:Act)=actOf n (Lw args):=by
  unfold actOf
  congr 1
  apply Array.ext
  ·simp [hn]; omega
  ·intro i A B;simp only [Array.getElem_ofFn,Lw];by_cases hi:i < args.length
   ·rw [Array.getElem_append_left (by simpa using hi)]; simp [hi]
   ·rw [Array.getElem_append_right (by simpa using hi)]; simp [hi]
 rw [this]; exact h
end
open Go Go.RowKit
structure Bel (w w':World):Prop extends Below w.heap.size w w' where
 drawn:w.drawn<=w'.drawn
theorem Bel.refl (w:World):Bel w w:=⟨Below.refl _ _,Cg _⟩
theorem Bel.trans {a b c:World} (h:Bel a b) (k:Bel b c):Bel a c:=⟨h.toBelow.trans (k.toBelow.mono h.size),Cj h.drawn k.drawn⟩
theorem Bel.alloc (w:World) (o:Obj):Bel w (w.alloc o):=⟨(Below.refl _ _).alloc (Cg _) _,Cg _⟩
structure Item where
 fp:List Nat
 holds:World->Prop
 keep:∀ w w':World,(∀ b,b∈fp->w'.heap[b]? = w.heap[b]?)->holds w->holds w'
 low:∀ w:World,holds w->∀ b,b∈fp->b < w.heap.size
theorem Ur {w:World} {b:Nat} {o:Obj} (h:w.heap[b]? = some o):b < w.heap.size:=(Array.getElem?_eq_some_iff.1 h).1
def blk (b t:Nat) (cs:List Value):Item where
  fp:=[b]
  holds w:=w.heap[b]? = some (.cells cs.toArray t (0,0))
  keep _ _ h hw:=(h b (by simp)).trans hw
  low _ hw c hc := by obtain rfl : c = b := by simpa using hc
                      exact Ur hw
def own (t sz:Nat) (v:Value) (n:Nat) (cs:List Value):Item where
 fp:=v.ownBlock.toList
 holds w:=w.ownsRow 0 t sz v n cs
 keep w w' h hw:=by
  obtain ⟨B,A⟩:=hw;refine⟨B,?_⟩
  rcases A with A | ⟨g,cap,cur,rfl,hg,hh,r⟩
  ·exact .inl A
  ·exact .inr ⟨g,cap,cur,rfl,hg,(h g (by simp [Fe])).trans hh,r⟩
 low w hw b hb:=by
  rcases hw.2 with ⟨rfl,_⟩ | ⟨g,cap,cur,rfl,_,hh,_⟩
  ·simp [Fe] at hb
  ·obtain rfl:b=g:=by simpa [Fe] using hb
   exact Ur hh
def rdr (sz:Nat) (v:Value) (n:Nat) (cs:List Value) (fp:List Nat):Item where
 fp:=fp
 holds w:=(∀ b,b∈fp->b < w.heap.size)/\cs.length=n * sz/\n<=maxLen /\
  ∃ A c,v=.slice A n c/\n<=c/\(0 < n->∃ a,A=some a/\a.block∈fp/\∀ j u,cs[j]? = some u->w.cell? (a.add j)=some u)
 keep w w' h hw:=by
  obtain ⟨B,I,L,A,c,rfl,hnc,O⟩:=hw;refine⟨λb hb=>?_,I,L,A,c,rfl,hnc,λhn=>?_⟩
  ·have:=B b hb;have e:=h b hb;rcases Fb b w'.heap.size with hl | hl
   ·exact hl
   ·rw [Array.getElem?_eq_none hl,Array.getElem?_eq_getElem this] at e; cases e
  ·obtain ⟨a,rfl,ha,hc⟩:=O hn;refine⟨a,rfl,ha,λj u hj=>?_⟩
   have hb:(a.add j).block=a.block:=by unfold F7; split <;> rfl
   exact(World.cell?_of_block (by rw [hb]; exact h _ ha)).trans (hc j u hj)
 low _ hw:=hw.1
def Item.and (a b:Item):Item where
 fp:=a.fp++b.fp
 holds w:=a.holds w/\b.holds w
 keep w w' h hw:=⟨a.keep w w' (λx hx=>h x (Cv _ hx)) hw.1,b.keep w w' (λx hx=>h x (Cu _ hx)) hw.2⟩
 low w hw x hx:=by
  rcases Ch.1 hx with h | h
  ·exact a.low w hw.1 x h
  ·exact b.low w hw.2 x h
structure Ctx (X:Nat->Prop) (w0 w:World) (M Ps:List Item):Prop where
 os:w.os=w0.os
 tape:w.tape=w0.tape
 output:w.output=w0.output
 size:w0.heap.size<=w.heap.size
 drawn:w0.drawn<=w.drawn
 old:∀ b,b < w0.heap.size->¬ X b->w.heap[b]? = w0.heap[b]?
 m:∀ it,it∈M->it.holds w
 p:∀ it,it∈Ps->it.holds w
 mfp:∀ it,it∈M->∀ b,b∈it.fp->w0.heap.size<=b\/X b
 dis:M.Pairwise (λa b=>∀ x,x∈a.fp->x∉b.fp)
 pd:∀ it,it∈Ps->∀ b,b∈it.fp->∀ m,m∈M->b∉m.fp
def Nox:Nat->Prop:=λ_=>False
namespace Ctx
variable {X:Nat->Prop} {w0 w w':World} {M Ps:List Item}
theorem Ix (h:Ctx X w0 w M Ps) {it:Item} (k:Nat) (hk:M[k]? = some it):it.holds w:=h.m it (List.mem_of_getElem? hk)
theorem Iw (h:Ctx X w0 w M Ps) {it:Item} (k:Nat) (hk:Ps[k]? = some it):it.holds w:=h.p it (List.mem_of_getElem? hk)
theorem start (w:World) (Ps:List Item) (h:∀ it,it∈Ps->it.holds w):Ctx X w w [] Ps :=
 ⟨rfl,rfl,rfl,Cg _,Cg _,λ_ _ _=>rfl,by simp,h,by simp,.nil,by simp⟩
theorem below (h:Ctx Nox w0 w M Ps):Bel w0 w:=⟨⟨h.os,h.tape,h.output,h.size,λk hk=>h.old k hk (λx=>x)⟩,h.drawn⟩
theorem Iy (h:Ctx X w0 w M Ps) (hb:Bel w w'):Ctx X w0 w' M Ps where
 os:=hb.os.trans h.os
 tape:=hb.tape.trans h.tape
 output:=hb.output.trans h.output
 size:=Cj h.size hb.size
 drawn:=Cj h.drawn hb.drawn
 old b hb' hx:=(hb.block b (Zwo hb' h.size)).trans (h.old b hb' hx)
 m it hi:=it.keep w w' (λb hbf=>hb.block b (it.low w (h.m it hi) b hbf)) (h.m it hi)
 p it hi:=it.keep w w' (λb hbf=>hb.block b (it.low w (h.p it hi) b hbf)) (h.p it hi)
 mfp:=h.mfp
 dis:=h.dis
 pd:=h.pd
theorem push (h:Ctx X w0 w M Ps) (hb:Bel w w') (it:Item) (hi:it.holds w') (hf:∀ b,b∈it.fp→w.heap.size≤b):Ctx X w0 w' (it::M) Ps :=
  have g:=h.Iy hb
  { g with
    m := fun j hj => by
      rcases Cb.1 hj with hj | hj
      · exact hj ▸ hi
      · exact g.m j hj
    mfp:=fun j hj b hb=>by
      rcases Cb.1 hj with rfl | hj
      · exact .inl (Cj h.size (hf b hb))
      · exact g.mfp j hj b hb
    dis:=Cl.2 ⟨fun j hj x hx hx'=>absurd (j.low w (h.m j hj) x hx') (C2.2 (hf x hx)),g.dis⟩
    pd:=fun j hj b hb m hm hbm=>by
      rcases Cb.1 hm with rfl | hm
      · exact absurd (j.low w (h.p j hj) b hb) (C2.2 (hf b hbm))
      · exact g.pd j hj b hb m hm hbm }
theorem pushP (h:Ctx X w0 w M Ps) (it:Item) (hi:it.holds w) (hf:∀ b,b∈it.fp→∀ m,m∈M→b∉m.fp):Ctx X w0 w M (it::Ps) :=
  { h with
    p := fun j hj => by
      rcases Cb.1 hj with hj | hj
      · exact hj ▸ hi
      · exact h.p j hj
    pd:=fun j hj b hb m hm hbm=>by
      rcases Cb.1 hj with rfl | hj
      · exact hf b hb m hm hbm
      · exact h.pd j hj b hb m hm hbm }
theorem I0 (h:Ctx X w0 w M Ps) (k:Nat) {it:Item} (hk:Ps[k]? = some it) (jt:Item) (hj:it.holds w->jt.holds w) (hf:∀ b,b∈jt.fp->b∈it.fp):Ctx X w0 w M (jt::Ps) :=
 h.pushP jt (hj (h.Iw k hk)) (λb hb m hm=>h.pd it (List.mem_of_getElem? hk) b (hf b hb) m hm)
theorem turn (h:Ctx X w0 w M Ps) (k:Nat) {it jt:Item} (hk:M[k]? = some it)
  (hos:w'.os=w.os) (hta:w'.tape=w.tape) (hou:w'.output=w.output) (hsz:w.heap.size<=w'.heap.size) (hdr:w.drawn<=w'.drawn)
  (hb:∀ b,b < w.heap.size->b∉it.fp->w'.heap[b]? = w.heap[b]?) (hj:jt.holds w') (hf:∀ b,b∈jt.fp->b∈it.fp\/w.heap.size<=b) :
  Ctx X w0 w' (M.set k jt) Ps:=by
 have hmem:it∈M:=List.mem_of_getElem? hk;have hlt:k < M.length:=(List.getElem?_eq_some_iff.1 hk).1
 have hget:M[k]=it:=(List.getElem?_eq_some_iff.1 hk).2
 -- the other items
 have sep:∀ i (hi:i < M.length),i≠k->∀ x,x∈(M[i]).fp->x∉it.fp:=by
  intro i hi hne x hx hx';rcases Zwp hne with hl | hl
  ·exact(Cq.1 h.dis i k hi hlt hl) x hx (hget ▸ hx')
  ·exact(Cq.1 h.dis k i hlt hi hl) x (hget ▸ hx') hx
 refine⟨hos.trans h.os,hta.trans h.tape,hou.trans h.output,Cj h.size hsz,Cj h.drawn hdr,?_,?_,?_,?_,?_,?_⟩
 ·intro b A hx;rw [hb b (Zwo A h.size) (λhbi=>?_)]
  ·exact h.old b A hx
  ·rcases h.mfp it hmem b hbi with h' | h'
   ·omega
   ·exact hx h'
 ·intro x hx;obtain ⟨i,hi,hxi⟩:=Cw hx;rw [Zv0] at hxi
  split at hxi
  ·subst hxi; exact hj
  ·rename_i hne;have hi':i < M.length:=by simpa using hi
   subst hxi;exact(M[i]).keep w w' (λb hbf=>hb b ((M[i]).low w (h.m _ (C4 hi')) b hbf) (sep i hi' (λe=>hne e.symm) b hbf)) (h.m _ (C4 hi'))
 ·intro x hx;exact x.keep w w' (λb hbf=>hb b (x.low w (h.p x hx) b hbf) (h.pd x hx b hbf it hmem)) (h.p x hx)
 ·intro x hx b hbx;obtain ⟨i,hi,hxi⟩:=Cw hx;rw [Zv0] at hxi
  split at hxi
  ·subst hxi;rcases hf b hbx with h' | h'
   ·exact h.mfp it hmem b h'
   ·exact .inl (Cj h.size h')
  ·have hi':i < M.length:=by simpa using hi
   subst hxi;exact h.mfp _ (C4 hi') b hbx
 ·rw [Cq];intro i j hi hj' hij x hx hx';have hi':i < M.length:=by simpa using hi
  have hj'':j < M.length:=by simpa using hj'
  rw [Zv0] at hx hx'
  split at hx <;> split at hx'
  ·omega
  ·rename_i B I;rcases hf x hx with h' | h'
   ·exact sep j hj'' (λe=>I e.symm) x hx' h'
   ·exact absurd ((M[j]).low w (h.m _ (C4 hj'')) x hx') (C2.2 h')
  ·rename_i B I;rcases hf x hx' with h' | h'
   ·exact sep i hi' (λe=>B e.symm) x hx h'
   ·exact absurd ((M[i]).low w (h.m _ (C4 hi')) x hx) (C2.2 h')
  ·exact(Cq.1 h.dis i j hi' hj'' hij) x hx hx'
 ·intro x hx b hbx m hm hbm;obtain ⟨i,hi,hmi⟩:=Cw hm;rw [Zv0] at hmi
  split at hmi
  ·subst hmi;rcases hf b hbm with h' | h'
   ·exact h.pd x hx b hbx it hmem h'
   ·exact absurd (x.low w (h.p x hx) b hbx) (C2.2 h')
  ·have hi':i < M.length:=by simpa using hi
   subst hmi;exact h.pd x hx b hbx _ (C4 hi') hbm
theorem sub (h:Ctx X w0 w M Ps) {M' Ps':List Item} (hm:M'.Sublist M) (hp:∀ it,it∈Ps'→it∈Ps):Ctx X w0 w M' Ps' :=
  { h with
    m:=fun it hi=>h.m it (hm.subset hi)
    p:=fun it hi=>h.p it (hp it hi)
    mfp:=fun it hi=>h.mfp it (hm.subset hi)
    dis:=h.dis.sublist hm
    pd:=fun it hi b hb m hm'=>h.pd it (hp it hi) b hb m (hm.subset hm') }
theorem thaw (h:Ctx X w0 w M Ps) (k:Nat) {it:Item} (hk:M[k]? = some it) (jt:Item) (hj:it.holds w->jt.holds w) (hf:∀ b,b∈jt.fp->b∈it.fp):Ctx X w0 w (M.eraseIdx k) (jt::Ps):=by
 have g:=h.sub (M':=M.eraseIdx k) (Ps':=Ps) (Zwq ..) (λ_ x=>x)
 refine g.pushP jt (hj (h.Ix k hk)) (λb hb m hm hbm=>?_)
 have hlt:k < M.length:=(List.getElem?_eq_some_iff.1 hk).1
 have hget:M[k]=it:=(List.getElem?_eq_some_iff.1 hk).2
 obtain ⟨i,hi,hmi⟩:=Cw hm;rw [List.getElem_eraseIdx] at hmi
 split at hmi
 ·rename_i hik;subst hmi;exact(Cq.1 h.dis i k (by omega) hlt hik) b hbm (hget ▸ hf b hb)
 ·rename_i hik;have A:i < M.length - 1:=by rw [Zxl hlt] at hi; exact hi
  subst hmi;exact(Cq.1 h.dis k (i+1) hlt (by omega) (by omega)) b (hget ▸ hf b hb) hbm
end Ctx
end Vc
namespace Vc
open Go Go.RowKit
def AggT (P:Program) (t sz:Nat):Prop:=(∃ d,P.underlying t=some d/\(match d with | .struct _ | .array _ _=>true | _=>false)=true)/\(P.info? t).map (·.size)=some sz
def ScaT (P:Program) (t:Nat):Prop:=(∃ d,P.underlying t=some d/\(match d with | .struct _ | .array _ _=>true | _=>false)=false)/\(P.info? t).map (·.size)=some 1
def Je (P:Program) (t:Nat) (z:Value):Prop:=(P.info? t).map (·.zero)=some (some z)
def Xu (P:Program) (t sz:Nat):Prop:=(P.info? t).map (·.size)=some sz
theorem AggT.size {P:Program} {t sz:Nat} (h:AggT P t sz):Xu P t sz:=h.2
theorem ScaT.size {P:Program} {t:Nat} (h:ScaT P t):Xu P t 1:=h.2
theorem Zkg {P:Program} {t sz:Nat} (h:AggT P t sz) (w:World):(isAgg t).run P w=.ok true w:=by
 obtain ⟨⟨d,hu,hd⟩,_⟩:=h;unfold isAgg;rw [Ca,run_underlying hu w];cases d <;> simp_all
theorem Lx {P:Program} {t:Nat} (h:ScaT P t) (w:World):(isAgg t).run P w=.ok false w:=by
 obtain ⟨⟨d,hu,hd⟩,_⟩:=h;unfold isAgg;rw [Ca,run_underlying hu w];cases d <;> simp_all
theorem Wy {P:Program} {t sz:Nat} (h:Xu P t sz) (w:World):(Go.sizeOf t).run P w=.ok sz w:=by
 unfold Xu at h
 cases hq:P.info? t with
 | none=>simp [hq] at h
 | some i =>
  have hs:i.size=sz:=by simpa [hq] using h
  simp [Go.sizeOf,typeInfo,hq,hs]
theorem G2 {P:Program} {t:Nat} {z:Value} (h:Je P t z) (w:World):(zeroValue t).run P w=.ok z w:=by
 unfold Je at h
 cases hq:P.info? t with
 | none=>simp [hq] at h
 | some i =>
  have hs:i.zero=some z:=by simpa [hq] using h
  simp [zeroValue,typeInfo,hq,hs]
def Wi (w:World) (a:Addr) (seg:List Value):Prop:=∀ j u,seg[j]? = some u->w.cell? (a.add j)=some u
theorem Tt (g o j:Nat):(⟨g,o,none⟩:Addr).add j=⟨g,o+j,none⟩:=by unfold F7; split <;> simp_all
theorem Ql {a:Addr} (i j:Nat):(a.add i).add j=a.add (i+j):=by
 unfold F7;by_cases hi:i=0
 ·subst hi; simp
 ·by_cases hj:j=0
  ·subst hj; simp [hi]
  ·rw [if_neg hi,if_neg hj,if_neg (by omega)]
   simp [Nat.add_assoc]
theorem Jv {w:World} {b t off sz:Nat} {cs seg:List Value} (h:(blk b t cs).holds w) (hs:(cs.drop off).take sz=seg):Wi w ⟨b,off,none⟩ seg:=by
 intro j u hj;rw [Tt,cell_of_row w b _ cs.toArray t (0,0) h];rw [<- hs] at hj
 simp only [List.getElem?_take] at hj
 split at hj
 ·simpa using hj
 ·cases hj
theorem N3 {P:Program} {w:World} {t sz:Nat} {a:Addr} {seg:List Value} (h:AggT P t sz) (hc:Wi w a seg) (hl:seg.length=sz) :
  (loadVar t a).run P w=.ok (.agg seg.toArray) w:=by
 have A:(loadCells a sz).run P w=.ok seg.toArray w:=by
  rw [<- hl]; exact run_loadCells_list (P:=P) w a seg hc
 unfold loadVar;simp only [Ca,Zkg h,Cc,if_true,Wy h.size,A,Ce]
theorem Ly {P:Program} {w:World} {t:Nat} {a:Addr} {v:Value} (h:ScaT P t) (hc:Wi w a [v]) :
  (loadVar t a).run P w=.ok v w:=by
 have A:w.cell? a=some v:=by have:=hc 0 v rfl; simpa [F7] using this
 unfold loadVar;simp only [Ca,Lx h,Cc];simp [A]
def Xz (cs:List Value) (off:Nat) (vc:List Value):List Value:=cs.take off++vc++cs.drop (off+vc.length)
theorem Lz {P:Program} {w:World} {b t ty off sz:Nat} {cs vc:List Value} {v:Value} (hT:Xu P ty sz) (h:(blk b t cs).holds w)
    (hv:v.cells.toList=vc) (hl:vc.length=sz) (h1:vc.all (·.oneCell')=true) (ho:off+sz≤cs.length) :
    ∃ w', (storeVar ty ⟨b, off, none⟩ v).run P w = .ok () w' ∧ (blk b t (Xz cs off vc)).holds w' ∧ w'.os = w.os ∧ w'.tape = w.tape ∧ w'.output = w.output ∧ w'.heap.size = w.heap.size ∧
      ∀ k,k≠b→w'.heap[k]? = w.heap[k]? := by
  have hs:v.cells.size=sz:=by rw [← Zv2,hv,hl]
  have hr:=run_storeCells_at (P:=P) b off t vc 0 cs.toArray w h (by simp; omega) (by simpa using h1)
  refine⟨w.setRow b (cs.take off++vc++cs.drop (off+vc.length)).toArray,?_,?_,rfl,rfl,rfl,?_,?_⟩
  · unfold storeVar
    simp only [Ca,Wy hT,Cc,hs,ne_eq,not_true_eq_false,if_false,hv]
    simpa using hr
  · show (World.setRow _ _ _).heap[b]? = _
    rw [setRow_heap w b _ _ t _ h]
    simp [Xz]
  · simp
  · intro k hk
    exact setRow_other w b k _ hk
section
variable {P:Program} {ops:Array Oper} {Q:Exit->Act->World->Prop} {n:Nat} {e:Env} {w w':World} {rest:List Oper}
variable {X:Nat->Prop} {w0:World} {M Ps:List Item}
variable {d ty:Nat} {pos:String} {af:Array Edge} {gd:Option (Nat×Bool)}
theorem Zq {l:List Oper} {op:Op} {dst:Option Nat} (g:Nat) {want:Bool} (dg:Nat) (hd:(l[g]?).bind (·.dst)=some dg) {b:Bool} (hv:ev n e (.tmp dg)=.bool b) (hb:b=want)
  (h:W P l.toArray Q (⟨dst,op,ty,pos,af,none⟩::rest) n e w):W P l.toArray Q (⟨dst,op,ty,pos,af,some (g,want)⟩::rest) n e w:=by
 have hy:yielded l.toArray (actOf n e).tmps g=some want:=by
  rw [Qk];unfold J2;rw [List.getElem?_toArray,hd]
  simp only [ev] at hv
  by_cases hdn:dg < n
  ·have hbt:Ck dg n=true:=by rw [C1]; exact hdn
   rw [hbt] at hv
   simp only [cond_true] at hv
   simp [hdn,hv,hb]
  ·have hbt:Ck dg n=false:=by
    cases hq:Ck dg n with
    | false=>rfl
    | true=>rw [C1] at hq; exact absurd hq hdn
   rw [hbt] at hv
   simp [undef] at hv
 obtain ⟨h⟩:=h;refine⟨?_⟩
 unfold wpList at h ⊢
 rw [if_pos (by simp [Cf])] at h
 rw [if_pos (by simp [Cf,hy])]
 exact h
theorem Zp {l:List Oper} {op:Op} (g:Nat) {want:Bool} (dg:Nat) (hd:(l[g]?).bind (·.dst)=some dg) {b:Bool} (hv:ev n e (.tmp dg)=.bool b) (hb:b≠want)
  (h:W P l.toArray Q rest n (upd e d undef) w):W P l.toArray Q (⟨some d,op,ty,pos,af,some (g,want)⟩::rest) n e w:=by
 refine stepG0 (g:=g) (want:=want) (b:=b) (d:=d) rfl rfl ?_ hb h
 unfold J2;rw [List.getElem?_toArray,hd]
 simp only [ev] at hv
 by_cases hdn:dg < n
 ·have hbt:Ck dg n=true:=by rw [C1]; exact hdn
  rw [hbt] at hv
  simp only [cond_true] at hv
  simp [hdn,hv]
 ·have hbt:Ck dg n=false:=by
   cases hq:Ck dg n with
   | false=>rfl
   | true=>rw [C1] at hq; exact absurd hq hdn
  rw [hbt] at hv
  simp [undef] at hv
theorem Wj {l:List Oper} {op:Op} (g:Nat) {want:Bool} (dg:Nat) (hd:(l[g]?).bind (·.dst)=some dg) (hv:ev n e (.tmp dg)=undef)
  (h:W P l.toArray Q rest n (upd e d undef) w):W P l.toArray Q (⟨some d,op,ty,pos,af,some (g,want)⟩::rest) n e w:=by
 have hy:yielded l.toArray (actOf n e).tmps g=none:=by
  rw [Qk];unfold J2;rw [List.getElem?_toArray,hd]
  simp only [ev] at hv
  by_cases hdn:dg < n
  ·have hbt:Ck dg n=true:=by rw [C1]; exact hdn
   rw [hbt] at hv
   simp only [cond_true] at hv
   simp [hdn,hv,undef]
  ·simp [hdn]
 refine⟨?_⟩
 unfold wpList;rw [if_neg (by simp [Cf,hy]),Qj]
 exact h.out
theorem done (h:Q .normal (actOf n e) w):W P ops Q [] n e w:=⟨h⟩
theorem Vb {x:Operand} {v:Value} (hx:ev n e x=v):(execOp (ev n e) ⟨some d,.move x,ty,pos,af,gd⟩).run P w=.ok (.value v) w :=
 (by simp [execOp,hx])
theorem Za {x:Operand} {v:Value} (hx:ev n e x=v) (h:W P ops Q rest n (upd e d v) w):W P ops Q (⟨some d,.move x,ty,pos,af,none⟩::rest) n e w :=
 Y2 v rfl rfl (by simp [execOp,hx]) h
theorem Zkh {x:Operand} {v:Value} (hx:ev n e x=v):(execOp (ev n e) ⟨some d,.assign x,ty,pos,af,gd⟩).run P w=.ok (.value v) w :=
 (by simp [execOp,hx])
theorem Zd {x:Operand} {v:Value} (hx:ev n e x=v) (h:W P ops Q rest n (upd e d v) w):W P ops Q (⟨some d,.assign x,ty,pos,af,none⟩::rest) n e w :=
 Y2 v rfl rfl (by simp [execOp,hx]) h
theorem Zeg {c x y:Operand} {b:Bool} {v:Value} (hc:ev n e c=.bool b) (hv:(bif b then ev n e x else ev n e y)=v):(execOp (ev n e) ⟨some d,.pick c x y,ty,pos,af,gd⟩).run P w=.ok (.value v) w :=
 (by cases b <;> simp [execOp,hc,asBool] at hv ⊢ <;> exact hv)
theorem Ya {c x y:Operand} {b:Bool} {v:Value} (hc:ev n e c=.bool b) (hv:(bif b then ev n e x else ev n e y)=v) (h:W P ops Q rest n (upd e d v) w) :
  W P ops Q (⟨some d,.pick c x y,ty,pos,af,none⟩::rest) n e w :=
 Y2 v rfl rfl (by cases b <;> simp [execOp,hc,asBool] at hv ⊢ <;> exact hv) h
theorem Sj {op:BinOp} {t t':Nat} {x y:Operand} {k:IntKind} {a b:Int} {r:Value} (hx:ev n e x=.int k a) (hy:ev n e y=.int k b) (hr:(binOp op t (.int k a) (.int k b)).run P w=.ok r w) :
  (execOp (ev n e) ⟨some d,.binOp op t x y t',ty,pos,af,gd⟩).run P w=.ok (.value r) w:=by
 have hq:(eqGuard op t x y (.int k a) (.int k b)).run P w=.ok () w:=by
  unfold eqGuard;cases op <;> simp
 simp only [execOp,hx,hy,Ca,hq,Cc,hr,Ce]
theorem Us {op:BinOp} {t t':Nat} {x y:Operand} {k:IntKind} {a b:Int} (r:Value) (hx:ev n e x=.int k a) (hy:ev n e y=.int k b) (hr:(binOp op t (.int k a) (.int k b)).run P w=.ok r w)
  (h:W P ops Q rest n (upd e d r) w):W P ops Q (⟨some d,.binOp op t x y t',ty,pos,af,none⟩::rest) n e w:=by
 refine Y2 r rfl rfl ?_ h
 have hq:(eqGuard op t x y (.int k a) (.int k b)).run P w=.ok () w:=by
  unfold eqGuard;cases op <;> simp
 simp only [execOp,hx,hy,Ca,hq,Cc,hr,Ce]
theorem Vn {t t':Nat} {x y:Operand} {k:IntKind} {a b:Int} (hx:ev n e x=.int k a) (hy:ev n e y=.int k b)
  : (execOp (ev n e) ⟨some d,.binOp .add t x y t',ty,pos,af,gd⟩).run P w=.ok (.value (.int k (k.wrap (a+b)))) w :=
 Sj hx hy (by simp [binOp,Ff])
theorem Zm {t t':Nat} {x y:Operand} {k:IntKind} {a b:Int} (hx:ev n e x=.int k a) (hy:ev n e y=.int k b)
  (h:W P ops Q rest n (upd e d (.int k (k.wrap (a+b)))) w):W P ops Q (⟨some d,.binOp .add t x y t',ty,pos,af,none⟩::rest) n e w :=
 Us _ hx hy (by simp [binOp,Ff]) h
theorem Tu {t t':Nat} {x y:Operand} {k:IntKind} {a b:Int} (hx:ev n e x=.int k a) (hy:ev n e y=.int k b)
  : (execOp (ev n e) ⟨some d,.binOp .sub t x y t',ty,pos,af,gd⟩).run P w=.ok (.value (.int k (k.wrap (a - b)))) w :=
 Sj hx hy (by simp [binOp,Ff])
theorem X5 {t t':Nat} {x y:Operand} {k:IntKind} {a b:Int} (hx:ev n e x=.int k a) (hy:ev n e y=.int k b)
  (h:W P ops Q rest n (upd e d (.int k (k.wrap (a - b)))) w):W P ops Q (⟨some d,.binOp .sub t x y t',ty,pos,af,none⟩::rest) n e w :=
 Us _ hx hy (by simp [binOp,Ff]) h
theorem Tv {t t':Nat} {x y:Operand} {k:IntKind} {a b:Int} (hx:ev n e x=.int k a) (hy:ev n e y=.int k b)
  : (execOp (ev n e) ⟨some d,.binOp .mul t x y t',ty,pos,af,gd⟩).run P w=.ok (.value (.int k (k.wrap (a * b)))) w :=
 Sj hx hy (by simp [binOp,Ff])
theorem Wz {t t':Nat} {x y:Operand} {k:IntKind} {a b:Int} (hx:ev n e x=.int k a) (hy:ev n e y=.int k b)
  (h:W P ops Q rest n (upd e d (.int k (k.wrap (a * b)))) w):W P ops Q (⟨some d,.binOp .mul t x y t',ty,pos,af,none⟩::rest) n e w :=
 Us _ hx hy (by simp [binOp,Ff]) h
theorem Zeh {t t':Nat} {x y:Operand} {k:IntKind} {a b:Int} (hx:ev n e x=.int k a) (hy:ev n e y=.int k b) (h:b≠0)
  : (execOp (ev n e) ⟨some d,.binOp .rem t x y t',ty,pos,af,gd⟩).run P w=.ok (.value (.int k (a.tmod b))) w :=
 Sj hx hy (by simp [binOp,Op.intDiv,h])
theorem Jf {t t':Nat} {x y:Operand} {k:IntKind} {a b:Int} (hx:ev n e x=.int k a) (hy:ev n e y=.int k b) (A:b≠0)
  (h:W P ops Q rest n (upd e d (.int k (a.tmod b))) w):W P ops Q (⟨some d,.binOp .rem t x y t',ty,pos,af,none⟩::rest) n e w :=
 Us _ hx hy (by simp [binOp,Op.intDiv,A]) h
theorem N4 {t t':Nat} {x y:Operand} {k:IntKind} {a b:Int} (hx:ev n e x=.int k a) (hy:ev n e y=.int k b) (A:b≠0)
  (h:W P ops Q rest n (upd e d (.int k (k.wrap (a.tdiv b)))) w):W P ops Q (⟨some d,.binOp .quo t x y t',ty,pos,af,none⟩::rest) n e w :=
 Us _ hx hy (by simp [binOp,Op.intDiv,A]) h
theorem Zei {t t':Nat} {x y:Operand} {k:IntKind} {a b:Int} (hx:ev n e x=.int k a) (hy:ev n e y=.int k b)
  : (execOp (ev n e) ⟨some d,.binOp .eql t x y t',ty,pos,af,gd⟩).run P w=.ok (.value (.bool (decide (a=b)))) w :=
 Sj hx hy (by simp [binOp,C6,Zws])
theorem X6 {t t':Nat} {x y:Operand} {k:IntKind} {a b:Int} (hx:ev n e x=.int k a) (hy:ev n e y=.int k b)
  (h:W P ops Q rest n (upd e d (.bool (decide (a=b)))) w):W P ops Q (⟨some d,.binOp .eql t x y t',ty,pos,af,none⟩::rest) n e w :=
 Us _ hx hy (by simp [binOp,C6,Zws]) h
theorem Xl {t t':Nat} {x y:Operand} {k:IntKind} {a b:Int} (hx:ev n e x=.int k a) (hy:ev n e y=.int k b)
  (h:W P ops Q rest n (upd e d (.bool (decide (a≠b)))) w):W P ops Q (⟨some d,.binOp .neq t x y t',ty,pos,af,none⟩::rest) n e w :=
 Us _ hx hy (by simp [binOp,C6,bne]; rfl) h
theorem Zej {t t':Nat} {x y:Operand} {k:IntKind} {a b:Int} (hx:ev n e x=.int k a) (hy:ev n e y=.int k b)
  : (execOp (ev n e) ⟨some d,.binOp .lss t x y t',ty,pos,af,gd⟩).run P w=.ok (.value (.bool (decide (a < b)))) w :=
 Sj hx hy (by simp [binOp,C6])
theorem Zl {t t':Nat} {x y:Operand} {k:IntKind} {a b:Int} (hx:ev n e x=.int k a) (hy:ev n e y=.int k b)
  (h:W P ops Q rest n (upd e d (.bool (decide (a < b)))) w):W P ops Q (⟨some d,.binOp .lss t x y t',ty,pos,af,none⟩::rest) n e w :=
 Us _ hx hy (by simp [binOp,C6]) h
theorem Zek {t t':Nat} {x y:Operand} {k:IntKind} {a b:Int} (hx:ev n e x=.int k a) (hy:ev n e y=.int k b)
  : (execOp (ev n e) ⟨some d,.binOp .leq t x y t',ty,pos,af,gd⟩).run P w=.ok (.value (.bool (decide (a<=b)))) w :=
 Sj hx hy (by simp [binOp,C6])
theorem Ut {t t':Nat} {x y:Operand} {k:IntKind} {a b:Int} (hx:ev n e x=.int k a) (hy:ev n e y=.int k b)
  (h:W P ops Q rest n (upd e d (.bool (decide (a<=b)))) w):W P ops Q (⟨some d,.binOp .leq t x y t',ty,pos,af,none⟩::rest) n e w :=
 Us _ hx hy (by simp [binOp,C6]) h
theorem Zel {t t':Nat} {x y:Operand} {k:IntKind} {a b:Int} (hx:ev n e x=.int k a) (hy:ev n e y=.int k b)
  : (execOp (ev n e) ⟨some d,.binOp .gtr t x y t',ty,pos,af,gd⟩).run P w=.ok (.value (.bool (decide (a > b)))) w :=
 Sj hx hy (by simp [binOp,C6])
theorem Jn {t t':Nat} {x y:Operand} {k:IntKind} {a b:Int} (hx:ev n e x=.int k a) (hy:ev n e y=.int k b)
  (h:W P ops Q rest n (upd e d (.bool (decide (a > b)))) w):W P ops Q (⟨some d,.binOp .gtr t x y t',ty,pos,af,none⟩::rest) n e w :=
 Us _ hx hy (by simp [binOp,C6]) h
theorem Wp {t t':Nat} {x y:Operand} {k:IntKind} {a b:Int} (hx:ev n e x=.int k a) (hy:ev n e y=.int k b)
  (h:W P ops Q rest n (upd e d (.bool (decide (a≥b)))) w):W P ops Q (⟨some d,.binOp .geq t x y t',ty,pos,af,none⟩::rest) n e w :=
 Us _ hx hy (by simp [binOp,C6]) h
theorem B9 {t:Nat} {x:Operand} {b:Bool} (hx:ev n e x=.bool b):(execOp (ev n e) ⟨some d,.unOp .not t x,ty,pos,af,gd⟩).run P w=.ok (.value (.bool (!b))) w :=
 (by simp [execOp,hx,Op.unary])
theorem Xo {t:Nat} {x:Operand} {b:Bool} (hx:ev n e x=.bool b) (h:W P ops Q rest n (upd e d (.bool (!b))) w) :
  W P ops Q (⟨some d,.unOp .not t x,ty,pos,af,none⟩::rest) n e w :=
 Y2 _ rfl rfl (by simp [execOp,hx,Op.unary]) h
theorem Zem {t:Nat} {x:Operand} {k:IntKind} {a:Int} (hx:ev n e x=.int k a):(execOp (ev n e) ⟨some d,.unOp .neg t x,ty,pos,af,gd⟩).run P w=.ok (.value (.int k (k.wrap (0 - a)))) w :=
 (by simp [execOp,hx,Op.unary,Ff])
theorem G3 {t:Nat} {x:Operand} {k:IntKind} {a:Int} (hx:ev n e x=.int k a) (h:W P ops Q rest n (upd e d (.int k (k.wrap (0 - a)))) w) :
  W P ops Q (⟨some d,.unOp .neg t x,ty,pos,af,none⟩::rest) n e w :=
 Y2 _ rfl rfl (by simp [execOp,hx,Op.unary,Ff]) h
theorem Zen {src dst:Nat} {x:Operand} {k k':IntKind} {a:Int} {sd:TypeDesc} (hs:P.underlying src=some sd) (hd:P.underlying dst=some (.int k')) (hx:ev n e x=.int k a)
  : (execOp (ev n e) ⟨some d,.convert src dst x,ty,pos,af,gd⟩).run P w=.ok (.value (.int k' (k'.wrap a))) w :=
 (by
  simp only [execOp,hx,convert,Ca,run_underlying hs,run_underlying hd,Cc];cases sd <;> simp [Conv.intToInt])
theorem G4 {src dst:Nat} {x:Operand} {k k':IntKind} {a:Int} {sd:TypeDesc} (hs:P.underlying src=some sd) (hd:P.underlying dst=some (.int k')) (hx:ev n e x=.int k a)
  (h:W P ops Q rest n (upd e d (.int k' (k'.wrap a))) w):W P ops Q (⟨some d,.convert src dst x,ty,pos,af,none⟩::rest) n e w :=
 Y2 _ rfl rfl (by
  simp only [execOp,hx,convert,Ca,run_underlying hs,run_underlying hd,Cc];cases sd <;> simp [Conv.intToInt]) h
theorem N5 {x:Operand} {i:Nat} {vs:Array Value} {v:Value} (hx:ev n e x=.tuple vs) (hv:vs[i]? = some v):(execOp (ev n e) ⟨some d,.extract x i,ty,pos,af,gd⟩).run P w=.ok (.value v) w :=
 (by simp [execOp,hx,Instr.extract,hv])
theorem Y5 {x:Operand} {i:Nat} {vs:Array Value} {v:Value} (hx:ev n e x=.tuple vs) (hv:vs[i]? = some v) (h:W P ops Q rest n (upd e d v) w) :
  W P ops Q (⟨some d,.extract x i,ty,pos,af,none⟩::rest) n e w :=
 Y2 v rfl rfl (by simp [execOp,hx,Instr.extract,hv]) h
theorem Wu {x:Operand} {a:Addr} (hx:ev n e x=.pointer (some a)):(execOp (ev n e) ⟨some d,.nilCheck x,ty,pos,af,gd⟩).run P w=.ok (.value (.pointer (some a))) w :=
 (by simp [execOp,hx])
theorem Xd {x:Operand} {a:Addr} (hx:ev n e x=.pointer (some a)) (h:W P ops Q rest n (upd e d (.pointer (some a))) w) :
  W P ops Q (⟨some d,.nilCheck x,ty,pos,af,none⟩::rest) n e w :=
 Y2 _ rfl rfl (by simp [execOp,hx]) h
theorem Zeo {s:Nat} {x:Operand} {i:Nat} {a:Addr} {fs:Array Field} {f:Field} (hs:P.underlying s=some (.struct fs)) (hf:fs[i]? = some f) {sz:Nat} (hz:Xu P f.type (sz+1)) (hx:ev n e x=.pointer (some a))
  : (execOp (ev n e) ⟨some d,.fieldAddr s x i,ty,pos,af,gd⟩).run P w=.ok (.value (.pointer (some (a.add f.offset)))) w :=
 (by
  simp only [execOp,hx,Instr.fieldAt,Ca,run_underlying hs,Cc,hf,Cm,fieldPlace,Wy hz,Ce];simp)
theorem Zep {s:Nat} {x:Operand} {i:Nat} {a:Addr} {fs:Array Field} {f:Field} (hs:P.underlying s=some (.struct fs)) (hf:fs[i]? = some f) {sz:Nat} (hz:Xu P f.type (sz+1)) (hx:ev n e x=.pointer (some a))
  (h:W P ops Q rest n (upd e d (.pointer (some (a.add f.offset)))) w):W P ops Q (⟨some d,.fieldAddr s x i,ty,pos,af,none⟩::rest) n e w :=
 Y2 _ rfl rfl (by
  simp only [execOp,hx,Instr.fieldAt,Ca,run_underlying hs,Cc,hf,Cm,fieldPlace,Wy hz,Ce];simp) h
theorem Zki {t el len sz:Nat} {x y:Operand} {a:Addr} {k:IntKind} {i:Int} (ht:P.underlying t=some (.array len el)) (hz:Xu P el sz) (hx:ev n e x=.pointer (some a)) (hy:ev n e y=.int k i)
  (h:0<=i) (A:i < len):(execOp (ev n e) ⟨some d,.indexAddr t x y,ty,pos,af,gd⟩).run P w=.ok (.value (.pointer (some (a.add (i.toNat * sz))))) w :=
 (by
  simp only [execOp,hx,hy,Zv4,asIntOf,Ca,Ce,Cc,run_underlying ht,Cm];simp [h,A,Wy hz])
theorem Zkj {t el len sz:Nat} {x y:Operand} {a:Addr} {k:IntKind} {i:Int} (ht:P.underlying t=some (.array len el)) (hz:Xu P el sz) (hx:ev n e x=.pointer (some a)) (hy:ev n e y=.int k i)
  (A:0<=i) (B:i < len) (h:W P ops Q rest n (upd e d (.pointer (some (a.add (i.toNat * sz))))) w) :
  W P ops Q (⟨some d,.indexAddr t x y,ty,pos,af,none⟩::rest) n e w :=
 Y2 _ rfl rfl (by
  simp only [execOp,hx,hy,Zv4,asIntOf,Ca,Ce,Cc,run_underlying ht,Cm];simp [A,B,Wy hz]) h
theorem Wv {t el len sz b off:Nat} {x y:Operand} {k:IntKind} {i:Int} (off':Nat) (ht:P.underlying t=some (.array len el)) (hz:Xu P el sz) (hx:ev n e x=.pointer (some ⟨b,off,none⟩)) (hy:ev n e y=.int k i)
  (h:0<=i) (A:i < len) (ho:off+i.toNat * sz=off'):(execOp (ev n e) ⟨some d,.indexAddr t x y,ty,pos,af,gd⟩).run P w=.ok (.value (.pointer (some ⟨b,off',none⟩))) w :=
 by have:=Zki (P:=P) (w:=w) (d:=d) (ty:=ty) (pos:=pos) (af:=af) (gd:=gd) ht hz hx hy h A; rwa [Tt,ho] at this
theorem X0 {t el len sz b off:Nat} {x y:Operand} {k:IntKind} {i:Int} (off':Nat) (ht:P.underlying t=some (.array len el)) (hz:Xu P el sz) (hx:ev n e x=.pointer (some ⟨b,off,none⟩)) (hy:ev n e y=.int k i)
  (A:0<=i) (B:i < len) (ho:off+i.toNat * sz=off') (h:W P ops Q rest n (upd e d (.pointer (some ⟨b,off',none⟩))) w) :
  W P ops Q (⟨some d,.indexAddr t x y,ty,pos,af,none⟩::rest) n e w :=
 Zkj ht hz hx hy A B (by rw [Tt,ho]; exact h)
theorem Yq {s b off:Nat} {x:Operand} {i:Nat} {fs:Array Field} {f:Field} (off':Nat) (hs:P.underlying s=some (.struct fs)) (hf:fs[i]? = some f) {sz:Nat} (hz:Xu P f.type (sz+1)) (hx:ev n e x=.pointer (some ⟨b,off,none⟩))
  (ho:off+f.offset=off'):(execOp (ev n e) ⟨some d,.fieldAddr s x i,ty,pos,af,gd⟩).run P w=.ok (.value (.pointer (some ⟨b,off',none⟩))) w :=
 by have:=Zeo (P:=P) (w:=w) (d:=d) (ty:=ty) (pos:=pos) (af:=af) (gd:=gd) hs hf hz hx; rwa [Tt,ho] at this
theorem Z0 {s b off:Nat} {x:Operand} {i:Nat} {fs:Array Field} {f:Field} (off':Nat) (hs:P.underlying s=some (.struct fs)) (hf:fs[i]? = some f) {sz:Nat} (hz:Xu P f.type (sz+1)) (hx:ev n e x=.pointer (some ⟨b,off,none⟩))
  (ho:off+f.offset=off') (h:W P ops Q rest n (upd e d (.pointer (some ⟨b,off',none⟩))) w):W P ops Q (⟨some d,.fieldAddr s x i,ty,pos,af,none⟩::rest) n e w :=
 Zep hs hf hz hx (by rw [Tt,ho]; exact h)
theorem Vo {s:Nat} {A:Addr} {j:Nat} {x:Operand} {i:Nat} {fs:Array Field} {f:Field} (j':Nat) (hs:P.underlying s=some (.struct fs)) (hf:fs[i]? = some f) {sz:Nat} (hz:Xu P f.type (sz+1)) (hx:ev n e x=.pointer (some (A.add j)))
  (ho:j+f.offset=j'):(execOp (ev n e) ⟨some d,.fieldAddr s x i,ty,pos,af,gd⟩).run P w=.ok (.value (.pointer (some (A.add j')))) w :=
 by have:=Zeo (P:=P) (w:=w) (d:=d) (ty:=ty) (pos:=pos) (af:=af) (gd:=gd) hs hf hz hx; rwa [Ql,ho] at this
theorem Qm {s:Nat} {A:Addr} {j:Nat} {x:Operand} {i:Nat} {fs:Array Field} {f:Field} (j':Nat) (hs:P.underlying s=some (.struct fs)) (hf:fs[i]? = some f) {sz:Nat} (hz:Xu P f.type (sz+1)) (hx:ev n e x=.pointer (some (A.add j)))
  (ho:j+f.offset=j') (h:W P ops Q rest n (upd e d (.pointer (some (A.add j')))) w):W P ops Q (⟨some d,.fieldAddr s x i,ty,pos,af,none⟩::rest) n e w :=
 Zep hs hf hz hx (by rw [Ql,ho]; exact h)
theorem Y3 {t el len c sz:Nat} {x y:Operand} {A:Addr} {k:IntKind} {i:Int} (ht:P.underlying t=some (.slice el)) (hz:Xu P el sz) (hx:ev n e x=.slice (some A) len c) (hy:ev n e y=.int k i)
  (h:0<=i) (B:i < len):(execOp (ev n e) ⟨some d,.indexAddr t x y,ty,pos,af,gd⟩).run P w=.ok (.value (.pointer (some (A.add (i.toNat * sz))))) w :=
 (by
  simp only [execOp,hx,hy,Zv4,asIntOf,Ca,Ce,Cc,run_underlying ht];simp [h,B,Wy hz])
theorem Yn {t el len c sz:Nat} {x y:Operand} {A:Addr} {k:IntKind} {i:Int} (ht:P.underlying t=some (.slice el)) (hz:Xu P el sz) (hx:ev n e x=.slice (some A) len c) (hy:ev n e y=.int k i)
  (B:0<=i) (I:i < len) (h:W P ops Q rest n (upd e d (.pointer (some (A.add (i.toNat * sz))))) w) :
  W P ops Q (⟨some d,.indexAddr t x y,ty,pos,af,none⟩::rest) n e w :=
 Y2 _ rfl rfl (by
  simp only [execOp,hx,hy,Zv4,asIntOf,Ca,Ce,Cc,run_underlying ht];simp [B,I,Wy hz]) h
theorem G5 {t el len:Nat} {x y:Operand} {cs:List Value} {k:IntKind} {i:Int} (v:Value) (ht:P.underlying t=some (.array len el)) (hx:ev n e x=.agg cs.toArray) (hy:ev n e y=.int k i)
  (B:0<=i) (I:i < len) (A:ScaT P el) (hv:cs[i.toNat]? = some v) (h:W P ops Q rest n (upd e d v) w) :
  W P ops Q (⟨some d,.index t x y,ty,pos,af,none⟩::rest) n e w :=
 Y2 v rfl rfl (by
  simp only [execOp,hx,hy,Instr.index,asIntOf,Ca,Ce,Cc,run_underlying ht];rw [if_pos ⟨B,I⟩];simp [Wy A.size,part,Lx A,hv]) h
theorem G6 {t:Nat} {l:List (Nat×Operand)} (vs:List (Nat×Value)) {v:Value} (hp:l.map (λp=>(p.1,ev n e p.2))=vs) (hr:(Instr.build t vs.toArray).run P w=.ok v w):(execOp (ev n e) ⟨some d,.build t l.toArray,ty,pos,af,gd⟩).run P w=.ok (.value v) w :=
 (by
  have:(l.toArray.map λ(x:Nat×Operand)=>match x with | (i,x)=>(i,ev n e x))=vs.toArray:=by
   rw [<- hp]; simp
  simp only [execOp,Ca,this,hr,Cc,Ce])
theorem Wk {t:Nat} {l:List (Nat×Operand)} (vs:List (Nat×Value)) {v:Value} (hp:l.map (λp=>(p.1,ev n e p.2))=vs) (hr:(Instr.build t vs.toArray).run P w=.ok v w) (h:W P ops Q rest n (upd e d v) w) :
  W P ops Q (⟨some d,.build t l.toArray,ty,pos,af,none⟩::rest) n e w :=
 Y2 v rfl rfl (by
  have:(l.toArray.map λ(x:Nat×Operand)=>match x with | (i,x)=>(i,ev n e x))=vs.toArray:=by
   rw [<- hp]; simp
  simp only [execOp,Ca,this,hr,Cc,Ce]) h
theorem Zf {f:FuncId} {l:List Operand} {fn:Func} {at_:Array Nat} (vs:List Value) (R:Ending->World->Prop) (hf:P.funcs[f]? = some fn) (hb:fn.body.isNone=false) (hne:(fn.name == "runtime.NumGoroutine")=false)
  (hp:l.map (ev n e)=vs) (hc:Calls P f vs.toArray w R)
  (h:∀ ret w'',R ret w''->∃ v,ret=.returned v/\W P ops Q rest n (upd e d v) w'') :
  W P ops Q (⟨some d,.call { callee:=.value (.func f),args:=l.toArray,argTypes:=at_ }, ty,pos,af,none⟩::rest) n e w:=by
 refine Zef (d:=d) f vs.toArray R (λg b hg=>by cases hg) rfl ?_ hc h
 have:l.toArray.map (ev n e)=vs.toArray:=by rw [<- hp]; simp
 simp only [execOp,resolve,this,ev,Zxr,Ca,Ce,Cc,invoke,callFunc];simp only [run_program,Ca,Cc,hf,hne,hb,Zv5,if_false,Ce,Array.append_empty,Array.empty_append]
theorem Yt (B:Ctx X w0 w M Ps) {t:Nat} {z:Value} (cs:List Value) (hz:Je P t z) (hcs:z.cells.toList=cs)
  (h:∀ b w',Bel w w'->Ctx X w0 w' (blk b t cs::M) Ps->W P ops Q rest n (upd e d (.pointer (some ⟨b,0,none⟩))) w') :
  W P ops Q (⟨some d,.alloc t,ty,pos,af,none⟩::rest) n e w:=by
 have A:Bel w (w.alloc (.cells z.cells t)):=Bel.alloc _ _;refine Y2 (.pointer (some ⟨w.heap.size,0,none⟩)) rfl rfl ?_ (h w.heap.size (w.alloc (.cells z.cells t)) A (B.push A _ ?_ ?_))
 ·simp [execOp,Instr.alloc,G2 hz,newVar,newRow]
 ·show (w.alloc _).heap[w.heap.size]? = _
  rw [heap_alloc_new,<- hcs]
 ·simp [blk]
theorem Yg (B:Ctx X w0 w M Ps) {t:Nat} {x:Operand} {v:Value} (cs:List Value) (hx:ev n e x=v) (hcs:v.cells.toList=cs)
  (h:∀ b w',Bel w w'->Ctx X w0 w' (blk b t cs::M) Ps->W P ops Q rest n (upd e d (.pointer (some ⟨b,0,none⟩))) w') :
  W P ops Q (⟨some d,.box t x,ty,pos,af,none⟩::rest) n e w:=by
 have A:Bel w (w.alloc (.cells v.cells t)):=Bel.alloc _ _;refine Y2 (.pointer (some ⟨w.heap.size,0,none⟩)) rfl rfl ?_ (h w.heap.size (w.alloc (.cells v.cells t)) A (B.push A _ ?_ ?_))
 ·simp [execOp,Instr.box,hx,newVar,newRow]
 ·show (w.alloc _).heap[w.heap.size]? = _
  rw [heap_alloc_new,<- hcs]
 ·simp [blk]
theorem Y6 (h:Ctx X w0 w M Ps) (k:Nat) {b t off sz ty':Nat} {x:Operand} {cs:List Value} (seg:List Value) (hk:M[k]? = some (blk b t cs)) (A:AggT P ty' sz) (hx:ev n e x=.pointer (some ⟨b,off,none⟩))
  (hs:(cs.drop off).take sz=seg) (hl:seg.length=sz):(execOp (ev n e) ⟨some d,.load ty' x,ty,pos,af,gd⟩).run P w=.ok (.value (.agg seg.toArray)) w :=
 (by simp [execOp,hx,C7,Cm,N3 A (Jv (h.Ix k hk) hs) hl])
theorem Yr (A:Ctx X w0 w M Ps) (k:Nat) {b t off sz ty':Nat} {x:Operand} {cs:List Value} (seg:List Value) (hk:M[k]? = some (blk b t cs)) (B:AggT P ty' sz) (hx:ev n e x=.pointer (some ⟨b,off,none⟩))
  (hs:(cs.drop off).take sz=seg) (hl:seg.length=sz) (h:W P ops Q rest n (upd e d (.agg seg.toArray)) w) :
  W P ops Q (⟨some d,.load ty' x,ty,pos,af,none⟩::rest) n e w :=
 Y2 _ rfl rfl (by simp [execOp,hx,C7,Cm,N3 B (Jv (A.Ix k hk) hs) hl]) h
theorem Yj (h:Ctx X w0 w M Ps) (k:Nat) {b t off ty':Nat} {x:Operand} {cs:List Value} (v:Value) (hk:M[k]? = some (blk b t cs)) (A:ScaT P ty') (hx:ev n e x=.pointer (some ⟨b,off,none⟩))
  (hs:cs[off]? = some v):(execOp (ev n e) ⟨some d,.load ty' x,ty,pos,af,gd⟩).run P w=.ok (.value v) w :=
 (by
  have B:(cs.drop off).take 1=[v]:=by
   rw [Zv6];simp [hs]
  simp [execOp,hx,C7,Cm,Ly A (Jv (h.Ix k hk) B)])
theorem Yc (A:Ctx X w0 w M Ps) (k:Nat) {b t off ty':Nat} {x:Operand} {cs:List Value} (v:Value) (hk:M[k]? = some (blk b t cs)) (B:ScaT P ty') (hx:ev n e x=.pointer (some ⟨b,off,none⟩))
  (hs:cs[off]? = some v) (h:W P ops Q rest n (upd e d v) w) :
  W P ops Q (⟨some d,.load ty' x,ty,pos,af,none⟩::rest) n e w :=
 Y2 _ rfl rfl (by
  have I:(cs.drop off).take 1=[v]:=by
   rw [Zv6];simp [hs]
  simp [execOp,hx,C7,Cm,Ly B (Jv (A.Ix k hk) I)]) h
theorem Z7 (A:Ctx X w0 w M Ps) (k:Nat) {b t off sz ty':Nat} {x y:Operand} {cs:List Value} {v:Value} (vc:List Value) (cs':List Value) (hk:M[k]? = some (blk b t cs)) (B:Xu P ty' sz) (hx:ev n e x=.pointer (some ⟨b,off,none⟩))
  (hy:ev n e y=v) (hv:v.cells.toList=vc) (hl:vc.length=sz) (I:vc.all (·.oneCell')=true) (ho:off+sz<=cs.length) (hcs:Xz cs off vc=cs')
  (h:∀ w',Ctx X w0 w' (M.set k (blk b t cs')) Ps->W P ops Q rest n e w') :
  W P ops Q (⟨none,.store ty' x y,ty,pos,af,none⟩::rest) n e w:=by
 obtain ⟨w',hr,hb,hos,hta,hou,hsz,hother⟩:=Lz (P:=P) B (A.Ix k hk) hv hl I ho;refine Uq rfl rfl ?_ (h w' (A.turn k hk hos hta hou (by omega) (Vy _ _ _ _ hr) (λc _ hc=>hother c (by simpa [blk] using hc)) (hcs ▸ hb) (λc hc=>.inl hc)))
 simp [execOp,hx,hy,Instr.storeAt,Cm,hr]
end
def Z1 {S:Type} (body:Nat->S->(S->Prop)->Prop) (exit:S->Prop):Nat->Nat->S->Prop
 | 0,_,s=>exit s
 | r+1,i,s=>body i s (λs'=>Z1 body exit r (i+1) s')
def G7 {S:Type} (body:S->(S->Prop)->Prop):Nat->S->Prop
 | 0,_=>False
 | k+1,s=>body s (G7 body k)
def Xv {S:Type} (body:S->(S->Prop)->Prop) (s:S):Prop:=∃ k,G7 body k s
structure A8 where
 x0:Int
 x1:Int
 x2:Int
 x3:Int
 x4:Int
 x5:Int
 x6:Int
 x7:Int
 deriving DecidableEq,Inhabited
namespace A8
def enc (k:IntKind) (a:A8):List Value:=[.int k a.x0,.int k a.x1,.int k a.x2,.int k a.x3,.int k a.x4,.int k a.x5,.int k a.x6,.int k a.x7]
def zero:A8:=⟨0,0,0,0,0,0,0,0⟩
def get (a:A8):Nat->Int
 | 0=>a.x0
 | 1=>a.x1
 | 2=>a.x2
 | 3=>a.x3
 | 4=>a.x4
 | 5=>a.x5
 | 6=>a.x6
 | 7=>a.x7
 | _=>0
def set (a:A8) (i:Nat) (v:Int):A8:=match i with
 | 0=>{ a with x0:=v }
 | 1=>{ a with x1:=v }
 | 2=>{ a with x2:=v }
 | 3=>{ a with x3:=v }
 | 4=>{ a with x4:=v }
 | 5=>{ a with x5:=v }
 | 6=>{ a with x6:=v }
 | 7=>{ a with x7:=v }
 | _=>a
theorem enc_get (k:IntKind) (a:A8) {i:Nat} (h:i < 8):(a.enc k)[i]? = some (.int k (a.get i)):=by
 match i,h with
 | 0,_=>rfl
 | 1,_=>rfl
 | 2,_=>rfl
 | 3,_=>rfl
 | 4,_=>rfl
 | 5,_=>rfl
 | 6,_=>rfl
 | 7,_=>rfl
theorem enc_set (k:IntKind) (a:A8) {i:Nat} (v:Int) (h:i < 8):Xz (a.enc k) i [.int k v]=(a.set i v).enc k:=by
 match i,h with
 | 0,_=>rfl
 | 1,_=>rfl
 | 2,_=>rfl
 | 3,_=>rfl
 | 4,_=>rfl
 | 5,_=>rfl
 | 6,_=>rfl
 | 7,_=>rfl
end A8
theorem i64_in (x:Int) (h:-9223372036854775808<=x/\x<=9223372036854775807):Zwt.wrap x=x:=IntWalk.i64_in x h
theorem Z2 {i n:Nat} (h:i < n) (hn:n<=9223372036854775807):Zwt.wrap ((i:Int)+1)=((i+1:Nat):Int):=by
 rw [i64_in _ (by omega)]
 omega
@[reducible] def joinP {S:Type} (F:(S->Prop)->Prop) (T:S->Prop):Prop:=F T
theorem Zaa {S:Type} {F:(S->Prop)->Prop} {T:S->Prop} (h:joinP F T):∃ J:S->Prop,(∀ s,J s->T s)/\F J:=⟨T,λ_ h=>h,h⟩
end Vc
namespace Vc
open Go Go.RowKit
def N6 (P:Program) (n:Nat) (e:Env) (w:World):ResultVar->Value->Prop
 | .tmp t,v=>ev n e (.tmp t)=v
 | .cell t ty,v=>∃ a,ev n e (.tmp t)=.pointer (some a)/\(loadVar ty a).run P w=.ok v w
section
variable {P:Program} {n:Nat} {e:Env} {w:World} {fn:Func} {R:Ending->World->Prop}
theorem Zeq (t:Nat):(actOf n e).tmps.getD t undef=ev n e (.tmp t):=by
 have:=congrFun (Up n e) (.tmp t);exact this
def G8 (tmps:Array Value):ResultVar->Sem Value:=fun
 | .tmp t=>pure (tmps.getD t undef)
 | .cell a t=>do loadVar t (<- asAddr (tmps.getD a undef))
theorem Zer (tmps:Array Value):results fn tmps=(do
 let vs <- fn.results.mapM (G8 tmps)
 pure (if h:vs.size=1 then vs[0] else .tuple vs)):=by
 unfold results
 congr 1
theorem G9 {r:ResultVar} {v:Value} (h:N6 P n e w r v):(G8 (actOf n e).tmps r).run P w=.ok v w:=by
 cases r with
 | tmp t=>simp only [G8,Zeq]; rw [show ev n e (.tmp t)=v from h]; rfl
 | cell t ty =>
  obtain ⟨a,A,B⟩:=h;simp only [G8,Zeq,A,asAddr,Ca,Ce,Cc,B]
theorem Tw (hr:fn.results=#[]) (h:R (.returned (.tuple #[])) w) {x:Exit} (hx:x=.ret\/x=.normal):bodyPost P fn R x (actOf n e) w:=by
 have:(results fn (actOf n e).tmps).run P w=.ok (.tuple #[]) w:=by simp [results,hr]
 rcases hx with rfl | rfl <;> exact⟨rfl,_,this,h⟩
theorem Zj {r:ResultVar} {v:Value} (hr:fn.results=#[r]) (A:N6 P n e w r v) (h:R (.returned v) w) {x:Exit} (hx:x=.ret\/x=.normal):bodyPost P fn R x (actOf n e) w:=by
 have:(results fn (actOf n e).tmps).run P w=.ok v w:=by
  have:=G9 A;rw [Zer,hr];simp only [List.mapM_toArray,List.mapM_cons,List.mapM_nil,Ca,Sem.run_map,G9 A,Cc,Ce]
  rfl
 rcases hx with rfl | rfl <;> exact⟨rfl,_,this,h⟩
theorem Jw {r s:ResultVar} {v u:Value} (hr:fn.results=#[r,s]) (A:N6 P n e w r v) (B:N6 P n e w s u) (h:R (.returned (.tuple #[v,u])) w) {x:Exit} (hx:x=.ret\/x=.normal) :
  bodyPost P fn R x (actOf n e) w:=by
 have:(results fn (actOf n e).tmps).run P w=.ok (.tuple #[v,u]) w:=by
  rw [Zer,hr];simp only [List.mapM_toArray,List.mapM_cons,List.mapM_nil,Ca,Sem.run_map,G9 A,G9 B,Cc,Ce]
  rfl
 rcases hx with rfl | rfl <;> exact⟨rfl,_,this,h⟩
theorem Zg {t:Nat} {v:Value} (h:ev n e (.tmp t)=v):N6 P n e w (.tmp t) v:=h
section
variable {X:Nat->Prop} {w0:World} {M Ps:List Item}
theorem Wq (h:Ctx X w0 w M Ps) (k:Nat) {b ty t sz:Nat} {tt:Nat} {cs:List Value} (hk:M[k]? = some (blk b ty cs)) (A:AggT P tt sz) (hx:ev n e (.tmp t)=.pointer (some ⟨b,0,none⟩)) (hl:cs.length=sz) :
  N6 P n e w (.cell t tt) (.agg cs.toArray) :=
 ⟨_,hx,N3 A (Jv (sz:=cs.length) (h.Ix k hk) (by simp)) hl⟩
end
end
section
variable {P:Program} {c:Code} {Q:Exit->Act->World->Prop} {n:Nat} {e:Env} {w:World}
theorem Zy {id:Nat} {a:Act} (h:Q .normal a w):Zv7 id Q (.exit id) a w:=by simp [Zv7,h]
theorem Zi {K:Act->World->Prop} {id:Nat} {a:Act} (h:Q (.exit id) a w):Exit.then K Q (.exit id) a w:=h
theorem Zn {K:Act->World->Prop} {a:Act} (h:Q .ret a w):Exit.then K Q .ret a w:=h
theorem Ze {K:Act->World->Prop} {a:Act} (h:K a w):Exit.then K Q .normal a w:=h
theorem Z9 {id:Nat} {a:Act} (h:Q .ret a w):Zv7 id Q .ret a w:=h
theorem Zr {id:Nat} {a:Act} (h:Q .normal a w):Zv7 id Q .normal a w:=h
theorem Yh {S:Type} (B:Nat->S->(S->Prop)->Prop) (E:S->Prop) (I:Nat->S->Env->World->Prop) (N:Nat)
  (body:∀ i s e w (next:S->Prop) (K:Act->World->Prop),i < N->I i s e w->B i s next->(∀ s' e' w',I (i+1) s' e' w'->next s'->K (actOf n e') w')->c.wp P (Exit.then K Q) (actOf n e) w)
  (last:∀ s e w (K:Act->World->Prop),I N s e w->E s->c.wp P (Exit.then K Q) (actOf n e) w)
  {s0:S} (O:I 0 s0 e w) (U:Z1 B E N 0 s0):(Code.loop c).wp P Q (actOf n e) w:=by
 have L:∀ r i s e w,i+r=N->I i s e w->Z1 B E r i s->Code.rounds P c Q (r+1) (actOf n e) w:=by
  intro r
  induction r with
  | zero =>
   intro i s e w hi A h;obtain rfl:i=N:=by omega
   exact last s e w _ A h
  | succ r ih =>
   intro i s e w hi A h;exact body i s e w _ _ (by omega) A h (λs' e' w' hI' h'=>ih (i+1) s' e' w' (by omega) hI' h')
 exact wp_loop_rounds (N+1) (L N 0 s0 e w (by omega) O U)
theorem Jb {S:Type} (B:S->(S->Prop)->Prop) (I:S->Env->World->Prop)
  (body:∀ s e w (next:S->Prop) (K:Act->World->Prop),I s e w->B s next->(∀ s' e' w',I s' e' w'->next s'->K (actOf n e') w')->c.wp P (Exit.then K Q) (actOf n e) w)
  {s0:S} (U:I s0 e w) (A:Xv B s0):(Code.loop c).wp P Q (actOf n e) w:=by
 obtain ⟨k,A⟩:=A
 have L:∀ k s e w,I s e w->G7 B k s->Code.rounds P c Q k (actOf n e) w:=by
  intro k
  induction k with
  | zero=>intro s e w O h; exact h.elim
  | succ k ih =>
   intro s e w O h;exact body s e w _ _ O h (λs' e' w' hI' h'=>ih s' e' w' hI' h')
 exact wp_loop_rounds k (L k s0 e w U A)
end
structure Ty (α:Type) where
 sz:Nat
 rep:α->List Value->List Nat->World->Prop
 keep:∀ {x cs fp} {w w':World}, (∀ b,b∈fp->w'.heap[b]? = w.heap[b]?)->rep x cs fp w->rep x cs fp w'
 low:∀ {x cs fp w}, rep x cs fp w->∀ b,b∈fp->b < w.heap.size
 len:∀ {x cs fp w}, rep x cs fp w->cs.length=sz
 one:∀ {x cs fp w}, rep x cs fp w->∀ u,u∈cs->u.oneCell'=true
 more:∀ {x cs fp fp' w}, rep x cs fp w->(∀ b,b∈fp->b∈fp')->(∀ b,b∈fp'->b < w.heap.size)->rep x cs fp' w
theorem N7 {w w':World} {fp:List Nat} (h:∀ b,b∈fp->w'.heap[b]? = w.heap[b]?) (hl:∀ b,b∈fp->b < w.heap.size):∀ b,b∈fp->b < w'.heap.size:=by
 intro b hb;have:=hl b hb;have e:=h b hb;rcases Fb b w'.heap.size with hl | hl
 ·exact hl
 ·rw [Array.getElem?_eq_none hl,Array.getElem?_eq_getElem this] at e; cases e
def Ty.item {α:Type} (t:Ty α) (x:α) (cs:List Value) (fp:List Nat):Item where
 fp:=fp
 holds w:=t.rep x cs fp w
 keep _ _ h hw:=t.keep h hw
 low _ hw:=t.low hw
structure Enc (α:Type) where
 sz:Nat
 pos:0 < sz
 enc:α->List Value
 len:∀ x,(enc x).length=sz
 one:∀ x u,u∈enc x->u.oneCell'=true
def Enc.ty {α:Type} (E:Enc α):Ty α where
 sz:=E.sz
 rep x cs fp w:=(∀ b,b∈fp->b < w.heap.size)/\cs=E.enc x
 keep h hw:=⟨N7 h hw.1,hw.2⟩
 low hw:=hw.1
 len hw:=hw.2 ▸ E.len _
 one hw u hu:=E.one _ u (hw.2 ▸ hu)
 more hw _ h':=⟨h',hw.2⟩
def Enc.encs {α:Type} (E:Enc α) (xs:List α):List Value:=xs.flatMap E.enc
theorem Enc.encs_len {α:Type} (E:Enc α) (xs:List α):(E.encs xs).length=xs.length * E.sz:=by
 induction xs with
 | nil=>simp [Enc.encs]
 | cons x xs ih=>simp [Enc.encs] at ih ⊢; rw [E.len,ih,Cs]; omega
theorem Enc.encs_seg {α:Type} [Inhabited α] (E:Enc α) (xs:List α) (i:Nat) (h:i < xs.length):((E.encs xs).drop (i * E.sz)).take E.sz=E.enc (xs.getD i Ci):=by
 induction xs generalizing i with
 | nil=>simp at h
 | cons x xs ih =>
  cases i with
  | zero =>
   simp only [Enc.encs,F8,Zv8,F9];rw [Zv9 (by rw [E.len]; exact Cg _),Fs (by rw [E.len]; exact Cg _)]
   rfl
  | succ i =>
   simp only [Enc.encs,F8];rw [Cs,C3,Fl (i * E.sz),<- Ft,Fu (E.len x)]
   exact ih i (by simpa using h)
theorem Enc.encs_append {α:Type} (E:Enc α) (xs ys:List α):E.encs (xs++ys)=E.encs xs++E.encs ys:=by simp [Enc.encs]
theorem Enc.encs_one' {α:Type} (E:Enc α) (xs:List α) (u:Value) (h:u∈E.encs xs):u.oneCell'=true:=by
 simp only [Enc.encs,List.mem_flatMap] at h
 obtain ⟨x,_,hu⟩:=h;exact E.one x u hu
def Ty.all {α:Type} (t:Ty α) (xs:List α) (cs:List Value) (fp:List Nat) (w:World):Prop :=
 (∀ b,b∈fp->b < w.heap.size)/\cs.length=xs.length * t.sz/\(∀ u,u∈cs->u.oneCell'=true)/\∀ i (h:i < xs.length),t.rep xs[i] ((cs.drop (i * t.sz)).take t.sz) fp w
def Ty.allItem {α:Type} (t:Ty α) (xs:List α) (cs:List Value) (fp:List Nat):Item where
 fp:=fp
 holds w:=t.all xs cs fp w
 keep _ _ h hw:=⟨N7 h hw.1,hw.2.1,hw.2.2.1,λi hi=>t.keep h (hw.2.2.2 i hi)⟩
 low _ hw:=hw.1
def Ty.sl {α:Type} (t:Ty α):Ty (List α) where
 sz:=1
 rep xs cs fp w:=∃ v ecs,cs=[v]/\(rdr t.sz v xs.length ecs fp).holds w/\t.all xs ecs fp w
 keep h hw:=by
  obtain ⟨v,ecs,rfl,I,B⟩:=hw;exact⟨v,ecs,rfl,Item.keep _ _ _ h I,(t.allItem _ ecs _).keep _ _ h B⟩
 low hw:=by
  obtain ⟨v,ecs,rfl,I,B⟩:=hw;exact B.1
 len hw:=by obtain ⟨v,ecs,rfl,I,B⟩:=hw; rfl
 one hw u hu:=by
  obtain ⟨v,ecs,rfl,⟨_,_,_,A,c,rfl,_⟩,B⟩:=hw;obtain rfl:u=_:=by simpa using hu
  rfl
 more:=by
  intro xs cs fp fp' w hw h h';obtain ⟨v,ecs,rfl,⟨V,L,O,A,c,rfl,anc,U⟩,B⟩:=hw;refine⟨_,ecs,rfl,⟨h',L,O,A,c,rfl,anc,λhn=>?_⟩,h',B.2.1,B.2.2.1,λi hi=>t.more (B.2.2.2 i hi) h h'⟩
  obtain ⟨a,rfl,ha,hc⟩:=U hn;exact⟨a,rfl,h _ ha,hc⟩
section
variable {α:Type} {t:Ty α} {xs:List α} {v:Value} {fp:List Nat} {w:World}
theorem Ea (h:t.sl.rep xs [v] fp w) (i:Nat) (hi:i < xs.length):∃ A c,v=.slice (some A) xs.length c/\∃ cs,cs.length=t.sz/\Wi w (A.add (i * t.sz)) cs/\t.rep xs[i] cs fp w:=by
 obtain ⟨v',ecs,e,⟨I,L,O,A,c,rfl,anc,B⟩,U⟩:=h;obtain rfl:v=_:=by simpa using e
 obtain ⟨a,rfl,ha,hc⟩:=B (by omega)
 refine⟨a,c,rfl,(ecs.drop (i * t.sz)).take t.sz,t.len (U.2.2.2 i hi),?_,U.2.2.2 i hi⟩
 intro j u hj;rw [Ql];refine hc _ u ?_
 rw [List.getElem?_take] at hj
 split at hj
 ·simpa using hj
 ·cases hj
theorem Sk (h:t.sl.rep xs [v] fp w):∃ A c,v=.slice A xs.length c:=by
 obtain ⟨v',ecs,e,⟨B,I,L,A,c,rfl,anc,O⟩,U⟩:=h;obtain rfl:v=_:=by simpa using e
 exact⟨A,c,rfl⟩
theorem Yz (h:t.sl.rep xs [v] fp w):xs.length<=9223372036854775807:=by
 obtain ⟨v',ecs,e,⟨I,L,B,A,c,rfl,anc,O⟩,U⟩:=h;simpa [maxLen] using B
end
theorem Zkk {α:Type} [Inhabited α] {E:Enc α} {xs:List α} {v:Value} {fp:List Nat} {w:World} (h:E.ty.sl.rep xs [v] fp w) (i:Nat) (hi:i < xs.length) :
  ∃ A c,v=.slice (some A) xs.length c/\Wi w (A.add (i * E.sz)) (E.enc (xs.getD i Ci)):=by
 obtain ⟨A,c,hv,cs,hl,hc,hr⟩:=Ea h i hi;refine⟨A,c,hv,?_⟩
 have:xs.getD i Ci=xs[i]:=by simp [Co,hi]
 rw [this];rwa [hr.2] at hc
theorem Zkl {w:World} {a:Addr} {seg sub:List Value} {o k:Nat} (h:Wi w a seg) (hs:(seg.drop o).take k=sub):Wi w (a.add o) sub:=by
 intro j u hj;rw [Ql];refine h _ u ?_
 rw [<- hs,List.getElem?_take] at hj
 split at hj
 ·simpa using hj
 ·cases hj
section
variable {sz n:Nat} {ty:Nat} {v:Value} {cs:List Value} {w:World}
theorem L0 (h:(own ty sz v n cs).holds w):cs.length=n * sz:=h.1
theorem V8 (h:(own ty sz v n cs).holds w):∃ A c,v=.slice A n c:=by
 rcases h.2 with ⟨rfl,rfl⟩ | ⟨g,cap,cur,rfl,_⟩
 ·exact⟨none,0,rfl⟩
 ·exact⟨_,cap,rfl⟩
theorem Zab (h:(own ty sz v n cs).holds w) (hn:0 < n):∃ g cap,v=.slice (some ⟨g,0,none⟩) n cap/\Wi w ⟨g,0,none⟩ cs:=by
 rcases h.2 with ⟨rfl,rfl⟩ | ⟨g,cap,cur,rfl,_,hh,hc,_,hz,ht⟩
 ·omega
 ·refine⟨g,cap,rfl,λj u hj=>?_⟩
  rw [Tt,cell_of_row w g _ cur ty (0,0) hh];rw [<- ht,List.getElem?_take] at hj
  split at hj
  ·simpa using hj
  ·cases hj
theorem Wl (h:(own ty sz v n cs).holds w):(rdr sz v n cs v.ownBlock.toList).holds w:=by
 refine⟨Item.low _ _ h,h.1,?_,?_⟩
 ·rcases h.2 with ⟨rfl,rfl⟩ | ⟨g,cap,cur,rfl,_,hh,hc,hm,hz,ht⟩
  ·simp [maxLen]
  ·omega
 ·obtain ⟨A,c,rfl⟩:=V8 h;refine⟨A,c,rfl,?_,λhn=>?_⟩
  ·rcases h.2 with ⟨e,rfl⟩ | ⟨g,cap,cur,e,_,hh,hc,hm,hz,ht⟩
   ·exact Fq _
   ·injection e with B I L; omega
  obtain ⟨g,cap,e,hc⟩:=Zab h hn
  injection e with B I L
  subst B;exact⟨_,rfl,by simp [Fe],hc⟩
theorem Yu {α:Type} {E:Enc α} {xs:List α} (h:(own ty E.sz v xs.length (E.encs xs)).holds w):E.ty.sl.rep xs [v] v.ownBlock.toList w:=by
 refine⟨v,E.encs xs,rfl,Wl h,Item.low _ _ h,E.encs_len xs,λu hu=>E.encs_one' xs u hu,λi hi=>⟨Item.low _ _ h,?_⟩⟩
 have:Inhabited α:=⟨xs[i]⟩;have e:=E.encs_seg xs i hi;have A:xs.getD i Ci=xs[i]:=by simp [Co,hi]
 rw [A] at e
 exact e
theorem Vp {α:Type} {t:Ty α} {xs:List α} {fp:List Nat} (h:(own ty t.sz v xs.length cs).holds w) (ha:t.all xs cs fp w):t.sl.rep xs [v] (v.ownBlock.toList++fp) w:=by
 have hl:∀ b,b∈v.ownBlock.toList++fp->b < w.heap.size:=by
  intro b hb;rcases Ch.1 hb with hb | hb
  ·exact Item.low _ _ h b hb
  ·exact ha.1 b hb
 obtain ⟨O,B,I,A,c,rfl,anc,L⟩:=Wl h;refine⟨_,cs,rfl,⟨hl,B,I,A,c,rfl,anc,λhn=>?_⟩,hl,ha.2.1,ha.2.2.1,λi hi=>t.more (ha.2.2.2 i hi) (λb hb=>Cu _ hb) hl⟩
 obtain ⟨a,rfl,hm,hc⟩:=L hn;exact⟨a,rfl,Cv _ hm,hc⟩
theorem Zkm {α:Type} (t:Ty α) (w:World):t.all [] [] [] w:=⟨by simp,by simp,by simp,λi hi=>absurd hi (by simp)⟩
theorem Zkn {α:Type} {t:Ty α} {xs:List α} {x:α} {es:List Value} {fp fp':List Nat} (h:t.all xs cs fp w) (hx:t.rep x es fp' w):t.all (xs++[x]) (cs++es) (fp++fp') w:=by
 have hl:∀ b,b∈fp++fp'->b < w.heap.size:=by
  intro b hb;rcases Ch.1 hb with hb | hb
  ·exact h.1 b hb
  ·exact t.low hx b hb
 have hle:=t.len hx;refine⟨hl,?_,?_,λi hi=>?_⟩
 ·rw [C8,h.2.1,hle,C8,List.length_singleton,Cs,C3]
 ·intro u hu;rcases Ch.1 hu with hu | hu
  ·exact h.2.2.1 u hu
  ·exact t.one hx u hu
 ·by_cases hlt:i < xs.length
  ·have e:(xs++[x])[i]=xs[i]:=by rw [Zxz hlt]
   rw [e]
   have hb:i * t.sz+t.sz<=cs.length:=by
    rw [h.2.1]
    calc i * t.sz+t.sz=(i+1) * t.sz:=by rw [Cs,C3]
     _<=xs.length * t.sz:=Zww _ hlt
   rw [Zx0 (by omega),Zv9 (by rw [Zwa]; omega)]
   exact t.more (h.2.2.2 i hlt) (λb hb=>Cv _ hb) hl
  ·have hie:i=xs.length:=by simp at hi; omega
   subst hie;have e:(xs++[x])[xs.length]=x:=by simp
   rw [e,<- h.2.1,List.drop_left,Fs (by omega)]
   exact t.more hx (λb hb=>Cu _ hb) hl
end
def Wm (P:Program) (e:Nat) (z:Value) (sz bytes:Nat):Prop:=(P.info? e).map (λi=>(i.zero,i.size,i.bytes))=some (some z,sz,bytes)
section
variable {P:Program} {ops:Array Oper} {Q:Exit->Act->World->Prop} {n:Nat} {e:Env} {w w':World} {rest:List Oper}
variable {X:Nat->Prop} {w0:World} {M Ps:List Item}
variable {d ty:Nat} {pos:String} {af:Array Edge} {gd:Option (Nat×Bool)}
theorem Jq {a:Addr} {sz ty':Nat} {x:Operand} (seg:List Value) (hc:Wi w a seg) (h:AggT P ty' sz) (hx:ev n e x=.pointer (some a)) (hl:seg.length=sz)
  : (execOp (ev n e) ⟨some d,.load ty' x,ty,pos,af,gd⟩).run P w=.ok (.value (.agg seg.toArray)) w :=
 (by simp [execOp,hx,C7,Cm,N3 h hc hl])
theorem Ji {a:Addr} {sz ty':Nat} {x:Operand} (seg:List Value) (hc:Wi w a seg) (A:AggT P ty' sz) (hx:ev n e x=.pointer (some a)) (hl:seg.length=sz)
  (h:W P ops Q rest n (upd e d (.agg seg.toArray)) w):W P ops Q (⟨some d,.load ty' x,ty,pos,af,none⟩::rest) n e w :=
 Y2 _ rfl rfl (by simp [execOp,hx,C7,Cm,N3 A hc hl]) h
theorem Xp {a:Addr} {ty':Nat} {x:Operand} (v:Value) (hc:Wi w a [v]) (h:ScaT P ty') (hx:ev n e x=.pointer (some a))
  : (execOp (ev n e) ⟨some d,.load ty' x,ty,pos,af,gd⟩).run P w=.ok (.value v) w :=
 (by simp [execOp,hx,C7,Cm,Ly h hc])
theorem Ye {a:Addr} {ty':Nat} {x:Operand} (v:Value) (hc:Wi w a [v]) (A:ScaT P ty') (hx:ev n e x=.pointer (some a))
  (h:W P ops Q rest n (upd e d v) w):W P ops Q (⟨some d,.load ty' x,ty,pos,af,none⟩::rest) n e w :=
 Y2 _ rfl rfl (by simp [execOp,hx,C7,Cm,Ly A hc]) h
theorem N8 {t el m c:Nat} {x:Operand} {A:Option Addr} (ht:P.underlying t=some (.slice el)) (hx:ev n e x=.slice A m c)
  : (execOp (ev n e) ⟨some d,.call { callee:=.builtin .len,args:=#[x],argTypes:=#[t] }, ty,pos,af,gd⟩).run P w=.ok (.value (.int .i64 (m:Int))) w :=
 (by
  simp [execOp,resolve,invoke,builtin,hx,Zwx,Ca,run_underlying ht,goInt])
theorem Sl {t el m c:Nat} {x:Operand} {A:Option Addr} (ht:P.underlying t=some (.slice el)) (hx:ev n e x=.slice A m c)
  (h:W P ops Q rest n (upd e d (.int .i64 (m:Int))) w):W P ops Q (⟨some d,.call { callee:=.builtin .len,args:=#[x],argTypes:=#[t] }, ty,pos,af,none⟩::rest) n e w :=
 Y2 _ rfl rfl (by
  simp [execOp,resolve,invoke,builtin,hx,Zwx,Ca,run_underlying ht,goInt]) h
theorem Yd (B:Ctx X w0 w M Ps) {t el len sz:Nat} {l:List (Nat×Operand)} (vs:List (Nat×Value)) (cs:List Value) (hp:l.map (λp=>(p.1,ev n e p.2))=vs)
  (hr:∀ w:World,(Instr.buildSlice t len vs.toArray).run P w=.ok (.slice (some ⟨w.heap.size,0,none⟩) len len) (w.alloc (.cells cs.toArray el))) (hl:cs.length=len * sz) (hm:len<=maxLen)
  (h:∀ b w',Bel w w'->Ctx X w0 w' (own el sz (.slice (some ⟨b,0,none⟩) len len) len cs::M) Ps->W P ops Q rest n (upd e d (.slice (some ⟨b,0,none⟩) len len)) w') :
  W P ops Q (⟨some d,.buildSlice t len l.toArray,ty,pos,af,none⟩::rest) n e w:=by
 have A:Bel w (w.alloc (.cells cs.toArray el)):=Bel.alloc _ _;refine Y2 _ rfl rfl ?_ (h w.heap.size (w.alloc (.cells cs.toArray el)) A (B.push A _ ?_ ?_))
 ·have:(l.toArray.map λ(x:Nat×Operand)=>match x with | (i,x)=>(i,ev n e x))=vs.toArray:=by
   rw [<- hp]; simp
  simp only [execOp,Ca,this,hr,Cc,Ce]
 ·exact World.ownsRow_lit w cs.toArray len (Fq _) hm (by simpa using hl)
 ·simp [own,Fe]
theorem Uu (B:Ctx X w0 w M Ps) {t el sz bytes:Nat} {z:Value} {x y:Operand} {kx ky:IntKind} {m:Nat} (cs:List Value) (ht:P.underlying t=some (.slice el)) (I:Wm P el z sz bytes)
  (hx:ev n e x=.int kx (m:Int)) (hy:ev n e y=.int ky (m:Int)) (hb:m * bytes<=281474976710656) (hm:m<=281474976710656) (hcs:(madeCells z.cells (m * sz)).toList=cs)
  (h:∀ v w',Bel w w'->Ctx X w0 w' (own el sz v m cs::M) Ps->W P ops Q rest n (upd e d v) w') :
  W P ops Q (⟨some d,.makeSlice t x y,ty,pos,af,none⟩::rest) n e w:=by
 obtain ⟨i,hi,hzz⟩:=Zx1.1 I;simp only [Zvs] at hzz
 obtain ⟨w',hrun,L,O⟩:=run_make_full (P:=P) w 0 t el i z sz ht hi hzz.1 hzz.2.1 kx ky m (by rw [hzz.2.2,Zwb]; exact hb) (by unfold maxLen; omega) (Fq _)
 have A:Bel w w':=⟨⟨O.os,O.tape,O.output,O.size,λk hk=>O.block k hk (by simp)⟩,Vy _ _ _ _ hrun⟩
 refine Y2 _ rfl rfl ?_ (h _ w' A (B.push A _ (hcs ▸ L) ?_))
 ·simp [execOp,hx,hy,hrun]
 ·simp [own,Fe]
theorem Jg (V:Ctx X w0 w M Ps) (k:Nat) {t el sz bytes nv m:Nat} {z:Value} {x y:Operand} {v u:Value} {cs B:List Value} {fp:List Nat}
  (ht:P.underlying t=some (.slice el)) (hE:Wm P el z sz bytes) (hzs:z.cells.size=sz) (hsz:0 < sz) (hby:0 < bytes)
  (hk:M[k]? = some (own el sz v nv cs)) (hu:(rdr sz u m B fp).holds w) (h1:∀ q,q∈B->q.oneCell'=true) (hx:ev n e x=v) (hy:ev n e y=u) (hb:(nv+m) * bytes<=140737488355328)
  (h:∀ v' w',Ctx X w0 w' (M.set k (own el sz v' (nv+m) (cs++B))) Ps->W P ops Q rest n (upd e d v') w') :
  W P ops Q (⟨some d,.call { callee:=.builtin .append,args:=#[x,y],argTypes:=#[t,t] }, ty,pos,af,none⟩::rest) n e w:=by
 obtain ⟨i0,hi,hzz⟩:=Zx1.1 hE;simp only [Zvs] at hzz
 have HO:w.ownsRow 0 el sz v nv cs:=V.Ix k hk;obtain ⟨aa,O,ab,A,c,rfl,ac⟩:=hu;have hlen:nv+m<=140737488355328:=Cj (Nat.le_mul_of_pos_right _ hby) hb
 have hrun:∃ I L,(Zwy #[t,t] ty #[v,.slice A m c]).run P w=.ok I L/\L.ownsRow 0 el sz I (nv+m) (cs++B)/\w.grownBy L v.ownBlock/\(I.ownBlock=v.ownBlock\/I.ownBlock=some w.heap.size):=by
  rcases Nat.eq_zero_or_pos m with U | U
  ·subst U;obtain rfl:B=[]:=List.eq_nil_of_length_eq_zero (by simpa using O)
   refine⟨v,w,?_,by simpa using HO,World.grownBy.refl w _,.inl rfl⟩
   rcases HO.2 with ⟨rfl,hn⟩ | ⟨g,cap,cur,rfl,_,_,hnc,_⟩
   ·cases A <;> simp [Zwy,run_underlying ht,Go.sizeOf,typeInfo,hi,Builtin.lenOf,Zx4,loadCells,loadCellsFrom]
   ·cases A <;> simp [Zwy,run_underlying ht,Go.sizeOf,typeInfo,hi,Builtin.lenOf,Zx4,hnc,storeCells,loadCells,loadCellsFrom]
  ·obtain ⟨a,rfl,_,hcells⟩:=ac.2 U;obtain ⟨I,L,hr,h2,h3,_,h5⟩:=run_append_own_at (P:=P) w 0 t ty el i0 z sz bytes ht hi hzz.1 hzz.2.1 hzz.2.2 hzs hsz v nv cs HO a m c B O hcells h1 (by unfold maxLen; omega) hb (Fq _)
   exact⟨I,L,hr,h2,h3,h5⟩
 obtain ⟨I,L,hr,hown,hg,hat⟩:=hrun;refine Y2 I rfl rfl ?_ (h I L (V.turn k hk hg.os hg.tape hg.output hg.size (Vy _ _ _ _ hr) (λb hb' hnb=>hg.block b hb' ?_) hown ?_))
 ·simp only [execOp,resolve,invoke,builtin,Ca,Ce,Cc,List.map_toArray,Fm,List.map_nil,hx,hy,hr]
 ·intro e;exact hnb (by simp [own,<- e])
 ·intro b hbm;simp only [own] at hbm ⊢
  rcases hat with hat | hat
  ·rw [hat] at hbm; exact .inl hbm
  ·rw [hat] at hbm
   have:b=w.heap.size:=by simpa using hbm
   omega
theorem Eb {P:Program} {w:World} {t2 sz nv ty' ksz j g cap:Nat} {cs vc:List Value} {v:Value} (hT:Xu P ty' ksz) (h:(own t2 sz (.slice (some ⟨g,0,none⟩) nv cap) nv cs).holds w)
    (hv:v.cells.toList=vc) (hl:vc.length=ksz) (h1:vc.all (·.oneCell')=true) (ho:j+ksz≤cs.length) :
    ∃ w', (storeVar ty' ⟨g, j, none⟩ v).run P w = .ok () w' ∧ (own t2 sz (.slice (some ⟨g, 0, none⟩) nv cap) nv (Xz cs j vc)).holds w' ∧ w'.os = w.os ∧ w'.tape = w.tape ∧ w'.output = w.output ∧ w'.heap.size = w.heap.size ∧
      ∀ k,k≠g→w'.heap[k]? = w.heap[k]? := by
  have hs:v.cells.size=ksz:=by rw [← Zv2,hv,hl]
  have hlen:cs.length=nv * sz:=L0 h
  rcases h.2 with ⟨e,_⟩ | ⟨g',cap',cur,e,_,hh,hc,hm,hz,ht⟩
  · cases e
  · injection e with e1 e2 e3
    injection e1 with e1
    injection e1 with e1
    subst e1 e3
    have hcl:nv * sz≤cur.size:=by rw [hz]; exact Zww _ hc
    have hr:=run_storeCells_at (P:=P) g j t2 vc 0 cur w hh (by simp; omega) (by simpa using h1)
    refine⟨w.setRow g (cur.toList.take j++vc++cur.toList.drop (j+vc.length)).toArray,?_,?_,rfl,rfl,rfl,?_,?_⟩
    · unfold storeVar
      simp only [Ca,Wy hT,Cc,hs,ne_eq,not_true_eq_false,if_false,hv]
      simpa using hr
    · refine⟨?_,.inr ⟨g,cap,_,rfl,Fq _,setRow_heap w g cur _ t2 _ hh,hc,hm,?_,?_⟩⟩
      · simp [Xz]; omega
      · simp; omega
      · rw [← ht]
        simp only [Xz,List.toList_toArray]
        apply List.ext_getElem?
        intro q
        simp only [List.getElem?_take,List.getElem?_append,C8,List.length_take,List.getElem?_drop,Zv2]
        have hmin1:min j cur.size=j:=by omega
        have hmin2:min j (min (nv * sz) cur.size)=j:=by omega
        simp only [hmin1,hmin2]
        by_cases h1:q < j
        · simp [h1,show q < j+vc.length by omega,show q < nv * sz by omega]
        · by_cases h2:q < j+vc.length
          · simp [h1,h2,show q < nv * sz by omega]
          · by_cases h3:q < nv * sz
            · simp [h1,h2,h3]
              omega
            · simp [h1,h2,h3]
              omega
    · simp
    · intro k hk
      exact setRow_other w g k _ hk
theorem U6 (A:Ctx X w0 w M Ps) (k:Nat) {B sz nv ty' ksz j g cap:Nat} {x y:Operand} {cs:List Value} {v u:Value} (vc cs':List Value) (hk:M[k]? = some (own B sz u nv cs)) (hu:u=.slice (some ⟨g,0,none⟩) nv cap) (I:Xu P ty' ksz)
  (hx:ev n e x=.pointer (some ⟨g,j,none⟩)) (hy:ev n e y=v) (hv:v.cells.toList=vc) (hl:vc.length=ksz) (L:vc.all (·.oneCell')=true) (ho:j+ksz<=cs.length) (hcs:Xz cs j vc=cs')
  (h:∀ w',Ctx X w0 w' (M.set k (own B sz u nv cs')) Ps->W P ops Q rest n e w') :
  W P ops Q (⟨none,.store ty' x y,ty,pos,af,none⟩::rest) n e w:=by
 subst hu;obtain ⟨w',hr,hb,hos,hta,hou,hsz,hother⟩:=Eb (P:=P) I (A.Ix k hk) hv hl L ho;refine Uq rfl rfl ?_ (h w' (A.turn k hk hos hta hou (by omega) (Vy _ _ _ _ hr) (λc _ hc=>hother c (by simpa [own,Fe] using hc)) (hcs ▸ hb) (λc hc=>.inl hc)))
 simp [execOp,hx,hy,Instr.storeAt,Cm,hr]
end
theorem U7 {α:Type} {E:Enc α} (xs:List α) (i:Nat) (x:α) (h:i < xs.length):Xz (E.encs xs) (i * E.sz) (E.enc x)=E.encs (xs.set i x):=by
 induction xs generalizing i with
 | nil=>simp at h
 | cons y xs ih =>
  cases i with
  | zero =>
   simp only [Xz,Enc.encs,F8,Zv8,List.take_zero,List.nil_append,Zwz,List.set_cons_zero];rw [E.len,Fu (E.len y)]
  | succ i =>
   have:=ih i (by simpa using h)
   simp only [Xz,Enc.encs,F8,List.set_cons_succ,E.len] at this ⊢
   rw [<- this]
   have A:(i+1) * E.sz=E.sz+i * E.sz:=by rw [Cs,C3,Fl]
   rw [A];rw [List.take_append,Fs (by rw [E.len]; omega),E.len,Nat.add_sub_cancel_left]
   rw [Nat.add_assoc,<- Ft,Fu (E.len y)]
   simp
theorem V9 {α:Type} {E:Enc α} (x:α) (m:Nat):(madeCells (E.enc x).toArray (m * E.sz)).toList=E.encs (Cd m x):=by
 apply Zvx
 ·simp [madeCells,E.encs_len]
 ·intro i A B;have hpos:=E.pos;have hi:i < m * E.sz:=by simpa [madeCells] using A
  have hdm:i / E.sz < m:=by rw [Nat.div_lt_iff_lt_mul hpos]; exact hi
  have:Inhabited α:=⟨x⟩;have hs:=E.encs_seg (Cd m x) (i / E.sz) (by simpa using hdm)
  have hx:(Cd m x).getD (i / E.sz) Ci=x:=by simp [Co,hdm]
  rw [hx] at hs
  have hmod:i % E.sz < E.sz:=Zwc _ hpos
  have h:(E.enc x)[i % E.sz]? = (E.encs (Cd m x))[i]? := by
   rw [<- hs,List.getElem?_take,if_pos hmod,List.getElem?_drop]
   congr 1
   rw [Zwb]; exact Nat.div_add_mod i E.sz
  rw [List.getElem?_eq_getElem B,List.getElem?_eq_getElem (by rw [E.len]; exact hmod)] at h
  injection h with h
  rw [<- h]
  simp [madeCells,E.len,hmod]
def Zw (n bytes:Nat):Prop:=n * bytes<=140737488355328
theorem tr {α:Sort _} {a b c:α} (h:a=b) (k:b=c):a=c:=h.trans k
theorem X1 {b:Bool} (h:(!b)=true):b=false:=by simpa using h
theorem X2 {b:Bool} (h:(!b)=false):b=true:=by simpa using h
theorem Xe {b:Bool} (h:b=false):¬ b=true:=by simp [h]
theorem ct {p:Prop} [Decidable p] (h:decide p=true):p:=of_decide_eq_true h
theorem cf {p:Prop} [Decidable p] (h:decide p=false):¬ p:=of_decide_eq_false h
theorem ift {p:Prop} [Decidable p] {A B:Prop} (h:if p then A else B) (hp:p):A:=by rw [if_pos hp] at h; exact h
theorem Zk {p:Prop} [Decidable p] {A B:Prop} (h:if p then A else B) (hp:¬ p):B:=by rw [if_neg hp] at h; exact h
theorem Xm (b:Bool) {G:Prop} (t:b=true->G) (f:b=false->G):G:=by cases b; exact f rfl; exact t rfl
theorem Ec {M:List Item} {idx:List Nat} {M':List Item} (h:idx.map (M[·]?)=M'.map some):∀ j (hj:j < M'.length),∃ k,idx[j]? = some k/\M[k]? = some M'[j]:=by
 intro j hj;have hlen:idx.length=M'.length:=by have:=I1 Fg h; simpa using this
 have hj':j < idx.length:=by omega
 refine⟨idx[j],List.getElem?_eq_getElem hj',?_⟩
 have:=I1 (·[j]?) h;simpa [hj,hj'] using this
namespace Ctx
variable {X:Nat->Prop} {w0 w w':World} {M Ps:List Item}
theorem sel (h:Ctx X w0 w M Ps) (idx jdx:List Nat) {M' Ps':List Item} (hn:idx.Nodup) (hm:idx.map (M[·]?)=M'.map some) (hp:jdx.map (Ps[·]?)=Ps'.map some):Ctx X w0 w M' Ps':=by
 have hlen:idx.length=M'.length:=by have:=I1 Fg hm; simpa using this
 have memM:∀ it,it∈M'->it∈M:=by
  intro it hi;obtain ⟨j,hj,rfl⟩:=Cw hi;obtain ⟨k,_,hk⟩:=Ec hm j hj;exact List.mem_of_getElem? hk
 have memP:∀ it,it∈Ps'->it∈Ps:=by
  intro it hi;obtain ⟨j,hj,rfl⟩:=Cw hi;obtain ⟨k,_,hk⟩:=Ec hp j hj;exact List.mem_of_getElem? hk
 refine { h with m:=λit hi=>h.m it (memM it hi),p:=λit hi=>h.p it (memP it hi),mfp:=λit hi=>h.mfp it (memM it hi),dis:=?_,pd:=λit hi b hb m hm'=>h.pd it (memP it hi) b hb m (memM m hm') }
 rw [Cq];intro i j hi hj hij x hx hx';obtain ⟨k,A,I⟩:=Ec hm i hi;obtain ⟨l,B,L⟩:=Ec hm j hj
 have hne:k≠l:=by
  intro e;subst e;have hi':i < idx.length:=by omega
  have hj':j < idx.length:=by omega
  rw [List.getElem?_eq_getElem hi'] at A
  rw [List.getElem?_eq_getElem hj'] at B
  injection A with A
  injection B with B
  have:=(Cq.1 hn) i j hi' hj' hij;exact this (A.trans B.symm)
 have hkl:k < M.length:=(List.getElem?_eq_some_iff.1 I).1
 have hll:l < M.length:=(List.getElem?_eq_some_iff.1 L).1
 have ek:M[k]=M'[i]:=(List.getElem?_eq_some_iff.1 I).2
 have el:M[l]=M'[j]:=(List.getElem?_eq_some_iff.1 L).2
 rcases Zwp hne with hlt | hlt
 ·exact(Cq.1 h.dis k l hkl hll hlt) x (ek ▸ hx) (el ▸ hx')
 ·exact(Cq.1 h.dis l k hll hkl hlt) x (el ▸ hx') (ek ▸ hx)
theorem pushNil (h:Ctx X w0 w M Ps) (t sz:Nat):Ctx X w0 w (own t sz (.slice none 0 0) 0 []::M) Ps :=
 h.push (Bel.refl _) _ ⟨by simp,.inl ⟨rfl,rfl⟩⟩ (by simp [own,Fe])
theorem pushR (h:Ctx X w0 w M Ps) (hb:Bel w w') (it:Item) (hi:it.holds w') (hf:∀ b,b∈it.fp->w.heap.size<=b\/∃ jt,jt∈Ps/\b∈jt.fp):Ctx X w0 w' M (it::Ps) :=
 (h.Iy hb).pushP it hi (λb hbi m hm hbm=>by
  rcases hf b hbi with h' | ⟨jt,hj,hbj⟩
  ·exact absurd (m.low w (h.m m hm) b hbm) (C2.2 h')
  ·exact h.pd jt hj b hbj m hm hbm)
theorem pushE (h:Ctx X w0 w M Ps) (it:Item) (hi:it.holds w) (hf:it.fp=[]):Ctx X w0 w M (it::Ps):=h.pushP it hi (by simp [hf])
theorem sM (h:Ctx X w0 w M Ps) (idx:List Nat) {M':List Item} (hn:idx.Nodup) (hm:idx.map (M[·]?)=M'.map some):Ctx X w0 w M' Ps :=
 h.sel idx (C9 Ps.length) hn hm (by apply Zvx <;> simp)
theorem sP (h:Ctx X w0 w M Ps) (jdx:List Nat) {Ps':List Item} (hp:jdx.map (Ps[·]?)=Ps'.map some):Ctx X w0 w M Ps' :=
 h.sel (C9 M.length) jdx List.nodup_range (by apply Zvx <;> simp) hp
end Ctx
theorem Uv {ty sz n:Nat} {v:Value} {cs:List Value} {w:World} (h:(own ty sz v n cs).holds w):n<=9223372036854775807:=by
 have:=(Wl h).2.2.1;simpa [maxLen] using this
theorem Yi {α:Type} [Inhabited α] {E:Enc α} {xs:List α} {v:Value} {fp:List Nat} {w:World} {A:Addr} {n c:Nat} (h:E.ty.sl.rep xs [v] fp w) (hv:v=.slice (some A) n c) (i:Nat) (hi:i < xs.length) :
  Wi w (A.add (i * E.sz)) (E.enc (xs.getD i Ci)):=by
 obtain ⟨A',c',hv',hc⟩:=Zkk h i hi;rw [hv'] at hv
 injection hv with B I L
 injection B with B
 exact B ▸ hc
theorem Zx {α:Type} {t:Ty α} {xs:List α} {v:Value} {fp:List Nat} {w:World} (h:t.sl.rep xs [v] fp w) (i:Nat) (hi:i < xs.length):∃ A c,v=.slice (some A) xs.length c:=by
 obtain ⟨A,c,hv,_⟩:=Ea h i hi;exact⟨A,c,hv⟩
theorem Xb {α:Type} {t:Ty α} {xs:List α} {v:Value} {fp:List Nat} {w:World} {A:Addr} {n c:Nat} (h:t.sl.rep xs [v] fp w) (hv:v=.slice (some A) n c) (i:Nat) (hi:i < xs.length) :
  ∃ cs,cs.length=t.sz/\Wi w (A.add (i * t.sz)) cs/\t.rep xs[i] cs fp w:=by
 obtain ⟨A',c',hv',cs,hl,hc,hr⟩:=Ea h i hi;rw [hv'] at hv
 injection hv with B I L
 injection B with B
 exact⟨cs,hl,B ▸ hc,hr⟩
theorem Xx {ty sz n:Nat} {v:Value} {cs:List Value} {w:World} (h:(own ty sz v n cs).holds w) (hn:0 < n):∃ g cap,v=.slice (some ⟨g,0,none⟩) n cap:=by
 obtain ⟨g,cap,hv,_⟩:=Zab h hn;exact⟨g,cap,hv⟩
theorem J7 {α:Type} [Inhabited α] {E:Enc α} {xs:List α} {ty g n c:Nat} {v:Value} {w:World} (h:(own ty E.sz v xs.length (E.encs xs)).holds w) (hv:v=.slice (some ⟨g,0,none⟩) n c) (i:Nat) (hi:i < xs.length) :
  Wi w ⟨g,i * E.sz,none⟩ (E.enc (xs.getD i Ci)):=by
 have:=Yi (Yu h) hv i hi;rwa [Tt,Zwz] at this
theorem Zac {α:Type} (t:Ty α) (w:World):t.sl.rep [] [.slice none 0 0] [] w :=
 ⟨_,[],rfl,⟨by simp,by simp,by simp,none,0,rfl,Cg _,λh=>absurd h (by simp)⟩,Zkm t w⟩
end Vc
namespace Vc
open Go Go.RowKit
def EI (k:IntKind):Enc Int:=⟨1,by decide,λx=>[.int k x],λ_=>rfl,λx u hu=>by obtain rfl:u=_:=Fc.1 hu; rfl⟩
def EA (k:IntKind):Enc A8:=⟨8,by decide,A8.enc k,λ_=>rfl,λx u hu=>by
 simp only [A8.enc,Cb,Zwd,or_false] at hu
 rcases hu with rfl | rfl | rfl | rfl | rfl | rfl | rfl | rfl <;> rfl⟩
structure Term where
 mono:A8
 factor:Int
 deriving DecidableEq,Inhabited
def Term.enc (t:Term):List Value:=A8.enc .u8 t.mono++[.int .i64 t.factor]
def ETerm:Enc Term:=⟨9,by decide,Term.enc,λ_=>rfl,λx u hu=>by
 simp only [Term.enc,Ch] at hu
 rcases hu with hu | hu
 ·exact(EA .u8).one _ u hu
 ·obtain rfl:u=_:=Fc.1 hu; rfl⟩
structure Form where
 terms:List Term
 deriving DecidableEq,Inhabited
structure Alg where
 degrees:List Int
 images:List Form
 deriving DecidableEq,Inhabited
structure Der where
 drop:Int
 images:List Form
 deriving DecidableEq,Inhabited
structure Desk where
 first:Alg
 second:Alg
 form:Form
 deriving DecidableEq,Inhabited
def Ty.iso {α β:Type} (f:β->α) (t:Ty α):Ty β where
 sz:=t.sz
 rep x cs fp w:=t.rep (f x) cs fp w
 keep h hw:=t.keep h hw
 low hw:=t.low hw
 len hw:=t.len hw
 one hw:=t.one hw
 more hw:=t.more hw
def Ty.pair {α β:Type} (s:Ty α) (t:Ty β):Ty (α×β) where
 sz:=s.sz+t.sz
 rep x cs fp w:=∃ c1 c2,cs=c1++c2/\s.rep x.1 c1 fp w/\t.rep x.2 c2 fp w
 keep h hw:=by obtain ⟨c1,c2,e,A,B⟩:=hw; exact⟨c1,c2,e,s.keep h A,t.keep h B⟩
 low hw:=by obtain ⟨c1,c2,e,A,B⟩:=hw; exact s.low A
 len hw:=by obtain ⟨c1,c2,rfl,A,B⟩:=hw; rw [C8,s.len A,t.len B]
 one hw u hu:=by
  obtain ⟨c1,c2,rfl,A,B⟩:=hw;rcases Ch.1 hu with hu | hu
  ·exact s.one A u hu
  ·exact t.one B u hu
 more hw h h':=by obtain ⟨c1,c2,e,A,B⟩:=hw; exact⟨c1,c2,e,s.more A h h',t.more B h h'⟩
theorem Zad {α β:Type} {s:Ty α} {t:Ty β} {x:α×β} {c1 c2:List Value} {fp:List Nat} {w:World} (h:(Ty.pair s t).rep x (c1++c2) fp w) (hl:c1.length=s.sz):s.rep x.1 c1 fp w/\t.rep x.2 c2 fp w:=by
 obtain ⟨I,L,e,A,B⟩:=h;have:=s.len A;obtain ⟨rfl,rfl⟩:=List.append_inj e (by omega)
 exact⟨A,B⟩
theorem Qn {α β:Type} {s:Ty α} {t:Ty β} {x:α×β} {c1 c2:List Value} {h A:List Nat} {w:World} (B:s.rep x.1 c1 h w) (I:t.rep x.2 c2 A w):(Ty.pair s t).rep x (c1++c2) (h++A) w:=by
 have hl:∀ b,b∈h++A->b < w.heap.size:=by
  intro b hb;rcases Ch.1 hb with hb | hb
  ·exact s.low B b hb
  ·exact t.low I b hb
 exact⟨c1,c2,rfl,s.more B (λb hb=>Cv _ hb) hl,t.more I (λb hb=>Cu _ hb) hl⟩
abbrev TInts:Ty (List Int):=(EI .i64).ty.sl
abbrev TTerms:Ty (List Term):=ETerm.ty.sl
def TForm:Ty Form:=.iso Form.terms TTerms
abbrev TForms:Ty (List Form):=TForm.sl
def TAlg:Ty Alg:=.iso (λa=>(a.degrees,a.images)) (.pair TInts TForms)
theorem Xq {x:Form} {v:Value} {fp:List Nat} {w:World} (h:TForm.rep x [v] fp w):TTerms.rep x.terms [v] fp w:=h
theorem Y1 {ts:List Term} {v:Value} {fp:List Nat} {w:World} (h:TTerms.rep ts [v] fp w):TForm.rep ⟨ts⟩ [v] fp w:=h
theorem N9 {x:Alg} {v u:Value} {fp:List Nat} {w:World} (h:TAlg.rep x [v,u] fp w):TInts.rep x.degrees [v] fp w/\TForms.rep x.images [u] fp w:=Zad (c1:=[v]) (c2:=[u]) h rfl
theorem Yf {a:List Int} {b:List Form} {v u:Value} {h A:List Nat} {w:World} (B:TInts.rep a [v] h w) (I:TForms.rep b [u] A w):TAlg.rep ⟨a,b⟩ [v,u] (h++A) w:=Qn (c1:=[v]) (c2:=[u]) B I
structure PreW (R:World->World->Prop):Prop where
 refl:∀ w,R w w
 trans:∀ {a b c}, R a b->R b c->R a c
theorem Z3:PreW Bel:=⟨Bel.refl,Bel.trans⟩
structure BelN (N:Nat) (w w':World):Prop where
 os:w'.os=w.os
 tape:w'.tape=w.tape
 output:w'.output=w.output
 size:w.heap.size<=w'.heap.size
 drawn:w.drawn<=w'.drawn
 old:∀ c,c < N->w'.heap[c]? = w.heap[c]?
theorem Xf (N:Nat):PreW (BelN N):=⟨λw=>⟨rfl,rfl,rfl,Cg _,Cg _,λ_ _=>rfl⟩,λh k=>⟨k.os.trans h.os,k.tape.trans h.tape,k.output.trans h.output,Cj h.size k.size,Cj h.drawn k.drawn,λc hc=>(k.old c hc).trans (h.old c hc)⟩⟩
def Qf:Exit->Act->World->Prop:=λ_ _ _=>False
section
variable {R:World->World->Prop} {P:Program} {ops:Array Oper} {n:Nat} {md:Fv}
def AEd (R:World->World->Prop) (P:Program) (md:Fv) (ops:Array Oper) (Q:Exit->Act->World->Prop) (m:Nat):Nat->Array Bool->Act->World->Prop
 | 0,listed,a,w=>Cn md ops listed=[]/\Q .normal a w
 | f + 1, listed, a, w => (Cn md ops listed = [] -> Q .normal a w) /\
  ∀ i∈Cn md ops listed,wpOp P ops Qf i (λa' w'=>(i < m->R w w')/\AEd R P md ops Q m f (listed.setIfInBounds i true) a' w') a w
theorem Zko {o:Oper} {a:Act} {w:World} {K:Act->World->Prop} {Q:Exit->Act->World->Prop} (h:o.wp P a w K Qf):o.wp P a w K Q:=by
 unfold C5 at *
 generalize (execOp a.eval o).run P w=r at *
 cases r with
 | ok x w' =>
  cases x <;> simp only [Fh] at h ⊢ <;> first
   | exact h
   | exact h.elim
   | exact h.mono (λe w'' he=>by cases e <;> first | exact he | exact he.elim | (obtain ⟨_,_,he⟩:=he; exact he.elim))
 | halt x w'=>cases x <;> simp only [Fh] at h ⊢ <;> first | exact h.elim | exact h
theorem Zkp {i:Nat} {a:Act} {w:World} {K:Act->World->Prop} {Q:Exit->Act->World->Prop} (h:wpOp P ops Qf i K a w):wpOp P ops Q i K a w:=by
 unfold wpOp at *
 split
 ·rename_i ho; simpa [ho] using h
 ·rename_i o ho;simp only [ho] at h
  split
  ·rename_i hw;simp only [hw,if_true] at h
   rcases h with h | ⟨_,_,_,h⟩
   ·exact .inl (Zko h)
   ·exact h.elim
  ·rename_i hw;simpa [hw] using h
theorem Zae {Q:Exit->Act->World->Prop} {m:Nat}:∀ f listed a w,AEd R P md ops Q m f listed a w->wpAny P md ops Q f listed a w:=by
 intro f
 induction f with
 | zero=>intro listed a w h; exact h
 | succ f ih =>
  intro listed a w h;exact⟨h.1,λi hi=>Zkp (wpOp_mono (λa' w' A=>ih _ _ _ A.2) (h.2 i hi))⟩
theorem ready_mem {listed:Array Bool} {i:Nat}:i∈Cn md ops listed↔i < ops.size/\listed.getD i true=false/\∃ o,ops[i]? = some o/\∀ x∈o.after,Cz md x=true->listed.getD x.on false=true:=by
 unfold Cn;simp only [List.mem_filter,Zvt,C0,Zw0];constructor
 ·rintro ⟨A,B,h⟩;refine⟨A,B,?_⟩
  rw [Array.getElem?_eq_getElem A] at h ⊢
  refine⟨_,rfl,λx hx hb=>?_⟩
  simp only [Fw,Zw1] at h
  have:=(Zwe.1 h) x hx;simpa [hb] using this
 ·rintro ⟨A,B,o,ho,h⟩;refine⟨A,B,?_⟩
  rw [ho];simp only [Fw,Zw1];refine Zwe.2 λx hx=>?_
  cases hb:Cz md x with
  | false=>rfl
  | true=>simpa using h x hx hb
theorem Ed {l:Array Bool} {i j:Nat} {d:Bool}:(l.setIfInBounds i true).getD j d=if i=j/\j < l.size then true else l.getD j d:=by
 simp only [Array.getD_eq_getD_getElem?,Array.getElem?_setIfInBounds]
 by_cases h:i=j
 ·subst h;by_cases A:i < l.size
  ·simp [A]
  ·simp [A]
 ·simp [h]
theorem Ma {listed:Array Bool} {i j:Nat} (h:j∈Cn md ops listed) (hij:i≠j):j∈Cn md ops (listed.setIfInBounds i true):=by
 obtain ⟨A,B,o,ho,I⟩:=ready_mem.1 h;refine ready_mem.2 ⟨A,?_,o,ho,λx hx hb=>?_⟩
 ·rw [Ed,if_neg (λe=>hij e.1)]; exact B
 ·rw [Ed]; split
  ·rfl
  ·exact I x hx hb
def Steady (R:World->World->Prop) (P:Program) (ops:Array Oper) (o:Oper) (v:Value) (a:Act) (w:World):Prop :=
 ∀ w',R w w'->(Cf o (yielded ops a.tmps)=true/\(execOp a.eval o).run P w'=.ok (.value v) w')\/(Cf o (yielded ops a.tmps)=false/\v=undef)
theorem Steady.op (B:PreW R) {i:Nat} {o:Oper} {v:Value} {a:Act} {w:World} {K:Act->World->Prop} (h:Steady R P ops o v a w) (ho:ops[i]? = some o) (A:K (a.put o.dst v) w):wpOp P ops Qf i K a w:=by
 unfold wpOp;simp only [ho];rcases h w (B.refl _) with ⟨hw,hr⟩ | ⟨hw,rfl⟩
 ·rw [if_pos hw];refine .inl ?_
  unfold C5;rw [hr,Zvz];exact A
 ·rw [if_neg (by simp [hw])]
  exact A
theorem Steady.later (A:PreW R) {o:Oper} {v:Value} {a:Act} {w w':World} (h:Steady R P ops o v a w) (hb:R w w'):Steady R P ops o v a w' :=
 λw'' hb'=>h w'' (A.trans hb hb')
theorem Steady.same {o:Oper} {v:Value} {a a':Act} {w:World} (h:Steady R P ops o v a w) (he:execOp a'.eval o=execOp a.eval o) (hw:Cf o (yielded ops a'.tmps)=Cf o (yielded ops a.tmps)):Steady R P ops o v a' w:=by
 intro w' hb;rw [he,hw];exact h w' hb
theorem Zes {j:Nat} {oi oj:Oper} {v:Value} {a:Act} {w:World} {K:Act->World->Prop} (hj:ops[j]? = some oj) (hap:oi.apart ops oj=true) (hsi:∀ cs b,oi.op≠.select cs b) (hsj:∀ cs b,oj.op≠.select cs b)
  (h:wpOp P ops Qf j K (a.put oi.dst v) w) :
  wpOp P ops Qf j (λa' w'=>(∀ A,Steady R P ops oi v a A->Steady R P ops oi v a' A)/\K (a'.put oi.dst v) w') a w:=by
 obtain ⟨L,B,I⟩:=Oper.apart_spec hap
 have keep:∀ u A,Steady R P ops oi v a A->Steady R P ops oi v (a.put oj.dst u) A:=λu A hy =>
  hy.same (execOp_put oi hsi a oj.dst u I) (wanted_put oi a oj.dst u I)
 have keepD:∀ d u A,Steady R P ops oi v a A->Steady R P ops oi v ({ a with defers:=d::a.defers }.put oj.dst u) A:=λd u A hy =>
  (Steady.same (a':={ a with defers:=d::a.defers }) hy rfl rfl).same (execOp_put oi hsi _ oj.dst u I) (wanted_put oi _ oj.dst u I)
 unfold wpOp at *
 simp only [hj] at *
 rw [wanted_put oj a oi.dst v L] at h
 split
 ·rename_i hw;simp only [hw,if_true] at h
  rcases h with h | ⟨_,_,_,h⟩
  case inr=>exact h.elim
  refine .inl ?_
  unfold C5 at *
  rw [execOp_put oj hsj a oi.dst v L] at h
  generalize (execOp a.eval oj).run P w=r at *
  cases r with
  | ok x w' =>
   cases x <;> simp only [Fh] at h ⊢ <;> first
    | exact h.elim
    | (rw [Act.put_defers] at h; exact⟨λA hy=>keepD _ _ A hy,by rw [<- Zvu _ _ _ B]; exact h⟩)
    | exact⟨λA hy=>keep _ A hy,by rw [<- Zvu a v _ B]; exact h⟩
    | exact h.mono (λe w'' he=>by cases e <;> first | exact⟨λA hy=>keep _ A hy,by rw [<- Zvu a v _ B]; exact he⟩ | exact he.elim | (obtain ⟨_,_,he⟩:=he; exact he.elim))
    | exact h.mono (λu w'' he=>⟨λA hy=>keep _ A hy,by rw [<- Zvu a v _ B]; exact he⟩)
  | halt x w'=>cases x <;> simp only [Fh] at h ⊢ <;> first | exact h.elim | exact h
 ·rename_i hw;simp only [hw] at h
  exact⟨λA hy=>keep _ A hy,by rw [<- Zvu a v _ B]; simpa using h⟩
def Sm (o:Oper):Bool:=match o.op with | .select ..=>false | _=>true
theorem Ee {o:Oper} (h:Sm o=true):∀ cs b,o.op≠.select cs b:=by
 intro cs b he;unfold Sm at h
 rw [he] at h
 cases h
def Jx (md:Fv) (ops:Array Oper) (i:Nat):Nat->Nat->Bool
 | 0,_=>false
 | f + 1, j => match ops[j]? with
  | none=>false
  | some oj=>oj.after.any λx=>Cz md x && (x.on == i || Jx md ops i f x.on)
def closed (md:Fv) (ops:Array Oper) (listed:Array Bool):Bool :=
 (C9 ops.size).all λj=>match ops[j]? with
  | none=>true
  | some oj=>!listed.getD j false || oj.after.all λx=>!Cz md x || listed.getD x.on false
structure AE (R:World->World->Prop) (P:Program) (md:Fv) (ops:Array Oper) (Q:Exit->Act->World->Prop) (m n:Nat) (f:Nat) (listed:Array Bool) (e:Env) (w:World):Prop where
 out:closed md ops listed=true->AEd R P md ops Q m f listed (actOf n e) w
theorem closed_spec {listed:Array Bool}:closed md ops listed=true↔∀ j oj,ops[j]? = some oj->listed.getD j false=true->∀ x∈oj.after,Cz md x=true->listed.getD x.on false=true:=by
 unfold closed;rw [Fi];constructor
 ·intro h j oj hj hl x hx hb;have hlt:j < ops.size:=(Array.getElem?_eq_some_iff.1 hj).1
  have:=h j (Zvt.2 hlt);rw [hj] at this
  simp only [hl,Bool.not_true,Bool.false_or] at this
  have:=Zwe.1 this x hx;simpa [hb] using this
 ·intro h j hj;have hlt:=Zvt.1 hj;rw [Array.getElem?_eq_getElem hlt]
  simp only [Fj,Zw0];by_cases hl:listed.getD j false=true
  ·refine .inr (Zwe.2 λx hx=>?_)
   cases hb:Cz md x with
   | false=>rfl
   | true=>simpa using h j _ (Array.getElem?_eq_getElem hlt) hl x hx hb
  ·exact .inl (by simpa using hl)
theorem Ef {listed:Array Bool} (hc:closed md ops listed=true) {i:Nat}:∀ f j oj,ops[j]? = some oj->(∀ x∈oj.after,Cz md x=true->listed.getD x.on false=true)->Jx md ops i f j=true->listed.getD i false=true:=by
 intro f
 induction f with
 | zero=>intro j oj hj h hw; simp [Jx] at hw
 | succ f ih =>
  intro j oj hj h hw;unfold Jx at hw
  rw [hj] at hw
  simp only [Zw2,C0,Fj,beq_iff_eq] at hw
  obtain ⟨x,hx,hb,hw⟩:=hw;have hl:=h x hx hb;rcases hw with hw | hw
  ·rw [<- hw]; exact hl
  ·cases hq:ops[x.on]? with
   | none =>
    cases f with
    | zero=>simp [Jx] at hw
    | succ f=>simp [Jx,hq] at hw
   | some oq=>exact ih x.on oq hq (closed_spec.1 hc x.on oq hq hl) hw
theorem Mb {listed:Array Bool} {j:Nat} (hc:closed md ops listed=true) (hj:j∈Cn md ops listed):closed md ops (listed.setIfInBounds j true)=true:=by
 obtain ⟨hjs,hjl,oj,hoj,hja⟩:=ready_mem.1 hj;refine closed_spec.2 λq oq hq hl x hx hb=>?_
 rw [Ed];split
 ·rfl
 ·rw [Ed] at hl
  split at hl
  ·rename_i h;obtain ⟨rfl,_⟩:=h;rw [hoj] at hq
   injection hq with hq
   subst hq;exact hja x hx hb
  ·exact closed_spec.1 hc q oq hq hl x hx hb
def Jo (md:Fv) (ops:Array Oper) (m i:Nat):Bool :=
 match ops[i]? with
 | none=>false
 | some oi => Sm oi && (C9 ops.size).all λj => match ops[j]? with
  | none=>false
  | some oj=>j == i || Jx md ops i ops.size j || Jx md ops j ops.size i || (decide (j < m) && Sm oj && oi.apart ops oj)
theorem Zet {m i:Nat} {oi:Oper} (h:Jo md ops m i=true) (ho:ops[i]? = some oi):Sm oi=true/\∀ j oj,ops[j]? = some oj->j≠i->Jx md ops i ops.size j=false->Jx md ops j ops.size i=false->j < m/\Sm oj=true/\oi.apart ops oj=true:=by
 unfold Jo at h
 rw [ho] at h
 simp only [C0,Fi,Zvt] at h
 refine⟨h.1,λj oj hj hne hx hx'=>?_⟩
 have hlt:j < ops.size:=(Array.getElem?_eq_some_iff.1 hj).1
 have A:=h.2 j hlt;rw [hj] at A
 simp only [Fj,C0,beq_iff_eq,decide_eq_true_eq,hx,hx',Zv5,or_false] at A
 rcases A with A | ⟨⟨A,B⟩,I⟩
 ·exact absurd A hne
 ·exact⟨A,B,I⟩
theorem Zaf {i:Nat}:∀ f g j,f<=g->Jx md ops i f j=true->Jx md ops i g j=true:=by
 intro f
 induction f with
 | zero=>intro g j _ h; simp [Jx] at h
 | succ f ih =>
  intro g j hg h;obtain ⟨g,rfl⟩:∃ g',g=g'+1:=⟨g - 1,by omega⟩
  unfold Jx at h ⊢
  split at h
  ·cases h
  ·rename_i oj hj;rw [Zw2] at h ⊢
   obtain ⟨x,hx,hb⟩:=h;refine⟨x,hx,?_⟩
   rw [C0,Fj] at hb ⊢
   exact⟨hb.1,hb.2.imp id (ih g _ (by omega))⟩
def Zeu (rows:List Nat) (j:Nat) (o:Oper):Nat:=o.after.toList.foldr (λx r=>if Cz .any x && Ck x.on j then 2 ^ x.on ||| (rows.getD x.on 0 ||| r) else r) 0
def Qo (l:List Oper) (rows:List Nat):Bool:=(C9 l.length).all λj=>match l[j]? with
 | none=>true
 | some o=>rows.getD j 0 == Zeu rows j o
theorem Zkq {rows:List Nat} {j i:Nat} {o:Oper} (h:(Zeu rows j o).testBit i=true):∃ x,x∈o.after/\Cz .any x=true/\x.on < j/\(x.on=i\/(rows.getD x.on 0).testBit i=true):=by
 have key:∀ l:List Edge,(l.foldr (λx r=>if Cz .any x && Ck x.on j then 2 ^ x.on ||| (rows.getD x.on 0 ||| r) else r) 0).testBit i=true->∃ x,x∈l/\Cz .any x=true/\x.on < j/\(x.on=i\/(rows.getD x.on 0).testBit i=true):=by
  intro l
  induction l with
  | nil=>intro h; simp at h
  | cons a l ih =>
   intro h;rw [List.foldr_cons] at h
   split at h
   ·rename_i hc;rw [C0,C1] at hc
    rw [Nat.testBit_or,Nat.testBit_or,Fj,Fj,Nat.testBit_two_pow,decide_eq_true_eq] at h
    rcases h with h | h | h
    ·exact⟨a,by simp,hc.1,hc.2,.inl h⟩
    ·exact⟨a,by simp,hc.1,hc.2,.inr h⟩
    ·obtain ⟨x,hx,h'⟩:=ih h;exact⟨x,by simp [hx],h'⟩
   ·obtain ⟨x,hx,h'⟩:=ih h;exact⟨x,by simp [hx],h'⟩
 obtain ⟨x,hx,h'⟩:=key _ h;exact⟨x,by simpa using hx,h'⟩
theorem Zev {l:List Oper} {rows:List Nat} (hr:Qo l rows=true) {i:Nat}:∀ k j,j < k->j < l.length->(rows.getD j 0).testBit i=true->Jx .any l.toArray i (j+1) j=true:=by
 intro k
 induction k with
 | zero=>intro j hj; omega
 | succ k ih =>
  intro j hj hl h;have A:=Fi.1 hr j (Zvt.2 hl);rw [List.getElem?_eq_getElem hl] at A
  simp only [beq_iff_eq] at A
  rw [A] at h
  obtain ⟨x,hx,hb,hlt,h'⟩:=Zkq h;unfold Jx;have hj':l.toArray[j]? = some l[j]:=by simp [hl]
  simp only [hj'];rw [Zw2];refine⟨x,hx,?_⟩
  rw [C0,Fj,beq_iff_eq];refine⟨hb,h'.imp id λh'=>?_⟩
  exact Zaf (x.on+1) j _ (by omega) (ih x.on (by omega) (by omega) h')
def Ua (rows:List Nat) (l:List Oper) (m i:Nat):Bool :=
 match l[i]? with
 | none=>false
 | some oi => Sm oi && (C9 l.length).all λj => match l[j]? with
  | none=>false
  | some oj=>j == i || (rows.getD j 0).testBit i || (rows.getD i 0).testBit j || (decide (j < m) && Sm oj && oi.apart l.toArray oj)
theorem Mc {rows:List Nat} {l:List Oper} {m i:Nat} (hr:Qo l rows=true) (h:Ua rows l m i=true):Jo .any l.toArray m i=true:=by
 unfold Ua at h
 split at h
 ·cases h
 ·rename_i oi hi;have hil:=(List.getElem?_eq_some_iff.1 hi).1
  have hi':l.toArray[i]? = some oi:=by simpa using hi
  unfold Jo;simp only [hi'];rw [C0,Fi] at h ⊢
  refine⟨h.1,λj hj=>?_⟩
  have hjl:j < l.length:=by simpa using hj
  have A:=h.2 j (by simpa using hjl)
  have B:l[j]? = some l[j]:=List.getElem?_eq_getElem hjl
  have I:l.toArray[j]? = some l[j]:=by simp [hjl]
  simp only [B] at A
  simp only [I];simp only [Fj,List.size_toArray] at A ⊢
  rcases A with ((A | A) | A) | A
  ·exact .inl (.inl (.inl A))
  ·exact .inl (.inl (.inr (Zaf _ _ _ (by omega) (Zev hr _ j (Zwf j) hjl A))))
  ·exact .inl (.inr (Zaf _ _ _ (by omega) (Zev hr _ i (Zwf i) hil A)))
  ·exact .inr A
theorem Zkr (A:PreW R) {Q:Exit->Act->World->Prop} {m i:Nat} {oi:Oper} {v:Value} (ho:ops[i]? = some oi) (hm:Jo md ops m i=true) :
  ∀ f listed a w,closed md ops listed=true->i∈Cn md ops listed->Steady R P ops oi v a w->AEd R P md ops Q m f (listed.setIfInBounds i true) (a.put oi.dst v) w->AEd R P md ops Q m (f+1) listed a w:=by
 obtain ⟨hsi,hoth⟩:=Zet hm ho;intro f
 induction f with
 | zero =>
  intro listed a w hcl hi hst h;refine⟨λhr=>absurd (hr ▸ hi) (by simp),λj hj=>?_⟩
  by_cases hji:j=i
  ·subst hji;exact hst.op A ho ⟨λ_=>A.refl _,h⟩
  ·have:=Ma hj (λe=>hji e.symm)
   rw [h.1] at this
   cases this
 | succ f ih =>
  intro listed a w hcl hi hst h;refine⟨λhr=>absurd (hr ▸ hi) (by simp),λj hj=>?_⟩
  by_cases hji:j=i
  ·subst hji;exact hst.op A ho ⟨λ_=>A.refl _,h⟩
  ·have hj':=Ma hj (λe=>hji e.symm)
   obtain ⟨hjs,hjl,oj,hoj,hja⟩:=ready_mem.1 hj;obtain ⟨his,hil,_⟩:=ready_mem.1 hi
   have hno:Jx md ops i ops.size j=false:=by
    cases hq:Jx md ops i ops.size j with
    | false=>rfl
    | true =>
     have:=Ef hcl _ j oj hoj hja hq
     have hlt:i < listed.size:=by
      rcases Fb i listed.size with h' | h'
      ·exact h'
      ·simp [Cy,C2.2 h'] at hil
     simp [Cy,hlt] at this hil
     rw [this] at hil
     cases hil
   have B:Jx md ops j ops.size i=false:=by
    cases hq:Jx md ops j ops.size i with
    | false=>rfl
    | true =>
     obtain ⟨_,_,oi',hoi',hia⟩:=ready_mem.1 hi;have:=Ef hcl _ i oi' hoi' hia hq
     have hlt:j < listed.size:=by
      rcases Fb j listed.size with h' | h'
      ·exact h'
      ·simp [Cy,C2.2 h'] at hjl
     simp [Cy,hlt] at this hjl
     rw [this] at hjl
     cases hjl
   obtain ⟨hjm,hsj,hap⟩:=hoth j oj hoj hji hno B;have I:=Zes (R:=R) hoj hap (Ee hsi) (Ee hsj) (h.2 j hj');refine wpOp_mono ?_ I
   rintro a' w' ⟨hk,hb,L⟩;refine⟨hb,ih _ a' w' (Mb hcl hj) (Ma hi (λe=>hji e)) ((hk w hst).later A (hb hjm)) ?_⟩
   have:(listed.setIfInBounds j true).setIfInBounds i true=(listed.setIfInBounds i true).setIfInBounds j true:=Zx7 _ _ hji;rw [this];exact L
theorem Zks (A:PreW R) {Q:Exit->Act->World->Prop} {m i:Nat} {oi:Oper} {v:Value} (ho:ops[i]? = some oi) (hm:Jo md ops ops.size i=true) :
  ∀ f listed a w,closed md ops listed=true->i∈Cn md ops listed->(∀ B,Steady R P ops oi v a B)->AEd R P md ops Q m f (listed.setIfInBounds i true) (a.put oi.dst v) w->AEd R P md ops Q m (f+1) listed a w:=by
 obtain ⟨hsi,hoth⟩:=Zet hm ho;intro f
 induction f with
 | zero =>
  intro listed a w hcl hi hst h;refine⟨λhr=>absurd (hr ▸ hi) (by simp),λj hj=>?_⟩
  by_cases hji:j=i
  ·subst hji;exact(hst w).op A ho ⟨λ_=>A.refl _,h⟩
  ·have:=Ma hj (λe=>hji e.symm)
   rw [h.1] at this
   cases this
 | succ f ih =>
  intro listed a w hcl hi hst h;refine⟨λhr=>absurd (hr ▸ hi) (by simp),λj hj=>?_⟩
  by_cases hji:j=i
  ·subst hji;exact(hst w).op A ho ⟨λ_=>A.refl _,h⟩
  ·have hj':=Ma hj (λe=>hji e.symm)
   obtain ⟨hjs,hjl,oj,hoj,hja⟩:=ready_mem.1 hj;obtain ⟨his,hil,_⟩:=ready_mem.1 hi
   have hno:Jx md ops i ops.size j=false:=by
    cases hq:Jx md ops i ops.size j with
    | false=>rfl
    | true =>
     have:=Ef hcl _ j oj hoj hja hq
     have hlt:i < listed.size:=by
      rcases Fb i listed.size with h' | h'
      ·exact h'
      ·simp [Cy,C2.2 h'] at hil
     simp [Cy,hlt] at this hil
     rw [this] at hil
     cases hil
   have I:Jx md ops j ops.size i=false:=by
    cases hq:Jx md ops j ops.size i with
    | false=>rfl
    | true =>
     obtain ⟨_,_,oi',hoi',hia⟩:=ready_mem.1 hi;have:=Ef hcl _ i oi' hoi' hia hq
     have hlt:j < listed.size:=by
      rcases Fb j listed.size with h' | h'
      ·exact h'
      ·simp [Cy,C2.2 h'] at hjl
     simp [Cy,hlt] at this hjl
     rw [this] at hjl
     cases hjl
   obtain ⟨hjm,hsj,hap⟩:=hoth j oj hoj hji hno I;have L:=Zes (R:=R) hoj hap (Ee hsi) (Ee hsj) (h.2 j hj');refine wpOp_mono ?_ L
   rintro a' w' ⟨hk,hb,O⟩;refine⟨hb,ih _ a' w' (Mb hcl hj) (Ma hi (λe=>hji e)) (λB=>hk B (hst B)) ?_⟩
   have:(listed.setIfInBounds j true).setIfInBounds i true=(listed.setIfInBounds i true).setIfInBounds j true:=Zx7 _ _ hji;rw [this];exact O
end
section
variable {R:World->World->Prop} {P:Program} {l:List Oper} {Q:Exit->Act->World->Prop} {n m f:Nat} {e:Env} {w:World} {listed:Array Bool}
theorem Zag (k:Nat):closed .any l.toArray (Cd k false).toArray=true:=by
 refine closed_spec.2 λj oj _ hl=>?_
 exfalso;by_cases h:j < k
 ·simp [Cy,h] at hl
 ·simp [Cy,h] at hl
def Ub (l:List Oper) (listed:Array Bool) (i:Nat):Bool:=!listed.getD i true && match l[i]? with
 | none=>false
 | some o=>o.after.all λx=>!Cz .any x || listed.getD x.on false
theorem Eg {i:Nat} (h:Ub l listed i=true):i∈Cn .any l.toArray listed:=by
 unfold Ub at h
 rw [C0,Zw0] at h
 split at h
 ·simp at h
 ·rename_i o ho;refine ready_mem.2 ⟨?_,h.1,o,by simpa using ho,λx hx hb=>?_⟩
  ·have:=(List.getElem?_eq_some_iff.1 ho).1
   simpa using this
  ·have:=Array.all_eq_true_iff_forall_mem.1 h.2 x hx;simpa [hb] using this
theorem Zew {id:Nat} (m:Nat) (hm:P.follows .mixedOrders=true) (rows lk lf:List Nat) (hro:Qo l rows=true) (hk:lk.all (Ua rows l m)=true) (hf:lf.all (Ua rows l l.length)=true)
  (h:(∀ i,lk.contains i=true->Jo .any l.toArray m i=true)->(∀ i,lf.contains i=true->Jo .any l.toArray l.toArray.size i=true)->∀ w',Bel w w'->AE Bel P .any l.toArray Q m n l.length (Cd l.length false).toArray e w'):(Code.region id l.toArray true).wp P Q (actOf n e) w:=by
 refine wp_region_any hm ?_
 have:=(h (λi hi=>Mc hro (Fi.1 hk i (by simpa using hi))) (λi hi=>Mc (m:=l.length) hro (Fi.1 hf i (by simpa using hi))) { w with drawn:=w.drawn+1 } ⟨⟨rfl,rfl,rfl,Cg _,λ_ _=>rfl⟩,F5 _⟩).out (Zag _)
 have A:=Zae _ _ _ _ this;simpa using A
theorem Zkt {id:Nat} (m:Nat) (hm:P.follows .mixedOrders=true) (rows lk lf:List Nat) (hro:Qo l rows=true) (hk:lk.all (Ua rows l m)=true) (hf:lf.all (Ua rows l l.length)=true)
  (h:(∀ i,lk.contains i=true->Jo .any l.toArray m i=true)->(∀ i,lf.contains i=true->Jo .any l.toArray l.toArray.size i=true)->∀ w',Bel w w'->AE (BelN w'.heap.size) P .any l.toArray Q m n l.length (Cd l.length false).toArray e w'):(Code.region id l.toArray true).wp P Q (actOf n e) w:=by
 refine wp_region_any hm ?_
 have:=(h (λi hi=>Mc hro (Fi.1 hk i (by simpa using hi))) (λi hi=>Mc (m:=l.length) hro (Fi.1 hf i (by simpa using hi))) { w with drawn:=w.drawn+1 } ⟨⟨rfl,rfl,rfl,Cg _,λ_ _=>rfl⟩,F5 _⟩).out (Zag _)
 have A:=Zae _ _ _ _ this;simpa using A
theorem Zv (A:PreW R) {d:Nat} (i:Nat) (v:Value) {oi:Oper} (ho:l[i]? = some oi) (hd:oi.dst=some d) (hr:Ub l listed i=true) (hm:Jo .any l.toArray l.toArray.size i=true)
  (hst:∀ w':World,(Cf oi (J2 l.toArray n e)=true/\(execOp (ev n e) oi).run P w'=.ok (.value v) w')\/(Cf oi (J2 l.toArray n e)=false/\v=undef))
  {l9:Array Bool} (hl:listed.setIfInBounds i true=l9) (h:AE R P .any l.toArray Q m n f l9 (upd e d v) w):AE R P .any l.toArray Q m n (f+1) listed e w:=by
 refine⟨λhcl=>Zks A (oi:=oi) (v:=v) (by simpa using ho) hm f listed _ w hcl (Eg hr) ?_ ?_⟩
 ·intro I w' hb;have:=hst w';have B:yielded l.toArray (actOf n e).tmps=J2 l.toArray n e:=by funext g; exact Qk g
  rwa [B,Up]
 ·have hcl':=Mb hcl (Eg hr);rw [hl] at hcl'
  rw [hd,Qj,hl];exact h.out hcl'
theorem W0 (A:PreW R) {d:Nat} (i:Nat) (v:Value) {oi:Oper} (ho:l[i]? = some oi) (hd:oi.dst=some d) (hr:Ub l listed i=true) (hm:Jo .any l.toArray m i=true)
  (hst:∀ w',R w w'->(Cf oi (J2 l.toArray n e)=true/\(execOp (ev n e) oi).run P w'=.ok (.value v) w')\/(Cf oi (J2 l.toArray n e)=false/\v=undef))
  {l9:Array Bool} (hl:listed.setIfInBounds i true=l9) (h:AE R P .any l.toArray Q m n f l9 (upd e d v) w):AE R P .any l.toArray Q m n (f+1) listed e w:=by
 refine⟨λhcl=>Zkr A (oi:=oi) (v:=v) (by simpa using ho) hm f listed _ w hcl (Eg hr) ?_ ?_⟩
 ·intro w' hb;have:=hst w' hb;have B:yielded l.toArray (actOf n e).tmps=J2 l.toArray n e:=by funext g; exact Qk g
  rwa [B,Up]
 ·have hcl':=Mb hcl (Eg hr);rw [hl] at hcl'
  rw [hd,Qj,hl];exact h.out hcl'
def AK (R:World->World->Prop) (P:Program) (l:List Oper) (Q:Exit->Act->World->Prop) (m n f i:Nat) (listed:Array Bool) (w:World):Exit->Act->World->Prop
 | .normal,a,w'=>(i < m->R w w')/\(closed .any l.toArray (listed.setIfInBounds i true)=true->AEd R P .any l.toArray Q m f (listed.setIfInBounds i true) a w')
 | _,_,_=>False
theorem Zex {i:Nat} {w':World} {l9:Array Bool} (hb:R w w') (hl:listed.setIfInBounds i true=l9) (h:AE R P .any l.toArray Q m n f l9 e w'):AK R P l Q m n f i listed w .normal (actOf n e) w':=⟨λ_=>hb,by rw [hl]; exact h.out⟩
theorem L1 {i:Nat} {w':World} {l9:Array Bool} (hi:m<=i) (hl:listed.setIfInBounds i true=l9) (h:AE R P .any l.toArray Q m n f l9 e w'):AK R P l Q m n f i listed w .normal (actOf n e) w':=⟨λhlt=>absurd hlt (C2.2 hi),by rw [hl]; exact h.out⟩
theorem Zah {i:Nat} {oi:Oper} (ho:l[i]? = some oi) (h:W P l.toArray (AK R P l Q m n f i listed w) [oi] n e w) :
  wpOp P l.toArray Qf i (λa' w'=>(i < m->R w w')/\(closed .any l.toArray (listed.setIfInBounds i true)=true->AEd R P .any l.toArray Q m f (listed.setIfInBounds i true) a' w')) (actOf n e) w:=by
 have h':=h.out;unfold wpOp;have ho':l.toArray[i]? = some oi:=by simpa using ho
 simp only [ho'];unfold wpList at h'
 split
 ·rename_i hw;rw [if_pos hw] at h'
  rcases h' with h' | ⟨_,_,_,h'⟩
  case inr=>exact h'.elim
  refine .inl ?_
  unfold C5 at *
  generalize (execOp (actOf n e).eval oi).run P w=r at *
  cases r with
  | ok x w' =>
   cases x <;> simp only [Fh] at h' ⊢ <;> first
    | exact h'
    | exact h'.elim
    | exact h'.mono (λe w'' he=>by cases e <;> first | exact he | exact he.elim | (obtain ⟨_,_,he⟩:=he; exact he.elim))
  | halt x w'=>cases x <;> simp only [Fh] at h' ⊢ <;> first | exact h'.elim | exact h'
 ·rename_i hw;rw [if_neg hw] at h'
  exact h'
theorem Zku (i:Nat) {oi:Oper} (ho:l[i]? = some oi) (hr:Cn .any l.toArray listed=[i]) (h:W P l.toArray (AK R P l Q m n f i listed w) [oi] n e w):AE R P .any l.toArray Q m n (f+1) listed e w :=
 ⟨λhcl=>⟨λB=>absurd (hr.symm.trans B) (by simp),λj hj=>by
  have hc:=Mb hcl hj;rw [hr] at hj
  obtain rfl:j=i:=by simpa using hj
  exact wpOp_mono (λ_ _ A=>⟨A.1,A.2 hc⟩) (Zah ho h)⟩⟩
theorem Jp (i j:Nat) {oi oj:Oper} (ho:l[i]? = some oi) (B:l[j]? = some oj) (hr:Cn .any l.toArray listed=[i,j]) (h:W P l.toArray (AK R P l Q m n f i listed w) [oi] n e w)
  (I:W P l.toArray (AK R P l Q m n f j listed w) [oj] n e w):AE R P .any l.toArray Q m n (f+1) listed e w :=
 ⟨λhcl=>⟨λL=>absurd (hr.symm.trans L) (by simp),λq hq=>by
  have hc:=Mb hcl hq;rw [hr] at hq
  rcases Cb.1 hq with rfl | hq
  ·exact wpOp_mono (λ_ _ A=>⟨A.1,A.2 hc⟩) (Zah ho h)
  ·obtain rfl:q=j:=by simpa using hq
   exact wpOp_mono (λ_ _ A=>⟨A.1,A.2 hc⟩) (Zah B I)⟩⟩
def L2 (l:List Oper):Nat->Nat->Bool
 | 0,k=>k == l.length && (Cn .any l.toArray (Cd l.length true).toArray).isEmpty
 | f+1,k=>Cn .any l.toArray (Cd k true++Cd (l.length - k) false).toArray == [k] && L2 l f (k+1)
def QN (Q:Exit->Act->World->Prop):Exit->Act->World->Prop
 | .normal,a,w=>Q .normal a w
 | _,_,_=>False
theorem Zkv:∀ f k,m<=k->k+f=l.length->L2 l f k=true->∀ a w,wpList P l.toArray (QN Q) (l.drop k) a w ->
  AEd R P .any l.toArray Q m f (Cd k true++Cd (l.length - k) false).toArray a w:=by
 intro f
 induction f with
 | zero =>
  intro k hk hl ht a w h;obtain rfl:k=l.length:=by omega
  simp only [L2,C0,List.isEmpty_iff] at ht
  rw [List.drop_length] at h
  refine⟨?_,h⟩
  simpa using ht.2
 | succ f ih =>
  intro k hk hl ht a w h;simp only [L2,C0,beq_iff_eq] at ht
  refine⟨λA=>absurd (ht.1.symm.trans A) (by simp),λj hj=>?_⟩
  rw [ht.1] at hj
  obtain rfl:j=k:=by simpa using hj
  have hlt:j < l.length:=by omega
  rw [List.drop_eq_getElem_cons hlt] at h
  have hset:(Cd j true++Cd (l.length - j) false).toArray.setIfInBounds j true=(Cd (j+1) true++Cd (l.length - (j+1)) false).toArray:=by
   have B:l.length - j=(l.length - (j+1))+1:=by omega
   rw [List.setIfInBounds_toArray,B,Zwg,List.replicate_succ',List.set_append_right _ _ (by simp)]
   simp
  unfold wpOp;have ho':l.toArray[j]? = some l[j]:=by simp [hlt]
  simp only [ho'];unfold wpList at h
  have fin:∀ a' w',wpList P l.toArray (QN Q) (l.drop (j+1)) a' w'->(j < m->R w w')/\AEd R P .any l.toArray Q m f ((Cd j true++Cd (l.length - j) false).toArray.setIfInBounds j true) a' w':=by
   intro a' w' h';refine⟨λhjm=>absurd hjm (by omega),?_⟩
   rw [hset];exact ih (j+1) (by omega) (by omega) ht.2 a' w' h'
  split
  ·rename_i hw;rw [if_pos hw] at h
   rcases h with h | ⟨_,_,_,h⟩
   case inr=>exact h.elim
   refine .inl ?_
   unfold C5 at *
   generalize (execOp a.eval l[j]).run P w=r at *
   cases r with
   | ok x w' =>
    cases x <;> simp only [Fh] at h ⊢ <;> first
     | exact fin _ _ h
     | exact h.elim
     | exact h.mono (λe w'' he=>by cases e <;> first | exact fin _ _ he | exact he.elim | (obtain ⟨_,_,he⟩:=he; exact he.elim))
     | exact h.mono (λu w'' he=>fin _ _ he)
   | halt x w'=>cases x <;> simp only [Fh] at h ⊢ <;> first | exact h.elim | exact h
  ·rename_i hw;rw [if_neg hw] at h
   exact fin _ _ h
theorem Z5 (k:Nat) {f:Nat} {rest:List Oper} (hk:m<=k) (hl:k+f=l.length) (ht:L2 l f k=true) (hlist:(Cd k true++Cd (l.length - k) false).toArray=listed) (hd:l.drop k=rest)
  (h:W P l.toArray (QN Q) rest n e w):AE R P .any l.toArray Q m n f listed e w:=⟨λ_=>hlist ▸ Zkv f k hk hl ht _ w (hd ▸ h.out)⟩
theorem Z6 {a:Act} (h:Q .normal a w):QN Q .normal a w:=h
theorem Zkw {Q':Exit->Act->World->Prop} (k:∀ a w,Q' .normal a w->Q .normal a w):∀ f (listed:Array Bool) a w,AEd R P .any l.toArray Q' m f listed a w->AEd R P .any l.toArray Q m f listed a w:=by
 intro f
 induction f with
 | zero=>intro listed a w h; exact⟨h.1,k _ _ h.2⟩
 | succ f ih =>
  intro listed a w h;exact⟨λB=>k _ _ (h.1 B),λi hi=>wpOp_mono (λa' w' A=>⟨A.1,ih _ _ _ A.2⟩) (h.2 i hi)⟩
def QJ (n:Nat) (J:Env->World->Prop):Exit->Act->World->Prop:=λx a w=>x=.normal/\∃ e,a=actOf n e/\J e w
theorem U8 (J:Env->World->Prop) (k:∀ e' w',J e' w'->Q .normal (actOf n e') w') (h:AE R P .any l.toArray (QJ n J) m n f listed e w):AE R P .any l.toArray Q m n f listed e w :=
 ⟨λhc=>Zkw (λa w h=>by obtain ⟨_,e',rfl,A⟩:=h; exact k e' w A) _ _ _ _ (h.out hc)⟩
end
section
variable {P:Program} {l:List Oper} {Q:Exit->Act->World->Prop} {n m f:Nat} {e:Env} {w:World} {listed:Array Bool}
theorem aF {d:Nat} (i:Nat) (v:Value) {oi:Oper} (ho:l[i]? = some oi) (hd:oi.dst=some d) (hm:Jo .any l.toArray l.toArray.size i=true) (hw:Cf oi (J2 l.toArray n e)=true)
  (hst:∀ w':World,(execOp (ev n e) oi).run P w'=.ok (.value v) w') (l9:Array Bool) (h:AE Bel P .any l.toArray Q m n f l9 (upd e d v) w)
  (hr:Ub l listed i=true:=by kernel_rfl) (hl:listed.setIfInBounds i true=l9:=by kernel_rfl):AE Bel P .any l.toArray Q m n (f+1) listed e w :=
 Zv Z3 i v ho hd hr hm (λw'=>.inl ⟨hw,hst w'⟩) hl h
theorem aL {d:Nat} (i:Nat) (v:Value) {oi:Oper} (ho:l[i]? = some oi) (hd:oi.dst=some d) (hm:Jo .any l.toArray m i=true) (hw:Cf oi (J2 l.toArray n e)=true)
  (hst:∀ w':World,Bel w w'->(execOp (ev n e) oi).run P w'=.ok (.value v) w') (l9:Array Bool) (h:AE Bel P .any l.toArray Q m n f l9 (upd e d v) w)
  (hr:Ub l listed i=true:=by kernel_rfl) (hl:listed.setIfInBounds i true=l9:=by kernel_rfl):AE Bel P .any l.toArray Q m n (f+1) listed e w :=
 W0 Z3 i v ho hd hr hm (λw' A=>.inl ⟨hw,hst w' A⟩) hl h
theorem aK {R:World->World->Prop} {i:Nat} {w':World} (hb:R w w') (l9:Array Bool) (h:AE R P .any l.toArray Q m n f l9 e w') (hl:listed.setIfInBounds i true=l9:=by kernel_rfl):AK R P l Q m n f i listed w .normal (actOf n e) w':=Zex hb hl h
theorem aO {R:World->World->Prop} (i:Nat) {oi:Oper} (ho:l[i]? = some oi) (h:W P l.toArray (AK R P l Q m n f i listed w) [oi] n e w) (hr:Cn .any l.toArray listed=[i]:=by kernel_rfl):AE R P .any l.toArray Q m n (f+1) listed e w:=Zku i ho hr h
end
theorem Zai {P:Program} {Q:Exit->Act->World->Prop} {n:Nat} {e:Env} {w:World} {c:Code} (J:Env->World->Prop) (A:c.wp P (λx a w=>x=.normal/\∃ e',a=actOf n e'/\J e' w) (actOf n e) w) (B:∀ e' w',J e' w'->Q .normal (actOf n e') w'):c.wp P Q (actOf n e) w :=
 Code.wp_mono (λx a w h=>by obtain ⟨rfl,e',rfl,I⟩:=h; exact B e' w I) A
section
variable {P:Program} {ops:Array Oper} {Q:Exit->Act->World->Prop} {n:Nat} {e:Env} {w w':World} {rest:List Oper}
variable {X:Nat->Prop} {w0:World} {M Ps:List Item}
variable {d ty:Nat} {pos:String} {af:Array Edge} {gd:Option (Nat×Bool)}
theorem Vz {t el len c sz g:Nat} {x y:Operand} {k:IntKind} {i:Int} (j:Nat) (ht:P.underlying t=some (.slice el)) (hz:Xu P el sz) (hx:ev n e x=.slice (some ⟨g,0,none⟩) len c) (hy:ev n e y=.int k i)
  (h:0<=i) (A:i < len) (ho:i.toNat * sz=j):(execOp (ev n e) ⟨some d,.indexAddr t x y,ty,pos,af,gd⟩).run P w=.ok (.value (.pointer (some ⟨g,j,none⟩))) w:=by
 have:=Y3 (P:=P) (w:=w) (d:=d) (ty:=ty) (pos:=pos) (af:=af) (gd:=gd) ht hz hx hy h A;rwa [Tt,Zwz,ho] at this
theorem X4 {t el len c sz g:Nat} {x y:Operand} {k:IntKind} {i:Int} (j:Nat) (ht:P.underlying t=some (.slice el)) (hz:Xu P el sz) (hx:ev n e x=.slice (some ⟨g,0,none⟩) len c) (hy:ev n e y=.int k i)
  (A:0<=i) (B:i < len) (ho:i.toNat * sz=j) (h:W P ops Q rest n (upd e d (.pointer (some ⟨g,j,none⟩))) w):W P ops Q (⟨some d,.indexAddr t x y,ty,pos,af,none⟩::rest) n e w :=
 Y2 _ rfl rfl (Vz j ht hz hx hy A B ho) h
theorem Yo {l:List Oper} {op:Op} {dst:Option Nat} (g:Nat) {want:Bool} (dg:Nat) (hd:(l[g]?).bind (·.dst)=some dg) {b:Bool} (hv:ev n e (.tmp dg)=.bool b) (hb:b=want) :
  Cf ⟨dst,op,ty,pos,af,some (g,want)⟩ (J2 l.toArray n e)=true:=by
 simp only [Cf,J2];rw [List.getElem?_toArray,hd]
 simp only [ev] at hv
 by_cases hdn:dg < n
 ·have hbt:Ck dg n=true:=by rw [C1]; exact hdn
  rw [hbt] at hv
  simp only [cond_true] at hv
  simp [hdn,hv,hb]
 ·have hbt:Ck dg n=false:=by
   cases hq:Ck dg n with
   | false=>rfl
   | true=>rw [C1] at hq; exact absurd hq hdn
  rw [hbt] at hv
  simp [undef] at hv
theorem Yk {l:List Oper} {op:Op} {dst:Option Nat} (g:Nat) {want:Bool} (dg:Nat) (hd:(l[g]?).bind (·.dst)=some dg) {b:Bool} (hv:ev n e (.tmp dg)=.bool b) (hb:b≠want) :
  Cf ⟨dst,op,ty,pos,af,some (g,want)⟩ (J2 l.toArray n e)=false:=by
 have:=Yo (n:=n) (e:=e) (op:=op) (dst:=dst) (ty:=ty) (pos:=pos) (af:=af) g (want:=b) dg hd hv rfl;simp only [Cf,beq_iff_eq] at this ⊢
 rw [this];simpa using hb
theorem X8 {l:List Oper} {op:Op} {dst:Option Nat} (g:Nat) {want:Bool} (dg:Nat) (hd:(l[g]?).bind (·.dst)=some dg) (hv:ev n e (.tmp dg)=undef) :
  Cf ⟨dst,op,ty,pos,af,some (g,want)⟩ (J2 l.toArray n e)=false:=by
 simp only [Cf,J2];rw [List.getElem?_toArray,hd]
 simp only [ev] at hv
 by_cases hdn:dg < n
 ·have hbt:Ck dg n=true:=by rw [C1]; exact hdn
  rw [hbt] at hv
  simp only [cond_true] at hv
  simp [hdn,hv,undef]
 ·simp [hdn]
theorem Zkx {b t off sz ty':Nat} {x:Operand} {cs:List Value} (seg:List Value) (hh:(blk b t cs).holds w) (h:AggT P ty' sz) (hx:ev n e x=.pointer (some ⟨b,off,none⟩))
  (hs:(cs.drop off).take sz=seg) (hl:seg.length=sz):(execOp (ev n e) ⟨some d,.load ty' x,ty,pos,af,gd⟩).run P w=.ok (.value (.agg seg.toArray)) w:=by
 simp [execOp,hx,C7,Cm,N3 h (Jv hh hs) hl]
theorem Zky {b t off sz ty':Nat} {x:Operand} {cs:List Value} (seg:List Value) (hh:(blk b t cs).holds w) (A:AggT P ty' sz) (hx:ev n e x=.pointer (some ⟨b,off,none⟩))
  (hs:(cs.drop off).take sz=seg) (hl:seg.length=sz) (h:W P ops Q rest n (upd e d (.agg seg.toArray)) w):W P ops Q (⟨some d,.load ty' x,ty,pos,af,none⟩::rest) n e w :=
 Y2 _ rfl rfl (Zkx seg hh A hx hs hl) h
theorem Tx {b t off ty':Nat} {x:Operand} {cs:List Value} (v:Value) (hh:(blk b t cs).holds w) (h:ScaT P ty') (hx:ev n e x=.pointer (some ⟨b,off,none⟩))
  (hs:cs[off]? = some v):(execOp (ev n e) ⟨some d,.load ty' x,ty,pos,af,gd⟩).run P w=.ok (.value v) w:=by
 have A:(cs.drop off).take 1=[v]:=by rw [Zv6]; simp [hs]
 simp [execOp,hx,C7,Cm,Ly h (Jv hh A)]
theorem U9 {b t off ty':Nat} {x:Operand} {cs:List Value} (v:Value) (hh:(blk b t cs).holds w) (A:ScaT P ty') (hx:ev n e x=.pointer (some ⟨b,off,none⟩))
  (hs:cs[off]? = some v) (h:W P ops Q rest n (upd e d v) w):W P ops Q (⟨some d,.load ty' x,ty,pos,af,none⟩::rest) n e w :=
 Y2 _ rfl rfl (Tx v hh A hx hs) h
theorem Zaj {f:Operand} {g:FuncId} {cap:List Value} {l:List Operand} {fn:Func} {at_:Array Nat} (vs:List Value) (R:Ending->World->Prop) (hx:ev n e f=.func (.func g) #[] cap.toArray) (hf:P.funcs[g]? = some fn) (hb:fn.body.isNone=false)
  (hne:(fn.name == "runtime.NumGoroutine")=false) (hp:l.map (ev n e)=vs) (hc:Calls P g (vs++cap).toArray w R)
  (h:∀ ret w'',R ret w''->∃ v,ret=.returned v/\W P ops Q rest n (upd e d v) w'') :
  W P ops Q (⟨some d,.call { callee:=.value f,args:=l.toArray,argTypes:=at_ }, ty,pos,af,none⟩::rest) n e w:=by
 refine Zef (d:=d) g (vs++cap).toArray R (λg b hg=>by cases hg) rfl ?_ hc h
 have:l.toArray.map (ev n e)=vs.toArray:=by rw [<- hp]; simp
 simp only [execOp,resolve,this,hx,Zxr,Ca,Ce,Cc,invoke,callFunc];simp only [run_program,Ca,Cc,hf,hne,hb,Zv5,if_false,Ce,Array.append_empty,Array.empty_append];simp
theorem Zak {α β:Type} {f:α->β} {x:α} {v:β} {l:List α} {vs:List β} (h:f x=v) (k:l.map f=vs):(x::l).map f=v::vs:=by rw [Fm,h,k]
theorem Zal {g:FuncId} {cap:List Operand} (vs:List Value) (hc:cap.map (ev n e)=vs) (h:W P ops Q rest n (upd e d (.func (.func g) #[] vs.toArray)) w) :
  W P ops Q (⟨some d,.makeFunc (.func g) #[] cap.toArray,ty,pos,af,none⟩::rest) n e w:=by
 refine Y2 (.func (.func g) #[] vs.toArray) rfl rfl ?_ h
 have:cap.toArray.map (ev n e)=vs.toArray:=by rw [<- hc]; simp
 simp [execOp,Instr.makeFunc,<- hc]
theorem Y7 (h:Ctx X w0 w M Ps) (k:Nat) {t sz nn:Nat} {v:Value} {cs:List Value} (n':Nat) (cs':List Value) (hk:M[k]? = some (own t sz v nn cs)) (hn:nn=n') (hcs:cs=cs'):Ctx X w0 w (M.set k (own t sz v n' cs')) Ps:=by
 subst hn hcs;obtain ⟨hlt,he⟩:=List.getElem?_eq_some_iff.1 hk
 rw [<- he,List.set_getElem_self]
 exact h
end
theorem Zam {w0 w w':World} (h:Bel w0 w) (k:Bel w w'):Bel w0 w':=h.trans k
theorem Ta {w0 w:World} {fp:List Nat} (h:w0.heap.size<=w.heap.size) (hf:∀ b,b∈fp->w.heap.size<=b):∀ b,b∈fp->w0.heap.size<=b:=λb hb=>Cj h (hf b hb)
theorem Xg {w0 w:World} {M Ps:List Item} (h:Ctx Nox w0 w M Ps) (k:Nat) {t sz nn:Nat} {v:Value} {cs:List Value} (hk:M[k]? = some (own t sz v nn cs)):∀ b,b∈v.ownBlock.toList->w0.heap.size<=b :=
 λb hb=>(h.mfp _ (List.mem_of_getElem? hk) b hb).elim id (λx=>x.elim)
theorem Jc {ty sz n:Nat} {v:Value} {cs:List Value} {w:World} (h:(own ty sz v n cs).holds w):v.oneCell'=true:=by
 obtain ⟨A,c,rfl⟩:=V8 h
 rfl
theorem Sn {α:Type} {t:Ty α} {xs:List α} {v:Value} {fp:List Nat} {w:World} (h:t.sl.rep xs [v] fp w):v.oneCell'=true:=t.sl.one h v (by simp)
theorem Uw {ty sz n:Nat} {v:Value} {cs:List Value} {w:World} (h:(own ty sz v n cs).holds w):v.cells.toList=[v]:=by
 obtain ⟨A,c,rfl⟩:=V8 h
 rfl
theorem Zan {α:Type} {t:Ty α} {xs:List α} {v:Value} {fp:List Nat} {w:World} (h:t.sl.rep xs [v] fp w):v.cells.toList=[v]:=by
 obtain ⟨A,c,rfl⟩:=Sk h
 rfl
theorem Wg {w:World} {A:Addr} {j o k:Nat} {cs seg:List Value} (h:Wi w (A.add j) cs) (hs:(cs.drop o).take k=seg):Wi w (A.add (j+o)) seg:=by
 have:=Zkl h hs;rwa [Ql] at this
theorem Vd {w w':World} {a:Addr} {cs:List Value} (B:Bel w w') (h:Wi w a cs):Wi w' a cs:=by
 intro j u hj;have A:=h j u hj;refine(World.cell?_of_block (B.block _ ?_)).trans A
 unfold World.cell? at A
 split at A
 ·rename_i e; exact Ur e
 ·cases A
theorem Xy {v:Value} {vs:List Value} (h:v.oneCell'=true) (k:vs.all (·.oneCell')=true):(v::vs).all (·.oneCell')=true:=by simp [h,k]
theorem Zkz {α:Type} {l:List α} (h:l.length=2):∃ a b,l=[a,b]:=by
 match l,h with
 | [a,b],_=>exact⟨a,b,rfl⟩
theorem W8 {i n sz:Nat} (h:i < n):i * sz+sz<=n * sz:=by
 have:(i+1) * sz<=n * sz:=Zww _ h;rwa [Cs,C3] at this
theorem Y9 {α:Type} [Inhabited α] (xs:List α) (i:Nat) (h:i < xs.length):xs[i]=xs.getD i Ci:=by simp [Co,h]
theorem Zey {α:Type} {E:Enc α} {xs:List α} {cs:List Value} {fp:List Nat} {w:World} (h:E.ty.all xs cs fp w):cs=E.encs xs:=by
 have hl:cs.length=xs.length * E.sz:=h.2.1;have hs:∀ i (hi:i < xs.length),(cs.drop (i * E.sz)).take E.sz=E.enc xs[i]:=λi hi=>(h.2.2.2 i hi).2
 clear h
 induction xs generalizing cs with
 | nil=>simpa [Enc.encs] using hl
 | cons x xs ih =>
  have A:=hs 0 (by simp)
  simp only [Zv8,F9,Zx8] at A
  have ht:=ih (cs:=cs.drop E.sz) (by rw [Zwa,hl,Zw3,Cs,C3]; omega) (λi hi=>by
   have:=hs (i+1) (by simpa using hi)
   simp only [Zx9] at this
   rw [<- this,Ft]
   congr 2
   rw [Cs,C3,Fl])
  simp only [Enc.encs,F8];rw [<- A]
  show cs=_++E.encs xs
  rw [<- ht,Zya]
theorem Eh {α:Type} {E:Enc α} {xs:List α} {v:Value} {fp:List Nat} {w:World} (h:E.ty.sl.rep xs [v] fp w):(rdr E.sz v xs.length (E.encs xs) fp).holds w:=by
 obtain ⟨v',ecs,e,A,B⟩:=h;obtain rfl:v=v':=by simpa using e
 rw [<- Zey B]
 exact A
open Go.ChangeMaps (setBlock)
abbrev kvA (k:IntKind) (a:A8):Value:=.agg (List.toArray (a.enc k))
abbrev vvI (k:IntKind) (a:Int):Value:=.int k a
structure KeyT (P:Program) (k:TypeId) {α:Type} [DecidableEq α] (kv:α->Value):Prop where
 under:∃ d,P.underlying k=some d/\((∀ x u,Zw4 d (kv x) u=none)\/∀ x y,Zw4 d (kv x) (kv y)=some (decide (x=y)))
 check:∀ em w x,(Zvv em 10000 k (kv x)).run P w=.ok () w
 equal:∀ w x y,(Op.equal k (kv x) (kv y)).run P w=.ok (decide (x=y)) w
 stays:∀ x,Instr.sameBits 10000 (kv x) (kv x)=true
section pure
variable {α β:Type} [DecidableEq α]
def Wr:List (α×β)->α->Nat->Option (Nat×β)
 | [],_,_=>none
 | p::l,x,i=>if x=p.1 then some (i,p.2) else Wr l x (i+1)
def Xa:List (α×β)->α->Option β
 | [],_=>none
 | p::l,x=>if x=p.1 then some p.2 else Xa l x
def Yv:List (α×β)->α->β->List (α×β)
 | [],x,v=>[(x,v)]
 | p::l,x,v=>if x=p.1 then(x,v)::l else p::Yv l x v
def Jy:List (α×β)->α->List (α×β)
 | [],_=>[]
 | p::l,x=>if x=p.1 then l else p::Jy l x
theorem Tz {l:List (α×β)} {x:α} {i:Nat} (h:Wr l x i=none):Xa l x=none/\(∀ v,Yv l x v=l++[(x,v)])/\Jy l x=l/\x∉l.map Fo:=by
 induction l generalizing i with
 | nil=>exact⟨rfl,λ_=>rfl,rfl,by simp⟩
 | cons p l ih =>
  unfold Wr at h
  split at h
  ·cases h
  ·rename_i hne;obtain ⟨A,B,I,L⟩:=ih h;refine⟨by simp [Xa,hne,A],λv=>by simp [Yv,hne,B],by simp [Jy,hne,I],?_⟩
   simp only [Fm,Cb,not_or];exact⟨hne,L⟩
theorem T0 {l:List (α×β)} {x:α} {i j:Nat} {v:β} (h:Wr l x i=some (j,v)):i<=j/\l[j - i]? = some (x,v)/\Xa l x=some v/\(∀ u,Yv l x u=l.set (j - i) (x,u))/\Jy l x=l.eraseIdx (j - i):=by
 induction l generalizing i with
 | nil=>cases h
 | cons p l ih =>
  unfold Wr at h
  split at h
  ·rename_i he;obtain ⟨rfl,rfl⟩:i=j/\p.2=v:=by simpa using h
   subst he;simp [Xa,Yv,Jy]
  ·rename_i hne;obtain ⟨O,A,B,I,L⟩:=ih h;have e:j - i=(j - (i+1))+1:=by omega
   rw [e];exact⟨by omega,by simpa using A,by simp [Xa,hne,B],λu=>by simp [Yv,hne,I],by simp [Jy,hne,L]⟩
def Qp (l:List (α×β)) (p:α×β) (l':List (α×β)):Prop:=∃ i,∃ h:i < l.length,l[i]=p/\l'=l.eraseIdx i
end pure
def Yb {α β:Type} (kv:α→Value) (vv:β→Value) (b:Nat) (l:List (α×β)):Item where
  fp:=[b]
  holds w:=∃ es clock,w.heap[b]? = some (.map es clock)∧es.toList.map (fun e=>(e.key,e.val))=l.map (fun p=>(kv p.1,vv p.2))∧(es.toList.map (·.born)).Nodup∧(∀ e∈es.toList,e.born < clock)∧(l.map Fo).Nodup
  keep _ _ h hw:=by obtain ⟨es,c,h1,h2⟩:=hw; exact⟨es,c,(h b (by simp)).trans h1,h2⟩
  low _ hw c hc := by obtain ⟨es, _, h1, _⟩ := hw; obtain rfl : c = b := by simpa using hc
                      exact Ur h1
def V0 (b:Nat) (es:Array MapEntry) (clock:Nat):Item where
  fp:=[b]
  holds w:=w.heap[b]? = some (.map es clock)
  keep _ _ h hw:=(h b (by simp)).trans hw
  low _ hw c hc := by obtain rfl : c = b := by simpa using hc
                      exact Ur hw
def itI {α β:Type} (kv:α→Value) (vv:β→Value) (r b:Nat) (es:Array MapEntry) (clock:Nat) (last:Option MapEntry) (l:List (α×β)):Item where
  fp:=[r]
  holds w:=∃ seen c0,w.heap[r]? = some (.mapIter (some b) clock seen c0)∧clock≤c0∧(leftOf es seen).toList.map (fun e=>(e.key,e.val))=l.map (fun p=>(kv p.1,vv p.2)) ∧
    (∀ e,last=some e→(∃ s:Array Nat,seen=s.push e.born)∧c0=clock∧e∈es.toList)
  keep _ _ h hw:=by obtain ⟨s,c,h1,h2⟩:=hw; exact⟨s,c,(h r (by simp)).trans h1,h2⟩
  low _ hw c hc := by obtain ⟨_, _, h1, _⟩ := hw; obtain rfl : c = r := by simpa using hc
                      exact Ur h1
section
variable {P:Program} {α β:Type} [DecidableEq α] {kv:α->Value} {vv:β->Value}
theorem Zez {k:TypeId} (K:KeyT P k kv) (w:World) (x:α):∀ (es:List MapEntry) (l:List (α×β)) (i:Nat),es.map (λe=>(e.key,e.val))=l.map (λp=>(kv p.1,vv p.2)) ->
  (Instr.findAsking k (kv x) es i).run P w=.ok ((Wr l x i).map (λq=>(q.1,vv q.2))) w
 | [],[],i,_=>rfl
 | [],_::_,_,h=>by simp at h
 | _::_,[],_,h=>by simp at h
 | e :: es, p :: l, i, h => by
  simp only [Fm,Zye,Zvs] at h
  unfold Instr.findAsking Wr;simp only [Ca,h.1.1,K.equal,Cc];by_cases hx:x=p.1
  ·simp [hx,h.1.2]
  ·simp only [hx,decide_false,Zv5,if_false];exact Zez K w x es l (i+1) h.2
theorem Ze0 {d:TypeDesc} (hs:∀ x y,Zw4 d (kv x) (kv y)=some (decide (x=y))) (x:α):∀ (es:List MapEntry) (l:List (α×β)) (i:Nat),es.map (λe=>(e.key,e.val))=l.map (λp=>(kv p.1,vv p.2)) ->
  Zw5 d (kv x) es i=some ((Wr l x i).map (λq=>(q.1,vv q.2)))
 | [],[],i,_=>rfl
 | [],_::_,_,h=>by simp at h
 | _::_,[],_,h=>by simp at h
 | e :: es, p :: l, i, h => by
  simp only [Fm,Zye,Zvs] at h
  unfold Zw5 Wr;rw [h.1.1,hs];by_cases hx:x=p.1
  ·simp [hx,h.1.2]
  ·simp only [hx,decide_false,if_false];exact Ze0 hs x es l (i+1) h.2
theorem Qq {k:TypeId} (K:KeyT P k kv) (w:World) (x:α) (es:List MapEntry) (l:List (α×β)) (h:es.map (λe=>(e.key,e.val))=l.map (λp=>(kv p.1,vv p.2))) :
  (Instr.findKey k (kv x) es).run P w=.ok ((Wr l x 0).map (λq=>(q.1,vv q.2))) w:=by
 obtain ⟨d,hd,hs⟩:=K.under;unfold Instr.findKey;simp only [Ca,run_underlying hd,Cc];rcases hs with hs | hs
 ·cases es with
  | nil =>
   cases l with
   | nil=>rfl
   | cons=>simp at h
  | cons e es=>simp only [Zw5,hs]; exact Zez K w x (e::es) l 0 h
 ·rw [Ze0 hs x es l 0 h]; rfl
theorem Zk0 {t k el:TypeId} (K:KeyT P k kv) (ht:P.underlying t=some (.map k el)) {w:World} {b:Nat} {l:List (α×β)} (h:(Yb kv vv b l).holds w) (x:α) {z:β} (hz:Je P el (vv z)) :
  (Instr.lookup t (.map (some b)) (kv x) false).run P w=.ok (vv ((Xa l x).getD z)) w:=by
 obtain ⟨es,clock,A,B,I⟩:=h;have hg:(getObj b).run P w=.ok (.map es clock) w:=by simp [getObj,Cr,A]
 simp only [Instr.lookup,Ca,run_underlying ht,Cc,hg,Ce,K.check,Qq K w x es.toList l B];cases hf:Wr l x 0 with
 | none=>simp [(Tz hf).1,G2 hz]
 | some q=>obtain ⟨j,v⟩:=q; simp [(T0 hf).2.2.1]
theorem Ei {w:World} {r:Nat} {es:Array MapEntry} {c:Nat} (hr:w.heap[r]? = some (.map es c)) (o':Obj):(setObj r o').run P w=.ok () (setBlock w r o'):=by
 simp [setObj,Cr,hr,setBlock]
structure BelB (b:Nat) (w w':World):Prop where
 os:w'.os=w.os
 tape:w'.tape=w.tape
 output:w'.output=w.output
 size:w.heap.size<=w'.heap.size
 drawn:w.drawn<=w'.drawn
 old:∀ c,c < w.heap.size->c≠b->w'.heap[c]? = w.heap[c]?
theorem BelB.set (w:World) (b:Nat) (o:Obj):BelB b w (setBlock w b o) where
 os:=rfl
 tape:=rfl
 output:=rfl
 size:=by simp [setBlock]
 drawn:=Cg _
 old c _ hc:=by simp [setBlock,Array.getElem?_setIfInBounds_ne hc.symm]
theorem L3 {w:World} {b:Nat} {o:Obj} (h:b < w.heap.size):(setBlock w b o).heap[b]? = some o:=by simp [setBlock,h]
theorem Ej {l:List (α×β)} {x:α} {v:β} (h:(l.map Fo).Nodup):((Yv l x v).map Fo).Nodup:=by
 cases hf:Wr l x 0 with
 | none =>
  obtain ⟨_,B,_,I⟩:=Tz hf;rw [B,List.map_append,Fk];refine⟨h,by simp,λa ha b hb=>?_⟩
  obtain rfl:b=x:=by simpa using hb
  exact λe=>I (e ▸ ha)
 | some q =>
  obtain ⟨j,u⟩:=q;obtain ⟨_,A,_,L,_⟩:=T0 hf;rw [L]
  have:(l.set (j - 0) (x,v)).map Fo=l.map Fo:=by
   rw [List.map_set];apply List.ext_getElem?;intro i;by_cases hij:j - 0=i
   ·subst hij;have hj:=(List.getElem?_eq_some_iff.1 A).1
    rw [List.getElem?_set_self (by simpa using hj),List.getElem?_map,A]; rfl
   ·rw [List.getElem?_set_ne hij]
  rw [this]; exact h
theorem Ze1 {t k el:TypeId} (K:KeyT P k kv) (ht:P.underlying t=some (.map k el)) {w:World} {b:Nat} {l:List (α×β)} (h:(Yb kv vv b l).holds w) (x:α) (v:β) :
  ∃ w',(Zw6 t (.map (some b)) (kv x) (vv v)).run P w=.ok () w'/\(Yb kv vv b (Yv l x v)).holds w'/\BelB b w w':=by
 obtain ⟨es,clock,B,A,O,I,U⟩:=h;have hlt:=Ur B;have hg:(getObj b).run P w=.ok (.map es clock) w:=by simp [getObj,Cr,B]
 have hlen:es.size=l.length:=by have:=I1 Fg A; simpa using this
 cases hf:Wr l x 0 with
 | none =>
  obtain ⟨_,q2,_,_⟩:=Tz hf;refine⟨setBlock w b (.map (es.push ⟨kv x,vv v,clock⟩) (clock+1)),?_,⟨_,_,L3 hlt,?_,?_,?_,Ej U⟩,BelB.set _ _ _⟩
  ·simp only [Zw6,Ca,run_underlying ht,Cc,hg,Ce,K.check,Qq K w x es.toList l A,hf,Option.map_none,Ei B]
  ·rw [q2]; simp [A]
  ·simp only [Array.toList_push,List.map_append,Fm,List.map_nil];rw [Fk];refine⟨O,by simp,λa ha b hb e=>?_⟩
   obtain ⟨e0,V,rfl⟩:=Cp.1 ha;have:=I e0 V;simp at hb; omega
  ·intro e he;simp only [Array.toList_push,Ch,Fc] at he
   rcases he with he | rfl
   ·exact Zwl (I e he)
   ·exact Zwf _
 | some q =>
  obtain ⟨j,u⟩:=q;obtain ⟨_,L,_,q3,_⟩:=T0 hf;rw [Nat.sub_zero] at L q3
  have hj:j < l.length:=(List.getElem?_eq_some_iff.1 L).1
  have hjs:j < es.size:=by omega
  have hkey:es[j].key=kv x:=by
   have:=I1 (·[j]?) A;simp only [List.getElem?_map,L,Fw,Array.getElem?_toList,Array.getElem?_eq_getElem hjs] at this
   simpa using (I1 Fo (Zyk this))
  refine⟨setBlock w b (.map (es.modify j λe=>{ e with key:=kv x,val:=vv v }) clock),?_,⟨_,_,L3 hlt,?_,?_,?_,Ej U⟩,BelB.set _ _ _⟩
  ·simp only [Zw6,Ca,run_underlying ht,Cc,hg,Ce,K.check,Qq K w x es.toList l A,hf,Fw,Array.getElem?_eq_getElem hjs,Zw1,hkey,Instr.keyThatStays,K.stays,if_true,Ei B]
  ·rw [q3];apply List.ext_getElem?;intro i;have h2i:=I1 (·[i]?) A;simp only [List.getElem?_map,Array.getElem?_toList,Array.getElem?_modify] at h2i ⊢
   by_cases hij:j=i
   ·subst hij;simp [hjs,hj]
   ·simp [hij,List.getElem?_set_ne hij] at h2i ⊢
    exact h2i
  ·have:(es.modify j λe=>{ e with key:=kv x,val:=vv v }).toList.map (·.born)=es.toList.map (·.born):=by
    apply List.ext_getElem?;intro i;simp only [List.getElem?_map,Array.getElem?_toList,Array.getElem?_modify]
    by_cases hij:j=i
    ·subst hij; simp [hjs]
    ·simp [hij]
   rw [this]; exact O
  ·intro e he;obtain ⟨i,hi,rfl⟩:=Cw he;simp only [Array.getElem_toList,Array.getElem_modify];have hi':i < es.size:=by simpa using hi
   split
   ·exact I es[i] (by simp)
   ·exact I es[i] (by simp)
theorem Zk1 {t k el:TypeId} {ats:Array TypeId} {ty:TypeId} (K:KeyT P k kv) (ht:P.underlying t=some (.map k el)) (ha:ats[0]? = some t) {w:World} {b:Nat} {l:List (α×β)} (h:(Yb kv vv b l).holds w) (x:α) :
  ∃ w',(Zw7 ats ty #[.map (some b),kv x]).run P w=.ok (.tuple #[]) w'/\(Yb kv vv b (Jy l x)).holds w'/\BelB b w w':=by
 obtain ⟨es,clock,B,A,h3,O,h5⟩:=h;have hlt:=Ur B;have hg:(getObj b).run P w=.ok (.map es clock) w:=by simp [getObj,Cr,B]
 have hlen:es.size=l.length:=by have:=I1 Fg A; simpa using this
 cases hf:Wr l x 0 with
 | none =>
  obtain ⟨_,_,U,_⟩:=Tz hf;refine⟨setBlock w b (.map es clock),?_,⟨_,_,L3 hlt,by rw [U]; exact A,h3,O,by rw [U]; exact h5⟩,BelB.set _ _ _⟩
  simp [Zw7,ha,Ca,run_underlying ht,Cc,hg,Ce,K.check,Qq K w x es.toList l A,hf,Ei B]
 | some q =>
  obtain ⟨j,u⟩:=q;obtain ⟨_,V,_,_,I⟩:=T0 hf;rw [Nat.sub_zero] at V I
  have hj:j < l.length:=(List.getElem?_eq_some_iff.1 V).1
  have hjs:j < es.size:=by omega
  have L:(es.eraseIdxIfInBounds j).toList=es.toList.eraseIdx j:=by
   simp [Array.eraseIdxIfInBounds,hjs]
  refine⟨setBlock w b (.map (es.eraseIdxIfInBounds j) clock),?_,⟨_,_,L3 hlt,?_,?_,?_,?_⟩,BelB.set _ _ _⟩
  ·simp [Zw7,ha,Ca,run_underlying ht,Cc,hg,Ce,K.check,Qq K w x es.toList l A,hf,Ei B]
  ·rw [I,L,Fx,Fx,A]
  ·rw [L,Fx]; exact h3.sublist (Zwq ..)
  ·rw [L]; exact λe he=>O e (List.mem_of_mem_eraseIdx he)
  ·rw [I,Fx]; exact h5.sublist (Zwq ..)
theorem Zk2 {w:World} {b:Nat} {l:List (α×β)} (h:(Yb kv vv b l).holds w):∃ es clock,w.heap[b]? = some (.map es clock)/\es.size=l.length:=by
 obtain ⟨es,clock,A,B,_⟩:=h;exact⟨es,clock,A,by have:=I1 Fg B; simpa using this⟩
end
section
variable {P:Program} {ops:Array Oper} {Q:Exit->Act->World->Prop} {n:Nat} {e:Env} {w w':World} {rest:List Oper}
variable {X:Nat->Prop} {w0:World} {M Ps:List Item}
variable {d ty:Nat} {pos:String} {af:Array Edge} {gd:Option (Nat×Bool)}
variable {α β:Type} [DecidableEq α] {kv:α->Value} {vv:β->Value}
theorem Ctx.turnB (h:Ctx X w0 w M Ps) (k:Nat) {it jt:Item} {b:Nat} (hk:M[k]? = some it) (hb:BelB b w w') (hi:it.fp=[b]) (hj:jt.fp=[b]) (hh:jt.holds w'):Ctx X w0 w' (M.set k jt) Ps :=
 h.turn k hk hb.os hb.tape hb.output hb.size hb.drawn (λc hc hc'=>hb.old c hc (by simpa [hi] using hc')) hh (λc hc=>.inl (by rw [hi]; rwa [hj] at hc))
theorem Zk3 {o:Oper} {v:Value} (hg:o.guard=none) (hd:o.dst=none) (hr:(execOp (ev n e) o).run P w=.ok (.value v) w')
  (h:W P ops Q rest n e w'):W P ops Q (o::rest) n e w:=by
 refine⟨?_⟩
 unfold wpList;rw [if_pos (by simp [Cf,hg])]
 refine .inl ?_
 unfold C5;rw [Up,hr,Zvz,hd];exact h.out
theorem Ctx.start1 (w:World) (b:Nat) {it:Item} (hfp:it.fp=[b]) (Ps:List Item) (hi:it.holds w) (hp:∀ jt,jt∈Ps->jt.holds w) (hd:∀ jt,jt∈Ps->∀ c,c∈jt.fp->c≠b):Ctx (λc=>c=b) w w [it] Ps :=
 ⟨rfl,rfl,rfl,Cg _,Cg _,λ_ _ _=>rfl,by simpa using hi,hp,by simp [hfp],by simp,λjt hj c hc m hm hcm=>by
  obtain rfl:m=it:=by simpa using hm
  rw [hfp] at hcm
  exact hd jt hj c hc (Fc.1 hcm)⟩
theorem Ctx.belB {b:Nat} (h:Ctx (λc=>c=b) w0 w M Ps):BelB b w0 w:=⟨h.os,h.tape,h.output,h.size,h.drawn,λc hc hne=>h.old c hc hne⟩
theorem Ctx.mm (h:Ctx X w0 w M Ps) (i j:Nat) {a c:Item} (hi:M[i]? = some a) (hj:M[j]? = some c) (hne:i≠j):∀ x,x∈a.fp->x∉c.fp:=by
 obtain ⟨A,I⟩:=List.getElem?_eq_some_iff.1 hi
 obtain ⟨B,L⟩:=List.getElem?_eq_some_iff.1 hj
 subst I L;rcases Zwp hne with hl | hl
 ·exact Cq.1 h.dis i j A B hl
 ·exact λx hx hx'=>Cq.1 h.dis j i B A hl x hx' hx
theorem L4 (h:Ctx Nox w0 w M Ps) (k:Nat) {b:Nat} {l:List (α×β)} (hk:M[k]? = some (Yb kv vv b l)):w0.heap.size<=b :=
 (h.mfp _ (List.mem_of_getElem? hk) b (by simp [Yb])).elim id (λx=>x.elim)
theorem Md (B:Ctx X w0 w M Ps) {t:Nat} (kv:α->Value) (vv:β->Value) (h:∀ b w',Bel w w'->Ctx X w0 w' (Yb kv vv b []::M) Ps->W P ops Q rest n (upd e d (.map (some b))) w') :
  W P ops Q (⟨some d,.makeMap t none,ty,pos,af,none⟩::rest) n e w:=by
 have A:Bel w (w.alloc (.map #[] 0)):=Bel.alloc _ _;refine Y2 (.map (some w.heap.size)) rfl rfl ?_ (h w.heap.size _ A (B.push A _ ⟨#[],0,heap_alloc_new _ _,rfl,by simp,by simp,by simp⟩ (by simp [Yb])))
 simp [execOp,Instr.makeMap,newObj,Cr,Result.andThen]
theorem Ek (A:Ctx X w0 w M Ps) (j:Nat) {t k el b:Nat} {l:List (α×β)} {x y z:Operand} (kx:α) (v:β) (hk:M[j]? = some (Yb kv vv b l)) (K:KeyT P k kv) (ht:P.underlying t=some (.map k el))
  (hx:ev n e x=.map (some b)) (hy:ev n e y=kv kx) (hz:ev n e z=vv v) (h:∀ w',Ctx X w0 w' (M.set j (Yb kv vv b (Yv l kx v))) Ps->W P ops Q rest n e w') {op:Op} (hop:op=.mapUpdate t x y z\/op=.insert t x y z) :
  W P ops Q (⟨none,op,ty,pos,af,none⟩::rest) n e w:=by
 obtain ⟨w',hr,hh,hb⟩:=Ze1 K ht (A.Ix j hk) kx v;refine Uq rfl rfl ?_ (h w' (A.turnB j hk hb rfl rfl hh))
 rcases hop with rfl | rfl <;> simp [execOp,hx,hy,hz,hr]
theorem Zk4 (A:Ctx X w0 w M Ps) (j:Nat) {t k el b:Nat} {l:List (α×β)} {x y:Operand} (kx:α) (hk:M[j]? = some (Yb kv vv b l)) (K:KeyT P k kv) (ht:P.underlying t=some (.map k el))
  (hx:ev n e x=.map (some b)) (hy:ev n e y=kv kx) {ats:Array TypeId} (ha:ats[0]? = some t) (h:∀ w',Ctx X w0 w' (M.set j (Yb kv vv b (Jy l kx))) Ps->W P ops Q rest n e w') :
  W P ops Q (⟨none,.call { callee:=.builtin .delete,args:=#[x,y],argTypes:=ats }, ty,pos,af,none⟩::rest) n e w:=by
 obtain ⟨w',hr,hh,hb⟩:=Zk1 (ty:=ty) K ht ha (A.Ix j hk) kx;refine Zk3 (v:=.tuple #[]) rfl rfl ?_ (h w' (A.turnB j hk hb rfl rfl hh))
 simp [execOp,resolve,invoke,builtin,hx,hy,hr]
theorem Ze2 {t k el b:Nat} {l:List (α×β)} {x y:Operand} (kx:α) (z:β) (hh:(Yb kv vv b l).holds w) (K:KeyT P k kv) (ht:P.underlying t=some (.map k el)) (hz:Je P el (vv z))
  (hx:ev n e x=.map (some b)) (hy:ev n e y=kv kx):(execOp (ev n e) ⟨some d,.lookup t x y false,ty,pos,af,gd⟩).run P w=.ok (.value (vv ((Xa l kx).getD z))) w:=by
 simp [execOp,hx,hy,Zk0 K ht hh kx hz]
theorem Ze3 {t k el b:Nat} {l:List (α×β)} {x y:Operand} (kx:α) (z:β) (hh:(Yb kv vv b l).holds w) (K:KeyT P k kv) (ht:P.underlying t=some (.map k el)) (hz:Je P el (vv z))
  (hx:ev n e x=.map (some b)) (hy:ev n e y=kv kx) (h:W P ops Q rest n (upd e d (vv ((Xa l kx).getD z))) w):W P ops Q (⟨some d,.lookup t x y false,ty,pos,af,none⟩::rest) n e w :=
 Y2 _ rfl rfl (Ze2 kx z hh K ht hz hx hy) h
theorem Zk5 {t k el b:Nat} {l:List (α×β)} {x:Operand} (hh:(Yb kv vv b l).holds w) (ht:P.underlying t=some (.map k el)) (hx:ev n e x=.map (some b)) {ats:Array TypeId} (ha:ats=#[t]) :
  (execOp (ev n e) ⟨some d,.call { callee:=.builtin .len,args:=#[x],argTypes:=ats }, ty,pos,af,gd⟩).run P w=.ok (.value (.int .i64 l.length)) w:=by
 obtain ⟨es,clock,h,A⟩:=Zk2 hh;have hg:(getObj b).run P w=.ok (.map es clock) w:=by simp [getObj,Cr,h]
 subst ha;simp [execOp,resolve,invoke,hx,builtin,Zwx,run_underlying ht,hg,goInt,A]
theorem Zk6 {t k el b:Nat} {l:List (α×β)} {x:Operand} (hh:(Yb kv vv b l).holds w) (ht:P.underlying t=some (.map k el)) (hx:ev n e x=.map (some b)) {ats:Array TypeId} (ha:ats=#[t])
  (h:W P ops Q rest n (upd e d (.int .i64 l.length)) w):W P ops Q (⟨some d,.call { callee:=.builtin .len,args:=#[x],argTypes:=ats }, ty,pos,af,none⟩::rest) n e w :=
 Y2 _ rfl rfl (Zk5 hh ht hx ha) h
theorem Zk7 (es:Array MapEntry):leftOf es #[]=es:=by simp [leftOf]
theorem L5 (A:Ctx X w0 w M Ps) (j:Nat) {t k el b:Nat} {l:List (α×β)} {x:Operand} (hk:Ps[j]? = some (Yb kv vv b l)) (ht:P.underlying t=some (.map k el)) (hx:ev n e x=.map (some b))
  (h:∀ r es clock w',Bel w w'->(es.toList.map (·.born)).Nodup->(∀ e∈es.toList,e.born < clock)->Ctx X w0 w' (itI kv vv r b es clock none l::M) (V0 b es clock::Ps)->W P ops Q rest n (upd e d (.pointer (some ⟨r,0,none⟩))) w') :
  W P ops Q (⟨some d,.range t x,ty,pos,af,none⟩::rest) n e w:=by
 obtain ⟨es,clock,B,L,O,U,V⟩:=A.Iw j hk;have hg:(getObj b).run P w=.ok (.map es clock) w:=by simp [getObj,Cr,B]
 have hC2:=A.I0 j hk (V0 b es clock) (λ_=>B) (λ_ h=>h)
 have I:Bel w (w.alloc (.mapIter (some b) clock #[] clock)):=Bel.alloc _ _;refine Y2 _ rfl rfl ?_ (h w.heap.size es clock _ I O U (hC2.push I _ ⟨#[],clock,heap_alloc_new _ _,Cg _,by rw [Zk7]; exact L,by simp⟩ (by simp [itI])))
 simp [execOp,Instr.range,hx,run_underlying ht,hg,newObj,Cr,Result.andThen]
theorem Zk8 {es:Array MapEntry} {seen:Array Nat} (hn:(es.toList.map (·.born)).Nodup) {i:Nat} (hi:i < (leftOf es seen).toList.length) :
  (leftOf es (seen.push ((leftOf es seen).toList[i]).born)).toList=(leftOf es seen).toList.eraseIdx i:=by
 have h:((leftOf es seen).toList.map (·.born)).Nodup:=by
  unfold leftOf; rw [Zym];exact hn.sublist (List.filter_sublist.map _)
 have A:leftOf es (seen.push ((leftOf es seen).toList[i]).born)=(leftOf es seen).filter (λe=>e.born != ((leftOf es seen).toList[i]).born):=by
  generalize ((leftOf es seen).toList[i]).born=q;unfold leftOf;rw [Array.filter_filter]
  congr 1
  funext e
  simp [Array.contains_push,bne,Bool.not_or];cases hq:decide (e.born=q) <;> simp_all
 rw [A,Zym];clear A;generalize (leftOf es seen).toList=L at h hi ⊢
 induction L generalizing i with
 | nil=>simp at hi
 | cons a L ih =>
  rw [Fm,List.nodup_cons] at h
  cases i with
  | zero =>
   have:L.filter (λe=>e.born != a.born)=L:=by
    rw [List.filter_eq_self];intro x hx;have:x.born≠a.born:=λe=>h.1 (e ▸ Cp.2 ⟨x,hx,rfl⟩)
    simpa using this
   simp [this]
  | succ i =>
   have hi':i < L.length:=by simpa using hi
   have hne:a.born≠(L[i]).born:=λe=>h.1 (e ▸ Cp.2 ⟨L[i],C4 hi',rfl⟩)
   have:=ih h.2 hi';simp [hne,this]
theorem L6 (B:Ctx X w0 w M Ps) (j p:Nat) {r b:Nat} {es:Array MapEntry} {clock:Nat} {last:Option MapEntry} {l:List (α×β)} {x:Operand} (hk:M[j]? = some (itI kv vv r b es clock last l)) (hp:Ps[p]? = some (V0 b es clock))
  (hn:(es.toList.map (·.born)).Nodup) (hb:∀ e∈es.toList,e.born < clock) (hx:ev n e x=.pointer (some ⟨r,0,none⟩))
  (O:l=[]->W P ops Q rest n (upd e d (.tuple #[.bool false])) w)
  (U:∀ q l' ent w',Qp l q l'->ent.key=kv q.1->ent.val=vv q.2->Ctx X w0 w' (M.set j (itI kv vv r b es clock (some ent) l')) Ps->W P ops Q rest n (upd e d (.tuple #[.bool true,kv q.1,vv q.2])) w') :
  W P ops Q (⟨some d,.next x false,ty,pos,af,none⟩::rest) n e w:=by
 obtain ⟨seen,V,I,g2,h,g4⟩:=B.Ix j hk;have g0:w.heap[b]? = some (.map es clock):=B.Iw p hp;rcases run_next_at (P:=P) w ty r b clock V seen es clock I g0 hb g2 with ⟨hs,hr⟩ | ⟨ent,hent,w1,A,hr⟩
 ·have:l=[]:=by
   have:=I1 Fg h;simp only [List.length_map,Zv2,hs] at this
   exact Zyo.1 this.symm
  exact Y2 _ rfl rfl (by simp [execOp,hx,hr]) (O this)
 ·obtain ⟨i,hi,hie⟩:=Cw hent;have hlen:i < l.length:=by have:=I1 Fg h; simp only [List.length_map] at this; omega
  have hq:=I1 (·[i]?) h;simp only [List.getElem?_map,List.getElem?_eq_getElem hi,List.getElem?_eq_getElem hlen,Fw,Option.some.injEq,Zvs,hie] at hq
  have hlt:r < w1.heap.size:=by rcases A with rfl | rfl <;> exact Ur I
  have hB:BelB r w (setBlock w1 r (.mapIter (some b) clock (seen.push ent.born) clock)):=by
   rcases A with rfl | rfl
   ·exact BelB.set _ _ _
   ·have:=BelB.set w.drew r (.mapIter (some b) clock (seen.push ent.born) clock);exact⟨this.os,this.tape,this.output,this.size,Cj (F5 _) this.drawn,this.old⟩
  refine Y2 _ rfl rfl (by simp [execOp,hx,hr,hq.1,hq.2]) (U l[i] (l.eraseIdx i) ent _ ⟨i,hlen,rfl,rfl⟩ hq.1 hq.2 (B.turnB j hk hB rfl rfl ⟨seen.push ent.born,clock,L3 hlt,Cg _,?_,?_⟩))
  ·subst hie;rw [Zk8 hn hi,Fx,h,<- Fx]
  ·intro e2 L;obtain rfl:ent=e2:=by simpa using L
   exact⟨⟨seen,rfl⟩,rfl,(mem_left hent).1⟩
theorem L7 (B:Ctx X w0 w M Ps) (j p:Nat) {r b:Nat} {es:Array MapEntry} {clock:Nat} {ent:MapEntry} {l:List (α×β)} {x:Operand} (q:α×β) (hk:M[j]? = some (itI kv vv r b es clock (some ent) l)) (hp:Ps[p]? = some (V0 b es clock))
  (hn:(es.toList.map (·.born)).Nodup) (hx:ev n e x=.pointer (some ⟨r,0,none⟩)) (hkq:ent.key=kv q.1) (hvq:ent.val=vv q.2)
  (h:W P ops Q rest n (upd e d (.tuple #[kv q.1,vv q.2])) w) :
  W P ops Q (⟨some d,.entry x,ty,pos,af,none⟩::rest) n e w:=by
 obtain ⟨seen,A,I,U,V,L⟩:=B.Ix j hk;obtain ⟨⟨s,rfl⟩,rfl,hm⟩:=L ent rfl;have O:w.heap[b]? = some (.map es A):=B.Iw p hp;exact Y2 _ rfl rfl (by simp [execOp,hx,run_entry_at (P:=P) w r b A s es A ent I O hm hn,hkq,hvq]) h
end
def Ux {α β S:Type} [DecidableEq α] (body:α×β->S->(S->Prop)->Prop) (exit:S->Prop):Nat->List (α×β)->S->Prop
 | 0,_,s=>exit s
 | k+1,l,s=>∀ p l',Qp l p l'->body p s (Ux body exit k l')
section
variable {P:Program} {c:Code} {Q:Exit->Act->World->Prop} {n:Nat} {e:Env} {w:World}
theorem L8 {α β:Type} [DecidableEq α] {l l':List (α×β)} {p:α×β} (h:Qp l p l'):l.length=l'.length+1:=by
 obtain ⟨i,hi,_,rfl⟩:=h;rw [Zxl hi]; omega
theorem L9 {α β S:Type} [DecidableEq α] (B:α×β->S->(S->Prop)->Prop) (E:S->Prop) (I:List (α×β)->S->Env->World->Prop)
  (body:∀ l s e w (next:List (α×β)->S->Prop) (K:Act->World->Prop),I l s e w->(l=[]->E s)/\(∀ p l',Qp l p l'->B p s (next l'))->(∀ p l' s' e' w',Qp l p l'->I l' s' e' w'->next l' s'->K (actOf n e') w')->c.wp P (Exit.then K Q) (actOf n e) w)
  {l0:List (α×β)} {s0:S} (O:I l0 s0 e w) (U:Ux B E l0.length l0 s0):(Code.loop c).wp P Q (actOf n e) w:=by
 have L:∀ k l s e w,l.length=k->I l s e w->Ux B E k l s->Code.rounds P c Q (k+1) (actOf n e) w:=by
  intro k
  induction k with
  | zero =>
   intro l s e w hl A h;refine body l s e w (λ_ _=>True) _ A ⟨λ_=>h,λp l' hp=>?_⟩ (λp l' s' e' w' hp _ _=>?_)
   ·have:=L8 hp; omega
   ·have:=L8 hp; omega
  | succ k ih =>
   intro l s e w hl A h;refine body l s e w (Ux B E k) _ A ⟨λhn=>by subst hn; simp at hl,λp l' hp=>h p l' hp⟩ (λp l' s' e' w' hp hI' h'=>?_)
   have:=L8 hp;exact ih l' s' e' w' (by omega) hI' h'
 exact wp_loop_rounds (l0.length+1) (L l0.length l0 s0 e w rfl O U)
end
section
variable {P:Program} {k el len:Nat} {ik:IntKind}
theorem Ze4 {d:Nat} (he:P.underlying el=some (.int ik)) (w:World) (a b:Int):(Zwh (d+1) el (.int ik a) (.int ik b)).run P w=.ok (decide (a=b)) w:=by
 unfold Zwh;simp [Ca,run_underlying he,Zws]
theorem Zao (hk:P.underlying k=some (.array 8 el)) (he:P.underlying el=some (.int ik)) (hs:ScaT P el):KeyT P k (kvA ik) where
 under:=⟨_,hk,.inl λx u=>by cases u <;> rfl⟩
 check em w x:=by
  have hi:∀ m y,(Zvv em (m+1) el (.int ik y)).run P w=.ok () w:=by
   intro m y; unfold Zvv; simp [Ca,run_underlying he]
  show (Zvv em (9999+1) k _).run P w=_
  unfold Zvv;simp only [Ca,run_underlying hk,Cc];simp [Zyp,List.range',Wy hs.size,part,Lx hs,A8.enc,Ca,hi 9998]
 equal w x y:=by
  show (Zwh (9999+1) k _ _).run P w=_
  unfold Zwh;simp only [Ca,run_underlying hk,Cc];simp [Zyp,List.range',Wy hs.size,part,Lx hs,A8.enc,Ca,Ze4 (d:=9998) he];have e:(x=y)↔(x.x0=y.x0/\x.x1=y.x1/\x.x2=y.x2/\x.x3=y.x3/\x.x4=y.x4/\x.x5=y.x5/\x.x6=y.x6/\x.x7=y.x7):=by cases x; cases y; simp
  simp only [e]
  (repeat' split) <;> simp_all
 stays x:=by simp [Instr.sameBits,A8.enc]
end
open Go.Proofs (CmpLays sortWorldK ltOf)
open Go.Sort (grow putRowK flatK HoldsK SWO PermIn SortedIn mapBlock onCells putCells putRow)
structure BelO (fp:List Nat) (w w':World):Prop where
 os:w'.os=w.os
 tape:w'.tape=w.tape
 output:w'.output=w.output
 size:w.heap.size<=w'.heap.size
 drawn:w.drawn<=w'.drawn
 old:∀ c,c < w.heap.size->c∉fp->w'.heap[c]? = w.heap[c]?
section
variable {P:Program} {ops:Array Oper} {Q:Exit->Act->World->Prop} {n:Nat} {e:Env} {w w':World} {rest:List Oper}
variable {X:Nat->Prop} {w0:World} {M Ps:List Item}
variable {d ty:Nat} {pos:String} {af:Array Edge}
structure Cmp (P:Program) (ρ:Go.Shelf.Ren) {α:Type} [Inhabited α] (E:Enc α) (Ok:α->Prop) (cf:α->α->Int) (g:Nat):Prop where
 lays:Go.Proofs.SlLaysF0.n6 P ρ
 one:∃ x0,Ok x0
 agg:AggT P (ρ.t 24) E.sz
 swo:SWO (ltOf (λa b:{a // Ok a}=>cf a.1 b.1))
 fn:∃ fn:Func,P.funcs[g]? = some fn/\fn.body.isNone=false/\(fn.name == "runtime.NumGoroutine")=false
 call:∀ a b,Ok a->Ok b->∀ w,Calls P g #[.agg (E.enc a).toArray,.agg (E.enc b).toArray] w λe w'=>e=.returned (.int .i64 (cf a b))/\Bel w w'
end
open Go.Proofs (ltOf)
open Go.Sort (SWO)
def A8.list (a:A8):List Int:=[a.x0,a.x1,a.x2,a.x3,a.x4,a.x5,a.x6,a.x7]
def J8:List Int->List Int->Int
 | x::xs,y::ys=>if x≠y then y - x else J8 xs ys
 | _,_=>0
def pcmp (a b:A8):Int:=J8 a.list b.list
def OkP (a:A8):Prop:=∀ x,x∈a.list->0<=x/\x<=1099511627776
theorem Zk9 (xs:List Int):J8 xs xs=0:=by
 induction xs with
 | nil=>rfl
 | cons x xs ih=>simp [J8,ih]
theorem Ze5:∀ (xs ys zs:List Int),xs.length=ys.length->ys.length=zs.length->J8 xs ys < 0->J8 ys zs < 0->J8 xs zs < 0
 | [],[],_,_,_,h,_=>by simp [J8] at h
 | x :: xs, y :: ys, z :: zs, I, L, A, B => by
  simp only [J8] at A B ⊢
  have:=Ze5 xs ys zs (by simpa using I) (by simpa using L)
  split at A <;> split at B <;> split <;> first | omega | exact this A B
 | x::xs,y::ys,[],_,h,_,_=>by simp at h
theorem OkP.sub {a b:A8} (ha:OkP a) (hb:OkP b):(0<=a.x0/\a.x0<=1099511627776/\0<=b.x0/\b.x0<=1099511627776)/\(0<=a.x1/\a.x1<=1099511627776/\0<=b.x1/\b.x1<=1099511627776)/\(0<=a.x2/\a.x2<=1099511627776/\0<=b.x2/\b.x2<=1099511627776)/\(0<=a.x3/\a.x3<=1099511627776/\0<=b.x3/\b.x3<=1099511627776) /\
  (0<=a.x4/\a.x4<=1099511627776/\0<=b.x4/\b.x4<=1099511627776)/\(0<=a.x5/\a.x5<=1099511627776/\0<=b.x5/\b.x5<=1099511627776)/\(0<=a.x6/\a.x6<=1099511627776/\0<=b.x6/\b.x6<=1099511627776)/\(0<=a.x7/\a.x7<=1099511627776/\0<=b.x7/\b.x7<=1099511627776):=by
 simp only [OkP,A8.list,Cb,Zwd,or_false,forall_eq_or_imp,forall_eq] at ha hb
 omega
def Ze6 (h A:A8) (K:Int->Prop):Prop:=Z1 (λi (s:Unit) next=>(if h.get i≠A.get i then K (Zwt.wrap ((A.get i) - (h.get i))) else next ())) (λ(s:Unit)=>K 0) 8 0 ()
theorem Zla {a b:A8} {K:Int->Prop} (ha:OkP a) (hb:OkP b) (h:K (pcmp a b)):Ze6 a b K:=by
 obtain ⟨A,B,I,L,O,U,V,h7⟩:=ha.sub hb;simp only [Ze6,Z1,A8.get];simp only [pcmp,A8.list,J8] at h
 repeat' split
 all_goals (first | (rw [i64_in _ (by omega)]; simp_all; done) | simp_all)
open Go Go.RowKit Go.ChangeShapes Go.WideShapes Go.ChangeAt
section
variable {H:Type} {enc:TypeId×Value->H} {P:Program} {W:World}
abbrev allB (W:World):List Nat:=C9 W.heap.size
def Opens (enc:TypeId×Value->H) (P:Program) (W:World) (t:TypeId) {α:Type} (T:Ty α) (G:α->Prop):Prop :=
 ∀ fuel cs x,DataW.trod enc P W 0 (λ_=>true) true fuel t cs=some x->∃ a,T.rep a cs (allB W) W/\G a
theorem Me:∀ b,b∈allB W->b < W.heap.size:=by simp
def Fit (k:IntKind) (n:Int):Prop:=(Lit.int k n).wf=true
def Ve (k:IntKind) (a:A8):Prop:=∀ x,x∈a.list->Fit k x
theorem Zlb {t:TypeId} {k:IntKind} (ht:P.underlying t=some (.int k)):Opens enc P W t (EI k).ty (Fit k):=by
 intro fuel cs x h;obtain ⟨n,rfl,_,hw⟩:=DataW.trod_int ht h;exact⟨n,⟨Me,rfl⟩,hw⟩
theorem Zlc {t e:TypeId} {k:IntKind} (ht:P.underlying t=some (.array 8 e)) (he:P.underlying e=some (.int k)) (hc:P.cellsOf e=1) (B:P.cellsOf t=8):Opens enc P W t (EA k).ty (Ve k):=by
 intro fuel cs x h;obtain ⟨xs,m,rfl,_,hl,hxl,hx⟩:=DataW.trod_array ht h;rw [B] at hl
 have key:∀ i,i < 8->∃ n,cs[i]? = some (.int k n)/\Fit k n:=by
  intro i hi;have I:=hx i hi;rw [List.getElem?_eq_getElem (by omega)] at I
  obtain ⟨n,A,_,hw⟩:=DataW.trod_int he I;rw [hc,Nat.mul_one,Zv6,List.head?_drop] at A
  refine⟨n,?_,hw⟩
  cases hq:cs[i]? with
  | none=>rw [hq] at A; cases A
  | some v=>rw [hq] at A; simpa using A
 obtain ⟨L,e0,w0⟩:=key 0 (by omega)
 obtain ⟨O,e1,w1⟩:=key 1 (by omega)
 obtain ⟨U,e2,w2⟩:=key 2 (by omega)
 obtain ⟨V,e3,w3⟩:=key 3 (by omega)
 obtain ⟨n4,e4,w4⟩:=key 4 (by omega)
 obtain ⟨n5,e5,w5⟩:=key 5 (by omega)
 obtain ⟨n6,e6,w6⟩:=key 6 (by omega)
 obtain ⟨n7,e7,w7⟩:=key 7 (by omega)
 refine⟨⟨L,O,U,V,n4,n5,n6,n7⟩,⟨Me,?_⟩,?_⟩
 ·show cs=[.int k L,.int k O,.int k U,.int k V,.int k n4,.int k n5,.int k n6,.int k n7]
  apply List.ext_getElem?;intro i;by_cases hi:i < 8
  ·match i,hi with
   | 0,_=>exact e0
   | 1,_=>exact e1
   | 2,_=>exact e2
   | 3,_=>exact e3
   | 4,_=>exact e4
   | 5,_=>exact e5
   | 6,_=>exact e6
   | 7,_=>exact e7
  ·rw [List.getElem?_eq_none (by omega),List.getElem?_eq_none (by simp; omega)]
 ·intro x hx;simp only [A8.list,Cb,Zwd,or_false] at hx
  rcases hx with rfl | rfl | rfl | rfl | rfl | rfl | rfl | rfl <;> assumption
theorem Zld {sz:Nat} (L:List (List Value)) (A:∀ c,c∈L->c.length=sz) (i:Nat) (hi:i < L.length):(L.flatten.drop (i * sz)).take sz=L[i]:=by
 induction L generalizing i with
 | nil=>simp at hi
 | cons c L ih =>
  have hc:=A c (by simp)
  cases i with
  | zero=>simp [Zvw,<- hc]
  | succ i =>
   rw [Zvw,Cs,C3,Fl (i * sz),<- Ft,Fu hc]
   exact ih (λc' h'=>A c' (by simp [h'])) i (by simpa using hi)
theorem Zap {sz:Nat} (L:List (List Value)) (A:∀ c,c∈L->c.length=sz):L.flatten.length=L.length * sz:=by
 induction L with
 | nil=>simp
 | cons c L ih=>rw [Zvw,C8,A c (by simp),ih (λc' h'=>A c' (by simp [h'])),Zw3,Cs,C3,Fl]
theorem Zaq {α:Type} [Inhabited α] {T:Ty α} {G:α->Prop} {t e:TypeId} (ht:P.underlying t=some (.slice e)) (hc:P.cellsOf e=T.sz) (hpos:0 < T.sz) (ho:Opens enc P W e T G):Opens enc P W t T.sl (λxs=>∀ x,x∈xs->G x):=by
 intro fuel cs x h;rcases Go.Deep.open_slice ht h with ⟨rfl,rfl⟩ | ⟨a,len,cap,m,n,D,Pl,rfl,_,hlc,hm,hmm,rfl,hx⟩
 ·exact⟨[],T.sl.more (Zac T W) (by simp) Me,by simp⟩
 ·have hlm:len<=m:=by rw [hmm]; simp [hlc]
  obtain ⟨f,hf⟩:=Go.Deep.choose_lt (n:=len) (p:=λi (q:α×List Value)=>W.cells? 0 (a.add (i * P.cellsOf e)) (P.cellsOf e)=some q.2/\T.rep q.1 q.2 (allB W) W/\G q.1) (λi hi=>by
   obtain ⟨cs',I,O⟩:=hx i (by omega)
   obtain ⟨x0,hr,hg⟩:=ho _ _ _ O;exact⟨(x0,cs'),I,hr,hg⟩)
  let L:=(C9 len).map (λi=>(f i).2)
  have hLs:∀ c,c∈L->c.length=T.sz:=by
   intro c hcm;obtain ⟨i,hi,rfl⟩:=Cp.1 hcm;exact T.len (hf i (by simpa using hi)).2.1
  have hLl:L.length=len:=by simp [L]
  have hxl:((C9 len).map (λi=>(f i).1)).length=len:=by simp
  have hseg:∀ i (hi:i < len),(L.flatten.drop (i * T.sz)).take T.sz=(f i).2:=by
   intro i hi;rw [Zld L hLs i (by omega)]
   simp [L]
  refine⟨(C9 len).map (λi=>(f i).1),⟨_,L.flatten,rfl,⟨Me,?_,?_,some a,cap,by rw [hxl],by rw [hxl]; exact hlc,λhn=>⟨a,rfl,?_,?_⟩⟩,Me,?_,?_,?_⟩,?_⟩
  ·rw [Zap L hLs,hLl,hxl]
  ·rw [hxl]; omega
  ·rw [hxl] at hn
   have:=World.cells?_block (hf 0 hn).1 (by rw [hc]; exact hpos)
   simpa [F7] using this
  ·intro j u hj
   have hjl:j < len * T.sz:=by
    have:=(List.getElem?_eq_some_iff.1 hj).1
    rwa [Zap L hLs,hLl] at this
   have hi:j / T.sz < len:=Nat.div_lt_of_lt_mul (by rw [Zwb]; exact hjl)
   have A:=I1 (λl:List Value=>l[j % T.sz]?) (hseg _ hi)
   simp only [List.getElem?_take,List.getElem?_drop,Zwc _ hpos,if_true,Zw8] at A
   rw [hj] at A
   obtain ⟨_,_,U⟩:=World.cells?_some (hf _ hi).1
   have B:=U (j % T.sz) (by rw [hc]; exact Zwc _ hpos)
   rw [hc,Ql,Zw8] at B
   rw [B]; exact A.symm
  ·rw [Zap L hLs,hLl,hxl]
  ·intro u hu;obtain ⟨c,hcm,huc⟩:=List.mem_flatten.1 hu;obtain ⟨i,hi,rfl⟩:=Cp.1 hcm;exact T.one (hf i (by simpa using hi)).2.1 u huc
  ·intro i hi;rw [hxl] at hi
   rw [hseg i hi];simpa using (hf i hi).2.1
  ·intro x hx';obtain ⟨i,hi,rfl⟩:=Cp.1 hx';exact(hf i (by simpa using hi)).2.2
theorem Opens.arg {α:Type} {T:Ty α} {G:α->Prop} {t:TypeId} (ho:Opens enc P W t T G) {v:Value} {d:DataW H} {ps:List MemPlace} (h:DataW.Trod enc P W 0 (λ_=>true) true t v d ps):∃ a,T.rep a v.cells.toList (allB W) W/\G a:=by
 obtain ⟨fuel,hf⟩:=h;exact ho _ _ _ hf
theorem Ze7 {t:TypeId} {v:Value} {d:DataW H} {ps:List MemPlace} (h:DataW.Trod enc P W 0 (λ_=>true) true t v d ps):∀ x∈ps,x.block < W.heap.size:=by
 obtain ⟨m,hm⟩:=h;exact DataW.trod_lt m _ _ _ hm
end
open Go
theorem Zle {P:Program} {w:World} {r:Reach} {base:Nat} {t:TypeId} {v:Value} (h:Value.okWide P w r base t v) (hu:∃ d,P.underlying t=some d/\(match d with | .struct _ | .array _ _=>true | _=>false)=true):∃ cs,v=.agg cs:=by
 obtain ⟨d,hu,hd⟩:=hu
 cases d <;> first
  | (simp only [Value.okWide,hu] at h; obtain ⟨cs,A,_⟩:=h; exact⟨cs,A⟩)
  | cases hd
theorem Zlf {c:Array Value} (h:(Value.agg c).cells.toList.length=2):∃ u v,c=#[u,v]:=by
 obtain ⟨u,v,hu⟩:=Zkz h;exact⟨u,v,by simpa [Value.cells] using I1 List.toArray hu⟩
section
variable {H:Type} {enc:TypeId×Value->H} {P:Program} {W:World}
theorem Zlg {α β:Type} {T:Ty α} {G:α->Prop} (f:β->α) (g:α->β) (hg:∀ x,f (g x)=x) {t:TypeId} {A:Field} (ht:P.underlying t=some (.struct #[A])) (B:A.offset=0) (hc:P.cellsOf A.type=P.cellsOf t)
  (h:Opens enc P W A.type T G):Opens enc P W t (Ty.iso f T) (λb=>G (f b)):=by
 intro fuel cs x hx;obtain ⟨I,n,_,hl,hy⟩:=trod_struct1 ht hx;rw [B,F9,Fs (by omega)] at hy
 obtain ⟨a,hr,hga⟩:=h _ _ _ hy;refine⟨g a,?_,?_⟩
 ·show T.rep (f (g a)) cs (allB W) W
  rw [hg]; exact hr
 ·show G (f (g a))
  rw [hg]; exact hga
theorem Ze8 {α γ β:Type} {T:Ty α} {S:Ty γ} {G:α->Prop} {D:γ->Prop} (f:β->α×γ) (g:α×γ->β) (hg:∀ x,f (g x)=x) {t:TypeId} {A B:Field} (ht:P.underlying t=some (.struct #[A,B])) (I:A.offset=0)
  (L:B.offset=P.cellsOf A.type) (hc:P.cellsOf A.type+P.cellsOf B.type=P.cellsOf t) (h:Opens enc P W A.type T G) (k:Opens enc P W B.type S D):Opens enc P W t (Ty.iso f (Ty.pair T S)) (λb=>G (f b).1/\D (f b).2):=by
 intro fuel cs x hx;obtain ⟨O,U,n,_,hl,hy,hz⟩:=trod_struct2 ht hx;rw [I,F9] at hy
 rw [L,Fs (by rw [Zwa]; omega)] at hz
 obtain ⟨a,hr,hga⟩:=h _ _ _ hy;obtain ⟨c,hs,hgc⟩:=k _ _ _ hz;refine⟨g (a,c),?_,?_⟩
 ·show ∃ c1 c2,cs=c1++c2/\T.rep (f (g (a,c))).1 c1 (allB W) W/\S.rep (f (g (a,c))).2 c2 (allB W) W
  rw [hg];exact⟨_,_,(Zya _ _).symm,hr,hs⟩
 ·show G (f (g (a,c))).1/\D (f (g (a,c))).2
  rw [hg]; exact⟨hga,hgc⟩
theorem Zlh {t:TypeId} {A B:Field} (ht:P.underlying t=some (.struct #[A,B])) (I:A.offset=0) (L:B.offset=P.cellsOf A.type) (hc:P.cellsOf A.type+P.cellsOf B.type=P.cellsOf t)
  (h:Opens enc P W A.type (EA .u8).ty (Ve .u8)) (k:Opens enc P W B.type (EI .i64).ty (Fit .i64)):Opens enc P W t ETerm.ty (λx=>Ve .u8 x.mono/\Fit .i64 x.factor):=by
 intro fuel cs x hx;obtain ⟨a,⟨c1,c2,rfl,hr,hs⟩,hg⟩:=Ze8 (λx:Term=>(x.mono,x.factor)) (λp=>⟨p.1,p.2⟩) (λ_=>rfl) ht I L hc h k fuel cs x hx
 refine⟨a,⟨Me,?_⟩,hg⟩
 rw [hr.2,hs.2]; rfl
end
theorem Yp {S:Type} {body:Nat→S→(S→Prop)→Prop} {exit:S→Prop} (I:Nat→S→Prop) (N:Nat)
    (step:∀ i s next,i < N→I i s→(∀ s',I (i+1) s'→next s')→body i s next) (fin:∀ s,I N s→exit s):∀ r i s,i+r=N→I i s→Z1 body exit r i s:=by
  intro r
  induction r with
  | zero => intro i s hi h; obtain rfl : i = N := by omega
            exact fin s h
  | succ r ih=>intro i s hi h; exact step i s _ (by omega) h (fun s' h'=>ih (i+1) s' (by omega) h')
theorem Jj {S:Type} {body:S->(S->Prop)->Prop} (I:S->Prop) (μ:S->Nat) (step:∀ s next,I s->(∀ s',I s'->μ s' < μ s->next s')->body s next) {s:S} (h:I s):Xv body s:=by
 have L:∀ k s,I s->μ s < k->G7 body k s:=by
  intro k
  induction k with
  | zero=>intro s _ hk; omega
  | succ k ih=>intro s hs hk; exact step s _ hs (λs' h' hm=>ih s' h' (by omega))
 exact⟨μ s+1,L _ s h (Zwf _)⟩
theorem Ka {α β S:Type} [DecidableEq α] {body:α×β->S->(S->Prop)->Prop} {exit:S->Prop} (I:List (α×β)->S->Prop)
  (step:∀ l p l' s next,Qp l p l'->I l s->(∀ s',I l' s'->next s')->body p s next) (fin:∀ s,I [] s->exit s):∀ l s,I l s->Ux body exit l.length l s:=by
 have L:∀ k l s,l.length=k->I l s->Ux body exit k l s:=by
  intro k
  induction k with
  | zero=>intro l s hl h; obtain rfl:=Zyo.1 hl; exact fin s h
  | succ k ih =>
   intro l s hl h p l' hp;exact step l p l' s _ hp h (λs' h'=>ih l' s' (by have:=L8 hp; omega) h')
 exact λl s h=>L _ l s rfl h
theorem El {α β:Type} [DecidableEq α] {l l':List (α×β)} {p:α×β} (h:Qp l p l'):l.Perm (p::l'):=by
 obtain ⟨i,hi,rfl,rfl⟩:=h
 induction l generalizing i with
 | nil=>simp at hi
 | cons a l ih =>
  cases i with
  | zero=>simp
  | succ i =>
   have:=ih i (by simpa using hi)
   simp only [Zx9,List.eraseIdx_cons_succ];exact(this.cons a).trans (Fy _ _ _)
namespace A8
theorem ext_get {a b:A8} (h:∀ i,i < 8->a.get i=b.get i):a=b:=by
 have A:=h 0 (by omega); have B:=h 1 (by omega); have I:=h 2 (by omega); have L:=h 3 (by omega)
 have O:=h 4 (by omega); have U:=h 5 (by omega); have V:=h 6 (by omega); have h7:=h 7 (by omega)
 cases a; cases b;simp only [get] at *
 simp only [A8.mk.injEq];exact⟨A,B,I,L,O,U,V,h7⟩
theorem get_set {a:A8} {i j:Nat} {v:Int} (hi:i < 8):(a.set i v).get j=if j=i then v else a.get j:=by
 match i,hi with
 | 0, _ => match j with
  | 0 | 1 | 2 | 3 | 4 | 5 | 6 | 7=>rfl
  | j+8=>simp [set,get]
 | 1, _ => match j with
  | 0 | 1 | 2 | 3 | 4 | 5 | 6 | 7=>rfl
  | j+8=>simp [set,get]
 | 2, _ => match j with
  | 0 | 1 | 2 | 3 | 4 | 5 | 6 | 7=>rfl
  | j+8=>simp [set,get]
 | 3, _ => match j with
  | 0 | 1 | 2 | 3 | 4 | 5 | 6 | 7=>rfl
  | j+8=>simp [set,get]
 | 4, _ => match j with
  | 0 | 1 | 2 | 3 | 4 | 5 | 6 | 7=>rfl
  | j+8=>simp [set,get]
 | 5, _ => match j with
  | 0 | 1 | 2 | 3 | 4 | 5 | 6 | 7=>rfl
  | j+8=>simp [set,get]
 | 6, _ => match j with
  | 0 | 1 | 2 | 3 | 4 | 5 | 6 | 7=>rfl
  | j+8=>simp [set,get]
 | 7, _ => match j with
  | 0 | 1 | 2 | 3 | 4 | 5 | 6 | 7=>rfl
  | j+8=>simp [set,get]
theorem get_zero (i:Nat):zero.get i=0:=by
 match i with
 | 0 | 1 | 2 | 3 | 4 | 5 | 6 | 7=>rfl
 | i+8=>rfl
theorem mem_list {a:A8} {x:Int}:x∈a.list↔∃ i,i < 8/\a.get i=x:=by
 constructor
 ·intro h;simp only [list,Cb,Zwd,or_false] at h
  rcases h with rfl | rfl | rfl | rfl | rfl | rfl | rfl | rfl
  ·exact⟨0,by omega,rfl⟩
  ·exact⟨1,by omega,rfl⟩
  ·exact⟨2,by omega,rfl⟩
  ·exact⟨3,by omega,rfl⟩
  ·exact⟨4,by omega,rfl⟩
  ·exact⟨5,by omega,rfl⟩
  ·exact⟨6,by omega,rfl⟩
  ·exact⟨7,by omega,rfl⟩
 ·rintro ⟨i,hi,rfl⟩
  match i,hi with
  | 0,_=>simp [list,get]
  | 1,_=>simp [list,get]
  | 2,_=>simp [list,get]
  | 3,_=>simp [list,get]
  | 4,_=>simp [list,get]
  | 5,_=>simp [list,get]
  | 6,_=>simp [list,get]
  | 7,_=>simp [list,get]
def add (a b:A8):A8:=⟨a.x0+b.x0,a.x1+b.x1,a.x2+b.x2,a.x3+b.x3,a.x4+b.x4,a.x5+b.x5,a.x6+b.x6,a.x7+b.x7⟩
theorem get_add (a b:A8) (i:Nat):(a.add b).get i=a.get i+b.get i:=by
 match i with
 | 0 | 1 | 2 | 3 | 4 | 5 | 6 | 7=>rfl
 | i+8=>rfl
end A8
theorem Zar {x:Int} (h:Fit .u8 x):0<=x/\x<=255:=by
 simp only [Fit,Lit.wf,C0,decide_eq_true_eq] at h
 simp [IntKind.min,IntKind.max,IntKind.signed,IntKind.bits] at h
 omega
theorem Zas {k:IntKind} {a:A8} (h:Ve k a) {i:Nat} (hi:i < 8):Fit k (a.get i):=h _ (A8.mem_list.2 ⟨i,hi,rfl⟩)
theorem Zat (x:Int) (h:0<=x/\x<=255):IntKind.u8.wrap x=x:=by
 simp [IntKind.wrap,IntKind.bits,IntKind.signed]; omega
def OkDeg (ds:List Int):Prop:=ds.length<=8/\∀ i,i < ds.length->1<=ds.getD i Ci/\ds.getD i Ci<=12
instance (ds:List Int):Decidable (OkDeg ds):=inferInstanceAs (Decidable (_/\∀ i,i < ds.length->_))
def OkMono (ds:List Int) (a:A8):Prop:=∀ i,i < 8->(i < ds.length->a.get i<=20/\(Fa (ds.getD i Ci) 2≠0->a.get i<=1))/\(ds.length<=i->a.get i=0)
instance (ds:List Int) (a:A8):Decidable (OkMono ds a):=inferInstanceAs (Decidable (∀ i,i < 8->_))
def Jr (ds:List Int) (a:A8):Prop:=∀ i,i < 8->(i < ds.length->a.get i<=100/\(Fa (ds.getD i Ci) 2≠0->a.get i<=1))/\(ds.length<=i->a.get i=0)
theorem OkMono.wk {ds:List Int} {a:A8} (h:OkMono ds a):Jr ds a:=λi hi=>⟨λhl=>⟨by have:=((h i hi).1 hl).1; omega,((h i hi).1 hl).2⟩,(h i hi).2⟩
theorem Zli {d:Int} (h:1<=d/\d<=12):Fa d 2=0\/Fa d 2=1:=by
 rw [Int.tmod_eq_emod_of_nonneg (by omega)]; omega
theorem OkDeg.odd {ds:List Int} (h:OkDeg ds) {i:Nat} (hi:i < ds.length):Fa (ds.getD i Ci) 2=0\/Fa (ds.getD i Ci) 2=1:=Zli (h.2 i hi)
def Clash (ds:List Int) (a b:A8):Prop:=∃ i,i < ds.length/\Fa (ds.getD i Ci) 2≠0/\0 < a.get i/\0 < b.get i
instance (ds:List Int) (a b:A8):Decidable (Clash ds a b):=decidable_of_iff (∃ i,i < ds.length/\(Fa (ds.getD i Ci) 2≠0/\0 < a.get i/\0 < b.get i)) (by simp [Clash])
def V1 (ds:List Int) (a:A8):Nat->Nat->Int
 | 0,_=>0
 | r+1,j=>Fa (ds.getD j Ci) 2 * a.get j+V1 ds a r (j+1)
def Vq (ds:List Int) (a b:A8):Nat->Nat->Int
 | 0,_=>0
 | r+1,i=>(if Fa (ds.getD i Ci) 2=0\/b.get i<=0 then 0 else V1 ds a r (i+1))+Vq ds a b r (i+1)
def sg (c:Int):Int:=if c % 2=0 then 1 else -1
def Yl (ds:List Int) (a b:A8):A8×Int:=if Clash ds a b then(A8.zero,0) else(a.add b,sg (Vq ds a b ds.length 0))
theorem V2 (a b:Int):sg (a+b)=sg a * sg b:=by
 unfold sg; split <;> split <;> split <;> omega
theorem Ze9 (s:Int):sg (s+1)=- sg s:=by unfold sg; split <;> split <;> omega
theorem Em (s:Int):sg s=1\/sg s=-1:=by unfold sg; split <;> simp
end Vc
namespace Vc
open Go Go.RowKit
structure Tr (α:Type) where
 ty:Ty α
 tree:α->List Value->List Nat->World->Prop
 tkeep:∀ {x cs fp} {w w':World}, (∀ b,b∈fp->w'.heap[b]? = w.heap[b]?)->tree x cs fp w->tree x cs fp w'
 tlow:∀ {x cs fp w}, tree x cs fp w->∀ b,b∈fp->b < w.heap.size
 trep:∀ {x cs fp w}, tree x cs fp w->ty.rep x cs fp w
def Tr.item {α:Type} (T:Tr α) (x:α) (cs:List Value) (fp:List Nat):Item where
 fp:=fp
 holds w:=T.tree x cs fp w/\fp.Nodup
 keep _ _ h hw:=⟨T.tkeep h hw.1,hw.2⟩
 low _ hw:=T.tlow hw.1
def Enc.tr {α:Type} (E:Enc α):Tr α where
 ty:=E.ty
 tree x cs fp w:=fp=[]/\cs=E.enc x
 tkeep _ h:=h
 tlow h:=by obtain ⟨rfl,_⟩:=h; simp
 trep h:=by obtain ⟨rfl,rfl⟩:=h; exact⟨by simp,rfl⟩
def Tr.trees {α:Type} (T:Tr α) (xs:List α) (cs:List Value) (fps:List (List Nat)) (w:World):Prop :=
 cs.length=xs.length * T.ty.sz/\fps.length=xs.length/\∀ i (h:i < xs.length),T.tree xs[i] ((cs.drop (i * T.ty.sz)).take T.ty.sz) (fps.getD i []) w
section
variable {α:Type} {T:Tr α} {w w':World}
theorem mem_flat {fps:List (List Nat)} {b:Nat}:b∈fps.flatten↔∃ i,i < fps.length/\b∈fps.getD i []:=by
 rw [List.mem_flatten];constructor
 ·rintro ⟨l,hl,hb⟩;obtain ⟨i,hi,rfl⟩:=Cw hl;exact⟨i,hi,by simpa [Co,hi] using hb⟩
 ·rintro ⟨i,hi,hb⟩;refine⟨fps[i],C4 hi,by simpa [Co,hi] using hb⟩
theorem Zfa {xs:List α} {cs:List Value} {fps:List (List Nat)} (h:∀ b,b∈fps.flatten->w'.heap[b]? = w.heap[b]?) (ht:T.trees xs cs fps w):T.trees xs cs fps w' :=
 ⟨ht.1,ht.2.1,λi hi=>T.tkeep (λb hb=>h b (mem_flat.2 ⟨i,by rw [ht.2.1]; exact hi,hb⟩)) (ht.2.2 i hi)⟩
theorem Zau {xs:List α} {cs:List Value} {fps:List (List Nat)} (ht:T.trees xs cs fps w):∀ b,b∈fps.flatten->b < w.heap.size:=by
 intro b hb;obtain ⟨i,hi,hb⟩:=mem_flat.1 hb;exact T.tlow (ht.2.2 i (by rw [<- ht.2.1]; exact hi)) b hb
theorem Zfb (T:Tr α) (w:World):T.trees [] [] [] w:=⟨by simp,by simp,λi hi=>absurd hi (by simp)⟩
theorem Zlj {x:α} {xs:List α} {c cs:List Value} {f:List Nat} {fps:List (List Nat)} (h:T.tree x c f w) (hs:T.trees xs cs fps w):T.trees (x::xs) (c++cs) (f::fps) w:=by
 have hc:=T.ty.len (T.trep h);refine⟨by rw [C8,hc,hs.1,Zw3,Cs,C3,Fl],by simp [hs.2.1],λi hi=>?_⟩
 cases i with
 | zero =>
  simp only [Zv8,F9,Zx8];rw [Zv9 (by omega),Fs (by omega)]
  exact h
 | succ i =>
  rw [Cs,C3,Fl (i * T.ty.sz),<- Ft,Fu hc]
  exact hs.2.2 i (by simpa using hi)
theorem Zlk {xs ys:List α} {cs ds:List Value} {fps gps:List (List Nat)} (h:T.trees xs cs fps w) (k:T.trees ys ds gps w):T.trees (xs++ys) (cs++ds) (fps++gps) w:=by
 refine⟨by rw [C8,h.1,k.1,C8,Cs],by simp [h.2.1,k.2.1],λi hi=>?_⟩
 by_cases hx:i < xs.length
 ·have A:(xs++ys)[i]=xs[i]:=Zxz hx;have hle:i * T.ty.sz+T.ty.sz<=cs.length:=by rw [h.1]; exact W8 hx
  have B:((cs++ds).drop (i * T.ty.sz)).take T.ty.sz=(cs.drop (i * T.ty.sz)).take T.ty.sz:=by
   rw [Zx0 (by omega),Zv9 (by rw [Zwa]; omega)]
  have I:(fps++gps).getD i []=fps.getD i []:=by simp only [Co]; rw [List.getElem?_append_left (by rw [h.2.1]; exact hx)]
  rw [A,B,I];exact h.2.2 i hx
 ·have hy:i - xs.length < ys.length:=by rw [C8] at hi; omega
  have A:(xs++ys)[i]=ys[i - xs.length]:=List.getElem_append_right (by omega)
  have hm:i * T.ty.sz=cs.length+(i - xs.length) * T.ty.sz:=by rw [h.1,<- Cs]; congr 1; omega
  have B:((cs++ds).drop (i * T.ty.sz))=ds.drop ((i - xs.length) * T.ty.sz):=by rw [hm,<- Ft,Fu rfl]
  have I:(fps++gps).getD i []=gps.getD (i - xs.length) []:=by simp only [Co]; rw [List.getElem?_append_right (by rw [h.2.1]; omega),h.2.1]
  rw [A,B,I];exact k.2.2 _ hy
theorem Zav {xs:List α} {cs:List Value} {fps:List (List Nat)} (h:T.trees xs cs fps w):T.ty.all xs cs fps.flatten w:=by
 have hl:=Zau h;have hr:∀ i (hi:i < xs.length),T.ty.rep xs[i] ((cs.drop (i * T.ty.sz)).take T.ty.sz) fps.flatten w:=λi hi=>T.ty.more (T.trep (h.2.2 i hi)) (λb hb=>mem_flat.2 ⟨i,by rw [h.2.1]; exact hi,hb⟩) hl
 refine⟨hl,h.1,λu hu=>?_,hr⟩
 obtain ⟨j,hj,rfl⟩:=Cw hu;rcases Nat.eq_zero_or_pos T.ty.sz with A | A
 ·rw [h.1,A] at hj; omega
 ·have hi:j / T.ty.sz < xs.length:=Nat.div_lt_of_lt_mul (by rw [Zwb,<- h.1]; exact hj)
  refine T.ty.one (hr _ hi) _ ?_
  refine List.mem_of_getElem? (i:=j % T.ty.sz) ?_
  rw [List.getElem?_take,if_pos (Zwc _ A),List.getElem?_drop,Zw8]
  exact List.getElem?_eq_getElem hj
end
def Tr.sl {α:Type} (e:Nat) (T:Tr α):Tr (List α) where
 ty:=T.ty.sl
 tree xs cs fp w:=∃ v ecs fps,cs=[v]/\(own e T.ty.sz v xs.length ecs).holds w/\T.trees xs ecs fps w/\fp=v.ownBlock.toList++fps.flatten
 tkeep h ht:=by
  obtain ⟨v,ecs,fps,rfl,A,B,rfl⟩:=ht;exact⟨v,ecs,fps,rfl,Item.keep _ _ _ (λb hb=>h b (Cv _ hb)) A,Zfa (λb hb=>h b (Cu _ hb)) B,rfl⟩
 tlow ht b hb:=by
  obtain ⟨v,ecs,fps,rfl,A,B,rfl⟩:=ht;rcases Ch.1 hb with hb | hb
  ·exact Item.low _ _ A b hb
  ·exact Zau B b hb
 trep ht:=by
  obtain ⟨v,ecs,fps,rfl,A,B,rfl⟩:=ht;exact Vp A (Zav B)
def Tr.iso {α β:Type} (f:β->α) (T:Tr α):Tr β where
 ty:=T.ty.iso f
 tree x cs fp w:=T.tree (f x) cs fp w
 tkeep h ht:=T.tkeep h ht
 tlow ht:=T.tlow ht
 trep ht:=T.trep ht
def Tr.pair {α β:Type} (S:Tr α) (T:Tr β):Tr (α×β) where
 ty:=S.ty.pair T.ty
 tree x cs fp w:=∃ c1 c2 A B,cs=c1++c2/\fp=A++B/\S.tree x.1 c1 A w/\T.tree x.2 c2 B w
 tkeep h ht:=by
  obtain ⟨c1,c2,A,B,rfl,rfl,I,L⟩:=ht;exact⟨c1,c2,A,B,rfl,rfl,S.tkeep (λb hb=>h b (Cv _ hb)) I,T.tkeep (λb hb=>h b (Cu _ hb)) L⟩
 tlow ht b hb:=by
  obtain ⟨c1,c2,A,B,rfl,rfl,I,L⟩:=ht;rcases Ch.1 hb with hb | hb
  ·exact S.tlow I b hb
  ·exact T.tlow L b hb
 trep ht:=by
  obtain ⟨c1,c2,A,B,rfl,rfl,I,L⟩:=ht;exact Qn (S.trep I) (T.trep L)
theorem Zfc {α:Type} {E:Enc α} {e:Nat} {xs:List α} {v:Value} {w:World} (h:(own e E.sz v xs.length (E.encs xs)).holds w):(Tr.sl e E.tr).tree xs [v] v.ownBlock.toList w:=by
 refine⟨v,E.encs xs,Cd xs.length [],rfl,h,⟨E.encs_len xs,by simp,λi hi=>⟨by simp [Co,hi],?_⟩⟩,by simp⟩
 haveI:Inhabited α:=⟨xs[i]⟩
 have:=E.encs_seg xs i hi;rw [show xs.getD i Ci=xs[i] by simp [Co,hi]] at this
 exact this
theorem Yx {α:Type} {E:Enc α} {e:Nat} {xs:List α} {v:Value} {fp:List Nat} {w:World} (h:(Tr.sl e E.tr).tree xs [v] fp w):(own e E.sz v xs.length (E.encs xs)).holds w/\fp=v.ownBlock.toList:=by
 obtain ⟨v',ecs,fps,hv,A,B,rfl⟩:=h;obtain rfl:v=v':=by simpa using hv
 have he:ecs=E.encs xs:=Zey (Zav B)
 have hf:fps.flatten=[]:=by
  rw [List.eq_nil_iff_forall_not_mem];intro b hb;obtain ⟨i,hi,hb⟩:=mem_flat.1 hb;have:=(B.2.2 i (by rw [<- B.2.1]; exact hi)).1
  rw [this] at hb; cases hb
 rw [hf,List.append_nil];exact⟨he ▸ A,rfl⟩
theorem Zll {α:Type} (e:Nat) (T:Tr α) (w:World):(Tr.sl e T).tree [] [.slice none 0 0] [] w :=
 ⟨.slice none 0 0,[],[],rfl,⟨by simp,.inl ⟨rfl,rfl⟩⟩,Zfb T w,rfl⟩
section
variable {X:Nat->Prop} {w0 w w':World} {M Ps:List Item}
theorem Ctx.perm {M':List Item} (h:Ctx X w0 w M Ps) (hp:M.Perm M'):Ctx X w0 w M' Ps :=
  { h with
    m:=fun j hj=>h.m j (hp.mem_iff.2 hj)
    mfp:=fun j hj=>h.mfp j (hp.mem_iff.2 hj)
    dis:=(hp.pairwise_iff (fun {a b} (hab:∀ x,x∈a.fp→x∉b.fp)=>fun x hx hx'=>hab x hx' hx)).1 h.dis
    pd:=fun j hj b hb m hm=>h.pd j hj b hb m (hp.mem_iff.2 hm) }
theorem Ctx.gather {a b c:Item} (h:Ctx X w0 w (a::b::M) Ps) (hfp:∀ x,x∈c.fp→x∈a.fp∨x∈b.fp) (hc:a.holds w→b.holds w→(∀ x,x∈a.fp→x∉b.fp)→c.holds w):Ctx X w0 w (c::M) Ps:=by
  obtain ⟨hd1,hd2⟩:=Cl.1 h.dis
  obtain ⟨hd3,hd4⟩:=Cl.1 hd2
  exact { h with
    m := fun j hj => by
      rcases Cb.1 hj with rfl | hj
      · exact hc (h.m a (by simp)) (h.m b (by simp)) (hd1 b (by simp))
      · exact h.m j (by simp [hj])
    mfp:=fun j hj x hx=>by
      rcases Cb.1 hj with rfl | hj
      · rcases hfp x hx with hx | hx
        · exact h.mfp a (by simp) x hx
        · exact h.mfp b (by simp) x hx
      · exact h.mfp j (by simp [hj]) x hx
    dis:=Cl.2 ⟨fun j hj x hx hxj=>by
      rcases hfp x hx with hx | hx
      · exact hd1 j (by simp [hj]) x hx hxj
      · exact hd3 j hj x hx hxj,hd4⟩
    pd:=fun j hj x hx m hm hxm=>by
      rcases Cb.1 hm with rfl | hm
      · rcases hfp x hxm with hxm | hxm
        · exact h.pd j hj x hx a (by simp) hxm
        · exact h.pd j hj x hx b (by simp) hxm
      · exact h.pd j hj x hx m (by simp [hm]) hxm }
theorem Ctx.split {a b c:Item} (h:Ctx X w0 w (c::M) Ps) (ha:∀ x,x∈a.fp→x∈c.fp) (hb:∀ x,x∈b.fp→x∈c.fp) (hc:a.holds w∧b.holds w∧(∀ x,x∈a.fp→x∉b.fp)):Ctx X w0 w (a::b::M) Ps:=by
  obtain ⟨hd1,hd2⟩:=Cl.1 h.dis
  exact { h with
    m := fun j hj => by
      rcases Cb.1 hj with rfl | hj
      · exact hc.1
      · rcases Cb.1 hj with rfl | hj
        · exact hc.2.1
        · exact h.m j (by simp [hj])
    mfp:=fun j hj x hx=>by
      rcases Cb.1 hj with rfl | hj
      · exact h.mfp c (by simp) x (ha x hx)
      · rcases Cb.1 hj with rfl | hj
        · exact h.mfp c (by simp) x (hb x hx)
        · exact h.mfp j (by simp [hj]) x hx
    dis:=by
      refine Cl.2 ⟨fun j hj x hx hxj=>?_,Cl.2 ⟨fun j hj x hx hxj=>hd1 j hj x (hb x hx) hxj,hd2⟩⟩
      rcases Cb.1 hj with rfl | hj
      · exact hc.2.2 x hx hxj
      · exact hd1 j hj x (ha x hx) hxj
    pd:=fun j hj x hx m hm hxm=>by
      rcases Cb.1 hm with rfl | hm
      · exact h.pd j hj x hx c (by simp) (ha x hxm)
      · rcases Cb.1 hm with rfl | hm
        · exact h.pd j hj x hx c (by simp) (hb x hxm)
        · exact h.pd j hj x hx m (by simp [hm]) hxm }
theorem Ctx.Iz {a c:Item} (h:Ctx X w0 w (a::M) Ps) (hfp:∀ x,x∈c.fp→x∈a.fp) (hc:a.holds w→c.holds w):Ctx X w0 w (c::M) Ps:=by
  obtain ⟨hd1,hd2⟩:=Cl.1 h.dis
  exact { h with
    m := fun j hj => by
      rcases Cb.1 hj with rfl | hj
      · exact hc (h.m a (by simp))
      · exact h.m j (by simp [hj])
    mfp:=fun j hj x hx=>by
      rcases Cb.1 hj with rfl | hj
      · exact h.mfp a (by simp) x (hfp x hx)
      · exact h.mfp j (by simp [hj]) x hx
    dis:=Cl.2 ⟨fun j hj x hx hxj=>hd1 j hj x (hfp x hx) hxj,hd2⟩
    pd:=fun j hj x hx m hm hxm=>by
      rcases Cb.1 hm with rfl | hm
      · exact h.pd j hj x hx a (by simp) (hfp x hxm)
      · exact h.pd j hj x hx m (by simp [hm]) hxm }
theorem Ctx.turnL (h:Ctx X w0 w M Ps) {F:List Nat} (A:BelO F w w') {M':List Item} (hfp:M'.map Item.fp=M.map Item.fp) (B:∀ x,x∈F->∃ it,it∈M/\x∈it.fp) (hh:∀ it,it∈M'->it.holds w'):Ctx X w0 w' M' Ps:=by
 have hlen:M'.length=M.length:=by have:=I1 Fg hfp; simpa using this
 have hget:∀ i (hi:i < M'.length),(M'[i]).fp=(M[i]'(by omega)).fp:=by
  intro i hi;have:=I1 (·[i]?) hfp;simp only [List.getElem?_map,List.getElem?_eq_getElem hi,List.getElem?_eq_getElem (show i < M.length by omega),Fw] at this
  exact Zyk this
 have back:∀ it,it∈M'->∃ jt,jt∈M/\it.fp=jt.fp:=by
  intro it hi;obtain ⟨i,hlt,rfl⟩:=Cw hi;exact⟨_,C4 (show i < M.length by omega),hget i (by omega)⟩
 refine⟨A.os.trans h.os,A.tape.trans h.tape,A.output.trans h.output,Cj h.size A.size,Cj h.drawn A.drawn,?_,hh,?_,?_,?_,?_⟩
 ·intro b hb hx;rw [A.old b (Zwo hb h.size) (λhbF=>?_)]
  ·exact h.old b hb hx
  ·obtain ⟨it,hi,hbi⟩:=B b hbF;rcases h.mfp it hi b hbi with h' | h'
   ·omega
   ·exact hx h'
 ·intro x hx;refine x.keep w w' (λb hb=>A.old b (x.low w (h.p x hx) b hb) (λhbF=>?_)) (h.p x hx)
  obtain ⟨it,hi,hbi⟩:=B b hbF;exact h.pd x hx b hb it hi hbi
 ·intro it hi b hb;obtain ⟨jt,hj,he⟩:=back it hi;exact h.mfp jt hj b (he ▸ hb)
 ·rw [Cq];intro i j hi hj hij x hx hx';rw [hget i hi] at hx
  rw [hget j hj] at hx'
  exact Cq.1 h.dis i j (by omega) (by omega) hij x hx hx'
 ·intro x hx b hb m hm hbm;obtain ⟨jt,hj,he⟩:=back m hm;exact h.pd x hx b hb jt hj (he ▸ hbm)
def Y0 (e:Nat):Tr Form:=.iso Form.terms (Tr.sl e ETerm.tr)
def Mf (i e f:Nat):Tr Alg:=.iso (λa=>(a.degrees,a.images)) (.pair (Tr.sl i (EI .i64).tr) (Tr.sl f (Y0 e)))
theorem Zfd (v:Value):v.ownBlock.toList.Nodup:=by cases v.ownBlock <;> simp
theorem Xi {α:Type} {E:Enc α} {e:Nat} {xs:List α} {v:Value} {w:World} (h:(own e E.sz v xs.length (E.encs xs)).holds w):(Tr.item (Tr.sl e E.tr) xs [v] v.ownBlock.toList).holds w:=⟨Zfc h,Zfd v⟩
theorem Zfe {α:Type} {e:Nat} {T:Tr α} {xs:List α} {v:Value} {fp:List Nat} (h:(Tr.item (Tr.sl e T) xs [v] fp).holds w):∃ A c,v=.slice A xs.length c:=Sk (t:=T.ty) ((Tr.sl e T).trep h.1)
theorem J9 {α:Type} {T:Tr α} {x:α} {cs:List Value} {fp:List Nat} (h:Ctx Nox w0 w M Ps) (k:Nat) (hk:M[k]? = some (T.item x cs fp)):∀ b,b∈fp->w0.heap.size<=b :=
 λb hb=>(h.mfp _ (List.mem_of_getElem? hk) b hb).elim id (λx=>x.elim)
theorem Zaw {i e f:Nat} {x:Alg} {v u:Value} {fp:List Nat} (h:((Mf i e f).item x [v,u] fp).holds w):∃ A,(own i (EI .i64).sz v x.degrees.length ((EI .i64).encs x.degrees)).holds w/\((Tr.sl f (Y0 e)).item x.images [u] A).holds w /\
  (∀ b,b∈v.ownBlock.toList->b∈fp)/\(∀ b,b∈A->b∈fp)/\(∀ b,b∈v.ownBlock.toList->b∉A):=by
 obtain ⟨⟨c1,c2,V,A,hcs,rfl,B,O⟩,hn⟩:=h;have hl:=(Tr.sl i (EI .i64).tr).ty.len ((Tr.sl i (EI .i64).tr).trep B);obtain ⟨a,rfl⟩:=List.length_eq_one_iff.1 (show c1.length=1 from hl)
 obtain ⟨rfl,rfl⟩:v=a/\c2=[u]:=by simp at hcs; exact⟨hcs.1,hcs.2.symm⟩
 obtain ⟨ho,rfl⟩:=Yx B;obtain ⟨U,I,L⟩:=Fk.1 hn;exact⟨A,ho,⟨O,I⟩,λb hb=>Cv _ hb,λb hb=>Cu _ hb,λb hb hb'=>L b hb b hb' rfl⟩
theorem Zlm {i e f:Nat} {a:List Int} {b:List Form} {v u:Value} {h A:List Nat} (B:((Tr.sl i (EI .i64).tr).item a [v] h).holds w) (I:((Tr.sl f (Y0 e)).item b [u] A).holds w) (hd:∀ x,x∈h->x∉A):((Mf i e f).item ⟨a,b⟩ [v,u] (h++A)).holds w :=
 ⟨⟨[v],[u],h,A,rfl,rfl,B.1,I.1⟩,Fk.2 ⟨B.2,I.2,λx hx y hy e=>hd x hx (e ▸ hy)⟩⟩
theorem X7 {e:Nat} {x:Form} {v:Value} {fp:List Nat} (h:((Y0 e).item x [v] fp).holds w):(own e ETerm.sz v x.terms.length (ETerm.encs x.terms)).holds w/\fp=v.ownBlock.toList:=Yx h.1
theorem Tb {e:Nat} {a:List Term} {v:Value} {f:List Nat} (h:((Tr.sl e ETerm.tr).item a [v] f).holds w):((Y0 e).item ⟨a⟩ [v] f).holds w:=h
theorem Mg {α:Type} (e:Nat) (T:Tr α) (w:World):((Tr.sl e T).item [] [.slice none 0 0] []).holds w:=⟨Zll e T w,by simp⟩
def Zz {α:Type} (T:Tr α) (xs:List α) (cs:List Value) (fps:List (List Nat)):Item where
 fp:=fps.flatten
 holds w:=T.trees xs cs fps w/\fps.flatten.Nodup
 keep _ _ h hw:=⟨Zfa h hw.1,hw.2⟩
 low _ hw:=Zau hw.1
theorem Xn {α:Type} (T:Tr α) (w:World):(Zz T [] [] []).holds w:=⟨Zfb T w,by simp⟩
theorem W9 {α:Type} {T:Tr α} {x:α} {xs:List α} {c cs:List Value} {f:List Nat} {fps:List (List Nat)} (h:(T.item x c f).holds w) (hs:(Zz T xs cs fps).holds w) (hd:∀ b,b∈f->b∉fps.flatten):(Zz T (x::xs) (c++cs) (f::fps)).holds w :=
 ⟨Zlj h.1 hs.1,by rw [Zvw]; exact Fk.2 ⟨h.2,hs.2,λa ha b hb e=>hd a ha (e ▸ hb)⟩⟩
theorem Xj {α:Type} {T:Tr α} {e:Nat} {xs:List α} {cs:List Value} {fps:List (List Nat)} {v:Value} (h:(own e T.ty.sz v xs.length cs).holds w) (hs:(Zz T xs cs fps).holds w) (hd:∀ b,b∈v.ownBlock.toList->b∉fps.flatten):((Tr.sl e T).item xs [v] (v.ownBlock.toList++fps.flatten)).holds w :=
 ⟨⟨v,cs,fps,rfl,h,hs.1,rfl⟩,Fk.2 ⟨Zfd v,hs.2,λa ha b hb e=>hd a ha (e ▸ hb)⟩⟩
theorem Ctx.startL (w:World) (F:List Nat) (M Ps:List Item) (hm:∀ it,it∈M->it.holds w) (hp:∀ it,it∈Ps->it.holds w) (h:∀ it,it∈M->∀ b,b∈it.fp->b∈F) (hdis:M.Pairwise (λa b=>∀ x,x∈a.fp->x∉b.fp)) (hpd:∀ it,it∈Ps->∀ b,b∈it.fp->b∉F):Ctx (λc=>c∈F) w w M Ps :=
 ⟨rfl,rfl,rfl,Cg _,Cg _,λ_ _ _=>rfl,hm,hp,λit hi b hb=>.inr (h it hi b hb),hdis,λit hi b hb m hm hbm=>hpd it hi b hb (h m hm b hbm)⟩
theorem Ctx.belO {F:List Nat} (h:Ctx (λc=>c∈F) w0 w M Ps):BelO F w0 w:=⟨h.os,h.tape,h.output,h.size,h.drawn,λc hc hne=>h.old c hc hne⟩
end
section
variable {X:Nat->Prop} {w0 w w':World} {M Ps:List Item}
end
theorem Ctx.pushM0 {X:Nat→Prop} {w0 w:World} {M Ps:List Item} (h:Ctx X w0 w M Ps) (it:Item) (hi:it.holds w) (hf:it.fp=[]):Ctx X w0 w (it::M) Ps :=
  { h with
    m := fun j hj => by
      rcases Cb.1 hj with rfl | hj
      · exact hi
      · exact h.m j hj
    mfp:=fun j hj b hb=>by
      rcases Cb.1 hj with rfl | hj
      · rw [hf] at hb; cases hb
      · exact h.mfp j hj b hb
    dis:=Cl.2 ⟨fun j hj x hx=>absurd (hf ▸ hx) (by simp),h.dis⟩
    pd:=fun j hj b hb m hm hbm=>by
      rcases Cb.1 hm with rfl | hm
      · rw [hf] at hbm; cases hbm
      · exact h.pd j hj b hb m hm hbm }
def Qr (v:Value):Prop:=∃ A n c,v=.slice A n c
theorem Va {ty sz n:Nat} {v:Value} {cs:List Value} {w:World} (h:(own ty sz v n cs).holds w):Qr v:=by
 obtain ⟨A,c,rfl⟩:=V8 h;exact⟨A,n,c,rfl⟩
theorem Tc {α:Type} {t:Ty α} {xs:List α} {v:Value} {fp:List Nat} {w:World} (h:t.sl.rep xs [v] fp w):Qr v:=by
 obtain ⟨A,c,rfl⟩:=Sk h;exact⟨A,_,c,rfl⟩
section
variable {P:Program} {ops:Array Oper} {Q:Exit->Act->World->Prop} {n:Nat} {e:Env} {w w':World} {rest:List Oper}
variable {d ty:Nat} {pos:String} {af:Array Edge} {gd:Option (Nat×Bool)}
end
theorem Zln (m:Nat):(madeCells #[.slice none 0 0] (m * 1)).toList=Cd m (.slice none 0 0):=by
 let E:Enc Unit:=⟨1,by decide,λ_=>[.slice none 0 0],λ_=>rfl,λ_ u hu=>by obtain rfl:=Fc.1 hu; rfl⟩
 have h:=V9 (E:=E) () m
 have e:E.encs (Cd m ())=Cd m (.slice none 0 0):=by
  induction m with
  | zero=>rfl
  | succ m ih=>rw [Zwg,Zwg,<- ih (V9 (E:=E) () m)]; rfl
 exact h.trans e
theorem Zlo (m:Nat):(Cd m ([]:List Nat)).flatten=[]:=by induction m <;> simp_all [Zwg]
theorem Zlp {α:Type} {T:Tr α} {x:α} {c:Value} {w:World} (h:(T.item x [c] []).holds w) (hs:T.ty.sz=1) (m:Nat):(Zz T (Cd m x) (Cd m c) (Cd m [])).holds w:=by
 induction m with
 | zero=>exact Xn T w
 | succ m ih=>exact W9 (c:=[c]) (cs:=Cd m c) h ih (by simp)
theorem Zlq {α:Type} {T:Tr α} {xs ys:List α} {cs ds:List Value} {fps gps:List (List Nat)} {w:World} (h:(Zz T xs cs fps).holds w) (k:(Zz T ys ds gps).holds w) (hd:∀ b,b∈fps.flatten->b∉gps.flatten):(Zz T (xs++ys) (cs++ds) (fps++gps)).holds w :=
 ⟨Zlk h.1 k.1,by rw [List.flatten_append]; exact Fk.2 ⟨h.2,k.2,λa ha b hb e=>hd a ha (e ▸ hb)⟩⟩
theorem Kb {α:Type} {e:Nat} {T:Tr α} {xs:List α} {v:Value} {fp:List Nat} {w:World} (h:((Tr.sl e T).item xs [v] fp).holds w) :
  ∃ ecs fps,(own e T.ty.sz v xs.length ecs).holds w/\(Zz T xs ecs fps).holds w/\fp=v.ownBlock.toList++fps.flatten/\(∀ b,b∈v.ownBlock.toList->b∉fps.flatten):=by
 obtain ⟨⟨v',ecs,fps,hv,I,L,rfl⟩,hn⟩:=h;obtain rfl:v=v':=by simpa using hv
 obtain ⟨O,A,B⟩:=Fk.1 hn;exact⟨ecs,fps,I,⟨L,A⟩,rfl,λb hb hb'=>B b hb b hb' rfl⟩
section
variable {P:Program} {ops:Array Oper} {Q:Exit->Act->World->Prop} {n:Nat} {e:Env} {w w':World} {rest:List Oper}
variable {X:Nat->Prop} {w0:World} {M Ps:List Item}
variable {d ty:Nat} {pos:String} {af:Array Edge}
theorem W1 {t el bytes:Nat} {α:Type} {T:Tr α} {z:Value} {x y:Operand} {v u:Value} {xs ys:List α} {B I:List Nat} (A:Ctx X w0 w ((Tr.sl el T).item xs [v] B::(Tr.sl el T).item ys [u] I::M) Ps)
  (ht:P.underlying t=some (.slice el)) (L:Wm P el z T.ty.sz bytes) (hzs:z.cells.size=T.ty.sz) (hsz:0 < T.ty.sz) (hby:0 < bytes) (hx:ev n e x=v) (hy:ev n e y=u) (hb:(xs.length+ys.length) * bytes<=140737488355328)
  (h:∀ v' f w',Ctx X w0 w' ((Tr.sl el T).item (xs++ys) [v'] f::M) Ps->W P ops Q rest n (upd e d v') w') :
  W P ops Q (⟨some d,.call { callee:=.builtin .append,args:=#[x,y],argTypes:=#[t,t] }, ty,pos,af,none⟩::rest) n e w:=by
 obtain ⟨ecs,fps,O,U,rfl,V⟩:=Kb (A.Ix 0 rfl);obtain ⟨dcs,gps,b1,b2,rfl,b4⟩:=Kb (A.Ix 1 rfl);have h1:=A.split (a:=own el T.ty.sz v xs.length ecs) (b:=Zz T xs ecs fps) (λb hb=>Cv _ hb) (λb hb=>Cu _ hb) ⟨O,U,V⟩
 have h2:=h1.perm (M':=(Tr.sl el T).item ys [u] (u.ownBlock.toList++gps.flatten)::own el T.ty.sz v xs.length ecs::Zz T xs ecs fps::M) (((Fy _ _ _).cons _).trans (Fy _ _ _));have h3:=h2.split (a:=own el T.ty.sz u ys.length dcs) (b:=Zz T ys dcs gps) (λb hb=>Cv _ hb) (λb hb=>Cu _ hb) ⟨b1,b2,b4⟩
 have hall:=Zav b2.1;refine Jg h3 2 ht L hzs hsz hby rfl (Wl b1) hall.2.2.1 hx hy hb λv' w1 hC1=>?_
 have h4:=hC1.sub (M':=Zz T ys dcs gps::own el T.ty.sz v' (xs.length+ys.length) (ecs++dcs)::Zz T xs ecs fps::M) (List.sublist_cons_self _ _) (λ_ h=>h)
 have h5:=h4.perm (M':=Zz T xs ecs fps::Zz T ys dcs gps::own el T.ty.sz v' (xs.length+ys.length) (ecs++dcs)::M) (((Fy _ _ _).cons _).trans (Fy _ _ _));have h6:=h5.gather (c:=Zz T (xs++ys) (ecs++dcs) (fps++gps)) (λx hx=>Ch.1 (by simpa [Zz] using hx)) (λp q r=>Zlq p q r)
 have h7:=h6.perm (M':=own el T.ty.sz v' (xs.length+ys.length) (ecs++dcs)::Zz T (xs++ys) (ecs++dcs) (fps++gps)::M) (Fy _ _ _);exact h v' _ w1 (h7.gather (c:=(Tr.sl el T).item (xs++ys) [v'] (v'.ownBlock.toList++(fps++gps).flatten)) (λx hx=>Ch.1 hx) (λp q r=>Xj (by rw [C8]; exact p) q r))
end
open Go
theorem Vf {α:Type} {T:Tr α} {xs:List α} {cs:List Value} {f:List Nat} {fps:List (List Nat)} {x:Nat} (h:x∈(Zz T xs cs (f::fps)).fp):x∈f\/x∈fps.flatten:=by
 have h':x∈(f::fps).flatten:=h;rw [Zvw] at h'
 exact Ch.1 h'
section
variable {P:Program} {ops:Array Oper} {Q:Exit->Act->World->Prop} {n:Nat} {e:Env} {w w':World} {rest:List Oper}
variable {d ty:Nat} {pos:String} {af:Array Edge} {gd:Option (Nat×Bool)}
theorem Zlr {t i:Nat} {x:Operand} {cs:List Value} {fs:Array Field} {f:Field} (v:Value) (ht:P.underlying t=some (.struct fs)) (hf:fs[i]? = some f) (h:ScaT P f.type) (hx:ev n e x=.agg cs.toArray) (hv:cs[f.offset]? = some v) :
  (execOp (ev n e) ⟨some d,.field t x i,ty,pos,af,gd⟩).run P w=.ok (.value v) w:=by
 simp [execOp,hx,Instr.field,run_underlying ht,hf,asAgg,part,Lx h,hv]
theorem Zls {t i:Nat} {x:Operand} {cs:List Value} {fs:Array Field} {f:Field} (v:Value) (ht:P.underlying t=some (.struct fs)) (hf:fs[i]? = some f) (A:ScaT P f.type) (hx:ev n e x=.agg cs.toArray) (hv:cs[f.offset]? = some v)
  (h:W P ops Q rest n (upd e d v) w):W P ops Q (⟨some d,.field t x i,ty,pos,af,none⟩::rest) n e w :=
 Y2 v rfl rfl (Zlr v ht hf A hx hv) h
end
end Vc
