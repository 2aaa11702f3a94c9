import Derived.Test.YtaagfepgbofmlaaGreatQ0
set_option linter.unusedSectionVars false
set_option linter.unusedSimpArgs false
set_option linter.unusedVariables false
open Go renaming wp_seq→ZB9,wp_skip→ZCd,wp_block→ZCf,wp_ret→ZCi,wp_exit→ZCo
open Go.Instr renaming build→ZC6
open Go.IntKind renaming i64→Zwt,u8→ZCl
open Go.Proofs.Tryz renaming prog→ZCc,underlying55→ZCg,underlying53→ZCj,underlying162→ZCp,underlying136→ZCr,underlying22→ZCs,underlying32→ZCt,underlying73→ZCw,underlying30→ZCx,func125→ZCz,func123→ZC0,func95→ZC2,underlying115→ZC8,underlying5→ZDc,func174→ZDd,func124→ZDe,func121→ZDh,underlying2→ZDj,underlying3→ZDk,func196→ZDm
open Go.Value renaming ownBlock→Fe
open Inhabited renaming default→Ci
open Int renaming tmod→Fa,natCast_nonneg→ZCq,ofNat_lt→ZC9
open List renaming toArray→ZB7,replicate→Cd,length_set→ZC4,length_eq_one_iff→ZC7,mem_flatten→ZDb,mem_cons→Cb,getElem_of_mem→Cw,length_append→C8,mem_or_eq_of_mem_set→ZDp,pairwise_flatten→ZDq,pairwise_iff_getElem→Cq
open List.Perm renaming swap→Fy
open Nat renaming le_of_ble_eq_true→ZCh,le_trans→Cj,le_refl→Cg
open Option renaming toList→ZDa
open Vc renaming ETerm→ZCa,Form→ZCb,TForm→ZCv
open Vc.A8 renaming enc→ZB6,zero→ZCe,enc_get→ZCm,enc_set→ZC3
open Vc.Ctx renaming start→ZCu
open Vc.Enc renaming encs_append→ZC1,encs_one'→ZDf
open Vc.Term renaming enc→ZCk
open Vc.Tr renaming item→ZCn
open Vc.Ty renaming item→ZB8
namespace Vc
open Go Go.RowKit
def Zt (e:Env) (l:List (Nat×Value)):Prop:=∀ p,p∈l->e p.1=p.2
theorem Zff {e:Env}:Zt e []:=by intro p hp; cases hp
theorem Zfg {e:Env} {t:Nat} {v:Value} {l:List (Nat×Value)} (h:e t=v) (hs:Zt e l):Zt e ((t,v)::l):=by
 intro p hp;rcases Cb.1 hp with rfl | hp
 ·exact h
 ·exact hs p hp
theorem Zlt {e:Env} {l:List (Nat×Value)} (hs:Zt e l) (k:Nat) {t:Nat} {v:Value} (h:l[k]? = some (t,v)):e t=v:=hs (t,v) (List.mem_of_getElem? h)
def Zc (n k:Nat):Array Bool:=((List.range n).map (Nat.testBit k)).toArray
section
variable {α β:Type}
def Zlu (kv:α->Value) (vv:β->Value) (ls:List (Option (List (α×β)))) (cs:List Value) (fp:List Nat) (w:World) (j:Nat):Prop :=
 (ls[j]? = some none/\cs[j]? = some (.map none))\/∃ l b,ls[j]? = some (some l)/\cs[j]? = some (.map (some b))/\b∈fp/\(Yb kv vv b l).holds w
theorem Zfh {kv:α->Value} {vv:β->Value} {b:Nat} {l:List (α×β)} {w w':World} (h:w'.heap[b]? = w.heap[b]?) (hw:(Yb kv vv b l).holds w):(Yb kv vv b l).holds w':=by
 obtain ⟨es,c,A,B⟩:=hw;exact⟨es,c,h.trans A,B⟩
def Ws (kv:α->Value) (vv:β->Value) (n:Nat):Ty (List (Option (List (α×β)))) where
 sz:=n
 rep ls cs fp w:=cs.length=n/\ls.length=n/\(∀ b,b∈fp->b < w.heap.size)/\∀ j,j < n->Zlu kv vv ls cs fp w j
 keep h hw:=⟨hw.1,hw.2.1,N7 h hw.2.2.1,λj hj=>by
  rcases hw.2.2.2 j hj with q | ⟨l,b,B,I,A,L⟩
  ·exact .inl q
  ·exact .inr ⟨l,b,B,I,A,Zfh (h b A) L⟩⟩
 low hw:=hw.2.2.1
 len hw:=hw.1
 one hw u hu:=by
  obtain ⟨j,hj,rfl⟩:=Cw hu;rcases hw.2.2.2 j (by have:=hw.1; omega) with ⟨_,q⟩ | ⟨l,b,_,q,_⟩
  ·rw [List.getElem?_eq_getElem hj] at q; injection q with q; rw [q]; rfl
  ·rw [List.getElem?_eq_getElem hj] at q; injection q with q; rw [q]; rfl
 more hw hs hl:=⟨hw.1,hw.2.1,hl,λj hj=>by
  rcases hw.2.2.2 j hj with q | ⟨l,b,B,I,A,L⟩
  ·exact .inl q
  ·exact .inr ⟨l,b,B,I,hs _ A,L⟩⟩
variable {kv:α->Value} {vv:β->Value} {n:Nat} {ls:List (Option (List (α×β)))} {cs:List Value} {fp:List Nat} {w:World}
theorem En (kv:α->Value) (vv:β->Value) (n:Nat) (w:World):(Ws kv vv n).rep (Cd n none) (Cd n (.map none)) [] w :=
 ⟨by simp,by simp,by simp,λj hj=>.inl ⟨by simp [hj],by simp [hj]⟩⟩
theorem Zlv (h:(Ws kv vv n).rep ls cs fp w) {b i:Nat} {l:List (α×β)} (hm:(Yb kv vv b l).holds w):(Ws kv vv n).rep (ls.set i (some l)) (cs.set i (.map (some b))) (b::fp) w:=by
 refine⟨by rw [ZC4]; exact h.1,by rw [ZC4]; exact h.2.1,λc hc=>?_,λj hj=>?_⟩
 ·rcases Cb.1 hc with rfl | hc
  ·exact(Yb kv vv c l).low w hm c (by simp [Yb])
  ·exact h.2.2.1 c hc
 ·have hl:=h.1;have V:=h.2.1;by_cases e:i=j
  ·subst e;exact .inr ⟨l,b,by rw [List.getElem?_set_self (by omega)],by rw [List.getElem?_set_self (by omega)],by simp,hm⟩
  ·rcases h.2.2.2 j hj with ⟨A,B⟩ | ⟨l',b',I,L,O,U⟩
   ·exact .inl ⟨by rw [List.getElem?_set_ne e]; exact A,by rw [List.getElem?_set_ne e]; exact B⟩
   ·exact .inr ⟨l',b',by rw [List.getElem?_set_ne e]; exact I,by rw [List.getElem?_set_ne e]; exact L,by simp [O],U⟩
theorem Zlw (h:(Ws kv vv n).rep ls cs fp w) {i:Nat} {l:List (α×β)} (hl:ls[i]? = some (some l)):∃ b,cs[i]? = some (.map (some b))/\b∈fp/\(Yb kv vv b l).holds w:=by
 have hi:i < n:=by have:=(List.getElem?_eq_some_iff.1 hl).1; have:=h.2.1; omega
 rcases h.2.2.2 i hi with ⟨B,U⟩ | ⟨l',b',A,I,L,O⟩
 ·rw [hl] at B; cases B
 ·rw [hl] at A; injection A with A; injection A with A; subst A; exact⟨b',I,L,O⟩
theorem T1 (h:(Ws kv vv n).rep ls cs fp w):cs.length=n:=h.1
theorem Zax (h:(Ws kv vv n).rep ls cs fp w):cs.all (·.oneCell')=true:=List.all_eq_true.2 λu hu=>(Ws kv vv n).one h u hu
end
theorem Zlx {cs:List Value} {n:Nat} (h:cs.length=n):(cs.drop 0).take n=cs:=by rw [List.drop_zero,List.take_of_length_le (by omega)]
theorem Zly {cs:List Value} {o i:Nat} {v:Value} (h:cs[i]? = some v) (ho:o=i):cs[o]? = some v:=ho ▸ h
theorem Zfi {cs:List Value} {o i:Nat} {v:Value} (hi:i < cs.length) (ho:o=i):Xz cs o [v]=cs.set i v:=by
 subst ho;unfold Xz;rw [List.set_eq_take_append_cons_drop,if_pos hi];simp
theorem Zay {cs vc:List Value} (h:vc.length=cs.length):Xz cs 0 vc=vc:=by
 unfold Xz;rw [List.take_zero,List.nil_append,Nat.zero_add,h,List.drop_length,List.append_nil]
namespace Ctx
variable {X:Nat->Prop} {w0 w w':World} {M Ps:List Item}
theorem joinP (h:Ctx X w0 w M Ps) (j k:Nat) {it jt:Item} (hj:Ps[j]? = some it) (hk:Ps[k]? = some jt) (nt:Item) (hn:it.holds w->jt.holds w->nt.holds w) (hf:∀ b,b∈nt.fp->b∈it.fp\/b∈jt.fp):Ctx X w0 w M (nt::Ps) :=
 h.pushP nt (hn (h.Iw j hj) (h.Iw k hk)) (λb hb m hm=>(hf b hb).elim (λq=>h.pd it (List.mem_of_getElem? hj) b q m hm) (λq=>h.pd jt (List.mem_of_getElem? hk) b q m hm))
end Ctx
theorem Td {w w':World} (h:BelN w.heap.size w w'):Bel w w':=⟨⟨h.os,h.tape,h.output,h.size,h.old⟩,h.drawn⟩
theorem Js {N:Nat} {w w':World} (A:N<=w.heap.size) (h:Bel w w'):BelN N w w':=⟨h.os,h.tape,h.output,h.size,h.drawn,λc hc=>h.block c (by omega)⟩
theorem Wt {N b:Nat} {w w':World} (A:N<=w.heap.size) (hb:N<=b) (h:BelB b w w'):BelN N w w':=⟨h.os,h.tape,h.output,h.size,h.drawn,λc hc=>h.old c (by omega) (by omega)⟩
section
variable {P:Program} {l:List Oper} {Q:Exit->Act->World->Prop} {n m f:Nat} {e:Env} {w:World} {listed:Array Bool}
theorem Xc {N i:Nat} {w':World} {l9:Array Bool} (hb:BelN N w w') (A:N<=w.heap.size) (hl:listed.setIfInBounds i true=l9) (h:N<=w'.heap.size->AE (BelN N) P .any l.toArray Q m n f l9 e w'):AK (BelN N) P l Q m n f i listed w .normal (actOf n e) w' :=
 Zex hb hl (h (Cj A hb.size))
end
section
variable {P:Program} {ops:Array Oper} {Q:Exit->Act->World->Prop} {n:Nat} {e:Env} {w w':World} {rest:List Oper}
variable {X:Nat->Prop} {w0:World} {M Ps:List Item}
variable {d ty:Nat} {pos:String} {af:Array Edge} {gd:Option (Nat×Bool)}
theorem Eo (B:Ctx X w0 w M Ps) {t:Nat} {z:Value} (cs:List Value) (hz:Je P t z) (hcs:z.cells.toList=cs)
  (h:∀ b w',w.heap.size<=b->Bel w w'->Ctx X w0 w' (blk b t cs::M) Ps->W P ops Q rest n (upd e d (.pointer (some ⟨b,0,none⟩))) w') :
  W P ops Q (⟨some d,.alloc t,ty,pos,af,none⟩::rest) n e w:=by
 have A:Bel w (w.alloc (.cells z.cells t)):=Bel.alloc _ _;refine Y2 (.pointer (some ⟨w.heap.size,0,none⟩)) rfl rfl ?_ (h w.heap.size (w.alloc (.cells z.cells t)) (Cg _) A (B.push A _ ?_ ?_))
 ·simp [execOp,Instr.alloc,G2 hz,newVar,newRow]
 ·show (w.alloc _).heap[w.heap.size]? = _
  rw [heap_alloc_new,<- hcs]
 ·simp [blk]
theorem Zfj (A:Ctx X w0 w M Ps) (k:Nat) {b t off sz ty':Nat} {x y:Operand} {cs:List Value} {v:Value} (vc:List Value) (cs':List Value) (hk:M[k]? = some (blk b t cs)) (B:Xu P ty' sz) (hx:ev n e x=.pointer (some ⟨b,off,none⟩))
  (hy:ev n e y=v) (hv:v.cells.toList=vc) (hl:vc.length=sz) (I:vc.all (·.oneCell')=true) (ho:off+sz<=cs.length) (hcs:Xz cs off vc=cs')
  (h:∀ w',BelB b w w'->Ctx X w0 w' (M.set k (blk b t cs')) Ps->W P ops Q rest n e w') :
  W P ops Q (⟨none,.store ty' x y,ty,pos,af,none⟩::rest) n e w:=by
 obtain ⟨w',hr,hb,hos,hta,hou,hsz,hother⟩:=Lz (P:=P) B (A.Ix k hk) hv hl I ho;refine Uq rfl rfl ?_ (h w' ⟨hos,hta,hou,by omega,Vy _ _ _ _ hr,λc _ hc=>hother c hc⟩ (A.turn k hk hos hta hou (by omega) (Vy _ _ _ _ hr) (λc _ hc=>hother c (by simpa [blk] using hc)) (hcs ▸ hb) (λc hc=>.inl hc)))
 simp [execOp,hx,hy,Instr.storeAt,Instr.sureAddr,hr]
variable {α β:Type} {kv:α->Value} {vv:β->Value}
theorem So (B:Ctx X w0 w M Ps) {t:Nat} (kv:α->Value) (vv:β->Value) (h:∀ b w',w.heap.size<=b->Bel w w'->Ctx X w0 w' (Yb kv vv b []::M) Ps->W P ops Q rest n (upd e d (.map (some b))) w') :
  W P ops Q (⟨some d,.makeMap t none,ty,pos,af,none⟩::rest) n e w:=by
 have A:Bel w (w.alloc (.map #[] 0)):=Bel.alloc _ _;refine Y2 (.map (some w.heap.size)) rfl rfl ?_ (h w.heap.size _ (Cg _) A (B.push A _ ⟨#[],0,heap_alloc_new _ _,rfl,by simp,by simp,by simp⟩ (by simp [Yb])))
 simp [execOp,Instr.makeMap,newObj,Sem.run,Result.andThen]
variable [DecidableEq α]
theorem W3 (A:Ctx X w0 w M Ps) (j:Nat) {t k el b:Nat} {l:List (α×β)} {x y z:Operand} (kx:α) (v:β) (hk:M[j]? = some (Yb kv vv b l)) (K:KeyT P k kv) (ht:P.underlying t=some (.map k el))
  (hx:ev n e x=.map (some b)) (hy:ev n e y=kv kx) (hz:ev n e z=vv v) (h:∀ w',BelB b w w'->Ctx X w0 w' (M.set j (Yb kv vv b (Yv l kx v))) Ps->W P ops Q rest n e w') {op:Op} (hop:op=.mapUpdate t x y z\/op=.insert t x y z) :
  W P ops Q (⟨none,op,ty,pos,af,none⟩::rest) n e w:=by
 obtain ⟨w',hr,hh,hb⟩:=Ze1 K ht (A.Ix j hk) kx v;refine Uq rfl rfl ?_ (h w' hb (A.turnB j hk hb rfl rfl hh))
 rcases hop with rfl | rfl <;> simp [execOp,hx,hy,hz,hr]
end
theorem Zlz {cs vc:List Value} {o:Nat} (ho:o+vc.length<=cs.length) (k:Nat):(Xz cs o vc)[k]? = if k < o then cs[k]? else if k < o+vc.length then vc[k - o]? else cs[k]? := by
 unfold Xz;have h:(cs.take o).length=o:=by rw [List.length_take]; omega
 by_cases a:k < o
 ·rw [if_pos a,List.append_assoc,List.getElem?_append_left (by omega),List.getElem?_take,if_pos a]
 ·rw [if_neg a];by_cases b:k < o+vc.length
  ·rw [if_pos b,List.append_assoc,List.getElem?_append_right (by omega),h,List.getElem?_append_left (by omega)]
  ·rw [if_neg b,List.getElem?_append_right (by rw [C8]; omega),C8,h,List.getElem?_drop]
   congr 1
   omega
theorem Zl0 {cs vc:List Value} {o:Nat} (ho:o+vc.length<=cs.length):(Xz cs o vc).length=cs.length:=by
 unfold Xz; simp; omega
section
variable {α:Type} {T:Tr α} {w:World}
theorem Zl1 {fps:List (List Nat)} {i:Nat} {f:List Nat} {b:Nat} (h:b∈(fps.set i f).flatten):b∈fps.flatten\/b∈f:=by
 obtain ⟨l,hl,hb⟩:=ZDb.1 h;rcases ZDp hl with q | q
 ·exact .inl (ZDb.2 ⟨l,q,hb⟩)
 ·exact .inr (q ▸ hb)
theorem Zl2 {xs:List α} {cs c2:List Value} {fps:List (List Nat)} {A:List Nat} {i:Nat} {y:α} (h:(Zz T xs cs fps).holds w) (hi:i < xs.length) (hy:(T.item y c2 A).holds w) (hd:∀ b,b∈fps.flatten->b∉A) :
  (Zz T (xs.set i y) (Xz cs (i * T.ty.sz) c2) (fps.set i A)).holds w:=by
 have L:c2.length=T.ty.sz:=T.ty.len (T.trep hy.1);have hle:i * T.ty.sz+T.ty.sz<=cs.length:=by rw [h.1.1]; exact W8 hi
 have B:i * T.ty.sz+c2.length<=cs.length:=by rw [L]; exact hle
 have hfl:=h.1.2.1;refine⟨⟨by rw [Zl0 B,h.1.1,ZC4],by rw [ZC4,ZC4,hfl],λj hj=>?_⟩,?_⟩
 ·have hj':j < xs.length:=by simpa using hj
  have hseg:∀ k:Nat,(((Xz cs (i * T.ty.sz) c2).drop (j * T.ty.sz)).take T.ty.sz)[k]? = if j=i then c2[k]? else((cs.drop (j * T.ty.sz)).take T.ty.sz)[k]? := by
   intro k;rw [List.getElem?_take]
   by_cases hk:k < T.ty.sz
   ·rw [if_pos hk,List.getElem?_drop,Zlz B]
    by_cases hji:j=i
    ·subst hji;rw [if_neg (by omega),if_pos (by omega),if_pos rfl,Nat.add_sub_cancel_left]
    ·rw [if_neg hji,List.getElem?_take,if_pos hk,List.getElem?_drop]
     rcases Nat.lt_or_gt_of_ne hji with q | q
     ·have:=W8 (sz:=T.ty.sz) q;rw [if_pos (by omega)]
     ·have:=W8 (sz:=T.ty.sz) q;rw [if_neg (by omega),if_neg (by omega)]
   ·rw [if_neg hk];by_cases hji:j=i
    ·rw [if_pos hji,List.getElem?_eq_none (by omega)]
    ·rw [if_neg hji,List.getElem?_take,if_neg hk]
  have hfj:(fps.set i A).getD j []=if j=i then A else fps.getD j []:=by
   simp only [List.getD];by_cases hji:j=i
   ·subst hji; rw [if_pos rfl,List.getElem?_set_self (by omega)]; rfl
   ·rw [if_neg hji,List.getElem?_set_ne (λe=>hji e.symm)]
  rw [List.getElem_set,hfj];by_cases hji:j=i
  ·subst hji;rw [if_pos rfl,if_pos rfl];have I:((Xz cs (j * T.ty.sz) c2).drop (j * T.ty.sz)).take T.ty.sz=c2:=List.ext_getElem? (λk=>(hseg k).trans (if_pos rfl))
   rw [I];exact hy.1
  ·rw [if_neg (λe=>hji e.symm),if_neg hji]
   have I:((Xz cs (i * T.ty.sz) c2).drop (j * T.ty.sz)).take T.ty.sz=(cs.drop (j * T.ty.sz)).take T.ty.sz:=List.ext_getElem? (λk=>(hseg k).trans (if_neg hji))
   rw [I];exact h.1.2.2 j hj'
 ·have hp:=ZDq.1 h.2;refine ZDq.2 ⟨λl hl=>?_,?_⟩
  ·rcases ZDp hl with q | q
   ·exact hp.1 l q
   ·rw [q]; exact hy.2
  ·rw [Cq];intro a b ha hb hab x hx z hz;have ha':a < fps.length:=by simpa using ha
   have hb':b < fps.length:=by simpa using hb
   rw [List.getElem_set] at hx hz
   split at hx
   ·split at hz
    ·omega
    ·intro e; subst e; exact hd x (ZDb.2 ⟨_,List.getElem_mem hb',hz⟩) hx
   ·split at hz
    ·intro e; subst e; exact hd x (ZDb.2 ⟨_,List.getElem_mem ha',hx⟩) hz
    ·exact Cq.1 hp.2 a b ha' hb' hab x hx z hz
theorem Zl3 {e:Nat} {xs:List α} {v:Value} {fp:List Nat} (h:((Tr.sl e T).item xs [v] fp).holds w) (hn:0 < xs.length):∃ g cap,v=.slice (some ⟨g,0,none⟩) xs.length cap:=by
 obtain ⟨ecs,fps,A,_⟩:=Kb h;exact Xx A hn
end
section
variable {P:Program} {ops:Array Oper} {Q:Exit->Act->World->Prop} {n:Nat} {e:Env} {w w':World} {rest:List Oper}
variable {X:Nat->Prop} {w0:World} {M Ps:List Item}
variable {d ty:Nat} {pos:String} {af:Array Edge} {gd:Option (Nat×Bool)}
theorem Zl4 {el ty' i g cap j:Nat} {α:Type} {T:Tr α} {x y:Operand} {v u:Value} {xs:List α} {z:α} {c2:List Value} {L A:List Nat} (B:Ctx X w0 w ((Tr.sl el T).item xs [v] L::T.item z c2 A::M) Ps)
  (hi:i < xs.length) (hv:v=.slice (some ⟨g,0,none⟩) xs.length cap) (O:Xu P ty' T.ty.sz) (hx:ev n e x=.pointer (some ⟨g,j,none⟩)) (hj:j=i * T.ty.sz) (hy:ev n e y=u) (hu:u.cells.toList=c2)
  (h:∀ f w',Ctx X w0 w' ((Tr.sl el T).item (xs.set i z) [v] f::M) Ps->W P ops Q rest n e w') :
  W P ops Q (⟨none,.store ty' x y,ty,pos,af,none⟩::rest) n e w:=by
 obtain ⟨ecs,fps,U,V,rfl,a4⟩:=Kb (B.Ix 0 rfl);have hz:(T.item z c2 A).holds w:=B.Ix 1 rfl;have hdz:∀ b,b∈v.ownBlock.toList++fps.flatten->b∉A:=λb hb hb'=>B.mm 0 1 rfl rfl (by decide) b hb hb'
 have h1:=B.split (a:=own el T.ty.sz v xs.length ecs) (b:=Zz T xs ecs fps) (λb hb=>List.mem_append_left _ hb) (λb hb=>List.mem_append_right _ hb) ⟨U,V,a4⟩
 have I:c2.length=T.ty.sz:=T.ty.len (T.trep hz.1);have hle:j+T.ty.sz<=ecs.length:=by rw [hj,V.1.1]; exact W8 hi
 refine U6 (v:=u) h1 0 c2 (Xz ecs j c2) rfl hv O hx hy hu I (List.all_eq_true.2 λq hq=>T.ty.one (T.trep hz.1) q hq) hle rfl λw1 hC1=>?_
 have h2:=hC1.perm (M':=Zz T xs ecs fps::T.item z c2 A::own el T.ty.sz v xs.length (Xz ecs j c2)::M) (by
  have q1:(own el T.ty.sz v xs.length (Xz ecs j c2)::Zz T xs ecs fps::T.item z c2 A::M).Perm (Zz T xs ecs fps::own el T.ty.sz v xs.length (Xz ecs j c2)::T.item z c2 A::M):=Fy _ _ _;have q2:(Zz T xs ecs fps::own el T.ty.sz v xs.length (Xz ecs j c2)::T.item z c2 A::M).Perm (Zz T xs ecs fps::T.item z c2 A::own el T.ty.sz v xs.length (Xz ecs j c2)::M):=(Fy _ _ _).cons _;exact q1.trans q2)
 have h3:=h2.gather (c:=Zz T (xs.set i z) (Xz ecs j c2) (fps.set i A)) (λb hb=>Zl1 hb) (λp q r=>by rw [hj]; exact Zl2 p hi q r)
 have h4:=h3.perm (M':=own el T.ty.sz v xs.length (Xz ecs j c2)::Zz T (xs.set i z) (Xz ecs j c2) (fps.set i A)::M) (Fy _ _ _);exact h _ w1 (h4.gather (c:=(Tr.sl el T).item (xs.set i z) [v] (v.ownBlock.toList++(fps.set i A).flatten)) (λb hb=>List.mem_append.1 hb) (λp q r=>Xj (by rw [ZC4]; exact p) q r))
end
section
variable {P:Program} {ops:Array Oper} {Q:Exit->Act->World->Prop} {n:Nat} {e:Env} {w w':World} {rest:List Oper}
variable {d ty:Nat} {pos:String} {af:Array Edge} {gd:Option (Nat×Bool)}
end
section
variable {P:Program} {ops:Array Oper} {Q:Exit->Act->World->Prop} {K:Act->World->Prop} {n:Nat} {e:Env} {w:World}
theorem dn (h:K (actOf n e) w):W P ops (Exit.then K Q) [] n e w:=done (Ze h)
theorem sr {id:Nat} {l:List Oper} {y:Code} (h:W P l.toArray (Exit.then (y.wp P Q) Q) l n e w):(Code.seq (Code.region id l.toArray false) y).wp P Q (actOf n e) w:=ZB9 (Zh h)
theorem sk {t:Nat} {v:Value} {l:List (Nat×Value)} (h:e t=v) (hs:Zt e l):Zt e ((t,v)::l):=Zfg h hs
theorem sn:Zt e []:=Zff
def Zaz (e:Env):List (Nat×Value)->Env
 | []=>e
 | p::l=>upd (Zaz e l) p.1 p.2
theorem ue {e:Env}:∀ {l:List (Nat×Value)}, Zt e l->e=Zaz e l
 | [],_=>rfl
 | p :: l, h => by
  have A:=ue (l:=l) (λq hq=>h q (List.mem_cons_of_mem _ hq))
  have B:e p.1=p.2:=h p (by simp)
  show e=upd (Zaz e l) p.1 p.2
  rw [<- A,Zkf B]
def SlR (e:Env):List (Nat×Value)->Prop
 | []=>True
 | p::l=>e p.1=p.2/\SlR e l
theorem sl {e:Env}:∀ {l:List (Nat×Value)}, SlR e l->Zt e l
 | [],_=>Zff
 | p::l,h=>Zfg h.1 (sl h.2)
theorem sx {l:List (Nat×Value)} (hs:Zt e l) (k:Nat) {t:Nat} {v:Value} (h:l[k]? = some (t,v)):e t=v:=Zlt hs k h
end
theorem rt {v:Value} {F:Value->Prop} (h:F v):∃ u,Ending.returned v=.returned u/\F u:=⟨v,rfl,h⟩
abbrev vI (x:Int):Value:=.int .i64 x
abbrev vQ (b:Nat):Value:=.pointer (some ⟨b,0,none⟩)
abbrev mapS (b:Nat) (l:List (A8×Int)):Item:=Yb (kvA .i64) (vvI .i64) b l
abbrev eI:Enc Int:=EI .i64
theorem al1 {α:Type} {P:α->Prop} {a:α} (h:P a):∀ x,x∈[a]->P x:=λx hx=>by obtain rfl:=List.mem_singleton.1 hx; exact h
theorem alc {α:Type} {P:α->Prop} {a:α} {l:List α} (h:P a) (k:∀ x,x∈l->P x):∀ x,x∈a::l->P x:=λx hx=>(Cb.1 hx).elim (λe=>e ▸ h) (k x)
theorem Vr {b:Nat} {P:Nat->Prop} (h:P b):∀ x,x∈[b]->P x:=al1 h
theorem cof {P:Program} {f:FuncId} {fn:Func} {c:Code} {args:List Value} {w:World} {R:Ending->World->Prop}
  (hf:P.funcs[f]? = some fn) (hb:fn.body=some c) (n:Nat) (hn:fn.ntmps=n)
  (h:c.wp P (bodyPost P fn R) (actOf n (Lw args)) w) (hl:args.length<=n:=by exact ZCh rfl):Calls P f args.toArray w R:=B8 hf hb n hn hl h
namespace Ctx
theorem xM {X:Nat->Prop} {w0 w:World} {M Ps:List Item} (h:Ctx X w0 w M Ps) (idx:List Nat) {M':List Item} (hm:idx.map (M[·]?)=M'.map some) (hn:idx.Nodup:=by decide):Ctx X w0 w M' Ps:=h.sM idx hn hm
theorem dAlg {X:Nat->Prop} {w0 w:World} {M Ps:List Item} (h:Ctx X w0 w M Ps) (k:Nat) {a:Alg} {u v:Value} {fp:List Nat} (hk:Ps[k]? = some (ZB8 TAlg a [u,v] fp)):Ctx X w0 w M (ZB8 ZCv.sl a.images [v] fp::ZB8 ((EI .i64).ty.sl) a.degrees [u] fp::Ps) :=
 (h.I0 k hk (ZB8 ((EI .i64).ty.sl) a.degrees [u] fp) (λq=>(N9 q).1) (λ_ q=>q)).I0 (k+1) (it:=ZB8 TAlg a [u,v] fp) (by rw [List.getElem?_cons_succ]; exact hk) (ZB8 ZCv.sl a.images [v] fp) (λq=>(N9 q).2) (λ_ q=>q)
end Ctx
section
variable {P:Program} {Q:Exit->Act->World->Prop} {l:List Oper} {m n f:Nat} {listed:Array Bool} {e:Env} {w:World} {lf:List Nat} {d:Nat} {ty:Nat} {pos:String} {af:Array Edge} {x:Operand}
theorem bF (i:Nat) (v:Value) {oi:Oper} (ho:l[i]? = some oi) (hd:oi.dst=some d) (A:∀ i,lf.contains i=true->Jo .any l.toArray l.toArray.size i=true)
  (hst:∀ w':World,(execOp (ev n e) oi).run P w'=.ok (.value v) w') (l9:Array Bool) (h:AE Bel P .any l.toArray Q m n f l9 (upd e d v) w)
  (hc:lf.contains i=true:=by rfl) (hw:Region.wanted oi (J2 l.toArray n e)=true:=by rfl) (hr:Ub l listed i=true:=by kernel_rfl) (hl:listed.setIfInBounds i true=l9:=by kernel_rfl):AE Bel P .any l.toArray Q m n (f+1) listed e w :=
 Zv Z3 i v ho hd hr (A i hc) (λw'=>.inl ⟨hw,hst w'⟩) hl h
theorem bL (i:Nat) (v:Value) {oi:Oper} (ho:l[i]? = some oi) (hd:oi.dst=some d) (A:∀ i,lf.contains i=true->Jo .any l.toArray m i=true)
  (hst:∀ w':World,Bel w w'->(execOp (ev n e) oi).run P w'=.ok (.value v) w') (l9:Array Bool) (h:AE Bel P .any l.toArray Q m n f l9 (upd e d v) w)
  (hc:lf.contains i=true:=by rfl) (hw:Region.wanted oi (J2 l.toArray n e)=true:=by rfl) (hr:Ub l listed i=true:=by kernel_rfl) (hl:listed.setIfInBounds i true=l9:=by kernel_rfl):AE Bel P .any l.toArray Q m n (f+1) listed e w :=
 W0 Z3 i v ho hd hr (A i hc) (λw' B=>.inl ⟨hw,hst w' B⟩) hl h
theorem bMR {R:World->World->Prop} (A:PreW R) (i:Nat) (v:Value) (ho:l[i]? = some ⟨some d,.move x,ty,pos,af,none⟩) (B:∀ i,lf.contains i=true->Jo .any l.toArray l.toArray.size i=true)
  (l9:Array Bool) (h:AE R P .any l.toArray Q m n f l9 (upd e d v) w) (hx:ev n e x=v:=by rfl)
  (hc:lf.contains i=true:=by rfl) (hr:Ub l listed i=true:=by kernel_rfl) (hl:listed.setIfInBounds i true=l9:=by kernel_rfl):AE R P .any l.toArray Q m n (f+1) listed e w :=
 Zv A i v ho rfl hr (B i hc) (λw'=>.inl ⟨rfl,Vb hx⟩) hl h
theorem bM (i:Nat) (v:Value) (ho:l[i]? = some ⟨some d,.move x,ty,pos,af,none⟩) (A:∀ i,lf.contains i=true->Jo .any l.toArray l.toArray.size i=true)
  (l9:Array Bool) (h:AE Bel P .any l.toArray Q m n f l9 (upd e d v) w) (hx:ev n e x=v:=by rfl)
  (hc:lf.contains i=true:=by rfl) (hr:Ub l listed i=true:=by kernel_rfl) (hl:listed.setIfInBounds i true=l9:=by kernel_rfl):AE Bel P .any l.toArray Q m n (f+1) listed e w :=
 bMR Z3 i v ho A l9 h hx hc hr hl
theorem bAR {R:World->World->Prop} (A:PreW R) (i:Nat) (v:Value) (ho:l[i]? = some ⟨some d,.assign x,ty,pos,af,none⟩) (B:∀ i,lf.contains i=true->Jo .any l.toArray l.toArray.size i=true)
  (l9:Array Bool) (h:AE R P .any l.toArray Q m n f l9 (upd e d v) w) (hx:ev n e x=v:=by rfl)
  (hc:lf.contains i=true:=by rfl) (hr:Ub l listed i=true:=by kernel_rfl) (hl:listed.setIfInBounds i true=l9:=by kernel_rfl):AE R P .any l.toArray Q m n (f+1) listed e w :=
 Zv A i v ho rfl hr (B i hc) (λw'=>.inl ⟨rfl,Zkh hx⟩) hl h
theorem bA (i:Nat) (v:Value) (ho:l[i]? = some ⟨some d,.assign x,ty,pos,af,none⟩) (A:∀ i,lf.contains i=true->Jo .any l.toArray l.toArray.size i=true)
  (l9:Array Bool) (h:AE Bel P .any l.toArray Q m n f l9 (upd e d v) w) (hx:ev n e x=v:=by rfl)
  (hc:lf.contains i=true:=by rfl) (hr:Ub l listed i=true:=by kernel_rfl) (hl:listed.setIfInBounds i true=l9:=by kernel_rfl):AE Bel P .any l.toArray Q m n (f+1) listed e w :=
 bAR Z3 i v ho A l9 h hx hc hr hl
end
theorem mg {α:Type} {l:List α} {a:α} (i:Nat) (h:l[i]? = some a):a∈l:=List.mem_of_getElem? h
theorem slq {e:Env} {l:List (Nat×Value)} (h:l.map (λp=>e p.1)=l.map Prod.snd):Zt e l:=λp hp=>by
 obtain ⟨i,hi,rfl⟩:=Cw hp;have:=I1 (·[i]?) h;simpa [hi] using this
section
variable {X:Nat->Prop} {w0 w:World} {M Ps:List Item}
theorem Ctx.pdk (h:Ctx X w0 w M Ps) (i j:Nat) {a b:Item} (hi:Ps[i]? = some a) (hj:M[j]? = some b):∀ x,x∈a.fp->x∉b.fp:=λx hx=>h.pd a (List.mem_of_getElem? hi) x hx b (List.mem_of_getElem? hj)
theorem Ctx.mfk (h:Ctx X w0 w M Ps) (i:Nat) {a:Item} (hi:M[i]? = some a):∀ x,x∈a.fp->w0.heap.size<=x\/X x:=h.mfp a (List.mem_of_getElem? hi)
variable {P:Program} {ops:Array Oper} {Q:Exit->Act->World->Prop} {n:Nat} {e:Env} {rest:List Oper} {d ty:Nat} {pos:String} {af:Array Edge} {gd:Option (Nat×Bool)}
theorem Ep (h:Ctx X w0 w M Ps) (k:Nat) {α:Type} {T:Ty α} {xs:List α} {v:Value} {fp:List Nat} {t el:Nat} {x:Operand} (hk:Ps[k]? = some (ZB8 T.sl xs [v] fp)) (ht:P.underlying t=some (.slice el)) (hx:ev n e x=v) :
  (execOp (ev n e) ⟨some d,.call { callee:=.builtin .len,args:=#[x],argTypes:=#[t] }, ty,pos,af,gd⟩).run P w=.ok (.value (.int .i64 (xs.length:Int))) w:=by
 obtain ⟨A,c,B⟩:=Sk (h.Iw k hk);exact N8 ht (hx.trans B)
theorem Zu (B:Ctx X w0 w M Ps) (k:Nat) {α:Type} {T:Ty α} {xs:List α} {v:Value} {fp:List Nat} {t el:Nat} {x:Operand} (hk:Ps[k]? = some (ZB8 T.sl xs [v] fp)) (ht:P.underlying t=some (.slice el)) (hx:ev n e x=v)
  (h:W P ops Q rest n (upd e d (.int .i64 (xs.length:Int))) w):W P ops Q (⟨some d,.call { callee:=.builtin .len,args:=#[x],argTypes:=#[t] }, ty,pos,af,none⟩::rest) n e w:=by
 obtain ⟨A,c,I⟩:=Sk (B.Iw k hk);exact Sl ht (hx.trans I) h
theorem Er (h:Ctx X w0 w M Ps) (k:Nat) {a sz m:Nat} {v:Value} {cs:List Value} {t el:Nat} {x:Operand} (hk:M[k]? = some (own a sz v m cs)) (ht:P.underlying t=some (.slice el)) (hx:ev n e x=v) :
  (execOp (ev n e) ⟨some d,.call { callee:=.builtin .len,args:=#[x],argTypes:=#[t] }, ty,pos,af,gd⟩).run P w=.ok (.value (.int .i64 (m:Int))) w:=by
 obtain ⟨A,c,B⟩:=V8 (h.Ix k hk);exact N8 ht (hx.trans B)
theorem J3 (B:Ctx X w0 w M Ps) (k:Nat) {a sz m:Nat} {v:Value} {cs:List Value} {t el:Nat} {x:Operand} (hk:M[k]? = some (own a sz v m cs)) (ht:P.underlying t=some (.slice el)) (hx:ev n e x=v)
  (h:W P ops Q rest n (upd e d (.int .i64 (m:Int))) w):W P ops Q (⟨some d,.call { callee:=.builtin .len,args:=#[x],argTypes:=#[t] }, ty,pos,af,none⟩::rest) n e w:=by
 obtain ⟨A,c,I⟩:=V8 (B.Ix k hk);exact Sl ht (hx.trans I) h
theorem Zl5 (h:Ctx X w0 w M Ps) (k:Nat) {α:Type} {T:Tr α} {a:Nat} {xs:List α} {v:Value} {f:List Nat} {t el:Nat} {x:Operand} (hk:M[k]? = some (ZCn (Tr.sl a T) xs [v] f)) (ht:P.underlying t=some (.slice el)) (hx:ev n e x=v) :
  (execOp (ev n e) ⟨some d,.call { callee:=.builtin .len,args:=#[x],argTypes:=#[t] }, ty,pos,af,gd⟩).run P w=.ok (.value (.int .i64 (xs.length:Int))) w:=by
 obtain ⟨A,c,B⟩:=Zfe (h.Ix k hk);exact N8 ht (hx.trans B)
theorem Qs (B:Ctx X w0 w M Ps) (k:Nat) {α:Type} {T:Tr α} {a:Nat} {xs:List α} {v:Value} {f:List Nat} {t el:Nat} {x:Operand} (hk:M[k]? = some (ZCn (Tr.sl a T) xs [v] f)) (ht:P.underlying t=some (.slice el)) (hx:ev n e x=v)
  (h:W P ops Q rest n (upd e d (.int .i64 (xs.length:Int))) w):W P ops Q (⟨some d,.call { callee:=.builtin .len,args:=#[x],argTypes:=#[t] }, ty,pos,af,none⟩::rest) n e w:=by
 obtain ⟨A,c,I⟩:=Zfe (B.Ix k hk);exact Sl ht (hx.trans I) h
variable {l:List Oper} {id:Nat}
theorem cwd (m:Nat) (hm:P.follows .mixedOrders=true) (rows lk lf:List Nat)
  (h:(∀ i,lk.contains i=true->Jo .any l.toArray m i=true)->(∀ i,lf.contains i=true->Jo .any l.toArray l.toArray.size i=true)->∀ w',Bel w w'->AE Bel P .any l.toArray Q m n l.length (Cd l.length false).toArray e w')
  (hro:Qo l rows=true:=by kernel_rfl) (hk:lk.all (Ua rows l m)=true:=by kernel_rfl) (hf:lf.all (Ua rows l l.length)=true:=by kernel_rfl):(Code.region id l.toArray true).wp P Q (actOf n e) w:=Zew m hm rows lk lf hro hk hf h
theorem Za0 (m:Nat) (hm:P.follows .mixedOrders=true) (rows lk lf:List Nat)
  (h:(∀ i,lk.contains i=true->Jo .any l.toArray m i=true)->(∀ i,lf.contains i=true->Jo .any l.toArray l.toArray.size i=true)->∀ w',Bel w w'->AE (BelN w'.heap.size) P .any l.toArray Q m n l.length (Cd l.length false).toArray e w')
  (hro:Qo l rows=true:=by kernel_rfl) (hk:lk.all (Ua rows l m)=true:=by kernel_rfl) (hf:lf.all (Ua rows l l.length)=true:=by kernel_rfl):(Code.region id l.toArray true).wp P Q (actOf n e) w:=Zkt m hm rows lk lf hro hk hf h
end
end Vc
namespace Go.Proofs
open Go.Shelf
end Go.Proofs
set_option maxRecDepth 4000
set_option maxHeartbeats 4000000
namespace Go.Proofs.YtaagfepgbofmlaaGreat
open Go Go.RowKit Vc
variable {b0 bp0 b1 bp1 b2 bp2 b3 bp3 b4 bp4 b5 bp5 b6 bp6 b7 bp7 mb0:Nat} {Ia Ic Ij Ip Iq Ir Ie Iu u1_2 u1_3 u1_4 u1_5 Ik u2_1 u2_2 u2_3 u2_4 u2_5 u3_0 u3_1 u3_2 u3_3 u3_4 u3_5 Is u4_1 u4_2 u4_3 u4_4 u4_5 u5_0 u5_1 u5_2 u5_3 u5_4 u5_5 u6_0 u6_1 u6_2 u6_3 u6_4 u6_5 u7_0 u7_1 u7_2 u7_3 u7_4 u7_5:Value} {Ib Ig It fp3 fp4 fp5 fp6 fp7 fp0_0 fp0_1 fp0_2 fp0_3 fp0_4 fp0_5 fp1_0 fp1_1 fp1_2 fp1_3 fp1_4 fp1_5 F0:List Nat}
theorem sc2:ScaT ZCc 2:=⟨⟨_,ZDj,rfl⟩,by kernel_rfl⟩
theorem sc5:ScaT ZCc 5:=⟨⟨_,ZDc,rfl⟩,by kernel_rfl⟩
theorem z55:Je ZCc 55 (.agg #[.slice none 0 0]):=by unfold Je; kernel_rfl
theorem Mh  (w:World):(ZC6 55 #[]).run ZCc w=.ok (.agg #[.slice none 0 0]) w:=by kernel_rfl
theorem ag55:AggT ZCc 55 1:=⟨⟨_,ZCg,rfl⟩,by kernel_rfl⟩
theorem Ym:ZCc.follows .mixedOrders=true:=by kernel_rfl
theorem ag136:AggT ZCc 136 8:=⟨⟨_,ZCr,rfl⟩,by kernel_rfl⟩
theorem Kc (x0:A8) (x1:Int) (w:World):(ZC6 162 #[(0,.agg (ZB7 (ZB6 .u8 x0))),(1,.int .i64 x1)]).run ZCc w=.ok (.agg (ZB7 (ZCk (⟨x0,x1⟩:Term)))) w:=by kernel_rfl
theorem Mi (x0:Term) (w:World):(Instr.buildSlice 53 1 #[(0,.agg (ZB7 (ZCk x0)))]).run ZCc w=.ok (.slice (some ⟨w.heap.size,0,none⟩) 1 1) (w.alloc (.cells (ZB7 (ZCa.encs [x0])) 162)):=by kernel_rfl
theorem Zl6 (x0:Value) (h:Qr x0) (w:World):(ZC6 55 #[(0,x0)]).run ZCc w=.ok (.agg #[x0]) w:=by obtain ⟨_,_,_,rfl⟩:=h; kernel_rfl
theorem Ii:ScaT ZCc 53:=⟨⟨_,ZCj,rfl⟩,by kernel_rfl⟩
theorem ag162:AggT ZCc 162 9:=⟨⟨_,ZCp,rfl⟩,by kernel_rfl⟩
theorem Mj:Wm ZCc 162 (.agg (ZB7 (ZCk (⟨ZCe,0⟩:Term)))) 9 16:=by unfold Wm; kernel_rfl
theorem Uc:Je ZCc 136 (.agg (ZB7 (ZB6 .u8 ZCe))):=by unfold Je; kernel_rfl
theorem Za1  (w:World):(ZC6 136 #[]).run ZCc w=.ok (.agg (ZB7 (ZB6 .u8 ZCe))) w:=by kernel_rfl
theorem Mk:Je ZCc 162 (.agg (ZB7 (ZCk (⟨ZCe,0⟩:Term)))):=by unfold Je; kernel_rfl
theorem If:ScaT ZCc 22:=⟨⟨_,ZCs,rfl⟩,by kernel_rfl⟩
theorem Il:ScaT ZCc 30:=⟨⟨_,ZCx,rfl⟩,by kernel_rfl⟩
theorem ag32:AggT ZCc 32 2:=⟨⟨_,ZCt,rfl⟩,by kernel_rfl⟩
theorem z73:Je ZCc 73 (.agg (ZB7 (ZB6 .i64 ZCe))):=by unfold Je; kernel_rfl
theorem Kd  (w:World):(ZC6 73 #[]).run ZCc w=.ok (.agg (ZB7 (ZB6 .i64 ZCe))) w:=by kernel_rfl
theorem ag73:AggT ZCc 73 8:=⟨⟨_,ZCw,rfl⟩,by kernel_rfl⟩
theorem sc3:ScaT ZCc 3:=⟨⟨_,ZDk,rfl⟩,by kernel_rfl⟩
theorem J4:KeyT ZCc 73 (kvA .i64):=Zao ZCw ZDk sc3
theorem z2:Je ZCc 2 (.int .i64 0):=by unfold Je; kernel_rfl
theorem Zl7 (x0:A8) (w:World):(Instr.buildSlice 122 1 #[(0,.agg (ZB7 (ZB6 .i64 x0)))]).run ZCc w=.ok (.slice (some ⟨w.heap.size,0,none⟩) 1 1) (w.alloc (.cells (ZB7 ((EA .i64).encs [x0])) 73)):=by kernel_rfl
theorem Zl8:Wm ZCc 73 (.agg (ZB7 (ZB6 .i64 ZCe))) 8 64:=by unfold Wm; kernel_rfl
theorem Za2:Je ZCc 211 (.agg (ZB7 (Cd 8 (Value.map none)))):=by unfold Je; kernel_rfl
theorem Zl9 (w:World):(ZC6 211 #[]).run ZCc w=.ok (.agg (ZB7 (Cd 8 (Value.map none)))) w:=by kernel_rfl
theorem ag211:AggT ZCc 211 8:=⟨⟨_,Tryz.underlying211,rfl⟩,by kernel_rfl⟩
theorem sc115:ScaT ZCc 115:=⟨⟨_,ZC8,rfl⟩,by kernel_rfl⟩
theorem el2:Wm ZCc 2 (.int .i64 0) 1 8:=by unfold Wm; kernel_rfl
theorem ag135:AggT ZCc 135 8:=⟨⟨_,Tryz.underlying135,rfl⟩,by kernel_rfl⟩
theorem ag170:AggT ZCc 170 9:=⟨⟨_,Tryz.underlying170,rfl⟩,by kernel_rfl⟩
theorem sc48:ScaT ZCc 48:=⟨⟨_,Tryz.underlying48,rfl⟩,by kernel_rfl⟩
def Qt (h:Int) (A:Int) (B:Int) (K:Bool->Prop):Prop :=
 (if h≥A then K (decide (h<=B)) else K false)
theorem Za3 (B:Int) (L:Int) (I:Int)  {K:Bool->Prop} (h:Qt B L I K) (w0:World)  :
  Calls ZCc 59 #[vI B,vI L,vI I] w0 λe w'=>∃ (O:Bool),
   e=.returned (.bool O)/\K O/\Bel w0 w':=by
 unfold Qt at h
 refine cof Tryz.func59 rfl 15 Tryz.ntmps59 ?_
 have U:=ZCu (X:=Nox) w0 [] (by simp)
 refine sr (Zd (v:=.bool false) rfl (dn (sr (Za (v:=vI B) rfl (Za (v:=vI L) rfl (Wp rfl rfl (Za (v:=.bool (decide (B≥L))) rfl ?_)))))))
 refine Xm (decide (B≥L)) (λA=>?_) (λA=>?_)
 ·replace h:=ift h (ct A);refine Zq 3 10 rfl rfl A (Za (v:=vI B) rfl (Zq 3 10 rfl rfl A (Za (v:=vI I) rfl (Zq 3 10 rfl rfl A (Ut rfl rfl (Ya (v:=.bool (decide (B<=I))) (b:=true) (tr rfl (I1 _ A)) rfl (Zd (v:=.bool (decide (B<=I))) rfl (dn (ZCi ?_)))))))))
  exact Zj rfl (Zg rfl) ⟨decide (B<=I),rfl,h,U.below⟩ (.inl rfl)
 ·replace h:=Zk h (cf A);refine Zp (b:=false) 3 10 rfl (tr rfl (I1 _ A)) (by decide) (Zp (b:=false) 3 10 rfl (tr rfl (I1 _ A)) (by decide) (Zp (b:=false) 3 10 rfl (tr rfl (I1 _ A)) (by decide) (Ya (v:=.bool false) (b:=false) (tr rfl (I1 _ A)) rfl (Zd (v:=.bool false) rfl (dn (ZCi ?_))))))
  exact Zj rfl (Zg rfl) ⟨false,rfl,h,U.below⟩ (.inl rfl)
def Ke (L:List Int) (K:Bool->Prop):Prop :=
 Z1 (λA (B:Unit) h=>Qt (L.getD A Ci) 1 12 (λI=>(if¬ (I=true) then K false else h ()))) (λ(B:Unit)=>K (decide ((L.length:Int)<=8))) L.length 0 ()
theorem Zma (V:List Int)  {K:Bool->Prop} (h:Ke V K) (w0:World) (q0:TInts.rep V [Ia] Ib w0) :
  Calls ZCc 149 #[Ia] w0 λe w'=>∃ (r0:Bool),
   e=.returned (.bool r0)/\K r0/\Bel w0 w':=by
 unfold Ke at h
 refine cof Tryz.func149 rfl 19 Tryz.ntmps149 ?_
 have B:=ZCu (X:=Nox) w0 [ZB8 TInts V [Ia] Ib] (al1 q0);refine sr (Zd (v:=.bool false) rfl (dn (ZB9 (sr (Zd (v:=vI 0) rfl (dn (ZCf ?_)))))))
 have ab:V.length<=9223372036854775807:=Yz (B.Iw 0 rfl);refine Yh (S:=Unit) _ _ (λA aa e_ w_=>Zt e_ [(0,Ia),(3,vI (A:Int))]/\Ctx Nox w0 w_ [] [ZB8 TInts V [Ia] Ib]) V.length ?_ ?_ (s0:=()) ?_ h
 ·clear B h;rintro A aa e_ ai ag ae I ⟨O,B⟩ h ac;rw [ue O];refine ZB9 (sr (Za (v:=vI (A:Int)) rfl (Za (v:=Ia) rfl (Zu B 0 rfl ZCs rfl (Zl rfl rfl (dn (Z8 rfl (decide_eq_true (by omega)) (ZCd (Ze (ZB9 (ZCf (sr (Za (v:=Ia) rfl (Za (v:=vI (A:Int)) rfl ?_))))))))))))))
  obtain ⟨ah,aj,U⟩:=Zx (B.Iw 0 rfl) A I;refine Yn (len:=V.length) ZCs sc2.size (tr rfl U) rfl (ZCq _) (ZC9.2 I) (Ye (vI (V.getD A Ci)) (Yi (B.Iw 0 rfl) U A I) sc2 rfl (Zf [vI (V.getD A Ci),vI 1,vI 12] _ Tryz.func59 rfl rfl rfl (Za3 (V.getD A Ci) 1 12 h _) ?_))
  rintro _ ak ⟨al,rfl,h,ad⟩;refine rt ?_
  replace B:=B.Iy ad;refine Xo rfl (dn ?_)
  refine Zs rfl (λL=>?_) (λL=>?_)
  ·replace h:=ift h (Xe (X1 L));refine sr (Zd (v:=.bool false) rfl (dn ?_))
   refine ZCi (Z9 (Zn (Zn (Z9 (Zn ?_)))))
   exact Zj rfl (Zg rfl) ⟨false,rfl,h,B.below⟩ (.inl rfl)
  ·replace h:=Zk h (not_not_intro ((X2 L)));refine ZCd (Zr (Ze (Zh (Za (v:=vI (A:Int)) rfl (Zm rfl rfl (Zd (v:=vI (Zwt.wrap ((A:Int)+1))) rfl (done ?_)))))))
   exact ac () _ _ ⟨(sl ⟨rfl,(tr rfl (I1 _ (Z2 I ab))),trivial⟩),B⟩ h
 ·clear B h;rintro aa e_ am ae ⟨O,B⟩ h;rw [ue O];refine ZB9 (sr (Za (v:=vI (V.length:Int)) rfl (Za (v:=Ia) rfl (Zu B 0 rfl ZCs rfl (Zl rfl rfl (dn (Z4 rfl (decide_eq_false (by omega)) ?_)))))))
  refine ZCo (Zi (Zi (Zy ?_)))
  refine Ze (sr (Za (v:=Ia) rfl (Zu B 0 rfl ZCs rfl (Ut rfl rfl (Zd (v:=.bool (decide ((V.length:Int)<=8))) rfl (dn (ZCi ?_)))))))
  exact Zj rfl (Zg rfl) ⟨decide ((V.length:Int)<=8),rfl,h,B.below⟩ (.inl rfl)
 ·skip;exact⟨(slq rfl),B⟩
def Kf (I:List Int) (L:A8) (K:Bool->Prop):Prop :=
 Z1 (λh (B:Unit) A=>(if(h:Int)≥(I.length:Int) then(if L.get h≠0 then K false else A ()) else(if L.get h > 20 then K false else((0<=(h:Int)/\(h:Int) < (I.length:Int))/\(if Fa (I.getD h Ci) 2≠0 then(if L.get h > 1 then K false else A ()) else A ()))))) (λ(B:Unit)=>K true) 8 0 ()
theorem Zmb (a0:List Int) (a1:A8)  {K:Bool->Prop} (h:Kf a0 a1 K) (w0:World) (q0:TInts.rep a0 [Ia] Ib w0) :
  Calls ZCc 173 #[Ia,.agg (ZB7 (ZB6 .u8 a1))] w0 λe w'=>∃ (r0:Bool),
   e=.returned (.bool r0)/\K r0/\Bel w0 w':=by
 unfold Kf at h
 refine cof Tryz.func173 rfl 38 Tryz.ntmps173 ?_
 have L:=ZCu (X:=Nox) w0 [ZB8 TInts a0 [Ia] Ib] (al1 q0);refine sr (Yg (v:=.agg (ZB7 (ZB6 .u8 a1))) L (ZB6 .u8 a1) rfl rfl λb2 w4 al L=>Zd (v:=.bool false) rfl (dn (ZB9 (sr (Zd (v:=vI 0) rfl (dn (ZCf ?_)))))))
 refine Yh (S:=Unit) _ _ (λA ae e_ w_=>Zt e_ [(0,Ia),(3,vQ b2),(5,vI (A:Int))]/\Ctx Nox w0 w_ [blk b2 136 (ZB6 .u8 a1)] [ZB8 TInts a0 [Ia] Ib]) 8 ?_ ?_ (s0:=()) ?_ h
 ·clear L h;rintro A ae e_ am aj ag O ⟨ac,L⟩ h U;rw [ue ac];refine ZB9 (sr (Za (v:=vI (A:Int)) rfl (Zl rfl rfl (dn (Z8 rfl (decide_eq_true (by omega)) (ZCd (Ze (ZB9 (ZCf (ZCf (sr (Za (v:=vI (A:Int)) rfl (Za (v:=Ia) rfl (Zu L 0 rfl ZCs rfl (Wp rfl rfl (Zd (v:=.bool (decide ((A:Int)≥(a0.length:Int)))) rfl (dn ?_)))))))))))))))))
  refine Zs rfl (λV=>?_) (λV=>?_)
  ·replace h:=ift h (ct V);refine sr (Za (v:=vI (A:Int)) rfl (X0 A ZCr sc5.size rfl rfl (ZCq _) (by omega) (by omega) (Yc L 0 (.int .u8 (a1.get A)) rfl sc5 rfl (ZCm _ _ O) (Xl rfl rfl (dn ?_)))))
   refine Zs rfl (λaa=>?_) (λaa=>?_)
   ·replace h:=ift h (ct aa);refine sr (Zd (v:=.bool false) rfl (dn ?_))
    refine ZCi (Z9 (Z9 (Zn (Zn (Z9 (Zn ?_))))))
    exact Zj rfl (Zg rfl) ⟨false,rfl,h,L.below⟩ (.inl rfl)
   ·replace h:=Zk h (cf aa);refine ZCd (Zr (Zr (Ze (Zh (Za (v:=vI (A:Int)) rfl (Zm rfl rfl (Zd (v:=vI (Zwt.wrap ((A:Int)+1))) rfl (done ?_))))))))
    exact U () _ _ ⟨(sl ⟨rfl,rfl,(tr rfl (I1 _ (Z2 O (by decide)))),trivial⟩),L⟩ h
  ·replace h:=Zk h (cf V);refine sr (Za (v:=vI (A:Int)) rfl (X0 A ZCr sc5.size rfl rfl (ZCq _) (by omega) (by omega) (Yc L 0 (.int .u8 (a1.get A)) rfl sc5 rfl (ZCm _ _ O) (Jn rfl rfl (Za (v:=.bool (decide (a1.get A > 20))) rfl ?_)))))
   refine Xm (decide (a1.get A > 20)) (λB=>?_) (λB=>?_)
   ·replace h:=ift h (ct B);refine Zp (b:=true) 4 24 rfl (tr rfl (I1 _ B)) (by decide) (Zp (b:=true) 4 24 rfl (tr rfl (I1 _ B)) (by decide) (Zp (b:=true) 4 24 rfl (tr rfl (I1 _ B)) (by decide) (Zp (b:=true) 4 24 rfl (tr rfl (I1 _ B)) (by decide) (Zp (b:=true) 4 24 rfl (tr rfl (I1 _ B)) (by decide) (Zp (b:=true) 4 24 rfl (tr rfl (I1 _ B)) (by decide) (Zp (b:=true) 4 24 rfl (tr rfl (I1 _ B)) (by decide) (Wj 11 31 rfl rfl (Wj 11 31 rfl rfl (Wj 11 31 rfl rfl (Wj 11 31 rfl rfl (Zp (b:=true) 4 24 rfl (tr rfl (I1 _ B)) (by decide) (Ya (v:=.bool true) (b:=true) (tr rfl (I1 _ B)) rfl (Zd (v:=.bool true) rfl (dn (Z8 rfl rfl (sr (Zd (v:=.bool false) rfl (dn ?_))))))))))))))))))
    refine ZCi (Z9 (Z9 (Zn (Zn (Z9 (Zn ?_))))))
    exact Zj rfl (Zg rfl) ⟨false,rfl,h,L.below⟩ (.inl rfl)
   ·replace h:=Zk h (cf B);refine Zq 4 24 rfl rfl B (Za (v:=Ia) rfl (Zq 4 24 rfl rfl B (Za (v:=vI (A:Int)) rfl (Zq 4 24 rfl rfl B ?_))))
    obtain ⟨⟨ah,ai⟩,h⟩:=h;obtain ⟨ak,an,ad⟩:=Zx (L.Iw 0 rfl) A (show A < a0.length by omega)
    refine Yn (len:=a0.length) ZCs sc2.size (tr rfl ad) rfl ah ai (Zq 4 24 rfl rfl B (Ye (vI (a0.getD A Ci)) (Yi (L.Iw 0 rfl) ad A (show A < a0.length by omega)) sc2 rfl (Zq 4 24 rfl rfl B (Jf rfl rfl (by decide) (Zq 4 24 rfl rfl B (Xl rfl rfl (Zq 4 24 rfl rfl B (Za (v:=.bool (decide (Fa (a0.getD A Ci) 2≠0))) rfl ?_))))))))
    refine Xm (decide (Fa (a0.getD A Ci) 2≠0)) (λI=>?_) (λI=>?_)
    ·replace h:=ift h (ct I);refine Zq 11 31 rfl rfl I (Za (v:=vI (A:Int)) rfl (Zq 11 31 rfl rfl I (X0 A ZCr sc5.size rfl rfl (ZCq _) (by omega) (by omega) (Zq 11 31 rfl rfl I (Yc L 0 (.int .u8 (a1.get A)) rfl sc5 rfl (ZCm _ _ O) (Zq 11 31 rfl rfl I (Jn rfl rfl (Zq 4 24 rfl rfl B (Ya (v:=.bool (decide (a1.get A > 1))) (b:=true) (tr rfl (I1 _ I)) rfl (Ya (v:=.bool (decide (a1.get A > 1))) (b:=false) (tr rfl (I1 _ B)) rfl (Zd (v:=.bool (decide (a1.get A > 1))) rfl (dn ?_))))))))))))
     refine Zs rfl (λab=>?_) (λab=>?_)
     ·replace h:=ift h (ct ab);refine sr (Zd (v:=.bool false) rfl (dn ?_))
      refine ZCi (Z9 (Z9 (Zn (Zn (Z9 (Zn ?_))))))
      exact Zj rfl (Zg rfl) ⟨false,rfl,h,L.below⟩ (.inl rfl)
     ·replace h:=Zk h (cf ab);refine ZCd (Zr (Zr (Ze (Zh (Za (v:=vI (A:Int)) rfl (Zm rfl rfl (Zd (v:=vI (Zwt.wrap ((A:Int)+1))) rfl (done ?_))))))))
      exact U () _ _ ⟨(sl ⟨rfl,rfl,(tr rfl (I1 _ (Z2 O (by decide)))),trivial⟩),L⟩ h
    ·replace h:=Zk h (cf I);refine Zp (b:=false) 11 31 rfl (tr rfl (I1 _ I)) (by decide) (Zp (b:=false) 11 31 rfl (tr rfl (I1 _ I)) (by decide) (Zp (b:=false) 11 31 rfl (tr rfl (I1 _ I)) (by decide) (Zp (b:=false) 11 31 rfl (tr rfl (I1 _ I)) (by decide) (Zq 4 24 rfl rfl B (Ya (v:=.bool false) (b:=false) (tr rfl (I1 _ I)) rfl (Ya (v:=.bool false) (b:=false) (tr rfl (I1 _ B)) rfl (Zd (v:=.bool false) rfl (dn (Z4 rfl rfl (ZCd (Zr (Zr (Ze (Zh (Za (v:=vI (A:Int)) rfl (Zm rfl rfl (Zd (v:=vI (Zwt.wrap ((A:Int)+1))) rfl (done ?_))))))))))))))))))
     exact U () _ _ ⟨(sl ⟨rfl,rfl,(tr rfl (I1 _ (Z2 O (by decide)))),trivial⟩),L⟩ h
 ·clear L h;rintro ae e_ ao ag ⟨ac,L⟩ h;rw [ue ac];refine ZB9 (sr (Za (v:=vI 8) rfl (Zl rfl rfl (dn (Z4 rfl (decide_eq_false (by omega)) ?_)))))
  refine ZCo (Zi (Zi (Zy ?_)))
  refine Ze (sr (Zd (v:=.bool true) rfl (dn (ZCi ?_))))
  exact Zj rfl (Zg rfl) ⟨true,rfl,h,L.below⟩ (.inl rfl)
 ·skip;exact⟨(slq rfl),L⟩
def Jk (h:Int) (K:Int->Prop):Prop :=
 K (Fa (Zwt.wrap ((Fa h 10007)+10007)) 10007)
theorem Ud (A:Int)  {K:Int->Prop} (h:Jk A K) (w0:World)  :
  Calls ZCc 125 #[vI A] w0 λe w'=>∃ (B:Int),
   e=.returned (vI B)/\K B/\Bel w0 w':=by
 unfold Jk at h
 refine cof ZCz rfl 7 Tryz.ntmps125 ?_
 have I:=ZCu (X:=Nox) w0 [] (by simp)
 refine sr (Zd (v:=vI 0) rfl (dn (sr (Za (v:=vI A) rfl (Jf rfl rfl (by decide) (Zm rfl rfl (Jf rfl rfl (by decide) (Zd (v:=vI (Fa (Zwt.wrap ((Fa A 10007)+10007)) 10007)) rfl (dn (ZCi ?_))))))))))
 exact Zj rfl (Zg rfl) ⟨Fa (Zwt.wrap ((Fa A 10007)+10007)) 10007,rfl,h,I.below⟩ (.inl rfl)
def Wh (I:A8) (h:Int) (K:ZCb->Prop):Prop :=
 Jk h (λA=>(if A=0 then K (⟨[]⟩:ZCb) else Jk h (λB=>K (⟨[(⟨I,B⟩:Term)]⟩:ZCb))))
theorem T2 (B:A8) (U:Int)  {K:ZCb->Prop} (h:Wh B U K) (w0:World)  :
  Calls ZCc 95 #[.agg (ZB7 (ZB6 .u8 B)),vI U] w0 λe w'=>∃ (r0:ZCb) (Ih:Value) (aa:List Nat),
   e=.returned (.agg #[Ih])/\K r0/\(ZCn (Y0 162) r0 [Ih] aa).holds w'/\(∀ b,b∈aa->w0.heap.size<=b)/\Bel w0 w':=by
 unfold Wh at h
 refine cof ZC2 rfl 15 Tryz.ntmps95 ?_
 have A:=ZCu (X:=Nox) w0 [] (by simp)
 refine sr (Yg (v:=.agg (ZB7 (ZB6 .u8 B))) A (ZB6 .u8 B) rfl rfl λb1 w3 L A=>Yt A [.slice none 0 0] z55 rfl λb4 w6 L A=>dn (ZB9 (sr (Za (v:=vI U) rfl (Zf [vI U] _ ZCz rfl rfl rfl (Ud U h _) ?_)))))
 rintro _ w9 ⟨ag,rfl,h,ab⟩;refine rt ?_
 replace A:=A.Iy ab;refine X6 rfl rfl (dn ?_)
 refine Zs rfl (λV=>?_) (λV=>?_)
 ·replace h:=ift h (ct V);refine sr (Wk [] rfl (Mh   _) (Z7 (v:=.agg #[.slice none 0 0]) A 0 [.slice none 0 0] [.slice none 0 0] rfl ag55.size rfl rfl rfl rfl rfl (ZCh rfl) rfl λah A=>dn ?_))
  refine ZCi (Zn ?_)
  exact Zj rfl (Wq A 0 rfl ag55 rfl rfl) ⟨(⟨[]⟩:ZCb),.slice none 0 0,[],rfl,h,(Tb (Mg _ _ _)),(λb hb=>absurd hb (by simp)),A.below⟩ (.inl rfl)
 ·replace h:=Zk h (cf V);refine ZCd (Ze (ZB9 ?_))
  refine cwd 3 Ym [0,0,2,7,15,31,63] [0] [1] (λac ad ai L=>?_)
  replace A:=A.Iy L;refine bL 0 (.agg (ZB7 (ZB6 .u8 B))) rfl rfl ac (λ_ L=>by exact Y6 (A.Iy L) 1 (ZB6 .u8 B) rfl ag136 rfl rfl rfl) (Zc 7 1) (bM 1 (vI U) rfl ad (Zc 7 3) (aO 2 rfl (Zf [vI U] _ ZCz rfl rfl rfl (Ud U h _) ?_)))
  rintro _ aj ⟨O,rfl,h,ae⟩;refine rt ?_
  replace A:=A.Iy ae;refine done (aK (by assumption) (Zc 7 7) (Z5 3 (by decide) (by decide) (by kernel_rfl) (by kernel_rfl) rfl (Wk [(0,.agg (ZB7 (ZB6 .u8 B))),(1,vI O)] rfl (Kc B O  _) (Yd (sz:=9) A [(0,.agg (ZB7 (ZCk (⟨B,O⟩:Term))))] (ZCa.encs [(⟨B,O⟩:Term)]) rfl (λ_=>Mi (⟨B,O⟩:Term) _) rfl (by decide) λI ak L A=>Wk [(0,.slice (some ⟨I,0,none⟩) 1 1)] rfl (Zl6 (.slice (some ⟨I,0,none⟩) 1 1) (Va (A.Ix 0 rfl)) _) (Z7 (v:=.agg #[.slice (some ⟨I,0,none⟩) 1 1]) A 1 [.slice (some ⟨I,0,none⟩) 1 1] [.slice (some ⟨I,0,none⟩) 1 1] rfl ag55.size rfl rfl rfl rfl (Xy (Jc (A.Ix 0 rfl)) rfl) (ZCh rfl) rfl λal A=>done (Z6 (Ze (ZCi ?_))))))))
  exact Zj rfl (Wq A 1 rfl ag55 rfl rfl) ⟨(⟨[(⟨B,O⟩:Term)]⟩:ZCb),.slice (some ⟨I,0,none⟩) 1 1,(ZDa (Fe (.slice (some ⟨I,0,none⟩) 1 1))),rfl,h,(Tb (Xi (A.Ix 0 rfl))),(Xg A 0 rfl),A.below⟩ (.inl rfl)
def Qu (I:A8) (L:A8) (K:Bool->Prop):Prop :=
 Z1 (λh (B:Unit) A=>(if I.get h≠L.get h then K (decide (I.get h > L.get h)) else A ())) (λ(B:Unit)=>K false) 8 0 ()
theorem Za4 (a0:A8) (a1:A8)  {K:Bool->Prop} (h:Qu a0 a1 K) (w0:World)  :
  Calls ZCc 174 #[.agg (ZB7 (ZB6 .u8 a0)),.agg (ZB7 (ZB6 .u8 a1))] w0 λe w'=>∃ (r0:Bool),
   e=.returned (.bool r0)/\K r0/\Bel w0 w':=by
 unfold Qu at h
 refine cof ZDd rfl 24 Tryz.ntmps174 ?_
 have I:=ZCu (X:=Nox) w0 [] (by simp)
 refine sr (Yg (v:=.agg (ZB7 (ZB6 .u8 a0))) I (ZB6 .u8 a0) rfl rfl λb1 w3 B I=>Yg (v:=.agg (ZB7 (ZB6 .u8 a1))) I (ZB6 .u8 a1) rfl rfl λb4 w6 B I=>Zd (v:=.bool false) rfl (dn (ZB9 (sr (Zd (v:=vI 0) rfl (dn (ZCf ?_)))))))
 refine Yh (S:=Unit) _ _ (λA ad e_ w_=>Zt e_ [(2,vQ b1),(3,vQ b4),(5,vI (A:Int))]/\Ctx Nox w0 w_ [blk b4 136 (ZB6 .u8 a1),blk b1 136 (ZB6 .u8 a0)] []) 8 ?_ ?_ (s0:=()) ?_ h
 ·clear I h;rintro A ad e_ ai ah ag L ⟨aa,I⟩ h ae;rw [ue aa];refine ZB9 (sr (Za (v:=vI (A:Int)) rfl (Zl rfl rfl (dn (Z8 rfl (decide_eq_true (by omega)) (ZCd (Ze (ZB9 (ZCf (ZB9 ?_))))))))))
  refine cwd 6 Ym [0,1,3,0,8,24,63] [1,2,4,5] [0,3] (λO ab aj B=>?_)
  replace I:=I.Iy B;refine bM 0 (vI (A:Int)) rfl ab (Zc 7 1) (bL 1 (.pointer (some ⟨b1,A,none⟩)) rfl rfl O (λ_ B=>by exact Wv A ZCr sc5.size rfl rfl (ZCq _) (by omega) (by omega)) (Zc 7 3) (bL 2 (.int .u8 (a0.get A)) rfl rfl O (λ_ B=>by exact Yj (I.Iy B) 1 (.int .u8 (a0.get A)) rfl sc5 rfl (ZCm _ _ L)) (Zc 7 7) (bM 3 (vI (A:Int)) rfl ab (Zc 7 15) (bL 4 (.pointer (some ⟨b4,A,none⟩)) rfl rfl O (λ_ B=>by exact Wv A ZCr sc5.size rfl rfl (ZCq _) (by omega) (by omega)) (Zc 7 31) (bL 5 (.int .u8 (a1.get A)) rfl rfl O (λ_ B=>by exact Yj (I.Iy B) 0 (.int .u8 (a1.get A)) rfl sc5 rfl (ZCm _ _ L)) (Zc 7 63) (Z5 6 (by decide) (by decide) (by kernel_rfl) (by kernel_rfl) rfl (Xl rfl rfl (done (Z6 (Ze ?_))))))))))
  refine Zs rfl (λV=>?_) (λV=>?_)
  ·replace h:=ift h (ct V);refine ZB9 ?_
   refine cwd 6 Ym [0,1,3,0,8,24,63,127] [1,2,4,5] [0,3] (λU ac ak B=>?_)
   replace I:=I.Iy B;refine bM 0 (vI (A:Int)) rfl ac (Zc 8 1) (bL 1 (.pointer (some ⟨b1,A,none⟩)) rfl rfl U (λ_ B=>by exact Wv A ZCr sc5.size rfl rfl (ZCq _) (by omega) (by omega)) (Zc 8 3) (bL 2 (.int .u8 (a0.get A)) rfl rfl U (λ_ B=>by exact Yj (I.Iy B) 1 (.int .u8 (a0.get A)) rfl sc5 rfl (ZCm _ _ L)) (Zc 8 7) (bM 3 (vI (A:Int)) rfl ac (Zc 8 15) (bL 4 (.pointer (some ⟨b4,A,none⟩)) rfl rfl U (λ_ B=>by exact Wv A ZCr sc5.size rfl rfl (ZCq _) (by omega) (by omega)) (Zc 8 31) (bL 5 (.int .u8 (a1.get A)) rfl rfl U (λ_ B=>by exact Yj (I.Iy B) 0 (.int .u8 (a1.get A)) rfl sc5 rfl (ZCm _ _ L)) (Zc 8 63) (Z5 6 (by decide) (by decide) (by kernel_rfl) (by kernel_rfl) rfl (Jn rfl rfl (Zd (v:=.bool (decide (a0.get A > a1.get A))) rfl (done (Z6 (Ze ?_)))))))))))
   refine ZCi (Z9 (Zn (Zn (Z9 (Zn ?_)))))
   exact Zj rfl (Zg rfl) ⟨decide (a0.get A > a1.get A),rfl,h,I.below⟩ (.inl rfl)
  ·replace h:=Zk h (cf V);refine ZCd (Zr (Ze (Zh (Za (v:=vI (A:Int)) rfl (Zm rfl rfl (Zd (v:=vI (Zwt.wrap ((A:Int)+1))) rfl (done ?_)))))))
   exact ae () _ _ ⟨(sl ⟨rfl,rfl,(tr rfl (I1 _ (Z2 L (by decide)))),trivial⟩),I⟩ h
 ·clear I h;rintro ad e_ al ag ⟨aa,I⟩ h;rw [ue aa];refine ZB9 (sr (Za (v:=vI 8) rfl (Zl rfl rfl (dn (Z4 rfl (decide_eq_false (by omega)) ?_)))))
  refine ZCo (Zi (Zi (Zy ?_)))
  refine Ze (sr (Zd (v:=.bool false) rfl (dn (ZCi ?_))))
  exact Zj rfl (Zg rfl) ⟨false,rfl,h,I.below⟩ (.inl rfl)
 ·skip;exact⟨(slq rfl),I⟩
def V3 (a0:ZCb) (a1:ZCb) (V:Int) (K:ZCb->Prop):Prop :=
 Xv (λ(h:(List Term)×Int×Int) A=>joinP (λ(I:Bool->Prop)=>(if h.2.1 < (a0.terms.length:Int) then I true else I (decide (h.2.2 < (a1.terms.length:Int))))) (λ(aa:Bool)=>(if aa=true then joinP (λ(B:Bool->Prop)=>(if h.2.2=(a1.terms.length:Int) then B true else(if h.2.1 < (a0.terms.length:Int) then((0<=h.2.1/\h.2.1 < (a0.terms.length:Int))/\((0<=h.2.2/\h.2.2 < (a1.terms.length:Int))/\Qu ((a0.terms.getD h.2.1.toNat Ci).mono) ((a1.terms.getD h.2.2.toNat Ci).mono) (λab=>B ab))) else B false))) (λ(ac:Bool)=>(if ac=true then((0<=h.2.1/\h.2.1 < (a0.terms.length:Int))/\(Zw (h.1.length+1) 16/\A (h.1++[a0.terms.getD h.2.1.toNat Ci],Zwt.wrap (h.2.1+1),h.2.2))) else joinP (λ(L:Bool->Prop)=>(if h.2.1=(a0.terms.length:Int) then L true else((0<=h.2.2/\h.2.2 < (a1.terms.length:Int))/\((0<=h.2.1/\h.2.1 < (a0.terms.length:Int))/\Qu ((a1.terms.getD h.2.2.toNat Ci).mono) ((a0.terms.getD h.2.1.toNat Ci).mono) (λad=>L ad))))) (λ(ae:Bool)=>(if ae=true then((0<=h.2.2/\h.2.2 < (a1.terms.length:Int))/\Jk (Zwt.wrap (V * ((a1.terms.getD h.2.2.toNat Ci).factor))) (λO=>(if O≠0 then((0<=h.2.2/\h.2.2 < (a1.terms.length:Int))/\(Zw (h.1.length+1) 16/\A (h.1++[(⟨(a1.terms.getD h.2.2.toNat Ci).mono,O⟩:Term)],h.2.1,Zwt.wrap (h.2.2+1)))) else A (h.1,h.2.1,Zwt.wrap (h.2.2+1))))) else((0<=h.2.1/\h.2.1 < (a0.terms.length:Int))/\((0<=h.2.2/\h.2.2 < (a1.terms.length:Int))/\Jk (Zwt.wrap (V * ((a1.terms.getD h.2.2.toNat Ci).factor))) (λag=>Jk (Zwt.wrap (((a0.terms.getD h.2.1.toNat Ci).factor)+ag)) (λU=>(if U≠0 then((0<=h.2.1/\h.2.1 < (a0.terms.length:Int))/\(Zw (h.1.length+1) 16/\A (h.1++[(⟨(a0.terms.getD h.2.1.toNat Ci).mono,U⟩:Term)],Zwt.wrap (h.2.1+1),Zwt.wrap (h.2.2+1)))) else A (h.1,Zwt.wrap (h.2.1+1),Zwt.wrap (h.2.2+1))))))))))) else K (⟨h.1⟩:ZCb)))) ([],0,0)
theorem Za5 (a0:ZCb) (a1:ZCb) (a2:Int)  {K:ZCb->Prop} (h:V3 a0 a1 a2 K) (w0:World) (q0:ZCv.rep a0 [Ia] Ib w0) (q1:ZCv.rep a1 [Ie] Ig w0) :
  Calls ZCc 124 #[.agg #[Ia],.agg #[Ie],vI a2] w0 λe w'=>∃ (r0:ZCb) (Ih:Value) (b8:List Nat),
   e=.returned (.agg #[Ih])/\K r0/\(ZCn (Y0 162) r0 [Ih] b8).holds w'/\(∀ b,b∈b8->w0.heap.size<=b)/\Bel w0 w':=by
 unfold V3 at h
 refine cof ZDe rfl 149 Tryz.ntmps124 ?_
 have B:=ZCu (X:=Nox) w0 [ZB8 TForm a0 [Ia] Ib,ZB8 TForm a1 [Ie] Ig] (alc q0 (al1 q1));have cu:=(B.Iw 0 rfl);replace B:=B.I0 0 rfl (ZB8 ZCa.ty.sl a0.terms [Ia] Ib) (λ_=>(Xq cu)) (λ_ ba=>ba)
 have cv:=(B.Iw 2 rfl);replace B:=B.I0 2 rfl (ZB8 ZCa.ty.sl a1.terms [Ie] Ig) (λ_=>(Xq cv)) (λ_ ba=>ba)
 refine sr (Yg (v:=.agg #[Ia]) B [Ia] rfl rfl λb7 w9 I B=>Yg (v:=.agg #[Ie]) B [Ie] rfl rfl λag dr I B=>Yt B [.slice none 0 0] z55 rfl λan dt I B=>dn (sr (Wk [] rfl (Mh   _) (Yt B [.slice none 0 0] z55 rfl λaj du I B=>Z7 (v:=.agg #[.slice none 0 0]) B 0 [.slice none 0 0] [.slice none 0 0] rfl ag55.size rfl rfl rfl rfl rfl (ZCh rfl) rfl λdv B=>dn (sr (Zd (v:=vI 0) rfl (Zd (v:=vI 0) rfl (dn (ZB9 (ZCf ?_))))))))))
 refine Jb (S:=(List Term)×Int×Int) _ (λA e_ V=>∃ (ac:Value),Zt e_ [(2,vI a2),(3,vQ b7),(4,vQ ag),(6,vQ an),(7,vQ aj),(8,vI A.2.1),(9,vI A.2.2)]/\Ctx Nox w0 V [own 162 9 ac A.1.length (ZCa.encs A.1),blk aj 55 [ac],blk an 55 [.slice none 0 0],blk ag 55 [Ie],blk b7 55 [Ia]] [ZB8 ZCa.ty.sl a1.terms [Ie] Ig,ZB8 ZCa.ty.sl a0.terms [Ia] Ib,ZB8 TForm a0 [Ia] Ib,ZB8 TForm a1 [Ie] Ig]) ?_ (s0:=([],0,0)) ?_ h
 ·clear B h;rintro A e_ dw dp dx ⟨ac,ao,B⟩ h ap;rw [ue ao];refine ZB9 (ZB9 ?_)
  obtain ⟨ca,cb,h⟩:=Zaa h;refine Zai (λe_ V=>∃ (bb:Bool),Zt e_ [(2,vI a2),(3,vQ b7),(4,vQ ag),(6,vQ an),(7,vQ aj),(8,vI A.2.1),(9,vI A.2.2),(24,.bool bb)]/\Ctx Nox w0 V [own 162 9 ac A.1.length (ZCa.encs A.1),blk aj 55 [ac],blk an 55 [.slice none 0 0],blk ag 55 [Ie],blk b7 55 [Ia]] [ZB8 ZCa.ty.sl a1.terms [Ie] Ig,ZB8 ZCa.ty.sl a0.terms [Ia] Ib,ZB8 TForm a0 [Ia] Ib,ZB8 TForm a1 [Ie] Ig]/\ca bb) ?_ ?_
  ·skip;refine Zh (Za (v:=vI A.2.1) rfl (Z0 0 ZCg rfl Ii.size rfl rfl (Yc B 4 (Ia) rfl Ii rfl rfl (Zu B 1 rfl ZCj rfl (Zl rfl rfl (Za (v:=.bool (decide (A.2.1 < (a0.terms.length:Int)))) rfl ?_))))))
   refine Xm (decide (A.2.1 < (a0.terms.length:Int))) (λad=>?_) (λad=>?_)
   ·replace h:=ift h (ct ad);refine Zp (b:=true) 5 18 rfl (tr rfl (I1 _ ad)) (by decide) (Zp (b:=true) 5 18 rfl (tr rfl (I1 _ ad)) (by decide) (Zp (b:=true) 5 18 rfl (tr rfl (I1 _ ad)) (by decide) (Zp (b:=true) 5 18 rfl (tr rfl (I1 _ ad)) (by decide) (Zp (b:=true) 5 18 rfl (tr rfl (I1 _ ad)) (by decide) (Ya (v:=.bool true) (b:=true) (tr rfl (I1 _ ad)) rfl (done ?_))))))
    exact⟨rfl,_,rfl,true,(slq rfl),B,h⟩
   ·replace h:=Zk h (cf ad);refine Zq 5 18 rfl rfl ad (Za (v:=vI A.2.2) rfl (Zq 5 18 rfl rfl ad (Z0 0 ZCg rfl Ii.size rfl rfl (Zq 5 18 rfl rfl ad (Yc B 3 (Ie) rfl Ii rfl rfl (Zq 5 18 rfl rfl ad (Zu B 0 rfl ZCj rfl (Zq 5 18 rfl rfl ad (Zl rfl rfl (Ya (v:=.bool (decide (A.2.2 < (a1.terms.length:Int)))) (b:=false) (tr rfl (I1 _ ad)) rfl (done ?_)))))))))))
    exact⟨rfl,_,rfl,decide (A.2.2 < (a1.terms.length:Int)),(slq rfl),B,h⟩
  ·clear B h;rintro e_ dy ⟨bb,ao,B,h⟩;replace h:=cb _ h;rw [ue ao];refine Ze ?_
   refine Zs rfl (λax=>?_) (λax=>?_)
   ·replace h:=ift h (ax);refine ZCd (Ze (ZCf (ZCf (ZB9 ?_))))
    obtain ⟨cc,ce,h⟩:=Zaa h;refine Zai (λe_ V=>∃ (bc:Bool),Zt e_ [(2,vI a2),(3,vQ b7),(4,vQ ag),(6,vQ an),(7,vQ aj),(8,vI A.2.1),(9,vI A.2.2),(61,.bool bc)]/\Ctx Nox w0 V [own 162 9 ac A.1.length (ZCa.encs A.1),blk aj 55 [ac],blk an 55 [.slice none 0 0],blk ag 55 [Ie],blk b7 55 [Ia]] [ZB8 ZCa.ty.sl a1.terms [Ie] Ig,ZB8 ZCa.ty.sl a0.terms [Ia] Ib,ZB8 TForm a0 [Ia] Ib,ZB8 TForm a1 [Ie] Ig]/\cc bc) ?_ ?_
    ·skip;refine cwd 24 Ym [0,0,2,6,15,31,63,63,191,447,1023,2047,4095,8191,4095,32767,65535,131071,4095,266239,4095,1839103,3936255,8130559,16777215,33554431,67108863,134217727] [2,3,8,9,13,15,17,19,21,23] [0,1,4,5,6,7,8,9,10,11,12,13,14,15,16,17,18,19,20,21,22,23] (λae L dz I=>?_)
     replace B:=B.Iy I;refine bM 0 (vI A.2.2) rfl L (Zc 28 1) (bF 1 (vQ ag) rfl rfl L (λ_=>by exact Yq 0 ZCg rfl Ii.size rfl rfl) (Zc 28 3) (bL 2 (Ie) rfl rfl ae (λ_ I=>by exact Yj (B.Iy I) 3 (Ie) rfl Ii rfl rfl) (Zc 28 7) (bL 3 (vI (a1.terms.length:Int)) rfl rfl ae (λ_ I=>by exact Ep (B.Iy I) 0 rfl ZCj rfl) (Zc 28 15) (bF 4 (.bool (decide (A.2.2=(a1.terms.length:Int)))) rfl rfl L (λ_=>by exact Zei rfl rfl) (Zc 28 31) (bM 5 (.bool (decide (A.2.2=(a1.terms.length:Int)))) rfl L (Zc 28 63) ?_)))))
     refine Xm (decide (A.2.2=(a1.terms.length:Int))) (λab=>?_) (λab=>?_)
     ·replace h:=ift h (ct ab);refine Zv Z3 6 undef rfl rfl (by kernel_rfl) (L 6 rfl) (λV=>.inr ⟨Yk (b:=true) 5 67 rfl (tr rfl (I1 _ ab)) (by decide),rfl⟩) (l9:=(Zc 28 127)) (by kernel_rfl) (Zv Z3 7 undef rfl rfl (by kernel_rfl) (L 7 rfl) (λV=>.inr ⟨Yk (b:=true) 5 67 rfl (tr rfl (I1 _ ab)) (by decide),rfl⟩) (l9:=(Zc 28 255)) (by kernel_rfl) (Zv Z3 8 undef rfl rfl (by kernel_rfl) (L 8 rfl) (λV=>.inr ⟨Yk (b:=true) 5 67 rfl (tr rfl (I1 _ ab)) (by decide),rfl⟩) (l9:=(Zc 28 511)) (by kernel_rfl) (Zv Z3 9 undef rfl rfl (by kernel_rfl) (L 9 rfl) (λV=>.inr ⟨Yk (b:=true) 5 67 rfl (tr rfl (I1 _ ab)) (by decide),rfl⟩) (l9:=(Zc 28 1023)) (by kernel_rfl) (Zv Z3 10 undef rfl rfl (by kernel_rfl) (L 10 rfl) (λV=>.inr ⟨Yk (b:=true) 5 67 rfl (tr rfl (I1 _ ab)) (by decide),rfl⟩) (l9:=(Zc 28 2047)) (by kernel_rfl) (Zv Z3 11 undef rfl rfl (by kernel_rfl) (L 11 rfl) (λV=>.inr ⟨Yk (b:=true) 5 67 rfl (tr rfl (I1 _ ab)) (by decide),rfl⟩) (l9:=(Zc 28 4095)) (by kernel_rfl) (Zv Z3 12 undef rfl rfl (by kernel_rfl) (L 12 rfl) (λV=>.inr ⟨X8 11 73 rfl rfl,rfl⟩) (l9:=(Zc 28 8191)) (by kernel_rfl) (Zv Z3 13 undef rfl rfl (by kernel_rfl) (L 13 rfl) (λV=>.inr ⟨X8 11 73 rfl rfl,rfl⟩) (l9:=(Zc 28 16383)) (by kernel_rfl) (Zv Z3 14 undef rfl rfl (by kernel_rfl) (L 14 rfl) (λV=>.inr ⟨X8 11 73 rfl rfl,rfl⟩) (l9:=(Zc 28 32767)) (by kernel_rfl) (Zv Z3 15 undef rfl rfl (by kernel_rfl) (L 15 rfl) (λV=>.inr ⟨X8 11 73 rfl rfl,rfl⟩) (l9:=(Zc 28 65535)) (by kernel_rfl) (Zv Z3 16 undef rfl rfl (by kernel_rfl) (L 16 rfl) (λV=>.inr ⟨X8 11 73 rfl rfl,rfl⟩) (l9:=(Zc 28 131071)) (by kernel_rfl) (Zv Z3 17 undef rfl rfl (by kernel_rfl) (L 17 rfl) (λV=>.inr ⟨X8 11 73 rfl rfl,rfl⟩) (l9:=(Zc 28 262143)) (by kernel_rfl) (Zv Z3 18 undef rfl rfl (by kernel_rfl) (L 18 rfl) (λV=>.inr ⟨X8 11 73 rfl rfl,rfl⟩) (l9:=(Zc 28 524287)) (by kernel_rfl) (Zv Z3 19 undef rfl rfl (by kernel_rfl) (L 19 rfl) (λV=>.inr ⟨X8 11 73 rfl rfl,rfl⟩) (l9:=(Zc 28 1048575)) (by kernel_rfl) (Zv Z3 20 undef rfl rfl (by kernel_rfl) (L 20 rfl) (λV=>.inr ⟨X8 11 73 rfl rfl,rfl⟩) (l9:=(Zc 28 2097151)) (by kernel_rfl) (Zv Z3 21 undef rfl rfl (by kernel_rfl) (L 21 rfl) (λV=>.inr ⟨X8 11 73 rfl rfl,rfl⟩) (l9:=(Zc 28 4194303)) (by kernel_rfl) (Zv Z3 22 undef rfl rfl (by kernel_rfl) (L 22 rfl) (λV=>.inr ⟨X8 11 73 rfl rfl,rfl⟩) (l9:=(Zc 28 8388607)) (by kernel_rfl) (Zv Z3 23 undef rfl rfl (by kernel_rfl) (L 23 rfl) (λV=>.inr ⟨X8 11 73 rfl rfl,rfl⟩) (l9:=(Zc 28 16777215)) (by kernel_rfl) (Z5 24 (by decide) (by decide) (by kernel_rfl) (by kernel_rfl) rfl (Wj 11 73 rfl rfl (Zp (b:=true) 5 67 rfl (tr rfl (I1 _ ab)) (by decide) (Ya (v:=.bool true) (b:=true) (tr rfl (I1 _ ab)) rfl (Zd (v:=.bool true) rfl (done (Z6 ?_))))))))))))))))))))))))
      exact⟨rfl,_,rfl,true,(slq rfl),B,h⟩
     ·replace h:=Zk h (cf ab);refine aF 6 (vI A.2.1) rfl rfl (L 6 rfl) (Yo 5 67 rfl rfl ab) (λ_=>by exact Vb (v:=vI A.2.1) rfl) (Zc 28 127) (aF 7 (vQ b7) rfl rfl (L 7 rfl) (Yo 5 67 rfl rfl ab) (λ_=>by exact Yq 0 ZCg rfl Ii.size rfl rfl) (Zc 28 255) (aL 8 (Ia) rfl rfl (ae 8 rfl) (Yo 5 67 rfl rfl ab) (λ_ I=>by exact Yj (B.Iy I) 4 (Ia) rfl Ii rfl rfl) (Zc 28 511) (aL 9 (vI (a0.terms.length:Int)) rfl rfl (ae 9 rfl) (Yo 5 67 rfl rfl ab) (λ_ I=>by exact Ep (B.Iy I) 1 rfl ZCj rfl) (Zc 28 1023) (aF 10 (.bool (decide (A.2.1 < (a0.terms.length:Int)))) rfl rfl (L 10 rfl) (Yo 5 67 rfl rfl ab) (λ_=>by exact Zej rfl rfl) (Zc 28 2047) (aF 11 (.bool (decide (A.2.1 < (a0.terms.length:Int)))) rfl rfl (L 11 rfl) (Yo 5 67 rfl rfl ab) (λ_=>by exact Vb (v:=.bool (decide (A.2.1 < (a0.terms.length:Int)))) rfl) (Zc 28 4095) ?_)))))
      refine Xm (decide (A.2.1 < (a0.terms.length:Int))) (λO=>?_) (λO=>?_)
      ·replace h:=ift h (ct O);refine aF 12 (vQ b7) rfl rfl (L 12 rfl) (Yo 11 73 rfl rfl O) (λ_=>by exact Yq 0 ZCg rfl Ii.size rfl rfl) (Zc 28 8191) (aL 13 (Ia) rfl rfl (ae 13 rfl) (Yo 11 73 rfl rfl O) (λ_ I=>by exact Yj (B.Iy I) 4 (Ia) rfl Ii rfl rfl) (Zc 28 16383) (aF 14 (vI A.2.1) rfl rfl (L 14 rfl) (Yo 11 73 rfl rfl O) (λ_=>by exact Vb (v:=vI A.2.1) rfl) (Zc 28 32767) ?_))
       obtain ⟨⟨cw,cx⟩,h⟩:=h;obtain ⟨bd,d0,be⟩:=Zx (B.Iw 1 rfl) A.2.1.toNat (show A.2.1.toNat < a0.terms.length by omega)
       refine aL 15 (.pointer (some (bd.add (A.2.1.toNat * 9)))) rfl rfl (ae 15 rfl) (Yo 11 73 rfl rfl O) (λ_ I=>by exact Y3 (len:=a0.terms.length) ZCj ag162.size (by exact tr rfl be) rfl cw cx) (Zc 28 65535) (aF 16 (.pointer (some (bd.add (A.2.1.toNat * 9+0)))) rfl rfl (L 16 rfl) (Yo 11 73 rfl rfl O) (λ_=>by exact Vo (A.2.1.toNat * 9+0) ZCp rfl ag136.size rfl rfl) (Zc 28 131071) (aL 17 (.agg (ZB7 (ZB6 .u8 ((a0.terms.getD A.2.1.toNat Ci).mono)))) rfl rfl (ae 17 rfl) (Yo 11 73 rfl rfl O) (λ_ I=>by exact Jq (ZB6 .u8 ((a0.terms.getD A.2.1.toNat Ci).mono)) (Wg (o:=0) (k:=8) (Yi ((B.Iy I).Iw 1 rfl) be A.2.1.toNat (show A.2.1.toNat < a0.terms.length by omega)) rfl) ag136 rfl rfl) (Zc 28 262143) (aF 18 (vQ ag) rfl rfl (L 18 rfl) (Yo 11 73 rfl rfl O) (λ_=>by exact Yq 0 ZCg rfl Ii.size rfl rfl) (Zc 28 524287) (aL 19 (Ie) rfl rfl (ae 19 rfl) (Yo 11 73 rfl rfl O) (λ_ I=>by exact Yj (B.Iy I) 3 (Ie) rfl Ii rfl rfl) (Zc 28 1048575) (aF 20 (vI A.2.2) rfl rfl (L 20 rfl) (Yo 11 73 rfl rfl O) (λ_=>by exact Vb (v:=vI A.2.2) rfl) (Zc 28 2097151) ?_)))))
       obtain ⟨⟨cy,cz⟩,h⟩:=h;obtain ⟨bh,d1,bi⟩:=Zx (B.Iw 0 rfl) A.2.2.toNat (show A.2.2.toNat < a1.terms.length by omega)
       refine aL 21 (.pointer (some (bh.add (A.2.2.toNat * 9)))) rfl rfl (ae 21 rfl) (Yo 11 73 rfl rfl O) (λ_ I=>by exact Y3 (len:=a1.terms.length) ZCj ag162.size (by exact tr rfl bi) rfl cy cz) (Zc 28 4194303) (aF 22 (.pointer (some (bh.add (A.2.2.toNat * 9+0)))) rfl rfl (L 22 rfl) (Yo 11 73 rfl rfl O) (λ_=>by exact Vo (A.2.2.toNat * 9+0) ZCp rfl ag136.size rfl rfl) (Zc 28 8388607) (aL 23 (.agg (ZB7 (ZB6 .u8 ((a1.terms.getD A.2.2.toNat Ci).mono)))) rfl rfl (ae 23 rfl) (Yo 11 73 rfl rfl O) (λ_ I=>by exact Jq (ZB6 .u8 ((a1.terms.getD A.2.2.toNat Ci).mono)) (Wg (o:=0) (k:=8) (Yi ((B.Iy I).Iw 0 rfl) bi A.2.2.toNat (show A.2.2.toNat < a1.terms.length by omega)) rfl) ag136 rfl rfl) (Zc 28 16777215) (Z5 24 (by decide) (by decide) (by kernel_rfl) (by kernel_rfl) rfl (Zq 11 73 rfl rfl O (Zf [.agg (ZB7 (ZB6 .u8 ((a0.terms.getD A.2.1.toNat Ci).mono))),.agg (ZB7 (ZB6 .u8 ((a1.terms.getD A.2.2.toNat Ci).mono)))] _ ZDd rfl rfl rfl (Za4 ((a0.terms.getD A.2.1.toNat Ci).mono) ((a1.terms.getD A.2.2.toNat Ci).mono) h _) ?_)))))
       rintro _ d2 ⟨a6,rfl,h,cg⟩;refine rt ?_
       replace B:=B.Iy cg;refine Zq 5 67 rfl rfl ab (Ya (v:=.bool a6) (b:=true) (tr rfl (I1 _ O)) rfl (Ya (v:=.bool a6) (b:=false) (tr rfl (I1 _ ab)) rfl (Zd (v:=.bool a6) rfl (done (Z6 ?_)))))
       exact⟨rfl,_,rfl,a6,(slq rfl),B,h⟩
      ·replace h:=Zk h (cf O);refine Zv Z3 12 undef rfl rfl (by kernel_rfl) (L 12 rfl) (λV=>.inr ⟨Yk (b:=false) 11 73 rfl (tr rfl (I1 _ O)) (by decide),rfl⟩) (l9:=(Zc 28 8191)) (by kernel_rfl) (Zv Z3 13 undef rfl rfl (by kernel_rfl) (L 13 rfl) (λV=>.inr ⟨Yk (b:=false) 11 73 rfl (tr rfl (I1 _ O)) (by decide),rfl⟩) (l9:=(Zc 28 16383)) (by kernel_rfl) (Zv Z3 14 undef rfl rfl (by kernel_rfl) (L 14 rfl) (λV=>.inr ⟨Yk (b:=false) 11 73 rfl (tr rfl (I1 _ O)) (by decide),rfl⟩) (l9:=(Zc 28 32767)) (by kernel_rfl) (Zv Z3 15 undef rfl rfl (by kernel_rfl) (L 15 rfl) (λV=>.inr ⟨Yk (b:=false) 11 73 rfl (tr rfl (I1 _ O)) (by decide),rfl⟩) (l9:=(Zc 28 65535)) (by kernel_rfl) (Zv Z3 16 undef rfl rfl (by kernel_rfl) (L 16 rfl) (λV=>.inr ⟨Yk (b:=false) 11 73 rfl (tr rfl (I1 _ O)) (by decide),rfl⟩) (l9:=(Zc 28 131071)) (by kernel_rfl) (Zv Z3 17 undef rfl rfl (by kernel_rfl) (L 17 rfl) (λV=>.inr ⟨Yk (b:=false) 11 73 rfl (tr rfl (I1 _ O)) (by decide),rfl⟩) (l9:=(Zc 28 262143)) (by kernel_rfl) (Zv Z3 18 undef rfl rfl (by kernel_rfl) (L 18 rfl) (λV=>.inr ⟨Yk (b:=false) 11 73 rfl (tr rfl (I1 _ O)) (by decide),rfl⟩) (l9:=(Zc 28 524287)) (by kernel_rfl) (Zv Z3 19 undef rfl rfl (by kernel_rfl) (L 19 rfl) (λV=>.inr ⟨Yk (b:=false) 11 73 rfl (tr rfl (I1 _ O)) (by decide),rfl⟩) (l9:=(Zc 28 1048575)) (by kernel_rfl) (Zv Z3 20 undef rfl rfl (by kernel_rfl) (L 20 rfl) (λV=>.inr ⟨Yk (b:=false) 11 73 rfl (tr rfl (I1 _ O)) (by decide),rfl⟩) (l9:=(Zc 28 2097151)) (by kernel_rfl) (Zv Z3 21 undef rfl rfl (by kernel_rfl) (L 21 rfl) (λV=>.inr ⟨Yk (b:=false) 11 73 rfl (tr rfl (I1 _ O)) (by decide),rfl⟩) (l9:=(Zc 28 4194303)) (by kernel_rfl) (Zv Z3 22 undef rfl rfl (by kernel_rfl) (L 22 rfl) (λV=>.inr ⟨Yk (b:=false) 11 73 rfl (tr rfl (I1 _ O)) (by decide),rfl⟩) (l9:=(Zc 28 8388607)) (by kernel_rfl) (Zv Z3 23 undef rfl rfl (by kernel_rfl) (L 23 rfl) (λV=>.inr ⟨Yk (b:=false) 11 73 rfl (tr rfl (I1 _ O)) (by decide),rfl⟩) (l9:=(Zc 28 16777215)) (by kernel_rfl) (Z5 24 (by decide) (by decide) (by kernel_rfl) (by kernel_rfl) rfl (Zp (b:=false) 11 73 rfl (tr rfl (I1 _ O)) (by decide) (Zq 5 67 rfl rfl ab (Ya (v:=.bool false) (b:=false) (tr rfl (I1 _ O)) rfl (Ya (v:=.bool false) (b:=false) (tr rfl (I1 _ ab)) rfl (Zd (v:=.bool false) rfl (done (Z6 ?_)))))))))))))))))))
       exact⟨rfl,_,rfl,false,(slq rfl),B,h⟩
    ·clear B h;rintro e_ d3 ⟨bc,ao,B,h⟩;replace h:=ce _ h;rw [ue ao];refine Ze ?_
     refine Zs rfl (λay=>?_) (λay=>?_)
     ·replace h:=ift h (ay);refine ZB9 ?_
      refine cwd 8 Ym [0,1,0,4,0,28,60,124,255,511,1023] [1,3,5,6] [0,2,4] (λaw az d4 I=>?_)
      replace B:=B.Iy I;refine bF 0 (vQ aj) rfl rfl az (λ_=>by exact Yq 0 ZCg rfl Ii.size rfl rfl) (Zc 11 1) (bL 1 (ac) rfl rfl aw (λ_ I=>by exact Yj (B.Iy I) 1 (ac) rfl Ii rfl rfl) (Zc 11 3) (bF 2 (vQ b7) rfl rfl az (λ_=>by exact Yq 0 ZCg rfl Ii.size rfl rfl) (Zc 11 7) (bL 3 (Ia) rfl rfl aw (λ_ I=>by exact Yj (B.Iy I) 4 (Ia) rfl Ii rfl rfl) (Zc 11 15) (bM 4 (vI A.2.1) rfl az (Zc 11 31) ?_))))
      obtain ⟨⟨c0,c6⟩,h⟩:=h;obtain ⟨ch,d5,bj⟩:=Zx (B.Iw 1 rfl) A.2.1.toNat (show A.2.1.toNat < a0.terms.length by omega)
      refine bL 5 (.pointer (some (ch.add (A.2.1.toNat * 9)))) rfl rfl aw (λ_ I=>by exact Y3 (len:=a0.terms.length) ZCj ag162.size (by exact tr rfl bj) rfl c0 c6) (Zc 11 63) (bL 6 (.agg (ZB7 (ZCk (a0.terms.getD A.2.1.toNat Ci)))) rfl rfl aw (λ_ I=>by exact Jq (ZCk (a0.terms.getD A.2.1.toNat Ci)) (Yi ((B.Iy I).Iw 1 rfl) bj A.2.1.toNat (show A.2.1.toNat < a0.terms.length by omega)) ag162 rfl rfl) (Zc 11 127) (aO 7 rfl (Yd (sz:=9) B [(0,.agg (ZB7 (ZCk (a0.terms.getD A.2.1.toNat Ci))))] (ZCa.encs [a0.terms.getD A.2.1.toNat Ci]) rfl (λ_=>Mi (a0.terms.getD A.2.1.toNat Ci) _) rfl (by decide) λd6 d7 I B=>done (aK (by assumption) (Zc 11 255) (Z5 8 (by decide) (by decide) (by kernel_rfl) (by kernel_rfl) rfl ?_)))))
      obtain ⟨ci,h⟩:=h;refine Jg B 1 ZCj Mj rfl (by decide) (by decide) rfl (Wl (B.Ix 0 rfl)) (λq hq=>ZDf (E:=ETerm) _ q hq) rfl rfl ci λa7 d8 B=>?_
      replace B:=Y7 B 1 ((A.1++[a0.terms.getD A.2.1.toNat Ci]).length) (ZCa.encs (A.1++[a0.terms.getD A.2.1.toNat Ci])) rfl (by simp) (by first | (simp [ZC1]; done) | simp [ZC1,Enc.encs])
      refine Z0 0 ZCg rfl Ii.size rfl rfl (Z7 (v:=a7) B 2 [a7] [a7] rfl Ii.size rfl rfl (Uw (B.Ix 1 rfl)) rfl (Xy (Jc (B.Ix 1 rfl)) rfl) (ZCh rfl) rfl λd9 B=>done (Z6 (Ze (Zh (Za (v:=vI A.2.1) rfl (Zm rfl rfl (Zd (v:=vI (Zwt.wrap (A.2.1+1))) rfl (done (Zr (Zr ?_))))))))))
      exact ap (A.1++[a0.terms.getD A.2.1.toNat Ci],Zwt.wrap (A.2.1+1),A.2.2) _ _ ⟨a7,(slq rfl),(B.xM [1,2,3,4,5] rfl)⟩ h
     ·replace h:=Zk h (Xe ay);refine ZB9 ?_
      obtain ⟨cj,ck,h⟩:=Zaa h;refine Zai (λe_ V=>∃ (bk:Bool),Zt e_ [(2,vI a2),(3,vQ b7),(4,vQ ag),(6,vQ an),(7,vQ aj),(8,vI A.2.1),(9,vI A.2.2),(101,.bool bk)]/\Ctx Nox w0 V [own 162 9 ac A.1.length (ZCa.encs A.1),blk aj 55 [ac],blk an 55 [.slice none 0 0],blk ag 55 [Ie],blk b7 55 [Ia]] [ZB8 ZCa.ty.sl a1.terms [Ie] Ig,ZB8 ZCa.ty.sl a0.terms [Ia] Ib,ZB8 TForm a0 [Ia] Ib,ZB8 TForm a1 [Ie] Ig]/\cj bk) ?_ ?_
      ·skip;refine cwd 18 Ym [0,0,2,6,15,31,63,127,63,511,1023,2047,63,4159,63,28735,61503,127039,262143,524287,1048575] [2,3,7,9,11,13,15,17] [0,1,4,5,6,7,8,9,10,11,12,13,14,15,16,17] (λak aa ea I=>?_)
       replace B:=B.Iy I;refine bM 0 (vI A.2.1) rfl aa (Zc 21 1) (bF 1 (vQ b7) rfl rfl aa (λ_=>by exact Yq 0 ZCg rfl Ii.size rfl rfl) (Zc 21 3) (bL 2 (Ia) rfl rfl ak (λ_ I=>by exact Yj (B.Iy I) 4 (Ia) rfl Ii rfl rfl) (Zc 21 7) (bL 3 (vI (a0.terms.length:Int)) rfl rfl ak (λ_ I=>by exact Ep (B.Iy I) 1 rfl ZCj rfl) (Zc 21 15) (bF 4 (.bool (decide (A.2.1=(a0.terms.length:Int)))) rfl rfl aa (λ_=>by exact Zei rfl rfl) (Zc 21 31) (bM 5 (.bool (decide (A.2.1=(a0.terms.length:Int)))) rfl aa (Zc 21 63) ?_)))))
       refine Xm (decide (A.2.1=(a0.terms.length:Int))) (λU=>?_) (λU=>?_)
       ·replace h:=ift h (ct U);refine Zv Z3 6 undef rfl rfl (by kernel_rfl) (aa 6 rfl) (λV=>.inr ⟨Yk (b:=true) 5 107 rfl (tr rfl (I1 _ U)) (by decide),rfl⟩) (l9:=(Zc 21 127)) (by kernel_rfl) (Zv Z3 7 undef rfl rfl (by kernel_rfl) (aa 7 rfl) (λV=>.inr ⟨Yk (b:=true) 5 107 rfl (tr rfl (I1 _ U)) (by decide),rfl⟩) (l9:=(Zc 21 255)) (by kernel_rfl) (Zv Z3 8 undef rfl rfl (by kernel_rfl) (aa 8 rfl) (λV=>.inr ⟨Yk (b:=true) 5 107 rfl (tr rfl (I1 _ U)) (by decide),rfl⟩) (l9:=(Zc 21 511)) (by kernel_rfl) (Zv Z3 9 undef rfl rfl (by kernel_rfl) (aa 9 rfl) (λV=>.inr ⟨Yk (b:=true) 5 107 rfl (tr rfl (I1 _ U)) (by decide),rfl⟩) (l9:=(Zc 21 1023)) (by kernel_rfl) (Zv Z3 10 undef rfl rfl (by kernel_rfl) (aa 10 rfl) (λV=>.inr ⟨Yk (b:=true) 5 107 rfl (tr rfl (I1 _ U)) (by decide),rfl⟩) (l9:=(Zc 21 2047)) (by kernel_rfl) (Zv Z3 11 undef rfl rfl (by kernel_rfl) (aa 11 rfl) (λV=>.inr ⟨Yk (b:=true) 5 107 rfl (tr rfl (I1 _ U)) (by decide),rfl⟩) (l9:=(Zc 21 4095)) (by kernel_rfl) (Zv Z3 12 undef rfl rfl (by kernel_rfl) (aa 12 rfl) (λV=>.inr ⟨Yk (b:=true) 5 107 rfl (tr rfl (I1 _ U)) (by decide),rfl⟩) (l9:=(Zc 21 8191)) (by kernel_rfl) (Zv Z3 13 undef rfl rfl (by kernel_rfl) (aa 13 rfl) (λV=>.inr ⟨Yk (b:=true) 5 107 rfl (tr rfl (I1 _ U)) (by decide),rfl⟩) (l9:=(Zc 21 16383)) (by kernel_rfl) (Zv Z3 14 undef rfl rfl (by kernel_rfl) (aa 14 rfl) (λV=>.inr ⟨Yk (b:=true) 5 107 rfl (tr rfl (I1 _ U)) (by decide),rfl⟩) (l9:=(Zc 21 32767)) (by kernel_rfl) (Zv Z3 15 undef rfl rfl (by kernel_rfl) (aa 15 rfl) (λV=>.inr ⟨Yk (b:=true) 5 107 rfl (tr rfl (I1 _ U)) (by decide),rfl⟩) (l9:=(Zc 21 65535)) (by kernel_rfl) (Zv Z3 16 undef rfl rfl (by kernel_rfl) (aa 16 rfl) (λV=>.inr ⟨Yk (b:=true) 5 107 rfl (tr rfl (I1 _ U)) (by decide),rfl⟩) (l9:=(Zc 21 131071)) (by kernel_rfl) (Zv Z3 17 undef rfl rfl (by kernel_rfl) (aa 17 rfl) (λV=>.inr ⟨Yk (b:=true) 5 107 rfl (tr rfl (I1 _ U)) (by decide),rfl⟩) (l9:=(Zc 21 262143)) (by kernel_rfl) (Z5 18 (by decide) (by decide) (by kernel_rfl) (by kernel_rfl) rfl (Zp (b:=true) 5 107 rfl (tr rfl (I1 _ U)) (by decide) (Ya (v:=.bool true) (b:=true) (tr rfl (I1 _ U)) rfl (Zd (v:=.bool true) rfl (done (Z6 ?_)))))))))))))))))
        exact⟨rfl,_,rfl,true,(slq rfl),B,h⟩
       ·replace h:=Zk h (cf U);refine aF 6 (vQ ag) rfl rfl (aa 6 rfl) (Yo 5 107 rfl rfl U) (λ_=>by exact Yq 0 ZCg rfl Ii.size rfl rfl) (Zc 21 127) (aL 7 (Ie) rfl rfl (ak 7 rfl) (Yo 5 107 rfl rfl U) (λ_ I=>by exact Yj (B.Iy I) 3 (Ie) rfl Ii rfl rfl) (Zc 21 255) (aF 8 (vI A.2.2) rfl rfl (aa 8 rfl) (Yo 5 107 rfl rfl U) (λ_=>by exact Vb (v:=vI A.2.2) rfl) (Zc 21 511) ?_))
        obtain ⟨⟨c7,c8⟩,h⟩:=h;obtain ⟨bl,eb,bm⟩:=Zx (B.Iw 0 rfl) A.2.2.toNat (show A.2.2.toNat < a1.terms.length by omega)
        refine aL 9 (.pointer (some (bl.add (A.2.2.toNat * 9)))) rfl rfl (ak 9 rfl) (Yo 5 107 rfl rfl U) (λ_ I=>by exact Y3 (len:=a1.terms.length) ZCj ag162.size (by exact tr rfl bm) rfl c7 c8) (Zc 21 1023) (aF 10 (.pointer (some (bl.add (A.2.2.toNat * 9+0)))) rfl rfl (aa 10 rfl) (Yo 5 107 rfl rfl U) (λ_=>by exact Vo (A.2.2.toNat * 9+0) ZCp rfl ag136.size rfl rfl) (Zc 21 2047) (aL 11 (.agg (ZB7 (ZB6 .u8 ((a1.terms.getD A.2.2.toNat Ci).mono)))) rfl rfl (ak 11 rfl) (Yo 5 107 rfl rfl U) (λ_ I=>by exact Jq (ZB6 .u8 ((a1.terms.getD A.2.2.toNat Ci).mono)) (Wg (o:=0) (k:=8) (Yi ((B.Iy I).Iw 0 rfl) bm A.2.2.toNat (show A.2.2.toNat < a1.terms.length by omega)) rfl) ag136 rfl rfl) (Zc 21 4095) (aF 12 (vQ b7) rfl rfl (aa 12 rfl) (Yo 5 107 rfl rfl U) (λ_=>by exact Yq 0 ZCg rfl Ii.size rfl rfl) (Zc 21 8191) (aL 13 (Ia) rfl rfl (ak 13 rfl) (Yo 5 107 rfl rfl U) (λ_ I=>by exact Yj (B.Iy I) 4 (Ia) rfl Ii rfl rfl) (Zc 21 16383) (aF 14 (vI A.2.1) rfl rfl (aa 14 rfl) (Yo 5 107 rfl rfl U) (λ_=>by exact Vb (v:=vI A.2.1) rfl) (Zc 21 32767) ?_)))))
        obtain ⟨⟨c9,da⟩,h⟩:=h;obtain ⟨bn,ec,bo⟩:=Zx (B.Iw 1 rfl) A.2.1.toNat (show A.2.1.toNat < a0.terms.length by omega)
        refine aL 15 (.pointer (some (bn.add (A.2.1.toNat * 9)))) rfl rfl (ak 15 rfl) (Yo 5 107 rfl rfl U) (λ_ I=>by exact Y3 (len:=a0.terms.length) ZCj ag162.size (by exact tr rfl bo) rfl c9 da) (Zc 21 65535) (aF 16 (.pointer (some (bn.add (A.2.1.toNat * 9+0)))) rfl rfl (aa 16 rfl) (Yo 5 107 rfl rfl U) (λ_=>by exact Vo (A.2.1.toNat * 9+0) ZCp rfl ag136.size rfl rfl) (Zc 21 131071) (aL 17 (.agg (ZB7 (ZB6 .u8 ((a0.terms.getD A.2.1.toNat Ci).mono)))) rfl rfl (ak 17 rfl) (Yo 5 107 rfl rfl U) (λ_ I=>by exact Jq (ZB6 .u8 ((a0.terms.getD A.2.1.toNat Ci).mono)) (Wg (o:=0) (k:=8) (Yi ((B.Iy I).Iw 1 rfl) bo A.2.1.toNat (show A.2.1.toNat < a0.terms.length by omega)) rfl) ag136 rfl rfl) (Zc 21 262143) (Z5 18 (by decide) (by decide) (by kernel_rfl) (by kernel_rfl) rfl (Zq 5 107 rfl rfl U (Zf [.agg (ZB7 (ZB6 .u8 ((a1.terms.getD A.2.2.toNat Ci).mono))),.agg (ZB7 (ZB6 .u8 ((a0.terms.getD A.2.1.toNat Ci).mono)))] _ ZDd rfl rfl rfl (Za4 ((a1.terms.getD A.2.2.toNat Ci).mono) ((a0.terms.getD A.2.1.toNat Ci).mono) h _) ?_)))))
        rintro _ ed ⟨bp,rfl,h,cl⟩;refine rt ?_
        replace B:=B.Iy cl;refine Ya (v:=.bool bp) (b:=false) (tr rfl (I1 _ U)) rfl (Zd (v:=.bool bp) rfl (done (Z6 ?_)))
        exact⟨rfl,_,rfl,bp,(slq rfl),B,h⟩
      ·clear B h;rintro e_ ee ⟨bk,ao,B,h⟩;replace h:=ck _ h;rw [ue ao];refine Ze ?_
       refine Zs rfl (λa3=>?_) (λa3=>?_)
       ·replace h:=ift h (a3);refine ZB9 (sr (Za (v:=vI a2) rfl (Z0 0 ZCg rfl Ii.size rfl rfl (Yc B 3 (Ie) rfl Ii rfl rfl (Za (v:=vI A.2.2) rfl ?_)))))
        obtain ⟨⟨db,dc⟩,h⟩:=h;obtain ⟨dq,ef,bq⟩:=Zx (B.Iw 0 rfl) A.2.2.toNat (show A.2.2.toNat < a1.terms.length by omega)
        refine Yn (len:=a1.terms.length) ZCj ag162.size (tr rfl bq) rfl db dc (Qm (A.2.2.toNat * 9+8) ZCp rfl sc2.size rfl rfl (Ye (vI ((a1.terms.getD A.2.2.toNat Ci).factor)) (Wg (o:=8) (k:=1) (Yi (B.Iw 0 rfl) bq A.2.2.toNat (show A.2.2.toNat < a1.terms.length by omega)) rfl) sc2 rfl (Wz rfl rfl (Zf [vI (Zwt.wrap (a2 * ((a1.terms.getD A.2.2.toNat Ci).factor)))] _ ZCz rfl rfl rfl (Ud (Zwt.wrap (a2 * ((a1.terms.getD A.2.2.toNat Ci).factor))) h _) ?_))))
        rintro _ eg ⟨ah,rfl,h,cm⟩;refine rt ?_
        replace B:=B.Iy cm;refine Zd (v:=vI ah) rfl (dn (sr (Za (v:=vI ah) rfl (Xl rfl rfl (dn ?_)))))
        refine Zs rfl (λa4=>?_) (λa4=>?_)
        ·replace h:=ift h (ct a4);refine cwd 11 Ym [0,1,0,4,0,28,60,124,0,508,1020,2047,4095,8191] [1,3,5,7,9] [0,2,4,6,8] (λaq ar eh I=>?_)
         replace B:=B.Iy I;refine bF 0 (vQ aj) rfl rfl ar (λ_=>by exact Yq 0 ZCg rfl Ii.size rfl rfl) (Zc 14 1) (bL 1 (ac) rfl rfl aq (λ_ I=>by exact Yj (B.Iy I) 1 (ac) rfl Ii rfl rfl) (Zc 14 3) (bF 2 (vQ ag) rfl rfl ar (λ_=>by exact Yq 0 ZCg rfl Ii.size rfl rfl) (Zc 14 7) (bL 3 (Ie) rfl rfl aq (λ_ I=>by exact Yj (B.Iy I) 3 (Ie) rfl Ii rfl rfl) (Zc 14 15) (bM 4 (vI A.2.2) rfl ar (Zc 14 31) ?_))))
         obtain ⟨⟨dd,de⟩,h⟩:=h;obtain ⟨br,ei,bs⟩:=Zx (B.Iw 0 rfl) A.2.2.toNat (show A.2.2.toNat < a1.terms.length by omega)
         refine bL 5 (.pointer (some (br.add (A.2.2.toNat * 9)))) rfl rfl aq (λ_ I=>by exact Y3 (len:=a1.terms.length) ZCj ag162.size (by exact tr rfl bs) rfl dd de) (Zc 14 63) (bF 6 (.pointer (some (br.add (A.2.2.toNat * 9+0)))) rfl rfl ar (λ_=>by exact Vo (A.2.2.toNat * 9+0) ZCp rfl ag136.size rfl rfl) (Zc 14 127) (bL 7 (.agg (ZB7 (ZB6 .u8 ((a1.terms.getD A.2.2.toNat Ci).mono)))) rfl rfl aq (λ_ I=>by exact Jq (ZB6 .u8 ((a1.terms.getD A.2.2.toNat Ci).mono)) (Wg (o:=0) (k:=8) (Yi ((B.Iy I).Iw 0 rfl) bs A.2.2.toNat (show A.2.2.toNat < a1.terms.length by omega)) rfl) ag136 rfl rfl) (Zc 14 255) (bM 8 (vI ah) rfl ar (Zc 14 511) (bL 9 (.agg (ZB7 (ZCk (⟨(a1.terms.getD A.2.2.toNat Ci).mono,ah⟩:Term)))) rfl rfl aq (λ_ I=>by exact G6 [(0,.agg (ZB7 (ZB6 .u8 ((a1.terms.getD A.2.2.toNat Ci).mono)))),(1,vI ah)] rfl (Kc ((a1.terms.getD A.2.2.toNat Ci).mono) ah  _)) (Zc 14 1023) (aO 10 rfl (Yd (sz:=9) B [(0,.agg (ZB7 (ZCk (⟨(a1.terms.getD A.2.2.toNat Ci).mono,ah⟩:Term))))] (ZCa.encs [(⟨(a1.terms.getD A.2.2.toNat Ci).mono,ah⟩:Term)]) rfl (λ_=>Mi (⟨(a1.terms.getD A.2.2.toNat Ci).mono,ah⟩:Term) _) rfl (by decide) λej ek I B=>done (aK (by assumption) (Zc 14 2047) (Z5 11 (by decide) (by decide) (by kernel_rfl) (by kernel_rfl) rfl ?_))))))))
         obtain ⟨cn,h⟩:=h;refine Jg B 1 ZCj Mj rfl (by decide) (by decide) rfl (Wl (B.Ix 0 rfl)) (λq hq=>ZDf (E:=ETerm) _ q hq) rfl rfl cn λa8 en B=>?_
         replace B:=Y7 B 1 ((A.1++[(⟨(a1.terms.getD A.2.2.toNat Ci).mono,ah⟩:Term)]).length) (ZCa.encs (A.1++[(⟨(a1.terms.getD A.2.2.toNat Ci).mono,ah⟩:Term)])) rfl (by simp) (by first | (simp [ZC1]; done) | simp [ZC1,Enc.encs])
         refine Z0 0 ZCg rfl Ii.size rfl rfl (Z7 (v:=a8) B 2 [a8] [a8] rfl Ii.size rfl rfl (Uw (B.Ix 1 rfl)) rfl (Xy (Jc (B.Ix 1 rfl)) rfl) (ZCh rfl) rfl λeo B=>done (Z6 (Ze (Zh (Za (v:=vI A.2.2) rfl (Zm rfl rfl (Zd (v:=vI (Zwt.wrap (A.2.2+1))) rfl (done (Zr (Zr ?_))))))))))
         exact ap (A.1++[(⟨(a1.terms.getD A.2.2.toNat Ci).mono,ah⟩:Term)],A.2.1,Zwt.wrap (A.2.2+1)) _ _ ⟨a8,(slq rfl),(B.xM [1,2,3,4,5] rfl)⟩ h
        ·replace h:=Zk h (cf a4);refine ZCd (Ze (Zh (Za (v:=vI A.2.2) rfl (Zm rfl rfl (Zd (v:=vI (Zwt.wrap (A.2.2+1))) rfl (done (Zr (Zr ?_))))))))
         exact ap (A.1,A.2.1,Zwt.wrap (A.2.2+1)) _ _ ⟨ac,(slq rfl),B⟩ h
       ·replace h:=Zk h (Xe a3);refine ZB9 (ZB9 ?_)
        refine cwd 15 Ym [0,1,0,7,15,31,0,0,128,0,896,1920,3968,8128,16320,32767,65535,131071] [1,3,5,8,10,12] [0,2,4,6,7,9,11,13] (λam al ep I=>?_)
        replace B:=B.Iy I;refine bF 0 (vQ b7) rfl rfl al (λ_=>by exact Yq 0 ZCg rfl Ii.size rfl rfl) (Zc 18 1) (bL 1 (Ia) rfl rfl am (λ_ I=>by exact Yj (B.Iy I) 4 (Ia) rfl Ii rfl rfl) (Zc 18 3) (bM 2 (vI A.2.1) rfl al (Zc 18 7) ?_))
        obtain ⟨⟨dg,dh⟩,h⟩:=h;obtain ⟨bt,er,bu⟩:=Zx (B.Iw 1 rfl) A.2.1.toNat (show A.2.1.toNat < a0.terms.length by omega)
        refine bL 3 (.pointer (some (bt.add (A.2.1.toNat * 9)))) rfl rfl am (λ_ I=>by exact Y3 (len:=a0.terms.length) ZCj ag162.size (by exact tr rfl bu) rfl dg dh) (Zc 18 15) (bF 4 (.pointer (some (bt.add (A.2.1.toNat * 9+8)))) rfl rfl al (λ_=>by exact Vo (A.2.1.toNat * 9+8) ZCp rfl sc2.size rfl rfl) (Zc 18 31) (bL 5 (vI ((a0.terms.getD A.2.1.toNat Ci).factor)) rfl rfl am (λ_ I=>by exact Xp (vI ((a0.terms.getD A.2.1.toNat Ci).factor)) (Wg (o:=8) (k:=1) (Yi ((B.Iy I).Iw 1 rfl) bu A.2.1.toNat (show A.2.1.toNat < a0.terms.length by omega)) rfl) sc2 rfl) (Zc 18 63) (bM 6 (vI a2) rfl al (Zc 18 127) (bF 7 (vQ ag) rfl rfl al (λ_=>by exact Yq 0 ZCg rfl Ii.size rfl rfl) (Zc 18 255) (bL 8 (Ie) rfl rfl am (λ_ I=>by exact Yj (B.Iy I) 3 (Ie) rfl Ii rfl rfl) (Zc 18 511) (bM 9 (vI A.2.2) rfl al (Zc 18 1023) ?_))))))
        obtain ⟨⟨di,dj⟩,h⟩:=h;obtain ⟨bv,es,bw⟩:=Zx (B.Iw 0 rfl) A.2.2.toNat (show A.2.2.toNat < a1.terms.length by omega)
        refine bL 10 (.pointer (some (bv.add (A.2.2.toNat * 9)))) rfl rfl am (λ_ I=>by exact Y3 (len:=a1.terms.length) ZCj ag162.size (by exact tr rfl bw) rfl di dj) (Zc 18 2047) (bF 11 (.pointer (some (bv.add (A.2.2.toNat * 9+8)))) rfl rfl al (λ_=>by exact Vo (A.2.2.toNat * 9+8) ZCp rfl sc2.size rfl rfl) (Zc 18 4095) (bL 12 (vI ((a1.terms.getD A.2.2.toNat Ci).factor)) rfl rfl am (λ_ I=>by exact Xp (vI ((a1.terms.getD A.2.2.toNat Ci).factor)) (Wg (o:=8) (k:=1) (Yi ((B.Iy I).Iw 0 rfl) bw A.2.2.toNat (show A.2.2.toNat < a1.terms.length by omega)) rfl) sc2 rfl) (Zc 18 8191) (bF 13 (vI (Zwt.wrap (a2 * ((a1.terms.getD A.2.2.toNat Ci).factor)))) rfl rfl al (λ_=>by exact Tv rfl rfl) (Zc 18 16383) (aO 14 rfl (Zf [vI (Zwt.wrap (a2 * ((a1.terms.getD A.2.2.toNat Ci).factor)))] _ ZCz rfl rfl rfl (Ud (Zwt.wrap (a2 * ((a1.terms.getD A.2.2.toNat Ci).factor))) h _) ?_)))))
        rintro _ et ⟨b9,rfl,h,cp⟩;refine rt ?_
        replace B:=B.Iy cp;refine done (aK (by assumption) (Zc 18 32767) (Z5 15 (by decide) (by decide) (by kernel_rfl) (by kernel_rfl) rfl (Zm rfl rfl (Zf [vI (Zwt.wrap (((a0.terms.getD A.2.1.toNat Ci).factor)+b9))] _ ZCz rfl rfl rfl (Ud (Zwt.wrap (((a0.terms.getD A.2.1.toNat Ci).factor)+b9)) h _) ?_))))
        rintro _ eu ⟨ai,rfl,h,cq⟩;refine rt ?_
        replace B:=B.Iy cq;refine Zd (v:=vI ai) rfl (done (Z6 (Ze (sr (Za (v:=vI ai) rfl (Xl rfl rfl (dn ?_)))))))
        refine Zs rfl (λa5=>?_) (λa5=>?_)
        ·replace h:=ift h (ct a5);refine cwd 11 Ym [0,1,0,4,0,28,60,124,0,508,1020,2047,4095,8191] [1,3,5,7,9] [0,2,4,6,8] (λau av ew I=>?_)
         replace B:=B.Iy I;refine bF 0 (vQ aj) rfl rfl av (λ_=>by exact Yq 0 ZCg rfl Ii.size rfl rfl) (Zc 14 1) (bL 1 (ac) rfl rfl au (λ_ I=>by exact Yj (B.Iy I) 1 (ac) rfl Ii rfl rfl) (Zc 14 3) (bF 2 (vQ b7) rfl rfl av (λ_=>by exact Yq 0 ZCg rfl Ii.size rfl rfl) (Zc 14 7) (bL 3 (Ia) rfl rfl au (λ_ I=>by exact Yj (B.Iy I) 4 (Ia) rfl Ii rfl rfl) (Zc 14 15) (bM 4 (vI A.2.1) rfl av (Zc 14 31) ?_))))
         obtain ⟨⟨dk,dm⟩,h⟩:=h;obtain ⟨bx,ex,bz⟩:=Zx (B.Iw 1 rfl) A.2.1.toNat (show A.2.1.toNat < a0.terms.length by omega)
         refine bL 5 (.pointer (some (bx.add (A.2.1.toNat * 9)))) rfl rfl au (λ_ I=>by exact Y3 (len:=a0.terms.length) ZCj ag162.size (by exact tr rfl bz) rfl dk dm) (Zc 14 63) (bF 6 (.pointer (some (bx.add (A.2.1.toNat * 9+0)))) rfl rfl av (λ_=>by exact Vo (A.2.1.toNat * 9+0) ZCp rfl ag136.size rfl rfl) (Zc 14 127) (bL 7 (.agg (ZB7 (ZB6 .u8 ((a0.terms.getD A.2.1.toNat Ci).mono)))) rfl rfl au (λ_ I=>by exact Jq (ZB6 .u8 ((a0.terms.getD A.2.1.toNat Ci).mono)) (Wg (o:=0) (k:=8) (Yi ((B.Iy I).Iw 1 rfl) bz A.2.1.toNat (show A.2.1.toNat < a0.terms.length by omega)) rfl) ag136 rfl rfl) (Zc 14 255) (bM 8 (vI ai) rfl av (Zc 14 511) (bL 9 (.agg (ZB7 (ZCk (⟨(a0.terms.getD A.2.1.toNat Ci).mono,ai⟩:Term)))) rfl rfl au (λ_ I=>by exact G6 [(0,.agg (ZB7 (ZB6 .u8 ((a0.terms.getD A.2.1.toNat Ci).mono)))),(1,vI ai)] rfl (Kc ((a0.terms.getD A.2.1.toNat Ci).mono) ai  _)) (Zc 14 1023) (aO 10 rfl (Yd (sz:=9) B [(0,.agg (ZB7 (ZCk (⟨(a0.terms.getD A.2.1.toNat Ci).mono,ai⟩:Term))))] (ZCa.encs [(⟨(a0.terms.getD A.2.1.toNat Ci).mono,ai⟩:Term)]) rfl (λ_=>Mi (⟨(a0.terms.getD A.2.1.toNat Ci).mono,ai⟩:Term) _) rfl (by decide) λey ez I B=>done (aK (by assumption) (Zc 14 2047) (Z5 11 (by decide) (by decide) (by kernel_rfl) (by kernel_rfl) rfl ?_))))))))
         obtain ⟨cr,h⟩:=h;refine Jg B 1 ZCj Mj rfl (by decide) (by decide) rfl (Wl (B.Ix 0 rfl)) (λq hq=>ZDf (E:=ETerm) _ q hq) rfl rfl cr λa9 e1 B=>?_
         replace B:=Y7 B 1 ((A.1++[(⟨(a0.terms.getD A.2.1.toNat Ci).mono,ai⟩:Term)]).length) (ZCa.encs (A.1++[(⟨(a0.terms.getD A.2.1.toNat Ci).mono,ai⟩:Term)])) rfl (by simp) (by first | (simp [ZC1]; done) | simp [ZC1,Enc.encs])
         refine Z0 0 ZCg rfl Ii.size rfl rfl (Z7 (v:=a9) B 2 [a9] [a9] rfl Ii.size rfl rfl (Uw (B.Ix 1 rfl)) rfl (Xy (Jc (B.Ix 1 rfl)) rfl) (ZCh rfl) rfl λe2 B=>done (Z6 (Ze (sr (Za (v:=vI A.2.1) rfl (Zm rfl rfl (Zd (v:=vI (Zwt.wrap (A.2.1+1))) rfl (dn (Zh (Za (v:=vI A.2.2) rfl (Zm rfl rfl (Zd (v:=vI (Zwt.wrap (A.2.2+1))) rfl (done (Zr (Zr ?_)))))))))))))))
         exact ap (A.1++[(⟨(a0.terms.getD A.2.1.toNat Ci).mono,ai⟩:Term)],Zwt.wrap (A.2.1+1),Zwt.wrap (A.2.2+1)) _ _ ⟨a9,(slq rfl),(B.xM [1,2,3,4,5] rfl)⟩ h
        ·replace h:=Zk h (cf a5);refine ZCd (Ze (sr (Za (v:=vI A.2.1) rfl (Zm rfl rfl (Zd (v:=vI (Zwt.wrap (A.2.1+1))) rfl (dn (Zh (Za (v:=vI A.2.2) rfl (Zm rfl rfl (Zd (v:=vI (Zwt.wrap (A.2.2+1))) rfl (done (Zr (Zr ?_)))))))))))))
         exact ap (A.1,Zwt.wrap (A.2.1+1),Zwt.wrap (A.2.2+1)) _ _ ⟨ac,(slq rfl),B⟩ h
   ·replace h:=Zk h (Xe ax);refine ZCo (Zi (Zi (Zy ?_)))
    refine Ze (sr (Yr B 1 [ac] rfl ag55 rfl rfl rfl (Z7 (v:=.agg #[ac]) B 2 [ac] [ac] rfl ag55.size rfl rfl rfl rfl (Xy (Jc (B.Ix 0 rfl)) rfl) (ZCh rfl) rfl λe3 B=>dn (ZCi ?_))))
    exact Zj rfl (Wq B 2 rfl ag55 rfl rfl) ⟨(⟨A.1⟩:ZCb),ac,(ZDa (Fe ac)),rfl,h,(Tb (Xi (B.Ix 0 rfl))),(Xg B 0 rfl),B.below⟩ (.inl rfl)
 ·skip;replace B:=B.pushNil 162 9;exact⟨.slice none 0 0,(slq rfl),B⟩
def Kg (O:List Int) (U:A8) (V:A8) (K:A8->Int->Prop):Prop :=
 Z1 (λh (B:A8×Int) I=>((0<=(h:Int)/\(h:Int) < 8)/\((0<=(h:Int)/\(h:Int) < 8)/\((0<=(h:Int)/\(h:Int) < 8)/\(if Fa (O.getD h Ci) 2=0 then I (B.1.set h (ZCl.wrap ((U.get h)+(V.get h))),B.2) else((0<=(h:Int)/\(h:Int) < 8)/\(if(B.1.set h (ZCl.wrap ((U.get h)+(V.get h)))).get h > 1 then K ZCe 0 else Xv (λ(A:Int×Int) L=>(if A.1 < (O.length:Int) then((0<=(h:Int)/\(h:Int) < 8)/\(if V.get h=1 then((0<=A.1/\A.1 < (O.length:Int))/\(if Fa (O.getD A.1.toNat Ci) 2≠0 then((0<=A.1/\A.1 < 8)/\(if U.get A.1.toNat=1 then L (Zwt.wrap (A.1+1),Zwt.wrap (0 - A.2)) else L (Zwt.wrap (A.1+1),A.2))) else L (Zwt.wrap (A.1+1),A.2))) else I (B.1.set h (ZCl.wrap ((U.get h)+(V.get h))),A.2))) else I (B.1.set h (ZCl.wrap ((U.get h)+(V.get h))),A.2))) (Zwt.wrap ((h:Int)+1),B.2)))))))) (λ(B:A8×Int)=>K B.1 B.2) O.length 0 (ZCe,1)
theorem Zfk (a0:List Int) (a1:A8) (a2:A8)  {K:A8->Int->Prop} (h:Kg a0 a1 a2 K) (w0:World) (q0:TInts.rep a0 [Ia] Ib w0) :
  Calls ZCc 196 #[Ia,.agg (ZB7 (ZB6 .u8 a1)),.agg (ZB7 (ZB6 .u8 a2))] w0 λe w'=>∃ (r0:A8) (r1:Int),
   e=.returned (.tuple #[.agg (ZB7 (ZB6 .u8 r0)),vI r1])/\K r0 r1/\Bel w0 w':=by
 unfold Kg at h
 refine cof ZDm rfl 69 Tryz.ntmps196 ?_
 have I:=ZCu (X:=Nox) w0 [ZB8 TInts a0 [Ia] Ib] (al1 q0);refine sr (Yg (v:=.agg (ZB7 (ZB6 .u8 a1))) I (ZB6 .u8 a1) rfl rfl λb2 w4 V I=>Yg (v:=.agg (ZB7 (ZB6 .u8 a2))) I (ZB6 .u8 a2) rfl rfl λb5 w7 V I=>Yt I (ZB6 .u8 ZCe) Uc rfl λb8 bd V I=>Zd (v:=vI 0) rfl (dn (sr (Wk [] rfl (Za1   _) (Yt I (ZB6 .u8 ZCe) Uc rfl λam be V I=>Z7 (v:=.agg (ZB7 (ZB6 .u8 ZCe))) I 0 (ZB6 .u8 ZCe) (ZB6 .u8 ZCe) rfl ag136.size rfl rfl rfl rfl rfl (ZCh rfl) rfl λbh I=>Zd (v:=vI 1) rfl (dn (ZB9 (sr (Zd (v:=vI 0) rfl (dn (ZCf ?_)))))))))))
 have ae:a0.length<=9223372036854775807:=Yz (I.Iw 0 rfl);refine Yh (S:=A8×Int) _ _ (λA L e_ w_=>Zt e_ [(0,Ia),(4,vQ b2),(5,vQ b5),(6,vQ b8),(8,vQ am),(9,vI L.2),(10,vI (A:Int))]/\Ctx Nox w0 w_ [blk am 136 (ZB6 .u8 L.1),blk b8 136 (ZB6 .u8 ZCe),blk b5 136 (ZB6 .u8 a2),blk b2 136 (ZB6 .u8 a1)] [ZB8 TInts a0 [Ia] Ib]) a0.length ?_ ?_ (s0:=(ZCe,1)) ?_ h
 ·clear I h;rintro A L e_ bi a9 ap aa ⟨ad,I⟩ h ag;rw [ue ad];refine ZB9 (sr (Za (v:=vI (A:Int)) rfl (Za (v:=Ia) rfl (Zu I 0 rfl ZCs rfl (Zl rfl rfl (dn (Z8 rfl (decide_eq_true (by omega)) (ZCd (Ze (ZB9 (ZCf (ZB9 ?_))))))))))))
  refine cwd 8 Ym [0,0,2,6,0,16,48,126,255,511] [2,3,5,6] [0,1,4,7] (λab ac bj V=>?_)
  replace I:=I.Iy V;refine bM 0 (vI (A:Int)) rfl ac (Zc 10 1) (bM 1 (vI (A:Int)) rfl ac (Zc 10 3) ?_)
  obtain ⟨⟨aq,ar⟩,h⟩:=h;refine bL 2 (.pointer (some ⟨b2,A,none⟩)) rfl rfl ab (λ_ V=>by exact Wv A ZCr sc5.size rfl rfl aq ar (by omega)) (Zc 10 7) (bL 3 (.int .u8 (a1.get A)) rfl rfl ab (λ_ V=>by exact Yj (I.Iy V) 3 (.int .u8 (a1.get A)) rfl sc5 rfl (ZCm _ _ (show A < 8 by omega))) (Zc 10 15) (bM 4 (vI (A:Int)) rfl ac (Zc 10 31) ?_))
  obtain ⟨⟨au,av⟩,h⟩:=h;refine bL 5 (.pointer (some ⟨b5,A,none⟩)) rfl rfl ab (λ_ V=>by exact Wv A ZCr sc5.size rfl rfl au av (by omega)) (Zc 10 63) (bL 6 (.int .u8 (a2.get A)) rfl rfl ab (λ_ V=>by exact Yj (I.Iy V) 2 (.int .u8 (a2.get A)) rfl sc5 rfl (ZCm _ _ (show A < 8 by omega))) (Zc 10 127) (bF 7 (.int .u8 (ZCl.wrap ((a1.get A)+(a2.get A)))) rfl rfl ac (λ_=>by exact Vn rfl rfl) (Zc 10 255) (Z5 8 (by decide) (by decide) (by kernel_rfl) (by kernel_rfl) rfl ?_)))
  obtain ⟨⟨aw,ax⟩,h⟩:=h;refine X0 A ZCr sc5.size rfl rfl aw ax (by omega) (Z7 (v:=.int .u8 (ZCl.wrap ((a1.get A)+(a2.get A)))) I 0 [.int .u8 (ZCl.wrap ((a1.get A)+(a2.get A)))] (ZB6 .u8 (L.1.set A (ZCl.wrap ((a1.get A)+(a2.get A))))) rfl sc5.size rfl rfl rfl rfl rfl (show A < 8 by omega) (ZC3 _ _ _ (show A < 8 by omega)) λbk I=>done (Z6 (Ze (ZB9 (sr (Za (v:=Ia) rfl (Za (v:=vI (A:Int)) rfl ?_)))))))
  obtain ⟨ba,bl,an⟩:=Zx (I.Iw 0 rfl) A aa;refine Yn (len:=a0.length) ZCs sc2.size (tr rfl an) rfl (ZCq _) (ZC9.2 aa) (Ye (vI (a0.getD A Ci)) (Yi (I.Iw 0 rfl) an A aa) sc2 rfl (Jf rfl rfl (by decide) (X6 rfl rfl (dn ?_))))
  refine Zs rfl (λah=>?_) (λah=>?_)
  ·replace h:=ift h (ct ah);refine ZCo (Zi (Zy ?_))
   refine Ze (Zh (Za (v:=vI (A:Int)) rfl (Zm rfl rfl (Zd (v:=vI (Zwt.wrap ((A:Int)+1))) rfl (done ?_)))))
   exact ag (L.1.set A (ZCl.wrap ((a1.get A)+(a2.get A))),L.2) _ _ ⟨(sl ⟨rfl,rfl,rfl,rfl,rfl,rfl,(tr rfl (I1 _ (Z2 aa ae))),trivial⟩),I⟩ h
  ·replace h:=Zk h (cf ah);refine ZCd (Ze (ZB9 (sr (Za (v:=vI (A:Int)) rfl ?_))))
   obtain ⟨⟨ay,az⟩,h⟩:=h;refine X0 A ZCr sc5.size rfl rfl ay az (by omega) (Yc I 0 (.int .u8 ((L.1.set A (ZCl.wrap ((a1.get A)+(a2.get A)))).get A)) rfl sc5 rfl (ZCm _ _ (show A < 8 by omega)) (Jn rfl rfl (dn ?_)))
   refine Zs rfl (λai=>?_) (λai=>?_)
   ·replace h:=ift h (ct ai);refine sr (Wk [] rfl (Za1   _) (Z7 (v:=.agg (ZB7 (ZB6 .u8 ZCe))) I 1 (ZB6 .u8 ZCe) (ZB6 .u8 ZCe) rfl ag136.size rfl rfl rfl rfl rfl (ZCh rfl) rfl λbm I=>Zd (v:=vI 0) rfl (dn ?_)))
    refine ZCi (Zn (Z9 (Zn (Zn (Z9 (Zn ?_))))))
    exact Jw rfl (Wq I 1 rfl ag136 rfl rfl) (Zg rfl) ⟨ZCe,0,rfl,h,I.below⟩ (.inl rfl)
   ·replace h:=Zk h (cf ai);refine ZCd (Ze (sr (Za (v:=vI (A:Int)) rfl (Zm rfl rfl (Zd (v:=vI (Zwt.wrap ((A:Int)+1))) rfl (dn (ZCf ?_)))))))
    refine Jb (S:=Int×Int) _ (λB e_ w_=>Zt e_ [(0,Ia),(4,vQ b2),(5,vQ b5),(6,vQ b8),(8,vQ am),(9,vI B.2),(10,vI (A:Int)),(11,vI B.1)]/\Ctx Nox w0 w_ [blk am 136 (ZB6 .u8 (L.1.set A (ZCl.wrap ((a1.get A)+(a2.get A))))),blk b8 136 (ZB6 .u8 ZCe),blk b5 136 (ZB6 .u8 a2),blk b2 136 (ZB6 .u8 a1)] [ZB8 TInts a0 [Ia] Ib]) ?_ (s0:=(Zwt.wrap ((A:Int)+1),L.2)) ?_ h
    ·clear I h;rintro B e_ bn bb bo ⟨ad,I⟩ h aj;rw [ue ad];refine ZB9 (sr (Za (v:=vI B.1) rfl (Za (v:=Ia) rfl (Zu I 0 rfl ZCs rfl (Zl rfl rfl (Za (v:=.bool (decide (B.1 < (a0.length:Int)))) rfl ?_))))))
     refine Xm (decide (B.1 < (a0.length:Int))) (λO=>?_) (λO=>?_)
     ·replace h:=ift h (ct O);refine Zq 4 45 rfl rfl O (Za (v:=vI (A:Int)) rfl (Zq 4 45 rfl rfl O ?_))
      obtain ⟨⟨a3,a4⟩,h⟩:=h;refine X0 A ZCr sc5.size rfl rfl a3 a4 (by omega) (Zq 4 45 rfl rfl O (Yc I 2 (.int .u8 (a2.get A)) rfl sc5 rfl (ZCm _ _ (show A < 8 by omega)) (Zq 4 45 rfl rfl O (X6 rfl rfl (Ya (v:=.bool (decide (a2.get A=1))) (b:=true) (tr rfl (I1 _ O)) rfl (dn ?_))))))
      refine Zs rfl (λak=>?_) (λak=>?_)
      ·replace h:=ift h (ct ak);refine ZCd (Ze (ZB9 (ZCf (sr (Za (v:=Ia) rfl (Za (v:=vI B.1) rfl ?_))))))
       obtain ⟨⟨a5,a6⟩,h⟩:=h;obtain ⟨bc,bp,ao⟩:=Zx (I.Iw 0 rfl) B.1.toNat (show B.1.toNat < a0.length by omega)
       refine Yn (len:=a0.length) ZCs sc2.size (tr rfl ao) rfl a5 a6 (Ye (vI (a0.getD B.1.toNat Ci)) (Yi (I.Iw 0 rfl) ao B.1.toNat (show B.1.toNat < a0.length by omega)) sc2 rfl (Jf rfl rfl (by decide) (Xl rfl rfl (Za (v:=.bool (decide (Fa (a0.getD B.1.toNat Ci) 2≠0))) rfl ?_))))
       refine Xm (decide (Fa (a0.getD B.1.toNat Ci) 2≠0)) (λU=>?_) (λU=>?_)
       ·replace h:=ift h (ct U);refine Zq 6 59 rfl rfl U (Za (v:=vI B.1) rfl (Zq 6 59 rfl rfl U ?_))
        obtain ⟨⟨a7,a8⟩,h⟩:=h;refine X0 B.1.toNat ZCr sc5.size rfl rfl a7 a8 (by omega) (Zq 6 59 rfl rfl U (Yc I 3 (.int .u8 (a1.get B.1.toNat)) rfl sc5 rfl (ZCm _ _ (show B.1.toNat < 8 by omega)) (Zq 6 59 rfl rfl U (X6 rfl rfl (Ya (v:=.bool (decide (a1.get B.1.toNat=1))) (b:=true) (tr rfl (I1 _ U)) rfl (dn ?_))))))
        refine Zs rfl (λal=>?_) (λal=>?_)
        ·replace h:=ift h (ct al);refine Zh (Za (v:=vI B.2) rfl (G3 rfl (Zd (v:=vI (Zwt.wrap (0 - B.2))) rfl (done (Zr (Ze (Zh (Za (v:=vI B.1) rfl (Zm rfl rfl (Zd (v:=vI (Zwt.wrap (B.1+1))) rfl (done ?_)))))))))))
         exact aj (Zwt.wrap (B.1+1),Zwt.wrap (0 - B.2)) _ _ ⟨(slq rfl),I⟩ h
        ·replace h:=Zk h (cf al);refine ZCd (Zr (Ze (Zh (Za (v:=vI B.1) rfl (Zm rfl rfl (Zd (v:=vI (Zwt.wrap (B.1+1))) rfl (done ?_)))))))
         exact aj (Zwt.wrap (B.1+1),B.2) _ _ ⟨(slq rfl),I⟩ h
       ·replace h:=Zk h (cf U);refine Zp (b:=false) 6 59 rfl (tr rfl (I1 _ U)) (by decide) (Zp (b:=false) 6 59 rfl (tr rfl (I1 _ U)) (by decide) (Zp (b:=false) 6 59 rfl (tr rfl (I1 _ U)) (by decide) (Zp (b:=false) 6 59 rfl (tr rfl (I1 _ U)) (by decide) (Ya (v:=.bool false) (b:=false) (tr rfl (I1 _ U)) rfl (dn (Z4 rfl rfl (ZCd (Zr (Ze (Zh (Za (v:=vI B.1) rfl (Zm rfl rfl (Zd (v:=vI (Zwt.wrap (B.1+1))) rfl (done ?_))))))))))))))
        exact aj (Zwt.wrap (B.1+1),B.2) _ _ ⟨(slq rfl),I⟩ h
      ·replace h:=Zk h (cf ak);refine ZCo (Zi (Zi (Zy ?_)))
       refine Zr (Ze (Zh (Za (v:=vI (A:Int)) rfl (Zm rfl rfl (Zd (v:=vI (Zwt.wrap ((A:Int)+1))) rfl (done ?_))))))
       exact ag (L.1.set A (ZCl.wrap ((a1.get A)+(a2.get A))),B.2) _ _ ⟨(sl ⟨rfl,rfl,rfl,rfl,rfl,rfl,(tr rfl (I1 _ (Z2 aa ae))),trivial⟩),I⟩ h
     ·replace h:=Zk h (cf O);refine Zp (b:=false) 4 45 rfl (tr rfl (I1 _ O)) (by decide) (Zp (b:=false) 4 45 rfl (tr rfl (I1 _ O)) (by decide) (Zp (b:=false) 4 45 rfl (tr rfl (I1 _ O)) (by decide) (Zp (b:=false) 4 45 rfl (tr rfl (I1 _ O)) (by decide) (Ya (v:=.bool false) (b:=false) (tr rfl (I1 _ O)) rfl (dn (Z4 rfl rfl ?_))))))
      refine ZCo (Zi (Zi (Zy ?_)))
      refine Zr (Ze (Zh (Za (v:=vI (A:Int)) rfl (Zm rfl rfl (Zd (v:=vI (Zwt.wrap ((A:Int)+1))) rfl (done ?_))))))
      exact ag (L.1.set A (ZCl.wrap ((a1.get A)+(a2.get A))),B.2) _ _ ⟨(sl ⟨rfl,rfl,rfl,rfl,rfl,rfl,(tr rfl (I1 _ (Z2 aa ae))),trivial⟩),I⟩ h
    ·skip;exact⟨(slq rfl),I⟩
 ·clear I h;rintro L e_ bq ap ⟨ad,I⟩ h;rw [ue ad];refine ZB9 (sr (Za (v:=vI (a0.length:Int)) rfl (Za (v:=Ia) rfl (Zu I 0 rfl ZCs rfl (Zl rfl rfl (dn (Z4 rfl (decide_eq_false (by omega)) ?_)))))))
  refine ZCo (Zi (Zi (Zy ?_)))
  refine Ze (sr (Yr I 0 (ZB6 .u8 L.1) rfl ag136 rfl rfl rfl (Za (v:=vI L.2) rfl (Z7 (v:=.agg (ZB7 (ZB6 .u8 L.1))) I 1 (ZB6 .u8 L.1) (ZB6 .u8 L.1) rfl ag136.size rfl rfl rfl rfl rfl (ZCh rfl) rfl λbr I=>Zd (v:=vI L.2) rfl (dn (ZCi ?_))))))
  exact Jw rfl (Wq I 1 rfl ag136 rfl rfl) (Zg rfl) ⟨L.1,L.2,rfl,h,I.below⟩ (.inl rfl)
 ·skip;exact⟨(slq rfl),I⟩
def Kh (O:List Int) (U:Term) (V:ZCb) (K:ZCb->Prop):Prop :=
 Xv (λ(h:(List Term)×Int) A=>(if h.2 < (V.terms.length:Int) then((0<=h.2/\h.2 < (V.terms.length:Int))/\Kg O U.mono ((V.terms.getD h.2.toNat Ci).mono) (λI B=>(if B≠0 then((0<=h.2/\h.2 < (V.terms.length:Int))/\Jk (Zwt.wrap ((Zwt.wrap (B * U.factor)) * ((V.terms.getD h.2.toNat Ci).factor))) (λL=>(Zw (h.1.length+1) 16/\A (h.1++[(⟨I,L⟩:Term)],Zwt.wrap (h.2+1))))) else A (h.1,Zwt.wrap (h.2+1))))) else K (⟨h.1⟩:ZCb))) ([],0)
theorem Zmc (a0:List Int) (a1:Term) (a2:ZCb)  {K:ZCb->Prop} (h:Kh a0 a1 a2 K) (w0:World) (q0:TInts.rep a0 [Ia] Ib w0) (q2:ZCv.rep a2 [Ik] It w0) :
  Calls ZCc 175 #[Ia,.agg (ZB7 (ZCk a1)),.agg #[Ik]] w0 λe w'=>∃ (r0:ZCb) (Ih:Value) (ay:List Nat),
   e=.returned (.agg #[Ih])/\K r0/\(ZCn (Y0 162) r0 [Ih] ay).holds w'/\(∀ b,b∈ay->w0.heap.size<=b)/\Bel w0 w':=by
 unfold Kh at h
 refine cof Tryz.func175 rfl 54 Tryz.ntmps175 ?_
 have B:=ZCu (X:=Nox) w0 [ZB8 TInts a0 [Ia] Ib,ZB8 TForm a2 [Ik] It] (alc q0 (al1 q2));have a6:=(B.Iw 1 rfl);replace B:=B.I0 1 rfl (ZB8 ZCa.ty.sl a2.terms [Ik] It) (λ_=>(Xq a6)) (λ_ a7=>a7)
 refine sr (Yg (v:=.agg (ZB7 (ZCk a1))) B (ZCk a1) rfl rfl λb5 w7 I B=>Yg (v:=.agg #[Ik]) B [Ik] rfl rfl λb8 be I B=>Yt B [.slice none 0 0] z55 rfl λam bh I B=>dn (sr (Wk [] rfl (Mh   _) (Yt B [.slice none 0 0] z55 rfl λah bi I B=>Z7 (v:=.agg #[.slice none 0 0]) B 0 [.slice none 0 0] [.slice none 0 0] rfl ag55.size rfl rfl rfl rfl rfl (ZCh rfl) rfl λbj B=>dn (ZB9 (sr (Zd (v:=vI 0) rfl (dn (ZCf ?_)))))))))
 refine Jb (S:=(List Term)×Int) _ (λA e_ w_=>∃ (O:Value),Zt e_ [(0,Ia),(4,vQ b5),(5,vQ b8),(6,vQ am),(7,vQ ah),(8,vI A.2)]/\Ctx Nox w0 w_ [own 162 9 O A.1.length (ZCa.encs A.1),blk ah 55 [O],blk am 55 [.slice none 0 0],blk b8 55 [Ik],blk b5 162 (ZCk a1)] [ZB8 ZCa.ty.sl a2.terms [Ik] It,ZB8 TInts a0 [Ia] Ib,ZB8 TForm a2 [Ik] It]) ?_ (s0:=([],0)) ?_ h
 ·clear B h;rintro A e_ bk ao bl ⟨O,ap,B⟩ h aq;rw [ue ap];refine ZB9 (sr (Za (v:=vI A.2) rfl (Z0 0 ZCg rfl Ii.size rfl rfl (Yc B 3 (Ik) rfl Ii rfl rfl (Zu B 0 rfl ZCj rfl (Zl rfl rfl (dn ?_)))))))
  refine Zs rfl (λak=>?_) (λak=>?_)
  ·replace h:=ift h (ct ak);refine ZCd (Ze (ZB9 (ZCf (ZB9 ?_))))
   refine cwd 14 Ym [0,0,2,0,8,0,56,120,248,511,1023,2047,2047,0,12287,32767] [2,4,6,8] [0,1,3,5,7,10,11,12] (λag L bm I=>?_)
   replace B:=B.Iy I;refine bM 0 (Ia) rfl L (Zc 16 1) (bF 1 (vQ b5) rfl rfl L (λ_=>by exact Yq 0 ZCp rfl ag136.size rfl rfl) (Zc 16 3) (bL 2 (.agg (ZB7 (ZB6 .u8 a1.mono))) rfl rfl ag (λ_ I=>by exact Y6 (B.Iy I) 4 (ZB6 .u8 a1.mono) rfl ag136 rfl rfl rfl) (Zc 16 7) (bF 3 (vQ b8) rfl rfl L (λ_=>by exact Yq 0 ZCg rfl Ii.size rfl rfl) (Zc 16 15) (bL 4 (Ik) rfl rfl ag (λ_ I=>by exact Yj (B.Iy I) 3 (Ik) rfl Ii rfl rfl) (Zc 16 31) (bM 5 (vI A.2) rfl L (Zc 16 63) ?_)))))
   obtain ⟨⟨a8,a9⟩,h⟩:=h;obtain ⟨ar,bn,au⟩:=Zx (B.Iw 0 rfl) A.2.toNat (show A.2.toNat < a2.terms.length by omega)
   refine bL 6 (.pointer (some (ar.add (A.2.toNat * 9)))) rfl rfl ag (λ_ I=>by exact Y3 (len:=a2.terms.length) ZCj ag162.size (by exact tr rfl au) rfl a8 a9) (Zc 16 127) (bF 7 (.pointer (some (ar.add (A.2.toNat * 9+0)))) rfl rfl L (λ_=>by exact Vo (A.2.toNat * 9+0) ZCp rfl ag136.size rfl rfl) (Zc 16 255) (bL 8 (.agg (ZB7 (ZB6 .u8 ((a2.terms.getD A.2.toNat Ci).mono)))) rfl rfl ag (λ_ I=>by exact Jq (ZB6 .u8 ((a2.terms.getD A.2.toNat Ci).mono)) (Wg (o:=0) (k:=8) (Yi ((B.Iy I).Iw 0 rfl) au A.2.toNat (show A.2.toNat < a2.terms.length by omega)) rfl) ag136 rfl rfl) (Zc 16 511) ?_))
   refine U8 (λe_ w_=>∃ (av:Nat),∃ (U:A8),∃ (ab:Int),Zt e_ [(0,Ia),(4,vQ b5),(5,vQ b8),(6,vQ am),(7,vQ ah),(8,vI A.2),(9,vQ av),(10,vI ab)]/\Ctx Nox w0 w_ [blk av 136 (ZB6 .u8 U),own 162 9 O A.1.length (ZCa.encs A.1),blk ah 55 [O],blk am 55 [.slice none 0 0],blk b8 55 [Ik],blk b5 162 (ZCk a1)] [ZB8 ZCa.ty.sl a2.terms [Ik] It,ZB8 TInts a0 [Ia] Ib,ZB8 TForm a2 [Ik] It]/\(if ab≠0 then((0<=A.2/\A.2 < (a2.terms.length:Int))/\Jk (Zwt.wrap ((Zwt.wrap (ab * a1.factor)) * ((a2.terms.getD A.2.toNat Ci).factor))) (λV=>(Zw (A.1.length+1) 16/\ao (A.1++[(⟨U,V⟩:Term)],Zwt.wrap (A.2+1))))) else ao (A.1,Zwt.wrap (A.2+1)))) ?_ ?_
   ·clear B h;rintro e_ bo ⟨av,U,ab,ap,B,h⟩;rw [ue ap];refine Ze (sr (Za (v:=vI ab) rfl (Xl rfl rfl (dn ?_))))
    refine Zs rfl (λal=>?_) (λal=>?_)
    ·replace h:=ift h (ct al);refine cwd 17 Ym [0,1,0,0,0,16,56,0,128,0,896,1920,3968,8184,16376,32764,65532,131071,262143,524287] [1,2,5,8,10,12,15] [0,3,4,6,7,9,11,13] (λac aa bp I=>?_)
     replace B:=B.Iy I;refine bF 0 (vQ ah) rfl rfl aa (λ_=>by exact Yq 0 ZCg rfl Ii.size rfl rfl) (Zc 20 1) (bL 1 (O) rfl rfl ac (λ_ I=>by exact Yj (B.Iy I) 2 (O) rfl Ii rfl rfl) (Zc 20 3) (bL 2 (.agg (ZB7 (ZB6 .u8 U))) rfl rfl ac (λ_ I=>by exact Y6 (B.Iy I) 0 (ZB6 .u8 U) rfl ag136 rfl rfl rfl) (Zc 20 7) (bM 3 (vI ab) rfl aa (Zc 20 15) (bF 4 (.pointer (some ⟨b5,8,none⟩)) rfl rfl aa (λ_=>by exact Yq 8 ZCp rfl sc2.size rfl rfl) (Zc 20 31) (bL 5 (vI a1.factor) rfl rfl ac (λ_ I=>by exact Yj (B.Iy I) 5 (vI a1.factor) rfl sc2 rfl rfl) (Zc 20 63) (bF 6 (vI (Zwt.wrap (ab * a1.factor))) rfl rfl aa (λ_=>by exact Tv rfl rfl) (Zc 20 127) (bF 7 (vQ b8) rfl rfl aa (λ_=>by exact Yq 0 ZCg rfl Ii.size rfl rfl) (Zc 20 255) (bL 8 (Ik) rfl rfl ac (λ_ I=>by exact Yj (B.Iy I) 4 (Ik) rfl Ii rfl rfl) (Zc 20 511) (bM 9 (vI A.2) rfl aa (Zc 20 1023) ?_)))))))))
     obtain ⟨⟨ba,bb⟩,h⟩:=h;obtain ⟨aw,bq,ax⟩:=Zx (B.Iw 0 rfl) A.2.toNat (show A.2.toNat < a2.terms.length by omega)
     refine bL 10 (.pointer (some (aw.add (A.2.toNat * 9)))) rfl rfl ac (λ_ I=>by exact Y3 (len:=a2.terms.length) ZCj ag162.size (by exact tr rfl ax) rfl ba bb) (Zc 20 2047) (bF 11 (.pointer (some (aw.add (A.2.toNat * 9+8)))) rfl rfl aa (λ_=>by exact Vo (A.2.toNat * 9+8) ZCp rfl sc2.size rfl rfl) (Zc 20 4095) (bL 12 (vI ((a2.terms.getD A.2.toNat Ci).factor)) rfl rfl ac (λ_ I=>by exact Xp (vI ((a2.terms.getD A.2.toNat Ci).factor)) (Wg (o:=8) (k:=1) (Yi ((B.Iy I).Iw 0 rfl) ax A.2.toNat (show A.2.toNat < a2.terms.length by omega)) rfl) sc2 rfl) (Zc 20 8191) (bF 13 (vI (Zwt.wrap ((Zwt.wrap (ab * a1.factor)) * ((a2.terms.getD A.2.toNat Ci).factor)))) rfl rfl aa (λ_=>by exact Tv rfl rfl) (Zc 20 16383) (aO 14 rfl (Zf [vI (Zwt.wrap ((Zwt.wrap (ab * a1.factor)) * ((a2.terms.getD A.2.toNat Ci).factor)))] _ ZCz rfl rfl rfl (Ud (Zwt.wrap ((Zwt.wrap (ab * a1.factor)) * ((a2.terms.getD A.2.toNat Ci).factor))) h _) ?_)))))
     rintro _ br ⟨V,rfl,h,az⟩;refine rt ?_
     replace B:=B.Iy az;refine done (aK (by assumption) (Zc 20 32767) (bL 15 (.agg (ZB7 (ZCk (⟨U,V⟩:Term)))) rfl rfl ac (λ_ I=>by exact G6 [(0,.agg (ZB7 (ZB6 .u8 U))),(1,vI V)] rfl (Kc U V  _)) (Zc 20 65535) (aO 16 rfl (Yd (sz:=9) B [(0,.agg (ZB7 (ZCk (⟨U,V⟩:Term))))] (ZCa.encs [(⟨U,V⟩:Term)]) rfl (λ_=>Mi (⟨U,V⟩:Term) _) rfl (by decide) λbs bt I B=>done (aK (by assumption) (Zc 20 131071) (Z5 17 (by decide) (by decide) (by kernel_rfl) (by kernel_rfl) rfl ?_))))))
     obtain ⟨a3,h⟩:=h;refine Jg B 2 ZCj Mj rfl (by decide) (by decide) rfl (Wl (B.Ix 0 rfl)) (λq hq=>ZDf (E:=ETerm) _ q hq) rfl rfl a3 λan bu B=>?_
     replace B:=Y7 B 2 ((A.1++[(⟨U,V⟩:Term)]).length) (ZCa.encs (A.1++[(⟨U,V⟩:Term)])) rfl (by simp) (by first | (simp [ZC1]; done) | simp [ZC1,Enc.encs])
     refine Z0 0 ZCg rfl Ii.size rfl rfl (Z7 (v:=an) B 3 [an] [an] rfl Ii.size rfl rfl (Uw (B.Ix 2 rfl)) rfl (Xy (Jc (B.Ix 2 rfl)) rfl) (ZCh rfl) rfl λbv B=>done (Z6 (Zr (Ze (Zh (Za (v:=vI A.2) rfl (Zm rfl rfl (Zd (v:=vI (Zwt.wrap (A.2+1))) rfl (done ?_)))))))))
     exact aq (A.1++[(⟨U,V⟩:Term)],Zwt.wrap (A.2+1)) _ _ ⟨an,(slq rfl),(B.xM [2,3,4,5,6] rfl)⟩ h
    ·replace h:=Zk h (cf al);refine ZCd (Zr (Ze (Zh (Za (v:=vI A.2) rfl (Zm rfl rfl (Zd (v:=vI (Zwt.wrap (A.2+1))) rfl (done ?_)))))))
     exact aq (A.1,Zwt.wrap (A.2+1)) _ _ ⟨O,(slq rfl),(B.xM [1,2,3,4,5] rfl)⟩ h
   refine Jp 9 13 rfl rfl (by kernel_rfl) ?_ ?_
   ·skip;refine Zf [Ia,.agg (ZB7 (ZB6 .u8 a1.mono)),.agg (ZB7 (ZB6 .u8 ((a2.terms.getD A.2.toNat Ci).mono)))] _ ZDm rfl rfl rfl (Zfk a0 a1.mono ((a2.terms.getD A.2.toNat Ci).mono) h _ (B.Iw 1 rfl)) ?_
    rintro _ bw ⟨ad,ai,rfl,h,a4⟩;refine rt ?_
    replace B:=B.Iy a4;refine done (aK (by assumption) (Zc 16 1023) (bM 10 (.tuple #[.agg (ZB7 (ZB6 .u8 ad)),vI ai]) rfl L (Zc 16 2047) (bF 11 (.agg (ZB7 (ZB6 .u8 ad))) rfl rfl L (λ_=>by exact N5 (v:=.agg (ZB7 (ZB6 .u8 ad))) rfl rfl) (Zc 16 4095) (bF 12 (vI ai) rfl rfl L (λ_=>by exact N5 (v:=vI ai) rfl rfl) (Zc 16 8191) (aO 13 rfl (Yt B (ZB6 .u8 ZCe) Uc rfl λbc bx I B=>done (aK (by assumption) (Zc 16 16383) (aO 14 rfl (Z7 (v:=.agg (ZB7 (ZB6 .u8 ad))) B 0 (ZB6 .u8 ad) (ZB6 .u8 ad) rfl ag136.size rfl rfl rfl rfl rfl (ZCh rfl) rfl λbz B=>done (L1 (by decide) (l9:=(Zc 16 32767)) (by kernel_rfl) (Z5 15 (by decide) (by decide) (by kernel_rfl) (by kernel_rfl) rfl (Zd (v:=vI ai) rfl (done (Z6 ?_))))))))))))))
    exact⟨rfl,_,rfl,⟨bc,ad,ai,(slq rfl),B,h⟩⟩
   ·skip;refine Yt B (ZB6 .u8 ZCe) Uc rfl λbd b9 I B=>done (aK (by assumption) (Zc 16 8703) (aO 9 rfl (Zf [Ia,.agg (ZB7 (ZB6 .u8 a1.mono)),.agg (ZB7 (ZB6 .u8 ((a2.terms.getD A.2.toNat Ci).mono)))] _ ZDm rfl rfl rfl (Zfk a0 a1.mono ((a2.terms.getD A.2.toNat Ci).mono) h _ (B.Iw 1 rfl)) ?_)))
    rintro _ ca ⟨ae,aj,rfl,h,a5⟩;refine rt ?_
    replace B:=B.Iy a5;refine done (aK (by assumption) (Zc 16 9215) (bM 10 (.tuple #[.agg (ZB7 (ZB6 .u8 ae)),vI aj]) rfl L (Zc 16 10239) (bF 11 (.agg (ZB7 (ZB6 .u8 ae))) rfl rfl L (λ_=>by exact N5 (v:=.agg (ZB7 (ZB6 .u8 ae))) rfl rfl) (Zc 16 12287) (bF 12 (vI aj) rfl rfl L (λ_=>by exact N5 (v:=vI aj) rfl rfl) (Zc 16 16383) (aO 14 rfl (Z7 (v:=.agg (ZB7 (ZB6 .u8 ae))) B 0 (ZB6 .u8 ae) (ZB6 .u8 ae) rfl ag136.size rfl rfl rfl rfl rfl (ZCh rfl) rfl λcb B=>done (L1 (by decide) (l9:=(Zc 16 32767)) (by kernel_rfl) (Z5 15 (by decide) (by decide) (by kernel_rfl) (by kernel_rfl) rfl (Zd (v:=vI aj) rfl (done (Z6 ?_)))))))))))
    exact⟨rfl,_,rfl,⟨bd,ae,aj,(slq rfl),B,h⟩⟩
  ·replace h:=Zk h (cf ak);refine ZCo (Zi (Zi (Zy ?_)))
   refine Ze (sr (Yr B 1 [O] rfl ag55 rfl rfl rfl (Z7 (v:=.agg #[O]) B 2 [O] [O] rfl ag55.size rfl rfl rfl rfl (Xy (Jc (B.Ix 0 rfl)) rfl) (ZCh rfl) rfl λcc B=>dn (ZCi ?_))))
   exact Zj rfl (Wq B 2 rfl ag55 rfl rfl) ⟨(⟨A.1⟩:ZCb),O,(ZDa (Fe O)),rfl,h,(Tb (Xi (B.Ix 0 rfl))),(Xg B 0 rfl),B.below⟩ (.inl rfl)
 ·skip;replace B:=B.pushNil 162 9;exact⟨.slice none 0 0,(slq rfl),B⟩
def Ww (L:List Int) (U:ZCb) (O:ZCb) (K:ZCb->Prop):Prop :=
 Xv (λ(h:(List Term)×Int) A=>(if h.2 < (U.terms.length:Int) then((0<=h.2/\h.2 < (U.terms.length:Int))/\Kh L (U.terms.getD h.2.toNat Ci) O (λB=>V3 (⟨h.1⟩:ZCb) B 1 (λI=>A (I.terms,Zwt.wrap (h.2+1))))) else K (⟨h.1⟩:ZCb))) ([],0)
theorem Sq (a0:List Int) (a1:ZCb) (a2:ZCb)  {K:ZCb->Prop} (h:Ww a0 a1 a2 K) (w0:World) (q0:TInts.rep a0 [Ia] Ib w0) (q1:ZCv.rep a1 [Ie] Ig w0) (q2:ZCv.rep a2 [Ik] It w0) :
  Calls ZCc 123 #[Ia,.agg #[Ie],.agg #[Ik]] w0 λe w'=>∃ (r0:ZCb) (Ih:Value) (ah:List Nat),
   e=.returned (.agg #[Ih])/\K r0/\(ZCn (Y0 162) r0 [Ih] ah).holds w'/\(∀ b,b∈ah->w0.heap.size<=b)/\Bel w0 w':=by
 unfold Ww at h
 refine cof ZC0 rfl 28 Tryz.ntmps123 ?_
 have A:=ZCu (X:=Nox) w0 [ZB8 TInts a0 [Ia] Ib,ZB8 TForm a1 [Ie] Ig,ZB8 TForm a2 [Ik] It] (alc q0 (alc q1 (al1 q2)));have az:=(A.Iw 1 rfl);replace A:=A.I0 1 rfl (ZB8 ZCa.ty.sl a1.terms [Ie] Ig) (λ_=>(Xq az)) (λ_ ad=>ad)
 have a3:=(A.Iw 3 rfl);replace A:=A.I0 3 rfl (ZB8 ZCa.ty.sl a2.terms [Ik] It) (λ_=>(Xq a3)) (λ_ ad=>ad)
 refine sr (Yg (v:=.agg #[Ie]) A [Ie] rfl rfl λb8 ba I A=>Yg (v:=.agg #[Ik]) A [Ik] rfl rfl λai bb I A=>Yt A [.slice none 0 0] z55 rfl λaj bc I A=>dn (sr (Wk [] rfl (Mh   _) (Yt A [.slice none 0 0] z55 rfl λak bd I A=>Z7 (v:=.agg #[.slice none 0 0]) A 0 [.slice none 0 0] [.slice none 0 0] rfl ag55.size rfl rfl rfl rfl rfl (ZCh rfl) rfl λbe A=>dn (ZB9 (sr (Zd (v:=vI 0) rfl (dn (ZCf ?_)))))))))
 refine Jb (S:=(List Term)×Int) _ (λB e_ w_=>∃ (L:Value),Zt e_ [(0,Ia),(4,vQ b8),(5,vQ ai),(6,vQ aj),(7,vQ ak),(8,vI B.2)]/\Ctx Nox w0 w_ [own 162 9 L B.1.length (ZCa.encs B.1),blk ak 55 [L],blk aj 55 [.slice none 0 0],blk ai 55 [Ik],blk b8 55 [Ie]] [ZB8 ZCa.ty.sl a2.terms [Ik] It,ZB8 ZCa.ty.sl a1.terms [Ie] Ig,ZB8 TInts a0 [Ia] Ib,ZB8 TForm a1 [Ie] Ig,ZB8 TForm a2 [Ik] It]) ?_ (s0:=([],0)) ?_ h
 ·clear A h;rintro B e_ bh a9 bi ⟨L,a4,A⟩ h al;rw [ue a4];refine ZB9 (sr (Za (v:=vI B.2) rfl (Z0 0 ZCg rfl Ii.size rfl rfl (Yc A 4 (Ie) rfl Ii rfl rfl (Zu A 1 rfl ZCj rfl (Zl rfl rfl (dn ?_)))))))
  refine Zs rfl (λV=>?_) (λV=>?_)
  ·replace h:=ift h (ct V);refine ZCd (Ze (ZB9 (ZCf ?_)))
   refine cwd 9 Ym [0,0,0,4,0,28,60,0,254,511,1023] [0,3,5,6,7] [1,2,4] (λO aa bj I=>?_)
   replace A:=A.Iy I;refine bL 0 (.agg #[L]) rfl rfl O (λ_ I=>by exact Y6 (A.Iy I) 1 [L] rfl ag55 rfl rfl rfl) (Zc 11 1) (bM 1 (Ia) rfl aa (Zc 11 3) (bF 2 (vQ b8) rfl rfl aa (λ_=>by exact Yq 0 ZCg rfl Ii.size rfl rfl) (Zc 11 7) (bL 3 (Ie) rfl rfl O (λ_ I=>by exact Yj (A.Iy I) 4 (Ie) rfl Ii rfl rfl) (Zc 11 15) (bM 4 (vI B.2) rfl aa (Zc 11 31) ?_))))
   obtain ⟨⟨a5,a6⟩,h⟩:=h;obtain ⟨am,bk,ae⟩:=Zx (A.Iw 1 rfl) B.2.toNat (show B.2.toNat < a1.terms.length by omega)
   refine bL 5 (.pointer (some (am.add (B.2.toNat * 9)))) rfl rfl O (λ_ I=>by exact Y3 (len:=a1.terms.length) ZCj ag162.size (by exact tr rfl ae) rfl a5 a6) (Zc 11 63) (bL 6 (.agg (ZB7 (ZCk (a1.terms.getD B.2.toNat Ci)))) rfl rfl O (λ_ I=>by exact Jq (ZCk (a1.terms.getD B.2.toNat Ci)) (Yi ((A.Iy I).Iw 1 rfl) ae B.2.toNat (show B.2.toNat < a1.terms.length by omega)) ag162 rfl rfl) (Zc 11 127) (bL 7 (.agg #[Ik]) rfl rfl O (λ_ I=>by exact Y6 (A.Iy I) 3 [Ik] rfl ag55 rfl rfl rfl) (Zc 11 255) (aO 8 rfl (Zf [Ia,.agg (ZB7 (ZCk (a1.terms.getD B.2.toNat Ci))),.agg #[Ik]] _ Tryz.func175 rfl rfl rfl (Zmc a0 (a1.terms.getD B.2.toNat Ci) a2 h _ (A.Iw 2 rfl) (Y1 (A.Iw 0 rfl))) ?_))))
   rintro _ bl ⟨ab,ag,a7,rfl,h,an,ao,ap⟩;refine rt ?_
   replace A:=A.push ap (ZCn (Y0 162) ab [ag] a7) an ao;obtain ⟨aq,ar⟩:=X7 (A.Ix 0 rfl);subst ar;replace A:=A.Iz (c:=own 162 9 ag ab.terms.length (ZCa.encs ab.terms)) (λ_ h_=>h_) (λ_=>aq)
   refine done (aK (by assumption) (Zc 11 511) (Z5 9 (by decide) (by decide) (by kernel_rfl) (by kernel_rfl) rfl (Zf [.agg #[L],.agg #[ag],vI 1] _ ZDe rfl rfl rfl (Za5 (⟨B.1⟩:ZCb) ab 1 h _ (Y1 (Yu (A.Ix 1 rfl))) (Y1 (Yu (A.Ix 0 rfl)))) ?_)))
   rintro _ bm ⟨ac,U,a8,rfl,h,au,av,aw⟩;refine rt ?_
   replace A:=A.push aw (ZCn (Y0 162) ac [U] a8) au av;obtain ⟨ax,ay⟩:=X7 (A.Ix 0 rfl);subst ay;replace A:=A.Iz (c:=own 162 9 U ac.terms.length (ZCa.encs ac.terms)) (λ_ h_=>h_) (λ_=>ax)
   refine Z7 (v:=.agg #[U]) A 3 [U] [U] rfl ag55.size rfl rfl rfl rfl (Xy (Jc (A.Ix 0 rfl)) rfl) (ZCh rfl) rfl λbn A=>done (Z6 (Zr (Ze (Zh (Za (v:=vI B.2) rfl (Zm rfl rfl (Zd (v:=vI (Zwt.wrap (B.2+1))) rfl (done ?_))))))))
   exact al (ac.terms,Zwt.wrap (B.2+1)) _ _ ⟨U,(slq rfl),(A.xM [0,3,4,5,6] rfl)⟩ h
  ·replace h:=Zk h (cf V);refine ZCo (Zi (Zi (Zy ?_)))
   refine Ze (sr (Yr A 1 [L] rfl ag55 rfl rfl rfl (Z7 (v:=.agg #[L]) A 2 [L] [L] rfl ag55.size rfl rfl rfl rfl (Xy (Jc (A.Ix 0 rfl)) rfl) (ZCh rfl) rfl λbo A=>dn (ZCi ?_))))
   exact Zj rfl (Wq A 2 rfl ag55 rfl rfl) ⟨(⟨B.1⟩:ZCb),L,(ZDa (Fe L)),rfl,h,(Tb (Xi (A.Ix 0 rfl))),(Xg A 0 rfl),A.below⟩ (.inl rfl)
 ·skip;replace A:=A.pushNil 162 9;exact⟨.slice none 0 0,(slq rfl),A⟩
def Ki (O:List Int) (U:ZCb) (K:Bool->Prop):Prop :=
 Xv (λ(h:Int) A=>(if h < (U.terms.length:Int) then((0<=h/\h < (U.terms.length:Int))/\Kf O ((U.terms.getD h.toNat Ci).mono) (λB=>(if¬ (B=true) then K false else Qt ((U.terms.getD h.toNat Ci).factor) 1 10006 (λI=>(if¬ (I=true) then K false else(if h > 0 then((0<=Zwt.wrap (h - 1)/\Zwt.wrap (h - 1) < (U.terms.length:Int))/\Qu ((U.terms.getD ((Zwt.wrap (h - 1)).toNat) Ci).mono) ((U.terms.getD h.toNat Ci).mono) (λL=>(if¬ (L=true) then K false else A (Zwt.wrap (h+1))))) else A (Zwt.wrap (h+1)))))))) else K (decide ((U.terms.length:Int)<=400)))) 0
theorem Zmd (a0:List Int) (a1:ZCb)  {K:Bool->Prop} (h:Ki a0 a1 K) (w0:World) (q0:TInts.rep a0 [Ia] Ib w0) (q1:ZCv.rep a1 [Ie] Ig w0) :
  Calls ZCc 120 #[Ia,.agg #[Ie]] w0 λe w'=>∃ (r0:Bool),
   e=.returned (.bool r0)/\K r0/\Bel w0 w':=by
 unfold Ki at h
 refine cof Tryz.func120 rfl 51 Tryz.ntmps120 ?_
 have L:=ZCu (X:=Nox) w0 [ZB8 TInts a0 [Ia] Ib,ZB8 TForm a1 [Ie] Ig] (alc q0 (al1 q1));have aq:=(L.Iw 1 rfl);replace L:=L.I0 1 rfl (ZB8 ZCa.ty.sl a1.terms [Ie] Ig) (λ_=>(Xq aq)) (λ_ ar=>ar)
 refine sr (Yg (v:=.agg #[Ie]) L [Ie] rfl rfl λb5 w7 aa L=>Zd (v:=.bool false) rfl (dn (ZB9 (sr (Zd (v:=vI 0) rfl (dn (ZCf ?_)))))))
 refine Jb (S:=Int) _ (λB e_ O=>Zt e_ [(0,Ia),(3,vQ b5),(5,vI B)]/\Ctx Nox w0 O [blk b5 55 [Ie]] [ZB8 ZCa.ty.sl a1.terms [Ie] Ig,ZB8 TInts a0 [Ia] Ib,ZB8 TForm a1 [Ie] Ig]) ?_ (s0:=0) ?_ h
 ·clear L h;rintro B e_ a3 az a4 ⟨au,L⟩ h ag;rw [ue au];refine ZB9 (sr (Za (v:=vI B) rfl (Z0 0 ZCg rfl Ii.size rfl rfl (Yc L 0 (Ie) rfl Ii rfl rfl (Zu L 0 rfl ZCj rfl (Zl rfl rfl (dn ?_)))))))
  refine Zs rfl (λad=>?_) (λad=>?_)
  ·replace h:=ift h (ct ad);refine ZCd (Ze (ZB9 (ZCf (sr (Z0 0 ZCg rfl Ii.size rfl rfl (Yc L 0 (Ie) rfl Ii rfl rfl (Za (v:=vI B) rfl ?_)))))))
   obtain ⟨⟨av,aw⟩,h⟩:=h;obtain ⟨a2,a5,ah⟩:=Zx (L.Iw 0 rfl) B.toNat (show B.toNat < a1.terms.length by omega)
   refine Yn (len:=a1.terms.length) ZCj ag162.size (tr rfl ah) rfl av aw (Ji (ZCk (a1.terms.getD B.toNat Ci)) (Yi (L.Iw 0 rfl) ah B.toNat (show B.toNat < a1.terms.length by omega)) ag162 rfl rfl (Yt L (ZCk (⟨ZCe,0⟩:Term)) Mk rfl λai a6 aa L=>Z7 (v:=.agg (ZB7 (ZCk (a1.terms.getD B.toNat Ci)))) L 0 (ZCk (a1.terms.getD B.toNat Ci)) (ZCk (a1.terms.getD B.toNat Ci)) rfl ag162.size rfl rfl rfl rfl rfl (ZCh rfl) rfl λa7 L=>dn (ZB9 ?_)))
   refine cwd 24 Ym [0,0,2,7,15,31,63,127,255,511,1023,2047,4095,8191,16383,32767,65535,32767,163839,524287,1048575,2097151,32767,4227071,16777215,33554431,67108863,134217727] [2,7,16,19,21,23] [0,1,4,5,6,7,8,9,10,11,12,13,14,15,16,17,18,19,20,21,22,23] (λab A a8 aa=>?_)
   replace L:=L.Iy aa;refine bM 0 (Ia) rfl A (Zc 28 1) (bF 1 (vQ ai) rfl rfl A (λ_=>by exact Yq 0 ZCp rfl ag136.size rfl rfl) (Zc 28 3) (bL 2 (.agg (ZB7 (ZB6 .u8 ((a1.terms.getD B.toNat Ci).mono)))) rfl rfl ab (λ_ aa=>by exact Y6 (L.Iy aa) 0 (ZB6 .u8 ((a1.terms.getD B.toNat Ci).mono)) rfl ag136 rfl rfl rfl) (Zc 28 7) (aO 3 rfl (Zf [Ia,.agg (ZB7 (ZB6 .u8 ((a1.terms.getD B.toNat Ci).mono)))] _ Tryz.func173 rfl rfl rfl (Zmb a0 ((a1.terms.getD B.toNat Ci).mono) h _ (L.Iw 1 rfl)) ?_))))
   rintro _ a9 ⟨aj,rfl,h,an⟩;refine rt ?_
   replace L:=L.Iy an;refine done (aK (by assumption) (Zc 28 15) (bF 4 (.bool (!aj)) rfl rfl A (λ_=>by exact B9 rfl) (Zc 28 31) (bM 5 (.bool (!aj)) rfl A (Zc 28 63) ?_)))
   refine Xm (!aj) (λV=>?_) (λV=>?_)
   ·replace h:=ift h (Xe (X1 V));refine Zv Z3 6 undef rfl rfl (by kernel_rfl) (A 6 rfl) (λO=>.inr ⟨Yk (b:=true) 5 24 rfl (tr rfl (I1 _ V)) (by decide),rfl⟩) (l9:=(Zc 28 127)) (by kernel_rfl) (Zv Z3 7 undef rfl rfl (by kernel_rfl) (A 7 rfl) (λO=>.inr ⟨Yk (b:=true) 5 24 rfl (tr rfl (I1 _ V)) (by decide),rfl⟩) (l9:=(Zc 28 255)) (by kernel_rfl) (Zv Z3 8 undef rfl rfl (by kernel_rfl) (A 8 rfl) (λO=>.inr ⟨Yk (b:=true) 5 24 rfl (tr rfl (I1 _ V)) (by decide),rfl⟩) (l9:=(Zc 28 511)) (by kernel_rfl) (Zv Z3 9 undef rfl rfl (by kernel_rfl) (A 9 rfl) (λO=>.inr ⟨Yk (b:=true) 5 24 rfl (tr rfl (I1 _ V)) (by decide),rfl⟩) (l9:=(Zc 28 1023)) (by kernel_rfl) (bF 10 (.bool true) rfl rfl A (λ_=>by exact Zeg (v:=.bool true) (b:=true) (by exact tr rfl (I1 _ V)) rfl) (Zc 28 2047) (bM 11 (.bool true) rfl A (Zc 28 4095) (Zv Z3 12 undef rfl rfl (by kernel_rfl) (A 12 rfl) (λO=>.inr ⟨Yk (b:=true) 11 30 rfl (tr rfl (I1 _ rfl)) (by decide),rfl⟩) (l9:=(Zc 28 8191)) (by kernel_rfl) (Zv Z3 13 undef rfl rfl (by kernel_rfl) (A 13 rfl) (λO=>.inr ⟨Yk (b:=true) 11 30 rfl (tr rfl (I1 _ rfl)) (by decide),rfl⟩) (l9:=(Zc 28 16383)) (by kernel_rfl) (Zv Z3 14 undef rfl rfl (by kernel_rfl) (A 14 rfl) (λO=>.inr ⟨Yk (b:=true) 11 30 rfl (tr rfl (I1 _ rfl)) (by decide),rfl⟩) (l9:=(Zc 28 32767)) (by kernel_rfl) (Zv Z3 15 undef rfl rfl (by kernel_rfl) (A 15 rfl) (λO=>.inr ⟨X8 14 33 rfl rfl,rfl⟩) (l9:=(Zc 28 65535)) (by kernel_rfl) (Zv Z3 16 undef rfl rfl (by kernel_rfl) (A 16 rfl) (λO=>.inr ⟨X8 14 33 rfl rfl,rfl⟩) (l9:=(Zc 28 131071)) (by kernel_rfl) (Zv Z3 17 undef rfl rfl (by kernel_rfl) (A 17 rfl) (λO=>.inr ⟨X8 14 33 rfl rfl,rfl⟩) (l9:=(Zc 28 262143)) (by kernel_rfl) (Zv Z3 18 undef rfl rfl (by kernel_rfl) (A 18 rfl) (λO=>.inr ⟨X8 14 33 rfl rfl,rfl⟩) (l9:=(Zc 28 524287)) (by kernel_rfl) (Zv Z3 19 undef rfl rfl (by kernel_rfl) (A 19 rfl) (λO=>.inr ⟨X8 14 33 rfl rfl,rfl⟩) (l9:=(Zc 28 1048575)) (by kernel_rfl) (Zv Z3 20 undef rfl rfl (by kernel_rfl) (A 20 rfl) (λO=>.inr ⟨X8 14 33 rfl rfl,rfl⟩) (l9:=(Zc 28 2097151)) (by kernel_rfl) (Zv Z3 21 undef rfl rfl (by kernel_rfl) (A 21 rfl) (λO=>.inr ⟨X8 14 33 rfl rfl,rfl⟩) (l9:=(Zc 28 4194303)) (by kernel_rfl) (Zv Z3 22 undef rfl rfl (by kernel_rfl) (A 22 rfl) (λO=>.inr ⟨X8 14 33 rfl rfl,rfl⟩) (l9:=(Zc 28 8388607)) (by kernel_rfl) (Zv Z3 23 undef rfl rfl (by kernel_rfl) (A 23 rfl) (λO=>.inr ⟨X8 14 33 rfl rfl,rfl⟩) (l9:=(Zc 28 16777215)) (by kernel_rfl) (Z5 24 (by decide) (by decide) (by kernel_rfl) (by kernel_rfl) rfl (Wj 14 33 rfl rfl (Wj 14 33 rfl rfl (Zp (b:=true) 11 30 rfl (tr rfl (I1 _ rfl)) (by decide) (Ya (v:=.bool true) (b:=true) rfl rfl (done (Z6 (Ze (Z8 rfl rfl (sr (Zd (v:=.bool false) rfl (dn ?_)))))))))))))))))))))))))))))
    refine ZCi (Z9 (Zn (Zn (Z9 (Zn ?_)))))
    exact Zj rfl (Zg rfl) ⟨false,rfl,h,L.below⟩ (.inl rfl)
   ·replace h:=Zk h (not_not_intro ((X2 V)));refine aF 6 (.pointer (some ⟨ai,8,none⟩)) rfl rfl (A 6 rfl) (Yo 5 24 rfl rfl V) (λ_=>by exact Yq 8 ZCp rfl sc2.size rfl rfl) (Zc 28 127) (aL 7 (vI ((a1.terms.getD B.toNat Ci).factor)) rfl rfl (ab 7 rfl) (Yo 5 24 rfl rfl V) (λ_ aa=>by exact Yj (L.Iy aa) 0 (vI ((a1.terms.getD B.toNat Ci).factor)) rfl sc2 rfl rfl) (Zc 28 255) (aO 8 rfl (Zq 5 24 rfl rfl V (Zf [vI ((a1.terms.getD B.toNat Ci).factor),vI 1,vI 10006] _ Tryz.func59 rfl rfl rfl (Za3 ((a1.terms.getD B.toNat Ci).factor) 1 10006 h _) ?_))))
    rintro _ ba ⟨ac,rfl,h,ao⟩;refine rt ?_
    replace L:=L.Iy ao;refine done (aK (by assumption) (Zc 28 511) (aF 9 (.bool (!ac)) rfl rfl (A 9 rfl) (Yo 5 24 rfl rfl V) (λ_=>by exact B9 rfl) (Zc 28 1023) (bF 10 (.bool (!ac)) rfl rfl A (λ_=>by exact Zeg (v:=.bool (!ac)) (b:=false) (by exact tr rfl (I1 _ V)) rfl) (Zc 28 2047) (bM 11 (.bool (!ac)) rfl A (Zc 28 4095) ?_))))
    refine Xm (!ac) (λU=>?_) (λU=>?_)
    ·replace h:=ift h (Xe (X1 U));refine Zv Z3 12 undef rfl rfl (by kernel_rfl) (A 12 rfl) (λO=>.inr ⟨Yk (b:=true) 11 30 rfl (tr rfl (I1 _ U)) (by decide),rfl⟩) (l9:=(Zc 28 8191)) (by kernel_rfl) (Zv Z3 13 undef rfl rfl (by kernel_rfl) (A 13 rfl) (λO=>.inr ⟨Yk (b:=true) 11 30 rfl (tr rfl (I1 _ U)) (by decide),rfl⟩) (l9:=(Zc 28 16383)) (by kernel_rfl) (Zv Z3 14 undef rfl rfl (by kernel_rfl) (A 14 rfl) (λO=>.inr ⟨Yk (b:=true) 11 30 rfl (tr rfl (I1 _ U)) (by decide),rfl⟩) (l9:=(Zc 28 32767)) (by kernel_rfl) (Zv Z3 15 undef rfl rfl (by kernel_rfl) (A 15 rfl) (λO=>.inr ⟨X8 14 33 rfl rfl,rfl⟩) (l9:=(Zc 28 65535)) (by kernel_rfl) (Zv Z3 16 undef rfl rfl (by kernel_rfl) (A 16 rfl) (λO=>.inr ⟨X8 14 33 rfl rfl,rfl⟩) (l9:=(Zc 28 131071)) (by kernel_rfl) (Zv Z3 17 undef rfl rfl (by kernel_rfl) (A 17 rfl) (λO=>.inr ⟨X8 14 33 rfl rfl,rfl⟩) (l9:=(Zc 28 262143)) (by kernel_rfl) (Zv Z3 18 undef rfl rfl (by kernel_rfl) (A 18 rfl) (λO=>.inr ⟨X8 14 33 rfl rfl,rfl⟩) (l9:=(Zc 28 524287)) (by kernel_rfl) (Zv Z3 19 undef rfl rfl (by kernel_rfl) (A 19 rfl) (λO=>.inr ⟨X8 14 33 rfl rfl,rfl⟩) (l9:=(Zc 28 1048575)) (by kernel_rfl) (Zv Z3 20 undef rfl rfl (by kernel_rfl) (A 20 rfl) (λO=>.inr ⟨X8 14 33 rfl rfl,rfl⟩) (l9:=(Zc 28 2097151)) (by kernel_rfl) (Zv Z3 21 undef rfl rfl (by kernel_rfl) (A 21 rfl) (λO=>.inr ⟨X8 14 33 rfl rfl,rfl⟩) (l9:=(Zc 28 4194303)) (by kernel_rfl) (Zv Z3 22 undef rfl rfl (by kernel_rfl) (A 22 rfl) (λO=>.inr ⟨X8 14 33 rfl rfl,rfl⟩) (l9:=(Zc 28 8388607)) (by kernel_rfl) (Zv Z3 23 undef rfl rfl (by kernel_rfl) (A 23 rfl) (λO=>.inr ⟨X8 14 33 rfl rfl,rfl⟩) (l9:=(Zc 28 16777215)) (by kernel_rfl) (Z5 24 (by decide) (by decide) (by kernel_rfl) (by kernel_rfl) rfl (Wj 14 33 rfl rfl (Wj 14 33 rfl rfl (Zp (b:=true) 11 30 rfl (tr rfl (I1 _ U)) (by decide) (Ya (v:=.bool true) (b:=true) (tr rfl (I1 _ U)) rfl (done (Z6 (Ze (Z8 rfl rfl (sr (Zd (v:=.bool false) rfl (dn ?_)))))))))))))))))))))))
     refine ZCi (Z9 (Zn (Zn (Z9 (Zn ?_)))))
     exact Zj rfl (Zg rfl) ⟨false,rfl,h,L.below⟩ (.inl rfl)
    ·replace h:=Zk h (not_not_intro ((X2 U)));refine aF 12 (vI B) rfl rfl (A 12 rfl) (Yo 11 30 rfl rfl U) (λ_=>by exact Vb (v:=vI B) rfl) (Zc 28 8191) (aF 13 (.bool (decide (B > 0))) rfl rfl (A 13 rfl) (Yo 11 30 rfl rfl U) (λ_=>by exact Zel rfl rfl) (Zc 28 16383) (aF 14 (.bool (decide (B > 0))) rfl rfl (A 14 rfl) (Yo 11 30 rfl rfl U) (λ_=>by exact Vb (v:=.bool (decide (B > 0))) rfl) (Zc 28 32767) ?_))
     refine Xm (decide (B > 0)) (λI=>?_) (λI=>?_)
     ·replace h:=ift h (ct I);refine aF 15 (vQ b5) rfl rfl (A 15 rfl) (Yo 14 33 rfl rfl I) (λ_=>by exact Yq 0 ZCg rfl Ii.size rfl rfl) (Zc 28 65535) (aL 16 (Ie) rfl rfl (ab 16 rfl) (Yo 14 33 rfl rfl I) (λ_ aa=>by exact Yj (L.Iy aa) 1 (Ie) rfl Ii rfl rfl) (Zc 28 131071) (aF 17 (vI B) rfl rfl (A 17 rfl) (Yo 14 33 rfl rfl I) (λ_=>by exact Vb (v:=vI B) rfl) (Zc 28 262143) (aF 18 (vI (Zwt.wrap (B - 1))) rfl rfl (A 18 rfl) (Yo 14 33 rfl rfl I) (λ_=>by exact Tu rfl rfl) (Zc 28 524287) ?_)))
      obtain ⟨⟨ax,ay⟩,h⟩:=h;obtain ⟨ak,bb,al⟩:=Zx (L.Iw 0 rfl) ((Zwt.wrap (B - 1)).toNat) (show (Zwt.wrap (B - 1)).toNat < a1.terms.length by omega)
      refine aL 19 (.pointer (some (ak.add ((Zwt.wrap (B - 1)).toNat * 9)))) rfl rfl (ab 19 rfl) (Yo 14 33 rfl rfl I) (λ_ aa=>by exact Y3 (len:=a1.terms.length) ZCj ag162.size (by exact tr rfl al) rfl ax ay) (Zc 28 1048575) (aF 20 (.pointer (some (ak.add ((Zwt.wrap (B - 1)).toNat * 9+0)))) rfl rfl (A 20 rfl) (Yo 14 33 rfl rfl I) (λ_=>by exact Vo ((Zwt.wrap (B - 1)).toNat * 9+0) ZCp rfl ag136.size rfl rfl) (Zc 28 2097151) (aL 21 (.agg (ZB7 (ZB6 .u8 ((a1.terms.getD ((Zwt.wrap (B - 1)).toNat) Ci).mono)))) rfl rfl (ab 21 rfl) (Yo 14 33 rfl rfl I) (λ_ aa=>by exact Jq (ZB6 .u8 ((a1.terms.getD ((Zwt.wrap (B - 1)).toNat) Ci).mono)) (Wg (o:=0) (k:=8) (Yi ((L.Iy aa).Iw 0 rfl) al ((Zwt.wrap (B - 1)).toNat) (show (Zwt.wrap (B - 1)).toNat < a1.terms.length by omega)) rfl) ag136 rfl rfl) (Zc 28 4194303) (aF 22 (vQ ai) rfl rfl (A 22 rfl) (Yo 14 33 rfl rfl I) (λ_=>by exact Yq 0 ZCp rfl ag136.size rfl rfl) (Zc 28 8388607) (aL 23 (.agg (ZB7 (ZB6 .u8 ((a1.terms.getD B.toNat Ci).mono)))) rfl rfl (ab 23 rfl) (Yo 14 33 rfl rfl I) (λ_ aa=>by exact Y6 (L.Iy aa) 0 (ZB6 .u8 ((a1.terms.getD B.toNat Ci).mono)) rfl ag136 rfl rfl rfl) (Zc 28 16777215) (Z5 24 (by decide) (by decide) (by kernel_rfl) (by kernel_rfl) rfl (Zq 14 33 rfl rfl I (Zf [.agg (ZB7 (ZB6 .u8 ((a1.terms.getD ((Zwt.wrap (B - 1)).toNat) Ci).mono))),.agg (ZB7 (ZB6 .u8 ((a1.terms.getD B.toNat Ci).mono)))] _ ZDd rfl rfl rfl (Za4 ((a1.terms.getD ((Zwt.wrap (B - 1)).toNat) Ci).mono) ((a1.terms.getD B.toNat Ci).mono) h _) ?_)))))))
      rintro _ bc ⟨am,rfl,h,ap⟩;refine rt ?_
      replace L:=L.Iy ap;refine Zq 14 33 rfl rfl I (Xo rfl (Zq 11 30 rfl rfl U (Ya (v:=.bool (!am)) (b:=true) (tr rfl (I1 _ I)) rfl (Ya (v:=.bool (!am)) (b:=false) (tr rfl (I1 _ U)) rfl (done (Z6 (Ze ?_)))))))
      refine Zs rfl (λae=>?_) (λae=>?_)
      ·replace h:=ift h (Xe (X1 ae));refine sr (Zd (v:=.bool false) rfl (dn ?_))
       refine ZCi (Z9 (Zn (Zn (Z9 (Zn ?_)))))
       exact Zj rfl (Zg rfl) ⟨false,rfl,h,L.below⟩ (.inl rfl)
      ·replace h:=Zk h (not_not_intro ((X2 ae)));refine ZCd (Zr (Ze (Zh (Za (v:=vI B) rfl (Zm rfl rfl (Zd (v:=vI (Zwt.wrap (B+1))) rfl (done ?_)))))))
       exact ag (Zwt.wrap (B+1)) _ _ ⟨(slq rfl),(L.xM [1] rfl)⟩ h
     ·replace h:=Zk h (cf I);refine Zv Z3 15 undef rfl rfl (by kernel_rfl) (A 15 rfl) (λO=>.inr ⟨Yk (b:=false) 14 33 rfl (tr rfl (I1 _ I)) (by decide),rfl⟩) (l9:=(Zc 28 65535)) (by kernel_rfl) (Zv Z3 16 undef rfl rfl (by kernel_rfl) (A 16 rfl) (λO=>.inr ⟨Yk (b:=false) 14 33 rfl (tr rfl (I1 _ I)) (by decide),rfl⟩) (l9:=(Zc 28 131071)) (by kernel_rfl) (Zv Z3 17 undef rfl rfl (by kernel_rfl) (A 17 rfl) (λO=>.inr ⟨Yk (b:=false) 14 33 rfl (tr rfl (I1 _ I)) (by decide),rfl⟩) (l9:=(Zc 28 262143)) (by kernel_rfl) (Zv Z3 18 undef rfl rfl (by kernel_rfl) (A 18 rfl) (λO=>.inr ⟨Yk (b:=false) 14 33 rfl (tr rfl (I1 _ I)) (by decide),rfl⟩) (l9:=(Zc 28 524287)) (by kernel_rfl) (Zv Z3 19 undef rfl rfl (by kernel_rfl) (A 19 rfl) (λO=>.inr ⟨Yk (b:=false) 14 33 rfl (tr rfl (I1 _ I)) (by decide),rfl⟩) (l9:=(Zc 28 1048575)) (by kernel_rfl) (Zv Z3 20 undef rfl rfl (by kernel_rfl) (A 20 rfl) (λO=>.inr ⟨Yk (b:=false) 14 33 rfl (tr rfl (I1 _ I)) (by decide),rfl⟩) (l9:=(Zc 28 2097151)) (by kernel_rfl) (Zv Z3 21 undef rfl rfl (by kernel_rfl) (A 21 rfl) (λO=>.inr ⟨Yk (b:=false) 14 33 rfl (tr rfl (I1 _ I)) (by decide),rfl⟩) (l9:=(Zc 28 4194303)) (by kernel_rfl) (Zv Z3 22 undef rfl rfl (by kernel_rfl) (A 22 rfl) (λO=>.inr ⟨Yk (b:=false) 14 33 rfl (tr rfl (I1 _ I)) (by decide),rfl⟩) (l9:=(Zc 28 8388607)) (by kernel_rfl) (Zv Z3 23 undef rfl rfl (by kernel_rfl) (A 23 rfl) (λO=>.inr ⟨Yk (b:=false) 14 33 rfl (tr rfl (I1 _ I)) (by decide),rfl⟩) (l9:=(Zc 28 16777215)) (by kernel_rfl) (Z5 24 (by decide) (by decide) (by kernel_rfl) (by kernel_rfl) rfl (Zp (b:=false) 14 33 rfl (tr rfl (I1 _ I)) (by decide) (Zp (b:=false) 14 33 rfl (tr rfl (I1 _ I)) (by decide) (Zq 11 30 rfl rfl U (Ya (v:=.bool false) (b:=false) (tr rfl (I1 _ I)) rfl (Ya (v:=.bool false) (b:=false) (tr rfl (I1 _ U)) rfl (done (Z6 (Ze (Z4 rfl rfl (ZCd (Zr (Ze (Zh (Za (v:=vI B) rfl (Zm rfl rfl (Zd (v:=vI (Zwt.wrap (B+1))) rfl (done ?_))))))))))))))))))))))))))
      exact ag (Zwt.wrap (B+1)) _ _ ⟨(slq rfl),(L.xM [1] rfl)⟩ h
  ·replace h:=Zk h (cf ad);refine ZCo (Zi (Zi (Zy ?_)))
   refine Ze (sr (Z0 0 ZCg rfl Ii.size rfl rfl (Yc L 0 (Ie) rfl Ii rfl rfl (Zu L 0 rfl ZCj rfl (Ut rfl rfl (Zd (v:=.bool (decide ((a1.terms.length:Int)<=400))) rfl (dn (ZCi ?_))))))))
   exact Zj rfl (Zg rfl) ⟨decide ((a1.terms.length:Int)<=400),rfl,h,L.below⟩ (.inl rfl)
 ·skip;exact⟨(slq rfl),L⟩
def Sr (I:List Int) (L:A8) (K:Int->Prop):Prop :=
 Z1 (λh (A:Int) B=>((0<=(h:Int)/\(h:Int) < 8)/\B (Zwt.wrap (A+(Zwt.wrap ((I.getD h Ci) * (Zwt.wrap (L.get h)))))))) (λ(A:Int)=>K A) I.length 0 0
theorem Za6 (a0:List Int) (a1:A8)  {K:Int->Prop} (h:Sr a0 a1 K) (w0:World) (q0:TInts.rep a0 [Ia] Ib w0) :
  Calls ZCc 121 #[Ia,.agg (ZB7 (ZB6 .u8 a1))] w0 λe w'=>∃ (r0:Int),
   e=.returned (vI r0)/\K r0/\Bel w0 w':=by
 unfold Sr at h
 refine cof ZDh rfl 25 Tryz.ntmps121 ?_
 have B:=ZCu (X:=Nox) w0 [ZB8 TInts a0 [Ia] Ib] (al1 q0);refine sr (Yg (v:=.agg (ZB7 (ZB6 .u8 a1))) B (ZB6 .u8 a1) rfl rfl λb2 w4 O B=>Zd (v:=vI 0) rfl (dn (sr (Zd (v:=vI 0) rfl (dn (ZB9 (sr (Zd (v:=vI 0) rfl (dn (ZCf ?_))))))))))
 have ac:a0.length<=9223372036854775807:=Yz (B.Iw 0 rfl);refine Yh (S:=Int) _ _ (λA I e_ w_=>Zt e_ [(0,Ia),(3,vQ b2),(5,vI I),(6,vI (A:Int))]/\Ctx Nox w0 w_ [blk b2 136 (ZB6 .u8 a1)] [ZB8 TInts a0 [Ia] Ib]) a0.length ?_ ?_ (s0:=0) ?_ h
 ·clear B h;rintro A I e_ ak aj ag U ⟨aa,B⟩ h ad;rw [ue aa];refine ZB9 (sr (Za (v:=vI (A:Int)) rfl (Za (v:=Ia) rfl (Zu B 0 rfl ZCs rfl (Zl rfl rfl (dn (Z8 rfl (decide_eq_true (by omega)) (ZCd (Ze (ZB9 (ZCf ?_)))))))))))
  refine cwd 10 Ym [0,0,0,6,14,0,32,96,224,510,1023,2047] [3,4,6,7] [0,1,2,5,8,9] (λV L al O=>?_)
  replace B:=B.Iy O;refine bM 0 (vI I) rfl L (Zc 12 1) (bM 1 (Ia) rfl L (Zc 12 3) (bM 2 (vI (A:Int)) rfl L (Zc 12 7) ?_))
  obtain ⟨ae,am,ab⟩:=Zx (B.Iw 0 rfl) A U;refine bL 3 (.pointer (some (ae.add (A * 1)))) rfl rfl V (λ_ O=>by exact Y3 (len:=a0.length) ZCs sc2.size (by exact tr rfl ab) rfl (ZCq _) (ZC9.2 U)) (Zc 12 15) (bL 4 (vI (a0.getD A Ci)) rfl rfl V (λ_ O=>by exact Xp (vI (a0.getD A Ci)) (Yi ((B.Iy O).Iw 0 rfl) ab A U) sc2 rfl) (Zc 12 31) (bM 5 (vI (A:Int)) rfl L (Zc 12 63) ?_))
  obtain ⟨⟨ah,ai⟩,h⟩:=h;refine bL 6 (.pointer (some ⟨b2,A,none⟩)) rfl rfl V (λ_ O=>by exact Wv A ZCr sc5.size rfl rfl ah ai (by omega)) (Zc 12 127) (bL 7 (.int .u8 (a1.get A)) rfl rfl V (λ_ O=>by exact Yj (B.Iy O) 0 (.int .u8 (a1.get A)) rfl sc5 rfl (ZCm _ _ (show A < 8 by omega))) (Zc 12 255) (bF 8 (vI (Zwt.wrap (a1.get A))) rfl rfl L (λ_=>by exact Zen ZDc ZDj rfl) (Zc 12 511) (bF 9 (vI (Zwt.wrap ((a0.getD A Ci) * (Zwt.wrap (a1.get A))))) rfl rfl L (λ_=>by exact Tv rfl rfl) (Zc 12 1023) (Z5 10 (by decide) (by decide) (by kernel_rfl) (by kernel_rfl) rfl (Zm rfl rfl (Zd (v:=vI (Zwt.wrap (I+(Zwt.wrap ((a0.getD A Ci) * (Zwt.wrap (a1.get A))))))) rfl (done (Z6 (Zr (Ze (Zh (Za (v:=vI (A:Int)) rfl (Zm rfl rfl (Zd (v:=vI (Zwt.wrap ((A:Int)+1))) rfl (done ?_)))))))))))))))
  exact ad (Zwt.wrap (I+(Zwt.wrap ((a0.getD A Ci) * (Zwt.wrap (a1.get A)))))) _ _ ⟨(sl ⟨rfl,rfl,rfl,(tr rfl (I1 _ (Z2 U ac))),trivial⟩),B⟩ h
 ·clear B h;rintro I e_ an ag ⟨aa,B⟩ h;rw [ue aa];refine ZB9 (sr (Za (v:=vI (a0.length:Int)) rfl (Za (v:=Ia) rfl (Zu B 0 rfl ZCs rfl (Zl rfl rfl (dn (Z4 rfl (decide_eq_false (by omega)) ?_)))))))
  refine ZCo (Zi (Zi (Zy ?_)))
  refine Ze (sr (Za (v:=vI I) rfl (Zd (v:=vI I) rfl (dn (ZCi ?_)))))
  exact Zj rfl (Zg rfl) ⟨I,rfl,h,B.below⟩ (.inl rfl)
 ·skip;exact⟨(slq rfl),B⟩
def Kj (I:List Int) (O:ZCb) (K:Int->Bool->Prop):Prop :=
 (if(O.terms.length:Int)=0 then K (-1) true else((0<=(0:Int)/\(0:Int) < (O.terms.length:Int))/\Sr I ((O.terms.getD 0 Ci).mono) (λA=>Xv (λ(h:Int) B=>(if h < (O.terms.length:Int) then((0<=h/\h < (O.terms.length:Int))/\Sr I ((O.terms.getD h.toNat Ci).mono) (λL=>(if L≠A then K 0 false else B (Zwt.wrap (h+1))))) else K A true)) 1)))
theorem Zme (V:List Int) (a1:ZCb)  {K:Int->Bool->Prop} (h:Kj V a1 K) (w0:World) (q0:TInts.rep V [Ia] Ib w0) (q1:ZCv.rep a1 [Ie] Ig w0) :
  Calls ZCc 69 #[Ia,.agg #[Ie]] w0 λe w'=>∃ (r0:Int) (r1:Bool),
   e=.returned (.tuple #[vI r0,.bool r1])/\K r0 r1/\Bel w0 w':=by
 unfold Kj at h
 refine cof Tryz.func69 rfl 37 Tryz.ntmps69 ?_
 have A:=ZCu (X:=Nox) w0 [ZB8 TInts V [Ia] Ib,ZB8 TForm a1 [Ie] Ig] (alc q0 (al1 q1));have ag:=(A.Iw 1 rfl);replace A:=A.I0 1 rfl (ZB8 ZCa.ty.sl a1.terms [Ie] Ig) (λ_=>(Xq ag)) (λ_ ah=>ah)
 refine sr (Yg (v:=.agg #[Ie]) A [Ie] rfl rfl λb5 w7 aq A=>Zd (v:=vI 0) rfl (Zd (v:=.bool false) rfl (dn (ZB9 (sr (Z0 0 ZCg rfl Ii.size rfl rfl (Yc A 0 (Ie) rfl Ii rfl rfl (Zu A 0 rfl ZCj rfl (X6 rfl rfl (dn ?_))))))))))
 refine Zs rfl (λL=>?_) (λL=>?_)
 ·replace h:=ift h (ct L);refine sr (Zd (v:=vI (-1)) rfl (Zd (v:=.bool true) rfl (dn ?_)))
  refine ZCi (Zn ?_)
  exact Jw rfl (Zg rfl) (Zg rfl) ⟨(-1),true,rfl,h,A.below⟩ (.inl rfl)
 ·replace h:=Zk h (cf L);refine ZCd (Ze (sr (Za (v:=Ia) rfl (Z0 0 ZCg rfl Ii.size rfl rfl (Yc A 0 (Ie) rfl Ii rfl rfl ?_)))))
  obtain ⟨⟨ai,aj⟩,h⟩:=h;obtain ⟨an,ar,aa⟩:=Zx (A.Iw 0 rfl) 0 (show 0 < a1.terms.length by omega)
  refine Yn (len:=a1.terms.length) ZCj ag162.size (tr rfl aa) rfl ai aj (Qm (0 * 9+0) ZCp rfl ag136.size rfl rfl (Ji (ZB6 .u8 ((a1.terms.getD 0 Ci).mono)) (Wg (o:=0) (k:=8) (Yi (A.Iw 0 rfl) aa 0 (show 0 < a1.terms.length by omega)) rfl) ag136 rfl rfl (Zf [Ia,.agg (ZB7 (ZB6 .u8 ((a1.terms.getD 0 Ci).mono)))] _ ZDh rfl rfl rfl (Za6 V ((a1.terms.getD 0 Ci).mono) h _ (A.Iw 1 rfl)) ?_)))
  rintro _ au ⟨I,rfl,h,ac⟩;refine rt ?_
  replace A:=A.Iy ac;refine Zd (v:=vI I) rfl (dn (ZB9 (sr (Zd (v:=vI 1) rfl (dn (ZCf ?_))))))
  refine Jb (S:=Int) _ (λB e_ w_=>Zt e_ [(0,Ia),(3,vQ b5),(6,vI I),(7,vI B)]/\Ctx Nox w0 w_ [blk b5 55 [Ie]] [ZB8 ZCa.ty.sl a1.terms [Ie] Ig,ZB8 TInts V [Ia] Ib,ZB8 TForm a1 [Ie] Ig]) ?_ (s0:=1) ?_ h
  ·clear A h;rintro B e_ av ao aw ⟨ak,A⟩ h ad;rw [ue ak];refine ZB9 (sr (Za (v:=vI B) rfl (Z0 0 ZCg rfl Ii.size rfl rfl (Yc A 0 (Ie) rfl Ii rfl rfl (Zu A 0 rfl ZCj rfl (Zl rfl rfl (dn ?_)))))))
   refine Zs rfl (λO=>?_) (λO=>?_)
   ·replace h:=ift h (ct O);refine ZCd (Ze (ZB9 (ZCf (sr (Za (v:=Ia) rfl (Z0 0 ZCg rfl Ii.size rfl rfl (Yc A 0 (Ie) rfl Ii rfl rfl (Za (v:=vI B) rfl ?_))))))))
    obtain ⟨⟨al,am⟩,h⟩:=h;obtain ⟨ap,ax,ab⟩:=Zx (A.Iw 0 rfl) B.toNat (show B.toNat < a1.terms.length by omega)
    refine Yn (len:=a1.terms.length) ZCj ag162.size (tr rfl ab) rfl al am (Qm (B.toNat * 9+0) ZCp rfl ag136.size rfl rfl (Ji (ZB6 .u8 ((a1.terms.getD B.toNat Ci).mono)) (Wg (o:=0) (k:=8) (Yi (A.Iw 0 rfl) ab B.toNat (show B.toNat < a1.terms.length by omega)) rfl) ag136 rfl rfl (Zf [Ia,.agg (ZB7 (ZB6 .u8 ((a1.terms.getD B.toNat Ci).mono)))] _ ZDh rfl rfl rfl (Za6 V ((a1.terms.getD B.toNat Ci).mono) h _ (A.Iw 1 rfl)) ?_)))
    rintro _ ay ⟨az,rfl,h,ae⟩;refine rt ?_
    replace A:=A.Iy ae;refine Za (v:=vI I) rfl (Xl rfl rfl (dn ?_))
    refine Zs rfl (λU=>?_) (λU=>?_)
    ·replace h:=ift h (ct U);refine sr (Zd (v:=vI 0) rfl (Zd (v:=.bool false) rfl (dn ?_)))
     refine ZCi (Z9 (Zn (Zn (Z9 (Zn ?_)))))
     exact Jw rfl (Zg rfl) (Zg rfl) ⟨0,false,rfl,h,A.below⟩ (.inl rfl)
    ·replace h:=Zk h (cf U);refine ZCd (Zr (Ze (Zh (Za (v:=vI B) rfl (Zm rfl rfl (Zd (v:=vI (Zwt.wrap (B+1))) rfl (done ?_)))))))
     exact ad (Zwt.wrap (B+1)) _ _ ⟨(slq rfl),A⟩ h
   ·replace h:=Zk h (cf O);refine ZCo (Zi (Zi (Zy ?_)))
    refine Ze (sr (Za (v:=vI I) rfl (Zd (v:=vI I) rfl (Zd (v:=.bool true) rfl (dn (ZCi ?_))))))
    exact Jw rfl (Zg rfl) (Zg rfl) ⟨I,true,rfl,h,A.below⟩ (.inl rfl)
  ·skip;exact⟨(slq rfl),A⟩
def Uy (a0:Alg) (a1:ZCb) (K:ZCb->Prop):Prop :=
 Xv (λ(A:(List Term)×Int) U=>(if A.2 < (a1.terms.length:Int) then((0<=A.2/\A.2 < (a1.terms.length:Int))/\Xv (λ(h:(List Term)×Int) O=>(if h.2 < (a0.degrees.length:Int) then((0<=h.2/\h.2 < 8)/\(if((a1.terms.getD A.2.toNat Ci).mono).get h.2.toNat=0 then O (h.1,Zwt.wrap (h.2+1)) else Z1 (λI (B:A8×A8) L=>(if(I:Int)≥h.2 then(if(I:Int)<=h.2 then L (B.1.set I 0,B.2.set I 0) else L (B.1.set I 0,B.2)) else(if(I:Int)<=h.2 then L (B.1,B.2.set I 0) else L (B.1,B.2)))) (λ(B:A8×A8)=>((0<=h.2/\h.2 < 8)/\((0<=h.2/\h.2 < 8)/\((0<=A.2/\A.2 < (a1.terms.length:Int))/\((0<=h.2/\h.2 < 8)/\Sr a0.degrees B.1 (λV=>(if Fa V 2≠0 then((0<=h.2/\h.2 < (a0.images.length:Int))/\Wh (B.1.set h.2.toNat (ZCl.wrap ((((a1.terms.getD A.2.toNat Ci).mono).get h.2.toNat) - 1))) 1 (λaa=>Ww a0.degrees aa (a0.images.getD h.2.toNat Ci) (λab=>Wh B.2 1 (λac=>Ww a0.degrees ab ac (λad=>Jk (Zwt.wrap (0 - (Zwt.wrap (((a1.terms.getD A.2.toNat Ci).factor) * (Zwt.wrap (((a1.terms.getD A.2.toNat Ci).mono).get h.2.toNat)))))) (λae=>V3 (⟨h.1⟩:ZCb) ad ae (λag=>O (ag.terms,Zwt.wrap (h.2+1))))))))) else((0<=h.2/\h.2 < (a0.images.length:Int))/\Wh (B.1.set h.2.toNat (ZCl.wrap ((((a1.terms.getD A.2.toNat Ci).mono).get h.2.toNat) - 1))) 1 (λah=>Ww a0.degrees ah (a0.images.getD h.2.toNat Ci) (λai=>Wh B.2 1 (λaj=>Ww a0.degrees ai aj (λak=>Jk (Zwt.wrap (((a1.terms.getD A.2.toNat Ci).factor) * (Zwt.wrap (((a1.terms.getD A.2.toNat Ci).mono).get h.2.toNat)))) (λal=>V3 (⟨h.1⟩:ZCb) ak al (λam=>O (am.terms,Zwt.wrap (h.2+1)))))))))))))))) 8 0 ((a1.terms.getD A.2.toNat Ci).mono,(a1.terms.getD A.2.toNat Ci).mono))) else U (h.1,Zwt.wrap (A.2+1)))) (A.1,0)) else K (⟨A.1⟩:ZCb))) ([],0)
theorem Ml (a0:Alg) (a1:ZCb)  {K:ZCb->Prop} (h:Uy a0 a1 K) (w0:World) (q0:TAlg.rep a0 [Ia,Ic] Ib w0) (q1:ZCv.rep a1 [Ie] Ig w0) :
  Calls ZCc 71 #[.agg #[Ia,Ic],.agg #[Ie]] w0 λe w'=>∃ (r0:ZCb) (Ih:Value) (de:List Nat),
   e=.returned (.agg #[Ih])/\K r0/\(ZCn (Y0 162) r0 [Ih] de).holds w'/\(∀ b,b∈de->w0.heap.size<=b)/\Bel w0 w':=by
 unfold Uy at h
 refine cof Tryz.func71 rfl 103 Tryz.ntmps71 ?_
 have A:=ZCu (X:=Nox) w0 [ZB8 TAlg a0 [Ia,Ic] Ib,ZB8 TForm a1 [Ie] Ig] (alc q0 (al1 q1));replace A:=A.dAlg 0 rfl;have gc:=(A.Iw 3 rfl);replace A:=A.I0 3 rfl (ZB8 ZCa.ty.sl a1.terms [Ie] Ig) (λ_=>(Xq gc)) (λ_ bo=>bo)
 refine sr (Yg (v:=.agg #[Ia,Ic]) A [Ia,Ic] rfl rfl λb7 w9 L A=>Yg (v:=.agg #[Ie]) A [Ie] rfl rfl λac hu L A=>Yt A [.slice none 0 0] z55 rfl λae hv L A=>dn (sr (Wk [] rfl (Mh   _) (Yt A [.slice none 0 0] z55 rfl λag hw L A=>Z7 (v:=.agg #[.slice none 0 0]) A 0 [.slice none 0 0] [.slice none 0 0] rfl ag55.size rfl rfl rfl rfl rfl (ZCh rfl) rfl λhx A=>dn (ZB9 (sr (Zd (v:=vI 0) rfl (dn (ZCf ?_)))))))))
 refine Jb (S:=(List Term)×Int) _ (λI e_ w_=>∃ (ai:Value),Zt e_ [(2,vQ b7),(3,vQ ac),(4,vQ ae),(5,vQ ag),(6,vI I.2)]/\Ctx Nox w0 w_ [own 162 9 ai I.1.length (ZCa.encs I.1),blk ag 55 [ai],blk ae 55 [.slice none 0 0],blk ac 55 [Ie],blk b7 32 [Ia,Ic]] [ZB8 ZCa.ty.sl a1.terms [Ie] Ig,ZB8 ZCv.sl a0.images [Ic] Ib,ZB8 TInts a0.degrees [Ia] Ib,ZB8 TAlg a0 [Ia,Ic] Ib,ZB8 TForm a1 [Ie] Ig]) ?_ (s0:=([],0)) ?_ h
 ·clear A h;rintro I e_ hy hr hz ⟨ai,ad,A⟩ h di;rw [ue ad];refine ZB9 (sr (Za (v:=vI I.2) rfl (Z0 0 ZCg rfl Ii.size rfl rfl (Yc A 3 (Ie) rfl Ii rfl rfl (Zu A 0 rfl ZCj rfl (Zl rfl rfl (dn ?_)))))))
  refine Zs rfl (λbs=>?_) (λbs=>?_)
  ·replace h:=ift h (ct bs);refine ZCd (Ze (ZB9 (ZCf (sr (Z0 0 ZCg rfl Ii.size rfl rfl (Yc A 3 (Ie) rfl Ii rfl rfl (Za (v:=vI I.2) rfl ?_)))))))
   obtain ⟨⟨gf,gg⟩,h⟩:=h;obtain ⟨hs,h0,cm⟩:=Zx (A.Iw 0 rfl) I.2.toNat (show I.2.toNat < a1.terms.length by omega)
   refine Yn (len:=a1.terms.length) ZCj ag162.size (tr rfl cm) rfl gf gg (Qm (I.2.toNat * 9+0) ZCp rfl ag136.size rfl rfl (Ji (ZB6 .u8 ((a1.terms.getD I.2.toNat Ci).mono)) (Wg (o:=0) (k:=8) (Yi (A.Iw 0 rfl) cm I.2.toNat (show I.2.toNat < a1.terms.length by omega)) rfl) ag136 rfl rfl (Yt A (ZB6 .u8 ZCe) Uc rfl λah h1 L A=>Z7 (v:=.agg (ZB7 (ZB6 .u8 ((a1.terms.getD I.2.toNat Ci).mono)))) A 0 (ZB6 .u8 ((a1.terms.getD I.2.toNat Ci).mono)) (ZB6 .u8 ((a1.terms.getD I.2.toNat Ci).mono)) rfl ag136.size rfl rfl rfl rfl rfl (ZCh rfl) rfl λh2 A=>dn (sr (Zd (v:=vI 0) rfl (dn (ZCf ?_)))))))
   refine Jb (S:=(List Term)×Int) _ (λB e_ w_=>∃ (aa:Value),Zt e_ [(2,vQ b7),(3,vQ ac),(4,vQ ae),(5,vQ ag),(6,vI I.2),(7,vQ ah),(8,vI B.2)]/\Ctx Nox w0 w_ [own 162 9 aa B.1.length (ZCa.encs B.1),blk ah 136 (ZB6 .u8 ((a1.terms.getD I.2.toNat Ci).mono)),blk ag 55 [aa],blk ae 55 [.slice none 0 0],blk ac 55 [Ie],blk b7 32 [Ia,Ic]] [ZB8 ZCa.ty.sl a1.terms [Ie] Ig,ZB8 ZCv.sl a0.images [Ic] Ib,ZB8 TInts a0.degrees [Ia] Ib,ZB8 TAlg a0 [Ia,Ic] Ib,ZB8 TForm a1 [Ie] Ig]) ?_ (s0:=(I.1,0)) ?_ h
   ·clear A h;rintro B e_ h3 bk h4 ⟨aa,ad,A⟩ h bt;rw [ue ad];refine ZB9 (sr (Za (v:=vI B.2) rfl (Z0 0 ZCt rfl If.size rfl rfl (Yc A 5 (Ia) rfl If rfl rfl (Zu A 2 rfl ZCs rfl (Zl rfl rfl (dn ?_)))))))
    refine Zs rfl (λbu=>?_) (λbu=>?_)
    ·replace h:=ift h (ct bu);refine ZCd (Ze (ZB9 (ZCf (ZB9 (sr (Za (v:=vI B.2) rfl ?_))))))
     obtain ⟨⟨gh,gi⟩,h⟩:=h;refine X0 B.2.toNat ZCr sc5.size rfl rfl gh gi (by omega) (Yc A 1 (.int .u8 (((a1.terms.getD I.2.toNat Ci).mono).get B.2.toNat)) rfl sc5 rfl (ZCm _ _ (show B.2.toNat < 8 by omega)) (X6 rfl rfl (dn ?_)))
     refine Zs rfl (λbv=>?_) (λbv=>?_)
     ·replace h:=ift h (ct bv);refine ZCo (Zi (Zy ?_))
      refine Ze (Zh (Za (v:=vI B.2) rfl (Zm rfl rfl (Zd (v:=vI (Zwt.wrap (B.2+1))) rfl (done ?_)))))
      exact bt (B.1,Zwt.wrap (B.2+1)) _ _ ⟨aa,(slq rfl),A⟩ h
     ·replace h:=Zk h (cf bv);refine ZCd (Ze (ZB9 ?_))
      refine Za0 5 Ym [0,0,0,0,13,31] [0,1] [] (λcn ht dg L=>?_)
      replace A:=A.Iy L;have V:dg.heap.size<=dg.heap.size:=Cg _;refine W0 (Xf _) 0 (.agg (ZB7 (ZB6 .u8 ((a1.terms.getD I.2.toNat Ci).mono)))) rfl rfl (by kernel_rfl) (cn 0 rfl) (λw_ L=>.inl ⟨rfl,by exact Y6 (A.Iy (Td L)) 1 (ZB6 .u8 ((a1.terms.getD I.2.toNat Ci).mono)) rfl ag136 rfl rfl rfl⟩) (l9:=(Zc 6 1)) (by kernel_rfl) (W0 (Xf _) 1 (.agg (ZB7 (ZB6 .u8 ((a1.terms.getD I.2.toNat Ci).mono)))) rfl rfl (by kernel_rfl) (cn 1 rfl) (λw_ L=>.inl ⟨rfl,by exact Y6 (A.Iy (Td L)) 1 (ZB6 .u8 ((a1.terms.getD I.2.toNat Ci).mono)) rfl ag136 rfl rfl rfl⟩) (l9:=(Zc 6 3)) (by kernel_rfl) ?_)
      refine U8 (λe_ w_=>∃ (aj:Nat),∃ (bp:Nat),Zt e_ [(2,vQ b7),(3,vQ ac),(4,vQ ae),(5,vQ ag),(6,vI I.2),(7,vQ ah),(8,vI B.2),(9,vQ bp),(10,vQ aj)]/\Ctx Nox w0 w_ [blk aj 136 (ZB6 .u8 ((a1.terms.getD I.2.toNat Ci).mono)),blk bp 136 (ZB6 .u8 ((a1.terms.getD I.2.toNat Ci).mono)),own 162 9 aa B.1.length (ZCa.encs B.1),blk ah 136 (ZB6 .u8 ((a1.terms.getD I.2.toNat Ci).mono)),blk ag 55 [aa],blk ae 55 [.slice none 0 0],blk ac 55 [Ie],blk b7 32 [Ia,Ic]] [ZB8 ZCa.ty.sl a1.terms [Ie] Ig,ZB8 ZCv.sl a0.images [Ic] Ib,ZB8 TInts a0.degrees [Ia] Ib,ZB8 TAlg a0 [Ia,Ic] Ib,ZB8 TForm a1 [Ie] Ig]/\(Z1 (λU (O:A8×A8) aq=>(if(U:Int)≥B.2 then(if(U:Int)<=B.2 then aq (O.1.set U 0,O.2.set U 0) else aq (O.1.set U 0,O.2)) else(if(U:Int)<=B.2 then aq (O.1,O.2.set U 0) else aq (O.1,O.2)))) (λ(O:A8×A8)=>((0<=B.2/\B.2 < 8)/\((0<=B.2/\B.2 < 8)/\((0<=I.2/\I.2 < (a1.terms.length:Int))/\((0<=B.2/\B.2 < 8)/\Sr a0.degrees O.1 (λdh=>(if Fa dh 2≠0 then((0<=B.2/\B.2 < (a0.images.length:Int))/\Wh (O.1.set B.2.toNat (ZCl.wrap ((((a1.terms.getD I.2.toNat Ci).mono).get B.2.toNat) - 1))) 1 (λar=>Ww a0.degrees ar (a0.images.getD B.2.toNat Ci) (λa4=>Wh O.2 1 (λak=>Ww a0.degrees a4 ak (λal=>Jk (Zwt.wrap (0 - (Zwt.wrap (((a1.terms.getD I.2.toNat Ci).factor) * (Zwt.wrap (((a1.terms.getD I.2.toNat Ci).mono).get B.2.toNat)))))) (λa5=>V3 (⟨B.1⟩:ZCb) al a5 (λam=>bk (am.terms,Zwt.wrap (B.2+1))))))))) else((0<=B.2/\B.2 < (a0.images.length:Int))/\Wh (O.1.set B.2.toNat (ZCl.wrap ((((a1.terms.getD I.2.toNat Ci).mono).get B.2.toNat) - 1))) 1 (λau=>Ww a0.degrees au (a0.images.getD B.2.toNat Ci) (λa6=>Wh O.2 1 (λan=>Ww a0.degrees a6 an (λao=>Jk (Zwt.wrap (((a1.terms.getD I.2.toNat Ci).factor) * (Zwt.wrap (((a1.terms.getD I.2.toNat Ci).mono).get B.2.toNat)))) (λa7=>V3 (⟨B.1⟩:ZCb) ao a7 (λap=>bk (ap.terms,Zwt.wrap (B.2+1)))))))))))))))) 8 0 ((a1.terms.getD I.2.toNat Ci).mono,(a1.terms.getD I.2.toNat Ci).mono))) ?_ ?_
      ·clear A h;rintro e_ h5 ⟨aj,bp,ad,A,h⟩;rw [ue ad];refine Ze (ZB9 (sr (Zd (v:=vI 0) rfl (dn (ZCf ?_)))))
       refine Yh (S:=A8×A8) _ _ (λU O e_ w_=>Zt e_ [(2,vQ b7),(3,vQ ac),(4,vQ ae),(5,vQ ag),(6,vI I.2),(7,vQ ah),(8,vI B.2),(9,vQ bp),(10,vQ aj),(11,vI (U:Int))]/\Ctx Nox w0 w_ [blk aj 136 (ZB6 .u8 O.2),blk bp 136 (ZB6 .u8 O.1),own 162 9 aa B.1.length (ZCa.encs B.1),blk ah 136 (ZB6 .u8 ((a1.terms.getD I.2.toNat Ci).mono)),blk ag 55 [aa],blk ae 55 [.slice none 0 0],blk ac 55 [Ie],blk b7 32 [Ia,Ic]] [ZB8 ZCa.ty.sl a1.terms [Ie] Ig,ZB8 ZCv.sl a0.images [Ic] Ib,ZB8 TInts a0.degrees [Ia] Ib,ZB8 TAlg a0 [Ia,Ic] Ib,ZB8 TForm a1 [Ie] Ig]) 8 ?_ ?_ (s0:=((a1.terms.getD I.2.toNat Ci).mono,(a1.terms.getD I.2.toNat Ci).mono)) ?_ h
       ·clear A h;rintro U O e_ h6 aq gj ab ⟨ad,A⟩ h bl;rw [ue ad];refine ZB9 (sr (Za (v:=vI (U:Int)) rfl (Zl rfl rfl (dn (Z8 rfl (decide_eq_true (by omega)) (ZCd (Ze (ZB9 (ZCf (ZB9 (sr (Za (v:=vI (U:Int)) rfl (Za (v:=vI B.2) rfl (Wp rfl rfl (dn ?_)))))))))))))))
        refine Zs rfl (λbw=>?_) (λbw=>?_)
        ·replace h:=ift h (ct bw);refine Zh (Za (v:=vI (U:Int)) rfl (X0 U ZCr sc5.size rfl rfl (ZCq _) (by omega) (by omega) (Z7 (v:=.int .u8 0) A 1 [.int .u8 0] (ZB6 .u8 (O.1.set U 0)) rfl sc5.size rfl rfl rfl rfl rfl ab (ZC3 _ _ _ ab) λh7 A=>dn (sr (Za (v:=vI (U:Int)) rfl (Za (v:=vI B.2) rfl (Ut rfl rfl (dn ?_))))))))
         refine Zs rfl (λbx=>?_) (λbx=>?_)
         ·replace h:=ift h (ct bx);refine Zh (Za (v:=vI (U:Int)) rfl (X0 U ZCr sc5.size rfl rfl (ZCq _) (by omega) (by omega) (Z7 (v:=.int .u8 0) A 0 [.int .u8 0] (ZB6 .u8 (O.2.set U 0)) rfl sc5.size rfl rfl rfl rfl rfl ab (ZC3 _ _ _ ab) λh8 A=>done (Zr (Ze (Zh (Za (v:=vI (U:Int)) rfl (Zm rfl rfl (Zd (v:=vI (Zwt.wrap ((U:Int)+1))) rfl (done ?_))))))))))
          exact bl (O.1.set U 0,O.2.set U 0) _ _ ⟨(sl ⟨rfl,rfl,rfl,rfl,rfl,rfl,rfl,rfl,rfl,(tr rfl (I1 _ (Z2 ab (by decide)))),trivial⟩),A⟩ h
         ·replace h:=Zk h (cf bx);refine ZCd (Zr (Ze (Zh (Za (v:=vI (U:Int)) rfl (Zm rfl rfl (Zd (v:=vI (Zwt.wrap ((U:Int)+1))) rfl (done ?_)))))))
          exact bl (O.1.set U 0,O.2) _ _ ⟨(sl ⟨rfl,rfl,rfl,rfl,rfl,rfl,rfl,rfl,rfl,(tr rfl (I1 _ (Z2 ab (by decide)))),trivial⟩),A⟩ h
        ·replace h:=Zk h (cf bw);refine ZCd (Ze (sr (Za (v:=vI (U:Int)) rfl (Za (v:=vI B.2) rfl (Ut rfl rfl (dn ?_))))))
         refine Zs rfl (λbz=>?_) (λbz=>?_)
         ·replace h:=ift h (ct bz);refine Zh (Za (v:=vI (U:Int)) rfl (X0 U ZCr sc5.size rfl rfl (ZCq _) (by omega) (by omega) (Z7 (v:=.int .u8 0) A 0 [.int .u8 0] (ZB6 .u8 (O.2.set U 0)) rfl sc5.size rfl rfl rfl rfl rfl ab (ZC3 _ _ _ ab) λh9 A=>done (Zr (Ze (Zh (Za (v:=vI (U:Int)) rfl (Zm rfl rfl (Zd (v:=vI (Zwt.wrap ((U:Int)+1))) rfl (done ?_))))))))))
          exact bl (O.1,O.2.set U 0) _ _ ⟨(sl ⟨rfl,rfl,rfl,rfl,rfl,rfl,rfl,rfl,rfl,(tr rfl (I1 _ (Z2 ab (by decide)))),trivial⟩),A⟩ h
         ·replace h:=Zk h (cf bz);refine ZCd (Zr (Ze (Zh (Za (v:=vI (U:Int)) rfl (Zm rfl rfl (Zd (v:=vI (Zwt.wrap ((U:Int)+1))) rfl (done ?_)))))))
          exact bl (O.1,O.2) _ _ ⟨(sl ⟨rfl,rfl,rfl,rfl,rfl,rfl,rfl,rfl,rfl,(tr rfl (I1 _ (Z2 ab (by decide)))),trivial⟩),A⟩ h
       ·clear A h;rintro O e_ ia gj ⟨ad,A⟩ h;rw [ue ad];refine ZB9 (sr (Za (v:=vI 8) rfl (Zl rfl rfl (dn (Z4 rfl (decide_eq_false (by omega)) ?_)))))
        refine ZCo (Zi (Zi (Zy ?_)))
        refine Ze (sr (Yr A 1 (ZB6 .u8 O.1) rfl ag136 rfl rfl rfl (Yt A (ZB6 .u8 ZCe) Uc rfl λib ic L A=>Z7 (v:=.agg (ZB7 (ZB6 .u8 O.1))) A 0 (ZB6 .u8 O.1) (ZB6 .u8 O.1) rfl ag136.size rfl rfl rfl rfl rfl (ZCh rfl) rfl λie A=>dn (sr (Za (v:=vI B.2) rfl (Za (v:=vI B.2) rfl ?_))))))
        obtain ⟨⟨gk,gl⟩,h⟩:=h;refine X0 B.2.toNat ZCr sc5.size rfl rfl gk gl (by omega) (Yc A 4 (.int .u8 (((a1.terms.getD I.2.toNat Ci).mono).get B.2.toNat)) rfl sc5 rfl (ZCm _ _ (show B.2.toNat < 8 by omega)) (X5 rfl rfl ?_))
        obtain ⟨⟨gm,gn⟩,h⟩:=h;refine X0 B.2.toNat ZCr sc5.size rfl rfl gm gn (by omega) (Z7 (v:=.int .u8 (ZCl.wrap ((((a1.terms.getD I.2.toNat Ci).mono).get B.2.toNat) - 1))) A 0 [.int .u8 (ZCl.wrap ((((a1.terms.getD I.2.toNat Ci).mono).get B.2.toNat) - 1))] (ZB6 .u8 (O.1.set B.2.toNat (ZCl.wrap ((((a1.terms.getD I.2.toNat Ci).mono).get B.2.toNat) - 1)))) rfl sc5.size rfl rfl rfl rfl rfl (show B.2.toNat < 8 by omega) (ZC3 _ _ _ (show B.2.toNat < 8 by omega)) λig A=>dn (ZB9 ?_))
        refine cwd 10 Ym [0,1,0,7,15,31,0,64,192,448,1023,2047] [1,3,5,7,8] [0,2,4,6,9] (λav aw ih L=>?_)
        replace A:=A.Iy L;refine bF 0 (vQ ac) rfl rfl aw (λ_=>by exact Yq 0 ZCg rfl Ii.size rfl rfl) (Zc 12 1) (bL 1 (Ie) rfl rfl av (λ_ L=>by exact Yj (A.Iy L) 7 (Ie) rfl Ii rfl rfl) (Zc 12 3) (bM 2 (vI I.2) rfl aw (Zc 12 7) ?_))
        obtain ⟨⟨go,gp⟩,h⟩:=h;obtain ⟨cp,ii,cq⟩:=Zx (A.Iw 0 rfl) I.2.toNat (show I.2.toNat < a1.terms.length by omega)
        refine bL 3 (.pointer (some (cp.add (I.2.toNat * 9)))) rfl rfl av (λ_ L=>by exact Y3 (len:=a1.terms.length) ZCj ag162.size (by exact tr rfl cq) rfl go gp) (Zc 12 15) (bF 4 (.pointer (some (cp.add (I.2.toNat * 9+8)))) rfl rfl aw (λ_=>by exact Vo (I.2.toNat * 9+8) ZCp rfl sc2.size rfl rfl) (Zc 12 31) (bL 5 (vI ((a1.terms.getD I.2.toNat Ci).factor)) rfl rfl av (λ_ L=>by exact Xp (vI ((a1.terms.getD I.2.toNat Ci).factor)) (Wg (o:=8) (k:=1) (Yi ((A.Iy L).Iw 0 rfl) cq I.2.toNat (show I.2.toNat < a1.terms.length by omega)) rfl) sc2 rfl) (Zc 12 63) (bM 6 (vI B.2) rfl aw (Zc 12 127) ?_)))
        obtain ⟨⟨gq,gr⟩,h⟩:=h;refine bL 7 (.pointer (some ⟨ah,B.2.toNat,none⟩)) rfl rfl av (λ_ L=>by exact Wv B.2.toNat ZCr sc5.size rfl rfl gq gr (by omega)) (Zc 12 255) (bL 8 (.int .u8 (((a1.terms.getD I.2.toNat Ci).mono).get B.2.toNat)) rfl rfl av (λ_ L=>by exact Yj (A.Iy L) 4 (.int .u8 (((a1.terms.getD I.2.toNat Ci).mono).get B.2.toNat)) rfl sc5 rfl (ZCm _ _ (show B.2.toNat < 8 by omega))) (Zc 12 511) (bF 9 (vI (Zwt.wrap (((a1.terms.getD I.2.toNat Ci).mono).get B.2.toNat))) rfl rfl aw (λ_=>by exact Zen ZDc ZDj rfl) (Zc 12 1023) (Z5 10 (by decide) (by decide) (by kernel_rfl) (by kernel_rfl) rfl (Wz rfl rfl (Zd (v:=vI (Zwt.wrap (((a1.terms.getD I.2.toNat Ci).factor) * (Zwt.wrap (((a1.terms.getD I.2.toNat Ci).mono).get B.2.toNat))))) rfl (done (Z6 (Ze (ZB9 (sr (Z0 0 ZCt rfl If.size rfl rfl (Yc A 8 (Ia) rfl If rfl rfl (Yr A 2 (ZB6 .u8 O.1) rfl ag136 rfl rfl rfl (Zf [Ia,.agg (ZB7 (ZB6 .u8 O.1))] _ ZDh rfl rfl rfl (Za6 a0.degrees O.1 h _ (A.Iw 2 rfl)) ?_))))))))))))))
        rintro _ ij ⟨dh,rfl,h,dj⟩;refine rt ?_
        replace A:=A.Iy dj;refine Jf rfl rfl (by decide) (Xl rfl rfl (dn ?_))
        refine Zs rfl (λb8=>?_) (λb8=>?_)
        ·replace h:=ift h (ct b8);refine Zh (Za (v:=vI (Zwt.wrap (((a1.terms.getD I.2.toNat Ci).factor) * (Zwt.wrap (((a1.terms.getD I.2.toNat Ci).mono).get B.2.toNat))))) rfl (G3 rfl (Zd (v:=vI (Zwt.wrap (0 - (Zwt.wrap (((a1.terms.getD I.2.toNat Ci).factor) * (Zwt.wrap (((a1.terms.getD I.2.toNat Ci).mono).get B.2.toNat))))))) rfl (dn (ZB9 ?_)))))
         refine cwd 11 Ym [0,1,0,4,0,16,0,112,240,511,0,2047] [1,2,5,7,8] [0,4,6] (λax b9 il L=>?_)
         replace A:=A.Iy L;refine bF 0 (vQ b7) rfl rfl b9 (λ_=>by exact Yq 0 ZCt rfl If.size rfl rfl) (Zc 12 1) (bL 1 (Ia) rfl rfl ax (λ_ L=>by exact Yj (A.Iy L) 8 (Ia) rfl If rfl rfl) (Zc 12 3) (bL 2 (.agg (ZB7 (ZB6 .u8 (O.1.set B.2.toNat (ZCl.wrap ((((a1.terms.getD I.2.toNat Ci).mono).get B.2.toNat) - 1)))))) rfl rfl ax (λ_ L=>by exact Y6 (A.Iy L) 0 (ZB6 .u8 (O.1.set B.2.toNat (ZCl.wrap ((((a1.terms.getD I.2.toNat Ci).mono).get B.2.toNat) - 1)))) rfl ag136 rfl rfl rfl) (Zc 12 7) (bF 4 (.pointer (some ⟨b7,1,none⟩)) rfl rfl b9 (λ_=>by exact Yq 1 ZCt rfl Il.size rfl rfl) (Zc 12 23) (bL 5 (Ic) rfl rfl ax (λ_ L=>by exact Yj (A.Iy L) 8 (Ic) rfl Il rfl rfl) (Zc 12 55) (bM 6 (vI B.2) rfl b9 (Zc 12 119) ?_)))))
         obtain ⟨⟨gs,gu⟩,h⟩:=h;obtain ⟨dk,im,cr⟩:=Zx (A.Iw 1 rfl) B.2.toNat (show B.2.toNat < a0.images.length by omega)
         refine bL 7 (.pointer (some (dk.add (B.2.toNat * 1)))) rfl rfl ax (λ_ L=>by exact Y3 (len:=a0.images.length) ZCx ag55.size (by exact tr rfl cr) rfl gs gu) (Zc 12 247) ?_
         obtain ⟨gv,cu,dm,cv⟩:=Xb (A.Iw 1 rfl) cr B.2.toNat (show B.2.toNat < a0.images.length by omega)
         obtain ⟨ay,rfl⟩:=ZC7.1 cu;clear cu;rw [Y9 _ _ (show B.2.toNat < a0.images.length by omega)] at cv
         have dp:=cv;replace A:=A.I0 1 rfl (ZB8 ZCa.ty.sl ((a0.images.getD B.2.toNat Ci).terms) [ay] Ib) (λ_=>(Xq dp)) (λ_ bo=>bo)
         refine bL 8 (.agg #[ay]) rfl rfl ax (λ_ L=>by exact Jq [ay] (Vd L dm) ag55 rfl rfl) (Zc 12 503) ?_
         refine U8 (λe_ w_=>∃ (cw:Nat),∃ (a8:Value),∃ (bq:ZCb),Zt e_ [(2,vQ b7),(3,vQ ac),(4,vQ ae),(5,vQ ag),(6,vI I.2),(7,vQ ah),(8,vI B.2),(10,vQ aj),(13,vI (Zwt.wrap (0 - (Zwt.wrap (((a1.terms.getD I.2.toNat Ci).factor) * (Zwt.wrap (((a1.terms.getD I.2.toNat Ci).mono).get B.2.toNat))))))),(14,vQ cw)]/\Ctx Nox w0 w_ [blk cw 55 [a8],own 162 9 a8 bq.terms.length (ZCa.encs bq.terms),blk aj 136 (ZB6 .u8 O.2),own 162 9 aa B.1.length (ZCa.encs B.1),blk ah 136 (ZB6 .u8 ((a1.terms.getD I.2.toNat Ci).mono)),blk ag 55 [aa],blk ae 55 [.slice none 0 0],blk ac 55 [Ie],blk b7 32 [Ia,Ic]] [ZB8 ZCa.ty.sl ((a0.images.getD B.2.toNat Ci).terms) [ay] Ib,ZB8 ZCa.ty.sl a1.terms [Ie] Ig,ZB8 ZCv.sl a0.images [Ic] Ib,ZB8 TInts a0.degrees [Ia] Ib,ZB8 TAlg a0 [Ia,Ic] Ib,ZB8 TForm a1 [Ie] Ig]/\(Wh O.2 1 (λak=>Ww a0.degrees bq ak (λal=>Jk (Zwt.wrap (0 - (Zwt.wrap (((a1.terms.getD I.2.toNat Ci).factor) * (Zwt.wrap (((a1.terms.getD I.2.toNat Ci).mono).get B.2.toNat)))))) (λa5=>V3 (⟨B.1⟩:ZCb) al a5 (λam=>bk (am.terms,Zwt.wrap (B.2+1)))))))) ?_ ?_
         ·clear A h;rintro e_ io ⟨cw,a8,bq,ad,A,h⟩;rw [ue ad];refine Ze ?_
          refine cwd 9 Ym [0,0,2,0,0,16,62,0,254,511,1023] [0,2,3,4] [1,7] (λbm cx ip L=>?_)
          replace A:=A.Iy L;refine bL 0 (.agg #[aa]) rfl rfl bm (λ_ L=>by exact Y6 (A.Iy L) 5 [aa] rfl ag55 rfl rfl rfl) (Zc 11 1) (bF 1 (vQ b7) rfl rfl cx (λ_=>by exact Yq 0 ZCt rfl If.size rfl rfl) (Zc 11 3) (bL 2 (Ia) rfl rfl bm (λ_ L=>by exact Yj (A.Iy L) 8 (Ia) rfl If rfl rfl) (Zc 11 7) (bL 3 (.agg #[a8]) rfl rfl bm (λ_ L=>by exact Y6 (A.Iy L) 0 [a8] rfl ag55 rfl rfl rfl) (Zc 11 15) (bL 4 (.agg (ZB7 (ZB6 .u8 O.2))) rfl rfl bm (λ_ L=>by exact Y6 (A.Iy L) 2 (ZB6 .u8 O.2) rfl ag136 rfl rfl rfl) (Zc 11 31) (bM 7 (vI (Zwt.wrap (0 - (Zwt.wrap (((a1.terms.getD I.2.toNat Ci).factor) * (Zwt.wrap (((a1.terms.getD I.2.toNat Ci).mono).get B.2.toNat))))))) rfl cx (Zc 11 159) (aO 5 rfl (Zf [.agg (ZB7 (ZB6 .u8 O.2)),vI 1] _ ZC2 rfl rfl rfl (T2 O.2 1 h _) ?_)))))))
          rintro _ iq ⟨ak,cy,gw,rfl,h,dq,dr,dt⟩;refine rt ?_
          replace A:=A.push dt (ZCn (Y0 162) ak [cy] gw) dq dr;obtain ⟨du,dv⟩:=X7 (A.Ix 0 rfl);subst dv;replace A:=A.Iz (c:=own 162 9 cy ak.terms.length (ZCa.encs ak.terms)) (λ_ h_=>h_) (λ_=>du)
          refine done (aK (by assumption) (Zc 11 191) (aO 6 rfl (Zf [Ia,.agg #[a8],.agg #[cy]] _ ZC0 rfl rfl rfl (Sq a0.degrees bq ak h _ (A.Iw 3 rfl) (Y1 (Yu (A.Ix 2 rfl))) (Y1 (Yu (A.Ix 0 rfl)))) ?_)))
          rintro _ ir ⟨al,cz,gx,rfl,h,dw,dx,dy⟩;refine rt ?_
          replace A:=A.push dy (ZCn (Y0 162) al [cz] gx) dw dx;obtain ⟨dz,d0⟩:=X7 (A.Ix 0 rfl);subst d0;replace A:=A.Iz (c:=own 162 9 cz al.terms.length (ZCa.encs al.terms)) (λ_ h_=>h_) (λ_=>dz)
          refine done (aK (by assumption) (Zc 11 255) (aO 8 rfl (Zf [vI (Zwt.wrap (0 - (Zwt.wrap (((a1.terms.getD I.2.toNat Ci).factor) * (Zwt.wrap (((a1.terms.getD I.2.toNat Ci).mono).get B.2.toNat))))))] _ ZCz rfl rfl rfl (Ud (Zwt.wrap (0 - (Zwt.wrap (((a1.terms.getD I.2.toNat Ci).factor) * (Zwt.wrap (((a1.terms.getD I.2.toNat Ci).mono).get B.2.toNat)))))) h _) ?_)))
          rintro _ iu ⟨a5,rfl,h,d1⟩;refine rt ?_
          replace A:=A.Iy d1;refine done (aK (by assumption) (Zc 11 511) (Z5 9 (by decide) (by decide) (by kernel_rfl) (by kernel_rfl) rfl (Zf [.agg #[aa],.agg #[cz],vI a5] _ ZDe rfl rfl rfl (Za5 (⟨B.1⟩:ZCb) al a5 h _ (Y1 (Yu (A.Ix 5 rfl))) (Y1 (Yu (A.Ix 0 rfl)))) ?_)))
          rintro _ iv ⟨am,a9,gy,rfl,h,d2,d3,d4⟩;refine rt ?_
          replace A:=A.push d4 (ZCn (Y0 162) am [a9] gy) d2 d3;obtain ⟨d5,d6⟩:=X7 (A.Ix 0 rfl);subst d6;replace A:=A.Iz (c:=own 162 9 a9 am.terms.length (ZCa.encs am.terms)) (λ_ h_=>h_) (λ_=>d5)
          refine Z7 (v:=.agg #[a9]) A 8 [a9] [a9] rfl ag55.size rfl rfl rfl rfl (Xy (Jc (A.Ix 0 rfl)) rfl) (ZCh rfl) rfl λiw A=>done (Z6 (Zr (Ze (Zh (Za (v:=vI B.2) rfl (Zm rfl rfl (Zd (v:=vI (Zwt.wrap (B.2+1))) rfl (done ?_))))))))
          exact bt (am.terms,Zwt.wrap (B.2+1)) _ _ ⟨a9,(slq rfl),((A.xM [0,7,8,9,10,11] rfl).sP [1,2,3,4,5] rfl)⟩ h
         refine Jp 3 10 rfl rfl (by kernel_rfl) ?_ ?_
         ·skip;refine Zf [.agg (ZB7 (ZB6 .u8 (O.1.set B.2.toNat (ZCl.wrap ((((a1.terms.getD I.2.toNat Ci).mono).get B.2.toNat) - 1))))),vI 1] _ ZC2 rfl rfl rfl (T2 (O.1.set B.2.toNat (ZCl.wrap ((((a1.terms.getD I.2.toNat Ci).mono).get B.2.toNat) - 1))) 1 h _) ?_
          rintro _ ix ⟨ar,cc,gz,rfl,h,d7,d8,d9⟩;refine rt ?_
          replace A:=A.push d9 (ZCn (Y0 162) ar [cc] gz) d7 d8;obtain ⟨ea,eb⟩:=X7 (A.Ix 0 rfl);subst eb;replace A:=A.Iz (c:=own 162 9 cc ar.terms.length (ZCa.encs ar.terms)) (λ_ h_=>h_) (λ_=>ea)
          refine done (aK (by assumption) (Zc 12 511) ?_)
          refine Jp 9 10 rfl rfl (by kernel_rfl) ?_ ?_
          ·skip;refine Zf [Ia,.agg #[cc],.agg #[ay]] _ ZC0 rfl rfl rfl (Sq a0.degrees ar (a0.images.getD B.2.toNat Ci) h _ (A.Iw 3 rfl) (Y1 (Yu (A.Ix 0 rfl))) (Y1 (A.Iw 0 rfl))) ?_
           rintro _ iy ⟨a4,ba,g0,rfl,h,ec,ed,ee⟩;refine rt ?_
           replace A:=A.push ee (ZCn (Y0 162) a4 [ba] g0) ec ed;obtain ⟨ef,eg⟩:=X7 (A.Ix 0 rfl);subst eg;replace A:=A.Iz (c:=own 162 9 ba a4.terms.length (ZCa.encs a4.terms)) (λ_ h_=>h_) (λ_=>ef)
           refine done (aK (by assumption) (Zc 12 1023) (aO 10 rfl (Yt A [.slice none 0 0] z55 rfl λg1 iz L A=>done (aK (by assumption) (Zc 12 2047) (Z5 11 (by decide) (by decide) (by kernel_rfl) (by kernel_rfl) rfl (Z7 (v:=.agg #[ba]) A 0 [ba] [ba] rfl ag55.size rfl rfl rfl rfl (Xy (Jc (A.Ix 1 rfl)) rfl) (ZCh rfl) rfl λi0 A=>done (Z6 ?_)))))))
           exact⟨rfl,_,rfl,⟨g1,ba,a4,(slq rfl),(A.xM [0,1,4,6,7,8,9,10,11] rfl),h⟩⟩
          ·skip;refine Yt A [.slice none 0 0] z55 rfl λg2 i1 L A=>done (aK (by assumption) (Zc 12 1535) (aO 9 rfl (Zf [Ia,.agg #[cc],.agg #[ay]] _ ZC0 rfl rfl rfl (Sq a0.degrees ar (a0.images.getD B.2.toNat Ci) h _ (A.Iw 3 rfl) (Y1 (Yu (A.Ix 1 rfl))) (Y1 (A.Iw 0 rfl))) ?_)))
           rintro _ i2 ⟨ce,bb,g3,rfl,h,eh,ei,ej⟩;refine rt ?_
           replace A:=A.push ej (ZCn (Y0 162) ce [bb] g3) eh ei;obtain ⟨ek,en⟩:=X7 (A.Ix 0 rfl);subst en;replace A:=A.Iz (c:=own 162 9 bb ce.terms.length (ZCa.encs ce.terms)) (λ_ h_=>h_) (λ_=>ek)
           refine done (aK (by assumption) (Zc 12 2047) (Z5 11 (by decide) (by decide) (by kernel_rfl) (by kernel_rfl) rfl (Z7 (v:=.agg #[bb]) A 1 [bb] [bb] rfl ag55.size rfl rfl rfl rfl (Xy (Jc (A.Ix 0 rfl)) rfl) (ZCh rfl) rfl λi3 A=>done (Z6 ?_))))
           exact⟨rfl,_,rfl,⟨g2,bb,ce,(slq rfl),(A.xM [1,0,4,6,7,8,9,10,11] rfl),h⟩⟩
         ·skip;refine Yt A [.slice none 0 0] z55 rfl λg4 i4 L A=>done (aK (by assumption) (Zc 12 1527) (aO 3 rfl (Zf [.agg (ZB7 (ZB6 .u8 (O.1.set B.2.toNat (ZCl.wrap ((((a1.terms.getD I.2.toNat Ci).mono).get B.2.toNat) - 1))))),vI 1] _ ZC2 rfl rfl rfl (T2 (O.1.set B.2.toNat (ZCl.wrap ((((a1.terms.getD I.2.toNat Ci).mono).get B.2.toNat) - 1))) 1 h _) ?_)))
          rintro _ i5 ⟨cg,c0,g5,rfl,h,eo,ep,er⟩;refine rt ?_
          replace A:=A.push er (ZCn (Y0 162) cg [c0] g5) eo ep;obtain ⟨es,et⟩:=X7 (A.Ix 0 rfl);subst et;replace A:=A.Iz (c:=own 162 9 c0 cg.terms.length (ZCa.encs cg.terms)) (λ_ h_=>h_) (λ_=>es)
          refine done (aK (by assumption) (Zc 12 1535) (aO 9 rfl (Zf [Ia,.agg #[c0],.agg #[ay]] _ ZC0 rfl rfl rfl (Sq a0.degrees cg (a0.images.getD B.2.toNat Ci) h _ (A.Iw 3 rfl) (Y1 (Yu (A.Ix 0 rfl))) (Y1 (A.Iw 0 rfl))) ?_)))
          rintro _ i6 ⟨ch,bc,g6,rfl,h,eu,ew,ex⟩;refine rt ?_
          replace A:=A.push ex (ZCn (Y0 162) ch [bc] g6) eu ew;obtain ⟨ey,ez⟩:=X7 (A.Ix 0 rfl);subst ez;replace A:=A.Iz (c:=own 162 9 bc ch.terms.length (ZCa.encs ch.terms)) (λ_ h_=>h_) (λ_=>ey)
          refine done (aK (by assumption) (Zc 12 2047) (Z5 11 (by decide) (by decide) (by kernel_rfl) (by kernel_rfl) rfl (Z7 (v:=.agg #[bc]) A 2 [bc] [bc] rfl ag55.size rfl rfl rfl rfl (Xy (Jc (A.Ix 0 rfl)) rfl) (ZCh rfl) rfl λi7 A=>done (Z6 ?_))))
          exact⟨rfl,_,rfl,⟨g4,bc,ch,(slq rfl),(A.xM [2,0,4,6,7,8,9,10,11] rfl),h⟩⟩
        ·replace h:=Zk h (cf b8);refine ZCd (Ze (ZB9 ?_))
         refine cwd 11 Ym [0,1,0,4,0,16,0,112,240,511,0,2047] [1,2,5,7,8] [0,4,6] (λaz ca i8 L=>?_)
         replace A:=A.Iy L;refine bF 0 (vQ b7) rfl rfl ca (λ_=>by exact Yq 0 ZCt rfl If.size rfl rfl) (Zc 12 1) (bL 1 (Ia) rfl rfl az (λ_ L=>by exact Yj (A.Iy L) 8 (Ia) rfl If rfl rfl) (Zc 12 3) (bL 2 (.agg (ZB7 (ZB6 .u8 (O.1.set B.2.toNat (ZCl.wrap ((((a1.terms.getD I.2.toNat Ci).mono).get B.2.toNat) - 1)))))) rfl rfl az (λ_ L=>by exact Y6 (A.Iy L) 0 (ZB6 .u8 (O.1.set B.2.toNat (ZCl.wrap ((((a1.terms.getD I.2.toNat Ci).mono).get B.2.toNat) - 1)))) rfl ag136 rfl rfl rfl) (Zc 12 7) (bF 4 (.pointer (some ⟨b7,1,none⟩)) rfl rfl ca (λ_=>by exact Yq 1 ZCt rfl Il.size rfl rfl) (Zc 12 23) (bL 5 (Ic) rfl rfl az (λ_ L=>by exact Yj (A.Iy L) 8 (Ic) rfl Il rfl rfl) (Zc 12 55) (bM 6 (vI B.2) rfl ca (Zc 12 119) ?_)))))
         obtain ⟨⟨g7,g8⟩,h⟩:=h;obtain ⟨e1,i9,c6⟩:=Zx (A.Iw 1 rfl) B.2.toNat (show B.2.toNat < a0.images.length by omega)
         refine bL 7 (.pointer (some (e1.add (B.2.toNat * 1)))) rfl rfl az (λ_ L=>by exact Y3 (len:=a0.images.length) ZCx ag55.size (by exact tr rfl c6) rfl g7 g8) (Zc 12 247) ?_
         obtain ⟨gv,c7,e2,c8⟩:=Xb (A.Iw 1 rfl) c6 B.2.toNat (show B.2.toNat < a0.images.length by omega)
         obtain ⟨a2,rfl⟩:=ZC7.1 c7;clear c7;rw [Y9 _ _ (show B.2.toNat < a0.images.length by omega)] at c8
         have e3:=c8;replace A:=A.I0 1 rfl (ZB8 ZCa.ty.sl ((a0.images.getD B.2.toNat Ci).terms) [a2] Ib) (λ_=>(Xq e3)) (λ_ bo=>bo)
         refine bL 8 (.agg #[a2]) rfl rfl az (λ_ L=>by exact Jq [a2] (Vd L e2) ag55 rfl rfl) (Zc 12 503) ?_
         refine U8 (λe_ w_=>∃ (c9:Nat),∃ (bd:Value),∃ (br:ZCb),Zt e_ [(2,vQ b7),(3,vQ ac),(4,vQ ae),(5,vQ ag),(6,vI I.2),(7,vQ ah),(8,vI B.2),(10,vQ aj),(13,vI (Zwt.wrap (((a1.terms.getD I.2.toNat Ci).factor) * (Zwt.wrap (((a1.terms.getD I.2.toNat Ci).mono).get B.2.toNat))))),(14,vQ c9)]/\Ctx Nox w0 w_ [blk c9 55 [bd],own 162 9 bd br.terms.length (ZCa.encs br.terms),blk aj 136 (ZB6 .u8 O.2),own 162 9 aa B.1.length (ZCa.encs B.1),blk ah 136 (ZB6 .u8 ((a1.terms.getD I.2.toNat Ci).mono)),blk ag 55 [aa],blk ae 55 [.slice none 0 0],blk ac 55 [Ie],blk b7 32 [Ia,Ic]] [ZB8 ZCa.ty.sl ((a0.images.getD B.2.toNat Ci).terms) [a2] Ib,ZB8 ZCa.ty.sl a1.terms [Ie] Ig,ZB8 ZCv.sl a0.images [Ic] Ib,ZB8 TInts a0.degrees [Ia] Ib,ZB8 TAlg a0 [Ia,Ic] Ib,ZB8 TForm a1 [Ie] Ig]/\(Wh O.2 1 (λan=>Ww a0.degrees br an (λao=>Jk (Zwt.wrap (((a1.terms.getD I.2.toNat Ci).factor) * (Zwt.wrap (((a1.terms.getD I.2.toNat Ci).mono).get B.2.toNat)))) (λa7=>V3 (⟨B.1⟩:ZCb) ao a7 (λap=>bk (ap.terms,Zwt.wrap (B.2+1)))))))) ?_ ?_
         ·clear A h;rintro e_ ja ⟨c9,bd,br,ad,A,h⟩;rw [ue ad];refine Ze ?_
          refine cwd 9 Ym [0,0,2,0,0,16,62,0,254,511,1023] [0,2,3,4] [1,7] (λbn da jb L=>?_)
          replace A:=A.Iy L;refine bL 0 (.agg #[aa]) rfl rfl bn (λ_ L=>by exact Y6 (A.Iy L) 5 [aa] rfl ag55 rfl rfl rfl) (Zc 11 1) (bF 1 (vQ b7) rfl rfl da (λ_=>by exact Yq 0 ZCt rfl If.size rfl rfl) (Zc 11 3) (bL 2 (Ia) rfl rfl bn (λ_ L=>by exact Yj (A.Iy L) 8 (Ia) rfl If rfl rfl) (Zc 11 7) (bL 3 (.agg #[bd]) rfl rfl bn (λ_ L=>by exact Y6 (A.Iy L) 0 [bd] rfl ag55 rfl rfl rfl) (Zc 11 15) (bL 4 (.agg (ZB7 (ZB6 .u8 O.2))) rfl rfl bn (λ_ L=>by exact Y6 (A.Iy L) 2 (ZB6 .u8 O.2) rfl ag136 rfl rfl rfl) (Zc 11 31) (bM 7 (vI (Zwt.wrap (((a1.terms.getD I.2.toNat Ci).factor) * (Zwt.wrap (((a1.terms.getD I.2.toNat Ci).mono).get B.2.toNat))))) rfl da (Zc 11 159) (aO 5 rfl (Zf [.agg (ZB7 (ZB6 .u8 O.2)),vI 1] _ ZC2 rfl rfl rfl (T2 O.2 1 h _) ?_)))))))
          rintro _ jc ⟨an,db,g9,rfl,h,e4,e5,e6⟩;refine rt ?_
          replace A:=A.push e6 (ZCn (Y0 162) an [db] g9) e4 e5;obtain ⟨e7,e8⟩:=X7 (A.Ix 0 rfl);subst e8;replace A:=A.Iz (c:=own 162 9 db an.terms.length (ZCa.encs an.terms)) (λ_ h_=>h_) (λ_=>e7)
          refine done (aK (by assumption) (Zc 11 191) (aO 6 rfl (Zf [Ia,.agg #[bd],.agg #[db]] _ ZC0 rfl rfl rfl (Sq a0.degrees br an h _ (A.Iw 3 rfl) (Y1 (Yu (A.Ix 2 rfl))) (Y1 (Yu (A.Ix 0 rfl)))) ?_)))
          rintro _ jd ⟨ao,dc,ha,rfl,h,e9,fa,fb⟩;refine rt ?_
          replace A:=A.push fb (ZCn (Y0 162) ao [dc] ha) e9 fa;obtain ⟨fc,fd⟩:=X7 (A.Ix 0 rfl);subst fd;replace A:=A.Iz (c:=own 162 9 dc ao.terms.length (ZCa.encs ao.terms)) (λ_ h_=>h_) (λ_=>fc)
          refine done (aK (by assumption) (Zc 11 255) (aO 8 rfl (Zf [vI (Zwt.wrap (((a1.terms.getD I.2.toNat Ci).factor) * (Zwt.wrap (((a1.terms.getD I.2.toNat Ci).mono).get B.2.toNat))))] _ ZCz rfl rfl rfl (Ud (Zwt.wrap (((a1.terms.getD I.2.toNat Ci).factor) * (Zwt.wrap (((a1.terms.getD I.2.toNat Ci).mono).get B.2.toNat)))) h _) ?_)))
          rintro _ je ⟨a7,rfl,h,fe⟩;refine rt ?_
          replace A:=A.Iy fe;refine done (aK (by assumption) (Zc 11 511) (Z5 9 (by decide) (by decide) (by kernel_rfl) (by kernel_rfl) rfl (Zf [.agg #[aa],.agg #[dc],vI a7] _ ZDe rfl rfl rfl (Za5 (⟨B.1⟩:ZCb) ao a7 h _ (Y1 (Yu (A.Ix 5 rfl))) (Y1 (Yu (A.Ix 0 rfl)))) ?_)))
          rintro _ jf ⟨ap,be,hb,rfl,h,ff,fg,fh⟩;refine rt ?_
          replace A:=A.push fh (ZCn (Y0 162) ap [be] hb) ff fg;obtain ⟨fi,fj⟩:=X7 (A.Ix 0 rfl);subst fj;replace A:=A.Iz (c:=own 162 9 be ap.terms.length (ZCa.encs ap.terms)) (λ_ h_=>h_) (λ_=>fi)
          refine Z7 (v:=.agg #[be]) A 8 [be] [be] rfl ag55.size rfl rfl rfl rfl (Xy (Jc (A.Ix 0 rfl)) rfl) (ZCh rfl) rfl λjg A=>done (Z6 (Zr (Ze (Zh (Za (v:=vI B.2) rfl (Zm rfl rfl (Zd (v:=vI (Zwt.wrap (B.2+1))) rfl (done ?_))))))))
          exact bt (ap.terms,Zwt.wrap (B.2+1)) _ _ ⟨be,(slq rfl),((A.xM [0,7,8,9,10,11] rfl).sP [1,2,3,4,5] rfl)⟩ h
         refine Jp 3 10 rfl rfl (by kernel_rfl) ?_ ?_
         ·skip;refine Zf [.agg (ZB7 (ZB6 .u8 (O.1.set B.2.toNat (ZCl.wrap ((((a1.terms.getD I.2.toNat Ci).mono).get B.2.toNat) - 1))))),vI 1] _ ZC2 rfl rfl rfl (T2 (O.1.set B.2.toNat (ZCl.wrap ((((a1.terms.getD I.2.toNat Ci).mono).get B.2.toNat) - 1))) 1 h _) ?_
          rintro _ jh ⟨au,ci,hc,rfl,h,fk,fl,fo⟩;refine rt ?_
          replace A:=A.push fo (ZCn (Y0 162) au [ci] hc) fk fl;obtain ⟨fq,fr⟩:=X7 (A.Ix 0 rfl);subst fr;replace A:=A.Iz (c:=own 162 9 ci au.terms.length (ZCa.encs au.terms)) (λ_ h_=>h_) (λ_=>fq)
          refine done (aK (by assumption) (Zc 12 511) ?_)
          refine Jp 9 10 rfl rfl (by kernel_rfl) ?_ ?_
          ·skip;refine Zf [Ia,.agg #[ci],.agg #[a2]] _ ZC0 rfl rfl rfl (Sq a0.degrees au (a0.images.getD B.2.toNat Ci) h _ (A.Iw 3 rfl) (Y1 (Yu (A.Ix 0 rfl))) (Y1 (A.Iw 0 rfl))) ?_
           rintro _ ji ⟨a6,bh,he,rfl,h,fs,ft,fu⟩;refine rt ?_
           replace A:=A.push fu (ZCn (Y0 162) a6 [bh] he) fs ft;obtain ⟨fv,fw⟩:=X7 (A.Ix 0 rfl);subst fw;replace A:=A.Iz (c:=own 162 9 bh a6.terms.length (ZCa.encs a6.terms)) (λ_ h_=>h_) (λ_=>fv)
           refine done (aK (by assumption) (Zc 12 1023) (aO 10 rfl (Yt A [.slice none 0 0] z55 rfl λhf jj L A=>done (aK (by assumption) (Zc 12 2047) (Z5 11 (by decide) (by decide) (by kernel_rfl) (by kernel_rfl) rfl (Z7 (v:=.agg #[bh]) A 0 [bh] [bh] rfl ag55.size rfl rfl rfl rfl (Xy (Jc (A.Ix 1 rfl)) rfl) (ZCh rfl) rfl λjk A=>done (Z6 ?_)))))))
           exact⟨rfl,_,rfl,⟨hf,bh,a6,(slq rfl),(A.xM [0,1,4,6,7,8,9,10,11] rfl),h⟩⟩
          ·skip;refine Yt A [.slice none 0 0] z55 rfl λhg jl L A=>done (aK (by assumption) (Zc 12 1535) (aO 9 rfl (Zf [Ia,.agg #[ci],.agg #[a2]] _ ZC0 rfl rfl rfl (Sq a0.degrees au (a0.images.getD B.2.toNat Ci) h _ (A.Iw 3 rfl) (Y1 (Yu (A.Ix 1 rfl))) (Y1 (A.Iw 0 rfl))) ?_)))
           rintro _ jm ⟨cj,bi,hh,rfl,h,fx,fy,fz⟩;refine rt ?_
           replace A:=A.push fz (ZCn (Y0 162) cj [bi] hh) fx fy;obtain ⟨f0,f1⟩:=X7 (A.Ix 0 rfl);subst f1;replace A:=A.Iz (c:=own 162 9 bi cj.terms.length (ZCa.encs cj.terms)) (λ_ h_=>h_) (λ_=>f0)
           refine done (aK (by assumption) (Zc 12 2047) (Z5 11 (by decide) (by decide) (by kernel_rfl) (by kernel_rfl) rfl (Z7 (v:=.agg #[bi]) A 1 [bi] [bi] rfl ag55.size rfl rfl rfl rfl (Xy (Jc (A.Ix 0 rfl)) rfl) (ZCh rfl) rfl λjn A=>done (Z6 ?_))))
           exact⟨rfl,_,rfl,⟨hg,bi,cj,(slq rfl),(A.xM [1,0,4,6,7,8,9,10,11] rfl),h⟩⟩
         ·skip;refine Yt A [.slice none 0 0] z55 rfl λhk jo L A=>done (aK (by assumption) (Zc 12 1527) (aO 3 rfl (Zf [.agg (ZB7 (ZB6 .u8 (O.1.set B.2.toNat (ZCl.wrap ((((a1.terms.getD I.2.toNat Ci).mono).get B.2.toNat) - 1))))),vI 1] _ ZC2 rfl rfl rfl (T2 (O.1.set B.2.toNat (ZCl.wrap ((((a1.terms.getD I.2.toNat Ci).mono).get B.2.toNat) - 1))) 1 h _) ?_)))
          rintro _ jp ⟨ck,dd,hl,rfl,h,f2,f3,f4⟩;refine rt ?_
          replace A:=A.push f4 (ZCn (Y0 162) ck [dd] hl) f2 f3;obtain ⟨f5,f6⟩:=X7 (A.Ix 0 rfl);subst f6;replace A:=A.Iz (c:=own 162 9 dd ck.terms.length (ZCa.encs ck.terms)) (λ_ h_=>h_) (λ_=>f5)
          refine done (aK (by assumption) (Zc 12 1535) (aO 9 rfl (Zf [Ia,.agg #[dd],.agg #[a2]] _ ZC0 rfl rfl rfl (Sq a0.degrees ck (a0.images.getD B.2.toNat Ci) h _ (A.Iw 3 rfl) (Y1 (Yu (A.Ix 0 rfl))) (Y1 (A.Iw 0 rfl))) ?_)))
          rintro _ jq ⟨cl,bj,hm,rfl,h,f7,f8,f9⟩;refine rt ?_
          replace A:=A.push f9 (ZCn (Y0 162) cl [bj] hm) f7 f8;obtain ⟨ga,gb⟩:=X7 (A.Ix 0 rfl);subst gb;replace A:=A.Iz (c:=own 162 9 bj cl.terms.length (ZCa.encs cl.terms)) (λ_ h_=>h_) (λ_=>ga)
          refine done (aK (by assumption) (Zc 12 2047) (Z5 11 (by decide) (by decide) (by kernel_rfl) (by kernel_rfl) rfl (Z7 (v:=.agg #[bj]) A 2 [bj] [bj] rfl ag55.size rfl rfl rfl rfl (Xy (Jc (A.Ix 0 rfl)) rfl) (ZCh rfl) rfl λjr A=>done (Z6 ?_))))
          exact⟨rfl,_,rfl,⟨hk,bj,cl,(slq rfl),(A.xM [2,0,4,6,7,8,9,10,11] rfl),h⟩⟩
       ·skip;exact⟨(slq rfl),A⟩
      refine Jp 2 3 rfl rfl (by kernel_rfl) ?_ ?_
      ·skip;refine Eo A (ZB6 .u8 ZCe) Uc rfl λhn js a3 L A=>?_
       have hnb_b13098:=Cj V a3;refine done ?_
       refine Xc (Js V (by assumption)) V (l9:=(Zc 6 7)) (by kernel_rfl) (λV=>?_)
       refine aO 3 rfl (Eo A (ZB6 .u8 ZCe) Uc rfl λho ju a3 L A=>?_)
       have hnb_b13101:=Cj V a3;refine done ?_
       refine Xc (Js V (by assumption)) V (l9:=(Zc 6 15)) (by kernel_rfl) (λV=>?_)
       refine aO 4 rfl (Zfj (v:=.agg (ZB7 (ZB6 .u8 ((a1.terms.getD I.2.toNat Ci).mono)))) A 1 (ZB6 .u8 ((a1.terms.getD I.2.toNat Ci).mono)) (ZB6 .u8 ((a1.terms.getD I.2.toNat Ci).mono)) rfl ag136.size rfl rfl rfl rfl rfl (ZCh rfl) rfl λjv cb A=>done ?_)
       refine Xc (Wt V hnb_b13098 cb) V (l9:=(Zc 6 31)) (by kernel_rfl) (λV=>?_)
       refine Z5 5 (by decide) (by decide) (by kernel_rfl) (by kernel_rfl) rfl (Z7 (v:=.agg (ZB7 (ZB6 .u8 ((a1.terms.getD I.2.toNat Ci).mono)))) A 0 (ZB6 .u8 ((a1.terms.getD I.2.toNat Ci).mono)) (ZB6 .u8 ((a1.terms.getD I.2.toNat Ci).mono)) rfl ag136.size rfl rfl rfl rfl rfl (ZCh rfl) rfl λjw A=>done (Z6 ?_))
       exact⟨rfl,_,rfl,⟨ho,hn,(slq rfl),A,h⟩⟩
      ·skip;refine Eo A (ZB6 .u8 ZCe) Uc rfl λhp jx a3 L A=>?_
       have hnb_b13106:=Cj V a3;refine done ?_
       refine Xc (Js V (by assumption)) V (l9:=(Zc 6 11)) (by kernel_rfl) (λV=>?_)
       refine aO 2 rfl (Eo A (ZB6 .u8 ZCe) Uc rfl λhq jy a3 L A=>?_)
       have hnb_b13109:=Cj V a3;refine done ?_
       refine Xc (Js V (by assumption)) V (l9:=(Zc 6 15)) (by kernel_rfl) (λV=>?_)
       refine aO 4 rfl (Zfj (v:=.agg (ZB7 (ZB6 .u8 ((a1.terms.getD I.2.toNat Ci).mono)))) A 0 (ZB6 .u8 ((a1.terms.getD I.2.toNat Ci).mono)) (ZB6 .u8 ((a1.terms.getD I.2.toNat Ci).mono)) rfl ag136.size rfl rfl rfl rfl rfl (ZCh rfl) rfl λjz cb A=>done ?_)
       refine Xc (Wt V hnb_b13109 cb) V (l9:=(Zc 6 31)) (by kernel_rfl) (λV=>?_)
       refine Z5 5 (by decide) (by decide) (by kernel_rfl) (by kernel_rfl) rfl (Z7 (v:=.agg (ZB7 (ZB6 .u8 ((a1.terms.getD I.2.toNat Ci).mono)))) A 1 (ZB6 .u8 ((a1.terms.getD I.2.toNat Ci).mono)) (ZB6 .u8 ((a1.terms.getD I.2.toNat Ci).mono)) rfl ag136.size rfl rfl rfl rfl rfl (ZCh rfl) rfl λj0 A=>done (Z6 ?_))
       exact⟨rfl,_,rfl,⟨hp,hq,(slq rfl),(A.xM [1,0,2,3,4,5,6,7] rfl),h⟩⟩
    ·replace h:=Zk h (cf bu);refine ZCo (Zi (Zi (Zy ?_)))
     refine Zr (Ze (Zh (Za (v:=vI I.2) rfl (Zm rfl rfl (Zd (v:=vI (Zwt.wrap (I.2+1))) rfl (done ?_))))))
     exact di (B.1,Zwt.wrap (I.2+1)) _ _ ⟨aa,(slq rfl),(A.xM [0,2,3,4,5] rfl)⟩ h
   ·skip;exact⟨ai,(slq rfl),(A.xM [1,0,2,3,4,5] rfl)⟩
  ·replace h:=Zk h (cf bs);refine ZCo (Zi (Zi (Zy ?_)))
   refine Ze (sr (Yr A 1 [ai] rfl ag55 rfl rfl rfl (Z7 (v:=.agg #[ai]) A 2 [ai] [ai] rfl ag55.size rfl rfl rfl rfl (Xy (Jc (A.Ix 0 rfl)) rfl) (ZCh rfl) rfl λj1 A=>dn (ZCi ?_))))
   exact Zj rfl (Wq A 2 rfl ag55 rfl rfl) ⟨(⟨I.1⟩:ZCb),ai,(ZDa (Fe ai)),rfl,h,(Tb (Xi (A.Ix 0 rfl))),(Xg A 0 rfl),A.below⟩ (.inl rfl)
 ·skip;replace A:=A.pushNil 162 9;exact⟨.slice none 0 0,(slq rfl),A⟩
def Mm (a0:Alg) (K:Bool->Prop):Prop :=
 Ke a0.degrees (λL=>(if¬ (L=true) then K false else(if(a0.images.length:Int)≠(a0.degrees.length:Int) then K false else Xv (λ(h:Int) B=>(if h < (a0.images.length:Int) then((0<=h/\h < (a0.images.length:Int))/\Ki a0.degrees (a0.images.getD h.toNat Ci) (λO=>(if¬ (O=true) then K false else((0<=h/\h < (a0.images.length:Int))/\Kj a0.degrees (a0.images.getD h.toNat Ci) (λU V=>(if¬ (V=true) then K false else((0<=h/\h < (a0.images.length:Int))/\(if(((a0.images.getD h.toNat Ci).terms).length:Int) > 0 then((0<=h/\h < (a0.degrees.length:Int))/\(if U≠Zwt.wrap ((a0.degrees.getD h.toNat Ci)+1) then K false else B (Zwt.wrap (h+1)))) else B (Zwt.wrap (h+1)))))))))) else Xv (λ(A:Int) I=>(if A < (a0.images.length:Int) then((0<=A/\A < (a0.images.length:Int))/\Uy a0 (a0.images.getD A.toNat Ci) (λaa=>(if(aa.terms.length:Int) > 0 then K false else I (Zwt.wrap (A+1))))) else K true)) 0)) 0)))
theorem Zfl (a0:Alg)  {K:Bool->Prop} (h:Mm a0 K) (w0:World) (q0:TAlg.rep a0 [Ia,Ic] Ib w0) :
  Calls ZCc 92 #[.agg #[Ia,Ic]] w0 λe w'=>∃ (r0:Bool),
   e=.returned (.bool r0)/\K r0/\Bel w0 w':=by
 unfold Mm at h
 refine cof Tryz.func92 rfl 86 Tryz.ntmps92 ?_
 have A:=ZCu (X:=Nox) w0 [ZB8 TAlg a0 [Ia,Ic] Ib] (al1 q0);replace A:=A.dAlg 0 rfl;refine sr (Yg (v:=.agg #[Ia,Ic]) A [Ia,Ic] rfl rfl λb4 w6 O A=>Zd (v:=.bool false) rfl (dn (ZB9 (sr (Z0 0 ZCt rfl If.size rfl rfl (Yc A 0 (Ia) rfl If rfl rfl (Zf [Ia] _ Tryz.func149 rfl rfl rfl (Zma a0.degrees h _ (A.Iw 1 rfl)) ?_)))))))
 rintro _ w9 ⟨be,rfl,h,bi⟩;refine rt ?_
 replace A:=A.Iy bi;refine Xo rfl (Za (v:=.bool (!be)) rfl ?_)
 refine Xm (!be) (λU=>?_) (λU=>?_)
 ·replace h:=ift h (Xe (X1 U));refine Zp (b:=true) 4 11 rfl (tr rfl (I1 _ U)) (by decide) (Zp (b:=true) 4 11 rfl (tr rfl (I1 _ U)) (by decide) (Zp (b:=true) 4 11 rfl (tr rfl (I1 _ U)) (by decide) (Zp (b:=true) 4 11 rfl (tr rfl (I1 _ U)) (by decide) (Zp (b:=true) 4 11 rfl (tr rfl (I1 _ U)) (by decide) (Zp (b:=true) 4 11 rfl (tr rfl (I1 _ U)) (by decide) (Zp (b:=true) 4 11 rfl (tr rfl (I1 _ U)) (by decide) (Ya (v:=.bool true) (b:=true) (tr rfl (I1 _ U)) rfl (dn (Z8 rfl rfl (sr (Zd (v:=.bool false) rfl (dn ?_))))))))))))
  refine ZCi (Zn ?_)
  exact Zj rfl (Zg rfl) ⟨false,rfl,h,A.below⟩ (.inl rfl)
 ·replace h:=Zk h (not_not_intro ((X2 U)));refine Zq 4 11 rfl rfl U (Z0 1 ZCt rfl Il.size rfl rfl (Zq 4 11 rfl rfl U (Yc A 0 (Ic) rfl Il rfl rfl (Zq 4 11 rfl rfl U (Zu A 0 rfl ZCx rfl (Zq 4 11 rfl rfl U (Z0 0 ZCt rfl If.size rfl rfl (Zq 4 11 rfl rfl U (Yc A 0 (Ia) rfl If rfl rfl (Zq 4 11 rfl rfl U (Zu A 1 rfl ZCs rfl (Zq 4 11 rfl rfl U (Xl rfl rfl (Ya (v:=.bool (decide ((a0.images.length:Int)≠(a0.degrees.length:Int)))) (b:=false) (tr rfl (I1 _ U)) rfl (dn ?_)))))))))))))))
  refine Zs rfl (λai=>?_) (λai=>?_)
  ·replace h:=ift h (ct ai);refine sr (Zd (v:=.bool false) rfl (dn ?_))
   refine ZCi (Zn ?_)
   exact Zj rfl (Zg rfl) ⟨false,rfl,h,A.below⟩ (.inl rfl)
  ·replace h:=Zk h (cf ai);refine ZCd (Ze (ZB9 (sr (Zd (v:=vI 0) rfl (dn (ZCf ?_))))))
   refine Jb (S:=Int) _ (λB e_ w_=>Zt e_ [(1,vQ b4),(3,vI B)]/\Ctx Nox w0 w_ [blk b4 32 [Ia,Ic]] [ZB8 ZCv.sl a0.images [Ic] Ib,ZB8 TInts a0.degrees [Ia] Ib,ZB8 TAlg a0 [Ia,Ic] Ib]) ?_ (s0:=0) ?_ h
   ·clear A h;rintro B e_ cv cp cw ⟨au,A⟩ h av;rw [ue au];refine ZB9 (sr (Za (v:=vI B) rfl (Z0 1 ZCt rfl Il.size rfl rfl (Yc A 0 (Ic) rfl Il rfl rfl (Zu A 0 rfl ZCx rfl (Zl rfl rfl (dn ?_)))))))
    refine Zs rfl (λaj=>?_) (λaj=>?_)
    ·replace h:=ift h (ct aj);refine ZCd (Ze (ZB9 (ZCf (ZB9 (ZB9 ?_)))))
     refine cwd 7 Ym [0,1,0,4,0,28,60,127,255] [1,3,5,6] [0,2,4] (λae ak cx O=>?_)
     replace A:=A.Iy O;refine bF 0 (vQ b4) rfl rfl ak (λ_=>by exact Yq 0 ZCt rfl If.size rfl rfl) (Zc 9 1) (bL 1 (Ia) rfl rfl ae (λ_ O=>by exact Yj (A.Iy O) 0 (Ia) rfl If rfl rfl) (Zc 9 3) (bF 2 (.pointer (some ⟨b4,1,none⟩)) rfl rfl ak (λ_=>by exact Yq 1 ZCt rfl Il.size rfl rfl) (Zc 9 7) (bL 3 (Ic) rfl rfl ae (λ_ O=>by exact Yj (A.Iy O) 0 (Ic) rfl Il rfl rfl) (Zc 9 15) (bM 4 (vI B) rfl ak (Zc 9 31) ?_))))
     obtain ⟨⟨cb,cc⟩,h⟩:=h;obtain ⟨bj,cy,aw⟩:=Zx (A.Iw 0 rfl) B.toNat (show B.toNat < a0.images.length by omega)
     refine bL 5 (.pointer (some (bj.add (B.toNat * 1)))) rfl rfl ae (λ_ O=>by exact Y3 (len:=a0.images.length) ZCx ag55.size (by exact tr rfl aw) rfl cb cc) (Zc 9 63) ?_
     obtain ⟨ax,ay,bk,az⟩:=Xb (A.Iw 0 rfl) aw B.toNat (show B.toNat < a0.images.length by omega)
     obtain ⟨ap,rfl⟩:=ZC7.1 ay;clear ay;rw [Y9 _ _ (show B.toNat < a0.images.length by omega)] at az
     have bl:=az;replace A:=A.I0 0 rfl (ZB8 ZCa.ty.sl ((a0.images.getD B.toNat Ci).terms) [ap] Ib) (λ_=>(Xq bl)) (λ_ ab=>ab)
     refine bL 6 (.agg #[ap]) rfl rfl ae (λ_ O=>by exact Jq [ap] (Vd O bk) ag55 rfl rfl) (Zc 9 127) (Z5 7 (by decide) (by decide) (by kernel_rfl) (by kernel_rfl) rfl (Zf [Ia,.agg #[ap]] _ Tryz.func120 rfl rfl rfl (Zmd a0.degrees (a0.images.getD B.toNat Ci) h _ (A.Iw 2 rfl) (Y1 (A.Iw 0 rfl))) ?_))
     rintro _ cz ⟨c0,rfl,h,bm⟩;refine rt ?_
     replace A:=A.Iy bm;refine Xo rfl (done (Z6 (Ze ?_)))
     refine Zs rfl (λal=>?_) (λal=>?_)
     ·replace h:=ift h (Xe (X1 al));refine sr (Zd (v:=.bool false) rfl (dn ?_))
      refine ZCi (Zn (Z9 (Zn (Zn (Z9 (Zn ?_))))))
      exact Zj rfl (Zg rfl) ⟨false,rfl,h,A.below⟩ (.inl rfl)
     ·replace h:=Zk h (not_not_intro ((X2 al)));refine ZCd (Ze (ZB9 ?_))
      refine cwd 12 Ym [0,1,0,4,0,28,60,127,255,511,511,1023,4095] [1,3,5,6] [0,2,4,8,9,10,11] (λag aa c6 O=>?_)
      replace A:=A.Iy O;refine bF 0 (vQ b4) rfl rfl aa (λ_=>by exact Yq 0 ZCt rfl If.size rfl rfl) (Zc 13 1) (bL 1 (Ia) rfl rfl ag (λ_ O=>by exact Yj (A.Iy O) 0 (Ia) rfl If rfl rfl) (Zc 13 3) (bF 2 (.pointer (some ⟨b4,1,none⟩)) rfl rfl aa (λ_=>by exact Yq 1 ZCt rfl Il.size rfl rfl) (Zc 13 7) (bL 3 (Ic) rfl rfl ag (λ_ O=>by exact Yj (A.Iy O) 0 (Ic) rfl Il rfl rfl) (Zc 13 15) (bM 4 (vI B) rfl aa (Zc 13 31) ?_))))
      obtain ⟨⟨ce,cg⟩,h⟩:=h;obtain ⟨bn,c7,a1⟩:=Zx (A.Iw 1 rfl) B.toNat (show B.toNat < a0.images.length by omega)
      refine bL 5 (.pointer (some (bn.add (B.toNat * 1)))) rfl rfl ag (λ_ O=>by exact Y3 (len:=a0.images.length) ZCx ag55.size (by exact tr rfl a1) rfl ce cg) (Zc 13 63) ?_
      obtain ⟨ax,a2,bo,a3⟩:=Xb (A.Iw 1 rfl) a1 B.toNat (show B.toNat < a0.images.length by omega)
      obtain ⟨aq,rfl⟩:=ZC7.1 a2;clear a2;rw [Y9 _ _ (show B.toNat < a0.images.length by omega)] at a3
      have bp:=a3;replace A:=A.I0 1 rfl (ZB8 ZCa.ty.sl ((a0.images.getD B.toNat Ci).terms) [aq] Ib) (λ_=>(Xq bp)) (λ_ ab=>ab)
      refine bL 6 (.agg #[aq]) rfl rfl ag (λ_ O=>by exact Jq [aq] (Vd O bo) ag55 rfl rfl) (Zc 13 127) (aO 7 rfl (Zf [Ia,.agg #[aq]] _ Tryz.func69 rfl rfl rfl (Zme a0.degrees (a0.images.getD B.toNat Ci) h _ (A.Iw 3 rfl) (Y1 (A.Iw 0 rfl))) ?_))
      rintro _ c8 ⟨ac,ad,rfl,h,bq⟩;refine rt ?_
      replace A:=A.Iy bq;refine done (aK (by assumption) (Zc 13 255) (bM 8 (.tuple #[vI ac,.bool ad]) rfl aa (Zc 13 511) (bF 9 (vI ac) rfl rfl aa (λ_=>by exact N5 (v:=vI ac) rfl rfl) (Zc 13 1023) (bF 10 (.bool ad) rfl rfl aa (λ_=>by exact N5 (v:=.bool ad) rfl rfl) (Zc 13 2047) (bA 11 (vI ac) rfl aa (Zc 13 4095) (Z5 12 (by decide) (by decide) (by kernel_rfl) (by kernel_rfl) rfl (Zd (v:=.bool ad) rfl (done (Z6 (Ze (sr (Za (v:=.bool ad) rfl (Xo rfl (Za (v:=.bool (!ad)) rfl ?_))))))))))))))
      refine Xm (!ad) (λI=>?_) (λI=>?_)
      ·replace h:=ift h (Xe (X1 I));refine Zp (b:=true) 2 49 rfl (tr rfl (I1 _ I)) (by decide) (Zp (b:=true) 2 49 rfl (tr rfl (I1 _ I)) (by decide) (Zp (b:=true) 2 49 rfl (tr rfl (I1 _ I)) (by decide) (Zp (b:=true) 2 49 rfl (tr rfl (I1 _ I)) (by decide) (Zp (b:=true) 2 49 rfl (tr rfl (I1 _ I)) (by decide) (Zp (b:=true) 2 49 rfl (tr rfl (I1 _ I)) (by decide) (Zp (b:=true) 2 49 rfl (tr rfl (I1 _ I)) (by decide) (Zp (b:=true) 2 49 rfl (tr rfl (I1 _ I)) (by decide) (Zp (b:=true) 2 49 rfl (tr rfl (I1 _ I)) (by decide) (Wj 11 58 rfl rfl (Wj 11 58 rfl rfl (Wj 11 58 rfl rfl (Wj 11 58 rfl rfl (Wj 11 58 rfl rfl (Wj 11 58 rfl rfl (Wj 11 58 rfl rfl (Wj 11 58 rfl rfl (Zp (b:=true) 2 49 rfl (tr rfl (I1 _ I)) (by decide) (Ya (v:=.bool true) (b:=true) (tr rfl (I1 _ I)) rfl (dn (Z8 rfl rfl (sr (Zd (v:=.bool false) rfl (dn ?_)))))))))))))))))))))))
       refine ZCi (Z9 (Zn (Zn (Z9 (Zn ?_)))))
       exact Zj rfl (Zg rfl) ⟨false,rfl,h,A.below⟩ (.inl rfl)
      ·replace h:=Zk h (not_not_intro ((X2 I)));refine Zq 2 49 rfl rfl I (Z0 1 ZCt rfl Il.size rfl rfl (Zq 2 49 rfl rfl I (Yc A 0 (Ic) rfl Il rfl rfl (Zq 2 49 rfl rfl I (Za (v:=vI B) rfl (Zq 2 49 rfl rfl I ?_))))))
       obtain ⟨⟨ch,ci⟩,h⟩:=h;obtain ⟨cq,c9,a4⟩:=Zx (A.Iw 2 rfl) B.toNat (show B.toNat < a0.images.length by omega)
       refine Yn (len:=a0.images.length) ZCx ag55.size (tr rfl a4) rfl ch ci (Zq 2 49 rfl rfl I (Qm (B.toNat * 1+0) ZCg rfl Ii.size rfl rfl (Zq 2 49 rfl rfl I ?_)))
       obtain ⟨ax,a5,br,a6⟩:=Xb (A.Iw 2 rfl) a4 B.toNat (show B.toNat < a0.images.length by omega)
       obtain ⟨bh,rfl⟩:=ZC7.1 a5;clear a5;rw [Y9 _ _ (show B.toNat < a0.images.length by omega)] at a6
       have bs:=a6;replace A:=A.I0 2 rfl (ZB8 ZCa.ty.sl ((a0.images.getD B.toNat Ci).terms) [bh] Ib) (λ_=>(Xq bs)) (λ_ ab=>ab)
       refine Ye (bh) (Wg (o:=0) (k:=1) br rfl) Ii rfl (Zq 2 49 rfl rfl I (Zu A 0 rfl ZCj rfl (Zq 2 49 rfl rfl I (Jn rfl rfl (Zq 2 49 rfl rfl I (Za (v:=.bool (decide ((((a0.images.getD B.toNat Ci).terms).length:Int) > 0))) rfl ?_))))))
       refine Xm (decide ((((a0.images.getD B.toNat Ci).terms).length:Int) > 0)) (λL=>?_) (λL=>?_)
       ·replace h:=ift h (ct L);refine Zq 11 58 rfl rfl L (Za (v:=vI ac) rfl (Zq 11 58 rfl rfl L (Z0 0 ZCt rfl If.size rfl rfl (Zq 11 58 rfl rfl L (Yc A 0 (Ia) rfl If rfl rfl (Zq 11 58 rfl rfl L (Za (v:=vI B) rfl (Zq 11 58 rfl rfl L ?_))))))))
        obtain ⟨⟨cj,ck⟩,h⟩:=h;obtain ⟨cr,da,a7⟩:=Zx (A.Iw 4 rfl) B.toNat (show B.toNat < a0.degrees.length by omega)
        refine Yn (len:=a0.degrees.length) ZCs sc2.size (tr rfl a7) rfl cj ck (Zq 11 58 rfl rfl L (Ye (vI (a0.degrees.getD B.toNat Ci)) (Yi (A.Iw 4 rfl) a7 B.toNat (show B.toNat < a0.degrees.length by omega)) sc2 rfl (Zq 11 58 rfl rfl L (Zm rfl rfl (Zq 11 58 rfl rfl L (Xl rfl rfl (Zq 2 49 rfl rfl I (Ya (v:=.bool (decide (ac≠Zwt.wrap ((a0.degrees.getD B.toNat Ci)+1)))) (b:=true) (tr rfl (I1 _ L)) rfl (Ya (v:=.bool (decide (ac≠Zwt.wrap ((a0.degrees.getD B.toNat Ci)+1)))) (b:=false) (tr rfl (I1 _ I)) rfl (dn ?_))))))))))
        refine Zs rfl (λam=>?_) (λam=>?_)
        ·replace h:=ift h (ct am);refine sr (Zd (v:=.bool false) rfl (dn ?_))
         refine ZCi (Z9 (Zn (Zn (Z9 (Zn ?_)))))
         exact Zj rfl (Zg rfl) ⟨false,rfl,h,A.below⟩ (.inl rfl)
        ·replace h:=Zk h (cf am);refine ZCd (Zr (Ze (Zh (Za (v:=vI B) rfl (Zm rfl rfl (Zd (v:=vI (Zwt.wrap (B+1))) rfl (done ?_)))))))
         exact av (Zwt.wrap (B+1)) _ _ ⟨(slq rfl),(A.sP [3,4,5] rfl)⟩ h
       ·replace h:=Zk h (cf L);refine Zp (b:=false) 11 58 rfl (tr rfl (I1 _ L)) (by decide) (Zp (b:=false) 11 58 rfl (tr rfl (I1 _ L)) (by decide) (Zp (b:=false) 11 58 rfl (tr rfl (I1 _ L)) (by decide) (Zp (b:=false) 11 58 rfl (tr rfl (I1 _ L)) (by decide) (Zp (b:=false) 11 58 rfl (tr rfl (I1 _ L)) (by decide) (Zp (b:=false) 11 58 rfl (tr rfl (I1 _ L)) (by decide) (Zp (b:=false) 11 58 rfl (tr rfl (I1 _ L)) (by decide) (Zp (b:=false) 11 58 rfl (tr rfl (I1 _ L)) (by decide) (Zq 2 49 rfl rfl I (Ya (v:=.bool false) (b:=false) (tr rfl (I1 _ L)) rfl (Ya (v:=.bool false) (b:=false) (tr rfl (I1 _ I)) rfl (dn (Z4 rfl rfl (ZCd (Zr (Ze (Zh (Za (v:=vI B) rfl (Zm rfl rfl (Zd (v:=vI (Zwt.wrap (B+1))) rfl (done ?_))))))))))))))))))))
        exact av (Zwt.wrap (B+1)) _ _ ⟨(slq rfl),(A.sP [3,4,5] rfl)⟩ h
    ·replace h:=Zk h (cf aj);refine ZCo (Zi (Zi (Zy ?_)))
     refine Ze (ZB9 (sr (Zd (v:=vI 0) rfl (dn (ZCf ?_)))))
     refine Jb (S:=Int) _ (λV e_ w_=>Zt e_ [(1,vQ b4),(6,vI V)]/\Ctx Nox w0 w_ [blk b4 32 [Ia,Ic]] [ZB8 ZCv.sl a0.images [Ic] Ib,ZB8 TInts a0.degrees [Ia] Ib,ZB8 TAlg a0 [Ia,Ic] Ib]) ?_ (s0:=0) ?_ h
     ·clear A h;rintro V e_ db cu dc ⟨au,A⟩ h bt;rw [ue au];refine ZB9 (sr (Za (v:=vI V) rfl (Z0 1 ZCt rfl Il.size rfl rfl (Yc A 0 (Ic) rfl Il rfl rfl (Zu A 0 rfl ZCx rfl (Zl rfl rfl (dn ?_)))))))
      refine Zs rfl (λan=>?_) (λan=>?_)
      ·replace h:=ift h (ct an);refine ZCd (Ze (ZB9 (ZCf (ZB9 ?_))))
       refine cwd 6 Ym [0,0,2,0,14,30,63,127,255,511] [0,2,4,5] [1,3] (λah a8 dd O=>?_)
       replace A:=A.Iy O;refine bL 0 (.agg #[Ia,Ic]) rfl rfl ah (λ_ O=>by exact Y6 (A.Iy O) 0 [Ia,Ic] rfl ag32 rfl rfl rfl) (Zc 10 1) (bF 1 (.pointer (some ⟨b4,1,none⟩)) rfl rfl a8 (λ_=>by exact Yq 1 ZCt rfl Il.size rfl rfl) (Zc 10 3) (bL 2 (Ic) rfl rfl ah (λ_ O=>by exact Yj (A.Iy O) 0 (Ic) rfl Il rfl rfl) (Zc 10 7) (bM 3 (vI V) rfl a8 (Zc 10 15) ?_)))
       obtain ⟨⟨cl,cm⟩,h⟩:=h;obtain ⟨bu,de,a9⟩:=Zx (A.Iw 0 rfl) V.toNat (show V.toNat < a0.images.length by omega)
       refine bL 4 (.pointer (some (bu.add (V.toNat * 1)))) rfl rfl ah (λ_ O=>by exact Y3 (len:=a0.images.length) ZCx ag55.size (by exact tr rfl a9) rfl cl cm) (Zc 10 31) ?_
       obtain ⟨ax,ba,bv,bb⟩:=Xb (A.Iw 0 rfl) a9 V.toNat (show V.toNat < a0.images.length by omega)
       obtain ⟨ar,rfl⟩:=ZC7.1 ba;clear ba;rw [Y9 _ _ (show V.toNat < a0.images.length by omega)] at bb
       have bw:=bb;replace A:=A.I0 0 rfl (ZB8 ZCa.ty.sl ((a0.images.getD V.toNat Ci).terms) [ar] Ib) (λ_=>(Xq bw)) (λ_ ab=>ab)
       refine bL 5 (.agg #[ar]) rfl rfl ah (λ_ O=>by exact Jq [ar] (Vd O bv) ag55 rfl rfl) (Zc 10 63) (Z5 6 (by decide) (by decide) (by kernel_rfl) (by kernel_rfl) rfl (Zf [.agg #[Ia,Ic],.agg #[ar]] _ Tryz.func71 rfl rfl rfl (Ml a0 (a0.images.getD V.toNat Ci) h _ (Yf (A.Iw 2 rfl) (A.Iw 1 rfl)) (Y1 (A.Iw 0 rfl))) ?_))
       rintro _ dg ⟨bc,bd,cn,rfl,h,bx,bz,b8⟩;refine rt ?_
       replace A:=A.push b8 (ZCn (Y0 162) bc [bd] cn) bx bz;obtain ⟨b9,ca⟩:=X7 (A.Ix 0 rfl);subst ca;replace A:=A.Iz (c:=own 162 9 bd bc.terms.length (ZCa.encs bc.terms)) (λ_ h_=>h_) (λ_=>b9)
       refine Zls (bd) ZCg rfl Ii rfl rfl (J3 A 0 rfl ZCj rfl (Jn rfl rfl (done (Z6 (Ze ?_)))))
       refine Zs rfl (λao=>?_) (λao=>?_)
       ·replace h:=ift h (ct ao);refine sr (Zd (v:=.bool false) rfl (dn ?_))
        refine ZCi (Z9 (Zn (Zn (Z9 (Zn ?_)))))
        exact Zj rfl (Zg rfl) ⟨false,rfl,h,A.below⟩ (.inl rfl)
       ·replace h:=Zk h (cf ao);refine ZCd (Zr (Ze (Zh (Za (v:=vI V) rfl (Zm rfl rfl (Zd (v:=vI (Zwt.wrap (V+1))) rfl (done ?_)))))))
        exact bt (Zwt.wrap (V+1)) _ _ ⟨(slq rfl),((A.xM [1] rfl).sP [1,2,3] rfl)⟩ h
      ·replace h:=Zk h (cf an);refine ZCo (Zi (Zi (Zy ?_)))
       refine Ze (sr (Zd (v:=.bool true) rfl (dn (ZCi ?_))))
       exact Zj rfl (Zg rfl) ⟨true,rfl,h,A.below⟩ (.inl rfl)
     ·skip;exact⟨(slq rfl),A⟩
   ·skip;exact⟨(slq rfl),A⟩
def T3 (h:Int) (K:Int->Prop):Prop :=
 K (Fa (Zwt.wrap ((Fa h 10007)+10007)) 10007)
theorem Za7 (A:Int)  {K:Int->Prop} (h:T3 A K) (w0:World)  :
  Calls ZCc 187 #[vI A] w0 λe w'=>∃ (B:Int),
   e=.returned (vI B)/\K B/\Bel w0 w':=by
 unfold T3 at h
 refine cof Tryz.func187 rfl 7 Tryz.ntmps187 ?_
 have I:=ZCu (X:=Nox) w0 [] (by simp)
 refine sr (Zd (v:=vI 0) rfl (dn (sr (Za (v:=vI A) rfl (Jf rfl rfl (by decide) (Zm rfl rfl (Jf rfl rfl (by decide) (Zd (v:=vI (Fa (Zwt.wrap ((Fa A 10007)+10007)) 10007)) rfl (dn (ZCi ?_))))))))))
 exact Zj rfl (Zg rfl) ⟨Fa (Zwt.wrap ((Fa A 10007)+10007)) 10007,rfl,h,I.below⟩ (.inl rfl)
def Ss (I:A8) (K:A8->Prop):Prop :=
 Z1 (λA (h:A8) B=>B (h.set A (Zwt.wrap (I.get A)))) (λ(h:A8)=>K h) 8 0 ZCe
theorem Es (O:A8)  {K:A8->Prop} (h:Ss O K) (w0:World)  :
  Calls ZCc 134 #[.agg (ZB7 (ZB6 .u8 O))] w0 λe w'=>∃ (r0:A8),
   e=.returned (.agg (ZB7 (ZB6 .i64 r0)))/\K r0/\Bel w0 w':=by
 unfold Ss at h
 refine cof Tryz.func134 rfl 18 Tryz.ntmps134 ?_
 have B:=ZCu (X:=Nox) w0 [] (by simp)
 refine sr (Yg (v:=.agg (ZB7 (ZB6 .u8 O))) B (ZB6 .u8 O) rfl rfl λb1 w3 V B=>Yt B (ZB6 .i64 ZCe) z73 rfl λb4 w6 V B=>dn (sr (Wk [] rfl (Kd   _) (Yt B (ZB6 .i64 ZCe) z73 rfl λb7 w9 V B=>Z7 (v:=.agg (ZB7 (ZB6 .i64 ZCe))) B 0 (ZB6 .i64 ZCe) (ZB6 .i64 ZCe) rfl ag73.size rfl rfl rfl rfl rfl (ZCh rfl) rfl λad B=>dn (ZB9 (sr (Yr B 2 (ZB6 .u8 O) rfl ag136 rfl rfl rfl (Za (v:=vI 0) rfl (dn (ZCf ?_))))))))))
 refine Yh (S:=A8) _ _ (λA I e_ w_=>Zt e_ [(2,vQ b4),(3,vQ b7),(7,.agg (ZB7 (ZB6 .u8 O))),(8,vI (A:Int))]/\Ctx Nox w0 w_ [blk b7 73 (ZB6 .i64 I),blk b4 73 (ZB6 .i64 ZCe)] []) 8 ?_ ?_ (s0:=ZCe) ?_ h
 ·clear B h;rintro A I e_ ae ac ab L ⟨U,B⟩ h aa;rw [ue U];refine sr (Zl rfl rfl (dn (ZB9 (Z8 rfl (decide_eq_true (by omega)) (ZCd (Ze (ZB9 (ZCf (sr (Za (v:=vI (A:Int)) rfl (G5 (.int .u8 (O.get A)) ZCr rfl rfl (ZCq _) (by omega) sc5 (ZCm _ _ L) (Zd (v:=vI (A:Int)) rfl (Zd (v:=.int .u8 (O.get A)) rfl (dn (Zh (Za (v:=vI (A:Int)) rfl (Za (v:=.int .u8 (O.get A)) rfl (G4 ZDc ZDk rfl (X0 A ZCw sc3.size rfl rfl (ZCq _) (by omega) (by omega) (Z7 (v:=vI (Zwt.wrap (O.get A))) B 0 [vI (Zwt.wrap (O.get A))] (ZB6 .i64 (I.set A (Zwt.wrap (O.get A)))) rfl sc3.size rfl rfl rfl rfl rfl L (ZC3 _ _ _ L) λag B=>done (Zr (Ze (Zh (Zm rfl rfl (Za (v:=vI (Zwt.wrap ((A:Int)+1))) rfl (done ?_))))))))))))))))))))))))))
  exact aa (I.set A (Zwt.wrap (O.get A))) _ _ ⟨(sl ⟨rfl,rfl,rfl,(tr rfl (I1 _ (Z2 L (by decide)))),trivial⟩),B⟩ h
 ·clear B h;rintro I e_ ah ab ⟨U,B⟩ h;rw [ue U];refine sr (Zl rfl rfl (dn (ZB9 (Z4 rfl (decide_eq_false (by omega)) ?_))))
  refine ZCo (Zi (Zi (Zy ?_)))
  refine Ze (sr (Yr B 0 (ZB6 .i64 I) rfl ag73 rfl rfl rfl (Z7 (v:=.agg (ZB7 (ZB6 .i64 I))) B 1 (ZB6 .i64 I) (ZB6 .i64 I) rfl ag73.size rfl rfl rfl rfl rfl (ZCh rfl) rfl λai B=>dn (ZCi ?_))))
  exact Zj rfl (Wq B 1 rfl ag73 rfl rfl) ⟨I,rfl,h,B.below⟩ (.inl rfl)
 ·skip;exact⟨(slq rfl),(B.xM [0,1] rfl)⟩
def Kk (a0:A8) (a1:List Int) (a2:A8) (K:A8->Int->Prop):Prop :=
 Z1 (λh (B:Int) I=>(if Fa (a1.getD h Ci) 2=0 then I B else((0<=(h:Int)/\(h:Int) < 8)/\(if a0.get h > 0 then((0<=(h:Int)/\(h:Int) < 8)/\(if a2.get h > 0 then K ZCe 0 else((0<=(h:Int)/\(h:Int) < 8)/\I B))) else((0<=(h:Int)/\(h:Int) < 8)/\(if a2.get h > 0 then Xv (λ(A:Int×Int) U=>(if A.1 < (a1.length:Int) then((0<=A.1/\A.1 < (a1.length:Int))/\((0<=A.1/\A.1 < 8)/\U (Zwt.wrap (A.1+1),Zwt.wrap (A.2+(Zwt.wrap ((Fa (a1.getD A.1.toNat Ci) 2) * (a0.get A.1.toNat))))))) else I A.2)) (Zwt.wrap ((h:Int)+1),B) else I B)))))) (λ(B:Int)=>Z1 (λO (L:A8) V=>V (L.set O (Zwt.wrap ((L.get O)+(a2.get O))))) (λ(L:A8)=>(if Fa B 2=1 then K L (-1) else K L 1)) 8 0 a0) a1.length 0 0
theorem Zmf (a0:A8) (a1:List Int) (a2:A8)  {K:A8->Int->Prop} (h:Kk a0 a1 a2 K) (w0:World) (q1:TInts.rep a1 [Ie] Ig w0) :
  Calls ZCc 199 #[.agg (ZB7 (ZB6 .i64 a0)),Ie,.agg (ZB7 (ZB6 .i64 a2))] w0 λe w'=>∃ (r0:A8) (r1:Int),
   e=.returned (.tuple #[.agg (ZB7 (ZB6 .i64 r0)),vI r1])/\K r0 r1/\Bel w0 w':=by
 unfold Kk at h
 refine cof Tryz.func199 rfl 75 Tryz.ntmps199 ?_
 have A:=ZCu (X:=Nox) w0 [ZB8 TInts a1 [Ie] Ig] (al1 q1);refine sr (Yg (v:=.agg (ZB7 (ZB6 .i64 a0))) A (ZB6 .i64 a0) rfl rfl λb2 w4 U A=>Yg (v:=.agg (ZB7 (ZB6 .i64 a2))) A (ZB6 .i64 a2) rfl rfl λb5 w7 U A=>Yt A (ZB6 .i64 ZCe) z73 rfl λb8 bk U A=>Zd (v:=vI 0) rfl (dn (sr (Zd (v:=vI 0) rfl (dn (ZB9 (sr (Za (v:=Ie) rfl (Zu A 0 rfl ZCs rfl (Za (v:=vI 0) rfl (dn (ZCf ?_))))))))))))
 have ag:a1.length<=9223372036854775807:=Yz (A.Iw 0 rfl);refine Yh (S:=Int) _ _ (λB ab e_ w_=>Zt e_ [(1,Ie),(3,vQ b2),(5,vQ b5),(6,vQ b8),(8,vI ab),(13,Ie),(14,vI (a1.length:Int)),(15,vI (B:Int))]/\Ctx Nox w0 w_ [blk b8 73 (ZB6 .i64 ZCe),blk b5 73 (ZB6 .i64 a2),blk b2 73 (ZB6 .i64 a0)] [ZB8 TInts a1 [Ie] Ig]) a1.length ?_ ?_ (s0:=0) ?_ h
 ·clear A h;rintro B ab e_ bl be ax aa ⟨ac,A⟩ h ah;rw [ue ac];refine sr (Zl rfl rfl (dn (ZB9 (Z8 rfl (decide_eq_true (by omega)) (ZCd (Ze (ZB9 (ZCf (sr (Za (v:=vI (B:Int)) rfl ?_))))))))))
  obtain ⟨bh,bm,ap⟩:=Zx (A.Iw 0 rfl) B aa;refine Yn (len:=a1.length) ZCs sc2.size (tr rfl ap) rfl (ZCq _) (ZC9.2 aa) (Ye (vI (a1.getD B Ci)) (Yi (A.Iw 0 rfl) ap B aa) sc2 rfl (Zd (v:=vI (B:Int)) rfl (Zd (v:=vI (a1.getD B Ci)) rfl (dn (ZB9 (sr (Za (v:=vI (a1.getD B Ci)) rfl (Jf rfl rfl (by decide) (X6 rfl rfl (dn ?_))))))))))
  refine Zs rfl (λal=>?_) (λal=>?_)
  ·replace h:=ift h (ct al);refine ZCo (Zi (Zy ?_))
   refine Ze (Zh (Zm rfl rfl (Za (v:=vI (Zwt.wrap ((B:Int)+1))) rfl (done ?_))))
   exact ah ab _ _ ⟨(sl ⟨rfl,rfl,rfl,rfl,rfl,rfl,rfl,(tr rfl (I1 _ (Z2 aa ag))),trivial⟩),A⟩ h
  ·replace h:=Zk h (cf al);refine ZCd (Ze (ZB9 (sr (Za (v:=vI (B:Int)) rfl ?_))))
   obtain ⟨⟨ay,az⟩,h⟩:=h;refine X0 B ZCw sc3.size rfl rfl ay az (by omega) (Yc A 2 (vI (a0.get B)) rfl sc3 rfl (ZCm _ _ (show B < 8 by omega)) (Jn rfl rfl (Za (v:=.bool (decide (a0.get B > 0))) rfl ?_)))
   refine Xm (decide (a0.get B > 0)) (λV=>?_) (λV=>?_)
   ·replace h:=ift h (ct V);refine Zq 4 27 rfl rfl V (Za (v:=vI (B:Int)) rfl (Zq 4 27 rfl rfl V ?_))
    obtain ⟨⟨a3,a4⟩,h⟩:=h;refine X0 B ZCw sc3.size rfl rfl a3 a4 (by omega) (Zq 4 27 rfl rfl V (Yc A 1 (vI (a2.get B)) rfl sc3 rfl (ZCm _ _ (show B < 8 by omega)) (Zq 4 27 rfl rfl V (Jn rfl rfl (Ya (v:=.bool (decide (a2.get B > 0))) (b:=true) (tr rfl (I1 _ V)) rfl (dn ?_))))))
    refine Zs rfl (λai=>?_) (λai=>?_)
    ·replace h:=ift h (ct ai);refine sr (Wk [] rfl (Kd   _) (Z7 (v:=.agg (ZB7 (ZB6 .i64 ZCe))) A 0 (ZB6 .i64 ZCe) (ZB6 .i64 ZCe) rfl ag73.size rfl rfl rfl rfl rfl (ZCh rfl) rfl λbn A=>Zd (v:=vI 0) rfl (dn ?_)))
     refine ZCi (Zn (Z9 (Zn (Zn (Z9 (Zn ?_))))))
     exact Jw rfl (Wq A 0 rfl ag73 rfl rfl) (Zg rfl) ⟨ZCe,0,rfl,h,A.below⟩ (.inl rfl)
    ·replace h:=Zk h (cf ai);refine ZCd (Ze (sr (Za (v:=vI (B:Int)) rfl ?_)))
     obtain ⟨⟨a5,a6⟩,h⟩:=h;refine X0 B ZCw sc3.size rfl rfl a5 a6 (by omega) (Yc A 1 (vI (a2.get B)) rfl sc3 rfl (ZCm _ _ (show B < 8 by omega)) (Jn rfl rfl (dn (Z4 rfl ai (ZCd (Zr (Ze (Zh (Zm rfl rfl (Za (v:=vI (Zwt.wrap ((B:Int)+1))) rfl (done ?_)))))))))))
     exact ah ab _ _ ⟨(sl ⟨rfl,rfl,rfl,rfl,rfl,rfl,rfl,(tr rfl (I1 _ (Z2 aa ag))),trivial⟩),A⟩ h
   ·replace h:=Zk h (cf V);refine Zp (b:=false) 4 27 rfl (tr rfl (I1 _ V)) (by decide) (Zp (b:=false) 4 27 rfl (tr rfl (I1 _ V)) (by decide) (Zp (b:=false) 4 27 rfl (tr rfl (I1 _ V)) (by decide) (Zp (b:=false) 4 27 rfl (tr rfl (I1 _ V)) (by decide) (Ya (v:=.bool false) (b:=false) (tr rfl (I1 _ V)) rfl (dn (Z4 rfl rfl (ZCd (Ze (sr (Za (v:=vI (B:Int)) rfl ?_))))))))))
    obtain ⟨⟨a7,a8⟩,h⟩:=h;refine X0 B ZCw sc3.size rfl rfl a7 a8 (by omega) (Yc A 1 (vI (a2.get B)) rfl sc3 rfl (ZCm _ _ (show B < 8 by omega)) (Jn rfl rfl (dn ?_)))
    refine Zs rfl (λam=>?_) (λam=>?_)
    ·replace h:=ift h (ct am);refine sr (Za (v:=vI (B:Int)) rfl (Zm rfl rfl (Zd (v:=vI (Zwt.wrap ((B:Int)+1))) rfl (dn (ZCf ?_)))))
     refine Jb (S:=Int×Int) _ (λI e_ w_=>Zt e_ [(1,Ie),(3,vQ b2),(5,vQ b5),(6,vQ b8),(8,vI I.2),(11,vI I.1),(13,Ie),(14,vI (a1.length:Int)),(15,vI (B:Int))]/\Ctx Nox w0 w_ [blk b8 73 (ZB6 .i64 ZCe),blk b5 73 (ZB6 .i64 a2),blk b2 73 (ZB6 .i64 a0)] [ZB8 TInts a1 [Ie] Ig]) ?_ (s0:=(Zwt.wrap ((B:Int)+1),ab)) ?_ h
     ·clear A h;rintro I e_ bo bi bp ⟨ac,A⟩ h au;rw [ue ac];refine ZB9 (sr (Za (v:=vI I.1) rfl (Za (v:=Ie) rfl (Zu A 0 rfl ZCs rfl (Zl rfl rfl (dn ?_))))))
      refine Zs rfl (λan=>?_) (λan=>?_)
      ·replace h:=ift h (ct an);refine ZCd (Ze (ZB9 (ZCf ?_)))
       refine cwd 10 Ym [0,0,0,6,14,30,0,64,192,510,1023,2047] [3,4,7,8] [0,1,2,5,6,9] (λaj ad bq U=>?_)
       replace A:=A.Iy U;refine bM 0 (vI I.2) rfl ad (Zc 12 1) (bM 1 (Ie) rfl ad (Zc 12 3) (bM 2 (vI I.1) rfl ad (Zc 12 7) ?_))
       obtain ⟨⟨a9,ba⟩,h⟩:=h;obtain ⟨av,br,aq⟩:=Zx (A.Iw 0 rfl) I.1.toNat (show I.1.toNat < a1.length by omega)
       refine bL 3 (.pointer (some (av.add (I.1.toNat * 1)))) rfl rfl aj (λ_ U=>by exact Y3 (len:=a1.length) ZCs sc2.size (by exact tr rfl aq) rfl a9 ba) (Zc 12 15) (bL 4 (vI (a1.getD I.1.toNat Ci)) rfl rfl aj (λ_ U=>by exact Xp (vI (a1.getD I.1.toNat Ci)) (Yi ((A.Iy U).Iw 0 rfl) aq I.1.toNat (show I.1.toNat < a1.length by omega)) sc2 rfl) (Zc 12 31) (bF 5 (vI (Fa (a1.getD I.1.toNat Ci) 2)) rfl rfl ad (λ_=>by exact Zeh rfl rfl (by decide)) (Zc 12 63) (bM 6 (vI I.1) rfl ad (Zc 12 127) ?_)))
       obtain ⟨⟨bb,bc⟩,h⟩:=h;refine bL 7 (.pointer (some ⟨b2,I.1.toNat,none⟩)) rfl rfl aj (λ_ U=>by exact Wv I.1.toNat ZCw sc3.size rfl rfl bb bc (by omega)) (Zc 12 255) (bL 8 (vI (a0.get I.1.toNat)) rfl rfl aj (λ_ U=>by exact Yj (A.Iy U) 2 (vI (a0.get I.1.toNat)) rfl sc3 rfl (ZCm _ _ (show I.1.toNat < 8 by omega))) (Zc 12 511) (bF 9 (vI (Zwt.wrap ((Fa (a1.getD I.1.toNat Ci) 2) * (a0.get I.1.toNat)))) rfl rfl ad (λ_=>by exact Tv rfl rfl) (Zc 12 1023) (Z5 10 (by decide) (by decide) (by kernel_rfl) (by kernel_rfl) rfl (Zm rfl rfl (Zd (v:=vI (Zwt.wrap (I.2+(Zwt.wrap ((Fa (a1.getD I.1.toNat Ci) 2) * (a0.get I.1.toNat)))))) rfl (done (Z6 (Zr (Ze (Zh (Za (v:=vI I.1) rfl (Zm rfl rfl (Zd (v:=vI (Zwt.wrap (I.1+1))) rfl (done ?_))))))))))))))
       exact au (Zwt.wrap (I.1+1),Zwt.wrap (I.2+(Zwt.wrap ((Fa (a1.getD I.1.toNat Ci) 2) * (a0.get I.1.toNat))))) _ _ ⟨(slq rfl),A⟩ h
      ·replace h:=Zk h (cf an);refine ZCo (Zi (Zi (Zy ?_)))
       refine Zr (Ze (Zh (Zm rfl rfl (Za (v:=vI (Zwt.wrap ((B:Int)+1))) rfl (done ?_)))))
       exact ah I.2 _ _ ⟨(sl ⟨rfl,rfl,rfl,rfl,rfl,rfl,rfl,(tr rfl (I1 _ (Z2 aa ag))),trivial⟩),A⟩ h
     ·skip;exact⟨(slq rfl),A⟩
    ·replace h:=Zk h (cf am);refine ZCd (Zr (Ze (Zh (Zm rfl rfl (Za (v:=vI (Zwt.wrap ((B:Int)+1))) rfl (done ?_))))))
     exact ah ab _ _ ⟨(sl ⟨rfl,rfl,rfl,rfl,rfl,rfl,rfl,(tr rfl (I1 _ (Z2 aa ag))),trivial⟩),A⟩ h
 ·clear A h;rintro ab e_ bs ax ⟨ac,A⟩ h;rw [ue ac];refine sr (Zl rfl rfl (dn (ZB9 (Z4 rfl (decide_eq_false (by omega)) ?_))))
  refine ZCo (Zi (Zi (Zy ?_)))
  refine Ze (ZB9 (sr (Za (v:=vI 0) rfl (dn (ZCf ?_)))))
  refine Yh (S:=A8) _ _ (λL O e_ w_=>Zt e_ [(3,vQ b2),(5,vQ b5),(6,vQ b8),(8,vI ab),(58,vI (L:Int))]/\Ctx Nox w0 w_ [blk b8 73 (ZB6 .i64 ZCe),blk b5 73 (ZB6 .i64 a2),blk b2 73 (ZB6 .i64 O)] [ZB8 TInts a1 [Ie] Ig]) 8 ?_ ?_ (s0:=a0) ?_ h
  ·clear A h;rintro L O e_ bt bj bd ae ⟨ac,A⟩ h aw;rw [ue ac];refine sr (Zl rfl rfl (dn (ZB9 (Z8 rfl (decide_eq_true (by omega)) (ZCd (Ze (ZB9 (ZCf (sr (Za (v:=vI (L:Int)) rfl (Zd (v:=vI (L:Int)) rfl (dn ?_))))))))))))
   refine cwd 6 Ym [0,1,3,0,8,24,63,127,255] [1,2,4,5] [0,3] (λak ar bu U=>?_)
   replace A:=A.Iy U;refine bM 0 (vI (L:Int)) rfl ar (Zc 9 1) (bL 1 (.pointer (some ⟨b2,L,none⟩)) rfl rfl ak (λ_ U=>by exact Wv L ZCw sc3.size rfl rfl (ZCq _) (by omega) (by omega)) (Zc 9 3) (bL 2 (vI (O.get L)) rfl rfl ak (λ_ U=>by exact Yj (A.Iy U) 2 (vI (O.get L)) rfl sc3 rfl (ZCm _ _ ae)) (Zc 9 7) (bM 3 (vI (L:Int)) rfl ar (Zc 9 15) (bL 4 (.pointer (some ⟨b5,L,none⟩)) rfl rfl ak (λ_ U=>by exact Wv L ZCw sc3.size rfl rfl (ZCq _) (by omega) (by omega)) (Zc 9 31) (bL 5 (vI (a2.get L)) rfl rfl ak (λ_ U=>by exact Yj (A.Iy U) 1 (vI (a2.get L)) rfl sc3 rfl (ZCm _ _ ae)) (Zc 9 63) (Z5 6 (by decide) (by decide) (by kernel_rfl) (by kernel_rfl) rfl (Zm rfl rfl (X0 L ZCw sc3.size rfl rfl (ZCq _) (by omega) (by omega) (Z7 (v:=vI (Zwt.wrap ((O.get L)+(a2.get L)))) A 2 [vI (Zwt.wrap ((O.get L)+(a2.get L)))] (ZB6 .i64 (O.set L (Zwt.wrap ((O.get L)+(a2.get L))))) rfl sc3.size rfl rfl rfl rfl rfl ae (ZC3 _ _ _ ae) λbv A=>done (Z6 (Zr (Ze (Zh (Zm rfl rfl (Za (v:=vI (Zwt.wrap ((L:Int)+1))) rfl (done ?_))))))))))))))))
   exact aw (O.set L (Zwt.wrap ((O.get L)+(a2.get L)))) _ _ ⟨(sl ⟨rfl,rfl,rfl,rfl,(tr rfl (I1 _ (Z2 ae (by decide)))),trivial⟩),A⟩ h
  ·clear A h;rintro O e_ bw bd ⟨ac,A⟩ h;rw [ue ac];refine sr (Zl rfl rfl (dn (ZB9 (Z4 rfl (decide_eq_false (by omega)) ?_))))
   refine ZCo (Zi (Zi (Zy ?_)))
   refine Ze (ZB9 (sr (Za (v:=vI ab) rfl (Jf rfl rfl (by decide) (X6 rfl rfl (dn ?_))))))
   refine Zs rfl (λao=>?_) (λao=>?_)
   ·replace h:=ift h (ct ao);refine sr (Yr A 2 (ZB6 .i64 O) rfl ag73 rfl rfl rfl (Z7 (v:=.agg (ZB7 (ZB6 .i64 O))) A 0 (ZB6 .i64 O) (ZB6 .i64 O) rfl ag73.size rfl rfl rfl rfl rfl (ZCh rfl) rfl λbx A=>Zd (v:=vI (-1)) rfl (dn ?_)))
    refine ZCi (Zn ?_)
    exact Jw rfl (Wq A 0 rfl ag73 rfl rfl) (Zg rfl) ⟨O,(-1),rfl,h,A.below⟩ (.inl rfl)
   ·replace h:=Zk h (cf ao);refine ZCd (Ze (sr (Yr A 2 (ZB6 .i64 O) rfl ag73 rfl rfl rfl (Z7 (v:=.agg (ZB7 (ZB6 .i64 O))) A 0 (ZB6 .i64 O) (ZB6 .i64 O) rfl ag73.size rfl rfl rfl rfl rfl (ZCh rfl) rfl λbz A=>Zd (v:=vI 1) rfl (dn (ZCi ?_))))))
    exact Jw rfl (Wq A 0 rfl ag73 rfl rfl) (Zg rfl) ⟨O,1,rfl,h,A.below⟩ (.inl rfl)
  ·skip;exact⟨(slq rfl),A⟩
 ·skip;exact⟨(slq rfl),A⟩
def Qv (h:List (A8×Int)) (A:A8) (I:Int) (K:List (A8×Int)->Prop):Prop :=
 T3 (Zwt.wrap (((Xa h A).getD 0)+I)) (λB=>(if B≠0 then K (Yv h A B) else K (Jy h A)))
theorem Za8 (I:List (A8×Int)) (B:A8) (O:Int)  {K:List (A8×Int)->Prop} (h:Qv I B O K) (w0:World) (q0:(mapS b0 I).holds w0) :
  Calls ZCc 195 #[.map (some b0),.agg (ZB7 (ZB6 .i64 B)),vI O] w0 λe w'=>∃ (V:List (A8×Int)),
   e=.returned (.tuple #[])/\K V/\(mapS b0 V).holds w'/\BelB b0 w0 w':=by
 unfold Qv at h
 refine cof Tryz.func195 rfl 20 Tryz.ntmps195 ?_
 have A:=Ctx.start1 w0 b0 (it:=mapS b0 I) rfl [] q0 (by simp) (by simp)
 refine sr (Yg (v:=.agg (ZB7 (ZB6 .i64 B))) A (ZB6 .i64 B) rfl rfl λb2 w4 aa A=>dn (sr (Za (v:=.map (some b0)) rfl (Yr A 0 (ZB6 .i64 B) rfl ag73 rfl rfl rfl (Ze3 B 0 (A.Ix 1 rfl) J4 ZC8 z2 rfl rfl (Za (v:=vI O) rfl (Zm rfl rfl (Zf [vI (Zwt.wrap (((Xa I B).getD 0)+O))] _ Tryz.func187 rfl rfl rfl (Za7 (Zwt.wrap (((Xa I B).getD 0)+O)) h _) ?_))))))))
 rintro _ w7 ⟨U,rfl,h,hB9⟩;refine rt ?_
 replace A:=A.Iy hB9;refine Zd (v:=vI U) rfl (dn (sr (Za (v:=vI U) rfl (Xl rfl rfl (dn ?_)))))
 refine Zs rfl (λL=>?_) (λL=>?_)
 ·replace h:=ift h (ct L);refine Zh (Za (v:=.map (some b0)) rfl (Yr A 0 (ZB6 .i64 B) rfl ag73 rfl rfl rfl (Za (v:=vI U) rfl ?_)))
  refine Ek A 1 B U rfl J4 ZC8 rfl rfl rfl (λab A=>?_) (.inl rfl)
  refine done ?_
  exact Tw rfl  ⟨Yv I B U,rfl,h,(A.Ix 1 rfl),A.belB⟩ (.inr rfl)
 ·replace h:=Zk h (cf L);refine Zh (Za (v:=.map (some b0)) rfl (Yr A 0 (ZB6 .i64 B) rfl ag73 rfl rfl rfl (Zk4 A 1 B rfl J4 ZC8 rfl rfl rfl λac A=>done ?_)))
  exact Tw rfl  ⟨Jy I B,rfl,h,(A.Ix 1 rfl),A.belB⟩ (.inr rfl)
def Qw (L:ZCb) (K:List (A8×Int)->Prop):Prop :=
 Z1 (λA (h:(List (A8×Int))) B=>Ss ((L.terms.getD A Ci).mono) (λI=>B (Yv h I ((L.terms.getD A Ci).factor)))) (λ(h:(List (A8×Int)))=>K h) L.terms.length 0 ([]:List (A8×Int))
theorem Za9 (a0:ZCb)  {K:List (A8×Int)->Prop} (h:Qw a0 K) (w0:World) (q0:ZCv.rep a0 [Ia] Ib w0) :
  Calls ZCc 78 #[.agg #[Ia]] w0 λe w'=>∃ (r0:List (A8×Int)) (V:Nat),
   e=.returned (.map (some V))/\K r0/\(mapS V r0).holds w'/\w0.heap.size<=V/\Bel w0 w':=by
 unfold Qw at h
 refine cof Tryz.func78 rfl 22 Tryz.ntmps78 ?_
 have A:=ZCu (X:=Nox) w0 [ZB8 TForm a0 [Ia] Ib] (al1 q0);have aj:=(A.Iw 0 rfl);replace A:=A.I0 0 rfl (ZB8 ZCa.ty.sl a0.terms [Ia] Ib) (λ_=>(Xq aj)) (λ_ ak=>ak)
 refine sr (Yg (v:=.agg #[Ia]) A [Ia] rfl rfl λb4 w6 I A=>Zd (v:=.map none) rfl (dn (sr (Md A (kvA .i64) (vvI .i64) λb7 w9 I A=>Zd (v:=.map (some b7)) rfl (dn (ZB9 (sr (Z0 0 ZCg rfl Ii.size rfl rfl (Yc A 1 (Ia) rfl Ii rfl rfl (Zu A 0 rfl ZCj rfl (Za (v:=vI 0) rfl (dn (ZCf ?_)))))))))))))
 have ag:a0.terms.length<=9223372036854775807:=Yz (A.Iw 0 rfl);refine Yh (S:=(List (A8×Int))) _ _ (λB O e_ w_=>Zt e_ [(3,.map (some b7)),(8,Ia),(9,vI (a0.terms.length:Int)),(10,vI (B:Int))]/\Ctx Nox w0 w_ [mapS b7 O] [ZB8 ZCa.ty.sl a0.terms [Ia] Ib,ZB8 TForm a0 [Ia] Ib]) a0.terms.length ?_ ?_ (s0:=([]:List (A8×Int))) ?_ h
 ·clear A h;rintro B O e_ ao am al L ⟨aa,A⟩ h ah;rw [ue aa];refine sr (Zl rfl rfl (dn (ZB9 (Z8 rfl (decide_eq_true (by omega)) (ZCd (Ze (ZB9 (ZCf (sr ?_)))))))))
  obtain ⟨an,ap,ab⟩:=Zx (A.Iw 0 rfl) B L;refine Yn (len:=a0.terms.length) ZCj ag162.size (tr rfl ab) rfl (ZCq _) (ZC9.2 L) (Ji (ZCk (a0.terms.getD B Ci)) (Yi (A.Iw 0 rfl) ab B L) ag162 rfl rfl (Yt A (ZCk (⟨ZCe,0⟩:Term)) Mk rfl λad aq I A=>Z7 (v:=.agg (ZB7 (ZCk (a0.terms.getD B Ci)))) A 0 (ZCk (a0.terms.getD B Ci)) (ZCk (a0.terms.getD B Ci)) rfl ag162.size rfl rfl rfl rfl rfl (ZCh rfl) rfl λar A=>dn ?_))
  refine cwd 6 Ym [0,0,2,6,0,16,63] [2,5] [0,1,4] (λac U au I=>?_)
  replace A:=A.Iy I;refine bM 0 (.map (some b7)) rfl U (Zc 7 1) (bF 1 (vQ ad) rfl rfl U (λ_=>by exact Yq 0 ZCp rfl ag136.size rfl rfl) (Zc 7 3) (bL 2 (.agg (ZB7 (ZB6 .u8 ((a0.terms.getD B Ci).mono)))) rfl rfl ac (λ_ I=>by exact Y6 (A.Iy I) 0 (ZB6 .u8 ((a0.terms.getD B Ci).mono)) rfl ag136 rfl rfl rfl) (Zc 7 7) (bF 4 (.pointer (some ⟨ad,8,none⟩)) rfl rfl U (λ_=>by exact Yq 8 ZCp rfl sc2.size rfl rfl) (Zc 7 23) (bL 5 (vI ((a0.terms.getD B Ci).factor)) rfl rfl ac (λ_ I=>by exact Yj (A.Iy I) 0 (vI ((a0.terms.getD B Ci).factor)) rfl sc2 rfl rfl) (Zc 7 55) (aO 3 rfl (Zf [.agg (ZB7 (ZB6 .u8 ((a0.terms.getD B Ci).mono)))] _ Tryz.func134 rfl rfl rfl (Es ((a0.terms.getD B Ci).mono) h _) ?_))))))
  rintro _ av ⟨ae,rfl,h,ai⟩;refine rt ?_
  replace A:=A.Iy ai;refine done (aK (by assumption) (Zc 7 63) (Z5 6 (by decide) (by decide) (by kernel_rfl) (by kernel_rfl) rfl ?_))
  refine Ek A 1 ae ((a0.terms.getD B Ci).factor) rfl J4 ZC8 rfl rfl rfl (λaw A=>?_) (.inl rfl)
  refine done (Z6 (Zr (Ze (Zh (Zm rfl rfl (Za (v:=vI (Zwt.wrap ((B:Int)+1))) rfl (done ?_)))))))
  exact ah (Yv O ae ((a0.terms.getD B Ci).factor)) _ _ ⟨(sl ⟨rfl,rfl,rfl,(tr rfl (I1 _ (Z2 L ag))),trivial⟩),(A.xM [1] rfl)⟩ h
 ·clear A h;rintro O e_ ax al ⟨aa,A⟩ h;rw [ue aa];refine sr (Zl rfl rfl (dn (ZB9 (Z4 rfl (decide_eq_false (by omega)) ?_))))
  refine ZCo (Zi (Zi (Zy ?_)))
  refine Ze (sr (Za (v:=.map (some b7)) rfl (Zd (v:=.map (some b7)) rfl (dn (ZCi ?_)))))
  exact Zj rfl (Zg rfl) ⟨O,b7,rfl,h,(A.Ix 0 rfl),(L4 A 0 rfl),A.below⟩ (.inl rfl)
 ·skip;exact⟨(slq rfl),(A.xM [0] rfl)⟩
def Et (I:A8) (L:A8) (K:Int->Prop):Prop :=
 Z1 (λh (B:Unit) A=>(if I.get h≠L.get h then K (Zwt.wrap ((L.get h) - (I.get h))) else A ())) (λ(B:Unit)=>K 0) 8 0 ()
theorem Zmg (a0:A8) (a1:A8)  {K:Int->Prop} (h:Et a0 a1 K) (w0:World)  :
  Calls ZCc 158 #[.agg (ZB7 (ZB6 .i64 a0)),.agg (ZB7 (ZB6 .i64 a1))] w0 λe w'=>∃ (r0:Int),
   e=.returned (vI r0)/\K r0/\Bel w0 w':=by
 unfold Et at h
 refine cof Tryz.func158 rfl 24 Tryz.ntmps158 ?_
 have I:=ZCu (X:=Nox) w0 [] (by simp)
 refine sr (Yg (v:=.agg (ZB7 (ZB6 .i64 a0))) I (ZB6 .i64 a0) rfl rfl λb1 w3 B I=>Yg (v:=.agg (ZB7 (ZB6 .i64 a1))) I (ZB6 .i64 a1) rfl rfl λb4 w6 B I=>Zd (v:=vI 0) rfl (dn (ZB9 (sr (Za (v:=vI 0) rfl (dn (ZCf ?_)))))))
 refine Yh (S:=Unit) _ _ (λA ad e_ w_=>Zt e_ [(2,vQ b1),(3,vQ b4),(6,vI (A:Int))]/\Ctx Nox w0 w_ [blk b4 73 (ZB6 .i64 a1),blk b1 73 (ZB6 .i64 a0)] []) 8 ?_ ?_ (s0:=()) ?_ h
 ·clear I h;rintro A ad e_ ai ah ag L ⟨aa,I⟩ h ae;rw [ue aa];refine sr (Zl rfl rfl (dn (ZB9 (Z8 rfl (decide_eq_true (by omega)) (ZCd (Ze (ZB9 (ZCf (sr (Za (v:=vI (A:Int)) rfl (Zd (v:=vI (A:Int)) rfl (dn (ZB9 ?_)))))))))))))
  refine cwd 6 Ym [0,1,3,0,8,24,63] [1,2,4,5] [0,3] (λO ab aj B=>?_)
  replace I:=I.Iy B;refine bM 0 (vI (A:Int)) rfl ab (Zc 7 1) (bL 1 (.pointer (some ⟨b1,A,none⟩)) rfl rfl O (λ_ B=>by exact Wv A ZCw sc3.size rfl rfl (ZCq _) (by omega) (by omega)) (Zc 7 3) (bL 2 (vI (a0.get A)) rfl rfl O (λ_ B=>by exact Yj (I.Iy B) 1 (vI (a0.get A)) rfl sc3 rfl (ZCm _ _ L)) (Zc 7 7) (bM 3 (vI (A:Int)) rfl ab (Zc 7 15) (bL 4 (.pointer (some ⟨b4,A,none⟩)) rfl rfl O (λ_ B=>by exact Wv A ZCw sc3.size rfl rfl (ZCq _) (by omega) (by omega)) (Zc 7 31) (bL 5 (vI (a1.get A)) rfl rfl O (λ_ B=>by exact Yj (I.Iy B) 0 (vI (a1.get A)) rfl sc3 rfl (ZCm _ _ L)) (Zc 7 63) (Z5 6 (by decide) (by decide) (by kernel_rfl) (by kernel_rfl) rfl (Xl rfl rfl (done (Z6 (Ze ?_))))))))))
  refine Zs rfl (λV=>?_) (λV=>?_)
  ·replace h:=ift h (ct V);refine ZB9 ?_
   refine cwd 6 Ym [0,1,3,0,8,24,63,127] [1,2,4,5] [0,3] (λU ac ak B=>?_)
   replace I:=I.Iy B;refine bM 0 (vI (A:Int)) rfl ac (Zc 8 1) (bL 1 (.pointer (some ⟨b4,A,none⟩)) rfl rfl U (λ_ B=>by exact Wv A ZCw sc3.size rfl rfl (ZCq _) (by omega) (by omega)) (Zc 8 3) (bL 2 (vI (a1.get A)) rfl rfl U (λ_ B=>by exact Yj (I.Iy B) 0 (vI (a1.get A)) rfl sc3 rfl (ZCm _ _ L)) (Zc 8 7) (bM 3 (vI (A:Int)) rfl ac (Zc 8 15) (bL 4 (.pointer (some ⟨b1,A,none⟩)) rfl rfl U (λ_ B=>by exact Wv A ZCw sc3.size rfl rfl (ZCq _) (by omega) (by omega)) (Zc 8 31) (bL 5 (vI (a0.get A)) rfl rfl U (λ_ B=>by exact Yj (I.Iy B) 1 (vI (a0.get A)) rfl sc3 rfl (ZCm _ _ L)) (Zc 8 63) (Z5 6 (by decide) (by decide) (by kernel_rfl) (by kernel_rfl) rfl (X5 rfl rfl (Zd (v:=vI (Zwt.wrap ((a1.get A) - (a0.get A)))) rfl (done (Z6 (Ze ?_)))))))))))
   refine ZCi (Z9 (Zn (Zn (Z9 (Zn ?_)))))
   exact Zj rfl (Zg rfl) ⟨Zwt.wrap ((a1.get A) - (a0.get A)),rfl,h,I.below⟩ (.inl rfl)
  ·replace h:=Zk h (cf V);refine ZCd (Zr (Ze (Zh (Zm rfl rfl (Za (v:=vI (Zwt.wrap ((A:Int)+1))) rfl (done ?_))))))
   exact ae () _ _ ⟨(sl ⟨rfl,rfl,(tr rfl (I1 _ (Z2 L (by decide)))),trivial⟩),I⟩ h
 ·clear I h;rintro ad e_ al ag ⟨aa,I⟩ h;rw [ue aa];refine sr (Zl rfl rfl (dn (ZB9 (Z4 rfl (decide_eq_false (by omega)) ?_))))
  refine ZCo (Zi (Zi (Zy ?_)))
  refine Ze (sr (Zd (v:=vI 0) rfl (dn (ZCi ?_))))
  exact Zj rfl (Zg rfl) ⟨0,rfl,h,I.below⟩ (.inl rfl)
 ·skip;exact⟨(slq rfl),I⟩
end Go.Proofs.YtaagfepgbofmlaaGreat
