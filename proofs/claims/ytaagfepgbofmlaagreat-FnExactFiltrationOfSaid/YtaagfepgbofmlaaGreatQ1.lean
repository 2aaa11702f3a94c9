import Derived.Test.YtaagfepgbofmlaaGreatQ0
set_option linter.unusedSectionVars false
set_option linter.unusedSimpArgs false
set_option linter.unusedVariables false
open Go renaming wp_seq→ZMu,wp_skip→ZMy,wp_block→ZM0,wp_ret→ZM3,wp_exit→ZM9
open Go.Instr renaming build→ZNr
open Go.IntKind renaming i64→ZHf,u8→ZM6
open Go.Proofs.Tryz renaming prog→ZMx,underlying55→ZM1,underlying53→ZM4,underlying162→ZNa,underlying136→ZNc,underlying22→ZNd,underlying32→ZNe,underlying73→ZNh,underlying30→ZNi,func125→ZNk,func123→ZNl,func95→ZNn,underlying115→ZNs,underlying5→ZNw,func174→ZNx,func124→ZNy,func121→ZN1,underlying2→ZN3,underlying3→ZN4,func196→ZN6
open Go.Value renaming ownBlock→ZFo
open Inhabited renaming default→ZEu
open Int renaming tmod→ZFl,natCast_nonneg→ZNb,ofNat_lt→ZNt
open List renaming toArray→ZHu,replicate→ZEp,length_set→ZNp,length_eq_one_iff→ZJj,mem_flatten→ZNv,mem_cons→ZEn,mem_or_eq_of_mem_set→ZN9,pairwise_flatten→ZOa,pairwise_iff_getElem→ZE2
open List.Perm renaming swap→ZF6
open Nat renaming le_of_ble_eq_true→ZM2,le_trans→ZEv
open Option renaming toList→ZNu
open Vc renaming ETerm→ZMv,Form→ZMw,TForm→ZNg
open Vc.A8 renaming enc→ZMs,zero→ZMz,enc_get→ZM7,enc_set→ZNo
open Vc.Ctx renaming start→ZNf
open Vc.Enc renaming encs_append→ZNm,encs_one'→ZNz
open Vc.Term renaming enc→ZM5
open Vc.Tr renaming item→ZM8
open Vc.Ty renaming item→ZMt
namespace Vc
open Go Go.RowKit
def Zt (e:Env) (l:List (Nat×Value)):Prop:=∀ p,p∈l→e p.1=p.2
theorem Zp7 {e:Env}:Zt e []:=by intro p hp; cases hp
theorem Zp8 {e:Env} {t:Nat} {v:Value} {l:List (Nat×Value)} (h:e t=v) (hs:Zt e l):Zt e ((t,v)::l):=by
 intro p hp;rcases ZEn.1 hp with rfl | hp
 ·exact h
 ·exact hs p hp
theorem Zv4 {e:Env} {l:List (Nat×Value)} (hs:Zt e l) (k:Nat) {t:Nat} {v:Value} (h:l[k]? = some (t,v)):e t=v:=hs (t,v) (List.mem_of_getElem? h)
def Zb (n k:Nat):Array Bool:=((List.range n).map (Nat.testBit k)).toArray
section
variable {α β:Type}
def Zv5 (kv:α→Value) (vv:β→Value) (ls:List (Option (List (α×β)))) (cs:List Value) (fp:List Nat) (w:World) (j:Nat):Prop :=
 (ls[j]? = some none∧cs[j]? = some (.map none))∨∃ l b,ls[j]? = some (some l)∧cs[j]? = some (.map (some b))∧b∈fp∧(Z6 kv vv b l).holds w
theorem Zp9 {kv:α→Value} {vv:β→Value} {b:Nat} {l:List (α×β)} {w w':World} (h:w'.heap[b]? = w.heap[b]?) (hw:(Z6 kv vv b l).holds w):(Z6 kv vv b l).holds w':=by
 obtain ⟨es,c,A,B⟩:=hw;exact⟨es,c,h.trans A,B⟩
def Zab (kv:α→Value) (vv:β→Value) (n:Nat):Ty (List (Option (List (α×β)))) where
 sz:=n
 rep ls cs fp w:=cs.length=n∧ls.length=n∧(∀ b,b∈fp→b < w.heap.size)∧∀ j,j < n→Zv5 kv vv ls cs fp w j
 keep h hw:=⟨hw.1,hw.2.1,Zfo h hw.2.2.1,λj hj=>by
  rcases hw.2.2.2 j hj with q | ⟨l,b,B,G,A,I⟩
  ·exact .inl q
  ·exact .inr ⟨l,b,B,G,A,Zp9 (h b A) I⟩⟩
 low hw:=hw.2.2.1
 len hw:=hw.1
 one hw u hu:=by
  obtain ⟨j,hj,rfl⟩:=List.getElem_of_mem hu;rcases hw.2.2.2 j (by have:=hw.1; omega) with ⟨_,q⟩ | ⟨l,b,_,q,_⟩
  ·rw [List.getElem?_eq_getElem hj] at q; injection q with q; rw [q]; rfl
  ·rw [List.getElem?_eq_getElem hj] at q; injection q with q; rw [q]; rfl
 more hw hs hl:=⟨hw.1,hw.2.1,hl,λj hj=>by
  rcases hw.2.2.2 j hj with q | ⟨l,b,B,G,A,I⟩
  ·exact .inl q
  ·exact .inr ⟨l,b,B,G,hs _ A,I⟩⟩
variable {kv:α→Value} {vv:β→Value} {n:Nat} {ls:List (Option (List (α×β)))} {cs:List Value} {fp:List Nat} {w:World}
theorem Zj8 (kv:α→Value) (vv:β→Value) (n:Nat) (w:World):(Zab kv vv n).rep (ZEp n none) (ZEp n (.map none)) [] w :=
 ⟨by simp,by simp,by simp,λj hj=>.inl ⟨by simp [hj],by simp [hj]⟩⟩
theorem Zv6 (h:(Zab kv vv n).rep ls cs fp w) {b i:Nat} {l:List (α×β)} (hm:(Z6 kv vv b l).holds w):(Zab kv vv n).rep (ls.set i (some l)) (cs.set i (.map (some b))) (b::fp) w:=by
 refine⟨by rw [ZNp]; exact h.1,by rw [ZNp]; exact h.2.1,λc hc=>?_,λj hj=>?_⟩
 ·rcases ZEn.1 hc with rfl | hc
  ·exact(Z6 kv vv c l).low w hm c (by simp [Z6])
  ·exact h.2.2.1 c hc
 ·have hl:=h.1;have U:=h.2.1;by_cases e:i=j
  ·subst e;exact .inr ⟨l,b,by rw [List.getElem?_set_self (by omega)],by rw [List.getElem?_set_self (by omega)],by simp,hm⟩
  ·rcases h.2.2.2 j hj with ⟨A,B⟩ | ⟨l',b',G,I,L,O⟩
   ·exact .inl ⟨by rw [List.getElem?_set_ne e]; exact A,by rw [List.getElem?_set_ne e]; exact B⟩
   ·exact .inr ⟨l',b',by rw [List.getElem?_set_ne e]; exact G,by rw [List.getElem?_set_ne e]; exact I,by simp [L],O⟩
theorem Zv7 (h:(Zab kv vv n).rep ls cs fp w) {i:Nat} {l:List (α×β)} (hl:ls[i]? = some (some l)):∃ b,cs[i]? = some (.map (some b))∧b∈fp∧(Z6 kv vv b l).holds w:=by
 have hi:i < n:=by have:=(List.getElem?_eq_some_iff.1 hl).1; have:=h.2.1; omega
 rcases h.2.2.2 i hi with ⟨B,O⟩ | ⟨l',b',A,G,I,L⟩
 ·rw [hl] at B; cases B
 ·rw [hl] at A; injection A with A; injection A with A; subst A; exact⟨b',G,I,L⟩
theorem Zc6 (h:(Zab kv vv n).rep ls cs fp w):cs.length=n:=h.1
theorem Zmm (h:(Zab kv vv n).rep ls cs fp w):cs.all (·.oneCell')=true:=List.all_eq_true.2 λu hu=>(Zab kv vv n).one h u hu
end
theorem Zv8 {cs:List Value} {n:Nat} (h:cs.length=n):(cs.drop 0).take n=cs:=by rw [List.drop_zero,List.take_of_length_le (by omega)]
theorem Zv9 {cs:List Value} {o i:Nat} {v:Value} (h:cs[i]? = some v) (ho:o=i):cs[o]? = some v:=ho ▸ h
theorem Zqa {cs:List Value} {o i:Nat} {v:Value} (hi:i < cs.length) (ho:o=i):Xq cs o [v]=cs.set i v:=by
 subst ho;unfold Xq;rw [List.set_eq_take_append_cons_drop,if_pos hi];simp
theorem Zmn {cs vc:List Value} (h:vc.length=cs.length):Xq cs 0 vc=vc:=by
 unfold Xq;rw [List.take_zero,List.nil_append,Nat.zero_add,h,List.drop_length,List.append_nil]
namespace Ctx
variable {X:Nat→Prop} {w0 w w':World} {M Ps:List Item}
theorem joinP (h:Ctx X w0 w M Ps) (j k:Nat) {it jt:Item} (hj:Ps[j]? = some it) (hk:Ps[k]? = some jt) (nt:Item) (hn:it.holds w→jt.holds w→nt.holds w) (hf:∀ b,b∈nt.fp→b∈it.fp∨b∈jt.fp):Ctx X w0 w M (nt::Ps) :=
 h.pushP nt (hn (h.getP j hj) (h.getP k hk)) (λb hb m hm=>(hf b hb).elim (λq=>h.pd it (List.mem_of_getElem? hj) b q m hm) (λq=>h.pd jt (List.mem_of_getElem? hk) b q m hm))
end Ctx
theorem Zcj {w w':World} (h:BelN w.heap.size w w'):Bel w w':=⟨⟨h.os,h.tape,h.output,h.size,h.old⟩,h.drawn⟩
theorem Ji {N:Nat} {w w':World} (A:N≤w.heap.size) (h:Bel w w'):BelN N w w':=⟨h.os,h.tape,h.output,h.size,h.drawn,λc hc=>h.block c (by omega)⟩
theorem Zac {N b:Nat} {w w':World} (A:N≤w.heap.size) (hb:N≤b) (h:BelB b w w'):BelN N w w':=⟨h.os,h.tape,h.output,h.size,h.drawn,λc hc=>h.old c (by omega) (by omega)⟩
section
variable {P:Program} {l:List Oper} {Q:Exit→Act→World→Prop} {n m f:Nat} {e:Env} {w:World} {listed:Array Bool}
theorem Xb {N i:Nat} {w':World} {l9:Array Bool} (hb:BelN N w w') (A:N≤w.heap.size) (hl:listed.setIfInBounds i true=l9) (h:N≤w'.heap.size→AE (BelN N) P .any l.toArray Q m n f l9 e w'):AK (BelN N) P l Q m n f i listed w .normal (actOf n e) w' :=
 Zpl hb hl (h (ZEv A hb.size))
end
section
variable {P:Program} {ops:Array Oper} {Q:Exit→Act→World→Prop} {n:Nat} {e:Env} {w w':World} {rest:List Oper}
variable {X:Nat→Prop} {w0:World} {M Ps:List Item}
variable {d ty:Nat} {pos:String} {af:Array Edge} {gd:Option (Nat×Bool)}
theorem Zj9 (B:Ctx X w0 w M Ps) {t:Nat} {z:Value} (cs:List Value) (hz:X2 P t z) (hcs:z.cells.toList=cs)
  (h:∀ b w',w.heap.size≤b→Bel w w'→Ctx X w0 w' (blk b t cs::M) Ps→W P ops Q rest n (upd e d (.pointer (some ⟨b,0,none⟩))) w') :
  W P ops Q (⟨some d,.alloc t,ty,pos,af,none⟩::rest) n e w:=by
 have A:Bel w (w.alloc (.cells z.cells t)):=Bel.alloc _ _;refine Yv (.pointer (some ⟨w.heap.size,0,none⟩)) rfl rfl ?_ (h w.heap.size (w.alloc (.cells z.cells t)) (Nat.le_refl _) A (B.push A _ ?_ ?_))
 ·simp [execOp,Instr.alloc,Zjp hz,newVar,newRow]
 ·show (w.alloc _).heap[w.heap.size]? = _
  rw [heap_alloc_new,← hcs]
 ·simp [blk]
theorem Zqb (A:Ctx X w0 w M Ps) (k:Nat) {b t off sz ty':Nat} {x y:Operand} {cs:List Value} {v:Value} (vc:List Value) (cs':List Value) (hk:M[k]? = some (blk b t cs)) (B:Xo P ty' sz) (hx:ev n e x=.pointer (some ⟨b,off,none⟩))
  (hy:ev n e y=v) (hv:v.cells.toList=vc) (hl:vc.length=sz) (G:vc.all (·.oneCell')=true) (ho:off+sz≤cs.length) (hcs:Xq cs off vc=cs')
  (h:∀ w',BelB b w w'→Ctx X w0 w' (M.set k (blk b t cs')) Ps→W P ops Q rest n e w') :
  W P ops Q (⟨none,.store ty' x y,ty,pos,af,none⟩::rest) n e w:=by
 obtain ⟨w',hr,hb,hos,hta,hou,hsz,hother⟩:=Zg9 (P:=P) B (A.getM k hk) hv hl G ho;refine Zb1 rfl rfl ?_ (h w' ⟨hos,hta,hou,by omega,Zbb _ _ _ _ hr,λc _ hc=>hother c hc⟩ (A.turn k hk hos hta hou (by omega) (Zbb _ _ _ _ hr) (λc _ hc=>hother c (by simpa [blk] using hc)) (hcs ▸ hb) (λc hc=>.inl hc)))
 simp [execOp,hx,hy,Instr.storeAt,Instr.sureAddr,hr]
variable {α β:Type} {kv:α→Value} {vv:β→Value}
theorem Zdx (B:Ctx X w0 w M Ps) {t:Nat} (kv:α→Value) (vv:β→Value) (h:∀ b w',w.heap.size≤b→Bel w w'→Ctx X w0 w' (Z6 kv vv b []::M) Ps→W P ops Q rest n (upd e d (.map (some b))) w') :
  W P ops Q (⟨some d,.makeMap t none,ty,pos,af,none⟩::rest) n e w:=by
 have A:Bel w (w.alloc (.map #[] 0)):=Bel.alloc _ _;refine Yv (.map (some w.heap.size)) rfl rfl ?_ (h w.heap.size _ (Nat.le_refl _) A (B.push A _ ⟨#[],0,heap_alloc_new _ _,rfl,by simp,by simp,by simp⟩ (by simp [Z6])))
 simp [execOp,Instr.makeMap,newObj,Sem.run,Result.andThen]
variable [DecidableEq α]
theorem Zam (A:Ctx X w0 w M Ps) (j:Nat) {t k el b:Nat} {l:List (α×β)} {x y z:Operand} (kx:α) (v:β) (hk:M[j]? = some (Z6 kv vv b l)) (K:KeyT P k kv) (ht:P.underlying t=some (.map k el))
  (hx:ev n e x=.map (some b)) (hy:ev n e y=kv kx) (hz:ev n e z=vv v) (h:∀ w',BelB b w w'→Ctx X w0 w' (M.set j (Z6 kv vv b (Yo l kx v))) Ps→W P ops Q rest n e w') {op:Op} (hop:op=.mapUpdate t x y z∨op=.insert t x y z) :
  W P ops Q (⟨none,op,ty,pos,af,none⟩::rest) n e w:=by
 obtain ⟨w',hr,hh,hb⟩:=Zpq K ht (A.getM j hk) kx v;refine Zb1 rfl rfl ?_ (h w' hb (A.turnB j hk hb rfl rfl hh))
 rcases hop with rfl | rfl <;> simp [execOp,hx,hy,hz,hr]
end
theorem Zwa {cs vc:List Value} {o:Nat} (ho:o+vc.length≤cs.length) (k:Nat):(Xq cs o vc)[k]? = if k < o then cs[k]? else if k < o+vc.length then vc[k - o]? else cs[k]? := by
 unfold Xq;have h:(cs.take o).length=o:=by rw [List.length_take]; omega
 by_cases a:k < o
 ·rw [if_pos a,List.append_assoc,List.getElem?_append_left (by omega),List.getElem?_take,if_pos a]
 ·rw [if_neg a];by_cases b:k < o+vc.length
  ·rw [if_pos b,List.append_assoc,List.getElem?_append_right (by omega),h,List.getElem?_append_left (by omega)]
  ·rw [if_neg b,List.getElem?_append_right (by rw [List.length_append]; omega),List.length_append,h,List.getElem?_drop]
   congr 1
   omega
theorem Zwb {cs vc:List Value} {o:Nat} (ho:o+vc.length≤cs.length):(Xq cs o vc).length=cs.length:=by
 unfold Xq; simp; omega
section
variable {α:Type} {T:Tr α} {w:World}
theorem Zwc {fps:List (List Nat)} {i:Nat} {f:List Nat} {b:Nat} (h:b∈(fps.set i f).flatten):b∈fps.flatten∨b∈f:=by
 obtain ⟨l,hl,hb⟩:=ZNv.1 h;rcases ZN9 hl with q | q
 ·exact .inl (ZNv.2 ⟨l,q,hb⟩)
 ·exact .inr (q ▸ hb)
theorem Zwd {xs:List α} {cs c2:List Value} {fps:List (List Nat)} {A:List Nat} {i:Nat} {y:α} (h:(Yf T xs cs fps).holds w) (hi:i < xs.length) (hy:(T.item y c2 A).holds w) (hd:∀ b,b∈fps.flatten→b∉A) :
  (Yf T (xs.set i y) (Xq cs (i * T.ty.sz) c2) (fps.set i A)).holds w:=by
 have I:c2.length=T.ty.sz:=T.ty.len (T.trep hy.1);have hle:i * T.ty.sz+T.ty.sz≤cs.length:=by rw [h.1.1]; exact Za3 hi
 have B:i * T.ty.sz+c2.length≤cs.length:=by rw [I]; exact hle
 have hfl:=h.1.2.1;refine⟨⟨by rw [Zwb B,h.1.1,ZNp],by rw [ZNp,ZNp,hfl],λj hj=>?_⟩,?_⟩
 ·have hj':j < xs.length:=by simpa using hj
  have hseg:∀ k:Nat,(((Xq cs (i * T.ty.sz) c2).drop (j * T.ty.sz)).take T.ty.sz)[k]? = if j=i then c2[k]? else((cs.drop (j * T.ty.sz)).take T.ty.sz)[k]? := by
   intro k;rw [List.getElem?_take]
   by_cases hk:k < T.ty.sz
   ·rw [if_pos hk,List.getElem?_drop,Zwa B]
    by_cases hji:j=i
    ·subst hji;rw [if_neg (by omega),if_pos (by omega),if_pos rfl,Nat.add_sub_cancel_left]
    ·rw [if_neg hji,List.getElem?_take,if_pos hk,List.getElem?_drop]
     rcases Nat.lt_or_gt_of_ne hji with q | q
     ·have:=Za3 (sz:=T.ty.sz) q;rw [if_pos (by omega)]
     ·have:=Za3 (sz:=T.ty.sz) q;rw [if_neg (by omega),if_neg (by omega)]
   ·rw [if_neg hk];by_cases hji:j=i
    ·rw [if_pos hji,List.getElem?_eq_none (by omega)]
    ·rw [if_neg hji,List.getElem?_take,if_neg hk]
  have hfj:(fps.set i A).getD j []=if j=i then A else fps.getD j []:=by
   simp only [List.getD];by_cases hji:j=i
   ·subst hji; rw [if_pos rfl,List.getElem?_set_self (by omega)]; rfl
   ·rw [if_neg hji,List.getElem?_set_ne (λe=>hji e.symm)]
  rw [List.getElem_set,hfj];by_cases hji:j=i
  ·subst hji;rw [if_pos rfl,if_pos rfl];have G:((Xq cs (j * T.ty.sz) c2).drop (j * T.ty.sz)).take T.ty.sz=c2:=List.ext_getElem? (λk=>(hseg k).trans (if_pos rfl))
   rw [G];exact hy.1
  ·rw [if_neg (λe=>hji e.symm),if_neg hji]
   have G:((Xq cs (i * T.ty.sz) c2).drop (j * T.ty.sz)).take T.ty.sz=(cs.drop (j * T.ty.sz)).take T.ty.sz:=List.ext_getElem? (λk=>(hseg k).trans (if_neg hji))
   rw [G];exact h.1.2.2 j hj'
 ·have hp:=ZOa.1 h.2;refine ZOa.2 ⟨λl hl=>?_,?_⟩
  ·rcases ZN9 hl with q | q
   ·exact hp.1 l q
   ·rw [q]; exact hy.2
  ·rw [ZE2];intro a b ha hb hab x hx z hz;have ha':a < fps.length:=by simpa using ha
   have hb':b < fps.length:=by simpa using hb
   rw [List.getElem_set] at hx hz
   split at hx
   ·split at hz
    ·omega
    ·intro e; subst e; exact hd x (ZNv.2 ⟨_,List.getElem_mem hb',hz⟩) hx
   ·split at hz
    ·intro e; subst e; exact hd x (ZNv.2 ⟨_,List.getElem_mem ha',hx⟩) hz
    ·exact ZE2.1 hp.2 a b ha' hb' hab x hx z hz
theorem Zwe {e:Nat} {xs:List α} {v:Value} {fp:List Nat} (h:((Tr.sl e T).item xs [v] fp).holds w) (hn:0 < xs.length):∃ g cap,v=.slice (some ⟨g,0,none⟩) xs.length cap:=by
 obtain ⟨ecs,fps,A,_⟩:=Zhm h;exact Jf A hn
end
section
variable {P:Program} {ops:Array Oper} {Q:Exit→Act→World→Prop} {n:Nat} {e:Env} {w w':World} {rest:List Oper}
variable {X:Nat→Prop} {w0:World} {M Ps:List Item}
variable {d ty:Nat} {pos:String} {af:Array Edge} {gd:Option (Nat×Bool)}
theorem Zwf {el ty' i g cap j:Nat} {α:Type} {T:Tr α} {x y:Operand} {v u:Value} {xs:List α} {z:α} {c2:List Value} {I A:List Nat} (B:Ctx X w0 w ((Tr.sl el T).item xs [v] I::T.item z c2 A::M) Ps)
  (hi:i < xs.length) (hv:v=.slice (some ⟨g,0,none⟩) xs.length cap) (L:Xo P ty' T.ty.sz) (hx:ev n e x=.pointer (some ⟨g,j,none⟩)) (hj:j=i * T.ty.sz) (hy:ev n e y=u) (hu:u.cells.toList=c2)
  (h:∀ f w',Ctx X w0 w' ((Tr.sl el T).item (xs.set i z) [v] f::M) Ps→W P ops Q rest n e w') :
  W P ops Q (⟨none,.store ty' x y,ty,pos,af,none⟩::rest) n e w:=by
 obtain ⟨ecs,fps,O,U,rfl,V⟩:=Zhm (B.getM 0 rfl);have hz:(T.item z c2 A).holds w:=B.getM 1 rfl;have hdz:∀ b,b∈v.ownBlock.toList++fps.flatten→b∉A:=λb hb hb'=>B.mm 0 1 rfl rfl (by decide) b hb hb'
 have h1:=B.split (a:=own el T.ty.sz v xs.length ecs) (b:=Yf T xs ecs fps) (λb hb=>List.mem_append_left _ hb) (λb hb=>List.mem_append_right _ hb) ⟨O,U,V⟩
 have G:c2.length=T.ty.sz:=T.ty.len (T.trep hz.1);have hle:j+T.ty.sz≤ecs.length:=by rw [hj,U.1.1]; exact Za3 hi
 refine Zdo (v:=u) h1 0 c2 (Xq ecs j c2) rfl hv L hx hy hu G (List.all_eq_true.2 λq hq=>T.ty.one (T.trep hz.1) q hq) hle rfl λw1 hC1=>?_
 have h2:=hC1.perm (M':=Yf T xs ecs fps::T.item z c2 A::own el T.ty.sz v xs.length (Xq ecs j c2)::M) (by
  have q1:(own el T.ty.sz v xs.length (Xq ecs j c2)::Yf T xs ecs fps::T.item z c2 A::M).Perm (Yf T xs ecs fps::own el T.ty.sz v xs.length (Xq ecs j c2)::T.item z c2 A::M):=ZF6 _ _ _;have q2:(Yf T xs ecs fps::own el T.ty.sz v xs.length (Xq ecs j c2)::T.item z c2 A::M).Perm (Yf T xs ecs fps::T.item z c2 A::own el T.ty.sz v xs.length (Xq ecs j c2)::M):=(ZF6 _ _ _).cons _;exact q1.trans q2)
 have h3:=h2.gather (c:=Yf T (xs.set i z) (Xq ecs j c2) (fps.set i A)) (λb hb=>Zwc hb) (λp q r=>by rw [hj]; exact Zwd p hi q r)
 have h4:=h3.perm (M':=own el T.ty.sz v xs.length (Xq ecs j c2)::Yf T (xs.set i z) (Xq ecs j c2) (fps.set i A)::M) (ZF6 _ _ _);exact h _ w1 (h4.gather (c:=(Tr.sl el T).item (xs.set i z) [v] (v.ownBlock.toList++(fps.set i A).flatten)) (λb hb=>List.mem_append.1 hb) (λp q r=>J0 (by rw [ZNp]; exact p) q r))
end
section
variable {P:Program} {ops:Array Oper} {Q:Exit→Act→World→Prop} {n:Nat} {e:Env} {w w':World} {rest:List Oper}
variable {d ty:Nat} {pos:String} {af:Array Edge} {gd:Option (Nat×Bool)}
end
section
variable {P:Program} {ops:Array Oper} {Q:Exit→Act→World→Prop} {K:Act→World→Prop} {n:Nat} {e:Env} {w:World}
theorem dn (h:K (actOf n e) w):W P ops (Exit.then K Q) [] n e w:=done (Zd h)
theorem sr {id:Nat} {l:List Oper} {y:Code} (h:W P l.toArray (Exit.then (y.wp P Q) Q) l n e w):(Code.seq (Code.region id l.toArray false) y).wp P Q (actOf n e) w:=ZMu (Zj h)
theorem sk {t:Nat} {v:Value} {l:List (Nat×Value)} (h:e t=v) (hs:Zt e l):Zt e ((t,v)::l):=Zp8 h hs
theorem sn:Zt e []:=Zp7
def Zmo (e:Env):List (Nat×Value)→Env
 | []=>e
 | p::l=>upd (Zmo e l) p.1 p.2
theorem ue {e:Env}:∀ {l:List (Nat×Value)}, Zt e l→e=Zmo e l
 | [],_=>rfl
 | p :: l, h => by
  have A:=ue (l:=l) (λq hq=>h q (List.mem_cons_of_mem _ hq))
  have B:e p.1=p.2:=h p (by simp)
  show e=upd (Zmo e l) p.1 p.2
  rw [← A,Zur B]
def SlR (e:Env):List (Nat×Value)→Prop
 | []=>True
 | p::l=>e p.1=p.2∧SlR e l
theorem sl {e:Env}:∀ {l:List (Nat×Value)}, SlR e l→Zt e l
 | [],_=>Zp7
 | p::l,h=>Zp8 h.1 (sl h.2)
theorem sx {l:List (Nat×Value)} (hs:Zt e l) (k:Nat) {t:Nat} {v:Value} (h:l[k]? = some (t,v)):e t=v:=Zv4 hs k h
end
theorem rt {v:Value} {F:Value→Prop} (h:F v):∃ u,Ending.returned v=.returned u∧F u:=⟨v,rfl,h⟩
abbrev vI (x:Int):Value:=.int .i64 x
abbrev vQ (b:Nat):Value:=.pointer (some ⟨b,0,none⟩)
abbrev mapS (b:Nat) (l:List (A8×Int)):Item:=Z6 (kvA .i64) (vvI .i64) b l
abbrev eI:Enc Int:=EI .i64
theorem al1 {α:Type} {P:α→Prop} {a:α} (h:P a):∀ x,x∈[a]→P x:=λx hx=>by obtain rfl:=List.mem_singleton.1 hx; exact h
theorem alc {α:Type} {P:α→Prop} {a:α} {l:List α} (h:P a) (k:∀ x,x∈l→P x):∀ x,x∈a::l→P x:=λx hx=>(ZEn.1 hx).elim (λe=>e ▸ h) (k x)
theorem Zdy {b:Nat} {P:Nat→Prop} (h:P b):∀ x,x∈[b]→P x:=al1 h
theorem cof {P:Program} {f:FuncId} {fn:Func} {c:Code} {args:List Value} {w:World} {R:Ending→World→Prop}
  (hf:P.funcs[f]? = some fn) (hb:fn.body=some c) (n:Nat) (hn:fn.ntmps=n)
  (h:c.wp P (bodyPost P fn R) (actOf n (Zg6 args)) w) (hl:args.length≤n:=by exact ZM2 rfl):Calls P f args.toArray w R:=Zlu hf hb n hn hl h
namespace Ctx
theorem xM {X:Nat→Prop} {w0 w:World} {M Ps:List Item} (h:Ctx X w0 w M Ps) (idx:List Nat) {M':List Item} (hm:idx.map (M[·]?)=M'.map some) (hn:idx.Nodup:=by decide):Ctx X w0 w M' Ps:=h.sM idx hn hm
theorem dAlg {X:Nat→Prop} {w0 w:World} {M Ps:List Item} (h:Ctx X w0 w M Ps) (k:Nat) {a:Alg} {u v:Value} {fp:List Nat} (hk:Ps[k]? = some (ZMt TAlg a [u,v] fp)):Ctx X w0 w M (ZMt ZNg.sl a.images [v] fp::ZMt ((EI .i64).ty.sl) a.degrees [u] fp::Ps) :=
 (h.derive k hk (ZMt ((EI .i64).ty.sl) a.degrees [u] fp) (λq=>(Zfq q).1) (λ_ q=>q)).derive (k+1) (it:=ZMt TAlg a [u,v] fp) (by rw [List.getElem?_cons_succ]; exact hk) (ZMt ZNg.sl a.images [v] fp) (λq=>(Zfq q).2) (λ_ q=>q)
end Ctx
section
variable {P:Program} {Q:Exit→Act→World→Prop} {l:List Oper} {m n f:Nat} {listed:Array Bool} {e:Env} {w:World} {lf:List Nat} {d:Nat} {ty:Nat} {pos:String} {af:Array Edge} {x:Operand}
theorem bF (i:Nat) (v:Value) {oi:Oper} (ho:l[i]? = some oi) (hd:oi.dst=some d) (A:∀ i,lf.contains i=true→Jb .any l.toArray l.toArray.size i=true)
  (hst:∀ w':World,(execOp (ev n e) oi).run P w'=.ok (.value v) w') (l9:Array Bool) (h:AE Bel P .any l.toArray Q m n f l9 (upd e d v) w)
  (hc:lf.contains i=true:=by rfl) (hw:Region.wanted oi (Jp l.toArray n e)=true:=by rfl) (hr:Zbl l listed i=true:=by kernel_rfl) (hl:listed.setIfInBounds i true=l9:=by kernel_rfl):AE Bel P .any l.toArray Q m n (f+1) listed e w :=
 Zr Zv i v ho hd hr (A i hc) (λw'=>.inl ⟨hw,hst w'⟩) hl h
theorem bL (i:Nat) (v:Value) {oi:Oper} (ho:l[i]? = some oi) (hd:oi.dst=some d) (A:∀ i,lf.contains i=true→Jb .any l.toArray m i=true)
  (hst:∀ w':World,Bel w w'→(execOp (ev n e) oi).run P w'=.ok (.value v) w') (l9:Array Bool) (h:AE Bel P .any l.toArray Q m n f l9 (upd e d v) w)
  (hc:lf.contains i=true:=by rfl) (hw:Region.wanted oi (Jp l.toArray n e)=true:=by rfl) (hr:Zbl l listed i=true:=by kernel_rfl) (hl:listed.setIfInBounds i true=l9:=by kernel_rfl):AE Bel P .any l.toArray Q m n (f+1) listed e w :=
 Zar Zv i v ho hd hr (A i hc) (λw' B=>.inl ⟨hw,hst w' B⟩) hl h
theorem bMR {R:World→World→Prop} (A:PreW R) (i:Nat) (v:Value) (ho:l[i]? = some ⟨some d,.move x,ty,pos,af,none⟩) (B:∀ i,lf.contains i=true→Jb .any l.toArray l.toArray.size i=true)
  (l9:Array Bool) (h:AE R P .any l.toArray Q m n f l9 (upd e d v) w) (hx:ev n e x=v:=by rfl)
  (hc:lf.contains i=true:=by rfl) (hr:Zbl l listed i=true:=by kernel_rfl) (hl:listed.setIfInBounds i true=l9:=by kernel_rfl):AE R P .any l.toArray Q m n (f+1) listed e w :=
 Zr A i v ho rfl hr (B i hc) (λw'=>.inl ⟨rfl,Zau hx⟩) hl h
theorem bM (i:Nat) (v:Value) (ho:l[i]? = some ⟨some d,.move x,ty,pos,af,none⟩) (A:∀ i,lf.contains i=true→Jb .any l.toArray l.toArray.size i=true)
  (l9:Array Bool) (h:AE Bel P .any l.toArray Q m n f l9 (upd e d v) w) (hx:ev n e x=v:=by rfl)
  (hc:lf.contains i=true:=by rfl) (hr:Zbl l listed i=true:=by kernel_rfl) (hl:listed.setIfInBounds i true=l9:=by kernel_rfl):AE Bel P .any l.toArray Q m n (f+1) listed e w :=
 bMR Zv i v ho A l9 h hx hc hr hl
theorem bAR {R:World→World→Prop} (A:PreW R) (i:Nat) (v:Value) (ho:l[i]? = some ⟨some d,.assign x,ty,pos,af,none⟩) (B:∀ i,lf.contains i=true→Jb .any l.toArray l.toArray.size i=true)
  (l9:Array Bool) (h:AE R P .any l.toArray Q m n f l9 (upd e d v) w) (hx:ev n e x=v:=by rfl)
  (hc:lf.contains i=true:=by rfl) (hr:Zbl l listed i=true:=by kernel_rfl) (hl:listed.setIfInBounds i true=l9:=by kernel_rfl):AE R P .any l.toArray Q m n (f+1) listed e w :=
 Zr A i v ho rfl hr (B i hc) (λw'=>.inl ⟨rfl,Zut hx⟩) hl h
theorem bA (i:Nat) (v:Value) (ho:l[i]? = some ⟨some d,.assign x,ty,pos,af,none⟩) (A:∀ i,lf.contains i=true→Jb .any l.toArray l.toArray.size i=true)
  (l9:Array Bool) (h:AE Bel P .any l.toArray Q m n f l9 (upd e d v) w) (hx:ev n e x=v:=by rfl)
  (hc:lf.contains i=true:=by rfl) (hr:Zbl l listed i=true:=by kernel_rfl) (hl:listed.setIfInBounds i true=l9:=by kernel_rfl):AE Bel P .any l.toArray Q m n (f+1) listed e w :=
 bAR Zv i v ho A l9 h hx hc hr hl
end
theorem mg {α:Type} {l:List α} {a:α} (i:Nat) (h:l[i]? = some a):a∈l:=List.mem_of_getElem? h
theorem slq {e:Env} {l:List (Nat×Value)} (h:l.map (λp=>e p.1)=l.map Prod.snd):Zt e l:=λp hp=>by
 obtain ⟨i,hi,rfl⟩:=List.getElem_of_mem hp;have:=congrArg (·[i]?) h;simpa [hi] using this
section
variable {X:Nat→Prop} {w0 w:World} {M Ps:List Item}
theorem Ctx.pdk (h:Ctx X w0 w M Ps) (i j:Nat) {a b:Item} (hi:Ps[i]? = some a) (hj:M[j]? = some b):∀ x,x∈a.fp→x∉b.fp:=λx hx=>h.pd a (List.mem_of_getElem? hi) x hx b (List.mem_of_getElem? hj)
theorem Ctx.mfk (h:Ctx X w0 w M Ps) (i:Nat) {a:Item} (hi:M[i]? = some a):∀ x,x∈a.fp→w0.heap.size≤x∨X x:=h.mfp a (List.mem_of_getElem? hi)
variable {P:Program} {ops:Array Oper} {Q:Exit→Act→World→Prop} {n:Nat} {e:Env} {rest:List Oper} {d ty:Nat} {pos:String} {af:Array Edge} {gd:Option (Nat×Bool)}
theorem Zka (h:Ctx X w0 w M Ps) (k:Nat) {α:Type} {T:Ty α} {xs:List α} {v:Value} {fp:List Nat} {t el:Nat} {x:Operand} (hk:Ps[k]? = some (ZMt T.sl xs [v] fp)) (ht:P.underlying t=some (.slice el)) (hx:ev n e x=v) :
  (execOp (ev n e) ⟨some d,.call { callee:=.builtin .len,args:=#[x],argTypes:=#[t] }, ty,pos,af,gd⟩).run P w=.ok (.value (.int .i64 (xs.length:Int))) w:=by
 obtain ⟨A,c,B⟩:=Zdn (h.getP k hk);exact Zek ht (hx.trans B)
theorem Zw (B:Ctx X w0 w M Ps) (k:Nat) {α:Type} {T:Ty α} {xs:List α} {v:Value} {fp:List Nat} {t el:Nat} {x:Operand} (hk:Ps[k]? = some (ZMt T.sl xs [v] fp)) (ht:P.underlying t=some (.slice el)) (hx:ev n e x=v)
  (h:W P ops Q rest n (upd e d (.int .i64 (xs.length:Int))) w):W P ops Q (⟨some d,.call { callee:=.builtin .len,args:=#[x],argTypes:=#[t] }, ty,pos,af,none⟩::rest) n e w:=by
 obtain ⟨A,c,G⟩:=Zdn (B.getP k hk);exact Zel ht (hx.trans G) h
theorem Zqc (h:Ctx X w0 w M Ps) (k:Nat) {a sz m:Nat} {v:Value} {cs:List Value} {t el:Nat} {x:Operand} (hk:M[k]? = some (own a sz v m cs)) (ht:P.underlying t=some (.slice el)) (hx:ev n e x=v) :
  (execOp (ev n e) ⟨some d,.call { callee:=.builtin .len,args:=#[x],argTypes:=#[t] }, ty,pos,af,gd⟩).run P w=.ok (.value (.int .i64 (m:Int))) w:=by
 obtain ⟨A,c,B⟩:=Zbj (h.getM k hk);exact Zek ht (hx.trans B)
theorem Za4 (B:Ctx X w0 w M Ps) (k:Nat) {a sz m:Nat} {v:Value} {cs:List Value} {t el:Nat} {x:Operand} (hk:M[k]? = some (own a sz v m cs)) (ht:P.underlying t=some (.slice el)) (hx:ev n e x=v)
  (h:W P ops Q rest n (upd e d (.int .i64 (m:Int))) w):W P ops Q (⟨some d,.call { callee:=.builtin .len,args:=#[x],argTypes:=#[t] }, ty,pos,af,none⟩::rest) n e w:=by
 obtain ⟨A,c,G⟩:=Zbj (B.getM k hk);exact Zel ht (hx.trans G) h
theorem Zwg (h:Ctx X w0 w M Ps) (k:Nat) {α:Type} {T:Tr α} {a:Nat} {xs:List α} {v:Value} {f:List Nat} {t el:Nat} {x:Operand} (hk:M[k]? = some (ZM8 (Tr.sl a T) xs [v] f)) (ht:P.underlying t=some (.slice el)) (hx:ev n e x=v) :
  (execOp (ev n e) ⟨some d,.call { callee:=.builtin .len,args:=#[x],argTypes:=#[t] }, ty,pos,af,gd⟩).run P w=.ok (.value (.int .i64 (xs.length:Int))) w:=by
 obtain ⟨A,c,B⟩:=Zp5 (h.getM k hk);exact Zek ht (hx.trans B)
theorem Zqd (B:Ctx X w0 w M Ps) (k:Nat) {α:Type} {T:Tr α} {a:Nat} {xs:List α} {v:Value} {f:List Nat} {t el:Nat} {x:Operand} (hk:M[k]? = some (ZM8 (Tr.sl a T) xs [v] f)) (ht:P.underlying t=some (.slice el)) (hx:ev n e x=v)
  (h:W P ops Q rest n (upd e d (.int .i64 (xs.length:Int))) w):W P ops Q (⟨some d,.call { callee:=.builtin .len,args:=#[x],argTypes:=#[t] }, ty,pos,af,none⟩::rest) n e w:=by
 obtain ⟨A,c,G⟩:=Zp5 (B.getM k hk);exact Zel ht (hx.trans G) h
variable {l:List Oper} {id:Nat}
theorem cwd (m:Nat) (hm:P.follows .mixedOrders=true) (rows lk lf:List Nat)
  (h:(∀ i,lk.contains i=true→Jb .any l.toArray m i=true)→(∀ i,lf.contains i=true→Jb .any l.toArray l.toArray.size i=true)→∀ w',Bel w w'→AE Bel P .any l.toArray Q m n l.length (ZEp l.length false).toArray e w')
  (hro:Zen l rows=true:=by kernel_rfl) (hk:lk.all (Zbk rows l m)=true:=by kernel_rfl) (hf:lf.all (Zbk rows l l.length)=true:=by kernel_rfl):(Code.region id l.toArray true).wp P Q (actOf n e) w:=Zpk m hm rows lk lf hro hk hf h
theorem Zmp (m:Nat) (hm:P.follows .mixedOrders=true) (rows lk lf:List Nat)
  (h:(∀ i,lk.contains i=true→Jb .any l.toArray m i=true)→(∀ i,lf.contains i=true→Jb .any l.toArray l.toArray.size i=true)→∀ w',Bel w w'→AE (BelN w'.heap.size) P .any l.toArray Q m n l.length (ZEp l.length false).toArray e w')
  (hro:Zen l rows=true:=by kernel_rfl) (hk:lk.all (Zbk rows l m)=true:=by kernel_rfl) (hf:lf.all (Zbk rows l l.length)=true:=by kernel_rfl):(Code.region id l.toArray true).wp P Q (actOf n e) w:=Zu5 m hm rows lk lf hro hk hf h
end
end Vc
namespace Go.Proofs
open Go.Shelf
end Go.Proofs
set_option maxRecDepth 4000
set_option maxHeartbeats 4000000
namespace Go.Proofs.YtaagfepgbofmlaaGreat
open Go Go.RowKit Vc
variable {b0 bp0 b1 bp1 b2 bp2 b3 bp3 b4 bp4 b5 bp5 b6 bp6 b7 bp7 mb0:Nat} {u0_0 u0_1 u0_2 u0_3 u0_4 u0_5 u1_0 u1_1 u1_2 u1_3 u1_4 u1_5 u2_0 u2_1 u2_2 u2_3 u2_4 u2_5 u3_0 u3_1 u3_2 u3_3 u3_4 u3_5 u4_0 u4_1 u4_2 u4_3 u4_4 u4_5 u5_0 u5_1 u5_2 u5_3 u5_4 u5_5 u6_0 u6_1 u6_2 u6_3 u6_4 u6_5 u7_0 u7_1 u7_2 u7_3 u7_4 u7_5:Value} {fp0 fp1 fp2 fp3 fp4 fp5 fp6 fp7 fp0_0 fp0_1 fp0_2 fp0_3 fp0_4 fp0_5 fp1_0 fp1_1 fp1_2 fp1_3 fp1_4 fp1_5 F0:List Nat}
theorem sc2:ScaT ZMx 2:=⟨⟨_,ZN3,rfl⟩,by kernel_rfl⟩
theorem sc5:ScaT ZMx 5:=⟨⟨_,ZNw,rfl⟩,by kernel_rfl⟩
theorem z55:X2 ZMx 55 (.agg #[.slice none 0 0]):=by unfold X2; kernel_rfl
theorem Zhn  (w:World):(ZNr 55 #[]).run ZMx w=.ok (.agg #[.slice none 0 0]) w:=by kernel_rfl
theorem ag55:AggT ZMx 55 1:=⟨⟨_,ZM1,rfl⟩,by kernel_rfl⟩
theorem Yh:ZMx.follows .mixedOrders=true:=by kernel_rfl
theorem ag136:AggT ZMx 136 8:=⟨⟨_,ZNc,rfl⟩,by kernel_rfl⟩
theorem Zkb (x0:A8) (x1:Int) (w:World):(ZNr 162 #[(0,.agg (ZHu (ZMs .u8 x0))),(1,.int .i64 x1)]).run ZMx w=.ok (.agg (ZHu (ZM5 (⟨x0,x1⟩:Term)))) w:=by kernel_rfl
theorem Zho (x0:Term) (w:World):(Instr.buildSlice 53 1 #[(0,.agg (ZHu (ZM5 x0)))]).run ZMx w=.ok (.slice (some ⟨w.heap.size,0,none⟩) 1 1) (w.alloc (.cells (ZHu (ZMv.encs [x0])) 162)):=by kernel_rfl
theorem Zwh (x0:Value) (h:Zdv x0) (w:World):(ZNr 55 #[(0,x0)]).run ZMx w=.ok (.agg #[x0]) w:=by obtain ⟨_,_,_,rfl⟩:=h; kernel_rfl
theorem sc53:ScaT ZMx 53:=⟨⟨_,ZM4,rfl⟩,by kernel_rfl⟩
theorem ag162:AggT ZMx 162 9:=⟨⟨_,ZNa,rfl⟩,by kernel_rfl⟩
theorem Zhp:Zah ZMx 162 (.agg (ZHu (ZM5 (⟨ZMz,0⟩:Term)))) 9 16:=by unfold Zah; kernel_rfl
theorem Zbn:X2 ZMx 136 (.agg (ZHu (ZMs .u8 ZMz))):=by unfold X2; kernel_rfl
theorem Zmq  (w:World):(ZNr 136 #[]).run ZMx w=.ok (.agg (ZHu (ZMs .u8 ZMz))) w:=by kernel_rfl
theorem Zfw:X2 ZMx 162 (.agg (ZHu (ZM5 (⟨ZMz,0⟩:Term)))):=by unfold X2; kernel_rfl
theorem sc22:ScaT ZMx 22:=⟨⟨_,ZNd,rfl⟩,by kernel_rfl⟩
theorem sc30:ScaT ZMx 30:=⟨⟨_,ZNi,rfl⟩,by kernel_rfl⟩
theorem ag32:AggT ZMx 32 2:=⟨⟨_,ZNe,rfl⟩,by kernel_rfl⟩
theorem z73:X2 ZMx 73 (.agg (ZHu (ZMs .i64 ZMz))):=by unfold X2; kernel_rfl
theorem Zhq  (w:World):(ZNr 73 #[]).run ZMx w=.ok (.agg (ZHu (ZMs .i64 ZMz))) w:=by kernel_rfl
theorem ag73:AggT ZMx 73 8:=⟨⟨_,ZNh,rfl⟩,by kernel_rfl⟩
theorem sc3:ScaT ZMx 3:=⟨⟨_,ZN4,rfl⟩,by kernel_rfl⟩
theorem Jt:KeyT ZMx 73 (kvA .i64):=Zmd ZNh ZN4 sc3
theorem z2:X2 ZMx 2 (.int .i64 0):=by unfold X2; kernel_rfl
theorem Zwi (x0:A8) (w:World):(Instr.buildSlice 122 1 #[(0,.agg (ZHu (ZMs .i64 x0)))]).run ZMx w=.ok (.slice (some ⟨w.heap.size,0,none⟩) 1 1) (w.alloc (.cells (ZHu ((EA .i64).encs [x0])) 73)):=by kernel_rfl
theorem Zwj:Zah ZMx 73 (.agg (ZHu (ZMs .i64 ZMz))) 8 64:=by unfold Zah; kernel_rfl
theorem Zmr:X2 ZMx 211 (.agg (ZHu (ZEp 8 (Value.map none)))):=by unfold X2; kernel_rfl
theorem Zwk (w:World):(ZNr 211 #[]).run ZMx w=.ok (.agg (ZHu (ZEp 8 (Value.map none)))) w:=by kernel_rfl
theorem ag211:AggT ZMx 211 8:=⟨⟨_,Tryz.underlying211,rfl⟩,by kernel_rfl⟩
theorem sc115:ScaT ZMx 115:=⟨⟨_,ZNs,rfl⟩,by kernel_rfl⟩
theorem el2:Zah ZMx 2 (.int .i64 0) 1 8:=by unfold Zah; kernel_rfl
theorem ag135:AggT ZMx 135 8:=⟨⟨_,Tryz.underlying135,rfl⟩,by kernel_rfl⟩
theorem ag170:AggT ZMx 170 9:=⟨⟨_,Tryz.underlying170,rfl⟩,by kernel_rfl⟩
theorem sc48:ScaT ZMx 48:=⟨⟨_,Tryz.underlying48,rfl⟩,by kernel_rfl⟩
def Zes (h:Int) (A:Int) (B:Int) (K:Bool→Prop):Prop :=
 (if h≥A then K (decide (h≤B)) else K false)
theorem Zms (B:Int) (I:Int) (G:Int)  {K:Bool→Prop} (h:Zes B I G K) (w0:World)  :
  Calls ZMx 59 #[vI B,vI I,vI G] w0 λe w'=>∃ (L:Bool),
   e=.returned (.bool L)∧K L∧Bel w0 w':=by
 unfold Zes at h
 refine cof Tryz.func59 rfl 15 Tryz.ntmps59 ?_
 have O:=ZNf (X:=Nox) w0 [] (by simp)
 refine sr (Zc (v:=.bool false) rfl (dn (sr (Za (v:=vI B) rfl (Za (v:=vI I) rfl (Zae rfl rfl (Za (v:=.bool (decide (B≥I))) rfl ?_)))))))
 refine Y6 (decide (B≥I)) (λA=>?_) (λA=>?_)
 ·replace h:=ift h (ct A);refine Zh 3 10 rfl rfl A (Za (v:=vI B) rfl (Zh 3 10 rfl rfl A (Za (v:=vI G) rfl (Zh 3 10 rfl rfl A (Zcd rfl rfl (Zs (v:=.bool (decide (B≤G))) (b:=true) (tr rfl (congrArg _ A)) rfl (Zc (v:=.bool (decide (B≤G))) rfl (dn (ZM3 ?_)))))))))
  exact Zi rfl (Ze rfl) ⟨decide (B≤G),rfl,h,O.below⟩ (.inl rfl)
 ·replace h:=Zm h (cf A);refine Zg (b:=false) 3 10 rfl (tr rfl (congrArg _ A)) (by decide) (Zg (b:=false) 3 10 rfl (tr rfl (congrArg _ A)) (by decide) (Zg (b:=false) 3 10 rfl (tr rfl (congrArg _ A)) (by decide) (Zs (v:=.bool false) (b:=false) (tr rfl (congrArg _ A)) rfl (Zc (v:=.bool false) rfl (dn (ZM3 ?_))))))
  exact Zi rfl (Ze rfl) ⟨false,rfl,h,O.below⟩ (.inl rfl)
def Zhr (I:List Int) (K:Bool→Prop):Prop :=
 Z9 (λA (B:Unit) h=>Zes (I.getD A ZEu) 1 12 (λG=>(if¬ (G=true) then K false else h ()))) (λ(B:Unit)=>K (decide ((I.length:Int)≤8))) I.length 0 ()
theorem Zwl (U:List Int)  {K:Bool→Prop} (h:Zhr U K) (w0:World) (q0:TInts.rep U [u0_0] fp0 w0) :
  Calls ZMx 149 #[u0_0] w0 λe w'=>∃ (r0:Bool),
   e=.returned (.bool r0)∧K r0∧Bel w0 w':=by
 unfold Zhr at h
 refine cof Tryz.func149 rfl 19 Tryz.ntmps149 ?_
 have B:=ZNf (X:=Nox) w0 [ZMt TInts U [u0_0] fp0] (al1 q0);refine sr (Zc (v:=.bool false) rfl (dn (ZMu (sr (Zc (v:=vI 0) rfl (dn (ZM0 ?_)))))))
 have aa:U.length≤9223372036854775807:=Y5 (B.getP 0 rfl);refine Yp (S:=Unit) _ _ (λA V e_ w_=>Zt e_ [(0,u0_0),(3,vI (A:Int))]∧Ctx Nox w0 w_ [] [ZMt TInts U [u0_0] fp0]) U.length ?_ ?_ (s0:=()) ?_ h
 ·clear B h;rintro A V e_ ah ae ad G ⟨L,B⟩ h ab;rw [ue L];refine ZMu (sr (Za (v:=vI (A:Int)) rfl (Za (v:=u0_0) rfl (Zw B 0 rfl ZNd rfl (Zn rfl rfl (dn (Z3 rfl (decide_eq_true (by omega)) (ZMy (Zd (ZMu (ZM0 (sr (Za (v:=u0_0) rfl (Za (v:=vI (A:Int)) rfl ?_))))))))))))))
  obtain ⟨ag,ai,O⟩:=Zx (B.getP 0 rfl) A G;refine Ys (len:=U.length) ZNd sc2.size (tr rfl O) rfl (ZNb _) (ZNt.2 G) (Yr (vI (U.getD A ZEu)) (Ye (B.getP 0 rfl) O A G) sc2 rfl (Zf [vI (U.getD A ZEu),vI 1,vI 12] _ Tryz.func59 rfl rfl rfl (Zms (U.getD A ZEu) 1 12 h _) ?_))
  rintro _ aj ⟨ak,rfl,h,ac⟩;refine rt ?_
  replace B:=B.grow ac;refine Xe rfl (dn ?_)
  refine Zp rfl (λI=>?_) (λI=>?_)
  ·replace h:=ift h (Yz (Xi I));refine sr (Zc (v:=.bool false) rfl (dn ?_))
   refine ZM3 (Z8 (Zl (Zl (Z8 (Zl ?_)))))
   exact Zi rfl (Ze rfl) ⟨false,rfl,h,B.below⟩ (.inl rfl)
  ·replace h:=Zm h (not_not_intro ((Xj I)));refine ZMy (Zq (Zd (Zj (Za (v:=vI (A:Int)) rfl (Zo rfl rfl (Zc (v:=vI (ZHf.wrap ((A:Int)+1))) rfl (done ?_)))))))
   exact ab () _ _ ⟨(sl ⟨rfl,(tr rfl (congrArg _ (Z7 G aa))),trivial⟩),B⟩ h
 ·clear B h;rintro V e_ al ad ⟨L,B⟩ h;rw [ue L];refine ZMu (sr (Za (v:=vI (U.length:Int)) rfl (Za (v:=u0_0) rfl (Zw B 0 rfl ZNd rfl (Zn rfl rfl (dn (Z2 rfl (decide_eq_false (by omega)) ?_)))))))
  refine ZM9 (Zk (Zk (Zy ?_)))
  refine Zd (sr (Za (v:=u0_0) rfl (Zw B 0 rfl ZNd rfl (Zcd rfl rfl (Zc (v:=.bool (decide ((U.length:Int)≤8))) rfl (dn (ZM3 ?_)))))))
  exact Zi rfl (Ze rfl) ⟨decide ((U.length:Int)≤8),rfl,h,B.below⟩ (.inl rfl)
 ·skip;exact⟨(slq rfl),B⟩
def Zhs (G:List Int) (I:A8) (K:Bool→Prop):Prop :=
 Z9 (λh (B:Unit) A=>(if(h:Int)≥(G.length:Int) then(if I.get h≠0 then K false else A ()) else(if I.get h > 20 then K false else((0≤(h:Int)∧(h:Int) < (G.length:Int))∧(if ZFl (G.getD h ZEu) 2≠0 then(if I.get h > 1 then K false else A ()) else A ()))))) (λ(B:Unit)=>K true) 8 0 ()
theorem Zwm (a0:List Int) (a1:A8)  {K:Bool→Prop} (h:Zhs a0 a1 K) (w0:World) (q0:TInts.rep a0 [u0_0] fp0 w0) :
  Calls ZMx 173 #[u0_0,.agg (ZHu (ZMs .u8 a1))] w0 λe w'=>∃ (r0:Bool),
   e=.returned (.bool r0)∧K r0∧Bel w0 w':=by
 unfold Zhs at h
 refine cof Tryz.func173 rfl 38 Tryz.ntmps173 ?_
 have I:=ZNf (X:=Nox) w0 [ZMt TInts a0 [u0_0] fp0] (al1 q0);refine sr (Ya (v:=.agg (ZHu (ZMs .u8 a1))) I (ZMs .u8 a1) rfl rfl λb2 w4 ak I=>Zc (v:=.bool false) rfl (dn (ZMu (sr (Zc (v:=vI 0) rfl (dn (ZM0 ?_)))))))
 refine Yp (S:=Unit) _ _ (λA ad e_ w_=>Zt e_ [(0,u0_0),(3,vQ b2),(5,vI (A:Int))]∧Ctx Nox w0 w_ [blk b2 136 (ZMs .u8 a1)] [ZMt TInts a0 [u0_0] fp0]) 8 ?_ ?_ (s0:=()) ?_ h
 ·clear I h;rintro A ad e_ al ai ae L ⟨ab,I⟩ h O;rw [ue ab];refine ZMu (sr (Za (v:=vI (A:Int)) rfl (Zn rfl rfl (dn (Z3 rfl (decide_eq_true (by omega)) (ZMy (Zd (ZMu (ZM0 (ZM0 (sr (Za (v:=vI (A:Int)) rfl (Za (v:=u0_0) rfl (Zw I 0 rfl ZNd rfl (Zae rfl rfl (Zc (v:=.bool (decide ((A:Int)≥(a0.length:Int)))) rfl (dn ?_)))))))))))))))))
  refine Zp rfl (λU=>?_) (λU=>?_)
  ·replace h:=ift h (ct U);refine sr (Za (v:=vI (A:Int)) rfl (Xs A ZNc sc5.size rfl rfl (ZNb _) (by omega) (by omega) (Z5 I 0 (.int .u8 (a1.get A)) rfl sc5 rfl (ZM7 _ _ L) (Y2 rfl rfl (dn ?_)))))
   refine Zp rfl (λV=>?_) (λV=>?_)
   ·replace h:=ift h (ct V);refine sr (Zc (v:=.bool false) rfl (dn ?_))
    refine ZM3 (Z8 (Z8 (Zl (Zl (Z8 (Zl ?_))))))
    exact Zi rfl (Ze rfl) ⟨false,rfl,h,I.below⟩ (.inl rfl)
   ·replace h:=Zm h (cf V);refine ZMy (Zq (Zq (Zd (Zj (Za (v:=vI (A:Int)) rfl (Zo rfl rfl (Zc (v:=vI (ZHf.wrap ((A:Int)+1))) rfl (done ?_))))))))
    exact O () _ _ ⟨(sl ⟨rfl,rfl,(tr rfl (congrArg _ (Z7 L (by decide)))),trivial⟩),I⟩ h
  ·replace h:=Zm h (cf U);refine sr (Za (v:=vI (A:Int)) rfl (Xs A ZNc sc5.size rfl rfl (ZNb _) (by omega) (by omega) (Z5 I 0 (.int .u8 (a1.get A)) rfl sc5 rfl (ZM7 _ _ L) (Ja rfl rfl (Za (v:=.bool (decide (a1.get A > 20))) rfl ?_)))))
   refine Y6 (decide (a1.get A > 20)) (λB=>?_) (λB=>?_)
   ·replace h:=ift h (ct B);refine Zg (b:=true) 4 24 rfl (tr rfl (congrArg _ B)) (by decide) (Zg (b:=true) 4 24 rfl (tr rfl (congrArg _ B)) (by decide) (Zg (b:=true) 4 24 rfl (tr rfl (congrArg _ B)) (by decide) (Zg (b:=true) 4 24 rfl (tr rfl (congrArg _ B)) (by decide) (Zg (b:=true) 4 24 rfl (tr rfl (congrArg _ B)) (by decide) (Zg (b:=true) 4 24 rfl (tr rfl (congrArg _ B)) (by decide) (Zg (b:=true) 4 24 rfl (tr rfl (congrArg _ B)) (by decide) (Yq 11 31 rfl rfl (Yq 11 31 rfl rfl (Yq 11 31 rfl rfl (Yq 11 31 rfl rfl (Zg (b:=true) 4 24 rfl (tr rfl (congrArg _ B)) (by decide) (Zs (v:=.bool true) (b:=true) (tr rfl (congrArg _ B)) rfl (Zc (v:=.bool true) rfl (dn (Z3 rfl rfl (sr (Zc (v:=.bool false) rfl (dn ?_))))))))))))))))))
    refine ZM3 (Z8 (Z8 (Zl (Zl (Z8 (Zl ?_))))))
    exact Zi rfl (Ze rfl) ⟨false,rfl,h,I.below⟩ (.inl rfl)
   ·replace h:=Zm h (cf B);refine Zh 4 24 rfl rfl B (Za (v:=u0_0) rfl (Zh 4 24 rfl rfl B (Za (v:=vI (A:Int)) rfl (Zh 4 24 rfl rfl B ?_))))
    obtain ⟨⟨ag,ah⟩,h⟩:=h;obtain ⟨aj,am,ac⟩:=Zx (I.getP 0 rfl) A (show A < a0.length by omega)
    refine Ys (len:=a0.length) ZNd sc2.size (tr rfl ac) rfl ag ah (Zh 4 24 rfl rfl B (Yr (vI (a0.getD A ZEu)) (Ye (I.getP 0 rfl) ac A (show A < a0.length by omega)) sc2 rfl (Zh 4 24 rfl rfl B (X3 rfl rfl (by decide) (Zh 4 24 rfl rfl B (Y2 rfl rfl (Zh 4 24 rfl rfl B (Za (v:=.bool (decide (ZFl (a0.getD A ZEu) 2≠0))) rfl ?_))))))))
    refine Y6 (decide (ZFl (a0.getD A ZEu) 2≠0)) (λG=>?_) (λG=>?_)
    ·replace h:=ift h (ct G);refine Zh 11 31 rfl rfl G (Za (v:=vI (A:Int)) rfl (Zh 11 31 rfl rfl G (Xs A ZNc sc5.size rfl rfl (ZNb _) (by omega) (by omega) (Zh 11 31 rfl rfl G (Z5 I 0 (.int .u8 (a1.get A)) rfl sc5 rfl (ZM7 _ _ L) (Zh 11 31 rfl rfl G (Ja rfl rfl (Zh 4 24 rfl rfl B (Zs (v:=.bool (decide (a1.get A > 1))) (b:=true) (tr rfl (congrArg _ G)) rfl (Zs (v:=.bool (decide (a1.get A > 1))) (b:=false) (tr rfl (congrArg _ B)) rfl (Zc (v:=.bool (decide (a1.get A > 1))) rfl (dn ?_))))))))))))
     refine Zp rfl (λaa=>?_) (λaa=>?_)
     ·replace h:=ift h (ct aa);refine sr (Zc (v:=.bool false) rfl (dn ?_))
      refine ZM3 (Z8 (Z8 (Zl (Zl (Z8 (Zl ?_))))))
      exact Zi rfl (Ze rfl) ⟨false,rfl,h,I.below⟩ (.inl rfl)
     ·replace h:=Zm h (cf aa);refine ZMy (Zq (Zq (Zd (Zj (Za (v:=vI (A:Int)) rfl (Zo rfl rfl (Zc (v:=vI (ZHf.wrap ((A:Int)+1))) rfl (done ?_))))))))
      exact O () _ _ ⟨(sl ⟨rfl,rfl,(tr rfl (congrArg _ (Z7 L (by decide)))),trivial⟩),I⟩ h
    ·replace h:=Zm h (cf G);refine Zg (b:=false) 11 31 rfl (tr rfl (congrArg _ G)) (by decide) (Zg (b:=false) 11 31 rfl (tr rfl (congrArg _ G)) (by decide) (Zg (b:=false) 11 31 rfl (tr rfl (congrArg _ G)) (by decide) (Zg (b:=false) 11 31 rfl (tr rfl (congrArg _ G)) (by decide) (Zh 4 24 rfl rfl B (Zs (v:=.bool false) (b:=false) (tr rfl (congrArg _ G)) rfl (Zs (v:=.bool false) (b:=false) (tr rfl (congrArg _ B)) rfl (Zc (v:=.bool false) rfl (dn (Z2 rfl rfl (ZMy (Zq (Zq (Zd (Zj (Za (v:=vI (A:Int)) rfl (Zo rfl rfl (Zc (v:=vI (ZHf.wrap ((A:Int)+1))) rfl (done ?_))))))))))))))))))
     exact O () _ _ ⟨(sl ⟨rfl,rfl,(tr rfl (congrArg _ (Z7 L (by decide)))),trivial⟩),I⟩ h
 ·clear I h;rintro ad e_ an ae ⟨ab,I⟩ h;rw [ue ab];refine ZMu (sr (Za (v:=vI 8) rfl (Zn rfl rfl (dn (Z2 rfl (decide_eq_false (by omega)) ?_)))))
  refine ZM9 (Zk (Zk (Zy ?_)))
  refine Zd (sr (Zc (v:=.bool true) rfl (dn (ZM3 ?_))))
  exact Zi rfl (Ze rfl) ⟨true,rfl,h,I.below⟩ (.inl rfl)
 ·skip;exact⟨(slq rfl),I⟩
def X8 (h:Int) (K:Int→Prop):Prop :=
 K (ZFl (ZHf.wrap ((ZFl h 10007)+10007)) 10007)
theorem Zbo (A:Int)  {K:Int→Prop} (h:X8 A K) (w0:World)  :
  Calls ZMx 125 #[vI A] w0 λe w'=>∃ (B:Int),
   e=.returned (vI B)∧K B∧Bel w0 w':=by
 unfold X8 at h
 refine cof ZNk rfl 7 Tryz.ntmps125 ?_
 have G:=ZNf (X:=Nox) w0 [] (by simp)
 refine sr (Zc (v:=vI 0) rfl (dn (sr (Za (v:=vI A) rfl (X3 rfl rfl (by decide) (Zo rfl rfl (X3 rfl rfl (by decide) (Zc (v:=vI (ZFl (ZHf.wrap ((ZFl A 10007)+10007)) 10007)) rfl (dn (ZM3 ?_))))))))))
 exact Zi rfl (Ze rfl) ⟨ZFl (ZHf.wrap ((ZFl A 10007)+10007)) 10007,rfl,h,G.below⟩ (.inl rfl)
def J1 (G:A8) (h:Int) (K:ZMw→Prop):Prop :=
 X8 h (λA=>(if A=0 then K (⟨[]⟩:ZMw) else X8 h (λB=>K (⟨[(⟨G,B⟩:Term)]⟩:ZMw))))
theorem Zdz (B:A8) (O:Int)  {K:ZMw→Prop} (h:J1 B O K) (w0:World)  :
  Calls ZMx 95 #[.agg (ZHu (ZMs .u8 B)),vI O] w0 λe w'=>∃ (r0:ZMw) (z0_0:Value) (V:List Nat),
   e=.returned (.agg #[z0_0])∧K r0∧(ZM8 (Y0 162) r0 [z0_0] V).holds w'∧(∀ b,b∈V→w0.heap.size≤b)∧Bel w0 w':=by
 unfold J1 at h
 refine cof ZNn rfl 15 Tryz.ntmps95 ?_
 have A:=ZNf (X:=Nox) w0 [] (by simp)
 refine sr (Ya (v:=.agg (ZHu (ZMs .u8 B))) A (ZMs .u8 B) rfl rfl λb1 w3 I A=>Yl A [.slice none 0 0] z55 rfl λb4 w6 I A=>dn (ZMu (sr (Za (v:=vI O) rfl (Zf [vI O] _ ZNk rfl rfl rfl (Zbo O h _) ?_)))))
 rintro _ w9 ⟨ae,rfl,h,aa⟩;refine rt ?_
 replace A:=A.grow aa;refine Xg rfl rfl (dn ?_)
 refine Zp rfl (λU=>?_) (λU=>?_)
 ·replace h:=ift h (ct U);refine sr (J8 [] rfl (Zhn   _) (Zz (v:=.agg #[.slice none 0 0]) A 0 [.slice none 0 0] [.slice none 0 0] rfl ag55.size rfl rfl rfl rfl rfl (ZM2 rfl) rfl λag A=>dn ?_))
  refine ZM3 (Zl ?_)
  exact Zi rfl (Zag A 0 rfl ag55 rfl rfl) ⟨(⟨[]⟩:ZMw),.slice none 0 0,[],rfl,h,(Zc5 (Zhl _ _ _)),(λb hb=>absurd hb (by simp)),A.below⟩ (.inl rfl)
 ·replace h:=Zm h (cf U);refine ZMy (Zd (ZMu ?_))
  refine cwd 3 Yh [0,0,2,7,15,31,63] [0] [1] (λab ac ah I=>?_)
  replace A:=A.grow I;refine bL 0 (.agg (ZHu (ZMs .u8 B))) rfl rfl ab (λ_ I=>by exact Xa (A.grow I) 1 (ZMs .u8 B) rfl ag136 rfl rfl rfl) (Zb 7 1) (bM 1 (vI O) rfl ac (Zb 7 3) (aO 2 rfl (Zf [vI O] _ ZNk rfl rfl rfl (Zbo O h _) ?_)))
  rintro _ ai ⟨L,rfl,h,ad⟩;refine rt ?_
  replace A:=A.grow ad;refine done (aK (by assumption) (Zb 7 7) (Z0 3 (by decide) (by decide) (by kernel_rfl) (by kernel_rfl) rfl (J8 [(0,.agg (ZHu (ZMs .u8 B))),(1,vI L)] rfl (Zkb B L  _) (Yn (sz:=9) A [(0,.agg (ZHu (ZM5 (⟨B,L⟩:Term))))] (ZMv.encs [(⟨B,L⟩:Term)]) rfl (λ_=>Zho (⟨B,L⟩:Term) _) rfl (by decide) λG aj I A=>J8 [(0,.slice (some ⟨G,0,none⟩) 1 1)] rfl (Zwh (.slice (some ⟨G,0,none⟩) 1 1) (Zdw (A.getM 0 rfl)) _) (Zz (v:=.agg #[.slice (some ⟨G,0,none⟩) 1 1]) A 1 [.slice (some ⟨G,0,none⟩) 1 1] [.slice (some ⟨G,0,none⟩) 1 1] rfl ag55.size rfl rfl rfl rfl (Xr (X4 (A.getM 0 rfl)) rfl) (ZM2 rfl) rfl λak A=>done (Z1 (Zd (ZM3 ?_))))))))
  exact Zi rfl (Zag A 1 rfl ag55 rfl rfl) ⟨(⟨[(⟨B,L⟩:Term)]⟩:ZMw),.slice (some ⟨G,0,none⟩) 1 1,(ZNu (ZFo (.slice (some ⟨G,0,none⟩) 1 1))),rfl,h,(Zc5 (Xx (A.getM 0 rfl))),(Yt A 0 rfl),A.below⟩ (.inl rfl)
def Zet (G:A8) (I:A8) (K:Bool→Prop):Prop :=
 Z9 (λh (B:Unit) A=>(if G.get h≠I.get h then K (decide (G.get h > I.get h)) else A ())) (λ(B:Unit)=>K false) 8 0 ()
theorem Zmt (V:A8) (a1:A8)  {K:Bool→Prop} (h:Zet V a1 K) (w0:World)  :
  Calls ZMx 174 #[.agg (ZHu (ZMs .u8 V)),.agg (ZHu (ZMs .u8 a1))] w0 λe w'=>∃ (r0:Bool),
   e=.returned (.bool r0)∧K r0∧Bel w0 w':=by
 unfold Zet at h
 refine cof ZNx rfl 24 Tryz.ntmps174 ?_
 have G:=ZNf (X:=Nox) w0 [] (by simp)
 refine sr (Ya (v:=.agg (ZHu (ZMs .u8 V))) G (ZMs .u8 V) rfl rfl λb1 w3 B G=>Ya (v:=.agg (ZHu (ZMs .u8 a1))) G (ZMs .u8 a1) rfl rfl λb4 w6 B G=>Zc (v:=.bool false) rfl (dn (ZMu (sr (Zc (v:=vI 0) rfl (dn (ZM0 ?_)))))))
 refine Yp (S:=Unit) _ _ (λA ad e_ w_=>Zt e_ [(2,vQ b1),(3,vQ b4),(5,vI (A:Int))]∧Ctx Nox w0 w_ [blk b4 136 (ZMs .u8 a1),blk b1 136 (ZMs .u8 V)] []) 8 ?_ ?_ (s0:=()) ?_ h
 ·clear G h;rintro A ad e_ ai ah ag I ⟨aa,G⟩ h ae;rw [ue aa];refine ZMu (sr (Za (v:=vI (A:Int)) rfl (Zn rfl rfl (dn (Z3 rfl (decide_eq_true (by omega)) (ZMy (Zd (ZMu (ZM0 (ZMu ?_))))))))))
  refine cwd 6 Yh [0,1,3,0,8,24,63] [1,2,4,5] [0,3] (λL ab aj B=>?_)
  replace G:=G.grow B;refine bM 0 (vI (A:Int)) rfl ab (Zb 7 1) (bL 1 (.pointer (some ⟨b1,A,none⟩)) rfl rfl L (λ_ B=>by exact Zaf A ZNc sc5.size rfl rfl (ZNb _) (by omega) (by omega)) (Zb 7 3) (bL 2 (.int .u8 (V.get A)) rfl rfl L (λ_ B=>by exact Yc (G.grow B) 1 (.int .u8 (V.get A)) rfl sc5 rfl (ZM7 _ _ I)) (Zb 7 7) (bM 3 (vI (A:Int)) rfl ab (Zb 7 15) (bL 4 (.pointer (some ⟨b4,A,none⟩)) rfl rfl L (λ_ B=>by exact Zaf A ZNc sc5.size rfl rfl (ZNb _) (by omega) (by omega)) (Zb 7 31) (bL 5 (.int .u8 (a1.get A)) rfl rfl L (λ_ B=>by exact Yc (G.grow B) 0 (.int .u8 (a1.get A)) rfl sc5 rfl (ZM7 _ _ I)) (Zb 7 63) (Z0 6 (by decide) (by decide) (by kernel_rfl) (by kernel_rfl) rfl (Y2 rfl rfl (done (Z1 (Zd ?_))))))))))
  refine Zp rfl (λU=>?_) (λU=>?_)
  ·replace h:=ift h (ct U);refine ZMu ?_
   refine cwd 6 Yh [0,1,3,0,8,24,63,127] [1,2,4,5] [0,3] (λO ac ak B=>?_)
   replace G:=G.grow B;refine bM 0 (vI (A:Int)) rfl ac (Zb 8 1) (bL 1 (.pointer (some ⟨b1,A,none⟩)) rfl rfl O (λ_ B=>by exact Zaf A ZNc sc5.size rfl rfl (ZNb _) (by omega) (by omega)) (Zb 8 3) (bL 2 (.int .u8 (V.get A)) rfl rfl O (λ_ B=>by exact Yc (G.grow B) 1 (.int .u8 (V.get A)) rfl sc5 rfl (ZM7 _ _ I)) (Zb 8 7) (bM 3 (vI (A:Int)) rfl ac (Zb 8 15) (bL 4 (.pointer (some ⟨b4,A,none⟩)) rfl rfl O (λ_ B=>by exact Zaf A ZNc sc5.size rfl rfl (ZNb _) (by omega) (by omega)) (Zb 8 31) (bL 5 (.int .u8 (a1.get A)) rfl rfl O (λ_ B=>by exact Yc (G.grow B) 0 (.int .u8 (a1.get A)) rfl sc5 rfl (ZM7 _ _ I)) (Zb 8 63) (Z0 6 (by decide) (by decide) (by kernel_rfl) (by kernel_rfl) rfl (Ja rfl rfl (Zc (v:=.bool (decide (V.get A > a1.get A))) rfl (done (Z1 (Zd ?_)))))))))))
   refine ZM3 (Z8 (Zl (Zl (Z8 (Zl ?_)))))
   exact Zi rfl (Ze rfl) ⟨decide (V.get A > a1.get A),rfl,h,G.below⟩ (.inl rfl)
  ·replace h:=Zm h (cf U);refine ZMy (Zq (Zd (Zj (Za (v:=vI (A:Int)) rfl (Zo rfl rfl (Zc (v:=vI (ZHf.wrap ((A:Int)+1))) rfl (done ?_)))))))
   exact ae () _ _ ⟨(sl ⟨rfl,rfl,(tr rfl (congrArg _ (Z7 I (by decide)))),trivial⟩),G⟩ h
 ·clear G h;rintro ad e_ al ag ⟨aa,G⟩ h;rw [ue aa];refine ZMu (sr (Za (v:=vI 8) rfl (Zn rfl rfl (dn (Z2 rfl (decide_eq_false (by omega)) ?_)))))
  refine ZM9 (Zk (Zk (Zy ?_)))
  refine Zd (sr (Zc (v:=.bool false) rfl (dn (ZM3 ?_))))
  exact Zi rfl (Ze rfl) ⟨false,rfl,h,G.below⟩ (.inl rfl)
 ·skip;exact⟨(slq rfl),G⟩
def Zbd (a0:ZMw) (a1:ZMw) (U:Int) (K:ZMw→Prop):Prop :=
 Xt (λ(h:(List Term)×Int×Int) A=>joinP (λ(G:Bool→Prop)=>(if h.2.1 < (a0.terms.length:Int) then G true else G (decide (h.2.2 < (a1.terms.length:Int))))) (λ(V:Bool)=>(if V=true then joinP (λ(B:Bool→Prop)=>(if h.2.2=(a1.terms.length:Int) then B true else(if h.2.1 < (a0.terms.length:Int) then((0≤h.2.1∧h.2.1 < (a0.terms.length:Int))∧((0≤h.2.2∧h.2.2 < (a1.terms.length:Int))∧Zet ((a0.terms.getD h.2.1.toNat ZEu).mono) ((a1.terms.getD h.2.2.toNat ZEu).mono) (λaa=>B aa))) else B false))) (λ(ab:Bool)=>(if ab=true then((0≤h.2.1∧h.2.1 < (a0.terms.length:Int))∧(Z4 (h.1.length+1) 16∧A (h.1++[a0.terms.getD h.2.1.toNat ZEu],ZHf.wrap (h.2.1+1),h.2.2))) else joinP (λ(I:Bool→Prop)=>(if h.2.1=(a0.terms.length:Int) then I true else((0≤h.2.2∧h.2.2 < (a1.terms.length:Int))∧((0≤h.2.1∧h.2.1 < (a0.terms.length:Int))∧Zet ((a1.terms.getD h.2.2.toNat ZEu).mono) ((a0.terms.getD h.2.1.toNat ZEu).mono) (λac=>I ac))))) (λ(ad:Bool)=>(if ad=true then((0≤h.2.2∧h.2.2 < (a1.terms.length:Int))∧X8 (ZHf.wrap (U * ((a1.terms.getD h.2.2.toNat ZEu).factor))) (λL=>(if L≠0 then((0≤h.2.2∧h.2.2 < (a1.terms.length:Int))∧(Z4 (h.1.length+1) 16∧A (h.1++[(⟨(a1.terms.getD h.2.2.toNat ZEu).mono,L⟩:Term)],h.2.1,ZHf.wrap (h.2.2+1)))) else A (h.1,h.2.1,ZHf.wrap (h.2.2+1))))) else((0≤h.2.1∧h.2.1 < (a0.terms.length:Int))∧((0≤h.2.2∧h.2.2 < (a1.terms.length:Int))∧X8 (ZHf.wrap (U * ((a1.terms.getD h.2.2.toNat ZEu).factor))) (λae=>X8 (ZHf.wrap (((a0.terms.getD h.2.1.toNat ZEu).factor)+ae)) (λO=>(if O≠0 then((0≤h.2.1∧h.2.1 < (a0.terms.length:Int))∧(Z4 (h.1.length+1) 16∧A (h.1++[(⟨(a0.terms.getD h.2.1.toNat ZEu).mono,O⟩:Term)],ZHf.wrap (h.2.1+1),ZHf.wrap (h.2.2+1)))) else A (h.1,ZHf.wrap (h.2.1+1),ZHf.wrap (h.2.2+1))))))))))) else K (⟨h.1⟩:ZMw)))) ([],0,0)
theorem Zmu (a0:ZMw) (a1:ZMw) (a2:Int)  {K:ZMw→Prop} (h:Zbd a0 a1 a2 K) (w0:World) (q0:ZNg.rep a0 [u0_0] fp0 w0) (q1:ZNg.rep a1 [u1_0] fp1 w0) :
  Calls ZMx 124 #[.agg #[u0_0],.agg #[u1_0],vI a2] w0 λe w'=>∃ (r0:ZMw) (z0_0:Value) (bz:List Nat),
   e=.returned (.agg #[z0_0])∧K r0∧(ZM8 (Y0 162) r0 [z0_0] bz).holds w'∧(∀ b,b∈bz→w0.heap.size≤b)∧Bel w0 w':=by
 unfold Zbd at h
 refine cof ZNy rfl 149 Tryz.ntmps124 ?_
 have B:=ZNf (X:=Nox) w0 [ZMt TForm a0 [u0_0] fp0,ZMt TForm a1 [u1_0] fp1] (alc q0 (al1 q1));have cr:=(B.getP 0 rfl);replace B:=B.derive 0 rfl (ZMt ZMv.ty.sl a0.terms [u0_0] fp0) (λ_=>(Y9 cr)) (λ_ a9=>a9)
 have cu:=(B.getP 2 rfl);replace B:=B.derive 2 rfl (ZMt ZMv.ty.sl a1.terms [u1_0] fp1) (λ_=>(Y9 cu)) (λ_ a9=>a9)
 refine sr (Ya (v:=.agg #[u0_0]) B [u0_0] rfl rfl λb7 w9 G B=>Ya (v:=.agg #[u1_0]) B [u1_0] rfl rfl λae dr G B=>Yl B [.slice none 0 0] z55 rfl λam dt G B=>dn (sr (J8 [] rfl (Zhn   _) (Yl B [.slice none 0 0] z55 rfl λai du G B=>Zz (v:=.agg #[.slice none 0 0]) B 0 [.slice none 0 0] [.slice none 0 0] rfl ag55.size rfl rfl rfl rfl rfl (ZM2 rfl) rfl λdv B=>dn (sr (Zc (v:=vI 0) rfl (Zc (v:=vI 0) rfl (dn (ZMu (ZM0 ?_))))))))))
 refine X6 (S:=(List Term)×Int×Int) _ (λA e_ U=>∃ (ab:Value),Zt e_ [(2,vI a2),(3,vQ b7),(4,vQ ae),(6,vQ am),(7,vQ ai),(8,vI A.2.1),(9,vI A.2.2)]∧Ctx Nox w0 U [own 162 9 ab A.1.length (ZMv.encs A.1),blk ai 55 [ab],blk am 55 [.slice none 0 0],blk ae 55 [u1_0],blk b7 55 [u0_0]] [ZMt ZMv.ty.sl a1.terms [u1_0] fp1,ZMt ZMv.ty.sl a0.terms [u0_0] fp0,ZMt TForm a0 [u0_0] fp0,ZMt TForm a1 [u1_0] fp1]) ?_ (s0:=([],0,0)) ?_ h
 ·clear B h;rintro A e_ dw dp dx ⟨ab,an,B⟩ h ao;rw [ue an];refine ZMu (ZMu ?_)
  obtain ⟨b9,ca,h⟩:=Zlx h;refine Zl6 (λe_ U=>∃ (ba:Bool),Zt e_ [(2,vI a2),(3,vQ b7),(4,vQ ae),(6,vQ am),(7,vQ ai),(8,vI A.2.1),(9,vI A.2.2),(24,.bool ba)]∧Ctx Nox w0 U [own 162 9 ab A.1.length (ZMv.encs A.1),blk ai 55 [ab],blk am 55 [.slice none 0 0],blk ae 55 [u1_0],blk b7 55 [u0_0]] [ZMt ZMv.ty.sl a1.terms [u1_0] fp1,ZMt ZMv.ty.sl a0.terms [u0_0] fp0,ZMt TForm a0 [u0_0] fp0,ZMt TForm a1 [u1_0] fp1]∧b9 ba) ?_ ?_
  ·skip;refine Zj (Za (v:=vI A.2.1) rfl (Zu 0 ZM1 rfl sc53.size rfl rfl (Z5 B 4 (u0_0) rfl sc53 rfl rfl (Zw B 1 rfl ZM4 rfl (Zn rfl rfl (Za (v:=.bool (decide (A.2.1 < (a0.terms.length:Int)))) rfl ?_))))))
   refine Y6 (decide (A.2.1 < (a0.terms.length:Int))) (λac=>?_) (λac=>?_)
   ·replace h:=ift h (ct ac);refine Zg (b:=true) 5 18 rfl (tr rfl (congrArg _ ac)) (by decide) (Zg (b:=true) 5 18 rfl (tr rfl (congrArg _ ac)) (by decide) (Zg (b:=true) 5 18 rfl (tr rfl (congrArg _ ac)) (by decide) (Zg (b:=true) 5 18 rfl (tr rfl (congrArg _ ac)) (by decide) (Zg (b:=true) 5 18 rfl (tr rfl (congrArg _ ac)) (by decide) (Zs (v:=.bool true) (b:=true) (tr rfl (congrArg _ ac)) rfl (done ?_))))))
    exact⟨rfl,_,rfl,true,(slq rfl),B,h⟩
   ·replace h:=Zm h (cf ac);refine Zh 5 18 rfl rfl ac (Za (v:=vI A.2.2) rfl (Zh 5 18 rfl rfl ac (Zu 0 ZM1 rfl sc53.size rfl rfl (Zh 5 18 rfl rfl ac (Z5 B 3 (u1_0) rfl sc53 rfl rfl (Zh 5 18 rfl rfl ac (Zw B 0 rfl ZM4 rfl (Zh 5 18 rfl rfl ac (Zn rfl rfl (Zs (v:=.bool (decide (A.2.2 < (a1.terms.length:Int)))) (b:=false) (tr rfl (congrArg _ ac)) rfl (done ?_)))))))))))
    exact⟨rfl,_,rfl,decide (A.2.2 < (a1.terms.length:Int)),(slq rfl),B,h⟩
  ·clear B h;rintro e_ dy ⟨ba,an,B,h⟩;replace h:=ca _ h;rw [ue an];refine Zd ?_
   refine Zp rfl (λaw=>?_) (λaw=>?_)
   ·replace h:=ift h (aw);refine ZMy (Zd (ZM0 (ZM0 (ZMu ?_))))
    obtain ⟨cb,cc,h⟩:=Zlx h;refine Zl6 (λe_ U=>∃ (bb:Bool),Zt e_ [(2,vI a2),(3,vQ b7),(4,vQ ae),(6,vQ am),(7,vQ ai),(8,vI A.2.1),(9,vI A.2.2),(61,.bool bb)]∧Ctx Nox w0 U [own 162 9 ab A.1.length (ZMv.encs A.1),blk ai 55 [ab],blk am 55 [.slice none 0 0],blk ae 55 [u1_0],blk b7 55 [u0_0]] [ZMt ZMv.ty.sl a1.terms [u1_0] fp1,ZMt ZMv.ty.sl a0.terms [u0_0] fp0,ZMt TForm a0 [u0_0] fp0,ZMt TForm a1 [u1_0] fp1]∧cb bb) ?_ ?_
    ·skip;refine cwd 24 Yh [0,0,2,6,15,31,63,63,191,447,1023,2047,4095,8191,4095,32767,65535,131071,4095,266239,4095,1839103,3936255,8130559,16777215,33554431,67108863,134217727] [2,3,8,9,13,15,17,19,21,23] [0,1,4,5,6,7,8,9,10,11,12,13,14,15,16,17,18,19,20,21,22,23] (λad I dz G=>?_)
     replace B:=B.grow G;refine bM 0 (vI A.2.2) rfl I (Zb 28 1) (bF 1 (vQ ae) rfl rfl I (λ_=>by exact Yk 0 ZM1 rfl sc53.size rfl rfl) (Zb 28 3) (bL 2 (u1_0) rfl rfl ad (λ_ G=>by exact Yc (B.grow G) 3 (u1_0) rfl sc53 rfl rfl) (Zb 28 7) (bL 3 (vI (a1.terms.length:Int)) rfl rfl ad (λ_ G=>by exact Zka (B.grow G) 0 rfl ZM4 rfl) (Zb 28 15) (bF 4 (.bool (decide (A.2.2=(a1.terms.length:Int)))) rfl rfl I (λ_=>by exact Zo7 rfl rfl) (Zb 28 31) (bM 5 (.bool (decide (A.2.2=(a1.terms.length:Int)))) rfl I (Zb 28 63) ?_)))))
     refine Y6 (decide (A.2.2=(a1.terms.length:Int))) (λaa=>?_) (λaa=>?_)
     ·replace h:=ift h (ct aa);refine Zr Zv 6 undef rfl rfl (by kernel_rfl) (I 6 rfl) (λU=>.inr ⟨Yd (b:=true) 5 67 rfl (tr rfl (congrArg _ aa)) (by decide),rfl⟩) (l9:=(Zb 28 127)) (by kernel_rfl) (Zr Zv 7 undef rfl rfl (by kernel_rfl) (I 7 rfl) (λU=>.inr ⟨Yd (b:=true) 5 67 rfl (tr rfl (congrArg _ aa)) (by decide),rfl⟩) (l9:=(Zb 28 255)) (by kernel_rfl) (Zr Zv 8 undef rfl rfl (by kernel_rfl) (I 8 rfl) (λU=>.inr ⟨Yd (b:=true) 5 67 rfl (tr rfl (congrArg _ aa)) (by decide),rfl⟩) (l9:=(Zb 28 511)) (by kernel_rfl) (Zr Zv 9 undef rfl rfl (by kernel_rfl) (I 9 rfl) (λU=>.inr ⟨Yd (b:=true) 5 67 rfl (tr rfl (congrArg _ aa)) (by decide),rfl⟩) (l9:=(Zb 28 1023)) (by kernel_rfl) (Zr Zv 10 undef rfl rfl (by kernel_rfl) (I 10 rfl) (λU=>.inr ⟨Yd (b:=true) 5 67 rfl (tr rfl (congrArg _ aa)) (by decide),rfl⟩) (l9:=(Zb 28 2047)) (by kernel_rfl) (Zr Zv 11 undef rfl rfl (by kernel_rfl) (I 11 rfl) (λU=>.inr ⟨Yd (b:=true) 5 67 rfl (tr rfl (congrArg _ aa)) (by decide),rfl⟩) (l9:=(Zb 28 4095)) (by kernel_rfl) (Zr Zv 12 undef rfl rfl (by kernel_rfl) (I 12 rfl) (λU=>.inr ⟨Xz 11 73 rfl rfl,rfl⟩) (l9:=(Zb 28 8191)) (by kernel_rfl) (Zr Zv 13 undef rfl rfl (by kernel_rfl) (I 13 rfl) (λU=>.inr ⟨Xz 11 73 rfl rfl,rfl⟩) (l9:=(Zb 28 16383)) (by kernel_rfl) (Zr Zv 14 undef rfl rfl (by kernel_rfl) (I 14 rfl) (λU=>.inr ⟨Xz 11 73 rfl rfl,rfl⟩) (l9:=(Zb 28 32767)) (by kernel_rfl) (Zr Zv 15 undef rfl rfl (by kernel_rfl) (I 15 rfl) (λU=>.inr ⟨Xz 11 73 rfl rfl,rfl⟩) (l9:=(Zb 28 65535)) (by kernel_rfl) (Zr Zv 16 undef rfl rfl (by kernel_rfl) (I 16 rfl) (λU=>.inr ⟨Xz 11 73 rfl rfl,rfl⟩) (l9:=(Zb 28 131071)) (by kernel_rfl) (Zr Zv 17 undef rfl rfl (by kernel_rfl) (I 17 rfl) (λU=>.inr ⟨Xz 11 73 rfl rfl,rfl⟩) (l9:=(Zb 28 262143)) (by kernel_rfl) (Zr Zv 18 undef rfl rfl (by kernel_rfl) (I 18 rfl) (λU=>.inr ⟨Xz 11 73 rfl rfl,rfl⟩) (l9:=(Zb 28 524287)) (by kernel_rfl) (Zr Zv 19 undef rfl rfl (by kernel_rfl) (I 19 rfl) (λU=>.inr ⟨Xz 11 73 rfl rfl,rfl⟩) (l9:=(Zb 28 1048575)) (by kernel_rfl) (Zr Zv 20 undef rfl rfl (by kernel_rfl) (I 20 rfl) (λU=>.inr ⟨Xz 11 73 rfl rfl,rfl⟩) (l9:=(Zb 28 2097151)) (by kernel_rfl) (Zr Zv 21 undef rfl rfl (by kernel_rfl) (I 21 rfl) (λU=>.inr ⟨Xz 11 73 rfl rfl,rfl⟩) (l9:=(Zb 28 4194303)) (by kernel_rfl) (Zr Zv 22 undef rfl rfl (by kernel_rfl) (I 22 rfl) (λU=>.inr ⟨Xz 11 73 rfl rfl,rfl⟩) (l9:=(Zb 28 8388607)) (by kernel_rfl) (Zr Zv 23 undef rfl rfl (by kernel_rfl) (I 23 rfl) (λU=>.inr ⟨Xz 11 73 rfl rfl,rfl⟩) (l9:=(Zb 28 16777215)) (by kernel_rfl) (Z0 24 (by decide) (by decide) (by kernel_rfl) (by kernel_rfl) rfl (Yq 11 73 rfl rfl (Zg (b:=true) 5 67 rfl (tr rfl (congrArg _ aa)) (by decide) (Zs (v:=.bool true) (b:=true) (tr rfl (congrArg _ aa)) rfl (Zc (v:=.bool true) rfl (done (Z1 ?_))))))))))))))))))))))))
      exact⟨rfl,_,rfl,true,(slq rfl),B,h⟩
     ·replace h:=Zm h (cf aa);refine aF 6 (vI A.2.1) rfl rfl (I 6 rfl) (Yg 5 67 rfl rfl aa) (λ_=>by exact Zau (v:=vI A.2.1) rfl) (Zb 28 127) (aF 7 (vQ b7) rfl rfl (I 7 rfl) (Yg 5 67 rfl rfl aa) (λ_=>by exact Yk 0 ZM1 rfl sc53.size rfl rfl) (Zb 28 255) (aL 8 (u0_0) rfl rfl (ad 8 rfl) (Yg 5 67 rfl rfl aa) (λ_ G=>by exact Yc (B.grow G) 4 (u0_0) rfl sc53 rfl rfl) (Zb 28 511) (aL 9 (vI (a0.terms.length:Int)) rfl rfl (ad 9 rfl) (Yg 5 67 rfl rfl aa) (λ_ G=>by exact Zka (B.grow G) 1 rfl ZM4 rfl) (Zb 28 1023) (aF 10 (.bool (decide (A.2.1 < (a0.terms.length:Int)))) rfl rfl (I 10 rfl) (Yg 5 67 rfl rfl aa) (λ_=>by exact Zo8 rfl rfl) (Zb 28 2047) (aF 11 (.bool (decide (A.2.1 < (a0.terms.length:Int)))) rfl rfl (I 11 rfl) (Yg 5 67 rfl rfl aa) (λ_=>by exact Zau (v:=.bool (decide (A.2.1 < (a0.terms.length:Int)))) rfl) (Zb 28 4095) ?_)))))
      refine Y6 (decide (A.2.1 < (a0.terms.length:Int))) (λL=>?_) (λL=>?_)
      ·replace h:=ift h (ct L);refine aF 12 (vQ b7) rfl rfl (I 12 rfl) (Yg 11 73 rfl rfl L) (λ_=>by exact Yk 0 ZM1 rfl sc53.size rfl rfl) (Zb 28 8191) (aL 13 (u0_0) rfl rfl (ad 13 rfl) (Yg 11 73 rfl rfl L) (λ_ G=>by exact Yc (B.grow G) 4 (u0_0) rfl sc53 rfl rfl) (Zb 28 16383) (aF 14 (vI A.2.1) rfl rfl (I 14 rfl) (Yg 11 73 rfl rfl L) (λ_=>by exact Zau (v:=vI A.2.1) rfl) (Zb 28 32767) ?_))
       obtain ⟨⟨cv,cw⟩,h⟩:=h;obtain ⟨bc,d0,bd⟩:=Zx (B.getP 1 rfl) A.2.1.toNat (show A.2.1.toNat < a0.terms.length by omega)
       refine aL 15 (.pointer (some (bc.add (A.2.1.toNat * 9)))) rfl rfl (ad 15 rfl) (Yg 11 73 rfl rfl L) (λ_ G=>by exact Y1 (len:=a0.terms.length) ZM4 ag162.size (by exact tr rfl bd) rfl cv cw) (Zb 28 65535) (aF 16 (.pointer (some (bc.add (A.2.1.toNat * 9+0)))) rfl rfl (I 16 rfl) (Yg 11 73 rfl rfl L) (λ_=>by exact Za1 (A.2.1.toNat * 9+0) ZNa rfl ag136.size rfl rfl) (Zb 28 131071) (aL 17 (.agg (ZHu (ZMs .u8 ((a0.terms.getD A.2.1.toNat ZEu).mono)))) rfl rfl (ad 17 rfl) (Yg 11 73 rfl rfl L) (λ_ G=>by exact Jr (ZMs .u8 ((a0.terms.getD A.2.1.toNat ZEu).mono)) (Jz (o:=0) (k:=8) (Ye ((B.grow G).getP 1 rfl) bd A.2.1.toNat (show A.2.1.toNat < a0.terms.length by omega)) rfl) ag136 rfl rfl) (Zb 28 262143) (aF 18 (vQ ae) rfl rfl (I 18 rfl) (Yg 11 73 rfl rfl L) (λ_=>by exact Yk 0 ZM1 rfl sc53.size rfl rfl) (Zb 28 524287) (aL 19 (u1_0) rfl rfl (ad 19 rfl) (Yg 11 73 rfl rfl L) (λ_ G=>by exact Yc (B.grow G) 3 (u1_0) rfl sc53 rfl rfl) (Zb 28 1048575) (aF 20 (vI A.2.2) rfl rfl (I 20 rfl) (Yg 11 73 rfl rfl L) (λ_=>by exact Zau (v:=vI A.2.2) rfl) (Zb 28 2097151) ?_)))))
       obtain ⟨⟨cx,cy⟩,h⟩:=h;obtain ⟨be,d1,bh⟩:=Zx (B.getP 0 rfl) A.2.2.toNat (show A.2.2.toNat < a1.terms.length by omega)
       refine aL 21 (.pointer (some (be.add (A.2.2.toNat * 9)))) rfl rfl (ad 21 rfl) (Yg 11 73 rfl rfl L) (λ_ G=>by exact Y1 (len:=a1.terms.length) ZM4 ag162.size (by exact tr rfl bh) rfl cx cy) (Zb 28 4194303) (aF 22 (.pointer (some (be.add (A.2.2.toNat * 9+0)))) rfl rfl (I 22 rfl) (Yg 11 73 rfl rfl L) (λ_=>by exact Za1 (A.2.2.toNat * 9+0) ZNa rfl ag136.size rfl rfl) (Zb 28 8388607) (aL 23 (.agg (ZHu (ZMs .u8 ((a1.terms.getD A.2.2.toNat ZEu).mono)))) rfl rfl (ad 23 rfl) (Yg 11 73 rfl rfl L) (λ_ G=>by exact Jr (ZMs .u8 ((a1.terms.getD A.2.2.toNat ZEu).mono)) (Jz (o:=0) (k:=8) (Ye ((B.grow G).getP 0 rfl) bh A.2.2.toNat (show A.2.2.toNat < a1.terms.length by omega)) rfl) ag136 rfl rfl) (Zb 28 16777215) (Z0 24 (by decide) (by decide) (by kernel_rfl) (by kernel_rfl) rfl (Zh 11 73 rfl rfl L (Zf [.agg (ZHu (ZMs .u8 ((a0.terms.getD A.2.1.toNat ZEu).mono))),.agg (ZHu (ZMs .u8 ((a1.terms.getD A.2.2.toNat ZEu).mono)))] _ ZNx rfl rfl rfl (Zmt ((a0.terms.getD A.2.1.toNat ZEu).mono) ((a1.terms.getD A.2.2.toNat ZEu).mono) h _) ?_)))))
       rintro _ d2 ⟨a5,rfl,h,ce⟩;refine rt ?_
       replace B:=B.grow ce;refine Zh 5 67 rfl rfl aa (Zs (v:=.bool a5) (b:=true) (tr rfl (congrArg _ L)) rfl (Zs (v:=.bool a5) (b:=false) (tr rfl (congrArg _ aa)) rfl (Zc (v:=.bool a5) rfl (done (Z1 ?_)))))
       exact⟨rfl,_,rfl,a5,(slq rfl),B,h⟩
      ·replace h:=Zm h (cf L);refine Zr Zv 12 undef rfl rfl (by kernel_rfl) (I 12 rfl) (λU=>.inr ⟨Yd (b:=false) 11 73 rfl (tr rfl (congrArg _ L)) (by decide),rfl⟩) (l9:=(Zb 28 8191)) (by kernel_rfl) (Zr Zv 13 undef rfl rfl (by kernel_rfl) (I 13 rfl) (λU=>.inr ⟨Yd (b:=false) 11 73 rfl (tr rfl (congrArg _ L)) (by decide),rfl⟩) (l9:=(Zb 28 16383)) (by kernel_rfl) (Zr Zv 14 undef rfl rfl (by kernel_rfl) (I 14 rfl) (λU=>.inr ⟨Yd (b:=false) 11 73 rfl (tr rfl (congrArg _ L)) (by decide),rfl⟩) (l9:=(Zb 28 32767)) (by kernel_rfl) (Zr Zv 15 undef rfl rfl (by kernel_rfl) (I 15 rfl) (λU=>.inr ⟨Yd (b:=false) 11 73 rfl (tr rfl (congrArg _ L)) (by decide),rfl⟩) (l9:=(Zb 28 65535)) (by kernel_rfl) (Zr Zv 16 undef rfl rfl (by kernel_rfl) (I 16 rfl) (λU=>.inr ⟨Yd (b:=false) 11 73 rfl (tr rfl (congrArg _ L)) (by decide),rfl⟩) (l9:=(Zb 28 131071)) (by kernel_rfl) (Zr Zv 17 undef rfl rfl (by kernel_rfl) (I 17 rfl) (λU=>.inr ⟨Yd (b:=false) 11 73 rfl (tr rfl (congrArg _ L)) (by decide),rfl⟩) (l9:=(Zb 28 262143)) (by kernel_rfl) (Zr Zv 18 undef rfl rfl (by kernel_rfl) (I 18 rfl) (λU=>.inr ⟨Yd (b:=false) 11 73 rfl (tr rfl (congrArg _ L)) (by decide),rfl⟩) (l9:=(Zb 28 524287)) (by kernel_rfl) (Zr Zv 19 undef rfl rfl (by kernel_rfl) (I 19 rfl) (λU=>.inr ⟨Yd (b:=false) 11 73 rfl (tr rfl (congrArg _ L)) (by decide),rfl⟩) (l9:=(Zb 28 1048575)) (by kernel_rfl) (Zr Zv 20 undef rfl rfl (by kernel_rfl) (I 20 rfl) (λU=>.inr ⟨Yd (b:=false) 11 73 rfl (tr rfl (congrArg _ L)) (by decide),rfl⟩) (l9:=(Zb 28 2097151)) (by kernel_rfl) (Zr Zv 21 undef rfl rfl (by kernel_rfl) (I 21 rfl) (λU=>.inr ⟨Yd (b:=false) 11 73 rfl (tr rfl (congrArg _ L)) (by decide),rfl⟩) (l9:=(Zb 28 4194303)) (by kernel_rfl) (Zr Zv 22 undef rfl rfl (by kernel_rfl) (I 22 rfl) (λU=>.inr ⟨Yd (b:=false) 11 73 rfl (tr rfl (congrArg _ L)) (by decide),rfl⟩) (l9:=(Zb 28 8388607)) (by kernel_rfl) (Zr Zv 23 undef rfl rfl (by kernel_rfl) (I 23 rfl) (λU=>.inr ⟨Yd (b:=false) 11 73 rfl (tr rfl (congrArg _ L)) (by decide),rfl⟩) (l9:=(Zb 28 16777215)) (by kernel_rfl) (Z0 24 (by decide) (by decide) (by kernel_rfl) (by kernel_rfl) rfl (Zg (b:=false) 11 73 rfl (tr rfl (congrArg _ L)) (by decide) (Zh 5 67 rfl rfl aa (Zs (v:=.bool false) (b:=false) (tr rfl (congrArg _ L)) rfl (Zs (v:=.bool false) (b:=false) (tr rfl (congrArg _ aa)) rfl (Zc (v:=.bool false) rfl (done (Z1 ?_)))))))))))))))))))
       exact⟨rfl,_,rfl,false,(slq rfl),B,h⟩
    ·clear B h;rintro e_ d3 ⟨bb,an,B,h⟩;replace h:=cc _ h;rw [ue an];refine Zd ?_
     refine Zp rfl (λax=>?_) (λax=>?_)
     ·replace h:=ift h (ax);refine ZMu ?_
      refine cwd 8 Yh [0,1,0,4,0,28,60,124,255,511,1023] [1,3,5,6] [0,2,4] (λav ay d4 G=>?_)
      replace B:=B.grow G;refine bF 0 (vQ ai) rfl rfl ay (λ_=>by exact Yk 0 ZM1 rfl sc53.size rfl rfl) (Zb 11 1) (bL 1 (ab) rfl rfl av (λ_ G=>by exact Yc (B.grow G) 1 (ab) rfl sc53 rfl rfl) (Zb 11 3) (bF 2 (vQ b7) rfl rfl ay (λ_=>by exact Yk 0 ZM1 rfl sc53.size rfl rfl) (Zb 11 7) (bL 3 (u0_0) rfl rfl av (λ_ G=>by exact Yc (B.grow G) 4 (u0_0) rfl sc53 rfl rfl) (Zb 11 15) (bM 4 (vI A.2.1) rfl ay (Zb 11 31) ?_))))
      obtain ⟨⟨cz,c0⟩,h⟩:=h;obtain ⟨cg,d5,bi⟩:=Zx (B.getP 1 rfl) A.2.1.toNat (show A.2.1.toNat < a0.terms.length by omega)
      refine bL 5 (.pointer (some (cg.add (A.2.1.toNat * 9)))) rfl rfl av (λ_ G=>by exact Y1 (len:=a0.terms.length) ZM4 ag162.size (by exact tr rfl bi) rfl cz c0) (Zb 11 63) (bL 6 (.agg (ZHu (ZM5 (a0.terms.getD A.2.1.toNat ZEu)))) rfl rfl av (λ_ G=>by exact Jr (ZM5 (a0.terms.getD A.2.1.toNat ZEu)) (Ye ((B.grow G).getP 1 rfl) bi A.2.1.toNat (show A.2.1.toNat < a0.terms.length by omega)) ag162 rfl rfl) (Zb 11 127) (aO 7 rfl (Yn (sz:=9) B [(0,.agg (ZHu (ZM5 (a0.terms.getD A.2.1.toNat ZEu))))] (ZMv.encs [a0.terms.getD A.2.1.toNat ZEu]) rfl (λ_=>Zho (a0.terms.getD A.2.1.toNat ZEu) _) rfl (by decide) λd6 d7 G B=>done (aK (by assumption) (Zb 11 255) (Z0 8 (by decide) (by decide) (by kernel_rfl) (by kernel_rfl) rfl ?_)))))
      obtain ⟨ch,h⟩:=h;refine X1 B 1 ZM4 Zhp rfl (by decide) (by decide) rfl (Zav (B.getM 0 rfl)) (λq hq=>ZNz (E:=ETerm) _ q hq) rfl rfl ch λa6 d8 B=>?_
      replace B:=Y7 B 1 ((A.1++[a0.terms.getD A.2.1.toNat ZEu]).length) (ZMv.encs (A.1++[a0.terms.getD A.2.1.toNat ZEu])) rfl (by simp) (by first | (simp [ZNm]; done) | simp [ZNm,Enc.encs])
      refine Zu 0 ZM1 rfl sc53.size rfl rfl (Zz (v:=a6) B 2 [a6] [a6] rfl sc53.size rfl rfl (Zcg (B.getM 1 rfl)) rfl (Xr (X4 (B.getM 1 rfl)) rfl) (ZM2 rfl) rfl λd9 B=>done (Z1 (Zd (Zj (Za (v:=vI A.2.1) rfl (Zo rfl rfl (Zc (v:=vI (ZHf.wrap (A.2.1+1))) rfl (done (Zq (Zq ?_))))))))))
      exact ao (A.1++[a0.terms.getD A.2.1.toNat ZEu],ZHf.wrap (A.2.1+1),A.2.2) _ _ ⟨a6,(slq rfl),(B.xM [1,2,3,4,5] rfl)⟩ h
     ·replace h:=Zm h (Yz ax);refine ZMu ?_
      obtain ⟨ci,cj,h⟩:=Zlx h;refine Zl6 (λe_ U=>∃ (bj:Bool),Zt e_ [(2,vI a2),(3,vQ b7),(4,vQ ae),(6,vQ am),(7,vQ ai),(8,vI A.2.1),(9,vI A.2.2),(101,.bool bj)]∧Ctx Nox w0 U [own 162 9 ab A.1.length (ZMv.encs A.1),blk ai 55 [ab],blk am 55 [.slice none 0 0],blk ae 55 [u1_0],blk b7 55 [u0_0]] [ZMt ZMv.ty.sl a1.terms [u1_0] fp1,ZMt ZMv.ty.sl a0.terms [u0_0] fp0,ZMt TForm a0 [u0_0] fp0,ZMt TForm a1 [u1_0] fp1]∧ci bj) ?_ ?_
      ·skip;refine cwd 18 Yh [0,0,2,6,15,31,63,127,63,511,1023,2047,63,4159,63,28735,61503,127039,262143,524287,1048575] [2,3,7,9,11,13,15,17] [0,1,4,5,6,7,8,9,10,11,12,13,14,15,16,17] (λaj V ea G=>?_)
       replace B:=B.grow G;refine bM 0 (vI A.2.1) rfl V (Zb 21 1) (bF 1 (vQ b7) rfl rfl V (λ_=>by exact Yk 0 ZM1 rfl sc53.size rfl rfl) (Zb 21 3) (bL 2 (u0_0) rfl rfl aj (λ_ G=>by exact Yc (B.grow G) 4 (u0_0) rfl sc53 rfl rfl) (Zb 21 7) (bL 3 (vI (a0.terms.length:Int)) rfl rfl aj (λ_ G=>by exact Zka (B.grow G) 1 rfl ZM4 rfl) (Zb 21 15) (bF 4 (.bool (decide (A.2.1=(a0.terms.length:Int)))) rfl rfl V (λ_=>by exact Zo7 rfl rfl) (Zb 21 31) (bM 5 (.bool (decide (A.2.1=(a0.terms.length:Int)))) rfl V (Zb 21 63) ?_)))))
       refine Y6 (decide (A.2.1=(a0.terms.length:Int))) (λO=>?_) (λO=>?_)
       ·replace h:=ift h (ct O);refine Zr Zv 6 undef rfl rfl (by kernel_rfl) (V 6 rfl) (λU=>.inr ⟨Yd (b:=true) 5 107 rfl (tr rfl (congrArg _ O)) (by decide),rfl⟩) (l9:=(Zb 21 127)) (by kernel_rfl) (Zr Zv 7 undef rfl rfl (by kernel_rfl) (V 7 rfl) (λU=>.inr ⟨Yd (b:=true) 5 107 rfl (tr rfl (congrArg _ O)) (by decide),rfl⟩) (l9:=(Zb 21 255)) (by kernel_rfl) (Zr Zv 8 undef rfl rfl (by kernel_rfl) (V 8 rfl) (λU=>.inr ⟨Yd (b:=true) 5 107 rfl (tr rfl (congrArg _ O)) (by decide),rfl⟩) (l9:=(Zb 21 511)) (by kernel_rfl) (Zr Zv 9 undef rfl rfl (by kernel_rfl) (V 9 rfl) (λU=>.inr ⟨Yd (b:=true) 5 107 rfl (tr rfl (congrArg _ O)) (by decide),rfl⟩) (l9:=(Zb 21 1023)) (by kernel_rfl) (Zr Zv 10 undef rfl rfl (by kernel_rfl) (V 10 rfl) (λU=>.inr ⟨Yd (b:=true) 5 107 rfl (tr rfl (congrArg _ O)) (by decide),rfl⟩) (l9:=(Zb 21 2047)) (by kernel_rfl) (Zr Zv 11 undef rfl rfl (by kernel_rfl) (V 11 rfl) (λU=>.inr ⟨Yd (b:=true) 5 107 rfl (tr rfl (congrArg _ O)) (by decide),rfl⟩) (l9:=(Zb 21 4095)) (by kernel_rfl) (Zr Zv 12 undef rfl rfl (by kernel_rfl) (V 12 rfl) (λU=>.inr ⟨Yd (b:=true) 5 107 rfl (tr rfl (congrArg _ O)) (by decide),rfl⟩) (l9:=(Zb 21 8191)) (by kernel_rfl) (Zr Zv 13 undef rfl rfl (by kernel_rfl) (V 13 rfl) (λU=>.inr ⟨Yd (b:=true) 5 107 rfl (tr rfl (congrArg _ O)) (by decide),rfl⟩) (l9:=(Zb 21 16383)) (by kernel_rfl) (Zr Zv 14 undef rfl rfl (by kernel_rfl) (V 14 rfl) (λU=>.inr ⟨Yd (b:=true) 5 107 rfl (tr rfl (congrArg _ O)) (by decide),rfl⟩) (l9:=(Zb 21 32767)) (by kernel_rfl) (Zr Zv 15 undef rfl rfl (by kernel_rfl) (V 15 rfl) (λU=>.inr ⟨Yd (b:=true) 5 107 rfl (tr rfl (congrArg _ O)) (by decide),rfl⟩) (l9:=(Zb 21 65535)) (by kernel_rfl) (Zr Zv 16 undef rfl rfl (by kernel_rfl) (V 16 rfl) (λU=>.inr ⟨Yd (b:=true) 5 107 rfl (tr rfl (congrArg _ O)) (by decide),rfl⟩) (l9:=(Zb 21 131071)) (by kernel_rfl) (Zr Zv 17 undef rfl rfl (by kernel_rfl) (V 17 rfl) (λU=>.inr ⟨Yd (b:=true) 5 107 rfl (tr rfl (congrArg _ O)) (by decide),rfl⟩) (l9:=(Zb 21 262143)) (by kernel_rfl) (Z0 18 (by decide) (by decide) (by kernel_rfl) (by kernel_rfl) rfl (Zg (b:=true) 5 107 rfl (tr rfl (congrArg _ O)) (by decide) (Zs (v:=.bool true) (b:=true) (tr rfl (congrArg _ O)) rfl (Zc (v:=.bool true) rfl (done (Z1 ?_)))))))))))))))))
        exact⟨rfl,_,rfl,true,(slq rfl),B,h⟩
       ·replace h:=Zm h (cf O);refine aF 6 (vQ ae) rfl rfl (V 6 rfl) (Yg 5 107 rfl rfl O) (λ_=>by exact Yk 0 ZM1 rfl sc53.size rfl rfl) (Zb 21 127) (aL 7 (u1_0) rfl rfl (aj 7 rfl) (Yg 5 107 rfl rfl O) (λ_ G=>by exact Yc (B.grow G) 3 (u1_0) rfl sc53 rfl rfl) (Zb 21 255) (aF 8 (vI A.2.2) rfl rfl (V 8 rfl) (Yg 5 107 rfl rfl O) (λ_=>by exact Zau (v:=vI A.2.2) rfl) (Zb 21 511) ?_))
        obtain ⟨⟨c6,c7⟩,h⟩:=h;obtain ⟨bk,eb,bl⟩:=Zx (B.getP 0 rfl) A.2.2.toNat (show A.2.2.toNat < a1.terms.length by omega)
        refine aL 9 (.pointer (some (bk.add (A.2.2.toNat * 9)))) rfl rfl (aj 9 rfl) (Yg 5 107 rfl rfl O) (λ_ G=>by exact Y1 (len:=a1.terms.length) ZM4 ag162.size (by exact tr rfl bl) rfl c6 c7) (Zb 21 1023) (aF 10 (.pointer (some (bk.add (A.2.2.toNat * 9+0)))) rfl rfl (V 10 rfl) (Yg 5 107 rfl rfl O) (λ_=>by exact Za1 (A.2.2.toNat * 9+0) ZNa rfl ag136.size rfl rfl) (Zb 21 2047) (aL 11 (.agg (ZHu (ZMs .u8 ((a1.terms.getD A.2.2.toNat ZEu).mono)))) rfl rfl (aj 11 rfl) (Yg 5 107 rfl rfl O) (λ_ G=>by exact Jr (ZMs .u8 ((a1.terms.getD A.2.2.toNat ZEu).mono)) (Jz (o:=0) (k:=8) (Ye ((B.grow G).getP 0 rfl) bl A.2.2.toNat (show A.2.2.toNat < a1.terms.length by omega)) rfl) ag136 rfl rfl) (Zb 21 4095) (aF 12 (vQ b7) rfl rfl (V 12 rfl) (Yg 5 107 rfl rfl O) (λ_=>by exact Yk 0 ZM1 rfl sc53.size rfl rfl) (Zb 21 8191) (aL 13 (u0_0) rfl rfl (aj 13 rfl) (Yg 5 107 rfl rfl O) (λ_ G=>by exact Yc (B.grow G) 4 (u0_0) rfl sc53 rfl rfl) (Zb 21 16383) (aF 14 (vI A.2.1) rfl rfl (V 14 rfl) (Yg 5 107 rfl rfl O) (λ_=>by exact Zau (v:=vI A.2.1) rfl) (Zb 21 32767) ?_)))))
        obtain ⟨⟨c8,c9⟩,h⟩:=h;obtain ⟨bm,ec,bn⟩:=Zx (B.getP 1 rfl) A.2.1.toNat (show A.2.1.toNat < a0.terms.length by omega)
        refine aL 15 (.pointer (some (bm.add (A.2.1.toNat * 9)))) rfl rfl (aj 15 rfl) (Yg 5 107 rfl rfl O) (λ_ G=>by exact Y1 (len:=a0.terms.length) ZM4 ag162.size (by exact tr rfl bn) rfl c8 c9) (Zb 21 65535) (aF 16 (.pointer (some (bm.add (A.2.1.toNat * 9+0)))) rfl rfl (V 16 rfl) (Yg 5 107 rfl rfl O) (λ_=>by exact Za1 (A.2.1.toNat * 9+0) ZNa rfl ag136.size rfl rfl) (Zb 21 131071) (aL 17 (.agg (ZHu (ZMs .u8 ((a0.terms.getD A.2.1.toNat ZEu).mono)))) rfl rfl (aj 17 rfl) (Yg 5 107 rfl rfl O) (λ_ G=>by exact Jr (ZMs .u8 ((a0.terms.getD A.2.1.toNat ZEu).mono)) (Jz (o:=0) (k:=8) (Ye ((B.grow G).getP 1 rfl) bn A.2.1.toNat (show A.2.1.toNat < a0.terms.length by omega)) rfl) ag136 rfl rfl) (Zb 21 262143) (Z0 18 (by decide) (by decide) (by kernel_rfl) (by kernel_rfl) rfl (Zh 5 107 rfl rfl O (Zf [.agg (ZHu (ZMs .u8 ((a1.terms.getD A.2.2.toNat ZEu).mono))),.agg (ZHu (ZMs .u8 ((a0.terms.getD A.2.1.toNat ZEu).mono)))] _ ZNx rfl rfl rfl (Zmt ((a1.terms.getD A.2.2.toNat ZEu).mono) ((a0.terms.getD A.2.1.toNat ZEu).mono) h _) ?_)))))
        rintro _ ed ⟨bo,rfl,h,ck⟩;refine rt ?_
        replace B:=B.grow ck;refine Zs (v:=.bool bo) (b:=false) (tr rfl (congrArg _ O)) rfl (Zc (v:=.bool bo) rfl (done (Z1 ?_)))
        exact⟨rfl,_,rfl,bo,(slq rfl),B,h⟩
      ·clear B h;rintro e_ ee ⟨bj,an,B,h⟩;replace h:=cj _ h;rw [ue an];refine Zd ?_
       refine Zp rfl (λaz=>?_) (λaz=>?_)
       ·replace h:=ift h (az);refine ZMu (sr (Za (v:=vI a2) rfl (Zu 0 ZM1 rfl sc53.size rfl rfl (Z5 B 3 (u1_0) rfl sc53 rfl rfl (Za (v:=vI A.2.2) rfl ?_)))))
        obtain ⟨⟨da,db⟩,h⟩:=h;obtain ⟨dq,ef,bp⟩:=Zx (B.getP 0 rfl) A.2.2.toNat (show A.2.2.toNat < a1.terms.length by omega)
        refine Ys (len:=a1.terms.length) ZM4 ag162.size (tr rfl bp) rfl da db (Zei (A.2.2.toNat * 9+8) ZNa rfl sc2.size rfl rfl (Yr (vI ((a1.terms.getD A.2.2.toNat ZEu).factor)) (Jz (o:=8) (k:=1) (Ye (B.getP 0 rfl) bp A.2.2.toNat (show A.2.2.toNat < a1.terms.length by omega)) rfl) sc2 rfl (Zal rfl rfl (Zf [vI (ZHf.wrap (a2 * ((a1.terms.getD A.2.2.toNat ZEu).factor)))] _ ZNk rfl rfl rfl (Zbo (ZHf.wrap (a2 * ((a1.terms.getD A.2.2.toNat ZEu).factor))) h _) ?_))))
        rintro _ eg ⟨ag,rfl,h,cl⟩;refine rt ?_
        replace B:=B.grow cl;refine Zc (v:=vI ag) rfl (dn (sr (Za (v:=vI ag) rfl (Y2 rfl rfl (dn ?_)))))
        refine Zp rfl (λa3=>?_) (λa3=>?_)
        ·replace h:=ift h (ct a3);refine cwd 11 Yh [0,1,0,4,0,28,60,124,0,508,1020,2047,4095,8191] [1,3,5,7,9] [0,2,4,6,8] (λap aq eh G=>?_)
         replace B:=B.grow G;refine bF 0 (vQ ai) rfl rfl aq (λ_=>by exact Yk 0 ZM1 rfl sc53.size rfl rfl) (Zb 14 1) (bL 1 (ab) rfl rfl ap (λ_ G=>by exact Yc (B.grow G) 1 (ab) rfl sc53 rfl rfl) (Zb 14 3) (bF 2 (vQ ae) rfl rfl aq (λ_=>by exact Yk 0 ZM1 rfl sc53.size rfl rfl) (Zb 14 7) (bL 3 (u1_0) rfl rfl ap (λ_ G=>by exact Yc (B.grow G) 3 (u1_0) rfl sc53 rfl rfl) (Zb 14 15) (bM 4 (vI A.2.2) rfl aq (Zb 14 31) ?_))))
         obtain ⟨⟨dc,dd⟩,h⟩:=h;obtain ⟨bq,ei,br⟩:=Zx (B.getP 0 rfl) A.2.2.toNat (show A.2.2.toNat < a1.terms.length by omega)
         refine bL 5 (.pointer (some (bq.add (A.2.2.toNat * 9)))) rfl rfl ap (λ_ G=>by exact Y1 (len:=a1.terms.length) ZM4 ag162.size (by exact tr rfl br) rfl dc dd) (Zb 14 63) (bF 6 (.pointer (some (bq.add (A.2.2.toNat * 9+0)))) rfl rfl aq (λ_=>by exact Za1 (A.2.2.toNat * 9+0) ZNa rfl ag136.size rfl rfl) (Zb 14 127) (bL 7 (.agg (ZHu (ZMs .u8 ((a1.terms.getD A.2.2.toNat ZEu).mono)))) rfl rfl ap (λ_ G=>by exact Jr (ZMs .u8 ((a1.terms.getD A.2.2.toNat ZEu).mono)) (Jz (o:=0) (k:=8) (Ye ((B.grow G).getP 0 rfl) br A.2.2.toNat (show A.2.2.toNat < a1.terms.length by omega)) rfl) ag136 rfl rfl) (Zb 14 255) (bM 8 (vI ag) rfl aq (Zb 14 511) (bL 9 (.agg (ZHu (ZM5 (⟨(a1.terms.getD A.2.2.toNat ZEu).mono,ag⟩:Term)))) rfl rfl ap (λ_ G=>by exact Zlw [(0,.agg (ZHu (ZMs .u8 ((a1.terms.getD A.2.2.toNat ZEu).mono)))),(1,vI ag)] rfl (Zkb ((a1.terms.getD A.2.2.toNat ZEu).mono) ag  _)) (Zb 14 1023) (aO 10 rfl (Yn (sz:=9) B [(0,.agg (ZHu (ZM5 (⟨(a1.terms.getD A.2.2.toNat ZEu).mono,ag⟩:Term))))] (ZMv.encs [(⟨(a1.terms.getD A.2.2.toNat ZEu).mono,ag⟩:Term)]) rfl (λ_=>Zho (⟨(a1.terms.getD A.2.2.toNat ZEu).mono,ag⟩:Term) _) rfl (by decide) λej ek G B=>done (aK (by assumption) (Zb 14 2047) (Z0 11 (by decide) (by decide) (by kernel_rfl) (by kernel_rfl) rfl ?_))))))))
         obtain ⟨cm,h⟩:=h;refine X1 B 1 ZM4 Zhp rfl (by decide) (by decide) rfl (Zav (B.getM 0 rfl)) (λq hq=>ZNz (E:=ETerm) _ q hq) rfl rfl cm λa7 en B=>?_
         replace B:=Y7 B 1 ((A.1++[(⟨(a1.terms.getD A.2.2.toNat ZEu).mono,ag⟩:Term)]).length) (ZMv.encs (A.1++[(⟨(a1.terms.getD A.2.2.toNat ZEu).mono,ag⟩:Term)])) rfl (by simp) (by first | (simp [ZNm]; done) | simp [ZNm,Enc.encs])
         refine Zu 0 ZM1 rfl sc53.size rfl rfl (Zz (v:=a7) B 2 [a7] [a7] rfl sc53.size rfl rfl (Zcg (B.getM 1 rfl)) rfl (Xr (X4 (B.getM 1 rfl)) rfl) (ZM2 rfl) rfl λeo B=>done (Z1 (Zd (Zj (Za (v:=vI A.2.2) rfl (Zo rfl rfl (Zc (v:=vI (ZHf.wrap (A.2.2+1))) rfl (done (Zq (Zq ?_))))))))))
         exact ao (A.1++[(⟨(a1.terms.getD A.2.2.toNat ZEu).mono,ag⟩:Term)],A.2.1,ZHf.wrap (A.2.2+1)) _ _ ⟨a7,(slq rfl),(B.xM [1,2,3,4,5] rfl)⟩ h
        ·replace h:=Zm h (cf a3);refine ZMy (Zd (Zj (Za (v:=vI A.2.2) rfl (Zo rfl rfl (Zc (v:=vI (ZHf.wrap (A.2.2+1))) rfl (done (Zq (Zq ?_))))))))
         exact ao (A.1,A.2.1,ZHf.wrap (A.2.2+1)) _ _ ⟨ab,(slq rfl),B⟩ h
       ·replace h:=Zm h (Yz az);refine ZMu (ZMu ?_)
        refine cwd 15 Yh [0,1,0,7,15,31,0,0,128,0,896,1920,3968,8128,16320,32767,65535,131071] [1,3,5,8,10,12] [0,2,4,6,7,9,11,13] (λal ak ep G=>?_)
        replace B:=B.grow G;refine bF 0 (vQ b7) rfl rfl ak (λ_=>by exact Yk 0 ZM1 rfl sc53.size rfl rfl) (Zb 18 1) (bL 1 (u0_0) rfl rfl al (λ_ G=>by exact Yc (B.grow G) 4 (u0_0) rfl sc53 rfl rfl) (Zb 18 3) (bM 2 (vI A.2.1) rfl ak (Zb 18 7) ?_))
        obtain ⟨⟨de,dh⟩,h⟩:=h;obtain ⟨bs,er,bt⟩:=Zx (B.getP 1 rfl) A.2.1.toNat (show A.2.1.toNat < a0.terms.length by omega)
        refine bL 3 (.pointer (some (bs.add (A.2.1.toNat * 9)))) rfl rfl al (λ_ G=>by exact Y1 (len:=a0.terms.length) ZM4 ag162.size (by exact tr rfl bt) rfl de dh) (Zb 18 15) (bF 4 (.pointer (some (bs.add (A.2.1.toNat * 9+8)))) rfl rfl ak (λ_=>by exact Za1 (A.2.1.toNat * 9+8) ZNa rfl sc2.size rfl rfl) (Zb 18 31) (bL 5 (vI ((a0.terms.getD A.2.1.toNat ZEu).factor)) rfl rfl al (λ_ G=>by exact Xh (vI ((a0.terms.getD A.2.1.toNat ZEu).factor)) (Jz (o:=8) (k:=1) (Ye ((B.grow G).getP 1 rfl) bt A.2.1.toNat (show A.2.1.toNat < a0.terms.length by omega)) rfl) sc2 rfl) (Zb 18 63) (bM 6 (vI a2) rfl ak (Zb 18 127) (bF 7 (vQ ae) rfl rfl ak (λ_=>by exact Yk 0 ZM1 rfl sc53.size rfl rfl) (Zb 18 255) (bL 8 (u1_0) rfl rfl al (λ_ G=>by exact Yc (B.grow G) 3 (u1_0) rfl sc53 rfl rfl) (Zb 18 511) (bM 9 (vI A.2.2) rfl ak (Zb 18 1023) ?_))))))
        obtain ⟨⟨di,dj⟩,h⟩:=h;obtain ⟨bu,es,bv⟩:=Zx (B.getP 0 rfl) A.2.2.toNat (show A.2.2.toNat < a1.terms.length by omega)
        refine bL 10 (.pointer (some (bu.add (A.2.2.toNat * 9)))) rfl rfl al (λ_ G=>by exact Y1 (len:=a1.terms.length) ZM4 ag162.size (by exact tr rfl bv) rfl di dj) (Zb 18 2047) (bF 11 (.pointer (some (bu.add (A.2.2.toNat * 9+8)))) rfl rfl ak (λ_=>by exact Za1 (A.2.2.toNat * 9+8) ZNa rfl sc2.size rfl rfl) (Zb 18 4095) (bL 12 (vI ((a1.terms.getD A.2.2.toNat ZEu).factor)) rfl rfl al (λ_ G=>by exact Xh (vI ((a1.terms.getD A.2.2.toNat ZEu).factor)) (Jz (o:=8) (k:=1) (Ye ((B.grow G).getP 0 rfl) bv A.2.2.toNat (show A.2.2.toNat < a1.terms.length by omega)) rfl) sc2 rfl) (Zb 18 8191) (bF 13 (vI (ZHf.wrap (a2 * ((a1.terms.getD A.2.2.toNat ZEu).factor)))) rfl rfl ak (λ_=>by exact Zcy rfl rfl) (Zb 18 16383) (aO 14 rfl (Zf [vI (ZHf.wrap (a2 * ((a1.terms.getD A.2.2.toNat ZEu).factor)))] _ ZNk rfl rfl rfl (Zbo (ZHf.wrap (a2 * ((a1.terms.getD A.2.2.toNat ZEu).factor))) h _) ?_)))))
        rintro _ et ⟨b8,rfl,h,cn⟩;refine rt ?_
        replace B:=B.grow cn;refine done (aK (by assumption) (Zb 18 32767) (Z0 15 (by decide) (by decide) (by kernel_rfl) (by kernel_rfl) rfl (Zo rfl rfl (Zf [vI (ZHf.wrap (((a0.terms.getD A.2.1.toNat ZEu).factor)+b8))] _ ZNk rfl rfl rfl (Zbo (ZHf.wrap (((a0.terms.getD A.2.1.toNat ZEu).factor)+b8)) h _) ?_))))
        rintro _ eu ⟨ah,rfl,h,cp⟩;refine rt ?_
        replace B:=B.grow cp;refine Zc (v:=vI ah) rfl (done (Z1 (Zd (sr (Za (v:=vI ah) rfl (Y2 rfl rfl (dn ?_)))))))
        refine Zp rfl (λa4=>?_) (λa4=>?_)
        ·replace h:=ift h (ct a4);refine cwd 11 Yh [0,1,0,4,0,28,60,124,0,508,1020,2047,4095,8191] [1,3,5,7,9] [0,2,4,6,8] (λar au ew G=>?_)
         replace B:=B.grow G;refine bF 0 (vQ ai) rfl rfl au (λ_=>by exact Yk 0 ZM1 rfl sc53.size rfl rfl) (Zb 14 1) (bL 1 (ab) rfl rfl ar (λ_ G=>by exact Yc (B.grow G) 1 (ab) rfl sc53 rfl rfl) (Zb 14 3) (bF 2 (vQ b7) rfl rfl au (λ_=>by exact Yk 0 ZM1 rfl sc53.size rfl rfl) (Zb 14 7) (bL 3 (u0_0) rfl rfl ar (λ_ G=>by exact Yc (B.grow G) 4 (u0_0) rfl sc53 rfl rfl) (Zb 14 15) (bM 4 (vI A.2.1) rfl au (Zb 14 31) ?_))))
         obtain ⟨⟨dk,dm⟩,h⟩:=h;obtain ⟨bw,ex,bx⟩:=Zx (B.getP 1 rfl) A.2.1.toNat (show A.2.1.toNat < a0.terms.length by omega)
         refine bL 5 (.pointer (some (bw.add (A.2.1.toNat * 9)))) rfl rfl ar (λ_ G=>by exact Y1 (len:=a0.terms.length) ZM4 ag162.size (by exact tr rfl bx) rfl dk dm) (Zb 14 63) (bF 6 (.pointer (some (bw.add (A.2.1.toNat * 9+0)))) rfl rfl au (λ_=>by exact Za1 (A.2.1.toNat * 9+0) ZNa rfl ag136.size rfl rfl) (Zb 14 127) (bL 7 (.agg (ZHu (ZMs .u8 ((a0.terms.getD A.2.1.toNat ZEu).mono)))) rfl rfl ar (λ_ G=>by exact Jr (ZMs .u8 ((a0.terms.getD A.2.1.toNat ZEu).mono)) (Jz (o:=0) (k:=8) (Ye ((B.grow G).getP 1 rfl) bx A.2.1.toNat (show A.2.1.toNat < a0.terms.length by omega)) rfl) ag136 rfl rfl) (Zb 14 255) (bM 8 (vI ah) rfl au (Zb 14 511) (bL 9 (.agg (ZHu (ZM5 (⟨(a0.terms.getD A.2.1.toNat ZEu).mono,ah⟩:Term)))) rfl rfl ar (λ_ G=>by exact Zlw [(0,.agg (ZHu (ZMs .u8 ((a0.terms.getD A.2.1.toNat ZEu).mono)))),(1,vI ah)] rfl (Zkb ((a0.terms.getD A.2.1.toNat ZEu).mono) ah  _)) (Zb 14 1023) (aO 10 rfl (Yn (sz:=9) B [(0,.agg (ZHu (ZM5 (⟨(a0.terms.getD A.2.1.toNat ZEu).mono,ah⟩:Term))))] (ZMv.encs [(⟨(a0.terms.getD A.2.1.toNat ZEu).mono,ah⟩:Term)]) rfl (λ_=>Zho (⟨(a0.terms.getD A.2.1.toNat ZEu).mono,ah⟩:Term) _) rfl (by decide) λey ez G B=>done (aK (by assumption) (Zb 14 2047) (Z0 11 (by decide) (by decide) (by kernel_rfl) (by kernel_rfl) rfl ?_))))))))
         obtain ⟨cq,h⟩:=h;refine X1 B 1 ZM4 Zhp rfl (by decide) (by decide) rfl (Zav (B.getM 0 rfl)) (λq hq=>ZNz (E:=ETerm) _ q hq) rfl rfl cq λa8 e1 B=>?_
         replace B:=Y7 B 1 ((A.1++[(⟨(a0.terms.getD A.2.1.toNat ZEu).mono,ah⟩:Term)]).length) (ZMv.encs (A.1++[(⟨(a0.terms.getD A.2.1.toNat ZEu).mono,ah⟩:Term)])) rfl (by simp) (by first | (simp [ZNm]; done) | simp [ZNm,Enc.encs])
         refine Zu 0 ZM1 rfl sc53.size rfl rfl (Zz (v:=a8) B 2 [a8] [a8] rfl sc53.size rfl rfl (Zcg (B.getM 1 rfl)) rfl (Xr (X4 (B.getM 1 rfl)) rfl) (ZM2 rfl) rfl λe2 B=>done (Z1 (Zd (sr (Za (v:=vI A.2.1) rfl (Zo rfl rfl (Zc (v:=vI (ZHf.wrap (A.2.1+1))) rfl (dn (Zj (Za (v:=vI A.2.2) rfl (Zo rfl rfl (Zc (v:=vI (ZHf.wrap (A.2.2+1))) rfl (done (Zq (Zq ?_)))))))))))))))
         exact ao (A.1++[(⟨(a0.terms.getD A.2.1.toNat ZEu).mono,ah⟩:Term)],ZHf.wrap (A.2.1+1),ZHf.wrap (A.2.2+1)) _ _ ⟨a8,(slq rfl),(B.xM [1,2,3,4,5] rfl)⟩ h
        ·replace h:=Zm h (cf a4);refine ZMy (Zd (sr (Za (v:=vI A.2.1) rfl (Zo rfl rfl (Zc (v:=vI (ZHf.wrap (A.2.1+1))) rfl (dn (Zj (Za (v:=vI A.2.2) rfl (Zo rfl rfl (Zc (v:=vI (ZHf.wrap (A.2.2+1))) rfl (done (Zq (Zq ?_)))))))))))))
         exact ao (A.1,ZHf.wrap (A.2.1+1),ZHf.wrap (A.2.2+1)) _ _ ⟨ab,(slq rfl),B⟩ h
   ·replace h:=Zm h (Yz aw);refine ZM9 (Zk (Zk (Zy ?_)))
    refine Zd (sr (Yb B 1 [ab] rfl ag55 rfl rfl rfl (Zz (v:=.agg #[ab]) B 2 [ab] [ab] rfl ag55.size rfl rfl rfl rfl (Xr (X4 (B.getM 0 rfl)) rfl) (ZM2 rfl) rfl λe3 B=>dn (ZM3 ?_))))
    exact Zi rfl (Zag B 2 rfl ag55 rfl rfl) ⟨(⟨A.1⟩:ZMw),ab,(ZNu (ZFo ab)),rfl,h,(Zc5 (Xx (B.getM 0 rfl))),(Yt B 0 rfl),B.below⟩ (.inl rfl)
 ·skip;replace B:=B.pushNil 162 9;exact⟨.slice none 0 0,(slq rfl),B⟩
def Zht (L:List Int) (O:A8) (U:A8) (K:A8→Int→Prop):Prop :=
 Z9 (λh (B:A8×Int) G=>((0≤(h:Int)∧(h:Int) < 8)∧((0≤(h:Int)∧(h:Int) < 8)∧((0≤(h:Int)∧(h:Int) < 8)∧(if ZFl (L.getD h ZEu) 2=0 then G (B.1.set h (ZM6.wrap ((O.get h)+(U.get h))),B.2) else((0≤(h:Int)∧(h:Int) < 8)∧(if(B.1.set h (ZM6.wrap ((O.get h)+(U.get h)))).get h > 1 then K ZMz 0 else Xt (λ(A:Int×Int) I=>(if A.1 < (L.length:Int) then((0≤(h:Int)∧(h:Int) < 8)∧(if U.get h=1 then((0≤A.1∧A.1 < (L.length:Int))∧(if ZFl (L.getD A.1.toNat ZEu) 2≠0 then((0≤A.1∧A.1 < 8)∧(if O.get A.1.toNat=1 then I (ZHf.wrap (A.1+1),ZHf.wrap (0 - A.2)) else I (ZHf.wrap (A.1+1),A.2))) else I (ZHf.wrap (A.1+1),A.2))) else G (B.1.set h (ZM6.wrap ((O.get h)+(U.get h))),A.2))) else G (B.1.set h (ZM6.wrap ((O.get h)+(U.get h))),A.2))) (ZHf.wrap ((h:Int)+1),B.2)))))))) (λ(B:A8×Int)=>K B.1 B.2) L.length 0 (ZMz,1)
theorem Zqe (a0:List Int) (a1:A8) (a2:A8)  {K:A8→Int→Prop} (h:Zht a0 a1 a2 K) (w0:World) (q0:TInts.rep a0 [u0_0] fp0 w0) :
  Calls ZMx 196 #[u0_0,.agg (ZHu (ZMs .u8 a1)),.agg (ZHu (ZMs .u8 a2))] w0 λe w'=>∃ (r0:A8) (r1:Int),
   e=.returned (.tuple #[.agg (ZHu (ZMs .u8 r0)),vI r1])∧K r0 r1∧Bel w0 w':=by
 unfold Zht at h
 refine cof ZN6 rfl 69 Tryz.ntmps196 ?_
 have G:=ZNf (X:=Nox) w0 [ZMt TInts a0 [u0_0] fp0] (al1 q0);refine sr (Ya (v:=.agg (ZHu (ZMs .u8 a1))) G (ZMs .u8 a1) rfl rfl λb2 w4 U G=>Ya (v:=.agg (ZHu (ZMs .u8 a2))) G (ZMs .u8 a2) rfl rfl λb5 w7 U G=>Yl G (ZMs .u8 ZMz) Zbn rfl λb8 bc U G=>Zc (v:=vI 0) rfl (dn (sr (J8 [] rfl (Zmq   _) (Yl G (ZMs .u8 ZMz) Zbn rfl λal bd U G=>Zz (v:=.agg (ZHu (ZMs .u8 ZMz))) G 0 (ZMs .u8 ZMz) (ZMs .u8 ZMz) rfl ag136.size rfl rfl rfl rfl rfl (ZM2 rfl) rfl λbe G=>Zc (v:=vI 1) rfl (dn (ZMu (sr (Zc (v:=vI 0) rfl (dn (ZM0 ?_)))))))))))
 have ad:a0.length≤9223372036854775807:=Y5 (G.getP 0 rfl);refine Yp (S:=A8×Int) _ _ (λA I e_ w_=>Zt e_ [(0,u0_0),(4,vQ b2),(5,vQ b5),(6,vQ b8),(8,vQ al),(9,vI I.2),(10,vI (A:Int))]∧Ctx Nox w0 w_ [blk al 136 (ZMs .u8 I.1),blk b8 136 (ZMs .u8 ZMz),blk b5 136 (ZMs .u8 a2),blk b2 136 (ZMs .u8 a1)] [ZMt TInts a0 [u0_0] fp0]) a0.length ?_ ?_ (s0:=(ZMz,1)) ?_ h
 ·clear G h;rintro A I e_ bh a8 ao V ⟨ac,G⟩ h ae;rw [ue ac];refine ZMu (sr (Za (v:=vI (A:Int)) rfl (Za (v:=u0_0) rfl (Zw G 0 rfl ZNd rfl (Zn rfl rfl (dn (Z3 rfl (decide_eq_true (by omega)) (ZMy (Zd (ZMu (ZM0 (ZMu ?_))))))))))))
  refine cwd 8 Yh [0,0,2,6,0,16,48,126,255,511] [2,3,5,6] [0,1,4,7] (λaa ab bi U=>?_)
  replace G:=G.grow U;refine bM 0 (vI (A:Int)) rfl ab (Zb 10 1) (bM 1 (vI (A:Int)) rfl ab (Zb 10 3) ?_)
  obtain ⟨⟨ap,aq⟩,h⟩:=h;refine bL 2 (.pointer (some ⟨b2,A,none⟩)) rfl rfl aa (λ_ U=>by exact Zaf A ZNc sc5.size rfl rfl ap aq (by omega)) (Zb 10 7) (bL 3 (.int .u8 (a1.get A)) rfl rfl aa (λ_ U=>by exact Yc (G.grow U) 3 (.int .u8 (a1.get A)) rfl sc5 rfl (ZM7 _ _ (show A < 8 by omega))) (Zb 10 15) (bM 4 (vI (A:Int)) rfl ab (Zb 10 31) ?_))
  obtain ⟨⟨ar,au⟩,h⟩:=h;refine bL 5 (.pointer (some ⟨b5,A,none⟩)) rfl rfl aa (λ_ U=>by exact Zaf A ZNc sc5.size rfl rfl ar au (by omega)) (Zb 10 63) (bL 6 (.int .u8 (a2.get A)) rfl rfl aa (λ_ U=>by exact Yc (G.grow U) 2 (.int .u8 (a2.get A)) rfl sc5 rfl (ZM7 _ _ (show A < 8 by omega))) (Zb 10 127) (bF 7 (.int .u8 (ZM6.wrap ((a1.get A)+(a2.get A)))) rfl rfl ab (λ_=>by exact Zdm rfl rfl) (Zb 10 255) (Z0 8 (by decide) (by decide) (by kernel_rfl) (by kernel_rfl) rfl ?_)))
  obtain ⟨⟨av,aw⟩,h⟩:=h;refine Xs A ZNc sc5.size rfl rfl av aw (by omega) (Zz (v:=.int .u8 (ZM6.wrap ((a1.get A)+(a2.get A)))) G 0 [.int .u8 (ZM6.wrap ((a1.get A)+(a2.get A)))] (ZMs .u8 (I.1.set A (ZM6.wrap ((a1.get A)+(a2.get A))))) rfl sc5.size rfl rfl rfl rfl rfl (show A < 8 by omega) (ZNo _ _ _ (show A < 8 by omega)) λbj G=>done (Z1 (Zd (ZMu (sr (Za (v:=u0_0) rfl (Za (v:=vI (A:Int)) rfl ?_)))))))
  obtain ⟨a9,bk,am⟩:=Zx (G.getP 0 rfl) A V;refine Ys (len:=a0.length) ZNd sc2.size (tr rfl am) rfl (ZNb _) (ZNt.2 V) (Yr (vI (a0.getD A ZEu)) (Ye (G.getP 0 rfl) am A V) sc2 rfl (X3 rfl rfl (by decide) (Xg rfl rfl (dn ?_))))
  refine Zp rfl (λag=>?_) (λag=>?_)
  ·replace h:=ift h (ct ag);refine ZM9 (Zk (Zy ?_))
   refine Zd (Zj (Za (v:=vI (A:Int)) rfl (Zo rfl rfl (Zc (v:=vI (ZHf.wrap ((A:Int)+1))) rfl (done ?_)))))
   exact ae (I.1.set A (ZM6.wrap ((a1.get A)+(a2.get A))),I.2) _ _ ⟨(sl ⟨rfl,rfl,rfl,rfl,rfl,rfl,(tr rfl (congrArg _ (Z7 V ad))),trivial⟩),G⟩ h
  ·replace h:=Zm h (cf ag);refine ZMy (Zd (ZMu (sr (Za (v:=vI (A:Int)) rfl ?_))))
   obtain ⟨⟨ax,ay⟩,h⟩:=h;refine Xs A ZNc sc5.size rfl rfl ax ay (by omega) (Z5 G 0 (.int .u8 ((I.1.set A (ZM6.wrap ((a1.get A)+(a2.get A)))).get A)) rfl sc5 rfl (ZM7 _ _ (show A < 8 by omega)) (Ja rfl rfl (dn ?_)))
   refine Zp rfl (λah=>?_) (λah=>?_)
   ·replace h:=ift h (ct ah);refine sr (J8 [] rfl (Zmq   _) (Zz (v:=.agg (ZHu (ZMs .u8 ZMz))) G 1 (ZMs .u8 ZMz) (ZMs .u8 ZMz) rfl ag136.size rfl rfl rfl rfl rfl (ZM2 rfl) rfl λbl G=>Zc (v:=vI 0) rfl (dn ?_)))
    refine ZM3 (Zl (Z8 (Zl (Zl (Z8 (Zl ?_))))))
    exact Xv rfl (Zag G 1 rfl ag136 rfl rfl) (Ze rfl) ⟨ZMz,0,rfl,h,G.below⟩ (.inl rfl)
   ·replace h:=Zm h (cf ah);refine ZMy (Zd (sr (Za (v:=vI (A:Int)) rfl (Zo rfl rfl (Zc (v:=vI (ZHf.wrap ((A:Int)+1))) rfl (dn (ZM0 ?_)))))))
    refine X6 (S:=Int×Int) _ (λB e_ w_=>Zt e_ [(0,u0_0),(4,vQ b2),(5,vQ b5),(6,vQ b8),(8,vQ al),(9,vI B.2),(10,vI (A:Int)),(11,vI B.1)]∧Ctx Nox w0 w_ [blk al 136 (ZMs .u8 (I.1.set A (ZM6.wrap ((a1.get A)+(a2.get A))))),blk b8 136 (ZMs .u8 ZMz),blk b5 136 (ZMs .u8 a2),blk b2 136 (ZMs .u8 a1)] [ZMt TInts a0 [u0_0] fp0]) ?_ (s0:=(ZHf.wrap ((A:Int)+1),I.2)) ?_ h
    ·clear G h;rintro B e_ bm ba bn ⟨ac,G⟩ h ai;rw [ue ac];refine ZMu (sr (Za (v:=vI B.1) rfl (Za (v:=u0_0) rfl (Zw G 0 rfl ZNd rfl (Zn rfl rfl (Za (v:=.bool (decide (B.1 < (a0.length:Int)))) rfl ?_))))))
     refine Y6 (decide (B.1 < (a0.length:Int))) (λL=>?_) (λL=>?_)
     ·replace h:=ift h (ct L);refine Zh 4 45 rfl rfl L (Za (v:=vI (A:Int)) rfl (Zh 4 45 rfl rfl L ?_))
      obtain ⟨⟨az,a3⟩,h⟩:=h;refine Xs A ZNc sc5.size rfl rfl az a3 (by omega) (Zh 4 45 rfl rfl L (Z5 G 2 (.int .u8 (a2.get A)) rfl sc5 rfl (ZM7 _ _ (show A < 8 by omega)) (Zh 4 45 rfl rfl L (Xg rfl rfl (Zs (v:=.bool (decide (a2.get A=1))) (b:=true) (tr rfl (congrArg _ L)) rfl (dn ?_))))))
      refine Zp rfl (λaj=>?_) (λaj=>?_)
      ·replace h:=ift h (ct aj);refine ZMy (Zd (ZMu (ZM0 (sr (Za (v:=u0_0) rfl (Za (v:=vI B.1) rfl ?_))))))
       obtain ⟨⟨a4,a5⟩,h⟩:=h;obtain ⟨bb,bo,an⟩:=Zx (G.getP 0 rfl) B.1.toNat (show B.1.toNat < a0.length by omega)
       refine Ys (len:=a0.length) ZNd sc2.size (tr rfl an) rfl a4 a5 (Yr (vI (a0.getD B.1.toNat ZEu)) (Ye (G.getP 0 rfl) an B.1.toNat (show B.1.toNat < a0.length by omega)) sc2 rfl (X3 rfl rfl (by decide) (Y2 rfl rfl (Za (v:=.bool (decide (ZFl (a0.getD B.1.toNat ZEu) 2≠0))) rfl ?_))))
       refine Y6 (decide (ZFl (a0.getD B.1.toNat ZEu) 2≠0)) (λO=>?_) (λO=>?_)
       ·replace h:=ift h (ct O);refine Zh 6 59 rfl rfl O (Za (v:=vI B.1) rfl (Zh 6 59 rfl rfl O ?_))
        obtain ⟨⟨a6,a7⟩,h⟩:=h;refine Xs B.1.toNat ZNc sc5.size rfl rfl a6 a7 (by omega) (Zh 6 59 rfl rfl O (Z5 G 3 (.int .u8 (a1.get B.1.toNat)) rfl sc5 rfl (ZM7 _ _ (show B.1.toNat < 8 by omega)) (Zh 6 59 rfl rfl O (Xg rfl rfl (Zs (v:=.bool (decide (a1.get B.1.toNat=1))) (b:=true) (tr rfl (congrArg _ O)) rfl (dn ?_))))))
        refine Zp rfl (λak=>?_) (λak=>?_)
        ·replace h:=ift h (ct ak);refine Zj (Za (v:=vI B.2) rfl (Zjq rfl (Zc (v:=vI (ZHf.wrap (0 - B.2))) rfl (done (Zq (Zd (Zj (Za (v:=vI B.1) rfl (Zo rfl rfl (Zc (v:=vI (ZHf.wrap (B.1+1))) rfl (done ?_)))))))))))
         exact ai (ZHf.wrap (B.1+1),ZHf.wrap (0 - B.2)) _ _ ⟨(slq rfl),G⟩ h
        ·replace h:=Zm h (cf ak);refine ZMy (Zq (Zd (Zj (Za (v:=vI B.1) rfl (Zo rfl rfl (Zc (v:=vI (ZHf.wrap (B.1+1))) rfl (done ?_)))))))
         exact ai (ZHf.wrap (B.1+1),B.2) _ _ ⟨(slq rfl),G⟩ h
       ·replace h:=Zm h (cf O);refine Zg (b:=false) 6 59 rfl (tr rfl (congrArg _ O)) (by decide) (Zg (b:=false) 6 59 rfl (tr rfl (congrArg _ O)) (by decide) (Zg (b:=false) 6 59 rfl (tr rfl (congrArg _ O)) (by decide) (Zg (b:=false) 6 59 rfl (tr rfl (congrArg _ O)) (by decide) (Zs (v:=.bool false) (b:=false) (tr rfl (congrArg _ O)) rfl (dn (Z2 rfl rfl (ZMy (Zq (Zd (Zj (Za (v:=vI B.1) rfl (Zo rfl rfl (Zc (v:=vI (ZHf.wrap (B.1+1))) rfl (done ?_))))))))))))))
        exact ai (ZHf.wrap (B.1+1),B.2) _ _ ⟨(slq rfl),G⟩ h
      ·replace h:=Zm h (cf aj);refine ZM9 (Zk (Zk (Zy ?_)))
       refine Zq (Zd (Zj (Za (v:=vI (A:Int)) rfl (Zo rfl rfl (Zc (v:=vI (ZHf.wrap ((A:Int)+1))) rfl (done ?_))))))
       exact ae (I.1.set A (ZM6.wrap ((a1.get A)+(a2.get A))),B.2) _ _ ⟨(sl ⟨rfl,rfl,rfl,rfl,rfl,rfl,(tr rfl (congrArg _ (Z7 V ad))),trivial⟩),G⟩ h
     ·replace h:=Zm h (cf L);refine Zg (b:=false) 4 45 rfl (tr rfl (congrArg _ L)) (by decide) (Zg (b:=false) 4 45 rfl (tr rfl (congrArg _ L)) (by decide) (Zg (b:=false) 4 45 rfl (tr rfl (congrArg _ L)) (by decide) (Zg (b:=false) 4 45 rfl (tr rfl (congrArg _ L)) (by decide) (Zs (v:=.bool false) (b:=false) (tr rfl (congrArg _ L)) rfl (dn (Z2 rfl rfl ?_))))))
      refine ZM9 (Zk (Zk (Zy ?_)))
      refine Zq (Zd (Zj (Za (v:=vI (A:Int)) rfl (Zo rfl rfl (Zc (v:=vI (ZHf.wrap ((A:Int)+1))) rfl (done ?_))))))
      exact ae (I.1.set A (ZM6.wrap ((a1.get A)+(a2.get A))),B.2) _ _ ⟨(sl ⟨rfl,rfl,rfl,rfl,rfl,rfl,(tr rfl (congrArg _ (Z7 V ad))),trivial⟩),G⟩ h
    ·skip;exact⟨(slq rfl),G⟩
 ·clear G h;rintro I e_ bp ao ⟨ac,G⟩ h;rw [ue ac];refine ZMu (sr (Za (v:=vI (a0.length:Int)) rfl (Za (v:=u0_0) rfl (Zw G 0 rfl ZNd rfl (Zn rfl rfl (dn (Z2 rfl (decide_eq_false (by omega)) ?_)))))))
  refine ZM9 (Zk (Zk (Zy ?_)))
  refine Zd (sr (Yb G 0 (ZMs .u8 I.1) rfl ag136 rfl rfl rfl (Za (v:=vI I.2) rfl (Zz (v:=.agg (ZHu (ZMs .u8 I.1))) G 1 (ZMs .u8 I.1) (ZMs .u8 I.1) rfl ag136.size rfl rfl rfl rfl rfl (ZM2 rfl) rfl λbq G=>Zc (v:=vI I.2) rfl (dn (ZM3 ?_))))))
  exact Xv rfl (Zag G 1 rfl ag136 rfl rfl) (Ze rfl) ⟨I.1,I.2,rfl,h,G.below⟩ (.inl rfl)
 ·skip;exact⟨(slq rfl),G⟩
def Zhu (L:List Int) (O:Term) (U:ZMw) (K:ZMw→Prop):Prop :=
 Xt (λ(h:(List Term)×Int) A=>(if h.2 < (U.terms.length:Int) then((0≤h.2∧h.2 < (U.terms.length:Int))∧Zht L O.mono ((U.terms.getD h.2.toNat ZEu).mono) (λG B=>(if B≠0 then((0≤h.2∧h.2 < (U.terms.length:Int))∧X8 (ZHf.wrap ((ZHf.wrap (B * O.factor)) * ((U.terms.getD h.2.toNat ZEu).factor))) (λI=>(Z4 (h.1.length+1) 16∧A (h.1++[(⟨G,I⟩:Term)],ZHf.wrap (h.2+1))))) else A (h.1,ZHf.wrap (h.2+1))))) else K (⟨h.1⟩:ZMw))) ([],0)
theorem Zwn (a0:List Int) (a1:Term) (a2:ZMw)  {K:ZMw→Prop} (h:Zhu a0 a1 a2 K) (w0:World) (q0:TInts.rep a0 [u0_0] fp0 w0) (q2:ZNg.rep a2 [u2_0] fp2 w0) :
  Calls ZMx 175 #[u0_0,.agg (ZHu (ZM5 a1)),.agg #[u2_0]] w0 λe w'=>∃ (r0:ZMw) (z0_0:Value) (ax:List Nat),
   e=.returned (.agg #[z0_0])∧K r0∧(ZM8 (Y0 162) r0 [z0_0] ax).holds w'∧(∀ b,b∈ax→w0.heap.size≤b)∧Bel w0 w':=by
 unfold Zhu at h
 refine cof Tryz.func175 rfl 54 Tryz.ntmps175 ?_
 have B:=ZNf (X:=Nox) w0 [ZMt TInts a0 [u0_0] fp0,ZMt TForm a2 [u2_0] fp2] (alc q0 (al1 q2));have a5:=(B.getP 1 rfl);replace B:=B.derive 1 rfl (ZMt ZMv.ty.sl a2.terms [u2_0] fp2) (λ_=>(Y9 a5)) (λ_ a6=>a6)
 refine sr (Ya (v:=.agg (ZHu (ZM5 a1))) B (ZM5 a1) rfl rfl λb5 w7 G B=>Ya (v:=.agg #[u2_0]) B [u2_0] rfl rfl λb8 bd G B=>Yl B [.slice none 0 0] z55 rfl λal be G B=>dn (sr (J8 [] rfl (Zhn   _) (Yl B [.slice none 0 0] z55 rfl λag bh G B=>Zz (v:=.agg #[.slice none 0 0]) B 0 [.slice none 0 0] [.slice none 0 0] rfl ag55.size rfl rfl rfl rfl rfl (ZM2 rfl) rfl λbi B=>dn (ZMu (sr (Zc (v:=vI 0) rfl (dn (ZM0 ?_)))))))))
 refine X6 (S:=(List Term)×Int) _ (λA e_ w_=>∃ (L:Value),Zt e_ [(0,u0_0),(4,vQ b5),(5,vQ b8),(6,vQ al),(7,vQ ag),(8,vI A.2)]∧Ctx Nox w0 w_ [own 162 9 L A.1.length (ZMv.encs A.1),blk ag 55 [L],blk al 55 [.slice none 0 0],blk b8 55 [u2_0],blk b5 162 (ZM5 a1)] [ZMt ZMv.ty.sl a2.terms [u2_0] fp2,ZMt TInts a0 [u0_0] fp0,ZMt TForm a2 [u2_0] fp2]) ?_ (s0:=([],0)) ?_ h
 ·clear B h;rintro A e_ bj an bk ⟨L,ao,B⟩ h ap;rw [ue ao];refine ZMu (sr (Za (v:=vI A.2) rfl (Zu 0 ZM1 rfl sc53.size rfl rfl (Z5 B 3 (u2_0) rfl sc53 rfl rfl (Zw B 0 rfl ZM4 rfl (Zn rfl rfl (dn ?_)))))))
  refine Zp rfl (λaj=>?_) (λaj=>?_)
  ·replace h:=ift h (ct aj);refine ZMy (Zd (ZMu (ZM0 (ZMu ?_))))
   refine cwd 14 Yh [0,0,2,0,8,0,56,120,248,511,1023,2047,2047,0,12287,32767] [2,4,6,8] [0,1,3,5,7,10,11,12] (λae I bl G=>?_)
   replace B:=B.grow G;refine bM 0 (u0_0) rfl I (Zb 16 1) (bF 1 (vQ b5) rfl rfl I (λ_=>by exact Yk 0 ZNa rfl ag136.size rfl rfl) (Zb 16 3) (bL 2 (.agg (ZHu (ZMs .u8 a1.mono))) rfl rfl ae (λ_ G=>by exact Xa (B.grow G) 4 (ZMs .u8 a1.mono) rfl ag136 rfl rfl rfl) (Zb 16 7) (bF 3 (vQ b8) rfl rfl I (λ_=>by exact Yk 0 ZM1 rfl sc53.size rfl rfl) (Zb 16 15) (bL 4 (u2_0) rfl rfl ae (λ_ G=>by exact Yc (B.grow G) 3 (u2_0) rfl sc53 rfl rfl) (Zb 16 31) (bM 5 (vI A.2) rfl I (Zb 16 63) ?_)))))
   obtain ⟨⟨a7,a8⟩,h⟩:=h;obtain ⟨aq,bm,ar⟩:=Zx (B.getP 0 rfl) A.2.toNat (show A.2.toNat < a2.terms.length by omega)
   refine bL 6 (.pointer (some (aq.add (A.2.toNat * 9)))) rfl rfl ae (λ_ G=>by exact Y1 (len:=a2.terms.length) ZM4 ag162.size (by exact tr rfl ar) rfl a7 a8) (Zb 16 127) (bF 7 (.pointer (some (aq.add (A.2.toNat * 9+0)))) rfl rfl I (λ_=>by exact Za1 (A.2.toNat * 9+0) ZNa rfl ag136.size rfl rfl) (Zb 16 255) (bL 8 (.agg (ZHu (ZMs .u8 ((a2.terms.getD A.2.toNat ZEu).mono)))) rfl rfl ae (λ_ G=>by exact Jr (ZMs .u8 ((a2.terms.getD A.2.toNat ZEu).mono)) (Jz (o:=0) (k:=8) (Ye ((B.grow G).getP 0 rfl) ar A.2.toNat (show A.2.toNat < a2.terms.length by omega)) rfl) ag136 rfl rfl) (Zb 16 511) ?_))
   refine Zdr (λe_ w_=>∃ (au:Nat),∃ (O:A8),∃ (aa:Int),Zt e_ [(0,u0_0),(4,vQ b5),(5,vQ b8),(6,vQ al),(7,vQ ag),(8,vI A.2),(9,vQ au),(10,vI aa)]∧Ctx Nox w0 w_ [blk au 136 (ZMs .u8 O),own 162 9 L A.1.length (ZMv.encs A.1),blk ag 55 [L],blk al 55 [.slice none 0 0],blk b8 55 [u2_0],blk b5 162 (ZM5 a1)] [ZMt ZMv.ty.sl a2.terms [u2_0] fp2,ZMt TInts a0 [u0_0] fp0,ZMt TForm a2 [u2_0] fp2]∧(if aa≠0 then((0≤A.2∧A.2 < (a2.terms.length:Int))∧X8 (ZHf.wrap ((ZHf.wrap (aa * a1.factor)) * ((a2.terms.getD A.2.toNat ZEu).factor))) (λU=>(Z4 (A.1.length+1) 16∧an (A.1++[(⟨O,U⟩:Term)],ZHf.wrap (A.2+1))))) else an (A.1,ZHf.wrap (A.2+1)))) ?_ ?_
   ·clear B h;rintro e_ bn ⟨au,O,aa,ao,B,h⟩;rw [ue ao];refine Zd (sr (Za (v:=vI aa) rfl (Y2 rfl rfl (dn ?_))))
    refine Zp rfl (λak=>?_) (λak=>?_)
    ·replace h:=ift h (ct ak);refine cwd 17 Yh [0,1,0,0,0,16,56,0,128,0,896,1920,3968,8184,16376,32764,65532,131071,262143,524287] [1,2,5,8,10,12,15] [0,3,4,6,7,9,11,13] (λab V bo G=>?_)
     replace B:=B.grow G;refine bF 0 (vQ ag) rfl rfl V (λ_=>by exact Yk 0 ZM1 rfl sc53.size rfl rfl) (Zb 20 1) (bL 1 (L) rfl rfl ab (λ_ G=>by exact Yc (B.grow G) 2 (L) rfl sc53 rfl rfl) (Zb 20 3) (bL 2 (.agg (ZHu (ZMs .u8 O))) rfl rfl ab (λ_ G=>by exact Xa (B.grow G) 0 (ZMs .u8 O) rfl ag136 rfl rfl rfl) (Zb 20 7) (bM 3 (vI aa) rfl V (Zb 20 15) (bF 4 (.pointer (some ⟨b5,8,none⟩)) rfl rfl V (λ_=>by exact Yk 8 ZNa rfl sc2.size rfl rfl) (Zb 20 31) (bL 5 (vI a1.factor) rfl rfl ab (λ_ G=>by exact Yc (B.grow G) 5 (vI a1.factor) rfl sc2 rfl rfl) (Zb 20 63) (bF 6 (vI (ZHf.wrap (aa * a1.factor))) rfl rfl V (λ_=>by exact Zcy rfl rfl) (Zb 20 127) (bF 7 (vQ b8) rfl rfl V (λ_=>by exact Yk 0 ZM1 rfl sc53.size rfl rfl) (Zb 20 255) (bL 8 (u2_0) rfl rfl ab (λ_ G=>by exact Yc (B.grow G) 4 (u2_0) rfl sc53 rfl rfl) (Zb 20 511) (bM 9 (vI A.2) rfl V (Zb 20 1023) ?_)))))))))
     obtain ⟨⟨a9,ba⟩,h⟩:=h;obtain ⟨av,bp,aw⟩:=Zx (B.getP 0 rfl) A.2.toNat (show A.2.toNat < a2.terms.length by omega)
     refine bL 10 (.pointer (some (av.add (A.2.toNat * 9)))) rfl rfl ab (λ_ G=>by exact Y1 (len:=a2.terms.length) ZM4 ag162.size (by exact tr rfl aw) rfl a9 ba) (Zb 20 2047) (bF 11 (.pointer (some (av.add (A.2.toNat * 9+8)))) rfl rfl V (λ_=>by exact Za1 (A.2.toNat * 9+8) ZNa rfl sc2.size rfl rfl) (Zb 20 4095) (bL 12 (vI ((a2.terms.getD A.2.toNat ZEu).factor)) rfl rfl ab (λ_ G=>by exact Xh (vI ((a2.terms.getD A.2.toNat ZEu).factor)) (Jz (o:=8) (k:=1) (Ye ((B.grow G).getP 0 rfl) aw A.2.toNat (show A.2.toNat < a2.terms.length by omega)) rfl) sc2 rfl) (Zb 20 8191) (bF 13 (vI (ZHf.wrap ((ZHf.wrap (aa * a1.factor)) * ((a2.terms.getD A.2.toNat ZEu).factor)))) rfl rfl V (λ_=>by exact Zcy rfl rfl) (Zb 20 16383) (aO 14 rfl (Zf [vI (ZHf.wrap ((ZHf.wrap (aa * a1.factor)) * ((a2.terms.getD A.2.toNat ZEu).factor)))] _ ZNk rfl rfl rfl (Zbo (ZHf.wrap ((ZHf.wrap (aa * a1.factor)) * ((a2.terms.getD A.2.toNat ZEu).factor))) h _) ?_)))))
     rintro _ bq ⟨U,rfl,h,ay⟩;refine rt ?_
     replace B:=B.grow ay;refine done (aK (by assumption) (Zb 20 32767) (bL 15 (.agg (ZHu (ZM5 (⟨O,U⟩:Term)))) rfl rfl ab (λ_ G=>by exact Zlw [(0,.agg (ZHu (ZMs .u8 O))),(1,vI U)] rfl (Zkb O U  _)) (Zb 20 65535) (aO 16 rfl (Yn (sz:=9) B [(0,.agg (ZHu (ZM5 (⟨O,U⟩:Term))))] (ZMv.encs [(⟨O,U⟩:Term)]) rfl (λ_=>Zho (⟨O,U⟩:Term) _) rfl (by decide) λbr bs G B=>done (aK (by assumption) (Zb 20 131071) (Z0 17 (by decide) (by decide) (by kernel_rfl) (by kernel_rfl) rfl ?_))))))
     obtain ⟨az,h⟩:=h;refine X1 B 2 ZM4 Zhp rfl (by decide) (by decide) rfl (Zav (B.getM 0 rfl)) (λq hq=>ZNz (E:=ETerm) _ q hq) rfl rfl az λam bt B=>?_
     replace B:=Y7 B 2 ((A.1++[(⟨O,U⟩:Term)]).length) (ZMv.encs (A.1++[(⟨O,U⟩:Term)])) rfl (by simp) (by first | (simp [ZNm]; done) | simp [ZNm,Enc.encs])
     refine Zu 0 ZM1 rfl sc53.size rfl rfl (Zz (v:=am) B 3 [am] [am] rfl sc53.size rfl rfl (Zcg (B.getM 2 rfl)) rfl (Xr (X4 (B.getM 2 rfl)) rfl) (ZM2 rfl) rfl λbu B=>done (Z1 (Zq (Zd (Zj (Za (v:=vI A.2) rfl (Zo rfl rfl (Zc (v:=vI (ZHf.wrap (A.2+1))) rfl (done ?_)))))))))
     exact ap (A.1++[(⟨O,U⟩:Term)],ZHf.wrap (A.2+1)) _ _ ⟨am,(slq rfl),(B.xM [2,3,4,5,6] rfl)⟩ h
    ·replace h:=Zm h (cf ak);refine ZMy (Zq (Zd (Zj (Za (v:=vI A.2) rfl (Zo rfl rfl (Zc (v:=vI (ZHf.wrap (A.2+1))) rfl (done ?_)))))))
     exact ap (A.1,ZHf.wrap (A.2+1)) _ _ ⟨L,(slq rfl),(B.xM [1,2,3,4,5] rfl)⟩ h
   refine Jy 9 13 rfl rfl (by kernel_rfl) ?_ ?_
   ·skip;refine Zf [u0_0,.agg (ZHu (ZMs .u8 a1.mono)),.agg (ZHu (ZMs .u8 ((a2.terms.getD A.2.toNat ZEu).mono)))] _ ZN6 rfl rfl rfl (Zqe a0 a1.mono ((a2.terms.getD A.2.toNat ZEu).mono) h _ (B.getP 1 rfl)) ?_
    rintro _ bv ⟨ac,ah,rfl,h,a3⟩;refine rt ?_
    replace B:=B.grow a3;refine done (aK (by assumption) (Zb 16 1023) (bM 10 (.tuple #[.agg (ZHu (ZMs .u8 ac)),vI ah]) rfl I (Zb 16 2047) (bF 11 (.agg (ZHu (ZMs .u8 ac))) rfl rfl I (λ_=>by exact Zce (v:=.agg (ZHu (ZMs .u8 ac))) rfl rfl) (Zb 16 4095) (bF 12 (vI ah) rfl rfl I (λ_=>by exact Zce (v:=vI ah) rfl rfl) (Zb 16 8191) (aO 13 rfl (Yl B (ZMs .u8 ZMz) Zbn rfl λbb bw G B=>done (aK (by assumption) (Zb 16 16383) (aO 14 rfl (Zz (v:=.agg (ZHu (ZMs .u8 ac))) B 0 (ZMs .u8 ac) (ZMs .u8 ac) rfl ag136.size rfl rfl rfl rfl rfl (ZM2 rfl) rfl λbx B=>done (Jc (by decide) (l9:=(Zb 16 32767)) (by kernel_rfl) (Z0 15 (by decide) (by decide) (by kernel_rfl) (by kernel_rfl) rfl (Zc (v:=vI ah) rfl (done (Z1 ?_))))))))))))))
    exact⟨rfl,_,rfl,⟨bb,ac,ah,(slq rfl),B,h⟩⟩
   ·skip;refine Yl B (ZMs .u8 ZMz) Zbn rfl λbc bz G B=>done (aK (by assumption) (Zb 16 8703) (aO 9 rfl (Zf [u0_0,.agg (ZHu (ZMs .u8 a1.mono)),.agg (ZHu (ZMs .u8 ((a2.terms.getD A.2.toNat ZEu).mono)))] _ ZN6 rfl rfl rfl (Zqe a0 a1.mono ((a2.terms.getD A.2.toNat ZEu).mono) h _ (B.getP 1 rfl)) ?_)))
    rintro _ b9 ⟨ad,ai,rfl,h,a4⟩;refine rt ?_
    replace B:=B.grow a4;refine done (aK (by assumption) (Zb 16 9215) (bM 10 (.tuple #[.agg (ZHu (ZMs .u8 ad)),vI ai]) rfl I (Zb 16 10239) (bF 11 (.agg (ZHu (ZMs .u8 ad))) rfl rfl I (λ_=>by exact Zce (v:=.agg (ZHu (ZMs .u8 ad))) rfl rfl) (Zb 16 12287) (bF 12 (vI ai) rfl rfl I (λ_=>by exact Zce (v:=vI ai) rfl rfl) (Zb 16 16383) (aO 14 rfl (Zz (v:=.agg (ZHu (ZMs .u8 ad))) B 0 (ZMs .u8 ad) (ZMs .u8 ad) rfl ag136.size rfl rfl rfl rfl rfl (ZM2 rfl) rfl λca B=>done (Jc (by decide) (l9:=(Zb 16 32767)) (by kernel_rfl) (Z0 15 (by decide) (by decide) (by kernel_rfl) (by kernel_rfl) rfl (Zc (v:=vI ai) rfl (done (Z1 ?_)))))))))))
    exact⟨rfl,_,rfl,⟨bc,ad,ai,(slq rfl),B,h⟩⟩
  ·replace h:=Zm h (cf aj);refine ZM9 (Zk (Zk (Zy ?_)))
   refine Zd (sr (Yb B 1 [L] rfl ag55 rfl rfl rfl (Zz (v:=.agg #[L]) B 2 [L] [L] rfl ag55.size rfl rfl rfl rfl (Xr (X4 (B.getM 0 rfl)) rfl) (ZM2 rfl) rfl λcb B=>dn (ZM3 ?_))))
   exact Zi rfl (Zag B 2 rfl ag55 rfl rfl) ⟨(⟨A.1⟩:ZMw),L,(ZNu (ZFo L)),rfl,h,(Zc5 (Xx (B.getM 0 rfl))),(Yt B 0 rfl),B.below⟩ (.inl rfl)
 ·skip;replace B:=B.pushNil 162 9;exact⟨.slice none 0 0,(slq rfl),B⟩
def Zai (I:List Int) (O:ZMw) (L:ZMw) (K:ZMw→Prop):Prop :=
 Xt (λ(h:(List Term)×Int) A=>(if h.2 < (O.terms.length:Int) then((0≤h.2∧h.2 < (O.terms.length:Int))∧Zhu I (O.terms.getD h.2.toNat ZEu) L (λB=>Zbd (⟨h.1⟩:ZMw) B 1 (λG=>A (G.terms,ZHf.wrap (h.2+1))))) else K (⟨h.1⟩:ZMw))) ([],0)
theorem Zd0 (a0:List Int) (a1:ZMw) (a2:ZMw)  {K:ZMw→Prop} (h:Zai a0 a1 a2 K) (w0:World) (q0:TInts.rep a0 [u0_0] fp0 w0) (q1:ZNg.rep a1 [u1_0] fp1 w0) (q2:ZNg.rep a2 [u2_0] fp2 w0) :
  Calls ZMx 123 #[u0_0,.agg #[u1_0],.agg #[u2_0]] w0 λe w'=>∃ (r0:ZMw) (z0_0:Value) (ag:List Nat),
   e=.returned (.agg #[z0_0])∧K r0∧(ZM8 (Y0 162) r0 [z0_0] ag).holds w'∧(∀ b,b∈ag→w0.heap.size≤b)∧Bel w0 w':=by
 unfold Zai at h
 refine cof ZNl rfl 28 Tryz.ntmps123 ?_
 have A:=ZNf (X:=Nox) w0 [ZMt TInts a0 [u0_0] fp0,ZMt TForm a1 [u1_0] fp1,ZMt TForm a2 [u2_0] fp2] (alc q0 (alc q1 (al1 q2)));have ay:=(A.getP 1 rfl);replace A:=A.derive 1 rfl (ZMt ZMv.ty.sl a1.terms [u1_0] fp1) (λ_=>(Y9 ay)) (λ_ ac=>ac)
 have az:=(A.getP 3 rfl);replace A:=A.derive 3 rfl (ZMt ZMv.ty.sl a2.terms [u2_0] fp2) (λ_=>(Y9 az)) (λ_ ac=>ac)
 refine sr (Ya (v:=.agg #[u1_0]) A [u1_0] rfl rfl λb8 a9 G A=>Ya (v:=.agg #[u2_0]) A [u2_0] rfl rfl λah ba G A=>Yl A [.slice none 0 0] z55 rfl λai bb G A=>dn (sr (J8 [] rfl (Zhn   _) (Yl A [.slice none 0 0] z55 rfl λaj bc G A=>Zz (v:=.agg #[.slice none 0 0]) A 0 [.slice none 0 0] [.slice none 0 0] rfl ag55.size rfl rfl rfl rfl rfl (ZM2 rfl) rfl λbd A=>dn (ZMu (sr (Zc (v:=vI 0) rfl (dn (ZM0 ?_)))))))))
 refine X6 (S:=(List Term)×Int) _ (λB e_ w_=>∃ (I:Value),Zt e_ [(0,u0_0),(4,vQ b8),(5,vQ ah),(6,vQ ai),(7,vQ aj),(8,vI B.2)]∧Ctx Nox w0 w_ [own 162 9 I B.1.length (ZMv.encs B.1),blk aj 55 [I],blk ai 55 [.slice none 0 0],blk ah 55 [u2_0],blk b8 55 [u1_0]] [ZMt ZMv.ty.sl a2.terms [u2_0] fp2,ZMt ZMv.ty.sl a1.terms [u1_0] fp1,ZMt TInts a0 [u0_0] fp0,ZMt TForm a1 [u1_0] fp1,ZMt TForm a2 [u2_0] fp2]) ?_ (s0:=([],0)) ?_ h
 ·clear A h;rintro B e_ be a8 bh ⟨I,a3,A⟩ h ak;rw [ue a3];refine ZMu (sr (Za (v:=vI B.2) rfl (Zu 0 ZM1 rfl sc53.size rfl rfl (Z5 A 4 (u1_0) rfl sc53 rfl rfl (Zw A 1 rfl ZM4 rfl (Zn rfl rfl (dn ?_)))))))
  refine Zp rfl (λU=>?_) (λU=>?_)
  ·replace h:=ift h (ct U);refine ZMy (Zd (ZMu (ZM0 ?_)))
   refine cwd 9 Yh [0,0,0,4,0,28,60,0,254,511,1023] [0,3,5,6,7] [1,2,4] (λL V bi G=>?_)
   replace A:=A.grow G;refine bL 0 (.agg #[I]) rfl rfl L (λ_ G=>by exact Xa (A.grow G) 1 [I] rfl ag55 rfl rfl rfl) (Zb 11 1) (bM 1 (u0_0) rfl V (Zb 11 3) (bF 2 (vQ b8) rfl rfl V (λ_=>by exact Yk 0 ZM1 rfl sc53.size rfl rfl) (Zb 11 7) (bL 3 (u1_0) rfl rfl L (λ_ G=>by exact Yc (A.grow G) 4 (u1_0) rfl sc53 rfl rfl) (Zb 11 15) (bM 4 (vI B.2) rfl V (Zb 11 31) ?_))))
   obtain ⟨⟨a4,a5⟩,h⟩:=h;obtain ⟨al,bj,ad⟩:=Zx (A.getP 1 rfl) B.2.toNat (show B.2.toNat < a1.terms.length by omega)
   refine bL 5 (.pointer (some (al.add (B.2.toNat * 9)))) rfl rfl L (λ_ G=>by exact Y1 (len:=a1.terms.length) ZM4 ag162.size (by exact tr rfl ad) rfl a4 a5) (Zb 11 63) (bL 6 (.agg (ZHu (ZM5 (a1.terms.getD B.2.toNat ZEu)))) rfl rfl L (λ_ G=>by exact Jr (ZM5 (a1.terms.getD B.2.toNat ZEu)) (Ye ((A.grow G).getP 1 rfl) ad B.2.toNat (show B.2.toNat < a1.terms.length by omega)) ag162 rfl rfl) (Zb 11 127) (bL 7 (.agg #[u2_0]) rfl rfl L (λ_ G=>by exact Xa (A.grow G) 3 [u2_0] rfl ag55 rfl rfl rfl) (Zb 11 255) (aO 8 rfl (Zf [u0_0,.agg (ZHu (ZM5 (a1.terms.getD B.2.toNat ZEu))),.agg #[u2_0]] _ Tryz.func175 rfl rfl rfl (Zwn a0 (a1.terms.getD B.2.toNat ZEu) a2 h _ (A.getP 2 rfl) (Yi (A.getP 0 rfl))) ?_))))
   rintro _ bk ⟨aa,ae,a6,rfl,h,am,an,ao⟩;refine rt ?_
   replace A:=A.push ao (ZM8 (Y0 162) aa [ae] a6) am an;obtain ⟨ap,aq⟩:=X7 (A.getM 0 rfl);subst aq;replace A:=A.recast (c:=own 162 9 ae aa.terms.length (ZMv.encs aa.terms)) (λ_ h_=>h_) (λ_=>ap)
   refine done (aK (by assumption) (Zb 11 511) (Z0 9 (by decide) (by decide) (by kernel_rfl) (by kernel_rfl) rfl (Zf [.agg #[I],.agg #[ae],vI 1] _ ZNy rfl rfl rfl (Zmu (⟨B.1⟩:ZMw) aa 1 h _ (Yi (Ym (A.getM 1 rfl))) (Yi (Ym (A.getM 0 rfl)))) ?_)))
   rintro _ bl ⟨ab,O,a7,rfl,h,ar,au,av⟩;refine rt ?_
   replace A:=A.push av (ZM8 (Y0 162) ab [O] a7) ar au;obtain ⟨aw,ax⟩:=X7 (A.getM 0 rfl);subst ax;replace A:=A.recast (c:=own 162 9 O ab.terms.length (ZMv.encs ab.terms)) (λ_ h_=>h_) (λ_=>aw)
   refine Zz (v:=.agg #[O]) A 3 [O] [O] rfl ag55.size rfl rfl rfl rfl (Xr (X4 (A.getM 0 rfl)) rfl) (ZM2 rfl) rfl λbm A=>done (Z1 (Zq (Zd (Zj (Za (v:=vI B.2) rfl (Zo rfl rfl (Zc (v:=vI (ZHf.wrap (B.2+1))) rfl (done ?_))))))))
   exact ak (ab.terms,ZHf.wrap (B.2+1)) _ _ ⟨O,(slq rfl),(A.xM [0,3,4,5,6] rfl)⟩ h
  ·replace h:=Zm h (cf U);refine ZM9 (Zk (Zk (Zy ?_)))
   refine Zd (sr (Yb A 1 [I] rfl ag55 rfl rfl rfl (Zz (v:=.agg #[I]) A 2 [I] [I] rfl ag55.size rfl rfl rfl rfl (Xr (X4 (A.getM 0 rfl)) rfl) (ZM2 rfl) rfl λbn A=>dn (ZM3 ?_))))
   exact Zi rfl (Zag A 2 rfl ag55 rfl rfl) ⟨(⟨B.1⟩:ZMw),I,(ZNu (ZFo I)),rfl,h,(Zc5 (Xx (A.getM 0 rfl))),(Yt A 0 rfl),A.below⟩ (.inl rfl)
 ·skip;replace A:=A.pushNil 162 9;exact⟨.slice none 0 0,(slq rfl),A⟩
def Zfx (L:List Int) (O:ZMw) (K:Bool→Prop):Prop :=
 Xt (λ(h:Int) A=>(if h < (O.terms.length:Int) then((0≤h∧h < (O.terms.length:Int))∧Zhs L ((O.terms.getD h.toNat ZEu).mono) (λB=>(if¬ (B=true) then K false else Zes ((O.terms.getD h.toNat ZEu).factor) 1 10006 (λG=>(if¬ (G=true) then K false else(if h > 0 then((0≤ZHf.wrap (h - 1)∧ZHf.wrap (h - 1) < (O.terms.length:Int))∧Zet ((O.terms.getD ((ZHf.wrap (h - 1)).toNat) ZEu).mono) ((O.terms.getD h.toNat ZEu).mono) (λI=>(if¬ (I=true) then K false else A (ZHf.wrap (h+1))))) else A (ZHf.wrap (h+1)))))))) else K (decide ((O.terms.length:Int)≤400)))) 0
theorem Zqf (a0:List Int) (a1:ZMw)  {K:Bool→Prop} (h:Zfx a0 a1 K) (w0:World) (q0:TInts.rep a0 [u0_0] fp0 w0) (q1:ZNg.rep a1 [u1_0] fp1 w0) :
  Calls ZMx 120 #[u0_0,.agg #[u1_0]] w0 λe w'=>∃ (r0:Bool),
   e=.returned (.bool r0)∧K r0∧Bel w0 w':=by
 unfold Zfx at h
 refine cof Tryz.func120 rfl 51 Tryz.ntmps120 ?_
 have I:=ZNf (X:=Nox) w0 [ZMt TInts a0 [u0_0] fp0,ZMt TForm a1 [u1_0] fp1] (alc q0 (al1 q1));have ap:=(I.getP 1 rfl);replace I:=I.derive 1 rfl (ZMt ZMv.ty.sl a1.terms [u1_0] fp1) (λ_=>(Y9 ap)) (λ_ aq=>aq)
 refine sr (Ya (v:=.agg #[u1_0]) I [u1_0] rfl rfl λb5 w7 V I=>Zc (v:=.bool false) rfl (dn (ZMu (sr (Zc (v:=vI 0) rfl (dn (ZM0 ?_)))))))
 refine X6 (S:=Int) _ (λB e_ L=>Zt e_ [(0,u0_0),(3,vQ b5),(5,vI B)]∧Ctx Nox w0 L [blk b5 55 [u1_0]] [ZMt ZMv.ty.sl a1.terms [u1_0] fp1,ZMt TInts a0 [u0_0] fp0,ZMt TForm a1 [u1_0] fp1]) ?_ (s0:=0) ?_ h
 ·clear I h;rintro B e_ a2 ay a3 ⟨ar,I⟩ h ae;rw [ue ar];refine ZMu (sr (Za (v:=vI B) rfl (Zu 0 ZM1 rfl sc53.size rfl rfl (Z5 I 0 (u1_0) rfl sc53 rfl rfl (Zw I 0 rfl ZM4 rfl (Zn rfl rfl (dn ?_)))))))
  refine Zp rfl (λac=>?_) (λac=>?_)
  ·replace h:=ift h (ct ac);refine ZMy (Zd (ZMu (ZM0 (sr (Zu 0 ZM1 rfl sc53.size rfl rfl (Z5 I 0 (u1_0) rfl sc53 rfl rfl (Za (v:=vI B) rfl ?_)))))))
   obtain ⟨⟨au,av⟩,h⟩:=h;obtain ⟨az,a4,ag⟩:=Zx (I.getP 0 rfl) B.toNat (show B.toNat < a1.terms.length by omega)
   refine Ys (len:=a1.terms.length) ZM4 ag162.size (tr rfl ag) rfl au av (Je (ZM5 (a1.terms.getD B.toNat ZEu)) (Ye (I.getP 0 rfl) ag B.toNat (show B.toNat < a1.terms.length by omega)) ag162 rfl rfl (Yl I (ZM5 (⟨ZMz,0⟩:Term)) Zfw rfl λah a5 V I=>Zz (v:=.agg (ZHu (ZM5 (a1.terms.getD B.toNat ZEu)))) I 0 (ZM5 (a1.terms.getD B.toNat ZEu)) (ZM5 (a1.terms.getD B.toNat ZEu)) rfl ag162.size rfl rfl rfl rfl rfl (ZM2 rfl) rfl λa6 I=>dn (ZMu ?_)))
   refine cwd 24 Yh [0,0,2,7,15,31,63,127,255,511,1023,2047,4095,8191,16383,32767,65535,32767,163839,524287,1048575,2097151,32767,4227071,16777215,33554431,67108863,134217727] [2,7,16,19,21,23] [0,1,4,5,6,7,8,9,10,11,12,13,14,15,16,17,18,19,20,21,22,23] (λaa A a7 V=>?_)
   replace I:=I.grow V;refine bM 0 (u0_0) rfl A (Zb 28 1) (bF 1 (vQ ah) rfl rfl A (λ_=>by exact Yk 0 ZNa rfl ag136.size rfl rfl) (Zb 28 3) (bL 2 (.agg (ZHu (ZMs .u8 ((a1.terms.getD B.toNat ZEu).mono)))) rfl rfl aa (λ_ V=>by exact Xa (I.grow V) 0 (ZMs .u8 ((a1.terms.getD B.toNat ZEu).mono)) rfl ag136 rfl rfl rfl) (Zb 28 7) (aO 3 rfl (Zf [u0_0,.agg (ZHu (ZMs .u8 ((a1.terms.getD B.toNat ZEu).mono)))] _ Tryz.func173 rfl rfl rfl (Zwm a0 ((a1.terms.getD B.toNat ZEu).mono) h _ (I.getP 1 rfl)) ?_))))
   rintro _ a8 ⟨ai,rfl,h,am⟩;refine rt ?_
   replace I:=I.grow am;refine done (aK (by assumption) (Zb 28 15) (bF 4 (.bool (!ai)) rfl rfl A (λ_=>by exact Zlv rfl) (Zb 28 31) (bM 5 (.bool (!ai)) rfl A (Zb 28 63) ?_)))
   refine Y6 (!ai) (λU=>?_) (λU=>?_)
   ·replace h:=ift h (Yz (Xi U));refine Zr Zv 6 undef rfl rfl (by kernel_rfl) (A 6 rfl) (λL=>.inr ⟨Yd (b:=true) 5 24 rfl (tr rfl (congrArg _ U)) (by decide),rfl⟩) (l9:=(Zb 28 127)) (by kernel_rfl) (Zr Zv 7 undef rfl rfl (by kernel_rfl) (A 7 rfl) (λL=>.inr ⟨Yd (b:=true) 5 24 rfl (tr rfl (congrArg _ U)) (by decide),rfl⟩) (l9:=(Zb 28 255)) (by kernel_rfl) (Zr Zv 8 undef rfl rfl (by kernel_rfl) (A 8 rfl) (λL=>.inr ⟨Yd (b:=true) 5 24 rfl (tr rfl (congrArg _ U)) (by decide),rfl⟩) (l9:=(Zb 28 511)) (by kernel_rfl) (Zr Zv 9 undef rfl rfl (by kernel_rfl) (A 9 rfl) (λL=>.inr ⟨Yd (b:=true) 5 24 rfl (tr rfl (congrArg _ U)) (by decide),rfl⟩) (l9:=(Zb 28 1023)) (by kernel_rfl) (bF 10 (.bool true) rfl rfl A (λ_=>by exact Zo5 (v:=.bool true) (b:=true) (by exact tr rfl (congrArg _ U)) rfl) (Zb 28 2047) (bM 11 (.bool true) rfl A (Zb 28 4095) (Zr Zv 12 undef rfl rfl (by kernel_rfl) (A 12 rfl) (λL=>.inr ⟨Yd (b:=true) 11 30 rfl (tr rfl (congrArg _ rfl)) (by decide),rfl⟩) (l9:=(Zb 28 8191)) (by kernel_rfl) (Zr Zv 13 undef rfl rfl (by kernel_rfl) (A 13 rfl) (λL=>.inr ⟨Yd (b:=true) 11 30 rfl (tr rfl (congrArg _ rfl)) (by decide),rfl⟩) (l9:=(Zb 28 16383)) (by kernel_rfl) (Zr Zv 14 undef rfl rfl (by kernel_rfl) (A 14 rfl) (λL=>.inr ⟨Yd (b:=true) 11 30 rfl (tr rfl (congrArg _ rfl)) (by decide),rfl⟩) (l9:=(Zb 28 32767)) (by kernel_rfl) (Zr Zv 15 undef rfl rfl (by kernel_rfl) (A 15 rfl) (λL=>.inr ⟨Xz 14 33 rfl rfl,rfl⟩) (l9:=(Zb 28 65535)) (by kernel_rfl) (Zr Zv 16 undef rfl rfl (by kernel_rfl) (A 16 rfl) (λL=>.inr ⟨Xz 14 33 rfl rfl,rfl⟩) (l9:=(Zb 28 131071)) (by kernel_rfl) (Zr Zv 17 undef rfl rfl (by kernel_rfl) (A 17 rfl) (λL=>.inr ⟨Xz 14 33 rfl rfl,rfl⟩) (l9:=(Zb 28 262143)) (by kernel_rfl) (Zr Zv 18 undef rfl rfl (by kernel_rfl) (A 18 rfl) (λL=>.inr ⟨Xz 14 33 rfl rfl,rfl⟩) (l9:=(Zb 28 524287)) (by kernel_rfl) (Zr Zv 19 undef rfl rfl (by kernel_rfl) (A 19 rfl) (λL=>.inr ⟨Xz 14 33 rfl rfl,rfl⟩) (l9:=(Zb 28 1048575)) (by kernel_rfl) (Zr Zv 20 undef rfl rfl (by kernel_rfl) (A 20 rfl) (λL=>.inr ⟨Xz 14 33 rfl rfl,rfl⟩) (l9:=(Zb 28 2097151)) (by kernel_rfl) (Zr Zv 21 undef rfl rfl (by kernel_rfl) (A 21 rfl) (λL=>.inr ⟨Xz 14 33 rfl rfl,rfl⟩) (l9:=(Zb 28 4194303)) (by kernel_rfl) (Zr Zv 22 undef rfl rfl (by kernel_rfl) (A 22 rfl) (λL=>.inr ⟨Xz 14 33 rfl rfl,rfl⟩) (l9:=(Zb 28 8388607)) (by kernel_rfl) (Zr Zv 23 undef rfl rfl (by kernel_rfl) (A 23 rfl) (λL=>.inr ⟨Xz 14 33 rfl rfl,rfl⟩) (l9:=(Zb 28 16777215)) (by kernel_rfl) (Z0 24 (by decide) (by decide) (by kernel_rfl) (by kernel_rfl) rfl (Yq 14 33 rfl rfl (Yq 14 33 rfl rfl (Zg (b:=true) 11 30 rfl (tr rfl (congrArg _ rfl)) (by decide) (Zs (v:=.bool true) (b:=true) rfl rfl (done (Z1 (Zd (Z3 rfl rfl (sr (Zc (v:=.bool false) rfl (dn ?_)))))))))))))))))))))))))))))
    refine ZM3 (Z8 (Zl (Zl (Z8 (Zl ?_)))))
    exact Zi rfl (Ze rfl) ⟨false,rfl,h,I.below⟩ (.inl rfl)
   ·replace h:=Zm h (not_not_intro ((Xj U)));refine aF 6 (.pointer (some ⟨ah,8,none⟩)) rfl rfl (A 6 rfl) (Yg 5 24 rfl rfl U) (λ_=>by exact Yk 8 ZNa rfl sc2.size rfl rfl) (Zb 28 127) (aL 7 (vI ((a1.terms.getD B.toNat ZEu).factor)) rfl rfl (aa 7 rfl) (Yg 5 24 rfl rfl U) (λ_ V=>by exact Yc (I.grow V) 0 (vI ((a1.terms.getD B.toNat ZEu).factor)) rfl sc2 rfl rfl) (Zb 28 255) (aO 8 rfl (Zh 5 24 rfl rfl U (Zf [vI ((a1.terms.getD B.toNat ZEu).factor),vI 1,vI 10006] _ Tryz.func59 rfl rfl rfl (Zms ((a1.terms.getD B.toNat ZEu).factor) 1 10006 h _) ?_))))
    rintro _ a9 ⟨ab,rfl,h,an⟩;refine rt ?_
    replace I:=I.grow an;refine done (aK (by assumption) (Zb 28 511) (aF 9 (.bool (!ab)) rfl rfl (A 9 rfl) (Yg 5 24 rfl rfl U) (λ_=>by exact Zlv rfl) (Zb 28 1023) (bF 10 (.bool (!ab)) rfl rfl A (λ_=>by exact Zo5 (v:=.bool (!ab)) (b:=false) (by exact tr rfl (congrArg _ U)) rfl) (Zb 28 2047) (bM 11 (.bool (!ab)) rfl A (Zb 28 4095) ?_))))
    refine Y6 (!ab) (λO=>?_) (λO=>?_)
    ·replace h:=ift h (Yz (Xi O));refine Zr Zv 12 undef rfl rfl (by kernel_rfl) (A 12 rfl) (λL=>.inr ⟨Yd (b:=true) 11 30 rfl (tr rfl (congrArg _ O)) (by decide),rfl⟩) (l9:=(Zb 28 8191)) (by kernel_rfl) (Zr Zv 13 undef rfl rfl (by kernel_rfl) (A 13 rfl) (λL=>.inr ⟨Yd (b:=true) 11 30 rfl (tr rfl (congrArg _ O)) (by decide),rfl⟩) (l9:=(Zb 28 16383)) (by kernel_rfl) (Zr Zv 14 undef rfl rfl (by kernel_rfl) (A 14 rfl) (λL=>.inr ⟨Yd (b:=true) 11 30 rfl (tr rfl (congrArg _ O)) (by decide),rfl⟩) (l9:=(Zb 28 32767)) (by kernel_rfl) (Zr Zv 15 undef rfl rfl (by kernel_rfl) (A 15 rfl) (λL=>.inr ⟨Xz 14 33 rfl rfl,rfl⟩) (l9:=(Zb 28 65535)) (by kernel_rfl) (Zr Zv 16 undef rfl rfl (by kernel_rfl) (A 16 rfl) (λL=>.inr ⟨Xz 14 33 rfl rfl,rfl⟩) (l9:=(Zb 28 131071)) (by kernel_rfl) (Zr Zv 17 undef rfl rfl (by kernel_rfl) (A 17 rfl) (λL=>.inr ⟨Xz 14 33 rfl rfl,rfl⟩) (l9:=(Zb 28 262143)) (by kernel_rfl) (Zr Zv 18 undef rfl rfl (by kernel_rfl) (A 18 rfl) (λL=>.inr ⟨Xz 14 33 rfl rfl,rfl⟩) (l9:=(Zb 28 524287)) (by kernel_rfl) (Zr Zv 19 undef rfl rfl (by kernel_rfl) (A 19 rfl) (λL=>.inr ⟨Xz 14 33 rfl rfl,rfl⟩) (l9:=(Zb 28 1048575)) (by kernel_rfl) (Zr Zv 20 undef rfl rfl (by kernel_rfl) (A 20 rfl) (λL=>.inr ⟨Xz 14 33 rfl rfl,rfl⟩) (l9:=(Zb 28 2097151)) (by kernel_rfl) (Zr Zv 21 undef rfl rfl (by kernel_rfl) (A 21 rfl) (λL=>.inr ⟨Xz 14 33 rfl rfl,rfl⟩) (l9:=(Zb 28 4194303)) (by kernel_rfl) (Zr Zv 22 undef rfl rfl (by kernel_rfl) (A 22 rfl) (λL=>.inr ⟨Xz 14 33 rfl rfl,rfl⟩) (l9:=(Zb 28 8388607)) (by kernel_rfl) (Zr Zv 23 undef rfl rfl (by kernel_rfl) (A 23 rfl) (λL=>.inr ⟨Xz 14 33 rfl rfl,rfl⟩) (l9:=(Zb 28 16777215)) (by kernel_rfl) (Z0 24 (by decide) (by decide) (by kernel_rfl) (by kernel_rfl) rfl (Yq 14 33 rfl rfl (Yq 14 33 rfl rfl (Zg (b:=true) 11 30 rfl (tr rfl (congrArg _ O)) (by decide) (Zs (v:=.bool true) (b:=true) (tr rfl (congrArg _ O)) rfl (done (Z1 (Zd (Z3 rfl rfl (sr (Zc (v:=.bool false) rfl (dn ?_)))))))))))))))))))))))
     refine ZM3 (Z8 (Zl (Zl (Z8 (Zl ?_)))))
     exact Zi rfl (Ze rfl) ⟨false,rfl,h,I.below⟩ (.inl rfl)
    ·replace h:=Zm h (not_not_intro ((Xj O)));refine aF 12 (vI B) rfl rfl (A 12 rfl) (Yg 11 30 rfl rfl O) (λ_=>by exact Zau (v:=vI B) rfl) (Zb 28 8191) (aF 13 (.bool (decide (B > 0))) rfl rfl (A 13 rfl) (Yg 11 30 rfl rfl O) (λ_=>by exact Zpa rfl rfl) (Zb 28 16383) (aF 14 (.bool (decide (B > 0))) rfl rfl (A 14 rfl) (Yg 11 30 rfl rfl O) (λ_=>by exact Zau (v:=.bool (decide (B > 0))) rfl) (Zb 28 32767) ?_))
     refine Y6 (decide (B > 0)) (λG=>?_) (λG=>?_)
     ·replace h:=ift h (ct G);refine aF 15 (vQ b5) rfl rfl (A 15 rfl) (Yg 14 33 rfl rfl G) (λ_=>by exact Yk 0 ZM1 rfl sc53.size rfl rfl) (Zb 28 65535) (aL 16 (u1_0) rfl rfl (aa 16 rfl) (Yg 14 33 rfl rfl G) (λ_ V=>by exact Yc (I.grow V) 1 (u1_0) rfl sc53 rfl rfl) (Zb 28 131071) (aF 17 (vI B) rfl rfl (A 17 rfl) (Yg 14 33 rfl rfl G) (λ_=>by exact Zau (v:=vI B) rfl) (Zb 28 262143) (aF 18 (vI (ZHf.wrap (B - 1))) rfl rfl (A 18 rfl) (Yg 14 33 rfl rfl G) (λ_=>by exact Zha rfl rfl) (Zb 28 524287) ?_)))
      obtain ⟨⟨aw,ax⟩,h⟩:=h;obtain ⟨aj,ba,ak⟩:=Zx (I.getP 0 rfl) ((ZHf.wrap (B - 1)).toNat) (show (ZHf.wrap (B - 1)).toNat < a1.terms.length by omega)
      refine aL 19 (.pointer (some (aj.add ((ZHf.wrap (B - 1)).toNat * 9)))) rfl rfl (aa 19 rfl) (Yg 14 33 rfl rfl G) (λ_ V=>by exact Y1 (len:=a1.terms.length) ZM4 ag162.size (by exact tr rfl ak) rfl aw ax) (Zb 28 1048575) (aF 20 (.pointer (some (aj.add ((ZHf.wrap (B - 1)).toNat * 9+0)))) rfl rfl (A 20 rfl) (Yg 14 33 rfl rfl G) (λ_=>by exact Za1 ((ZHf.wrap (B - 1)).toNat * 9+0) ZNa rfl ag136.size rfl rfl) (Zb 28 2097151) (aL 21 (.agg (ZHu (ZMs .u8 ((a1.terms.getD ((ZHf.wrap (B - 1)).toNat) ZEu).mono)))) rfl rfl (aa 21 rfl) (Yg 14 33 rfl rfl G) (λ_ V=>by exact Jr (ZMs .u8 ((a1.terms.getD ((ZHf.wrap (B - 1)).toNat) ZEu).mono)) (Jz (o:=0) (k:=8) (Ye ((I.grow V).getP 0 rfl) ak ((ZHf.wrap (B - 1)).toNat) (show (ZHf.wrap (B - 1)).toNat < a1.terms.length by omega)) rfl) ag136 rfl rfl) (Zb 28 4194303) (aF 22 (vQ ah) rfl rfl (A 22 rfl) (Yg 14 33 rfl rfl G) (λ_=>by exact Yk 0 ZNa rfl ag136.size rfl rfl) (Zb 28 8388607) (aL 23 (.agg (ZHu (ZMs .u8 ((a1.terms.getD B.toNat ZEu).mono)))) rfl rfl (aa 23 rfl) (Yg 14 33 rfl rfl G) (λ_ V=>by exact Xa (I.grow V) 0 (ZMs .u8 ((a1.terms.getD B.toNat ZEu).mono)) rfl ag136 rfl rfl rfl) (Zb 28 16777215) (Z0 24 (by decide) (by decide) (by kernel_rfl) (by kernel_rfl) rfl (Zh 14 33 rfl rfl G (Zf [.agg (ZHu (ZMs .u8 ((a1.terms.getD ((ZHf.wrap (B - 1)).toNat) ZEu).mono))),.agg (ZHu (ZMs .u8 ((a1.terms.getD B.toNat ZEu).mono)))] _ ZNx rfl rfl rfl (Zmt ((a1.terms.getD ((ZHf.wrap (B - 1)).toNat) ZEu).mono) ((a1.terms.getD B.toNat ZEu).mono) h _) ?_)))))))
      rintro _ bb ⟨al,rfl,h,ao⟩;refine rt ?_
      replace I:=I.grow ao;refine Zh 14 33 rfl rfl G (Xe rfl (Zh 11 30 rfl rfl O (Zs (v:=.bool (!al)) (b:=true) (tr rfl (congrArg _ G)) rfl (Zs (v:=.bool (!al)) (b:=false) (tr rfl (congrArg _ O)) rfl (done (Z1 (Zd ?_)))))))
      refine Zp rfl (λad=>?_) (λad=>?_)
      ·replace h:=ift h (Yz (Xi ad));refine sr (Zc (v:=.bool false) rfl (dn ?_))
       refine ZM3 (Z8 (Zl (Zl (Z8 (Zl ?_)))))
       exact Zi rfl (Ze rfl) ⟨false,rfl,h,I.below⟩ (.inl rfl)
      ·replace h:=Zm h (not_not_intro ((Xj ad)));refine ZMy (Zq (Zd (Zj (Za (v:=vI B) rfl (Zo rfl rfl (Zc (v:=vI (ZHf.wrap (B+1))) rfl (done ?_)))))))
       exact ae (ZHf.wrap (B+1)) _ _ ⟨(slq rfl),(I.xM [1] rfl)⟩ h
     ·replace h:=Zm h (cf G);refine Zr Zv 15 undef rfl rfl (by kernel_rfl) (A 15 rfl) (λL=>.inr ⟨Yd (b:=false) 14 33 rfl (tr rfl (congrArg _ G)) (by decide),rfl⟩) (l9:=(Zb 28 65535)) (by kernel_rfl) (Zr Zv 16 undef rfl rfl (by kernel_rfl) (A 16 rfl) (λL=>.inr ⟨Yd (b:=false) 14 33 rfl (tr rfl (congrArg _ G)) (by decide),rfl⟩) (l9:=(Zb 28 131071)) (by kernel_rfl) (Zr Zv 17 undef rfl rfl (by kernel_rfl) (A 17 rfl) (λL=>.inr ⟨Yd (b:=false) 14 33 rfl (tr rfl (congrArg _ G)) (by decide),rfl⟩) (l9:=(Zb 28 262143)) (by kernel_rfl) (Zr Zv 18 undef rfl rfl (by kernel_rfl) (A 18 rfl) (λL=>.inr ⟨Yd (b:=false) 14 33 rfl (tr rfl (congrArg _ G)) (by decide),rfl⟩) (l9:=(Zb 28 524287)) (by kernel_rfl) (Zr Zv 19 undef rfl rfl (by kernel_rfl) (A 19 rfl) (λL=>.inr ⟨Yd (b:=false) 14 33 rfl (tr rfl (congrArg _ G)) (by decide),rfl⟩) (l9:=(Zb 28 1048575)) (by kernel_rfl) (Zr Zv 20 undef rfl rfl (by kernel_rfl) (A 20 rfl) (λL=>.inr ⟨Yd (b:=false) 14 33 rfl (tr rfl (congrArg _ G)) (by decide),rfl⟩) (l9:=(Zb 28 2097151)) (by kernel_rfl) (Zr Zv 21 undef rfl rfl (by kernel_rfl) (A 21 rfl) (λL=>.inr ⟨Yd (b:=false) 14 33 rfl (tr rfl (congrArg _ G)) (by decide),rfl⟩) (l9:=(Zb 28 4194303)) (by kernel_rfl) (Zr Zv 22 undef rfl rfl (by kernel_rfl) (A 22 rfl) (λL=>.inr ⟨Yd (b:=false) 14 33 rfl (tr rfl (congrArg _ G)) (by decide),rfl⟩) (l9:=(Zb 28 8388607)) (by kernel_rfl) (Zr Zv 23 undef rfl rfl (by kernel_rfl) (A 23 rfl) (λL=>.inr ⟨Yd (b:=false) 14 33 rfl (tr rfl (congrArg _ G)) (by decide),rfl⟩) (l9:=(Zb 28 16777215)) (by kernel_rfl) (Z0 24 (by decide) (by decide) (by kernel_rfl) (by kernel_rfl) rfl (Zg (b:=false) 14 33 rfl (tr rfl (congrArg _ G)) (by decide) (Zg (b:=false) 14 33 rfl (tr rfl (congrArg _ G)) (by decide) (Zh 11 30 rfl rfl O (Zs (v:=.bool false) (b:=false) (tr rfl (congrArg _ G)) rfl (Zs (v:=.bool false) (b:=false) (tr rfl (congrArg _ O)) rfl (done (Z1 (Zd (Z2 rfl rfl (ZMy (Zq (Zd (Zj (Za (v:=vI B) rfl (Zo rfl rfl (Zc (v:=vI (ZHf.wrap (B+1))) rfl (done ?_))))))))))))))))))))))))))
      exact ae (ZHf.wrap (B+1)) _ _ ⟨(slq rfl),(I.xM [1] rfl)⟩ h
  ·replace h:=Zm h (cf ac);refine ZM9 (Zk (Zk (Zy ?_)))
   refine Zd (sr (Zu 0 ZM1 rfl sc53.size rfl rfl (Z5 I 0 (u1_0) rfl sc53 rfl rfl (Zw I 0 rfl ZM4 rfl (Zcd rfl rfl (Zc (v:=.bool (decide ((a1.terms.length:Int)≤400))) rfl (dn (ZM3 ?_))))))))
   exact Zi rfl (Ze rfl) ⟨decide ((a1.terms.length:Int)≤400),rfl,h,I.below⟩ (.inl rfl)
 ·skip;exact⟨(slq rfl),I⟩
def Zd1 (G:List Int) (I:A8) (K:Int→Prop):Prop :=
 Z9 (λh (A:Int) B=>((0≤(h:Int)∧(h:Int) < 8)∧B (ZHf.wrap (A+(ZHf.wrap ((G.getD h ZEu) * (ZHf.wrap (I.get h)))))))) (λ(A:Int)=>K A) G.length 0 0
theorem Zmv (a0:List Int) (V:A8)  {K:Int→Prop} (h:Zd1 a0 V K) (w0:World) (q0:TInts.rep a0 [u0_0] fp0 w0) :
  Calls ZMx 121 #[u0_0,.agg (ZHu (ZMs .u8 V))] w0 λe w'=>∃ (r0:Int),
   e=.returned (vI r0)∧K r0∧Bel w0 w':=by
 unfold Zd1 at h
 refine cof ZN1 rfl 25 Tryz.ntmps121 ?_
 have B:=ZNf (X:=Nox) w0 [ZMt TInts a0 [u0_0] fp0] (al1 q0);refine sr (Ya (v:=.agg (ZHu (ZMs .u8 V))) B (ZMs .u8 V) rfl rfl λb2 w4 L B=>Zc (v:=vI 0) rfl (dn (sr (Zc (v:=vI 0) rfl (dn (ZMu (sr (Zc (v:=vI 0) rfl (dn (ZM0 ?_))))))))))
 have ac:a0.length≤9223372036854775807:=Y5 (B.getP 0 rfl);refine Yp (S:=Int) _ _ (λA G e_ w_=>Zt e_ [(0,u0_0),(3,vQ b2),(5,vI G),(6,vI (A:Int))]∧Ctx Nox w0 w_ [blk b2 136 (ZMs .u8 V)] [ZMt TInts a0 [u0_0] fp0]) a0.length ?_ ?_ (s0:=0) ?_ h
 ·clear B h;rintro A G e_ ak aj ag O ⟨aa,B⟩ h ad;rw [ue aa];refine ZMu (sr (Za (v:=vI (A:Int)) rfl (Za (v:=u0_0) rfl (Zw B 0 rfl ZNd rfl (Zn rfl rfl (dn (Z3 rfl (decide_eq_true (by omega)) (ZMy (Zd (ZMu (ZM0 ?_)))))))))))
  refine cwd 10 Yh [0,0,0,6,14,0,32,96,224,510,1023,2047] [3,4,6,7] [0,1,2,5,8,9] (λU I al L=>?_)
  replace B:=B.grow L;refine bM 0 (vI G) rfl I (Zb 12 1) (bM 1 (u0_0) rfl I (Zb 12 3) (bM 2 (vI (A:Int)) rfl I (Zb 12 7) ?_))
  obtain ⟨ae,am,ab⟩:=Zx (B.getP 0 rfl) A O;refine bL 3 (.pointer (some (ae.add (A * 1)))) rfl rfl U (λ_ L=>by exact Y1 (len:=a0.length) ZNd sc2.size (by exact tr rfl ab) rfl (ZNb _) (ZNt.2 O)) (Zb 12 15) (bL 4 (vI (a0.getD A ZEu)) rfl rfl U (λ_ L=>by exact Xh (vI (a0.getD A ZEu)) (Ye ((B.grow L).getP 0 rfl) ab A O) sc2 rfl) (Zb 12 31) (bM 5 (vI (A:Int)) rfl I (Zb 12 63) ?_))
  obtain ⟨⟨ah,ai⟩,h⟩:=h;refine bL 6 (.pointer (some ⟨b2,A,none⟩)) rfl rfl U (λ_ L=>by exact Zaf A ZNc sc5.size rfl rfl ah ai (by omega)) (Zb 12 127) (bL 7 (.int .u8 (V.get A)) rfl rfl U (λ_ L=>by exact Yc (B.grow L) 0 (.int .u8 (V.get A)) rfl sc5 rfl (ZM7 _ _ (show A < 8 by omega))) (Zb 12 255) (bF 8 (vI (ZHf.wrap (V.get A))) rfl rfl I (λ_=>by exact Zpc ZNw ZN3 rfl) (Zb 12 511) (bF 9 (vI (ZHf.wrap ((a0.getD A ZEu) * (ZHf.wrap (V.get A))))) rfl rfl I (λ_=>by exact Zcy rfl rfl) (Zb 12 1023) (Z0 10 (by decide) (by decide) (by kernel_rfl) (by kernel_rfl) rfl (Zo rfl rfl (Zc (v:=vI (ZHf.wrap (G+(ZHf.wrap ((a0.getD A ZEu) * (ZHf.wrap (V.get A))))))) rfl (done (Z1 (Zq (Zd (Zj (Za (v:=vI (A:Int)) rfl (Zo rfl rfl (Zc (v:=vI (ZHf.wrap ((A:Int)+1))) rfl (done ?_)))))))))))))))
  exact ad (ZHf.wrap (G+(ZHf.wrap ((a0.getD A ZEu) * (ZHf.wrap (V.get A)))))) _ _ ⟨(sl ⟨rfl,rfl,rfl,(tr rfl (congrArg _ (Z7 O ac))),trivial⟩),B⟩ h
 ·clear B h;rintro G e_ an ag ⟨aa,B⟩ h;rw [ue aa];refine ZMu (sr (Za (v:=vI (a0.length:Int)) rfl (Za (v:=u0_0) rfl (Zw B 0 rfl ZNd rfl (Zn rfl rfl (dn (Z2 rfl (decide_eq_false (by omega)) ?_)))))))
  refine ZM9 (Zk (Zk (Zy ?_)))
  refine Zd (sr (Za (v:=vI G) rfl (Zc (v:=vI G) rfl (dn (ZM3 ?_)))))
  exact Zi rfl (Ze rfl) ⟨G,rfl,h,B.below⟩ (.inl rfl)
 ·skip;exact⟨(slq rfl),B⟩
def Zfy (G:List Int) (L:ZMw) (K:Int→Bool→Prop):Prop :=
 (if(L.terms.length:Int)=0 then K (-1) true else((0≤(0:Int)∧(0:Int) < (L.terms.length:Int))∧Zd1 G ((L.terms.getD 0 ZEu).mono) (λA=>Xt (λ(h:Int) B=>(if h < (L.terms.length:Int) then((0≤h∧h < (L.terms.length:Int))∧Zd1 G ((L.terms.getD h.toNat ZEu).mono) (λI=>(if I≠A then K 0 false else B (ZHf.wrap (h+1))))) else K A true)) 1)))
theorem Zqg (U:List Int) (a1:ZMw)  {K:Int→Bool→Prop} (h:Zfy U a1 K) (w0:World) (q0:TInts.rep U [u0_0] fp0 w0) (q1:ZNg.rep a1 [u1_0] fp1 w0) :
  Calls ZMx 69 #[u0_0,.agg #[u1_0]] w0 λe w'=>∃ (r0:Int) (r1:Bool),
   e=.returned (.tuple #[vI r0,.bool r1])∧K r0 r1∧Bel w0 w':=by
 unfold Zfy at h
 refine cof Tryz.func69 rfl 37 Tryz.ntmps69 ?_
 have A:=ZNf (X:=Nox) w0 [ZMt TInts U [u0_0] fp0,ZMt TForm a1 [u1_0] fp1] (alc q0 (al1 q1));have ae:=(A.getP 1 rfl);replace A:=A.derive 1 rfl (ZMt ZMv.ty.sl a1.terms [u1_0] fp1) (λ_=>(Y9 ae)) (λ_ ag=>ag)
 refine sr (Ya (v:=.agg #[u1_0]) A [u1_0] rfl rfl λb5 w7 ap A=>Zc (v:=vI 0) rfl (Zc (v:=.bool false) rfl (dn (ZMu (sr (Zu 0 ZM1 rfl sc53.size rfl rfl (Z5 A 0 (u1_0) rfl sc53 rfl rfl (Zw A 0 rfl ZM4 rfl (Xg rfl rfl (dn ?_))))))))))
 refine Zp rfl (λI=>?_) (λI=>?_)
 ·replace h:=ift h (ct I);refine sr (Zc (v:=vI (-1)) rfl (Zc (v:=.bool true) rfl (dn ?_)))
  refine ZM3 (Zl ?_)
  exact Xv rfl (Ze rfl) (Ze rfl) ⟨(-1),true,rfl,h,A.below⟩ (.inl rfl)
 ·replace h:=Zm h (cf I);refine ZMy (Zd (sr (Za (v:=u0_0) rfl (Zu 0 ZM1 rfl sc53.size rfl rfl (Z5 A 0 (u1_0) rfl sc53 rfl rfl ?_)))))
  obtain ⟨⟨ah,ai⟩,h⟩:=h;obtain ⟨am,aq,V⟩:=Zx (A.getP 0 rfl) 0 (show 0 < a1.terms.length by omega)
  refine Ys (len:=a1.terms.length) ZM4 ag162.size (tr rfl V) rfl ah ai (Zei (0 * 9+0) ZNa rfl ag136.size rfl rfl (Je (ZMs .u8 ((a1.terms.getD 0 ZEu).mono)) (Jz (o:=0) (k:=8) (Ye (A.getP 0 rfl) V 0 (show 0 < a1.terms.length by omega)) rfl) ag136 rfl rfl (Zf [u0_0,.agg (ZHu (ZMs .u8 ((a1.terms.getD 0 ZEu).mono)))] _ ZN1 rfl rfl rfl (Zmv U ((a1.terms.getD 0 ZEu).mono) h _ (A.getP 1 rfl)) ?_)))
  rintro _ ar ⟨G,rfl,h,ab⟩;refine rt ?_
  replace A:=A.grow ab;refine Zc (v:=vI G) rfl (dn (ZMu (sr (Zc (v:=vI 1) rfl (dn (ZM0 ?_))))))
  refine X6 (S:=Int) _ (λB e_ w_=>Zt e_ [(0,u0_0),(3,vQ b5),(6,vI G),(7,vI B)]∧Ctx Nox w0 w_ [blk b5 55 [u1_0]] [ZMt ZMv.ty.sl a1.terms [u1_0] fp1,ZMt TInts U [u0_0] fp0,ZMt TForm a1 [u1_0] fp1]) ?_ (s0:=1) ?_ h
  ·clear A h;rintro B e_ au an av ⟨aj,A⟩ h ac;rw [ue aj];refine ZMu (sr (Za (v:=vI B) rfl (Zu 0 ZM1 rfl sc53.size rfl rfl (Z5 A 0 (u1_0) rfl sc53 rfl rfl (Zw A 0 rfl ZM4 rfl (Zn rfl rfl (dn ?_)))))))
   refine Zp rfl (λL=>?_) (λL=>?_)
   ·replace h:=ift h (ct L);refine ZMy (Zd (ZMu (ZM0 (sr (Za (v:=u0_0) rfl (Zu 0 ZM1 rfl sc53.size rfl rfl (Z5 A 0 (u1_0) rfl sc53 rfl rfl (Za (v:=vI B) rfl ?_))))))))
    obtain ⟨⟨ak,al⟩,h⟩:=h;obtain ⟨ao,aw,aa⟩:=Zx (A.getP 0 rfl) B.toNat (show B.toNat < a1.terms.length by omega)
    refine Ys (len:=a1.terms.length) ZM4 ag162.size (tr rfl aa) rfl ak al (Zei (B.toNat * 9+0) ZNa rfl ag136.size rfl rfl (Je (ZMs .u8 ((a1.terms.getD B.toNat ZEu).mono)) (Jz (o:=0) (k:=8) (Ye (A.getP 0 rfl) aa B.toNat (show B.toNat < a1.terms.length by omega)) rfl) ag136 rfl rfl (Zf [u0_0,.agg (ZHu (ZMs .u8 ((a1.terms.getD B.toNat ZEu).mono)))] _ ZN1 rfl rfl rfl (Zmv U ((a1.terms.getD B.toNat ZEu).mono) h _ (A.getP 1 rfl)) ?_)))
    rintro _ ax ⟨ay,rfl,h,ad⟩;refine rt ?_
    replace A:=A.grow ad;refine Za (v:=vI G) rfl (Y2 rfl rfl (dn ?_))
    refine Zp rfl (λO=>?_) (λO=>?_)
    ·replace h:=ift h (ct O);refine sr (Zc (v:=vI 0) rfl (Zc (v:=.bool false) rfl (dn ?_)))
     refine ZM3 (Z8 (Zl (Zl (Z8 (Zl ?_)))))
     exact Xv rfl (Ze rfl) (Ze rfl) ⟨0,false,rfl,h,A.below⟩ (.inl rfl)
    ·replace h:=Zm h (cf O);refine ZMy (Zq (Zd (Zj (Za (v:=vI B) rfl (Zo rfl rfl (Zc (v:=vI (ZHf.wrap (B+1))) rfl (done ?_)))))))
     exact ac (ZHf.wrap (B+1)) _ _ ⟨(slq rfl),A⟩ h
   ·replace h:=Zm h (cf L);refine ZM9 (Zk (Zk (Zy ?_)))
    refine Zd (sr (Za (v:=vI G) rfl (Zc (v:=vI G) rfl (Zc (v:=.bool true) rfl (dn (ZM3 ?_))))))
    exact Xv rfl (Ze rfl) (Ze rfl) ⟨G,true,rfl,h,A.below⟩ (.inl rfl)
  ·skip;exact⟨(slq rfl),A⟩
def Zc7 (a0:Alg) (a1:ZMw) (K:ZMw→Prop):Prop :=
 Xt (λ(A:(List Term)×Int) O=>(if A.2 < (a1.terms.length:Int) then((0≤A.2∧A.2 < (a1.terms.length:Int))∧Xt (λ(h:(List Term)×Int) L=>(if h.2 < (a0.degrees.length:Int) then((0≤h.2∧h.2 < 8)∧(if((a1.terms.getD A.2.toNat ZEu).mono).get h.2.toNat=0 then L (h.1,ZHf.wrap (h.2+1)) else Z9 (λG (B:A8×A8) I=>(if(G:Int)≥h.2 then(if(G:Int)≤h.2 then I (B.1.set G 0,B.2.set G 0) else I (B.1.set G 0,B.2)) else(if(G:Int)≤h.2 then I (B.1,B.2.set G 0) else I (B.1,B.2)))) (λ(B:A8×A8)=>((0≤h.2∧h.2 < 8)∧((0≤h.2∧h.2 < 8)∧((0≤A.2∧A.2 < (a1.terms.length:Int))∧((0≤h.2∧h.2 < 8)∧Zd1 a0.degrees B.1 (λU=>(if ZFl U 2≠0 then((0≤h.2∧h.2 < (a0.images.length:Int))∧J1 (B.1.set h.2.toNat (ZM6.wrap ((((a1.terms.getD A.2.toNat ZEu).mono).get h.2.toNat) - 1))) 1 (λV=>Zai a0.degrees V (a0.images.getD h.2.toNat ZEu) (λaa=>J1 B.2 1 (λab=>Zai a0.degrees aa ab (λac=>X8 (ZHf.wrap (0 - (ZHf.wrap (((a1.terms.getD A.2.toNat ZEu).factor) * (ZHf.wrap (((a1.terms.getD A.2.toNat ZEu).mono).get h.2.toNat)))))) (λad=>Zbd (⟨h.1⟩:ZMw) ac ad (λae=>L (ae.terms,ZHf.wrap (h.2+1))))))))) else((0≤h.2∧h.2 < (a0.images.length:Int))∧J1 (B.1.set h.2.toNat (ZM6.wrap ((((a1.terms.getD A.2.toNat ZEu).mono).get h.2.toNat) - 1))) 1 (λag=>Zai a0.degrees ag (a0.images.getD h.2.toNat ZEu) (λah=>J1 B.2 1 (λai=>Zai a0.degrees ah ai (λaj=>X8 (ZHf.wrap (((a1.terms.getD A.2.toNat ZEu).factor) * (ZHf.wrap (((a1.terms.getD A.2.toNat ZEu).mono).get h.2.toNat)))) (λak=>Zbd (⟨h.1⟩:ZMw) aj ak (λal=>L (al.terms,ZHf.wrap (h.2+1)))))))))))))))) 8 0 ((a1.terms.getD A.2.toNat ZEu).mono,(a1.terms.getD A.2.toNat ZEu).mono))) else O (h.1,ZHf.wrap (A.2+1)))) (A.1,0)) else K (⟨A.1⟩:ZMw))) ([],0)
theorem Zmw (a0:Alg) (a1:ZMw)  {K:ZMw→Prop} (h:Zc7 a0 a1 K) (w0:World) (q0:TAlg.rep a0 [u0_0,u0_1] fp0 w0) (q1:ZNg.rep a1 [u1_0] fp1 w0) :
  Calls ZMx 71 #[.agg #[u0_0,u0_1],.agg #[u1_0]] w0 λe w'=>∃ (r0:ZMw) (z0_0:Value) (de:List Nat),
   e=.returned (.agg #[z0_0])∧K r0∧(ZM8 (Y0 162) r0 [z0_0] de).holds w'∧(∀ b,b∈de→w0.heap.size≤b)∧Bel w0 w':=by
 unfold Zc7 at h
 refine cof Tryz.func71 rfl 103 Tryz.ntmps71 ?_
 have A:=ZNf (X:=Nox) w0 [ZMt TAlg a0 [u0_0,u0_1] fp0,ZMt TForm a1 [u1_0] fp1] (alc q0 (al1 q1));replace A:=A.dAlg 0 rfl;have gc:=(A.getP 3 rfl);replace A:=A.derive 3 rfl (ZMt ZMv.ty.sl a1.terms [u1_0] fp1) (λ_=>(Y9 gc)) (λ_ bo=>bo)
 refine sr (Ya (v:=.agg #[u0_0,u0_1]) A [u0_0,u0_1] rfl rfl λb7 w9 I A=>Ya (v:=.agg #[u1_0]) A [u1_0] rfl rfl λac hu I A=>Yl A [.slice none 0 0] z55 rfl λae hv I A=>dn (sr (J8 [] rfl (Zhn   _) (Yl A [.slice none 0 0] z55 rfl λag hw I A=>Zz (v:=.agg #[.slice none 0 0]) A 0 [.slice none 0 0] [.slice none 0 0] rfl ag55.size rfl rfl rfl rfl rfl (ZM2 rfl) rfl λhx A=>dn (ZMu (sr (Zc (v:=vI 0) rfl (dn (ZM0 ?_)))))))))
 refine X6 (S:=(List Term)×Int) _ (λG e_ w_=>∃ (ai:Value),Zt e_ [(2,vQ b7),(3,vQ ac),(4,vQ ae),(5,vQ ag),(6,vI G.2)]∧Ctx Nox w0 w_ [own 162 9 ai G.1.length (ZMv.encs G.1),blk ag 55 [ai],blk ae 55 [.slice none 0 0],blk ac 55 [u1_0],blk b7 32 [u0_0,u0_1]] [ZMt ZMv.ty.sl a1.terms [u1_0] fp1,ZMt ZNg.sl a0.images [u0_1] fp0,ZMt TInts a0.degrees [u0_0] fp0,ZMt TAlg a0 [u0_0,u0_1] fp0,ZMt TForm a1 [u1_0] fp1]) ?_ (s0:=([],0)) ?_ h
 ·clear A h;rintro G e_ hy hr hz ⟨ai,ad,A⟩ h dj;rw [ue ad];refine ZMu (sr (Za (v:=vI G.2) rfl (Zu 0 ZM1 rfl sc53.size rfl rfl (Z5 A 3 (u1_0) rfl sc53 rfl rfl (Zw A 0 rfl ZM4 rfl (Zn rfl rfl (dn ?_)))))))
  refine Zp rfl (λbs=>?_) (λbs=>?_)
  ·replace h:=ift h (ct bs);refine ZMy (Zd (ZMu (ZM0 (sr (Zu 0 ZM1 rfl sc53.size rfl rfl (Z5 A 3 (u1_0) rfl sc53 rfl rfl (Za (v:=vI G.2) rfl ?_)))))))
   obtain ⟨⟨gf,gg⟩,h⟩:=h;obtain ⟨hs,h0,cm⟩:=Zx (A.getP 0 rfl) G.2.toNat (show G.2.toNat < a1.terms.length by omega)
   refine Ys (len:=a1.terms.length) ZM4 ag162.size (tr rfl cm) rfl gf gg (Zei (G.2.toNat * 9+0) ZNa rfl ag136.size rfl rfl (Je (ZMs .u8 ((a1.terms.getD G.2.toNat ZEu).mono)) (Jz (o:=0) (k:=8) (Ye (A.getP 0 rfl) cm G.2.toNat (show G.2.toNat < a1.terms.length by omega)) rfl) ag136 rfl rfl (Yl A (ZMs .u8 ZMz) Zbn rfl λah h1 I A=>Zz (v:=.agg (ZHu (ZMs .u8 ((a1.terms.getD G.2.toNat ZEu).mono)))) A 0 (ZMs .u8 ((a1.terms.getD G.2.toNat ZEu).mono)) (ZMs .u8 ((a1.terms.getD G.2.toNat ZEu).mono)) rfl ag136.size rfl rfl rfl rfl rfl (ZM2 rfl) rfl λh2 A=>dn (sr (Zc (v:=vI 0) rfl (dn (ZM0 ?_)))))))
   refine X6 (S:=(List Term)×Int) _ (λB e_ w_=>∃ (aa:Value),Zt e_ [(2,vQ b7),(3,vQ ac),(4,vQ ae),(5,vQ ag),(6,vI G.2),(7,vQ ah),(8,vI B.2)]∧Ctx Nox w0 w_ [own 162 9 aa B.1.length (ZMv.encs B.1),blk ah 136 (ZMs .u8 ((a1.terms.getD G.2.toNat ZEu).mono)),blk ag 55 [aa],blk ae 55 [.slice none 0 0],blk ac 55 [u1_0],blk b7 32 [u0_0,u0_1]] [ZMt ZMv.ty.sl a1.terms [u1_0] fp1,ZMt ZNg.sl a0.images [u0_1] fp0,ZMt TInts a0.degrees [u0_0] fp0,ZMt TAlg a0 [u0_0,u0_1] fp0,ZMt TForm a1 [u1_0] fp1]) ?_ (s0:=(G.1,0)) ?_ h
   ·clear A h;rintro B e_ h3 bk h4 ⟨aa,ad,A⟩ h bt;rw [ue ad];refine ZMu (sr (Za (v:=vI B.2) rfl (Zu 0 ZNe rfl sc22.size rfl rfl (Z5 A 5 (u0_0) rfl sc22 rfl rfl (Zw A 2 rfl ZNd rfl (Zn rfl rfl (dn ?_)))))))
    refine Zp rfl (λbu=>?_) (λbu=>?_)
    ·replace h:=ift h (ct bu);refine ZMy (Zd (ZMu (ZM0 (ZMu (sr (Za (v:=vI B.2) rfl ?_))))))
     obtain ⟨⟨gh,gi⟩,h⟩:=h;refine Xs B.2.toNat ZNc sc5.size rfl rfl gh gi (by omega) (Z5 A 1 (.int .u8 (((a1.terms.getD G.2.toNat ZEu).mono).get B.2.toNat)) rfl sc5 rfl (ZM7 _ _ (show B.2.toNat < 8 by omega)) (Xg rfl rfl (dn ?_)))
     refine Zp rfl (λbv=>?_) (λbv=>?_)
     ·replace h:=ift h (ct bv);refine ZM9 (Zk (Zy ?_))
      refine Zd (Zj (Za (v:=vI B.2) rfl (Zo rfl rfl (Zc (v:=vI (ZHf.wrap (B.2+1))) rfl (done ?_)))))
      exact bt (B.1,ZHf.wrap (B.2+1)) _ _ ⟨aa,(slq rfl),A⟩ h
     ·replace h:=Zm h (cf bv);refine ZMy (Zd (ZMu ?_))
      refine Zmp 5 Yh [0,0,0,0,13,31] [0,1] [] (λcn ht dh I=>?_)
      replace A:=A.grow I;have U:dh.heap.size≤dh.heap.size:=Nat.le_refl _;refine Zar (Xc _) 0 (.agg (ZHu (ZMs .u8 ((a1.terms.getD G.2.toNat ZEu).mono)))) rfl rfl (by kernel_rfl) (cn 0 rfl) (λw_ I=>.inl ⟨rfl,by exact Xa (A.grow (Zcj I)) 1 (ZMs .u8 ((a1.terms.getD G.2.toNat ZEu).mono)) rfl ag136 rfl rfl rfl⟩) (l9:=(Zb 6 1)) (by kernel_rfl) (Zar (Xc _) 1 (.agg (ZHu (ZMs .u8 ((a1.terms.getD G.2.toNat ZEu).mono)))) rfl rfl (by kernel_rfl) (cn 1 rfl) (λw_ I=>.inl ⟨rfl,by exact Xa (A.grow (Zcj I)) 1 (ZMs .u8 ((a1.terms.getD G.2.toNat ZEu).mono)) rfl ag136 rfl rfl rfl⟩) (l9:=(Zb 6 3)) (by kernel_rfl) ?_)
      refine Zdr (λe_ w_=>∃ (aj:Nat),∃ (bp:Nat),Zt e_ [(2,vQ b7),(3,vQ ac),(4,vQ ae),(5,vQ ag),(6,vI G.2),(7,vQ ah),(8,vI B.2),(9,vQ bp),(10,vQ aj)]∧Ctx Nox w0 w_ [blk aj 136 (ZMs .u8 ((a1.terms.getD G.2.toNat ZEu).mono)),blk bp 136 (ZMs .u8 ((a1.terms.getD G.2.toNat ZEu).mono)),own 162 9 aa B.1.length (ZMv.encs B.1),blk ah 136 (ZMs .u8 ((a1.terms.getD G.2.toNat ZEu).mono)),blk ag 55 [aa],blk ae 55 [.slice none 0 0],blk ac 55 [u1_0],blk b7 32 [u0_0,u0_1]] [ZMt ZMv.ty.sl a1.terms [u1_0] fp1,ZMt ZNg.sl a0.images [u0_1] fp0,ZMt TInts a0.degrees [u0_0] fp0,ZMt TAlg a0 [u0_0,u0_1] fp0,ZMt TForm a1 [u1_0] fp1]∧(Z9 (λO (L:A8×A8) aq=>(if(O:Int)≥B.2 then(if(O:Int)≤B.2 then aq (L.1.set O 0,L.2.set O 0) else aq (L.1.set O 0,L.2)) else(if(O:Int)≤B.2 then aq (L.1,L.2.set O 0) else aq (L.1,L.2)))) (λ(L:A8×A8)=>((0≤B.2∧B.2 < 8)∧((0≤B.2∧B.2 < 8)∧((0≤G.2∧G.2 < (a1.terms.length:Int))∧((0≤B.2∧B.2 < 8)∧Zd1 a0.degrees L.1 (λdi=>(if ZFl di 2≠0 then((0≤B.2∧B.2 < (a0.images.length:Int))∧J1 (L.1.set B.2.toNat (ZM6.wrap ((((a1.terms.getD G.2.toNat ZEu).mono).get B.2.toNat) - 1))) 1 (λar=>Zai a0.degrees ar (a0.images.getD B.2.toNat ZEu) (λa4=>J1 L.2 1 (λak=>Zai a0.degrees a4 ak (λal=>X8 (ZHf.wrap (0 - (ZHf.wrap (((a1.terms.getD G.2.toNat ZEu).factor) * (ZHf.wrap (((a1.terms.getD G.2.toNat ZEu).mono).get B.2.toNat)))))) (λa5=>Zbd (⟨B.1⟩:ZMw) al a5 (λam=>bk (am.terms,ZHf.wrap (B.2+1))))))))) else((0≤B.2∧B.2 < (a0.images.length:Int))∧J1 (L.1.set B.2.toNat (ZM6.wrap ((((a1.terms.getD G.2.toNat ZEu).mono).get B.2.toNat) - 1))) 1 (λau=>Zai a0.degrees au (a0.images.getD B.2.toNat ZEu) (λa6=>J1 L.2 1 (λan=>Zai a0.degrees a6 an (λao=>X8 (ZHf.wrap (((a1.terms.getD G.2.toNat ZEu).factor) * (ZHf.wrap (((a1.terms.getD G.2.toNat ZEu).mono).get B.2.toNat)))) (λa7=>Zbd (⟨B.1⟩:ZMw) ao a7 (λap=>bk (ap.terms,ZHf.wrap (B.2+1)))))))))))))))) 8 0 ((a1.terms.getD G.2.toNat ZEu).mono,(a1.terms.getD G.2.toNat ZEu).mono))) ?_ ?_
      ·clear A h;rintro e_ h5 ⟨aj,bp,ad,A,h⟩;rw [ue ad];refine Zd (ZMu (sr (Zc (v:=vI 0) rfl (dn (ZM0 ?_)))))
       refine Yp (S:=A8×A8) _ _ (λO L e_ w_=>Zt e_ [(2,vQ b7),(3,vQ ac),(4,vQ ae),(5,vQ ag),(6,vI G.2),(7,vQ ah),(8,vI B.2),(9,vQ bp),(10,vQ aj),(11,vI (O:Int))]∧Ctx Nox w0 w_ [blk aj 136 (ZMs .u8 L.2),blk bp 136 (ZMs .u8 L.1),own 162 9 aa B.1.length (ZMv.encs B.1),blk ah 136 (ZMs .u8 ((a1.terms.getD G.2.toNat ZEu).mono)),blk ag 55 [aa],blk ae 55 [.slice none 0 0],blk ac 55 [u1_0],blk b7 32 [u0_0,u0_1]] [ZMt ZMv.ty.sl a1.terms [u1_0] fp1,ZMt ZNg.sl a0.images [u0_1] fp0,ZMt TInts a0.degrees [u0_0] fp0,ZMt TAlg a0 [u0_0,u0_1] fp0,ZMt TForm a1 [u1_0] fp1]) 8 ?_ ?_ (s0:=((a1.terms.getD G.2.toNat ZEu).mono,(a1.terms.getD G.2.toNat ZEu).mono)) ?_ h
       ·clear A h;rintro O L e_ h6 aq gj ab ⟨ad,A⟩ h bl;rw [ue ad];refine ZMu (sr (Za (v:=vI (O:Int)) rfl (Zn rfl rfl (dn (Z3 rfl (decide_eq_true (by omega)) (ZMy (Zd (ZMu (ZM0 (ZMu (sr (Za (v:=vI (O:Int)) rfl (Za (v:=vI B.2) rfl (Zae rfl rfl (dn ?_)))))))))))))))
        refine Zp rfl (λbw=>?_) (λbw=>?_)
        ·replace h:=ift h (ct bw);refine Zj (Za (v:=vI (O:Int)) rfl (Xs O ZNc sc5.size rfl rfl (ZNb _) (by omega) (by omega) (Zz (v:=.int .u8 0) A 1 [.int .u8 0] (ZMs .u8 (L.1.set O 0)) rfl sc5.size rfl rfl rfl rfl rfl ab (ZNo _ _ _ ab) λh7 A=>dn (sr (Za (v:=vI (O:Int)) rfl (Za (v:=vI B.2) rfl (Zcd rfl rfl (dn ?_))))))))
         refine Zp rfl (λbx=>?_) (λbx=>?_)
         ·replace h:=ift h (ct bx);refine Zj (Za (v:=vI (O:Int)) rfl (Xs O ZNc sc5.size rfl rfl (ZNb _) (by omega) (by omega) (Zz (v:=.int .u8 0) A 0 [.int .u8 0] (ZMs .u8 (L.2.set O 0)) rfl sc5.size rfl rfl rfl rfl rfl ab (ZNo _ _ _ ab) λh8 A=>done (Zq (Zd (Zj (Za (v:=vI (O:Int)) rfl (Zo rfl rfl (Zc (v:=vI (ZHf.wrap ((O:Int)+1))) rfl (done ?_))))))))))
          exact bl (L.1.set O 0,L.2.set O 0) _ _ ⟨(sl ⟨rfl,rfl,rfl,rfl,rfl,rfl,rfl,rfl,rfl,(tr rfl (congrArg _ (Z7 ab (by decide)))),trivial⟩),A⟩ h
         ·replace h:=Zm h (cf bx);refine ZMy (Zq (Zd (Zj (Za (v:=vI (O:Int)) rfl (Zo rfl rfl (Zc (v:=vI (ZHf.wrap ((O:Int)+1))) rfl (done ?_)))))))
          exact bl (L.1.set O 0,L.2) _ _ ⟨(sl ⟨rfl,rfl,rfl,rfl,rfl,rfl,rfl,rfl,rfl,(tr rfl (congrArg _ (Z7 ab (by decide)))),trivial⟩),A⟩ h
        ·replace h:=Zm h (cf bw);refine ZMy (Zd (sr (Za (v:=vI (O:Int)) rfl (Za (v:=vI B.2) rfl (Zcd rfl rfl (dn ?_))))))
         refine Zp rfl (λbz=>?_) (λbz=>?_)
         ·replace h:=ift h (ct bz);refine Zj (Za (v:=vI (O:Int)) rfl (Xs O ZNc sc5.size rfl rfl (ZNb _) (by omega) (by omega) (Zz (v:=.int .u8 0) A 0 [.int .u8 0] (ZMs .u8 (L.2.set O 0)) rfl sc5.size rfl rfl rfl rfl rfl ab (ZNo _ _ _ ab) λh9 A=>done (Zq (Zd (Zj (Za (v:=vI (O:Int)) rfl (Zo rfl rfl (Zc (v:=vI (ZHf.wrap ((O:Int)+1))) rfl (done ?_))))))))))
          exact bl (L.1,L.2.set O 0) _ _ ⟨(sl ⟨rfl,rfl,rfl,rfl,rfl,rfl,rfl,rfl,rfl,(tr rfl (congrArg _ (Z7 ab (by decide)))),trivial⟩),A⟩ h
         ·replace h:=Zm h (cf bz);refine ZMy (Zq (Zd (Zj (Za (v:=vI (O:Int)) rfl (Zo rfl rfl (Zc (v:=vI (ZHf.wrap ((O:Int)+1))) rfl (done ?_)))))))
          exact bl (L.1,L.2) _ _ ⟨(sl ⟨rfl,rfl,rfl,rfl,rfl,rfl,rfl,rfl,rfl,(tr rfl (congrArg _ (Z7 ab (by decide)))),trivial⟩),A⟩ h
       ·clear A h;rintro L e_ ia gj ⟨ad,A⟩ h;rw [ue ad];refine ZMu (sr (Za (v:=vI 8) rfl (Zn rfl rfl (dn (Z2 rfl (decide_eq_false (by omega)) ?_)))))
        refine ZM9 (Zk (Zk (Zy ?_)))
        refine Zd (sr (Yb A 1 (ZMs .u8 L.1) rfl ag136 rfl rfl rfl (Yl A (ZMs .u8 ZMz) Zbn rfl λib ic I A=>Zz (v:=.agg (ZHu (ZMs .u8 L.1))) A 0 (ZMs .u8 L.1) (ZMs .u8 L.1) rfl ag136.size rfl rfl rfl rfl rfl (ZM2 rfl) rfl λie A=>dn (sr (Za (v:=vI B.2) rfl (Za (v:=vI B.2) rfl ?_))))))
        obtain ⟨⟨gk,gl⟩,h⟩:=h;refine Xs B.2.toNat ZNc sc5.size rfl rfl gk gl (by omega) (Z5 A 4 (.int .u8 (((a1.terms.getD G.2.toNat ZEu).mono).get B.2.toNat)) rfl sc5 rfl (ZM7 _ _ (show B.2.toNat < 8 by omega)) (J4 rfl rfl ?_))
        obtain ⟨⟨gm,gn⟩,h⟩:=h;refine Xs B.2.toNat ZNc sc5.size rfl rfl gm gn (by omega) (Zz (v:=.int .u8 (ZM6.wrap ((((a1.terms.getD G.2.toNat ZEu).mono).get B.2.toNat) - 1))) A 0 [.int .u8 (ZM6.wrap ((((a1.terms.getD G.2.toNat ZEu).mono).get B.2.toNat) - 1))] (ZMs .u8 (L.1.set B.2.toNat (ZM6.wrap ((((a1.terms.getD G.2.toNat ZEu).mono).get B.2.toNat) - 1)))) rfl sc5.size rfl rfl rfl rfl rfl (show B.2.toNat < 8 by omega) (ZNo _ _ _ (show B.2.toNat < 8 by omega)) λig A=>dn (ZMu ?_))
        refine cwd 10 Yh [0,1,0,7,15,31,0,64,192,448,1023,2047] [1,3,5,7,8] [0,2,4,6,9] (λav aw ih I=>?_)
        replace A:=A.grow I;refine bF 0 (vQ ac) rfl rfl aw (λ_=>by exact Yk 0 ZM1 rfl sc53.size rfl rfl) (Zb 12 1) (bL 1 (u1_0) rfl rfl av (λ_ I=>by exact Yc (A.grow I) 7 (u1_0) rfl sc53 rfl rfl) (Zb 12 3) (bM 2 (vI G.2) rfl aw (Zb 12 7) ?_))
        obtain ⟨⟨go,gp⟩,h⟩:=h;obtain ⟨cp,ii,cq⟩:=Zx (A.getP 0 rfl) G.2.toNat (show G.2.toNat < a1.terms.length by omega)
        refine bL 3 (.pointer (some (cp.add (G.2.toNat * 9)))) rfl rfl av (λ_ I=>by exact Y1 (len:=a1.terms.length) ZM4 ag162.size (by exact tr rfl cq) rfl go gp) (Zb 12 15) (bF 4 (.pointer (some (cp.add (G.2.toNat * 9+8)))) rfl rfl aw (λ_=>by exact Za1 (G.2.toNat * 9+8) ZNa rfl sc2.size rfl rfl) (Zb 12 31) (bL 5 (vI ((a1.terms.getD G.2.toNat ZEu).factor)) rfl rfl av (λ_ I=>by exact Xh (vI ((a1.terms.getD G.2.toNat ZEu).factor)) (Jz (o:=8) (k:=1) (Ye ((A.grow I).getP 0 rfl) cq G.2.toNat (show G.2.toNat < a1.terms.length by omega)) rfl) sc2 rfl) (Zb 12 63) (bM 6 (vI B.2) rfl aw (Zb 12 127) ?_)))
        obtain ⟨⟨gq,gr⟩,h⟩:=h;refine bL 7 (.pointer (some ⟨ah,B.2.toNat,none⟩)) rfl rfl av (λ_ I=>by exact Zaf B.2.toNat ZNc sc5.size rfl rfl gq gr (by omega)) (Zb 12 255) (bL 8 (.int .u8 (((a1.terms.getD G.2.toNat ZEu).mono).get B.2.toNat)) rfl rfl av (λ_ I=>by exact Yc (A.grow I) 4 (.int .u8 (((a1.terms.getD G.2.toNat ZEu).mono).get B.2.toNat)) rfl sc5 rfl (ZM7 _ _ (show B.2.toNat < 8 by omega))) (Zb 12 511) (bF 9 (vI (ZHf.wrap (((a1.terms.getD G.2.toNat ZEu).mono).get B.2.toNat))) rfl rfl aw (λ_=>by exact Zpc ZNw ZN3 rfl) (Zb 12 1023) (Z0 10 (by decide) (by decide) (by kernel_rfl) (by kernel_rfl) rfl (Zal rfl rfl (Zc (v:=vI (ZHf.wrap (((a1.terms.getD G.2.toNat ZEu).factor) * (ZHf.wrap (((a1.terms.getD G.2.toNat ZEu).mono).get B.2.toNat))))) rfl (done (Z1 (Zd (ZMu (sr (Zu 0 ZNe rfl sc22.size rfl rfl (Z5 A 8 (u0_0) rfl sc22 rfl rfl (Yb A 2 (ZMs .u8 L.1) rfl ag136 rfl rfl rfl (Zf [u0_0,.agg (ZHu (ZMs .u8 L.1))] _ ZN1 rfl rfl rfl (Zmv a0.degrees L.1 h _ (A.getP 2 rfl)) ?_))))))))))))))
        rintro _ ij ⟨di,rfl,h,dk⟩;refine rt ?_
        replace A:=A.grow dk;refine X3 rfl rfl (by decide) (Y2 rfl rfl (dn ?_))
        refine Zp rfl (λb8=>?_) (λb8=>?_)
        ·replace h:=ift h (ct b8);refine Zj (Za (v:=vI (ZHf.wrap (((a1.terms.getD G.2.toNat ZEu).factor) * (ZHf.wrap (((a1.terms.getD G.2.toNat ZEu).mono).get B.2.toNat))))) rfl (Zjq rfl (Zc (v:=vI (ZHf.wrap (0 - (ZHf.wrap (((a1.terms.getD G.2.toNat ZEu).factor) * (ZHf.wrap (((a1.terms.getD G.2.toNat ZEu).mono).get B.2.toNat))))))) rfl (dn (ZMu ?_)))))
         refine cwd 11 Yh [0,1,0,4,0,16,0,112,240,511,0,2047] [1,2,5,7,8] [0,4,6] (λax b9 il I=>?_)
         replace A:=A.grow I;refine bF 0 (vQ b7) rfl rfl b9 (λ_=>by exact Yk 0 ZNe rfl sc22.size rfl rfl) (Zb 12 1) (bL 1 (u0_0) rfl rfl ax (λ_ I=>by exact Yc (A.grow I) 8 (u0_0) rfl sc22 rfl rfl) (Zb 12 3) (bL 2 (.agg (ZHu (ZMs .u8 (L.1.set B.2.toNat (ZM6.wrap ((((a1.terms.getD G.2.toNat ZEu).mono).get B.2.toNat) - 1)))))) rfl rfl ax (λ_ I=>by exact Xa (A.grow I) 0 (ZMs .u8 (L.1.set B.2.toNat (ZM6.wrap ((((a1.terms.getD G.2.toNat ZEu).mono).get B.2.toNat) - 1)))) rfl ag136 rfl rfl rfl) (Zb 12 7) (bF 4 (.pointer (some ⟨b7,1,none⟩)) rfl rfl b9 (λ_=>by exact Yk 1 ZNe rfl sc30.size rfl rfl) (Zb 12 23) (bL 5 (u0_1) rfl rfl ax (λ_ I=>by exact Yc (A.grow I) 8 (u0_1) rfl sc30 rfl rfl) (Zb 12 55) (bM 6 (vI B.2) rfl b9 (Zb 12 119) ?_)))))
         obtain ⟨⟨gs,gu⟩,h⟩:=h;obtain ⟨dm,im,cr⟩:=Zx (A.getP 1 rfl) B.2.toNat (show B.2.toNat < a0.images.length by omega)
         refine bL 7 (.pointer (some (dm.add (B.2.toNat * 1)))) rfl rfl ax (λ_ I=>by exact Y1 (len:=a0.images.length) ZNi ag55.size (by exact tr rfl cr) rfl gs gu) (Zb 12 247) ?_
         obtain ⟨gv,cu,dp,cv⟩:=Xp (A.getP 1 rfl) cr B.2.toNat (show B.2.toNat < a0.images.length by omega)
         obtain ⟨ay,rfl⟩:=ZJj.1 cu;clear cu;rw [Xm _ _ (show B.2.toNat < a0.images.length by omega)] at cv
         have dq:=cv;replace A:=A.derive 1 rfl (ZMt ZMv.ty.sl ((a0.images.getD B.2.toNat ZEu).terms) [ay] fp0) (λ_=>(Y9 dq)) (λ_ bo=>bo)
         refine bL 8 (.agg #[ay]) rfl rfl ax (λ_ I=>by exact Jr [ay] (Zaw I dp) ag55 rfl rfl) (Zb 12 503) ?_
         refine Zdr (λe_ w_=>∃ (cw:Nat),∃ (a8:Value),∃ (bq:ZMw),Zt e_ [(2,vQ b7),(3,vQ ac),(4,vQ ae),(5,vQ ag),(6,vI G.2),(7,vQ ah),(8,vI B.2),(10,vQ aj),(13,vI (ZHf.wrap (0 - (ZHf.wrap (((a1.terms.getD G.2.toNat ZEu).factor) * (ZHf.wrap (((a1.terms.getD G.2.toNat ZEu).mono).get B.2.toNat))))))),(14,vQ cw)]∧Ctx Nox w0 w_ [blk cw 55 [a8],own 162 9 a8 bq.terms.length (ZMv.encs bq.terms),blk aj 136 (ZMs .u8 L.2),own 162 9 aa B.1.length (ZMv.encs B.1),blk ah 136 (ZMs .u8 ((a1.terms.getD G.2.toNat ZEu).mono)),blk ag 55 [aa],blk ae 55 [.slice none 0 0],blk ac 55 [u1_0],blk b7 32 [u0_0,u0_1]] [ZMt ZMv.ty.sl ((a0.images.getD B.2.toNat ZEu).terms) [ay] fp0,ZMt ZMv.ty.sl a1.terms [u1_0] fp1,ZMt ZNg.sl a0.images [u0_1] fp0,ZMt TInts a0.degrees [u0_0] fp0,ZMt TAlg a0 [u0_0,u0_1] fp0,ZMt TForm a1 [u1_0] fp1]∧(J1 L.2 1 (λak=>Zai a0.degrees bq ak (λal=>X8 (ZHf.wrap (0 - (ZHf.wrap (((a1.terms.getD G.2.toNat ZEu).factor) * (ZHf.wrap (((a1.terms.getD G.2.toNat ZEu).mono).get B.2.toNat)))))) (λa5=>Zbd (⟨B.1⟩:ZMw) al a5 (λam=>bk (am.terms,ZHf.wrap (B.2+1)))))))) ?_ ?_
         ·clear A h;rintro e_ io ⟨cw,a8,bq,ad,A,h⟩;rw [ue ad];refine Zd ?_
          refine cwd 9 Yh [0,0,2,0,0,16,62,0,254,511,1023] [0,2,3,4] [1,7] (λbm cx ip I=>?_)
          replace A:=A.grow I;refine bL 0 (.agg #[aa]) rfl rfl bm (λ_ I=>by exact Xa (A.grow I) 5 [aa] rfl ag55 rfl rfl rfl) (Zb 11 1) (bF 1 (vQ b7) rfl rfl cx (λ_=>by exact Yk 0 ZNe rfl sc22.size rfl rfl) (Zb 11 3) (bL 2 (u0_0) rfl rfl bm (λ_ I=>by exact Yc (A.grow I) 8 (u0_0) rfl sc22 rfl rfl) (Zb 11 7) (bL 3 (.agg #[a8]) rfl rfl bm (λ_ I=>by exact Xa (A.grow I) 0 [a8] rfl ag55 rfl rfl rfl) (Zb 11 15) (bL 4 (.agg (ZHu (ZMs .u8 L.2))) rfl rfl bm (λ_ I=>by exact Xa (A.grow I) 2 (ZMs .u8 L.2) rfl ag136 rfl rfl rfl) (Zb 11 31) (bM 7 (vI (ZHf.wrap (0 - (ZHf.wrap (((a1.terms.getD G.2.toNat ZEu).factor) * (ZHf.wrap (((a1.terms.getD G.2.toNat ZEu).mono).get B.2.toNat))))))) rfl cx (Zb 11 159) (aO 5 rfl (Zf [.agg (ZHu (ZMs .u8 L.2)),vI 1] _ ZNn rfl rfl rfl (Zdz L.2 1 h _) ?_)))))))
          rintro _ iq ⟨ak,cy,gw,rfl,h,dr,dt,du⟩;refine rt ?_
          replace A:=A.push du (ZM8 (Y0 162) ak [cy] gw) dr dt;obtain ⟨dv,dw⟩:=X7 (A.getM 0 rfl);subst dw;replace A:=A.recast (c:=own 162 9 cy ak.terms.length (ZMv.encs ak.terms)) (λ_ V=>V) (λ_=>dv)
          refine done (aK (by assumption) (Zb 11 191) (aO 6 rfl (Zf [u0_0,.agg #[a8],.agg #[cy]] _ ZNl rfl rfl rfl (Zd0 a0.degrees bq ak h _ (A.getP 3 rfl) (Yi (Ym (A.getM 2 rfl))) (Yi (Ym (A.getM 0 rfl)))) ?_)))
          rintro _ ir ⟨al,cz,gx,rfl,h,dx,dy,dz⟩;refine rt ?_
          replace A:=A.push dz (ZM8 (Y0 162) al [cz] gx) dx dy;obtain ⟨d0,d1⟩:=X7 (A.getM 0 rfl);subst d1;replace A:=A.recast (c:=own 162 9 cz al.terms.length (ZMv.encs al.terms)) (λ_ V=>V) (λ_=>d0)
          refine done (aK (by assumption) (Zb 11 255) (aO 8 rfl (Zf [vI (ZHf.wrap (0 - (ZHf.wrap (((a1.terms.getD G.2.toNat ZEu).factor) * (ZHf.wrap (((a1.terms.getD G.2.toNat ZEu).mono).get B.2.toNat))))))] _ ZNk rfl rfl rfl (Zbo (ZHf.wrap (0 - (ZHf.wrap (((a1.terms.getD G.2.toNat ZEu).factor) * (ZHf.wrap (((a1.terms.getD G.2.toNat ZEu).mono).get B.2.toNat)))))) h _) ?_)))
          rintro _ iu ⟨a5,rfl,h,d2⟩;refine rt ?_
          replace A:=A.grow d2;refine done (aK (by assumption) (Zb 11 511) (Z0 9 (by decide) (by decide) (by kernel_rfl) (by kernel_rfl) rfl (Zf [.agg #[aa],.agg #[cz],vI a5] _ ZNy rfl rfl rfl (Zmu (⟨B.1⟩:ZMw) al a5 h _ (Yi (Ym (A.getM 5 rfl))) (Yi (Ym (A.getM 0 rfl)))) ?_)))
          rintro _ iv ⟨am,a9,gy,rfl,h,d3,d4,d5⟩;refine rt ?_
          replace A:=A.push d5 (ZM8 (Y0 162) am [a9] gy) d3 d4;obtain ⟨d6,d7⟩:=X7 (A.getM 0 rfl);subst d7;replace A:=A.recast (c:=own 162 9 a9 am.terms.length (ZMv.encs am.terms)) (λ_ V=>V) (λ_=>d6)
          refine Zz (v:=.agg #[a9]) A 8 [a9] [a9] rfl ag55.size rfl rfl rfl rfl (Xr (X4 (A.getM 0 rfl)) rfl) (ZM2 rfl) rfl λiw A=>done (Z1 (Zq (Zd (Zj (Za (v:=vI B.2) rfl (Zo rfl rfl (Zc (v:=vI (ZHf.wrap (B.2+1))) rfl (done ?_))))))))
          exact bt (am.terms,ZHf.wrap (B.2+1)) _ _ ⟨a9,(slq rfl),((A.xM [0,7,8,9,10,11] rfl).sP [1,2,3,4,5] rfl)⟩ h
         refine Jy 3 10 rfl rfl (by kernel_rfl) ?_ ?_
         ·skip;refine Zf [.agg (ZHu (ZMs .u8 (L.1.set B.2.toNat (ZM6.wrap ((((a1.terms.getD G.2.toNat ZEu).mono).get B.2.toNat) - 1))))),vI 1] _ ZNn rfl rfl rfl (Zdz (L.1.set B.2.toNat (ZM6.wrap ((((a1.terms.getD G.2.toNat ZEu).mono).get B.2.toNat) - 1))) 1 h _) ?_
          rintro _ ix ⟨ar,cc,gz,rfl,h,d8,d9,ea⟩;refine rt ?_
          replace A:=A.push ea (ZM8 (Y0 162) ar [cc] gz) d8 d9;obtain ⟨eb,ec⟩:=X7 (A.getM 0 rfl);subst ec;replace A:=A.recast (c:=own 162 9 cc ar.terms.length (ZMv.encs ar.terms)) (λ_ V=>V) (λ_=>eb)
          refine done (aK (by assumption) (Zb 12 511) ?_)
          refine Jy 9 10 rfl rfl (by kernel_rfl) ?_ ?_
          ·skip;refine Zf [u0_0,.agg #[cc],.agg #[ay]] _ ZNl rfl rfl rfl (Zd0 a0.degrees ar (a0.images.getD B.2.toNat ZEu) h _ (A.getP 3 rfl) (Yi (Ym (A.getM 0 rfl))) (Yi (A.getP 0 rfl))) ?_
           rintro _ iy ⟨a4,ba,g0,rfl,h,ed,ee,ef⟩;refine rt ?_
           replace A:=A.push ef (ZM8 (Y0 162) a4 [ba] g0) ed ee;obtain ⟨eg,eh⟩:=X7 (A.getM 0 rfl);subst eh;replace A:=A.recast (c:=own 162 9 ba a4.terms.length (ZMv.encs a4.terms)) (λ_ V=>V) (λ_=>eg)
           refine done (aK (by assumption) (Zb 12 1023) (aO 10 rfl (Yl A [.slice none 0 0] z55 rfl λg1 iz I A=>done (aK (by assumption) (Zb 12 2047) (Z0 11 (by decide) (by decide) (by kernel_rfl) (by kernel_rfl) rfl (Zz (v:=.agg #[ba]) A 0 [ba] [ba] rfl ag55.size rfl rfl rfl rfl (Xr (X4 (A.getM 1 rfl)) rfl) (ZM2 rfl) rfl λi0 A=>done (Z1 ?_)))))))
           exact⟨rfl,_,rfl,⟨g1,ba,a4,(slq rfl),(A.xM [0,1,4,6,7,8,9,10,11] rfl),h⟩⟩
          ·skip;refine Yl A [.slice none 0 0] z55 rfl λg2 i1 I A=>done (aK (by assumption) (Zb 12 1535) (aO 9 rfl (Zf [u0_0,.agg #[cc],.agg #[ay]] _ ZNl rfl rfl rfl (Zd0 a0.degrees ar (a0.images.getD B.2.toNat ZEu) h _ (A.getP 3 rfl) (Yi (Ym (A.getM 1 rfl))) (Yi (A.getP 0 rfl))) ?_)))
           rintro _ i2 ⟨ce,bb,g3,rfl,h,ei,ej,ek⟩;refine rt ?_
           replace A:=A.push ek (ZM8 (Y0 162) ce [bb] g3) ei ej;obtain ⟨en,eo⟩:=X7 (A.getM 0 rfl);subst eo;replace A:=A.recast (c:=own 162 9 bb ce.terms.length (ZMv.encs ce.terms)) (λ_ V=>V) (λ_=>en)
           refine done (aK (by assumption) (Zb 12 2047) (Z0 11 (by decide) (by decide) (by kernel_rfl) (by kernel_rfl) rfl (Zz (v:=.agg #[bb]) A 1 [bb] [bb] rfl ag55.size rfl rfl rfl rfl (Xr (X4 (A.getM 0 rfl)) rfl) (ZM2 rfl) rfl λi3 A=>done (Z1 ?_))))
           exact⟨rfl,_,rfl,⟨g2,bb,ce,(slq rfl),(A.xM [1,0,4,6,7,8,9,10,11] rfl),h⟩⟩
         ·skip;refine Yl A [.slice none 0 0] z55 rfl λg4 i4 I A=>done (aK (by assumption) (Zb 12 1527) (aO 3 rfl (Zf [.agg (ZHu (ZMs .u8 (L.1.set B.2.toNat (ZM6.wrap ((((a1.terms.getD G.2.toNat ZEu).mono).get B.2.toNat) - 1))))),vI 1] _ ZNn rfl rfl rfl (Zdz (L.1.set B.2.toNat (ZM6.wrap ((((a1.terms.getD G.2.toNat ZEu).mono).get B.2.toNat) - 1))) 1 h _) ?_)))
          rintro _ i5 ⟨cg,c0,g5,rfl,h,ep,er,es⟩;refine rt ?_
          replace A:=A.push es (ZM8 (Y0 162) cg [c0] g5) ep er;obtain ⟨et,eu⟩:=X7 (A.getM 0 rfl);subst eu;replace A:=A.recast (c:=own 162 9 c0 cg.terms.length (ZMv.encs cg.terms)) (λ_ V=>V) (λ_=>et)
          refine done (aK (by assumption) (Zb 12 1535) (aO 9 rfl (Zf [u0_0,.agg #[c0],.agg #[ay]] _ ZNl rfl rfl rfl (Zd0 a0.degrees cg (a0.images.getD B.2.toNat ZEu) h _ (A.getP 3 rfl) (Yi (Ym (A.getM 0 rfl))) (Yi (A.getP 0 rfl))) ?_)))
          rintro _ i6 ⟨ch,bc,g6,rfl,h,ew,ex,ey⟩;refine rt ?_
          replace A:=A.push ey (ZM8 (Y0 162) ch [bc] g6) ew ex;obtain ⟨ez,e1⟩:=X7 (A.getM 0 rfl);subst e1;replace A:=A.recast (c:=own 162 9 bc ch.terms.length (ZMv.encs ch.terms)) (λ_ V=>V) (λ_=>ez)
          refine done (aK (by assumption) (Zb 12 2047) (Z0 11 (by decide) (by decide) (by kernel_rfl) (by kernel_rfl) rfl (Zz (v:=.agg #[bc]) A 2 [bc] [bc] rfl ag55.size rfl rfl rfl rfl (Xr (X4 (A.getM 0 rfl)) rfl) (ZM2 rfl) rfl λi7 A=>done (Z1 ?_))))
          exact⟨rfl,_,rfl,⟨g4,bc,ch,(slq rfl),(A.xM [2,0,4,6,7,8,9,10,11] rfl),h⟩⟩
        ·replace h:=Zm h (cf b8);refine ZMy (Zd (ZMu ?_))
         refine cwd 11 Yh [0,1,0,4,0,16,0,112,240,511,0,2047] [1,2,5,7,8] [0,4,6] (λaz ca i8 I=>?_)
         replace A:=A.grow I;refine bF 0 (vQ b7) rfl rfl ca (λ_=>by exact Yk 0 ZNe rfl sc22.size rfl rfl) (Zb 12 1) (bL 1 (u0_0) rfl rfl az (λ_ I=>by exact Yc (A.grow I) 8 (u0_0) rfl sc22 rfl rfl) (Zb 12 3) (bL 2 (.agg (ZHu (ZMs .u8 (L.1.set B.2.toNat (ZM6.wrap ((((a1.terms.getD G.2.toNat ZEu).mono).get B.2.toNat) - 1)))))) rfl rfl az (λ_ I=>by exact Xa (A.grow I) 0 (ZMs .u8 (L.1.set B.2.toNat (ZM6.wrap ((((a1.terms.getD G.2.toNat ZEu).mono).get B.2.toNat) - 1)))) rfl ag136 rfl rfl rfl) (Zb 12 7) (bF 4 (.pointer (some ⟨b7,1,none⟩)) rfl rfl ca (λ_=>by exact Yk 1 ZNe rfl sc30.size rfl rfl) (Zb 12 23) (bL 5 (u0_1) rfl rfl az (λ_ I=>by exact Yc (A.grow I) 8 (u0_1) rfl sc30 rfl rfl) (Zb 12 55) (bM 6 (vI B.2) rfl ca (Zb 12 119) ?_)))))
         obtain ⟨⟨g7,g8⟩,h⟩:=h;obtain ⟨e2,i9,c6⟩:=Zx (A.getP 1 rfl) B.2.toNat (show B.2.toNat < a0.images.length by omega)
         refine bL 7 (.pointer (some (e2.add (B.2.toNat * 1)))) rfl rfl az (λ_ I=>by exact Y1 (len:=a0.images.length) ZNi ag55.size (by exact tr rfl c6) rfl g7 g8) (Zb 12 247) ?_
         obtain ⟨gv,c7,e3,c8⟩:=Xp (A.getP 1 rfl) c6 B.2.toNat (show B.2.toNat < a0.images.length by omega)
         obtain ⟨a2,rfl⟩:=ZJj.1 c7;clear c7;rw [Xm _ _ (show B.2.toNat < a0.images.length by omega)] at c8
         have e4:=c8;replace A:=A.derive 1 rfl (ZMt ZMv.ty.sl ((a0.images.getD B.2.toNat ZEu).terms) [a2] fp0) (λ_=>(Y9 e4)) (λ_ bo=>bo)
         refine bL 8 (.agg #[a2]) rfl rfl az (λ_ I=>by exact Jr [a2] (Zaw I e3) ag55 rfl rfl) (Zb 12 503) ?_
         refine Zdr (λe_ w_=>∃ (c9:Nat),∃ (bd:Value),∃ (br:ZMw),Zt e_ [(2,vQ b7),(3,vQ ac),(4,vQ ae),(5,vQ ag),(6,vI G.2),(7,vQ ah),(8,vI B.2),(10,vQ aj),(13,vI (ZHf.wrap (((a1.terms.getD G.2.toNat ZEu).factor) * (ZHf.wrap (((a1.terms.getD G.2.toNat ZEu).mono).get B.2.toNat))))),(14,vQ c9)]∧Ctx Nox w0 w_ [blk c9 55 [bd],own 162 9 bd br.terms.length (ZMv.encs br.terms),blk aj 136 (ZMs .u8 L.2),own 162 9 aa B.1.length (ZMv.encs B.1),blk ah 136 (ZMs .u8 ((a1.terms.getD G.2.toNat ZEu).mono)),blk ag 55 [aa],blk ae 55 [.slice none 0 0],blk ac 55 [u1_0],blk b7 32 [u0_0,u0_1]] [ZMt ZMv.ty.sl ((a0.images.getD B.2.toNat ZEu).terms) [a2] fp0,ZMt ZMv.ty.sl a1.terms [u1_0] fp1,ZMt ZNg.sl a0.images [u0_1] fp0,ZMt TInts a0.degrees [u0_0] fp0,ZMt TAlg a0 [u0_0,u0_1] fp0,ZMt TForm a1 [u1_0] fp1]∧(J1 L.2 1 (λan=>Zai a0.degrees br an (λao=>X8 (ZHf.wrap (((a1.terms.getD G.2.toNat ZEu).factor) * (ZHf.wrap (((a1.terms.getD G.2.toNat ZEu).mono).get B.2.toNat)))) (λa7=>Zbd (⟨B.1⟩:ZMw) ao a7 (λap=>bk (ap.terms,ZHf.wrap (B.2+1)))))))) ?_ ?_
         ·clear A h;rintro e_ ja ⟨c9,bd,br,ad,A,h⟩;rw [ue ad];refine Zd ?_
          refine cwd 9 Yh [0,0,2,0,0,16,62,0,254,511,1023] [0,2,3,4] [1,7] (λbn da jb I=>?_)
          replace A:=A.grow I;refine bL 0 (.agg #[aa]) rfl rfl bn (λ_ I=>by exact Xa (A.grow I) 5 [aa] rfl ag55 rfl rfl rfl) (Zb 11 1) (bF 1 (vQ b7) rfl rfl da (λ_=>by exact Yk 0 ZNe rfl sc22.size rfl rfl) (Zb 11 3) (bL 2 (u0_0) rfl rfl bn (λ_ I=>by exact Yc (A.grow I) 8 (u0_0) rfl sc22 rfl rfl) (Zb 11 7) (bL 3 (.agg #[bd]) rfl rfl bn (λ_ I=>by exact Xa (A.grow I) 0 [bd] rfl ag55 rfl rfl rfl) (Zb 11 15) (bL 4 (.agg (ZHu (ZMs .u8 L.2))) rfl rfl bn (λ_ I=>by exact Xa (A.grow I) 2 (ZMs .u8 L.2) rfl ag136 rfl rfl rfl) (Zb 11 31) (bM 7 (vI (ZHf.wrap (((a1.terms.getD G.2.toNat ZEu).factor) * (ZHf.wrap (((a1.terms.getD G.2.toNat ZEu).mono).get B.2.toNat))))) rfl da (Zb 11 159) (aO 5 rfl (Zf [.agg (ZHu (ZMs .u8 L.2)),vI 1] _ ZNn rfl rfl rfl (Zdz L.2 1 h _) ?_)))))))
          rintro _ jc ⟨an,db,g9,rfl,h,e5,e6,e7⟩;refine rt ?_
          replace A:=A.push e7 (ZM8 (Y0 162) an [db] g9) e5 e6;obtain ⟨e8,e9⟩:=X7 (A.getM 0 rfl);subst e9;replace A:=A.recast (c:=own 162 9 db an.terms.length (ZMv.encs an.terms)) (λ_ V=>V) (λ_=>e8)
          refine done (aK (by assumption) (Zb 11 191) (aO 6 rfl (Zf [u0_0,.agg #[bd],.agg #[db]] _ ZNl rfl rfl rfl (Zd0 a0.degrees br an h _ (A.getP 3 rfl) (Yi (Ym (A.getM 2 rfl))) (Yi (Ym (A.getM 0 rfl)))) ?_)))
          rintro _ jd ⟨ao,dc,ha,rfl,h,fa,fb,fc⟩;refine rt ?_
          replace A:=A.push fc (ZM8 (Y0 162) ao [dc] ha) fa fb;obtain ⟨fd,fe⟩:=X7 (A.getM 0 rfl);subst fe;replace A:=A.recast (c:=own 162 9 dc ao.terms.length (ZMv.encs ao.terms)) (λ_ V=>V) (λ_=>fd)
          refine done (aK (by assumption) (Zb 11 255) (aO 8 rfl (Zf [vI (ZHf.wrap (((a1.terms.getD G.2.toNat ZEu).factor) * (ZHf.wrap (((a1.terms.getD G.2.toNat ZEu).mono).get B.2.toNat))))] _ ZNk rfl rfl rfl (Zbo (ZHf.wrap (((a1.terms.getD G.2.toNat ZEu).factor) * (ZHf.wrap (((a1.terms.getD G.2.toNat ZEu).mono).get B.2.toNat)))) h _) ?_)))
          rintro _ je ⟨a7,rfl,h,ff⟩;refine rt ?_
          replace A:=A.grow ff;refine done (aK (by assumption) (Zb 11 511) (Z0 9 (by decide) (by decide) (by kernel_rfl) (by kernel_rfl) rfl (Zf [.agg #[aa],.agg #[dc],vI a7] _ ZNy rfl rfl rfl (Zmu (⟨B.1⟩:ZMw) ao a7 h _ (Yi (Ym (A.getM 5 rfl))) (Yi (Ym (A.getM 0 rfl)))) ?_)))
          rintro _ jf ⟨ap,be,hb,rfl,h,fg,fh,fi⟩;refine rt ?_
          replace A:=A.push fi (ZM8 (Y0 162) ap [be] hb) fg fh;obtain ⟨fj,fk⟩:=X7 (A.getM 0 rfl);subst fk;replace A:=A.recast (c:=own 162 9 be ap.terms.length (ZMv.encs ap.terms)) (λ_ V=>V) (λ_=>fj)
          refine Zz (v:=.agg #[be]) A 8 [be] [be] rfl ag55.size rfl rfl rfl rfl (Xr (X4 (A.getM 0 rfl)) rfl) (ZM2 rfl) rfl λjg A=>done (Z1 (Zq (Zd (Zj (Za (v:=vI B.2) rfl (Zo rfl rfl (Zc (v:=vI (ZHf.wrap (B.2+1))) rfl (done ?_))))))))
          exact bt (ap.terms,ZHf.wrap (B.2+1)) _ _ ⟨be,(slq rfl),((A.xM [0,7,8,9,10,11] rfl).sP [1,2,3,4,5] rfl)⟩ h
         refine Jy 3 10 rfl rfl (by kernel_rfl) ?_ ?_
         ·skip;refine Zf [.agg (ZHu (ZMs .u8 (L.1.set B.2.toNat (ZM6.wrap ((((a1.terms.getD G.2.toNat ZEu).mono).get B.2.toNat) - 1))))),vI 1] _ ZNn rfl rfl rfl (Zdz (L.1.set B.2.toNat (ZM6.wrap ((((a1.terms.getD G.2.toNat ZEu).mono).get B.2.toNat) - 1))) 1 h _) ?_
          rintro _ jh ⟨au,ci,hc,rfl,h,fl,fm,fo⟩;refine rt ?_
          replace A:=A.push fo (ZM8 (Y0 162) au [ci] hc) fl fm;obtain ⟨fq,fr⟩:=X7 (A.getM 0 rfl);subst fr;replace A:=A.recast (c:=own 162 9 ci au.terms.length (ZMv.encs au.terms)) (λ_ V=>V) (λ_=>fq)
          refine done (aK (by assumption) (Zb 12 511) ?_)
          refine Jy 9 10 rfl rfl (by kernel_rfl) ?_ ?_
          ·skip;refine Zf [u0_0,.agg #[ci],.agg #[a2]] _ ZNl rfl rfl rfl (Zd0 a0.degrees au (a0.images.getD B.2.toNat ZEu) h _ (A.getP 3 rfl) (Yi (Ym (A.getM 0 rfl))) (Yi (A.getP 0 rfl))) ?_
           rintro _ ji ⟨a6,bh,he,rfl,h,fs,ft,fu⟩;refine rt ?_
           replace A:=A.push fu (ZM8 (Y0 162) a6 [bh] he) fs ft;obtain ⟨fv,fw⟩:=X7 (A.getM 0 rfl);subst fw;replace A:=A.recast (c:=own 162 9 bh a6.terms.length (ZMv.encs a6.terms)) (λ_ V=>V) (λ_=>fv)
           refine done (aK (by assumption) (Zb 12 1023) (aO 10 rfl (Yl A [.slice none 0 0] z55 rfl λhf jj I A=>done (aK (by assumption) (Zb 12 2047) (Z0 11 (by decide) (by decide) (by kernel_rfl) (by kernel_rfl) rfl (Zz (v:=.agg #[bh]) A 0 [bh] [bh] rfl ag55.size rfl rfl rfl rfl (Xr (X4 (A.getM 1 rfl)) rfl) (ZM2 rfl) rfl λjk A=>done (Z1 ?_)))))))
           exact⟨rfl,_,rfl,⟨hf,bh,a6,(slq rfl),(A.xM [0,1,4,6,7,8,9,10,11] rfl),h⟩⟩
          ·skip;refine Yl A [.slice none 0 0] z55 rfl λhg jl I A=>done (aK (by assumption) (Zb 12 1535) (aO 9 rfl (Zf [u0_0,.agg #[ci],.agg #[a2]] _ ZNl rfl rfl rfl (Zd0 a0.degrees au (a0.images.getD B.2.toNat ZEu) h _ (A.getP 3 rfl) (Yi (Ym (A.getM 1 rfl))) (Yi (A.getP 0 rfl))) ?_)))
           rintro _ jm ⟨cj,bi,hh,rfl,h,fx,fy,fz⟩;refine rt ?_
           replace A:=A.push fz (ZM8 (Y0 162) cj [bi] hh) fx fy;obtain ⟨f0,f1⟩:=X7 (A.getM 0 rfl);subst f1;replace A:=A.recast (c:=own 162 9 bi cj.terms.length (ZMv.encs cj.terms)) (λ_ V=>V) (λ_=>f0)
           refine done (aK (by assumption) (Zb 12 2047) (Z0 11 (by decide) (by decide) (by kernel_rfl) (by kernel_rfl) rfl (Zz (v:=.agg #[bi]) A 1 [bi] [bi] rfl ag55.size rfl rfl rfl rfl (Xr (X4 (A.getM 0 rfl)) rfl) (ZM2 rfl) rfl λjn A=>done (Z1 ?_))))
           exact⟨rfl,_,rfl,⟨hg,bi,cj,(slq rfl),(A.xM [1,0,4,6,7,8,9,10,11] rfl),h⟩⟩
         ·skip;refine Yl A [.slice none 0 0] z55 rfl λhk jo I A=>done (aK (by assumption) (Zb 12 1527) (aO 3 rfl (Zf [.agg (ZHu (ZMs .u8 (L.1.set B.2.toNat (ZM6.wrap ((((a1.terms.getD G.2.toNat ZEu).mono).get B.2.toNat) - 1))))),vI 1] _ ZNn rfl rfl rfl (Zdz (L.1.set B.2.toNat (ZM6.wrap ((((a1.terms.getD G.2.toNat ZEu).mono).get B.2.toNat) - 1))) 1 h _) ?_)))
          rintro _ jp ⟨ck,dd,hl,rfl,h,f2,f3,f4⟩;refine rt ?_
          replace A:=A.push f4 (ZM8 (Y0 162) ck [dd] hl) f2 f3;obtain ⟨f5,f6⟩:=X7 (A.getM 0 rfl);subst f6;replace A:=A.recast (c:=own 162 9 dd ck.terms.length (ZMv.encs ck.terms)) (λ_ V=>V) (λ_=>f5)
          refine done (aK (by assumption) (Zb 12 1535) (aO 9 rfl (Zf [u0_0,.agg #[dd],.agg #[a2]] _ ZNl rfl rfl rfl (Zd0 a0.degrees ck (a0.images.getD B.2.toNat ZEu) h _ (A.getP 3 rfl) (Yi (Ym (A.getM 0 rfl))) (Yi (A.getP 0 rfl))) ?_)))
          rintro _ jq ⟨cl,bj,hm,rfl,h,f7,f8,f9⟩;refine rt ?_
          replace A:=A.push f9 (ZM8 (Y0 162) cl [bj] hm) f7 f8;obtain ⟨ga,gb⟩:=X7 (A.getM 0 rfl);subst gb;replace A:=A.recast (c:=own 162 9 bj cl.terms.length (ZMv.encs cl.terms)) (λ_ V=>V) (λ_=>ga)
          refine done (aK (by assumption) (Zb 12 2047) (Z0 11 (by decide) (by decide) (by kernel_rfl) (by kernel_rfl) rfl (Zz (v:=.agg #[bj]) A 2 [bj] [bj] rfl ag55.size rfl rfl rfl rfl (Xr (X4 (A.getM 0 rfl)) rfl) (ZM2 rfl) rfl λjr A=>done (Z1 ?_))))
          exact⟨rfl,_,rfl,⟨hk,bj,cl,(slq rfl),(A.xM [2,0,4,6,7,8,9,10,11] rfl),h⟩⟩
       ·skip;exact⟨(slq rfl),A⟩
      refine Jy 2 3 rfl rfl (by kernel_rfl) ?_ ?_
      ·skip;refine Zj9 A (ZMs .u8 ZMz) Zbn rfl λhn js a3 I A=>?_
       have hnb_b13098:=ZEv U a3;refine done ?_
       refine Xb (Ji U (by assumption)) U (l9:=(Zb 6 7)) (by kernel_rfl) (λU=>?_)
       refine aO 3 rfl (Zj9 A (ZMs .u8 ZMz) Zbn rfl λho ju a3 I A=>?_)
       have hnb_b13101:=ZEv U a3;refine done ?_
       refine Xb (Ji U (by assumption)) U (l9:=(Zb 6 15)) (by kernel_rfl) (λU=>?_)
       refine aO 4 rfl (Zqb (v:=.agg (ZHu (ZMs .u8 ((a1.terms.getD G.2.toNat ZEu).mono)))) A 1 (ZMs .u8 ((a1.terms.getD G.2.toNat ZEu).mono)) (ZMs .u8 ((a1.terms.getD G.2.toNat ZEu).mono)) rfl ag136.size rfl rfl rfl rfl rfl (ZM2 rfl) rfl λjv cb A=>done ?_)
       refine Xb (Zac U hnb_b13098 cb) U (l9:=(Zb 6 31)) (by kernel_rfl) (λU=>?_)
       refine Z0 5 (by decide) (by decide) (by kernel_rfl) (by kernel_rfl) rfl (Zz (v:=.agg (ZHu (ZMs .u8 ((a1.terms.getD G.2.toNat ZEu).mono)))) A 0 (ZMs .u8 ((a1.terms.getD G.2.toNat ZEu).mono)) (ZMs .u8 ((a1.terms.getD G.2.toNat ZEu).mono)) rfl ag136.size rfl rfl rfl rfl rfl (ZM2 rfl) rfl λjw A=>done (Z1 ?_))
       exact⟨rfl,_,rfl,⟨ho,hn,(slq rfl),A,h⟩⟩
      ·skip;refine Zj9 A (ZMs .u8 ZMz) Zbn rfl λhp jx a3 I A=>?_
       have hnb_b13106:=ZEv U a3;refine done ?_
       refine Xb (Ji U (by assumption)) U (l9:=(Zb 6 11)) (by kernel_rfl) (λU=>?_)
       refine aO 2 rfl (Zj9 A (ZMs .u8 ZMz) Zbn rfl λhq jy a3 I A=>?_)
       have hnb_b13109:=ZEv U a3;refine done ?_
       refine Xb (Ji U (by assumption)) U (l9:=(Zb 6 15)) (by kernel_rfl) (λU=>?_)
       refine aO 4 rfl (Zqb (v:=.agg (ZHu (ZMs .u8 ((a1.terms.getD G.2.toNat ZEu).mono)))) A 0 (ZMs .u8 ((a1.terms.getD G.2.toNat ZEu).mono)) (ZMs .u8 ((a1.terms.getD G.2.toNat ZEu).mono)) rfl ag136.size rfl rfl rfl rfl rfl (ZM2 rfl) rfl λjz cb A=>done ?_)
       refine Xb (Zac U hnb_b13109 cb) U (l9:=(Zb 6 31)) (by kernel_rfl) (λU=>?_)
       refine Z0 5 (by decide) (by decide) (by kernel_rfl) (by kernel_rfl) rfl (Zz (v:=.agg (ZHu (ZMs .u8 ((a1.terms.getD G.2.toNat ZEu).mono)))) A 1 (ZMs .u8 ((a1.terms.getD G.2.toNat ZEu).mono)) (ZMs .u8 ((a1.terms.getD G.2.toNat ZEu).mono)) rfl ag136.size rfl rfl rfl rfl rfl (ZM2 rfl) rfl λj0 A=>done (Z1 ?_))
       exact⟨rfl,_,rfl,⟨hp,hq,(slq rfl),(A.xM [1,0,2,3,4,5,6,7] rfl),h⟩⟩
    ·replace h:=Zm h (cf bu);refine ZM9 (Zk (Zk (Zy ?_)))
     refine Zq (Zd (Zj (Za (v:=vI G.2) rfl (Zo rfl rfl (Zc (v:=vI (ZHf.wrap (G.2+1))) rfl (done ?_))))))
     exact dj (B.1,ZHf.wrap (G.2+1)) _ _ ⟨aa,(slq rfl),(A.xM [0,2,3,4,5] rfl)⟩ h
   ·skip;exact⟨ai,(slq rfl),(A.xM [1,0,2,3,4,5] rfl)⟩
  ·replace h:=Zm h (cf bs);refine ZM9 (Zk (Zk (Zy ?_)))
   refine Zd (sr (Yb A 1 [ai] rfl ag55 rfl rfl rfl (Zz (v:=.agg #[ai]) A 2 [ai] [ai] rfl ag55.size rfl rfl rfl rfl (Xr (X4 (A.getM 0 rfl)) rfl) (ZM2 rfl) rfl λj1 A=>dn (ZM3 ?_))))
   exact Zi rfl (Zag A 2 rfl ag55 rfl rfl) ⟨(⟨G.1⟩:ZMw),ai,(ZNu (ZFo ai)),rfl,h,(Zc5 (Xx (A.getM 0 rfl))),(Yt A 0 rfl),A.below⟩ (.inl rfl)
 ·skip;replace A:=A.pushNil 162 9;exact⟨.slice none 0 0,(slq rfl),A⟩
def Zfz (a0:Alg) (K:Bool→Prop):Prop :=
 Zhr a0.degrees (λI=>(if¬ (I=true) then K false else(if(a0.images.length:Int)≠(a0.degrees.length:Int) then K false else Xt (λ(h:Int) B=>(if h < (a0.images.length:Int) then((0≤h∧h < (a0.images.length:Int))∧Zfx a0.degrees (a0.images.getD h.toNat ZEu) (λL=>(if¬ (L=true) then K false else((0≤h∧h < (a0.images.length:Int))∧Zfy a0.degrees (a0.images.getD h.toNat ZEu) (λO U=>(if¬ (U=true) then K false else((0≤h∧h < (a0.images.length:Int))∧(if(((a0.images.getD h.toNat ZEu).terms).length:Int) > 0 then((0≤h∧h < (a0.degrees.length:Int))∧(if O≠ZHf.wrap ((a0.degrees.getD h.toNat ZEu)+1) then K false else B (ZHf.wrap (h+1)))) else B (ZHf.wrap (h+1)))))))))) else Xt (λ(A:Int) G=>(if A < (a0.images.length:Int) then((0≤A∧A < (a0.images.length:Int))∧Zc7 a0 (a0.images.getD A.toNat ZEu) (λV=>(if(V.terms.length:Int) > 0 then K false else G (ZHf.wrap (A+1))))) else K true)) 0)) 0)))
theorem Zqh (a0:Alg)  {K:Bool→Prop} (h:Zfz a0 K) (w0:World) (q0:TAlg.rep a0 [u0_0,u0_1] fp0 w0) :
  Calls ZMx 92 #[.agg #[u0_0,u0_1]] w0 λe w'=>∃ (r0:Bool),
   e=.returned (.bool r0)∧K r0∧Bel w0 w':=by
 unfold Zfz at h
 refine cof Tryz.func92 rfl 86 Tryz.ntmps92 ?_
 have A:=ZNf (X:=Nox) w0 [ZMt TAlg a0 [u0_0,u0_1] fp0] (al1 q0);replace A:=A.dAlg 0 rfl;refine sr (Ya (v:=.agg #[u0_0,u0_1]) A [u0_0,u0_1] rfl rfl λb4 w6 L A=>Zc (v:=.bool false) rfl (dn (ZMu (sr (Zu 0 ZNe rfl sc22.size rfl rfl (Z5 A 0 (u0_0) rfl sc22 rfl rfl (Zf [u0_0] _ Tryz.func149 rfl rfl rfl (Zwl a0.degrees h _ (A.getP 1 rfl)) ?_)))))))
 rintro _ w9 ⟨bd,rfl,h,bh⟩;refine rt ?_
 replace A:=A.grow bh;refine Xe rfl (Za (v:=.bool (!bd)) rfl ?_)
 refine Y6 (!bd) (λO=>?_) (λO=>?_)
 ·replace h:=ift h (Yz (Xi O));refine Zg (b:=true) 4 11 rfl (tr rfl (congrArg _ O)) (by decide) (Zg (b:=true) 4 11 rfl (tr rfl (congrArg _ O)) (by decide) (Zg (b:=true) 4 11 rfl (tr rfl (congrArg _ O)) (by decide) (Zg (b:=true) 4 11 rfl (tr rfl (congrArg _ O)) (by decide) (Zg (b:=true) 4 11 rfl (tr rfl (congrArg _ O)) (by decide) (Zg (b:=true) 4 11 rfl (tr rfl (congrArg _ O)) (by decide) (Zg (b:=true) 4 11 rfl (tr rfl (congrArg _ O)) (by decide) (Zs (v:=.bool true) (b:=true) (tr rfl (congrArg _ O)) rfl (dn (Z3 rfl rfl (sr (Zc (v:=.bool false) rfl (dn ?_))))))))))))
  refine ZM3 (Zl ?_)
  exact Zi rfl (Ze rfl) ⟨false,rfl,h,A.below⟩ (.inl rfl)
 ·replace h:=Zm h (not_not_intro ((Xj O)));refine Zh 4 11 rfl rfl O (Zu 1 ZNe rfl sc30.size rfl rfl (Zh 4 11 rfl rfl O (Z5 A 0 (u0_1) rfl sc30 rfl rfl (Zh 4 11 rfl rfl O (Zw A 0 rfl ZNi rfl (Zh 4 11 rfl rfl O (Zu 0 ZNe rfl sc22.size rfl rfl (Zh 4 11 rfl rfl O (Z5 A 0 (u0_0) rfl sc22 rfl rfl (Zh 4 11 rfl rfl O (Zw A 1 rfl ZNd rfl (Zh 4 11 rfl rfl O (Y2 rfl rfl (Zs (v:=.bool (decide ((a0.images.length:Int)≠(a0.degrees.length:Int)))) (b:=false) (tr rfl (congrArg _ O)) rfl (dn ?_)))))))))))))))
  refine Zp rfl (λah=>?_) (λah=>?_)
  ·replace h:=ift h (ct ah);refine sr (Zc (v:=.bool false) rfl (dn ?_))
   refine ZM3 (Zl ?_)
   exact Zi rfl (Ze rfl) ⟨false,rfl,h,A.below⟩ (.inl rfl)
  ·replace h:=Zm h (cf ah);refine ZMy (Zd (ZMu (sr (Zc (v:=vI 0) rfl (dn (ZM0 ?_))))))
   refine X6 (S:=Int) _ (λB e_ w_=>Zt e_ [(1,vQ b4),(3,vI B)]∧Ctx Nox w0 w_ [blk b4 32 [u0_0,u0_1]] [ZMt ZNg.sl a0.images [u0_1] fp0,ZMt TInts a0.degrees [u0_0] fp0,ZMt TAlg a0 [u0_0,u0_1] fp0]) ?_ (s0:=0) ?_ h
   ·clear A h;rintro B e_ cu cn cv ⟨ar,A⟩ h au;rw [ue ar];refine ZMu (sr (Za (v:=vI B) rfl (Zu 1 ZNe rfl sc30.size rfl rfl (Z5 A 0 (u0_1) rfl sc30 rfl rfl (Zw A 0 rfl ZNi rfl (Zn rfl rfl (dn ?_)))))))
    refine Zp rfl (λai=>?_) (λai=>?_)
    ·replace h:=ift h (ct ai);refine ZMy (Zd (ZMu (ZM0 (ZMu (ZMu ?_)))))
     refine cwd 7 Yh [0,1,0,4,0,28,60,127,255] [1,3,5,6] [0,2,4] (λad aj cw L=>?_)
     replace A:=A.grow L;refine bF 0 (vQ b4) rfl rfl aj (λ_=>by exact Yk 0 ZNe rfl sc22.size rfl rfl) (Zb 9 1) (bL 1 (u0_0) rfl rfl ad (λ_ L=>by exact Yc (A.grow L) 0 (u0_0) rfl sc22 rfl rfl) (Zb 9 3) (bF 2 (.pointer (some ⟨b4,1,none⟩)) rfl rfl aj (λ_=>by exact Yk 1 ZNe rfl sc30.size rfl rfl) (Zb 9 7) (bL 3 (u0_1) rfl rfl ad (λ_ L=>by exact Yc (A.grow L) 0 (u0_1) rfl sc30 rfl rfl) (Zb 9 15) (bM 4 (vI B) rfl aj (Zb 9 31) ?_))))
     obtain ⟨⟨ca,cb⟩,h⟩:=h;obtain ⟨bi,cx,av⟩:=Zx (A.getP 0 rfl) B.toNat (show B.toNat < a0.images.length by omega)
     refine bL 5 (.pointer (some (bi.add (B.toNat * 1)))) rfl rfl ad (λ_ L=>by exact Y1 (len:=a0.images.length) ZNi ag55.size (by exact tr rfl av) rfl ca cb) (Zb 9 63) ?_
     obtain ⟨aw,ax,bj,ay⟩:=Xp (A.getP 0 rfl) av B.toNat (show B.toNat < a0.images.length by omega)
     obtain ⟨ao,rfl⟩:=ZJj.1 ax;clear ax;rw [Xm _ _ (show B.toNat < a0.images.length by omega)] at ay
     have bk:=ay;replace A:=A.derive 0 rfl (ZMt ZMv.ty.sl ((a0.images.getD B.toNat ZEu).terms) [ao] fp0) (λ_=>(Y9 bk)) (λ_ aa=>aa)
     refine bL 6 (.agg #[ao]) rfl rfl ad (λ_ L=>by exact Jr [ao] (Zaw L bj) ag55 rfl rfl) (Zb 9 127) (Z0 7 (by decide) (by decide) (by kernel_rfl) (by kernel_rfl) rfl (Zf [u0_0,.agg #[ao]] _ Tryz.func120 rfl rfl rfl (Zqf a0.degrees (a0.images.getD B.toNat ZEu) h _ (A.getP 2 rfl) (Yi (A.getP 0 rfl))) ?_))
     rintro _ cy ⟨cz,rfl,h,bl⟩;refine rt ?_
     replace A:=A.grow bl;refine Xe rfl (done (Z1 (Zd ?_)))
     refine Zp rfl (λak=>?_) (λak=>?_)
     ·replace h:=ift h (Yz (Xi ak));refine sr (Zc (v:=.bool false) rfl (dn ?_))
      refine ZM3 (Zl (Z8 (Zl (Zl (Z8 (Zl ?_))))))
      exact Zi rfl (Ze rfl) ⟨false,rfl,h,A.below⟩ (.inl rfl)
     ·replace h:=Zm h (not_not_intro ((Xj ak)));refine ZMy (Zd (ZMu ?_))
      refine cwd 12 Yh [0,1,0,4,0,28,60,127,255,511,511,1023,4095] [1,3,5,6] [0,2,4,8,9,10,11] (λae V c0 L=>?_)
      replace A:=A.grow L;refine bF 0 (vQ b4) rfl rfl V (λ_=>by exact Yk 0 ZNe rfl sc22.size rfl rfl) (Zb 13 1) (bL 1 (u0_0) rfl rfl ae (λ_ L=>by exact Yc (A.grow L) 0 (u0_0) rfl sc22 rfl rfl) (Zb 13 3) (bF 2 (.pointer (some ⟨b4,1,none⟩)) rfl rfl V (λ_=>by exact Yk 1 ZNe rfl sc30.size rfl rfl) (Zb 13 7) (bL 3 (u0_1) rfl rfl ae (λ_ L=>by exact Yc (A.grow L) 0 (u0_1) rfl sc30 rfl rfl) (Zb 13 15) (bM 4 (vI B) rfl V (Zb 13 31) ?_))))
      obtain ⟨⟨cc,ce⟩,h⟩:=h;obtain ⟨bm,c6,az⟩:=Zx (A.getP 1 rfl) B.toNat (show B.toNat < a0.images.length by omega)
      refine bL 5 (.pointer (some (bm.add (B.toNat * 1)))) rfl rfl ae (λ_ L=>by exact Y1 (len:=a0.images.length) ZNi ag55.size (by exact tr rfl az) rfl cc ce) (Zb 13 63) ?_
      obtain ⟨aw,a1,bn,a2⟩:=Xp (A.getP 1 rfl) az B.toNat (show B.toNat < a0.images.length by omega)
      obtain ⟨ap,rfl⟩:=ZJj.1 a1;clear a1;rw [Xm _ _ (show B.toNat < a0.images.length by omega)] at a2
      have bo:=a2;replace A:=A.derive 1 rfl (ZMt ZMv.ty.sl ((a0.images.getD B.toNat ZEu).terms) [ap] fp0) (λ_=>(Y9 bo)) (λ_ aa=>aa)
      refine bL 6 (.agg #[ap]) rfl rfl ae (λ_ L=>by exact Jr [ap] (Zaw L bn) ag55 rfl rfl) (Zb 13 127) (aO 7 rfl (Zf [u0_0,.agg #[ap]] _ Tryz.func69 rfl rfl rfl (Zqg a0.degrees (a0.images.getD B.toNat ZEu) h _ (A.getP 3 rfl) (Yi (A.getP 0 rfl))) ?_))
      rintro _ c7 ⟨ab,ac,rfl,h,bp⟩;refine rt ?_
      replace A:=A.grow bp;refine done (aK (by assumption) (Zb 13 255) (bM 8 (.tuple #[vI ab,.bool ac]) rfl V (Zb 13 511) (bF 9 (vI ab) rfl rfl V (λ_=>by exact Zce (v:=vI ab) rfl rfl) (Zb 13 1023) (bF 10 (.bool ac) rfl rfl V (λ_=>by exact Zce (v:=.bool ac) rfl rfl) (Zb 13 2047) (bA 11 (vI ab) rfl V (Zb 13 4095) (Z0 12 (by decide) (by decide) (by kernel_rfl) (by kernel_rfl) rfl (Zc (v:=.bool ac) rfl (done (Z1 (Zd (sr (Za (v:=.bool ac) rfl (Xe rfl (Za (v:=.bool (!ac)) rfl ?_))))))))))))))
      refine Y6 (!ac) (λG=>?_) (λG=>?_)
      ·replace h:=ift h (Yz (Xi G));refine Zg (b:=true) 2 49 rfl (tr rfl (congrArg _ G)) (by decide) (Zg (b:=true) 2 49 rfl (tr rfl (congrArg _ G)) (by decide) (Zg (b:=true) 2 49 rfl (tr rfl (congrArg _ G)) (by decide) (Zg (b:=true) 2 49 rfl (tr rfl (congrArg _ G)) (by decide) (Zg (b:=true) 2 49 rfl (tr rfl (congrArg _ G)) (by decide) (Zg (b:=true) 2 49 rfl (tr rfl (congrArg _ G)) (by decide) (Zg (b:=true) 2 49 rfl (tr rfl (congrArg _ G)) (by decide) (Zg (b:=true) 2 49 rfl (tr rfl (congrArg _ G)) (by decide) (Zg (b:=true) 2 49 rfl (tr rfl (congrArg _ G)) (by decide) (Yq 11 58 rfl rfl (Yq 11 58 rfl rfl (Yq 11 58 rfl rfl (Yq 11 58 rfl rfl (Yq 11 58 rfl rfl (Yq 11 58 rfl rfl (Yq 11 58 rfl rfl (Yq 11 58 rfl rfl (Zg (b:=true) 2 49 rfl (tr rfl (congrArg _ G)) (by decide) (Zs (v:=.bool true) (b:=true) (tr rfl (congrArg _ G)) rfl (dn (Z3 rfl rfl (sr (Zc (v:=.bool false) rfl (dn ?_)))))))))))))))))))))))
       refine ZM3 (Z8 (Zl (Zl (Z8 (Zl ?_)))))
       exact Zi rfl (Ze rfl) ⟨false,rfl,h,A.below⟩ (.inl rfl)
      ·replace h:=Zm h (not_not_intro ((Xj G)));refine Zh 2 49 rfl rfl G (Zu 1 ZNe rfl sc30.size rfl rfl (Zh 2 49 rfl rfl G (Z5 A 0 (u0_1) rfl sc30 rfl rfl (Zh 2 49 rfl rfl G (Za (v:=vI B) rfl (Zh 2 49 rfl rfl G ?_))))))
       obtain ⟨⟨cg,ch⟩,h⟩:=h;obtain ⟨cp,c8,a3⟩:=Zx (A.getP 2 rfl) B.toNat (show B.toNat < a0.images.length by omega)
       refine Ys (len:=a0.images.length) ZNi ag55.size (tr rfl a3) rfl cg ch (Zh 2 49 rfl rfl G (Zei (B.toNat * 1+0) ZM1 rfl sc53.size rfl rfl (Zh 2 49 rfl rfl G ?_)))
       obtain ⟨aw,a4,bq,a5⟩:=Xp (A.getP 2 rfl) a3 B.toNat (show B.toNat < a0.images.length by omega)
       obtain ⟨be,rfl⟩:=ZJj.1 a4;clear a4;rw [Xm _ _ (show B.toNat < a0.images.length by omega)] at a5
       have br:=a5;replace A:=A.derive 2 rfl (ZMt ZMv.ty.sl ((a0.images.getD B.toNat ZEu).terms) [be] fp0) (λ_=>(Y9 br)) (λ_ aa=>aa)
       refine Yr (be) (Jz (o:=0) (k:=1) bq rfl) sc53 rfl (Zh 2 49 rfl rfl G (Zw A 0 rfl ZM4 rfl (Zh 2 49 rfl rfl G (Ja rfl rfl (Zh 2 49 rfl rfl G (Za (v:=.bool (decide ((((a0.images.getD B.toNat ZEu).terms).length:Int) > 0))) rfl ?_))))))
       refine Y6 (decide ((((a0.images.getD B.toNat ZEu).terms).length:Int) > 0)) (λI=>?_) (λI=>?_)
       ·replace h:=ift h (ct I);refine Zh 11 58 rfl rfl I (Za (v:=vI ab) rfl (Zh 11 58 rfl rfl I (Zu 0 ZNe rfl sc22.size rfl rfl (Zh 11 58 rfl rfl I (Z5 A 0 (u0_0) rfl sc22 rfl rfl (Zh 11 58 rfl rfl I (Za (v:=vI B) rfl (Zh 11 58 rfl rfl I ?_))))))))
        obtain ⟨⟨ci,cj⟩,h⟩:=h;obtain ⟨cq,c9,a6⟩:=Zx (A.getP 4 rfl) B.toNat (show B.toNat < a0.degrees.length by omega)
        refine Ys (len:=a0.degrees.length) ZNd sc2.size (tr rfl a6) rfl ci cj (Zh 11 58 rfl rfl I (Yr (vI (a0.degrees.getD B.toNat ZEu)) (Ye (A.getP 4 rfl) a6 B.toNat (show B.toNat < a0.degrees.length by omega)) sc2 rfl (Zh 11 58 rfl rfl I (Zo rfl rfl (Zh 11 58 rfl rfl I (Y2 rfl rfl (Zh 2 49 rfl rfl G (Zs (v:=.bool (decide (ab≠ZHf.wrap ((a0.degrees.getD B.toNat ZEu)+1)))) (b:=true) (tr rfl (congrArg _ I)) rfl (Zs (v:=.bool (decide (ab≠ZHf.wrap ((a0.degrees.getD B.toNat ZEu)+1)))) (b:=false) (tr rfl (congrArg _ G)) rfl (dn ?_))))))))))
        refine Zp rfl (λal=>?_) (λal=>?_)
        ·replace h:=ift h (ct al);refine sr (Zc (v:=.bool false) rfl (dn ?_))
         refine ZM3 (Z8 (Zl (Zl (Z8 (Zl ?_)))))
         exact Zi rfl (Ze rfl) ⟨false,rfl,h,A.below⟩ (.inl rfl)
        ·replace h:=Zm h (cf al);refine ZMy (Zq (Zd (Zj (Za (v:=vI B) rfl (Zo rfl rfl (Zc (v:=vI (ZHf.wrap (B+1))) rfl (done ?_)))))))
         exact au (ZHf.wrap (B+1)) _ _ ⟨(slq rfl),(A.sP [3,4,5] rfl)⟩ h
       ·replace h:=Zm h (cf I);refine Zg (b:=false) 11 58 rfl (tr rfl (congrArg _ I)) (by decide) (Zg (b:=false) 11 58 rfl (tr rfl (congrArg _ I)) (by decide) (Zg (b:=false) 11 58 rfl (tr rfl (congrArg _ I)) (by decide) (Zg (b:=false) 11 58 rfl (tr rfl (congrArg _ I)) (by decide) (Zg (b:=false) 11 58 rfl (tr rfl (congrArg _ I)) (by decide) (Zg (b:=false) 11 58 rfl (tr rfl (congrArg _ I)) (by decide) (Zg (b:=false) 11 58 rfl (tr rfl (congrArg _ I)) (by decide) (Zg (b:=false) 11 58 rfl (tr rfl (congrArg _ I)) (by decide) (Zh 2 49 rfl rfl G (Zs (v:=.bool false) (b:=false) (tr rfl (congrArg _ I)) rfl (Zs (v:=.bool false) (b:=false) (tr rfl (congrArg _ G)) rfl (dn (Z2 rfl rfl (ZMy (Zq (Zd (Zj (Za (v:=vI B) rfl (Zo rfl rfl (Zc (v:=vI (ZHf.wrap (B+1))) rfl (done ?_))))))))))))))))))))
        exact au (ZHf.wrap (B+1)) _ _ ⟨(slq rfl),(A.sP [3,4,5] rfl)⟩ h
    ·replace h:=Zm h (cf ai);refine ZM9 (Zk (Zk (Zy ?_)))
     refine Zd (ZMu (sr (Zc (v:=vI 0) rfl (dn (ZM0 ?_)))))
     refine X6 (S:=Int) _ (λU e_ w_=>Zt e_ [(1,vQ b4),(6,vI U)]∧Ctx Nox w0 w_ [blk b4 32 [u0_0,u0_1]] [ZMt ZNg.sl a0.images [u0_1] fp0,ZMt TInts a0.degrees [u0_0] fp0,ZMt TAlg a0 [u0_0,u0_1] fp0]) ?_ (s0:=0) ?_ h
     ·clear A h;rintro U e_ da cr db ⟨ar,A⟩ h bs;rw [ue ar];refine ZMu (sr (Za (v:=vI U) rfl (Zu 1 ZNe rfl sc30.size rfl rfl (Z5 A 0 (u0_1) rfl sc30 rfl rfl (Zw A 0 rfl ZNi rfl (Zn rfl rfl (dn ?_)))))))
      refine Zp rfl (λam=>?_) (λam=>?_)
      ·replace h:=ift h (ct am);refine ZMy (Zd (ZMu (ZM0 (ZMu ?_))))
       refine cwd 6 Yh [0,0,2,0,14,30,63,127,255,511] [0,2,4,5] [1,3] (λag a7 dc L=>?_)
       replace A:=A.grow L;refine bL 0 (.agg #[u0_0,u0_1]) rfl rfl ag (λ_ L=>by exact Xa (A.grow L) 0 [u0_0,u0_1] rfl ag32 rfl rfl rfl) (Zb 10 1) (bF 1 (.pointer (some ⟨b4,1,none⟩)) rfl rfl a7 (λ_=>by exact Yk 1 ZNe rfl sc30.size rfl rfl) (Zb 10 3) (bL 2 (u0_1) rfl rfl ag (λ_ L=>by exact Yc (A.grow L) 0 (u0_1) rfl sc30 rfl rfl) (Zb 10 7) (bM 3 (vI U) rfl a7 (Zb 10 15) ?_)))
       obtain ⟨⟨ck,cl⟩,h⟩:=h;obtain ⟨bt,dd,a8⟩:=Zx (A.getP 0 rfl) U.toNat (show U.toNat < a0.images.length by omega)
       refine bL 4 (.pointer (some (bt.add (U.toNat * 1)))) rfl rfl ag (λ_ L=>by exact Y1 (len:=a0.images.length) ZNi ag55.size (by exact tr rfl a8) rfl ck cl) (Zb 10 31) ?_
       obtain ⟨aw,a9,bu,ba⟩:=Xp (A.getP 0 rfl) a8 U.toNat (show U.toNat < a0.images.length by omega)
       obtain ⟨aq,rfl⟩:=ZJj.1 a9;clear a9;rw [Xm _ _ (show U.toNat < a0.images.length by omega)] at ba
       have bv:=ba;replace A:=A.derive 0 rfl (ZMt ZMv.ty.sl ((a0.images.getD U.toNat ZEu).terms) [aq] fp0) (λ_=>(Y9 bv)) (λ_ aa=>aa)
       refine bL 5 (.agg #[aq]) rfl rfl ag (λ_ L=>by exact Jr [aq] (Zaw L bu) ag55 rfl rfl) (Zb 10 63) (Z0 6 (by decide) (by decide) (by kernel_rfl) (by kernel_rfl) rfl (Zf [.agg #[u0_0,u0_1],.agg #[aq]] _ Tryz.func71 rfl rfl rfl (Zmw a0 (a0.images.getD U.toNat ZEu) h _ (Y3 (A.getP 2 rfl) (A.getP 1 rfl)) (Yi (A.getP 0 rfl))) ?_))
       rintro _ de ⟨bb,bc,cm,rfl,h,bw,bx,bz⟩;refine rt ?_
       replace A:=A.push bz (ZM8 (Y0 162) bb [bc] cm) bw bx;obtain ⟨b8,b9⟩:=X7 (A.getM 0 rfl);subst b9;replace A:=A.recast (c:=own 162 9 bc bb.terms.length (ZMv.encs bb.terms)) (λ_ h_=>h_) (λ_=>b8)
       refine Zp6 (bc) ZM1 rfl sc53 rfl rfl (Za4 A 0 rfl ZM4 rfl (Ja rfl rfl (done (Z1 (Zd ?_)))))
       refine Zp rfl (λan=>?_) (λan=>?_)
       ·replace h:=ift h (ct an);refine sr (Zc (v:=.bool false) rfl (dn ?_))
        refine ZM3 (Z8 (Zl (Zl (Z8 (Zl ?_)))))
        exact Zi rfl (Ze rfl) ⟨false,rfl,h,A.below⟩ (.inl rfl)
       ·replace h:=Zm h (cf an);refine ZMy (Zq (Zd (Zj (Za (v:=vI U) rfl (Zo rfl rfl (Zc (v:=vI (ZHf.wrap (U+1))) rfl (done ?_)))))))
        exact bs (ZHf.wrap (U+1)) _ _ ⟨(slq rfl),((A.xM [1] rfl).sP [1,2,3] rfl)⟩ h
      ·replace h:=Zm h (cf am);refine ZM9 (Zk (Zk (Zy ?_)))
       refine Zd (sr (Zc (v:=.bool true) rfl (dn (ZM3 ?_))))
       exact Zi rfl (Ze rfl) ⟨true,rfl,h,A.below⟩ (.inl rfl)
     ·skip;exact⟨(slq rfl),A⟩
   ·skip;exact⟨(slq rfl),A⟩
def Zc8 (h:Int) (K:Int→Prop):Prop :=
 K (ZFl (ZHf.wrap ((ZFl h 10007)+10007)) 10007)
theorem Zmx (A:Int)  {K:Int→Prop} (h:Zc8 A K) (w0:World)  :
  Calls ZMx 187 #[vI A] w0 λe w'=>∃ (B:Int),
   e=.returned (vI B)∧K B∧Bel w0 w':=by
 unfold Zc8 at h
 refine cof Tryz.func187 rfl 7 Tryz.ntmps187 ?_
 have G:=ZNf (X:=Nox) w0 [] (by simp)
 refine sr (Zc (v:=vI 0) rfl (dn (sr (Za (v:=vI A) rfl (X3 rfl rfl (by decide) (Zo rfl rfl (X3 rfl rfl (by decide) (Zc (v:=vI (ZFl (ZHf.wrap ((ZFl A 10007)+10007)) 10007)) rfl (dn (ZM3 ?_))))))))))
 exact Zi rfl (Ze rfl) ⟨ZFl (ZHf.wrap ((ZFl A 10007)+10007)) 10007,rfl,h,G.below⟩ (.inl rfl)
def Zd2 (G:A8) (K:A8→Prop):Prop :=
 Z9 (λA (h:A8) B=>B (h.set A (ZHf.wrap (G.get A)))) (λ(h:A8)=>K h) 8 0 ZMz
theorem Zkc (L:A8)  {K:A8→Prop} (h:Zd2 L K) (w0:World)  :
  Calls ZMx 134 #[.agg (ZHu (ZMs .u8 L))] w0 λe w'=>∃ (r0:A8),
   e=.returned (.agg (ZHu (ZMs .i64 r0)))∧K r0∧Bel w0 w':=by
 unfold Zd2 at h
 refine cof Tryz.func134 rfl 18 Tryz.ntmps134 ?_
 have B:=ZNf (X:=Nox) w0 [] (by simp)
 refine sr (Ya (v:=.agg (ZHu (ZMs .u8 L))) B (ZMs .u8 L) rfl rfl λb1 w3 U B=>Yl B (ZMs .i64 ZMz) z73 rfl λb4 w6 U B=>dn (sr (J8 [] rfl (Zhq   _) (Yl B (ZMs .i64 ZMz) z73 rfl λb7 w9 U B=>Zz (v:=.agg (ZHu (ZMs .i64 ZMz))) B 0 (ZMs .i64 ZMz) (ZMs .i64 ZMz) rfl ag73.size rfl rfl rfl rfl rfl (ZM2 rfl) rfl λad B=>dn (ZMu (sr (Yb B 2 (ZMs .u8 L) rfl ag136 rfl rfl rfl (Za (v:=vI 0) rfl (dn (ZM0 ?_))))))))))
 refine Yp (S:=A8) _ _ (λA G V w_=>Zt V [(2,vQ b4),(3,vQ b7),(7,.agg (ZHu (ZMs .u8 L))),(8,vI (A:Int))]∧Ctx Nox w0 w_ [blk b7 73 (ZMs .i64 G),blk b4 73 (ZMs .i64 ZMz)] []) 8 ?_ ?_ (s0:=ZMz) ?_ h
 ·clear B h;rintro A G V ae ac ab I ⟨O,B⟩ h aa;rw [ue O];refine sr (Zn rfl rfl (dn (ZMu (Z3 rfl (decide_eq_true (by omega)) (ZMy (Zd (ZMu (ZM0 (sr (Za (v:=vI (A:Int)) rfl (Zjs (.int .u8 (L.get A)) ZNc rfl rfl (ZNb _) (by omega) sc5 (ZM7 _ _ I) (Zc (v:=vI (A:Int)) rfl (Zc (v:=.int .u8 (L.get A)) rfl (dn (Zj (Za (v:=vI (A:Int)) rfl (Za (v:=.int .u8 (L.get A)) rfl (Zjr ZNw ZN4 rfl (Xs A ZNh sc3.size rfl rfl (ZNb _) (by omega) (by omega) (Zz (v:=vI (ZHf.wrap (L.get A))) B 0 [vI (ZHf.wrap (L.get A))] (ZMs .i64 (G.set A (ZHf.wrap (L.get A)))) rfl sc3.size rfl rfl rfl rfl rfl I (ZNo _ _ _ I) λag B=>done (Zq (Zd (Zj (Zo rfl rfl (Za (v:=vI (ZHf.wrap ((A:Int)+1))) rfl (done ?_))))))))))))))))))))))))))
  exact aa (G.set A (ZHf.wrap (L.get A))) _ _ ⟨(sl ⟨rfl,rfl,rfl,(tr rfl (congrArg _ (Z7 I (by decide)))),trivial⟩),B⟩ h
 ·clear B h;rintro G V ah ab ⟨O,B⟩ h;rw [ue O];refine sr (Zn rfl rfl (dn (ZMu (Z2 rfl (decide_eq_false (by omega)) ?_))))
  refine ZM9 (Zk (Zk (Zy ?_)))
  refine Zd (sr (Yb B 0 (ZMs .i64 G) rfl ag73 rfl rfl rfl (Zz (v:=.agg (ZHu (ZMs .i64 G))) B 1 (ZMs .i64 G) (ZMs .i64 G) rfl ag73.size rfl rfl rfl rfl rfl (ZM2 rfl) rfl λai B=>dn (ZM3 ?_))))
  exact Zi rfl (Zag B 1 rfl ag73 rfl rfl) ⟨G,rfl,h,B.below⟩ (.inl rfl)
 ·skip;exact⟨(slq rfl),(B.xM [0,1] rfl)⟩
def Zhv (V:A8) (a1:List Int) (a2:A8) (K:A8→Int→Prop):Prop :=
 Z9 (λh (B:Int) G=>(if ZFl (a1.getD h ZEu) 2=0 then G B else((0≤(h:Int)∧(h:Int) < 8)∧(if V.get h > 0 then((0≤(h:Int)∧(h:Int) < 8)∧(if a2.get h > 0 then K ZMz 0 else((0≤(h:Int)∧(h:Int) < 8)∧G B))) else((0≤(h:Int)∧(h:Int) < 8)∧(if a2.get h > 0 then Xt (λ(A:Int×Int) O=>(if A.1 < (a1.length:Int) then((0≤A.1∧A.1 < (a1.length:Int))∧((0≤A.1∧A.1 < 8)∧O (ZHf.wrap (A.1+1),ZHf.wrap (A.2+(ZHf.wrap ((ZFl (a1.getD A.1.toNat ZEu) 2) * (V.get A.1.toNat))))))) else G A.2)) (ZHf.wrap ((h:Int)+1),B) else G B)))))) (λ(B:Int)=>Z9 (λL (I:A8) U=>U (I.set L (ZHf.wrap ((I.get L)+(a2.get L))))) (λ(I:A8)=>(if ZFl B 2=1 then K I (-1) else K I 1)) 8 0 V) a1.length 0 0
theorem Zwo (a0:A8) (a1:List Int) (a2:A8)  {K:A8→Int→Prop} (h:Zhv a0 a1 a2 K) (w0:World) (q1:TInts.rep a1 [u1_0] fp1 w0) :
  Calls ZMx 199 #[.agg (ZHu (ZMs .i64 a0)),u1_0,.agg (ZHu (ZMs .i64 a2))] w0 λe w'=>∃ (r0:A8) (r1:Int),
   e=.returned (.tuple #[.agg (ZHu (ZMs .i64 r0)),vI r1])∧K r0 r1∧Bel w0 w':=by
 unfold Zhv at h
 refine cof Tryz.func199 rfl 75 Tryz.ntmps199 ?_
 have A:=ZNf (X:=Nox) w0 [ZMt TInts a1 [u1_0] fp1] (al1 q1);refine sr (Ya (v:=.agg (ZHu (ZMs .i64 a0))) A (ZMs .i64 a0) rfl rfl λb2 w4 O A=>Ya (v:=.agg (ZHu (ZMs .i64 a2))) A (ZMs .i64 a2) rfl rfl λb5 w7 O A=>Yl A (ZMs .i64 ZMz) z73 rfl λb8 bj O A=>Zc (v:=vI 0) rfl (dn (sr (Zc (v:=vI 0) rfl (dn (ZMu (sr (Za (v:=u1_0) rfl (Zw A 0 rfl ZNd rfl (Za (v:=vI 0) rfl (dn (ZM0 ?_))))))))))))
 have ae:a1.length≤9223372036854775807:=Y5 (A.getP 0 rfl);refine Yp (S:=Int) _ _ (λB aa e_ w_=>Zt e_ [(1,u1_0),(3,vQ b2),(5,vQ b5),(6,vQ b8),(8,vI aa),(13,u1_0),(14,vI (a1.length:Int)),(15,vI (B:Int))]∧Ctx Nox w0 w_ [blk b8 73 (ZMs .i64 ZMz),blk b5 73 (ZMs .i64 a2),blk b2 73 (ZMs .i64 a0)] [ZMt TInts a1 [u1_0] fp1]) a1.length ?_ ?_ (s0:=0) ?_ h
 ·clear A h;rintro B aa e_ bk bd aw V ⟨ab,A⟩ h ag;rw [ue ab];refine sr (Zn rfl rfl (dn (ZMu (Z3 rfl (decide_eq_true (by omega)) (ZMy (Zd (ZMu (ZM0 (sr (Za (v:=vI (B:Int)) rfl ?_))))))))))
  obtain ⟨be,bl,ao⟩:=Zx (A.getP 0 rfl) B V;refine Ys (len:=a1.length) ZNd sc2.size (tr rfl ao) rfl (ZNb _) (ZNt.2 V) (Yr (vI (a1.getD B ZEu)) (Ye (A.getP 0 rfl) ao B V) sc2 rfl (Zc (v:=vI (B:Int)) rfl (Zc (v:=vI (a1.getD B ZEu)) rfl (dn (ZMu (sr (Za (v:=vI (a1.getD B ZEu)) rfl (X3 rfl rfl (by decide) (Xg rfl rfl (dn ?_))))))))))
  refine Zp rfl (λak=>?_) (λak=>?_)
  ·replace h:=ift h (ct ak);refine ZM9 (Zk (Zy ?_))
   refine Zd (Zj (Zo rfl rfl (Za (v:=vI (ZHf.wrap ((B:Int)+1))) rfl (done ?_))))
   exact ag aa _ _ ⟨(sl ⟨rfl,rfl,rfl,rfl,rfl,rfl,rfl,(tr rfl (congrArg _ (Z7 V ae))),trivial⟩),A⟩ h
  ·replace h:=Zm h (cf ak);refine ZMy (Zd (ZMu (sr (Za (v:=vI (B:Int)) rfl ?_))))
   obtain ⟨⟨ax,ay⟩,h⟩:=h;refine Xs B ZNh sc3.size rfl rfl ax ay (by omega) (Z5 A 2 (vI (a0.get B)) rfl sc3 rfl (ZM7 _ _ (show B < 8 by omega)) (Ja rfl rfl (Za (v:=.bool (decide (a0.get B > 0))) rfl ?_)))
   refine Y6 (decide (a0.get B > 0)) (λU=>?_) (λU=>?_)
   ·replace h:=ift h (ct U);refine Zh 4 27 rfl rfl U (Za (v:=vI (B:Int)) rfl (Zh 4 27 rfl rfl U ?_))
    obtain ⟨⟨az,a3⟩,h⟩:=h;refine Xs B ZNh sc3.size rfl rfl az a3 (by omega) (Zh 4 27 rfl rfl U (Z5 A 1 (vI (a2.get B)) rfl sc3 rfl (ZM7 _ _ (show B < 8 by omega)) (Zh 4 27 rfl rfl U (Ja rfl rfl (Zs (v:=.bool (decide (a2.get B > 0))) (b:=true) (tr rfl (congrArg _ U)) rfl (dn ?_))))))
    refine Zp rfl (λah=>?_) (λah=>?_)
    ·replace h:=ift h (ct ah);refine sr (J8 [] rfl (Zhq   _) (Zz (v:=.agg (ZHu (ZMs .i64 ZMz))) A 0 (ZMs .i64 ZMz) (ZMs .i64 ZMz) rfl ag73.size rfl rfl rfl rfl rfl (ZM2 rfl) rfl λbm A=>Zc (v:=vI 0) rfl (dn ?_)))
     refine ZM3 (Zl (Z8 (Zl (Zl (Z8 (Zl ?_))))))
     exact Xv rfl (Zag A 0 rfl ag73 rfl rfl) (Ze rfl) ⟨ZMz,0,rfl,h,A.below⟩ (.inl rfl)
    ·replace h:=Zm h (cf ah);refine ZMy (Zd (sr (Za (v:=vI (B:Int)) rfl ?_)))
     obtain ⟨⟨a4,a5⟩,h⟩:=h;refine Xs B ZNh sc3.size rfl rfl a4 a5 (by omega) (Z5 A 1 (vI (a2.get B)) rfl sc3 rfl (ZM7 _ _ (show B < 8 by omega)) (Ja rfl rfl (dn (Z2 rfl ah (ZMy (Zq (Zd (Zj (Zo rfl rfl (Za (v:=vI (ZHf.wrap ((B:Int)+1))) rfl (done ?_)))))))))))
     exact ag aa _ _ ⟨(sl ⟨rfl,rfl,rfl,rfl,rfl,rfl,rfl,(tr rfl (congrArg _ (Z7 V ae))),trivial⟩),A⟩ h
   ·replace h:=Zm h (cf U);refine Zg (b:=false) 4 27 rfl (tr rfl (congrArg _ U)) (by decide) (Zg (b:=false) 4 27 rfl (tr rfl (congrArg _ U)) (by decide) (Zg (b:=false) 4 27 rfl (tr rfl (congrArg _ U)) (by decide) (Zg (b:=false) 4 27 rfl (tr rfl (congrArg _ U)) (by decide) (Zs (v:=.bool false) (b:=false) (tr rfl (congrArg _ U)) rfl (dn (Z2 rfl rfl (ZMy (Zd (sr (Za (v:=vI (B:Int)) rfl ?_))))))))))
    obtain ⟨⟨a6,a7⟩,h⟩:=h;refine Xs B ZNh sc3.size rfl rfl a6 a7 (by omega) (Z5 A 1 (vI (a2.get B)) rfl sc3 rfl (ZM7 _ _ (show B < 8 by omega)) (Ja rfl rfl (dn ?_)))
    refine Zp rfl (λal=>?_) (λal=>?_)
    ·replace h:=ift h (ct al);refine sr (Za (v:=vI (B:Int)) rfl (Zo rfl rfl (Zc (v:=vI (ZHf.wrap ((B:Int)+1))) rfl (dn (ZM0 ?_)))))
     refine X6 (S:=Int×Int) _ (λG e_ w_=>Zt e_ [(1,u1_0),(3,vQ b2),(5,vQ b5),(6,vQ b8),(8,vI G.2),(11,vI G.1),(13,u1_0),(14,vI (a1.length:Int)),(15,vI (B:Int))]∧Ctx Nox w0 w_ [blk b8 73 (ZMs .i64 ZMz),blk b5 73 (ZMs .i64 a2),blk b2 73 (ZMs .i64 a0)] [ZMt TInts a1 [u1_0] fp1]) ?_ (s0:=(ZHf.wrap ((B:Int)+1),aa)) ?_ h
     ·clear A h;rintro G e_ bn bh bo ⟨ab,A⟩ h ar;rw [ue ab];refine ZMu (sr (Za (v:=vI G.1) rfl (Za (v:=u1_0) rfl (Zw A 0 rfl ZNd rfl (Zn rfl rfl (dn ?_))))))
      refine Zp rfl (λam=>?_) (λam=>?_)
      ·replace h:=ift h (ct am);refine ZMy (Zd (ZMu (ZM0 ?_)))
       refine cwd 10 Yh [0,0,0,6,14,30,0,64,192,510,1023,2047] [3,4,7,8] [0,1,2,5,6,9] (λai ac bp O=>?_)
       replace A:=A.grow O;refine bM 0 (vI G.2) rfl ac (Zb 12 1) (bM 1 (u1_0) rfl ac (Zb 12 3) (bM 2 (vI G.1) rfl ac (Zb 12 7) ?_))
       obtain ⟨⟨a8,a9⟩,h⟩:=h;obtain ⟨au,bq,ap⟩:=Zx (A.getP 0 rfl) G.1.toNat (show G.1.toNat < a1.length by omega)
       refine bL 3 (.pointer (some (au.add (G.1.toNat * 1)))) rfl rfl ai (λ_ O=>by exact Y1 (len:=a1.length) ZNd sc2.size (by exact tr rfl ap) rfl a8 a9) (Zb 12 15) (bL 4 (vI (a1.getD G.1.toNat ZEu)) rfl rfl ai (λ_ O=>by exact Xh (vI (a1.getD G.1.toNat ZEu)) (Ye ((A.grow O).getP 0 rfl) ap G.1.toNat (show G.1.toNat < a1.length by omega)) sc2 rfl) (Zb 12 31) (bF 5 (vI (ZFl (a1.getD G.1.toNat ZEu) 2)) rfl rfl ac (λ_=>by exact Zo6 rfl rfl (by decide)) (Zb 12 63) (bM 6 (vI G.1) rfl ac (Zb 12 127) ?_)))
       obtain ⟨⟨ba,bb⟩,h⟩:=h;refine bL 7 (.pointer (some ⟨b2,G.1.toNat,none⟩)) rfl rfl ai (λ_ O=>by exact Zaf G.1.toNat ZNh sc3.size rfl rfl ba bb (by omega)) (Zb 12 255) (bL 8 (vI (a0.get G.1.toNat)) rfl rfl ai (λ_ O=>by exact Yc (A.grow O) 2 (vI (a0.get G.1.toNat)) rfl sc3 rfl (ZM7 _ _ (show G.1.toNat < 8 by omega))) (Zb 12 511) (bF 9 (vI (ZHf.wrap ((ZFl (a1.getD G.1.toNat ZEu) 2) * (a0.get G.1.toNat)))) rfl rfl ac (λ_=>by exact Zcy rfl rfl) (Zb 12 1023) (Z0 10 (by decide) (by decide) (by kernel_rfl) (by kernel_rfl) rfl (Zo rfl rfl (Zc (v:=vI (ZHf.wrap (G.2+(ZHf.wrap ((ZFl (a1.getD G.1.toNat ZEu) 2) * (a0.get G.1.toNat)))))) rfl (done (Z1 (Zq (Zd (Zj (Za (v:=vI G.1) rfl (Zo rfl rfl (Zc (v:=vI (ZHf.wrap (G.1+1))) rfl (done ?_))))))))))))))
       exact ar (ZHf.wrap (G.1+1),ZHf.wrap (G.2+(ZHf.wrap ((ZFl (a1.getD G.1.toNat ZEu) 2) * (a0.get G.1.toNat))))) _ _ ⟨(slq rfl),A⟩ h
      ·replace h:=Zm h (cf am);refine ZM9 (Zk (Zk (Zy ?_)))
       refine Zq (Zd (Zj (Zo rfl rfl (Za (v:=vI (ZHf.wrap ((B:Int)+1))) rfl (done ?_)))))
       exact ag G.2 _ _ ⟨(sl ⟨rfl,rfl,rfl,rfl,rfl,rfl,rfl,(tr rfl (congrArg _ (Z7 V ae))),trivial⟩),A⟩ h
     ·skip;exact⟨(slq rfl),A⟩
    ·replace h:=Zm h (cf al);refine ZMy (Zq (Zd (Zj (Zo rfl rfl (Za (v:=vI (ZHf.wrap ((B:Int)+1))) rfl (done ?_))))))
     exact ag aa _ _ ⟨(sl ⟨rfl,rfl,rfl,rfl,rfl,rfl,rfl,(tr rfl (congrArg _ (Z7 V ae))),trivial⟩),A⟩ h
 ·clear A h;rintro aa e_ br aw ⟨ab,A⟩ h;rw [ue ab];refine sr (Zn rfl rfl (dn (ZMu (Z2 rfl (decide_eq_false (by omega)) ?_))))
  refine ZM9 (Zk (Zk (Zy ?_)))
  refine Zd (ZMu (sr (Za (v:=vI 0) rfl (dn (ZM0 ?_)))))
  refine Yp (S:=A8) _ _ (λI L e_ w_=>Zt e_ [(3,vQ b2),(5,vQ b5),(6,vQ b8),(8,vI aa),(58,vI (I:Int))]∧Ctx Nox w0 w_ [blk b8 73 (ZMs .i64 ZMz),blk b5 73 (ZMs .i64 a2),blk b2 73 (ZMs .i64 L)] [ZMt TInts a1 [u1_0] fp1]) 8 ?_ ?_ (s0:=a0) ?_ h
  ·clear A h;rintro I L e_ bs bi bc ad ⟨ab,A⟩ h av;rw [ue ab];refine sr (Zn rfl rfl (dn (ZMu (Z3 rfl (decide_eq_true (by omega)) (ZMy (Zd (ZMu (ZM0 (sr (Za (v:=vI (I:Int)) rfl (Zc (v:=vI (I:Int)) rfl (dn ?_))))))))))))
   refine cwd 6 Yh [0,1,3,0,8,24,63,127,255] [1,2,4,5] [0,3] (λaj aq bt O=>?_)
   replace A:=A.grow O;refine bM 0 (vI (I:Int)) rfl aq (Zb 9 1) (bL 1 (.pointer (some ⟨b2,I,none⟩)) rfl rfl aj (λ_ O=>by exact Zaf I ZNh sc3.size rfl rfl (ZNb _) (by omega) (by omega)) (Zb 9 3) (bL 2 (vI (L.get I)) rfl rfl aj (λ_ O=>by exact Yc (A.grow O) 2 (vI (L.get I)) rfl sc3 rfl (ZM7 _ _ ad)) (Zb 9 7) (bM 3 (vI (I:Int)) rfl aq (Zb 9 15) (bL 4 (.pointer (some ⟨b5,I,none⟩)) rfl rfl aj (λ_ O=>by exact Zaf I ZNh sc3.size rfl rfl (ZNb _) (by omega) (by omega)) (Zb 9 31) (bL 5 (vI (a2.get I)) rfl rfl aj (λ_ O=>by exact Yc (A.grow O) 1 (vI (a2.get I)) rfl sc3 rfl (ZM7 _ _ ad)) (Zb 9 63) (Z0 6 (by decide) (by decide) (by kernel_rfl) (by kernel_rfl) rfl (Zo rfl rfl (Xs I ZNh sc3.size rfl rfl (ZNb _) (by omega) (by omega) (Zz (v:=vI (ZHf.wrap ((L.get I)+(a2.get I)))) A 2 [vI (ZHf.wrap ((L.get I)+(a2.get I)))] (ZMs .i64 (L.set I (ZHf.wrap ((L.get I)+(a2.get I))))) rfl sc3.size rfl rfl rfl rfl rfl ad (ZNo _ _ _ ad) λbu A=>done (Z1 (Zq (Zd (Zj (Zo rfl rfl (Za (v:=vI (ZHf.wrap ((I:Int)+1))) rfl (done ?_))))))))))))))))
   exact av (L.set I (ZHf.wrap ((L.get I)+(a2.get I)))) _ _ ⟨(sl ⟨rfl,rfl,rfl,rfl,(tr rfl (congrArg _ (Z7 ad (by decide)))),trivial⟩),A⟩ h
  ·clear A h;rintro L e_ bv bc ⟨ab,A⟩ h;rw [ue ab];refine sr (Zn rfl rfl (dn (ZMu (Z2 rfl (decide_eq_false (by omega)) ?_))))
   refine ZM9 (Zk (Zk (Zy ?_)))
   refine Zd (ZMu (sr (Za (v:=vI aa) rfl (X3 rfl rfl (by decide) (Xg rfl rfl (dn ?_))))))
   refine Zp rfl (λan=>?_) (λan=>?_)
   ·replace h:=ift h (ct an);refine sr (Yb A 2 (ZMs .i64 L) rfl ag73 rfl rfl rfl (Zz (v:=.agg (ZHu (ZMs .i64 L))) A 0 (ZMs .i64 L) (ZMs .i64 L) rfl ag73.size rfl rfl rfl rfl rfl (ZM2 rfl) rfl λbw A=>Zc (v:=vI (-1)) rfl (dn ?_)))
    refine ZM3 (Zl ?_)
    exact Xv rfl (Zag A 0 rfl ag73 rfl rfl) (Ze rfl) ⟨L,(-1),rfl,h,A.below⟩ (.inl rfl)
   ·replace h:=Zm h (cf an);refine ZMy (Zd (sr (Yb A 2 (ZMs .i64 L) rfl ag73 rfl rfl rfl (Zz (v:=.agg (ZHu (ZMs .i64 L))) A 0 (ZMs .i64 L) (ZMs .i64 L) rfl ag73.size rfl rfl rfl rfl rfl (ZM2 rfl) rfl λbx A=>Zc (v:=vI 1) rfl (dn (ZM3 ?_))))))
    exact Xv rfl (Zag A 0 rfl ag73 rfl rfl) (Ze rfl) ⟨L,1,rfl,h,A.below⟩ (.inl rfl)
  ·skip;exact⟨(slq rfl),A⟩
 ·skip;exact⟨(slq rfl),A⟩
def Zf0 (h:List (A8×Int)) (A:A8) (G:Int) (K:List (A8×Int)→Prop):Prop :=
 Zc8 (ZHf.wrap (((Y8 h A).getD 0)+G)) (λB=>(if B≠0 then K (Yo h A B) else K (Jn h A)))
theorem Zqi (G:List (A8×Int)) (B:A8) (L:Int)  {K:List (A8×Int)→Prop} (h:Zf0 G B L K) (w0:World) (V:(mapS b0 G).holds w0) :
  Calls ZMx 195 #[.map (some b0),.agg (ZHu (ZMs .i64 B)),vI L] w0 λe w'=>∃ (U:List (A8×Int)),
   e=.returned (.tuple #[])∧K U∧(mapS b0 U).holds w'∧BelB b0 w0 w':=by
 unfold Zf0 at h
 refine cof Tryz.func195 rfl 20 Tryz.ntmps195 ?_
 have A:=Ctx.start1 w0 b0 (it:=mapS b0 G) rfl [] V (by simp) (by simp)
 refine sr (Ya (v:=.agg (ZHu (ZMs .i64 B))) A (ZMs .i64 B) rfl rfl λb2 w4 aa A=>dn (sr (Za (v:=.map (some b0)) rfl (Yb A 0 (ZMs .i64 B) rfl ag73 rfl rfl rfl (Zps B 0 (A.getM 1 rfl) Jt ZNs z2 rfl rfl (Za (v:=vI L) rfl (Zo rfl rfl (Zf [vI (ZHf.wrap (((Y8 G B).getD 0)+L))] _ Tryz.func187 rfl rfl rfl (Zmx (ZHf.wrap (((Y8 G B).getD 0)+L)) h _) ?_))))))))
 rintro _ w7 ⟨O,rfl,h,hB9⟩;refine rt ?_
 replace A:=A.grow hB9;refine Zc (v:=vI O) rfl (dn (sr (Za (v:=vI O) rfl (Y2 rfl rfl (dn ?_)))))
 refine Zp rfl (λI=>?_) (λI=>?_)
 ·replace h:=ift h (ct I);refine Zj (Za (v:=.map (some b0)) rfl (Yb A 0 (ZMs .i64 B) rfl ag73 rfl rfl rfl (Za (v:=vI O) rfl ?_)))
  refine Zj5 A 1 B O rfl Jt ZNs rfl rfl rfl (λab A=>?_) (.inl rfl)
  refine done ?_
  exact Zc0 rfl  ⟨Yo G B O,rfl,h,(A.getM 1 rfl),A.belB⟩ (.inr rfl)
 ·replace h:=Zm h (cf I);refine Zj (Za (v:=.map (some b0)) rfl (Yb A 0 (ZMs .i64 B) rfl ag73 rfl rfl rfl (Zvg A 1 B rfl Jt ZNs rfl rfl rfl λac A=>done ?_)))
  exact Zc0 rfl  ⟨Jn G B,rfl,h,(A.getM 1 rfl),A.belB⟩ (.inr rfl)
def Zbp (I:ZMw) (K:List (A8×Int)→Prop):Prop :=
 Z9 (λA (h:(List (A8×Int))) B=>Zd2 ((I.terms.getD A ZEu).mono) (λG=>B (Yo h G ((I.terms.getD A ZEu).factor)))) (λ(h:(List (A8×Int)))=>K h) I.terms.length 0 ([]:List (A8×Int))
theorem Zf1 (a0:ZMw)  {K:List (A8×Int)→Prop} (h:Zbp a0 K) (w0:World) (q0:ZNg.rep a0 [u0_0] fp0 w0) :
  Calls ZMx 78 #[.agg #[u0_0]] w0 λe w'=>∃ (r0:List (A8×Int)) (U:Nat),
   e=.returned (.map (some U))∧K r0∧(mapS U r0).holds w'∧w0.heap.size≤U∧Bel w0 w':=by
 unfold Zbp at h
 refine cof Tryz.func78 rfl 22 Tryz.ntmps78 ?_
 have A:=ZNf (X:=Nox) w0 [ZMt TForm a0 [u0_0] fp0] (al1 q0);have ai:=(A.getP 0 rfl);replace A:=A.derive 0 rfl (ZMt ZMv.ty.sl a0.terms [u0_0] fp0) (λ_=>(Y9 ai)) (λ_ aj=>aj)
 refine sr (Ya (v:=.agg #[u0_0]) A [u0_0] rfl rfl λb4 w6 G A=>Zc (v:=.map none) rfl (dn (sr (Zhe A (kvA .i64) (vvI .i64) λb7 w9 G A=>Zc (v:=.map (some b7)) rfl (dn (ZMu (sr (Zu 0 ZM1 rfl sc53.size rfl rfl (Z5 A 1 (u0_0) rfl sc53 rfl rfl (Zw A 0 rfl ZM4 rfl (Za (v:=vI 0) rfl (dn (ZM0 ?_)))))))))))))
 have ae:a0.terms.length≤9223372036854775807:=Y5 (A.getP 0 rfl);refine Yp (S:=(List (A8×Int))) _ _ (λB L e_ w_=>Zt e_ [(3,.map (some b7)),(8,u0_0),(9,vI (a0.terms.length:Int)),(10,vI (B:Int))]∧Ctx Nox w0 w_ [mapS b7 L] [ZMt ZMv.ty.sl a0.terms [u0_0] fp0,ZMt TForm a0 [u0_0] fp0]) a0.terms.length ?_ ?_ (s0:=([]:List (A8×Int))) ?_ h
 ·clear A h;rintro B L e_ an al ak I ⟨V,A⟩ h ag;rw [ue V];refine sr (Zn rfl rfl (dn (ZMu (Z3 rfl (decide_eq_true (by omega)) (ZMy (Zd (ZMu (ZM0 (sr ?_)))))))))
  obtain ⟨am,ao,aa⟩:=Zx (A.getP 0 rfl) B I;refine Ys (len:=a0.terms.length) ZM4 ag162.size (tr rfl aa) rfl (ZNb _) (ZNt.2 I) (Je (ZM5 (a0.terms.getD B ZEu)) (Ye (A.getP 0 rfl) aa B I) ag162 rfl rfl (Yl A (ZM5 (⟨ZMz,0⟩:Term)) Zfw rfl λac ap G A=>Zz (v:=.agg (ZHu (ZM5 (a0.terms.getD B ZEu)))) A 0 (ZM5 (a0.terms.getD B ZEu)) (ZM5 (a0.terms.getD B ZEu)) rfl ag162.size rfl rfl rfl rfl rfl (ZM2 rfl) rfl λaq A=>dn ?_))
  refine cwd 6 Yh [0,0,2,6,0,16,63] [2,5] [0,1,4] (λab O ar G=>?_)
  replace A:=A.grow G;refine bM 0 (.map (some b7)) rfl O (Zb 7 1) (bF 1 (vQ ac) rfl rfl O (λ_=>by exact Yk 0 ZNa rfl ag136.size rfl rfl) (Zb 7 3) (bL 2 (.agg (ZHu (ZMs .u8 ((a0.terms.getD B ZEu).mono)))) rfl rfl ab (λ_ G=>by exact Xa (A.grow G) 0 (ZMs .u8 ((a0.terms.getD B ZEu).mono)) rfl ag136 rfl rfl rfl) (Zb 7 7) (bF 4 (.pointer (some ⟨ac,8,none⟩)) rfl rfl O (λ_=>by exact Yk 8 ZNa rfl sc2.size rfl rfl) (Zb 7 23) (bL 5 (vI ((a0.terms.getD B ZEu).factor)) rfl rfl ab (λ_ G=>by exact Yc (A.grow G) 0 (vI ((a0.terms.getD B ZEu).factor)) rfl sc2 rfl rfl) (Zb 7 55) (aO 3 rfl (Zf [.agg (ZHu (ZMs .u8 ((a0.terms.getD B ZEu).mono)))] _ Tryz.func134 rfl rfl rfl (Zkc ((a0.terms.getD B ZEu).mono) h _) ?_))))))
  rintro _ au ⟨ad,rfl,h,ah⟩;refine rt ?_
  replace A:=A.grow ah;refine done (aK (by assumption) (Zb 7 63) (Z0 6 (by decide) (by decide) (by kernel_rfl) (by kernel_rfl) rfl ?_))
  refine Zj5 A 1 ad ((a0.terms.getD B ZEu).factor) rfl Jt ZNs rfl rfl rfl (λav A=>?_) (.inl rfl)
  refine done (Z1 (Zq (Zd (Zj (Zo rfl rfl (Za (v:=vI (ZHf.wrap ((B:Int)+1))) rfl (done ?_)))))))
  exact ag (Yo L ad ((a0.terms.getD B ZEu).factor)) _ _ ⟨(sl ⟨rfl,rfl,rfl,(tr rfl (congrArg _ (Z7 I ae))),trivial⟩),(A.xM [1] rfl)⟩ h
 ·clear A h;rintro L e_ aw ak ⟨V,A⟩ h;rw [ue V];refine sr (Zn rfl rfl (dn (ZMu (Z2 rfl (decide_eq_false (by omega)) ?_))))
  refine ZM9 (Zk (Zk (Zy ?_)))
  refine Zd (sr (Za (v:=.map (some b7)) rfl (Zc (v:=.map (some b7)) rfl (dn (ZM3 ?_)))))
  exact Zi rfl (Ze rfl) ⟨L,b7,rfl,h,(A.getM 0 rfl),(Zj4 A 0 rfl),A.below⟩ (.inl rfl)
 ·skip;exact⟨(slq rfl),(A.xM [0] rfl)⟩
def Zkd (G:A8) (I:A8) (K:Int→Prop):Prop :=
 Z9 (λh (B:Unit) A=>(if G.get h≠I.get h then K (ZHf.wrap ((I.get h) - (G.get h))) else A ())) (λ(B:Unit)=>K 0) 8 0 ()
theorem Zwp (V:A8) (a1:A8)  {K:Int→Prop} (h:Zkd V a1 K) (w0:World)  :
  Calls ZMx 158 #[.agg (ZHu (ZMs .i64 V)),.agg (ZHu (ZMs .i64 a1))] w0 λe w'=>∃ (r0:Int),
   e=.returned (vI r0)∧K r0∧Bel w0 w':=by
 unfold Zkd at h
 refine cof Tryz.func158 rfl 24 Tryz.ntmps158 ?_
 have G:=ZNf (X:=Nox) w0 [] (by simp)
 refine sr (Ya (v:=.agg (ZHu (ZMs .i64 V))) G (ZMs .i64 V) rfl rfl λb1 w3 B G=>Ya (v:=.agg (ZHu (ZMs .i64 a1))) G (ZMs .i64 a1) rfl rfl λb4 w6 B G=>Zc (v:=vI 0) rfl (dn (ZMu (sr (Za (v:=vI 0) rfl (dn (ZM0 ?_)))))))
 refine Yp (S:=Unit) _ _ (λA ad e_ w_=>Zt e_ [(2,vQ b1),(3,vQ b4),(6,vI (A:Int))]∧Ctx Nox w0 w_ [blk b4 73 (ZMs .i64 a1),blk b1 73 (ZMs .i64 V)] []) 8 ?_ ?_ (s0:=()) ?_ h
 ·clear G h;rintro A ad e_ ai ah ag I ⟨aa,G⟩ h ae;rw [ue aa];refine sr (Zn rfl rfl (dn (ZMu (Z3 rfl (decide_eq_true (by omega)) (ZMy (Zd (ZMu (ZM0 (sr (Za (v:=vI (A:Int)) rfl (Zc (v:=vI (A:Int)) rfl (dn (ZMu ?_)))))))))))))
  refine cwd 6 Yh [0,1,3,0,8,24,63] [1,2,4,5] [0,3] (λL ab aj B=>?_)
  replace G:=G.grow B;refine bM 0 (vI (A:Int)) rfl ab (Zb 7 1) (bL 1 (.pointer (some ⟨b1,A,none⟩)) rfl rfl L (λ_ B=>by exact Zaf A ZNh sc3.size rfl rfl (ZNb _) (by omega) (by omega)) (Zb 7 3) (bL 2 (vI (V.get A)) rfl rfl L (λ_ B=>by exact Yc (G.grow B) 1 (vI (V.get A)) rfl sc3 rfl (ZM7 _ _ I)) (Zb 7 7) (bM 3 (vI (A:Int)) rfl ab (Zb 7 15) (bL 4 (.pointer (some ⟨b4,A,none⟩)) rfl rfl L (λ_ B=>by exact Zaf A ZNh sc3.size rfl rfl (ZNb _) (by omega) (by omega)) (Zb 7 31) (bL 5 (vI (a1.get A)) rfl rfl L (λ_ B=>by exact Yc (G.grow B) 0 (vI (a1.get A)) rfl sc3 rfl (ZM7 _ _ I)) (Zb 7 63) (Z0 6 (by decide) (by decide) (by kernel_rfl) (by kernel_rfl) rfl (Y2 rfl rfl (done (Z1 (Zd ?_))))))))))
  refine Zp rfl (λU=>?_) (λU=>?_)
  ·replace h:=ift h (ct U);refine ZMu ?_
   refine cwd 6 Yh [0,1,3,0,8,24,63,127] [1,2,4,5] [0,3] (λO ac ak B=>?_)
   replace G:=G.grow B;refine bM 0 (vI (A:Int)) rfl ac (Zb 8 1) (bL 1 (.pointer (some ⟨b4,A,none⟩)) rfl rfl O (λ_ B=>by exact Zaf A ZNh sc3.size rfl rfl (ZNb _) (by omega) (by omega)) (Zb 8 3) (bL 2 (vI (a1.get A)) rfl rfl O (λ_ B=>by exact Yc (G.grow B) 0 (vI (a1.get A)) rfl sc3 rfl (ZM7 _ _ I)) (Zb 8 7) (bM 3 (vI (A:Int)) rfl ac (Zb 8 15) (bL 4 (.pointer (some ⟨b1,A,none⟩)) rfl rfl O (λ_ B=>by exact Zaf A ZNh sc3.size rfl rfl (ZNb _) (by omega) (by omega)) (Zb 8 31) (bL 5 (vI (V.get A)) rfl rfl O (λ_ B=>by exact Yc (G.grow B) 1 (vI (V.get A)) rfl sc3 rfl (ZM7 _ _ I)) (Zb 8 63) (Z0 6 (by decide) (by decide) (by kernel_rfl) (by kernel_rfl) rfl (J4 rfl rfl (Zc (v:=vI (ZHf.wrap ((a1.get A) - (V.get A)))) rfl (done (Z1 (Zd ?_)))))))))))
   refine ZM3 (Z8 (Zl (Zl (Z8 (Zl ?_)))))
   exact Zi rfl (Ze rfl) ⟨ZHf.wrap ((a1.get A) - (V.get A)),rfl,h,G.below⟩ (.inl rfl)
  ·replace h:=Zm h (cf U);refine ZMy (Zq (Zd (Zj (Zo rfl rfl (Za (v:=vI (ZHf.wrap ((A:Int)+1))) rfl (done ?_))))))
   exact ae () _ _ ⟨(sl ⟨rfl,rfl,(tr rfl (congrArg _ (Z7 I (by decide)))),trivial⟩),G⟩ h
 ·clear G h;rintro ad e_ al ag ⟨aa,G⟩ h;rw [ue aa];refine sr (Zn rfl rfl (dn (ZMu (Z2 rfl (decide_eq_false (by omega)) ?_))))
  refine ZM9 (Zk (Zk (Zy ?_)))
  refine Zd (sr (Zc (v:=vI 0) rfl (dn (ZM3 ?_))))
  exact Zi rfl (Ze rfl) ⟨0,rfl,h,G.below⟩ (.inl rfl)
 ·skip;exact⟨(slq rfl),G⟩
end Go.Proofs.YtaagfepgbofmlaaGreat
