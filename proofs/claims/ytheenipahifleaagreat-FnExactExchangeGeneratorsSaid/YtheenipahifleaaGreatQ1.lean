import Derived.Test.YtheenipahifleaaGreatQ0
set_option linter.unusedSectionVars false
set_option linter.unusedSimpArgs false
set_option linter.unusedVariables false
open List renaming length_set→ZCi,replicate→Zur,mem_flatten→ZCk,mem_cons→Zus,mem_or_eq_of_mem_set→ZCo,pairwise_flatten→ZCp,pairwise_iff_getElem→Zuz
open List.Perm renaming swap→Zv9
open Vc.Ty renaming item→ZCh
namespace Vc
open Go Go.RowKit
def Zy (e:Env) (l:List (Nat×Value)):Prop:=∀ p,p∈l→e p.1=p.2
theorem Zow {e:Env}:Zy e []:=by intro p hp; cases hp
theorem Zox {e:Env} {t:Nat} {v:Value} {l:List (Nat×Value)} (h:e t=v) (hs:Zy e l):Zy e ((t,v)::l):=by
  intro p hp
  rcases Zus.1 hp with rfl | hp
  · exact h
  · exact hs p hp
def Za (n k:Nat):Array Bool:=((List.range n).map (Nat.testBit k)).toArray
section
variable {α β:Type}
def Zoy (kv:α→Value) (vv:β→Value) (ls:List (Option (List (α×β)))) (cs:List Value) (fp:List Nat) (w:World) (j:Nat):Prop :=
  (ls[j]? = some none∧cs[j]? = some (.map none))∨∃ l b,ls[j]? = some (some l)∧cs[j]? = some (.map (some b))∧b∈fp∧(Z7 kv vv b l).holds w
theorem Zoz {kv:α→Value} {vv:β→Value} {b:Nat} {l:List (α×β)} {w w':World} (h:w'.heap[b]? = w.heap[b]?) (hw:(Z7 kv vv b l).holds w):(Z7 kv vv b l).holds w':=by
  obtain ⟨es,c,h1,h2⟩:=hw
  exact⟨es,c,h.trans h1,h2⟩
def Jh (kv : α → Value) (vv : β → Value) (n : Nat) : Ty (List (Option (List (α × β)))) where
  sz:=n
  rep ls cs fp w:=cs.length=n∧ls.length=n∧(∀ b,b∈fp→b < w.heap.size)∧∀ j,j < n→Zoy kv vv ls cs fp w j
  keep h hw:=⟨hw.1,hw.2.1,Zf6 h hw.2.2.1,fun j hj=>by
    rcases hw.2.2.2 j hj with q | ⟨l,b,h1,h2,h3,h4⟩
    · exact .inl q
    · exact .inr ⟨l,b,h1,h2,h3,Zoz (h b h3) h4⟩⟩
  low hw:=hw.2.2.1
  len hw:=hw.1
  one hw u hu:=by
    obtain ⟨j,hj,rfl⟩:=List.getElem_of_mem hu
    rcases hw.2.2.2 j (by have:=hw.1; omega) with ⟨_,q⟩ | ⟨l,b,_,q,_⟩
    · rw [List.getElem?_eq_getElem hj] at q; injection q with q; rw [q]; rfl
    · rw [List.getElem?_eq_getElem hj] at q; injection q with q; rw [q]; rfl
  more hw hs hl:=⟨hw.1,hw.2.1,hl,fun j hj=>by
    rcases hw.2.2.2 j hj with q | ⟨l,b,h1,h2,h3,h4⟩
    · exact .inl q
    · exact .inr ⟨l,b,h1,h2,hs _ h3,h4⟩⟩
variable {kv:α→Value} {vv:β→Value} {n:Nat} {ls:List (Option (List (α×β)))} {cs:List Value} {fp:List Nat} {w:World}
theorem Zgm (kv:α→Value) (vv:β→Value) (n:Nat) (w:World):(Jh kv vv n).rep (Zur n none) (Zur n (.map none)) [] w :=
  ⟨by simp,by simp,by simp,fun j hj=>.inl ⟨by simp [hj],by simp [hj]⟩⟩
theorem Zo0 (h:(Jh kv vv n).rep ls cs fp w) {b i:Nat} {l:List (α×β)} (hm:(Z7 kv vv b l).holds w):(Jh kv vv n).rep (ls.set i (some l)) (cs.set i (.map (some b))) (b::fp) w:=by
  refine⟨by rw [ZCi]; exact h.1,by rw [ZCi]; exact h.2.1,fun c hc=>?_,fun j hj=>?_⟩
  · rcases Zus.1 hc with rfl | hc
    · exact(Z7 kv vv c l).low w hm c (by simp [Z7])
    · exact h.2.2.1 c hc
  · have hl:=h.1
    have hl2:=h.2.1
    by_cases e:i=j
    · subst e
      exact .inr ⟨l,b,by rw [List.getElem?_set_self (by omega)],by rw [List.getElem?_set_self (by omega)],by simp,hm⟩
    · rcases h.2.2.2 j hj with ⟨q1,q2⟩ | ⟨l',b',h1,h2,h3,h4⟩
      · exact .inl ⟨by rw [List.getElem?_set_ne e]; exact q1,by rw [List.getElem?_set_ne e]; exact q2⟩
      · exact .inr ⟨l',b',by rw [List.getElem?_set_ne e]; exact h1,by rw [List.getElem?_set_ne e]; exact h2,by simp [h3],h4⟩
theorem Zo1 (h:(Jh kv vv n).rep ls cs fp w) {i:Nat} {l:List (α×β)} (hl:ls[i]? = some (some l)):∃ b,cs[i]? = some (.map (some b))∧b∈fp∧(Z7 kv vv b l).holds w:=by
  have hi:i < n:=by have:=(List.getElem?_eq_some_iff.1 hl).1; have:=h.2.1; omega
  rcases h.2.2.2 i hi with ⟨q1,q2⟩ | ⟨l',b',h1,h2,h3,h4⟩
  · rw [hl] at q1; cases q1
  · rw [hl] at h1; injection h1 with h1; injection h1 with h1; subst h1; exact⟨b',h2,h3,h4⟩
theorem Za4 (h:(Jh kv vv n).rep ls cs fp w):cs.length=n:=h.1
theorem Zir (h:(Jh kv vv n).rep ls cs fp w):cs.all (·.oneCell')=true:=List.all_eq_true.2 fun u hu=>(Jh kv vv n).one h u hu
end
theorem Zo2 {cs:List Value} {n:Nat} (h:cs.length=n):(cs.drop 0).take n=cs:=by rw [List.drop_zero,List.take_of_length_le (by omega)]
theorem Zo3 {cs:List Value} {o i:Nat} {v:Value} (h:cs[i]? = some v) (ho:o=i):cs[o]? = some v:=ho ▸ h
theorem Zo4 {cs:List Value} {o i:Nat} {v:Value} (hi:i < cs.length) (ho:o=i):Yz cs o [v]=cs.set i v:=by
  subst ho
  unfold Yz
  rw [List.set_eq_take_append_cons_drop,if_pos hi]
  simp
theorem Zis {cs vc:List Value} (h:vc.length=cs.length):Yz cs 0 vc=vc:=by
  unfold Yz
  rw [List.take_zero,List.nil_append,Nat.zero_add,h,List.drop_length,List.append_nil]
namespace Ctx
variable {X:Nat→Prop} {w0 w w':World} {M Ps:List Item}
theorem joinP (h:Ctx X w0 w M Ps) (j k:Nat) {it jt:Item} (hj:Ps[j]? = some it) (hk:Ps[k]? = some jt) (nt:Item) (hn:it.holds w→jt.holds w→nt.holds w) (hf:∀ b,b∈nt.fp→b∈it.fp∨b∈jt.fp):Ctx X w0 w M (nt::Ps) :=
  h.pushP nt (hn (h.getP j hj) (h.getP k hk)) (fun b hb m hm=>(hf b hb).elim (fun q=>h.pd it (List.mem_of_getElem? hj) b q m hm) (fun q=>h.pd jt (List.mem_of_getElem? hk) b q m hm))
end Ctx
theorem Zbi {w w':World} (h:BelN w.heap.size w w'):Bel w w':=⟨⟨h.os,h.tape,h.output,h.size,h.old⟩,h.drawn⟩
theorem Xm {N:Nat} {w w':World} (hN:N≤w.heap.size) (h:Bel w w'):BelN N w w':=⟨h.os,h.tape,h.output,h.size,h.drawn,fun c hc=>h.block c (by omega)⟩
theorem X6 {N b:Nat} {w w':World} (hN:N≤w.heap.size) (hb:N≤b) (h:BelB b w w'):BelN N w w':=⟨h.os,h.tape,h.output,h.size,h.drawn,fun c hc=>h.old c (by omega) (by omega)⟩
section
variable {P:Program} {l:List Oper} {Q:Exit→Act→World→Prop} {n m f:Nat} {e:Env} {w:World} {listed:Array Bool}
theorem Yo {N i:Nat} {w':World} {l9:Array Bool} (hb:BelN N w w') (hN:N≤w.heap.size) (hl:listed.setIfInBounds i true=l9) (h:N≤w'.heap.size→AE (BelN N) P .any l.toArray Q m n f l9 e w'):AK (BelN N) P l Q m n f i listed w .normal (actOf n e) w' :=
  Zka hb hl (h (Nat.le_trans hN hb.size))
end
section
variable {P:Program} {ops:Array Oper} {Q:Exit→Act→World→Prop} {n:Nat} {e:Env} {w w':World} {rest:List Oper}
variable {X:Nat→Prop} {w0:World} {M Ps:List Item}
variable {d ty:Nat} {pos:String} {af:Array Edge} {gd:Option (Nat×Bool)}
theorem Zdc (hC:Ctx X w0 w M Ps) {t:Nat} {z:Value} (cs:List Value) (hz:Xc P t z) (hcs:z.cells.toList=cs)
    (h:∀ b w',w.heap.size≤b→Bel w w'→Ctx X w0 w' (blk b t cs::M) Ps→W P ops Q rest n (upd e d (.pointer (some ⟨b,0,none⟩))) w') :
    W P ops Q (⟨some d,.alloc t,ty,pos,af,none⟩::rest) n e w:=by
  have hB:Bel w (w.alloc (.cells z.cells t)):=Bel.alloc _ _
  refine Yv (.pointer (some ⟨w.heap.size,0,none⟩)) rfl rfl ?_ (h w.heap.size (w.alloc (.cells z.cells t)) (Nat.le_refl _) hB (hC.push hB _ ?_ ?_))
  · simp [execOp,Instr.alloc,Zfz hz,newVar,newRow]
  · show (w.alloc _).heap[w.heap.size]? = _
    rw [heap_alloc_new,← hcs]
  · simp [blk]
theorem Zed (hC:Ctx X w0 w M Ps) (k:Nat) {b t off sz ty':Nat} {x y:Operand} {cs:List Value} {v:Value} (vc:List Value) (cs':List Value) (hk:M[k]? = some (blk b t cs)) (hT:Xk P ty' sz) (hx:ev n e x=.pointer (some ⟨b,off,none⟩))
    (hy:ev n e y=v) (hv:v.cells.toList=vc) (hl:vc.length=sz) (h1:vc.all (·.oneCell')=true) (ho:off+sz≤cs.length) (hcs:Yz cs off vc=cs')
    (h:∀ w',BelB b w w'→Ctx X w0 w' (M.set k (blk b t cs')) Ps→W P ops Q rest n e w') :
    W P ops Q (⟨none,.store ty' x y,ty,pos,af,none⟩::rest) n e w:=by
  obtain ⟨w',hr,hb,hos,hta,hou,hsz,hother⟩:=Zjr (P:=P) hT (hC.getM k hk) hv hl h1 ho
  refine Zdy rfl rfl ?_ (h w' ⟨hos,hta,hou,by omega,Zcu _ _ _ _ hr,fun c _ hc=>hother c hc⟩ (hC.turn k hk hos hta hou (by omega) (Zcu _ _ _ _ hr) (fun c _ hc=>hother c (by simpa [blk] using hc)) (hcs ▸ hb) (fun c hc=>.inl hc)))
  simp [execOp,hx,hy,Instr.storeAt,Instr.sureAddr,hr]
variable {α β:Type} {kv:α→Value} {vv:β→Value}
theorem Zca (hC:Ctx X w0 w M Ps) {t:Nat} (kv:α→Value) (vv:β→Value) (h:∀ b w',w.heap.size≤b→Bel w w'→Ctx X w0 w' (Z7 kv vv b []::M) Ps→W P ops Q rest n (upd e d (.map (some b))) w') :
    W P ops Q (⟨some d,.makeMap t none,ty,pos,af,none⟩::rest) n e w:=by
  have hB:Bel w (w.alloc (.map #[] 0)):=Bel.alloc _ _
  refine Yv (.map (some w.heap.size)) rfl rfl ?_ (h w.heap.size _ (Nat.le_refl _) hB (hC.push hB _ ⟨#[],0,heap_alloc_new _ _,rfl,by simp,by simp,by simp⟩ (by simp [Z7])))
  simp [execOp,Instr.makeMap,newObj,Sem.run,Result.andThen]
variable [DecidableEq α]
theorem Jr (hC:Ctx X w0 w M Ps) (j:Nat) {t k el b:Nat} {l:List (α×β)} {x y z:Operand} (kx:α) (v:β) (hk:M[j]? = some (Z7 kv vv b l)) (K:KeyT P k kv) (ht:P.underlying t=some (.map k el))
    (hx:ev n e x=.map (some b)) (hy:ev n e y=kv kx) (hz:ev n e z=vv v) (h:∀ w',BelB b w w'→Ctx X w0 w' (M.set j (Z7 kv vv b (Yc l kx v))) Ps→W P ops Q rest n e w') {op:Op} (hop:op=.mapUpdate t x y z∨op=.insert t x y z) :
    W P ops Q (⟨none,op,ty,pos,af,none⟩::rest) n e w:=by
  obtain ⟨w',hr,hh,hb⟩:=Zkh K ht (hC.getM j hk) kx v
  refine Zdy rfl rfl ?_ (h w' hb (hC.turnB j hk hb rfl rfl hh))
  rcases hop with rfl | rfl <;> simp [execOp,hx,hy,hz,hr]
end
theorem Zo5 {cs vc:List Value} {o:Nat} (ho:o+vc.length≤cs.length) (k:Nat):(Yz cs o vc)[k]? = if k < o then cs[k]? else if k < o+vc.length then vc[k - o]? else cs[k]? := by
  unfold Yz
  have h1:(cs.take o).length=o:=by rw [List.length_take]; omega
  by_cases a:k < o
  · rw [if_pos a,List.append_assoc,List.getElem?_append_left (by omega),List.getElem?_take,if_pos a]
  · rw [if_neg a]
    by_cases b:k < o+vc.length
    · rw [if_pos b,List.append_assoc,List.getElem?_append_right (by omega),h1,List.getElem?_append_left (by omega)]
    · rw [if_neg b,List.getElem?_append_right (by rw [List.length_append]; omega),List.length_append,h1,List.getElem?_drop]
      congr 1
      omega
theorem Zo6 {cs vc:List Value} {o:Nat} (ho:o+vc.length≤cs.length):(Yz cs o vc).length=cs.length:=by
  unfold Yz; simp; omega
section
variable {α:Type} {T:Tr α} {w:World}
theorem Zo7 {fps:List (List Nat)} {i:Nat} {f:List Nat} {b:Nat} (h:b∈(fps.set i f).flatten):b∈fps.flatten∨b∈f:=by
  obtain ⟨l,hl,hb⟩:=ZCk.1 h
  rcases ZCo hl with q | q
  · exact .inl (ZCk.2 ⟨l,q,hb⟩)
  · exact .inr (q ▸ hb)
theorem Zo8 {xs : List α} {cs c2 : List Value} {fps : List (List Nat)} {f2 : List Nat} {i : Nat} {y : α} (h : (Yk T xs cs fps).holds w) (hi : i < xs.length) (hy : (T.item y c2 f2).holds w) (hd : ∀ b, b ∈ fps.flatten → b ∉ f2) :
    (Yk T (xs.set i y) (Yz cs (i * T.ty.sz) c2) (fps.set i f2)).holds w:=by
  have hc2:c2.length=T.ty.sz:=T.ty.len (T.trep hy.1)
  have hle:i * T.ty.sz+T.ty.sz≤cs.length:=by rw [h.1.1]; exact J6 hi
  have hle2:i * T.ty.sz+c2.length≤cs.length:=by rw [hc2]; exact hle
  have hfl:=h.1.2.1
  refine⟨⟨by rw [Zo6 hle2,h.1.1,ZCi],by rw [ZCi,ZCi,hfl],fun j hj=>?_⟩,?_⟩
  · have hj':j < xs.length:=by simpa using hj
    have hseg:∀ k:Nat,(((Yz cs (i * T.ty.sz) c2).drop (j * T.ty.sz)).take T.ty.sz)[k]? = if j=i then c2[k]? else((cs.drop (j * T.ty.sz)).take T.ty.sz)[k]? := by
      intro k
      rw [List.getElem?_take]
      by_cases hk:k < T.ty.sz
      · rw [if_pos hk,List.getElem?_drop,Zo5 hle2]
        by_cases hji:j=i
        · subst hji
          rw [if_neg (by omega),if_pos (by omega),if_pos rfl,Nat.add_sub_cancel_left]
        · rw [if_neg hji,List.getElem?_take,if_pos hk,List.getElem?_drop]
          rcases Nat.lt_or_gt_of_ne hji with q | q
          · have:=J6 (sz:=T.ty.sz) q
            rw [if_pos (by omega)]
          · have:=J6 (sz:=T.ty.sz) q
            rw [if_neg (by omega),if_neg (by omega)]
      · rw [if_neg hk]
        by_cases hji:j=i
        · rw [if_pos hji,List.getElem?_eq_none (by omega)]
        · rw [if_neg hji,List.getElem?_take,if_neg hk]
    have hfj:(fps.set i f2).getD j []=if j=i then f2 else fps.getD j []:=by
      simp only [List.getD]
      by_cases hji:j=i
      · subst hji; rw [if_pos rfl,List.getElem?_set_self (by omega)]; rfl
      · rw [if_neg hji,List.getElem?_set_ne (fun e=>hji e.symm)]
    rw [List.getElem_set,hfj]
    by_cases hji:j=i
    · subst hji
      rw [if_pos rfl,if_pos rfl]
      have e1:((Yz cs (j * T.ty.sz) c2).drop (j * T.ty.sz)).take T.ty.sz=c2:=List.ext_getElem? (fun k=>(hseg k).trans (if_pos rfl))
      rw [e1]
      exact hy.1
    · rw [if_neg (fun e=>hji e.symm),if_neg hji]
      have e1:((Yz cs (i * T.ty.sz) c2).drop (j * T.ty.sz)).take T.ty.sz=(cs.drop (j * T.ty.sz)).take T.ty.sz:=List.ext_getElem? (fun k=>(hseg k).trans (if_neg hji))
      rw [e1]
      exact h.1.2.2 j hj'
  · have hp:=ZCp.1 h.2
    refine ZCp.2 ⟨fun l hl=>?_,?_⟩
    · rcases ZCo hl with q | q
      · exact hp.1 l q
      · rw [q]; exact hy.2
    · rw [Zuz]
      intro a b ha hb hab x hx z hz
      have ha':a < fps.length:=by simpa using ha
      have hb':b < fps.length:=by simpa using hb
      rw [List.getElem_set] at hx hz
      split at hx
      · split at hz
        · omega
        · intro e; subst e; exact hd x (ZCk.2 ⟨_,List.getElem_mem hb',hz⟩) hx
      · split at hz
        · intro e; subst e; exact hd x (ZCk.2 ⟨_,List.getElem_mem ha',hx⟩) hz
        · exact Zuz.1 hp.2 a b ha' hb' hab x hx z hz
theorem Zk0 {e:Nat} {xs:List α} {v:Value} {fp:List Nat} (h:((Tr.sl e T).item xs [v] fp).holds w) (hn:0 < xs.length):∃ g cap,v=.slice (some ⟨g,0,none⟩) xs.length cap:=by
  obtain ⟨ecs,fps,a1,_⟩:=Zgj h
  exact Za0 a1 hn
end
section
variable {P:Program} {ops:Array Oper} {Q:Exit→Act→World→Prop} {n:Nat} {e:Env} {w w':World} {rest:List Oper}
variable {X:Nat→Prop} {w0:World} {M Ps:List Item}
variable {d ty:Nat} {pos:String} {af:Array Edge} {gd:Option (Nat×Bool)}
theorem Zk1 {el ty' i g cap j:Nat} {α:Type} {T:Tr α} {x y:Operand} {v u:Value} {xs:List α} {z:α} {c2:List Value} {f1 f2:List Nat} (hC:Ctx X w0 w ((Tr.sl el T).item xs [v] f1::T.item z c2 f2::M) Ps)
    (hi:i < xs.length) (hv:v=.slice (some ⟨g,0,none⟩) xs.length cap) (hT:Xk P ty' T.ty.sz) (hx:ev n e x=.pointer (some ⟨g,j,none⟩)) (hj:j=i * T.ty.sz) (hy:ev n e y=u) (hu:u.cells.toList=c2)
    (h:∀ f w',Ctx X w0 w' ((Tr.sl el T).item (xs.set i z) [v] f::M) Ps→W P ops Q rest n e w') :
    W P ops Q (⟨none,.store ty' x y,ty,pos,af,none⟩::rest) n e w:=by
  obtain ⟨ecs,fps,a1,a2,rfl,a4⟩:=Zgj (hC.getM 0 rfl)
  have hz:(T.item z c2 f2).holds w:=hC.getM 1 rfl
  have hdz:∀ b,b∈v.ownBlock.toList++fps.flatten→b∉f2:=fun b hb hb'=>hC.mm 0 1 rfl rfl (by decide) b hb hb'
  have h1:=hC.split (a:=own el T.ty.sz v xs.length ecs) (b:=Yk T xs ecs fps) (fun b hb=>List.mem_append_left _ hb) (fun b hb=>List.mem_append_right _ hb) ⟨a1,a2,a4⟩
  have hc2:c2.length=T.ty.sz:=T.ty.len (T.trep hz.1)
  have hle:j+T.ty.sz≤ecs.length:=by rw [hj,a2.1.1]; exact J6 hi
  refine Zb1 (v:=u) h1 0 c2 (Yz ecs j c2) rfl hv hT hx hy hu hc2 (List.all_eq_true.2 fun q hq=>T.ty.one (T.trep hz.1) q hq) hle rfl fun w1 hC1=>?_
  have h2:=hC1.perm (M':=Yk T xs ecs fps::T.item z c2 f2::own el T.ty.sz v xs.length (Yz ecs j c2)::M) (by
    have q1:(own el T.ty.sz v xs.length (Yz ecs j c2)::Yk T xs ecs fps::T.item z c2 f2::M).Perm (Yk T xs ecs fps::own el T.ty.sz v xs.length (Yz ecs j c2)::T.item z c2 f2::M):=Zv9 _ _ _
    have q2:(Yk T xs ecs fps::own el T.ty.sz v xs.length (Yz ecs j c2)::T.item z c2 f2::M).Perm (Yk T xs ecs fps::T.item z c2 f2::own el T.ty.sz v xs.length (Yz ecs j c2)::M):=(Zv9 _ _ _).cons _
    exact q1.trans q2)
  have h3:=h2.gather (c:=Yk T (xs.set i z) (Yz ecs j c2) (fps.set i f2)) (fun b hb=>Zo7 hb) (fun p q r=>by rw [hj]; exact Zo8 p hi q r)
  have h4:=h3.perm (M':=own el T.ty.sz v xs.length (Yz ecs j c2)::Yk T (xs.set i z) (Yz ecs j c2) (fps.set i f2)::M) (Zv9 _ _ _)
  exact h _ w1 (h4.gather (c:=(Tr.sl el T).item (xs.set i z) [v] (v.ownBlock.toList++(fps.set i f2).flatten)) (fun b hb=>List.mem_append.1 hb) (fun p q r=>Zag (by rw [ZCi]; exact p) q r))
end
section
variable {P:Program} {ops:Array Oper} {Q:Exit→Act→World→Prop} {n:Nat} {e:Env} {w w':World} {rest:List Oper}
variable {d ty:Nat} {pos:String} {af:Array Edge} {gd:Option (Nat×Bool)}
end
section
variable {P:Program} {ops:Array Oper} {Q:Exit→Act→World→Prop} {K:Act→World→Prop} {n:Nat} {e:Env} {w:World}
theorem dn (h:K (actOf n e) w):W P ops (Exit.then K Q) [] n e w:=done (Zd h)
theorem sr {id:Nat} {l:List Oper} {y:Code} (h:W P l.toArray (Exit.then (y.wp P Q) Q) l n e w):(Code.seq (Code.region id l.toArray false) y).wp P Q (actOf n e) w:=wp_seq (Zm h)
def Zit (e:Env):List (Nat×Value)→Env
  | []=>e
  | p::l=>upd (Zit e l) p.1 p.2
theorem ue {e:Env}:∀ {l:List (Nat×Value)}, Zy e l→e=Zit e l
  | [],_=>rfl
  | p :: l, h => by
    have h1:=ue (l:=l) (fun q hq=>h q (List.mem_cons_of_mem _ hq))
    have h2:e p.1=p.2:=h p (by simp)
    show e=upd (Zit e l) p.1 p.2
    rw [← h1,Zm8 h2]
def SlR (e:Env):List (Nat×Value)→Prop
  | []=>True
  | p::l=>e p.1=p.2∧SlR e l
theorem sl {e:Env}:∀ {l:List (Nat×Value)}, SlR e l→Zy e l
  | [],_=>Zow
  | p::l,h=>Zox h.1 (sl h.2)
end
theorem rt {v:Value} {F:Value→Prop} (h:F v):∃ u,Ending.returned v=.returned u∧F u:=⟨v,rfl,h⟩
abbrev vI (x:Int):Value:=.int .i64 x
abbrev vQ (b:Nat):Value:=.pointer (some ⟨b,0,none⟩)
abbrev mapS (b:Nat) (l:List (A8×Int)):Item:=Z7 (kvA .i64) (vvI .i64) b l
abbrev eI:Enc Int:=EI .i64
theorem al1 {α:Type} {P:α→Prop} {a:α} (h:P a):∀ x,x∈[a]→P x:=fun x hx=>by obtain rfl:=List.mem_singleton.1 hx; exact h
theorem alc {α:Type} {P:α→Prop} {a:α} {l:List α} (h:P a) (k:∀ x,x∈l→P x):∀ x,x∈a::l→P x:=fun x hx=>(Zus.1 hx).elim (fun e=>e ▸ h) (k x)
theorem cof {P:Program} {f:FuncId} {fn:Func} {c:Code} {args:List Value} {w:World} {R:Ending→World→Prop}
    (hf:P.funcs[f]? = some fn) (hb:fn.body=some c) (n:Nat) (hn:fn.ntmps=n)
    (h:c.wp P (bodyPost P fn R) (actOf n (Zfy args)) w) (hl:args.length≤n:=by exact Nat.le_of_ble_eq_true rfl):Calls P f args.toArray w R:=Zm9 hf hb n hn hl h
namespace Ctx
theorem xM {X:Nat→Prop} {w0 w:World} {M Ps:List Item} (h:Ctx X w0 w M Ps) (idx:List Nat) {M':List Item} (hm:idx.map (M[·]?)=M'.map some) (hn:idx.Nodup:=by decide):Ctx X w0 w M' Ps:=h.sM idx hn hm
theorem dAlg {X:Nat→Prop} {w0 w:World} {M Ps:List Item} (h:Ctx X w0 w M Ps) (k:Nat) {a:Alg} {u v:Value} {fp:List Nat} (hk:Ps[k]? = some (ZCh TAlg a [u,v] fp)):Ctx X w0 w M (ZCh TForm.sl a.images [v] fp::ZCh ((EI .i64).ty.sl) a.degrees [u] fp::Ps) :=
  (h.derive k hk (ZCh ((EI .i64).ty.sl) a.degrees [u] fp) (fun q=>(Zd7 q).1) (fun _ q=>q)).derive (k+1) (it:=ZCh TAlg a [u,v] fp) (by rw [List.getElem?_cons_succ]; exact hk) (ZCh TForm.sl a.images [v] fp) (fun q=>(Zd7 q).2) (fun _ q=>q)
end Ctx
section
variable {P:Program} {Q:Exit→Act→World→Prop} {l:List Oper} {m n f:Nat} {listed:Array Bool} {e:Env} {w:World} {lf:List Nat} {d:Nat} {ty:Nat} {pos:String} {af:Array Edge} {x:Operand}
theorem bF (i:Nat) (v:Value) {oi:Oper} (ho:l[i]? = some oi) (hd:oi.dst=some d) (hM:∀ i,lf.contains i=true→Xl .any l.toArray l.toArray.size i=true)
    (hst:∀ w':World,(execOp (ev n e) oi).run P w'=.ok (.value v) w') (l9:Array Bool) (h:AE Bel P .any l.toArray Q m n f l9 (upd e d v) w)
    (hc:lf.contains i=true:=by rfl) (hw:Region.wanted oi (Xu l.toArray n e)=true:=by rfl) (hr:J9 l listed i=true:=by kernel_rfl) (hl:listed.setIfInBounds i true=l9:=by kernel_rfl):AE Bel P .any l.toArray Q m n (f+1) listed e w :=
  Zt Zu i v ho hd hr (hM i hc) (fun w'=>.inl ⟨hw,hst w'⟩) hl h
theorem bL (i:Nat) (v:Value) {oi:Oper} (ho:l[i]? = some oi) (hd:oi.dst=some d) (hM:∀ i,lf.contains i=true→Xl .any l.toArray m i=true)
    (hst:∀ w':World,Bel w w'→(execOp (ev n e) oi).run P w'=.ok (.value v) w') (l9:Array Bool) (h:AE Bel P .any l.toArray Q m n f l9 (upd e d v) w)
    (hc:lf.contains i=true:=by rfl) (hw:Region.wanted oi (Xu l.toArray n e)=true:=by rfl) (hr:J9 l listed i=true:=by kernel_rfl) (hl:listed.setIfInBounds i true=l9:=by kernel_rfl):AE Bel P .any l.toArray Q m n (f+1) listed e w :=
  Jl Zu i v ho hd hr (hM i hc) (fun w' hB=>.inl ⟨hw,hst w' hB⟩) hl h
theorem bMR {R:World→World→Prop} (hR:PreW R) (i:Nat) (v:Value) (ho:l[i]? = some ⟨some d,.move x,ty,pos,af,none⟩) (hM:∀ i,lf.contains i=true→Xl .any l.toArray l.toArray.size i=true)
    (l9:Array Bool) (h:AE R P .any l.toArray Q m n f l9 (upd e d v) w) (hx:ev n e x=v:=by rfl)
    (hc:lf.contains i=true:=by rfl) (hr:J9 l listed i=true:=by kernel_rfl) (hl:listed.setIfInBounds i true=l9:=by kernel_rfl):AE R P .any l.toArray Q m n (f+1) listed e w :=
  Zt hR i v ho rfl hr (hM i hc) (fun w'=>.inl ⟨rfl,Jo hx⟩) hl h
theorem bM (i:Nat) (v:Value) (ho:l[i]? = some ⟨some d,.move x,ty,pos,af,none⟩) (hM:∀ i,lf.contains i=true→Xl .any l.toArray l.toArray.size i=true)
    (l9:Array Bool) (h:AE Bel P .any l.toArray Q m n f l9 (upd e d v) w) (hx:ev n e x=v:=by rfl)
    (hc:lf.contains i=true:=by rfl) (hr:J9 l listed i=true:=by kernel_rfl) (hl:listed.setIfInBounds i true=l9:=by kernel_rfl):AE Bel P .any l.toArray Q m n (f+1) listed e w :=
  bMR Zu i v ho hM l9 h hx hc hr hl
theorem bAR {R:World→World→Prop} (hR:PreW R) (i:Nat) (v:Value) (ho:l[i]? = some ⟨some d,.assign x,ty,pos,af,none⟩) (hM:∀ i,lf.contains i=true→Xl .any l.toArray l.toArray.size i=true)
    (l9:Array Bool) (h:AE R P .any l.toArray Q m n f l9 (upd e d v) w) (hx:ev n e x=v:=by rfl)
    (hc:lf.contains i=true:=by rfl) (hr:J9 l listed i=true:=by kernel_rfl) (hl:listed.setIfInBounds i true=l9:=by kernel_rfl):AE R P .any l.toArray Q m n (f+1) listed e w :=
  Zt hR i v ho rfl hr (hM i hc) (fun w'=>.inl ⟨rfl,Zh3 hx⟩) hl h
theorem bA (i:Nat) (v:Value) (ho:l[i]? = some ⟨some d,.assign x,ty,pos,af,none⟩) (hM:∀ i,lf.contains i=true→Xl .any l.toArray l.toArray.size i=true)
    (l9:Array Bool) (h:AE Bel P .any l.toArray Q m n f l9 (upd e d v) w) (hx:ev n e x=v:=by rfl)
    (hc:lf.contains i=true:=by rfl) (hr:J9 l listed i=true:=by kernel_rfl) (hl:listed.setIfInBounds i true=l9:=by kernel_rfl):AE Bel P .any l.toArray Q m n (f+1) listed e w :=
  bAR Zu i v ho hM l9 h hx hc hr hl
end
theorem mg {α:Type} {l:List α} {a:α} (i:Nat) (h:l[i]? = some a):a∈l:=List.mem_of_getElem? h
theorem slq {e:Env} {l:List (Nat×Value)} (h:l.map (fun p=>e p.1)=l.map Prod.snd):Zy e l:=fun p hp=>by
  obtain ⟨i,hi,rfl⟩:=List.getElem_of_mem hp
  have:=congrArg (·[i]?) h
  simpa [hi] using this
section
variable {X:Nat→Prop} {w0 w:World} {M Ps:List Item}
theorem Ctx.pdk (h:Ctx X w0 w M Ps) (i j:Nat) {a b:Item} (hi:Ps[i]? = some a) (hj:M[j]? = some b):∀ x,x∈a.fp→x∉b.fp:=fun x hx=>h.pd a (List.mem_of_getElem? hi) x hx b (List.mem_of_getElem? hj)
theorem Ctx.mfk (h:Ctx X w0 w M Ps) (i:Nat) {a:Item} (hi:M[i]? = some a):∀ x,x∈a.fp→w0.heap.size≤x∨X x:=h.mfp a (List.mem_of_getElem? hi)
variable {P:Program} {ops:Array Oper} {Q:Exit→Act→World→Prop} {n:Nat} {e:Env} {rest:List Oper} {d ty:Nat} {pos:String} {af:Array Edge} {gd:Option (Nat×Bool)}
theorem Zgn (hC:Ctx X w0 w M Ps) (k:Nat) {α:Type} {T:Ty α} {xs:List α} {v:Value} {fp:List Nat} {t el:Nat} {x:Operand} (hk:Ps[k]? = some (ZCh T.sl xs [v] fp)) (ht:P.underlying t=some (.slice el)) (hx:ev n e x=v) :
    (execOp (ev n e) ⟨some d,.call { callee:=.builtin .len,args:=#[x],argTypes:=#[t] }, ty,pos,af,gd⟩).run P w=.ok (.value (.int .i64 (xs.length:Int))) w:=by
  obtain ⟨A,c,e1⟩:=Zd3 (hC.getP k hk)
  exact Znf ht (hx.trans e1)
theorem Zv (hC:Ctx X w0 w M Ps) (k:Nat) {α:Type} {T:Ty α} {xs:List α} {v:Value} {fp:List Nat} {t el:Nat} {x:Operand} (hk:Ps[k]? = some (ZCh T.sl xs [v] fp)) (ht:P.underlying t=some (.slice el)) (hx:ev n e x=v)
    (h:W P ops Q rest n (upd e d (.int .i64 (xs.length:Int))) w):W P ops Q (⟨some d,.call { callee:=.builtin .len,args:=#[x],argTypes:=#[t] }, ty,pos,af,none⟩::rest) n e w:=by
  obtain ⟨A,c,e1⟩:=Zd3 (hC.getP k hk)
  exact Zh9 ht (hx.trans e1) h
theorem Zgo (hC:Ctx X w0 w M Ps) (k:Nat) {a sz m:Nat} {v:Value} {cs:List Value} {t el:Nat} {x:Operand} (hk:M[k]? = some (own a sz v m cs)) (ht:P.underlying t=some (.slice el)) (hx:ev n e x=v)
    (h:W P ops Q rest n (upd e d (.int .i64 (m:Int))) w):W P ops Q (⟨some d,.call { callee:=.builtin .len,args:=#[x],argTypes:=#[t] }, ty,pos,af,none⟩::rest) n e w:=by
  obtain ⟨A,c,e1⟩:=Zd4 (hC.getM k hk)
  exact Zh9 ht (hx.trans e1) h
theorem Zo9 (hC:Ctx X w0 w M Ps) (k:Nat) {α:Type} {T:Tr α} {a:Nat} {xs:List α} {v:Value} {f:List Nat} {t el:Nat} {x:Operand} (hk:M[k]? = some (Tr.item (Tr.sl a T) xs [v] f)) (ht:P.underlying t=some (.slice el)) (hx:ev n e x=v)
    (h:W P ops Q rest n (upd e d (.int .i64 (xs.length:Int))) w):W P ops Q (⟨some d,.call { callee:=.builtin .len,args:=#[x],argTypes:=#[t] }, ty,pos,af,none⟩::rest) n e w:=by
  obtain ⟨A,c,e1⟩:=Zoq (hC.getM k hk)
  exact Zh9 ht (hx.trans e1) h
variable {l:List Oper} {id:Nat}
theorem cwd (m:Nat) (hm:P.follows .mixedOrders=true) (rows lk lf:List Nat)
    (h:(∀ i,lk.contains i=true→Xl .any l.toArray m i=true)→(∀ i,lf.contains i=true→Xl .any l.toArray l.toArray.size i=true)→∀ w',Bel w w'→AE Bel P .any l.toArray Q m n l.length (Zur l.length false).toArray e w')
    (hro:Zb2 l rows=true:=by kernel_rfl) (hk:lk.all (J8 rows l m)=true:=by kernel_rfl) (hf:lf.all (J8 rows l l.length)=true:=by kernel_rfl):(Code.region id l.toArray true).wp P Q (actOf n e) w:=Zid m hm rows lk lf hro hk hf h
theorem Ziu (m:Nat) (hm:P.follows .mixedOrders=true) (rows lk lf:List Nat)
    (h:(∀ i,lk.contains i=true→Xl .any l.toArray m i=true)→(∀ i,lf.contains i=true→Xl .any l.toArray l.toArray.size i=true)→∀ w',Bel w w'→AE (BelN w'.heap.size) P .any l.toArray Q m n l.length (Zur l.length false).toArray e w')
    (hro:Zb2 l rows=true:=by kernel_rfl) (hk:lk.all (J8 rows l m)=true:=by kernel_rfl) (hf:lf.all (J8 rows l l.length)=true:=by kernel_rfl):(Code.region id l.toArray true).wp P Q (actOf n e) w:=Znp m hm rows lk lf hro hk hf h
end
end Vc
namespace Go.Proofs
open Go.Shelf
def Tryz.sortPow_ren:Go.Shelf.Ren:=⟨fun | 6=>104 | 15=>111 | 14=>110 | 28=>121 | 29=>122 | 20=>113 | 21=>114 | 22=>115 | 23=>116 | 24=>117 | 25=>118 | 26=>119 | 27=>120 | 46=>123 | 47=>124 | 48=>125 | 49=>126 | 50=>127 | 57=>128 | n=>n,fun | 22=>128 | 24=>110 | 25=>144 | 3=>3 | 39=>149 | 0=>0 | 53=>160 | 55=>162 | 4=>4 | 46=>153 | 45=>152 | 50=>157 | 5=>5 | 9=>9 | 66=>163 | 70=>167 | 76=>169 | 77=>170 | n=>n,fun | n=>n⟩
theorem Tryz.sortPow:Go.Proofs.SlLaysF0.n6 Tryz.prog Tryz.sortPow_ren:={
  mixed:=by kernel_rfl
  f6:=⟨Tryz.f104.name,by decide,Tryz.func104.trans (congrArg some (by kernel_rfl))⟩
  f14:=⟨Tryz.f110.name,by decide,Tryz.func110.trans (congrArg some (by kernel_rfl))⟩
  f15:=Tryz.func111.trans (congrArg some (by kernel_rfl))
  f20:=⟨Tryz.f113.name,by decide,Tryz.func113.trans (congrArg some (by kernel_rfl))⟩
  f21:=⟨Tryz.f114.name,by decide,Tryz.func114.trans (congrArg some (by kernel_rfl))⟩
  f22:=⟨Tryz.f115.name,by decide,Tryz.func115.trans (congrArg some (by kernel_rfl))⟩
  f23:=⟨Tryz.f116.name,by decide,Tryz.func116.trans (congrArg some (by kernel_rfl))⟩
  f24:=⟨Tryz.f117.name,by decide,Tryz.func117.trans (congrArg some (by kernel_rfl))⟩
  f25:=⟨Tryz.f118.name,by decide,Tryz.func118.trans (congrArg some (by kernel_rfl))⟩
  f26:=⟨Tryz.f119.name,by decide,Tryz.func119.trans (congrArg some (by kernel_rfl))⟩
  f27:=⟨Tryz.f120.name,by decide,Tryz.func120.trans (congrArg some (by kernel_rfl))⟩
  f28:=Tryz.func121.trans (congrArg some (by kernel_rfl))
  f29:=Tryz.func122.trans (congrArg some (by kernel_rfl))
  f46:=⟨Tryz.f123.name,by decide,Tryz.func123.trans (congrArg some (by kernel_rfl))⟩
  f47:=Tryz.func124.trans (congrArg some (by kernel_rfl))
  f48:=Tryz.func125.trans (congrArg some (by kernel_rfl))
  f49:=⟨Tryz.f126.name,by decide,Tryz.func126.trans (congrArg some (by kernel_rfl))⟩
  f50:=⟨Tryz.f127.name,by decide,Tryz.func127.trans (congrArg some (by kernel_rfl))⟩
  f57:=⟨Tryz.f128.name,by decide,Tryz.func128.trans (congrArg some (by kernel_rfl))⟩
  t0:=Tryz.underlying0
  a0:=Tryz.isAgg0
  z0:=Tryz.sizeOf0
  v0:=Tryz.zeroValue0
  t3:=Tryz.underlying3
  a3:=Tryz.isAgg3
  z3:=Tryz.sizeOf3
  v3:=Tryz.zeroValue3
  t4:=Tryz.underlying4
  a4:=Tryz.isAgg4
  z4:=Tryz.sizeOf4
  v4:=Tryz.zeroValue4
  t5:=Tryz.underlying5
  a5:=Tryz.isAgg5
  z5:=Tryz.sizeOf5
  v5:=Tryz.zeroValue5
  t9:=Tryz.underlying9
  a9:=Tryz.isAgg9
  z9:=Tryz.sizeOf9
  v9:=Tryz.zeroValue9
  t22:=Tryz.underlying128
  a22:=Tryz.isAgg128
  z22:=Tryz.sizeOf128
  v22:=Tryz.zeroValue128
  t25:=Tryz.underlying144
  a25:=Tryz.isAgg144
  z25:=Tryz.sizeOf144
  v25:=Tryz.zeroValue144
  t39:=Tryz.underlying149
  a39:=Tryz.isAgg149
  z39:=Tryz.sizeOf149
  v39:=Tryz.zeroValue149
  t45:=Tryz.underlying152
  a45:=Tryz.isAgg152
  z45:=Tryz.sizeOf152
  v45:=Tryz.zeroValue152
  t46:=Tryz.underlying153
  a46:=Tryz.isAgg153
  z46:=Tryz.sizeOf153
  v46:=Tryz.zeroValue153
  t50:=Tryz.underlying157
  a50:=Tryz.isAgg157
  z50:=Tryz.sizeOf157
  v50:=Tryz.zeroValue157
  t53:=Tryz.underlying160
  a53:=Tryz.isAgg160
  z53:=Tryz.sizeOf160
  v53:=Tryz.zeroValue160
  t55:=Tryz.underlying162
  a55:=Tryz.isAgg162
  z55:=Tryz.sizeOf162
  v55:=Tryz.zeroValue162
  t66:=Tryz.underlying163
  a66:=Tryz.isAgg163
  z66:=Tryz.sizeOf163
  v66:=Tryz.zeroValue163
  t70:=Tryz.underlying167
  a70:=Tryz.isAgg167
  z70:=Tryz.sizeOf167
  v70:=Tryz.zeroValue167
  t76:=Tryz.underlying169
  a76:=Tryz.isAgg169
  z76:=Tryz.sizeOf169
  v76:=Tryz.zeroValue169
  t77:=Tryz.underlying170
  a77:=Tryz.isAgg170
  z77:=Tryz.sizeOf170
  v77:=Tryz.zeroValue170 }
end Go.Proofs
