import Derived.Test.YtaagfepgbofmlaaGreatQ0
set_option linter.unusedSectionVars false
set_option linter.unusedSimpArgs false
set_option linter.unusedVariables false
open List renaming mem_cons→Zyz,replicate→Zy0,pairwise_cons→Zzy,getD→Zzm,length_append→ZBe,mem_append_left→ZA1,mem_append_right→ZA2,mem_append→Zzu,nodup_append→ZGz,length_set→ZG0,mem_flatten→ZG1,getElem_of_mem→Zzo,getElem_mem→Zzv,replicate_succ→ZG3,take_append_of_le_length→ZG4,take_of_length_le→Zzz,mem_or_eq_of_mem_set→ZG8,pairwise_flatten→ZG9,pairwise_iff_getElem→Zza
open List.Perm renaming swap→ZGy
open Nat renaming add_mul→Zzl,le_refl→Zy1
namespace Vc
open Go Go.RowKit
structure Tr (α:Type) where
  ty:Ty α
  tree:α→List Value→List Nat→World→Prop
  tkeep:∀ {x cs fp} {w w':World}, (∀ b,b∈fp→w'.heap[b]?=w.heap[b]?)→tree x cs fp w→tree x cs fp w'
  tlow:∀ {x cs fp w}, tree x cs fp w→∀ b,b∈fp→b < w.heap.size
  trep:∀ {x cs fp w}, tree x cs fp w→ty.rep x cs fp w
def Tr.item {α:Type} (T:Tr α) (x:α) (cs:List Value) (fp:List Nat):Item where
  fp:=fp
  holds w:=T.tree x cs fp w∧fp.Nodup
  keep _ _ h hw:=⟨T.tkeep h hw.1,hw.2⟩
  low _ hw:=T.tlow hw.1
def Enc.tr {α:Type} (E:Enc α):Tr α where
  ty:=E.ty
  tree x cs fp w:=fp=[]∧cs=E.enc x
  tkeep _ h:=h
  tlow h:=by obtain ⟨rfl,_⟩:=h; simp
  trep h:=by obtain ⟨rfl,rfl⟩:=h; exact⟨by simp,rfl⟩
def Tr.trees {α:Type} (T:Tr α) (xs:List α) (cs:List Value) (fps:List (List Nat)) (w:World):Prop :=
  cs.length=xs.length * T.ty.sz∧fps.length=xs.length∧∀ i (h:i < xs.length),T.tree xs[i] ((cs.drop (i * T.ty.sz)).take T.ty.sz) (fps.getD i []) w
section
variable {α:Type} {T:Tr α} {w w':World}
theorem mem_flat {fps:List (List Nat)} {b:Nat}:b∈fps.flatten↔∃ i,i < fps.length∧b∈fps.getD i []:=by
  rw [ZG1]
  constructor
  · rintro ⟨l,hl,hb⟩
    obtain ⟨i,hi,rfl⟩:=Zzo hl
    exact⟨i,hi,by simpa [Zzm,hi] using hb⟩
  · rintro ⟨i,hi,hb⟩
    refine⟨fps[i],Zzv hi,by simpa [Zzm,hi] using hb⟩
theorem Znm {xs:List α} {cs:List Value} {fps:List (List Nat)} (h:∀ b,b∈fps.flatten→w'.heap[b]?=w.heap[b]?) (ht:T.trees xs cs fps w):T.trees xs cs fps w' :=
  ⟨ht.1,ht.2.1,fun i hi=>T.tkeep (fun b hb=>h b (mem_flat.2 ⟨i,by rw [ht.2.1]; exact hi,hb⟩)) (ht.2.2 i hi)⟩
theorem Zkk {xs:List α} {cs:List Value} {fps:List (List Nat)} (ht:T.trees xs cs fps w):∀ b,b∈fps.flatten→b < w.heap.size:=by
  intro b hb
  obtain ⟨i,hi,hb⟩:=mem_flat.1 hb
  exact T.tlow (ht.2.2 i (by rw [← ht.2.1]; exact hi)) b hb
theorem Znn (T:Tr α) (w:World):T.trees [] [] [] w:=⟨by simp,by simp,fun i hi=>absurd hi (by simp)⟩
theorem Zr5 {x:α} {xs:List α} {c cs:List Value} {f:List Nat} {fps:List (List Nat)} (h:T.tree x c f w) (hs:T.trees xs cs fps w):T.trees (x::xs) (c++cs) (f::fps) w:=by
  have hc:=T.ty.len (T.trep h)
  refine⟨by rw [ZBe,hc,hs.1,List.length_cons,Zzl,Nat.one_mul,Nat.add_comm],by simp [hs.2.1],fun i hi=>?_⟩
  cases i with
  | zero =>
    simp only [Nat.zero_mul,List.drop_zero,List.getElem_cons_zero]
    rw [ZG4 (by omega),Zzz (by omega)]
    exact h
  | succ i =>
    rw [Zzl,Nat.one_mul,Nat.add_comm (i * T.ty.sz),← List.drop_drop,List.drop_left' hc]
    exact hs.2.2 i (by simpa using hi)
theorem Zr6 {xs ys:List α} {cs ds:List Value} {fps gps:List (List Nat)} (h:T.trees xs cs fps w) (k:T.trees ys ds gps w):T.trees (xs++ys) (cs++ds) (fps++gps) w:=by
  refine⟨by rw [ZBe,h.1,k.1,ZBe,Zzl],by simp [h.2.1,k.2.1],fun i hi=>?_⟩
  by_cases hx:i < xs.length
  · have e1:(xs++ys)[i]=xs[i]:=List.getElem_append_left hx
    have hle:i * T.ty.sz+T.ty.sz≤cs.length:=by rw [h.1]; exact Zbk hx
    have e2:((cs++ds).drop (i * T.ty.sz)).take T.ty.sz=(cs.drop (i * T.ty.sz)).take T.ty.sz:=by
      rw [List.drop_append_of_le_length (by omega),ZG4 (by rw [List.length_drop]; omega)]
    have e3:(fps++gps).getD i []=fps.getD i []:=by simp only [Zzm]; rw [List.getElem?_append_left (by rw [h.2.1]; exact hx)]
    rw [e1,e2,e3]
    exact h.2.2 i hx
  · have hy:i - xs.length < ys.length:=by rw [ZBe] at hi; omega
    have e1:(xs++ys)[i]=ys[i - xs.length]:=List.getElem_append_right (by omega)
    have hm:i * T.ty.sz=cs.length+(i - xs.length) * T.ty.sz:=by rw [h.1,← Zzl]; congr 1; omega
    have e2:((cs++ds).drop (i * T.ty.sz))=ds.drop ((i - xs.length) * T.ty.sz):=by rw [hm,← List.drop_drop,List.drop_left' rfl]
    have e3:(fps++gps).getD i []=gps.getD (i - xs.length) []:=by simp only [Zzm]; rw [List.getElem?_append_right (by rw [h.2.1]; omega),h.2.1]
    rw [e1,e2,e3]
    exact k.2.2 _ hy
theorem Zkl {xs:List α} {cs:List Value} {fps:List (List Nat)} (h:T.trees xs cs fps w):T.ty.all xs cs fps.flatten w:=by
  have hl:=Zkk h
  have hr:∀ i (hi:i < xs.length),T.ty.rep xs[i] ((cs.drop (i * T.ty.sz)).take T.ty.sz) fps.flatten w:=fun i hi=>T.ty.more (T.trep (h.2.2 i hi)) (fun b hb=>mem_flat.2 ⟨i,by rw [h.2.1]; exact hi,hb⟩) hl
  refine⟨hl,h.1,fun u hu=>?_,hr⟩
  obtain ⟨j,hj,rfl⟩:=Zzo hu
  rcases Nat.eq_zero_or_pos T.ty.sz with h0 | h0
  · rw [h.1,h0] at hj; omega
  · have hi:j / T.ty.sz < xs.length:=Nat.div_lt_of_lt_mul (by rw [Nat.mul_comm,← h.1]; exact hj)
    refine T.ty.one (hr _ hi) _ ?_
    refine List.mem_of_getElem? (i:=j % T.ty.sz) ?_
    rw [List.getElem?_take,if_pos (Nat.mod_lt _ h0),List.getElem?_drop,Nat.div_add_mod']
    exact List.getElem?_eq_getElem hj
end
def Tr.sl {α : Type} (e : Nat) (T : Tr α) : Tr (List α) where
  ty:=T.ty.sl
  tree xs cs fp w:=∃ v ecs fps,cs=[v]∧(own e T.ty.sz v xs.length ecs).holds w∧T.trees xs ecs fps w∧fp=v.ownBlock.toList++fps.flatten
  tkeep h ht:=by
    obtain ⟨v,ecs,fps,rfl,h1,h2,rfl⟩:=ht
    exact⟨v,ecs,fps,rfl,Item.keep _ _ _ (fun b hb=>h b (ZA1 _ hb)) h1,Znm (fun b hb=>h b (ZA2 _ hb)) h2,rfl⟩
  tlow ht b hb:=by
    obtain ⟨v,ecs,fps,rfl,h1,h2,rfl⟩:=ht
    rcases Zzu.1 hb with hb | hb
    · exact Item.low _ _ h1 b hb
    · exact Zkk h2 b hb
  trep ht:=by
    obtain ⟨v,ecs,fps,rfl,h1,h2,rfl⟩:=ht
    exact Zcx h1 (Zkl h2)
def Tr.iso {α β:Type} (f:β→α) (T:Tr α):Tr β where
  ty:=T.ty.iso f
  tree x cs fp w:=T.tree (f x) cs fp w
  tkeep h ht:=T.tkeep h ht
  tlow ht:=T.tlow ht
  trep ht:=T.trep ht
def Tr.pair {α β : Type} (S : Tr α) (T : Tr β) : Tr (α × β) where
  ty:=S.ty.pair T.ty
  tree x cs fp w:=∃ c1 c2 f1 f2,cs=c1++c2∧fp=f1++f2∧S.tree x.1 c1 f1 w∧T.tree x.2 c2 f2 w
  tkeep h ht:=by
    obtain ⟨c1,c2,f1,f2,rfl,rfl,h1,h2⟩:=ht
    exact⟨c1,c2,f1,f2,rfl,rfl,S.tkeep (fun b hb=>h b (ZA1 _ hb)) h1,T.tkeep (fun b hb=>h b (ZA2 _ hb)) h2⟩
  tlow ht b hb:=by
    obtain ⟨c1,c2,f1,f2,rfl,rfl,h1,h2⟩:=ht
    rcases Zzu.1 hb with hb | hb
    · exact S.tlow h1 b hb
    · exact T.tlow h2 b hb
  trep ht:=by
    obtain ⟨c1,c2,f1,f2,rfl,rfl,h1,h2⟩:=ht
    exact Zj0 (S.trep h1) (T.trep h2)
theorem Zno {α:Type} {E:Enc α} {e:Nat} {xs:List α} {v:Value} {w:World} (h:(own e E.sz v xs.length (E.encs xs)).holds w):(Tr.sl e E.tr).tree xs [v] v.ownBlock.toList w:=by
  refine⟨v,E.encs xs,Zy0 xs.length [],rfl,h,⟨E.encs_len xs,by simp,fun i hi=>⟨by simp [Zzm,hi],?_⟩⟩,by simp⟩
  haveI:Inhabited α:=⟨xs[i]⟩
  have:=E.encs_seg xs i hi
  rw [show xs.getD i default=xs[i] by simp [Zzm,hi]] at this
  exact this
theorem Zac {α:Type} {E:Enc α} {e:Nat} {xs:List α} {v:Value} {fp:List Nat} {w:World} (h:(Tr.sl e E.tr).tree xs [v] fp w):(own e E.sz v xs.length (E.encs xs)).holds w∧fp=v.ownBlock.toList:=by
  obtain ⟨v',ecs,fps,hv,h1,h2,rfl⟩:=h
  obtain rfl:v=v':=by simpa using hv
  have he:ecs=E.encs xs:=Zmy (Zkl h2)
  have hf:fps.flatten=[]:=by
    rw [List.eq_nil_iff_forall_not_mem]
    intro b hb
    obtain ⟨i,hi,hb⟩:=mem_flat.1 hb
    have:=(h2.2.2 i (by rw [← h2.2.1]; exact hi)).1
    rw [this] at hb; cases hb
  rw [hf,List.append_nil]
  exact⟨he ▸ h1,rfl⟩
theorem Zr7 {α:Type} (e:Nat) (T:Tr α) (w:World):(Tr.sl e T).tree [] [.slice none 0 0] [] w :=
  ⟨.slice none 0 0,[],[],rfl,⟨by simp,.inl ⟨rfl,rfl⟩⟩,Znn T w,rfl⟩
section
variable {X:Nat→Prop} {w0 w w':World} {M Ps:List Item}
theorem Ctx.perm {M':List Item} (h:Ctx X w0 w M Ps) (hp:M.Perm M'):Ctx X w0 w M' Ps :=
  { h with
    m:=fun j hj=>h.m j (hp.mem_iff.2 hj)
    mfp:=fun j hj=>h.mfp j (hp.mem_iff.2 hj)
    dis:=(hp.pairwise_iff (fun {a b} (hab:∀ x,x∈a.fp→x∉b.fp)=>fun x hx hx'=>hab x hx' hx)).1 h.dis
    pd:=fun j hj b hb m hm=>h.pd j hj b hb m (hp.mem_iff.2 hm) }
theorem Ctx.gather {a b c : Item} (h : Ctx X w0 w (a :: b :: M) Ps) (hfp : ∀ x, x ∈ c.fp → x ∈ a.fp ∨ x ∈ b.fp) (hc : a.holds w → b.holds w → (∀ x, x ∈ a.fp → x ∉ b.fp) → c.holds w) : Ctx X w0 w (c :: M) Ps := by
  obtain ⟨hd1,hd2⟩:=Zzy.1 h.dis
  obtain ⟨hd3,hd4⟩:=Zzy.1 hd2
  exact { h with
    m := fun j hj => by
      rcases Zyz.1 hj with rfl | hj
      · exact hc (h.m a (by simp)) (h.m b (by simp)) (hd1 b (by simp))
      · exact h.m j (by simp [hj])
    mfp := fun j hj x hx => by
      rcases Zyz.1 hj with rfl | hj
      · rcases hfp x hx with hx | hx
        · exact h.mfp a (by simp) x hx
        · exact h.mfp b (by simp) x hx
      · exact h.mfp j (by simp [hj]) x hx
    dis:=Zzy.2 ⟨fun j hj x hx hxj=>by
      rcases hfp x hx with hx | hx
      · exact hd1 j (by simp [hj]) x hx hxj
      · exact hd3 j hj x hx hxj,hd4⟩
    pd:=fun j hj x hx m hm hxm=>by
      rcases Zyz.1 hm with rfl | hm
      · rcases hfp x hxm with hxm | hxm
        · exact h.pd j hj x hx a (by simp) hxm
        · exact h.pd j hj x hx b (by simp) hxm
      · exact h.pd j hj x hx m (by simp [hm]) hxm }
theorem Ctx.split {a b c : Item} (h : Ctx X w0 w (c :: M) Ps) (ha : ∀ x, x ∈ a.fp → x ∈ c.fp) (hb : ∀ x, x ∈ b.fp → x ∈ c.fp) (hc : a.holds w ∧ b.holds w ∧ (∀ x, x ∈ a.fp → x ∉ b.fp)) : Ctx X w0 w (a :: b :: M) Ps := by
  obtain ⟨hd1,hd2⟩:=Zzy.1 h.dis
  exact { h with
    m := fun j hj => by
      rcases Zyz.1 hj with rfl | hj
      · exact hc.1
      · rcases Zyz.1 hj with rfl | hj
        · exact hc.2.1
        · exact h.m j (by simp [hj])
    mfp := fun j hj x hx => by
      rcases Zyz.1 hj with rfl | hj
      · exact h.mfp c (by simp) x (ha x hx)
      · rcases Zyz.1 hj with rfl | hj
        · exact h.mfp c (by simp) x (hb x hx)
        · exact h.mfp j (by simp [hj]) x hx
    dis:=by
      refine Zzy.2 ⟨fun j hj x hx hxj=>?_,Zzy.2 ⟨fun j hj x hx hxj=>hd1 j hj x (hb x hx) hxj,hd2⟩⟩
      rcases Zyz.1 hj with rfl | hj
      · exact hc.2.2 x hx hxj
      · exact hd1 j hj x (ha x hx) hxj
    pd:=fun j hj x hx m hm hxm=>by
      rcases Zyz.1 hm with rfl | hm
      · exact h.pd j hj x hx c (by simp) (ha x hxm)
      · rcases Zyz.1 hm with rfl | hm
        · exact h.pd j hj x hx c (by simp) (hb x hxm)
        · exact h.pd j hj x hx m (by simp [hm]) hxm }
theorem Ctx.recast {a c:Item} (h:Ctx X w0 w (a::M) Ps) (hfp:∀ x,x∈c.fp→x∈a.fp) (hc:a.holds w→c.holds w):Ctx X w0 w (c::M) Ps:=by
  obtain ⟨hd1,hd2⟩:=Zzy.1 h.dis
  exact { h with
    m := fun j hj => by
      rcases Zyz.1 hj with rfl | hj
      · exact hc (h.m a (by simp))
      · exact h.m j (by simp [hj])
    mfp:=fun j hj x hx=>by
      rcases Zyz.1 hj with rfl | hj
      · exact h.mfp a (by simp) x (hfp x hx)
      · exact h.mfp j (by simp [hj]) x hx
    dis:=Zzy.2 ⟨fun j hj x hx hxj=>hd1 j hj x (hfp x hx) hxj,hd2⟩
    pd:=fun j hj x hx m hm hxm=>by
      rcases Zyz.1 hm with rfl | hm
      · exact h.pd j hj x hx a (by simp) (hfp x hxm)
      · exact h.pd j hj x hx m (by simp [hm]) hxm }
def Ya (e:Nat):Tr Form:=.iso Form.terms (Tr.sl e ETerm.tr)
def Zek (i e f:Nat):Tr Alg:=.iso (fun a=>(a.degrees,a.images)) (.pair (Tr.sl i (EI .i64).tr) (Tr.sl f (Ya e)))
theorem Zkm (v:Value):v.ownBlock.toList.Nodup:=by cases v.ownBlock <;> simp
theorem Jr {α:Type} {E:Enc α} {e:Nat} {xs:List α} {v:Value} {w:World} (h:(own e E.sz v xs.length (E.encs xs)).holds w):(Tr.item (Tr.sl e E.tr) xs [v] v.ownBlock.toList).holds w:=⟨Zno h,Zkm v⟩
theorem Zfw {α:Type} {e:Nat} {T:Tr α} {xs:List α} {v:Value} {fp:List Nat} (h:(Tr.item (Tr.sl e T) xs [v] fp).holds w):∃ A c,v=.slice A xs.length c:=Z1 (t:=T.ty) ((Tr.sl e T).trep h.1)
theorem Zbl {α:Type} {T:Tr α} {x:α} {cs:List Value} {fp:List Nat} (hC:Ctx Nox w0 w M Ps) (k:Nat) (hk:M[k]?=some (T.item x cs fp)):∀ b,b∈fp→w0.heap.size≤b :=
  fun b hb=>(hC.mfp _ (List.mem_of_getElem? hk) b hb).elim id (fun x=>x.elim)
theorem Zkn {i e f:Nat} {x:Alg} {v u:Value} {fp:List Nat} (h:((Zek i e f).item x [v,u] fp).holds w):∃ f2,(own i (EI .i64).sz v x.degrees.length ((EI .i64).encs x.degrees)).holds w∧((Tr.sl f (Ya e)).item x.images [u] f2).holds w ∧
    (∀ b,b∈v.ownBlock.toList→b∈fp)∧(∀ b,b∈f2→b∈fp)∧(∀ b,b∈v.ownBlock.toList→b∉f2):=by
  obtain ⟨⟨c1,c2,f1,f2,hcs,rfl,h1,h2⟩,hn⟩:=h
  have hl:=(Tr.sl i (EI .i64).tr).ty.len ((Tr.sl i (EI .i64).tr).trep h1)
  obtain ⟨a,rfl⟩:=List.length_eq_one_iff.1 (show c1.length=1 from hl)
  obtain ⟨rfl,rfl⟩:v=a∧c2=[u]:=by simp at hcs; exact⟨hcs.1,hcs.2.symm⟩
  obtain ⟨ho,rfl⟩:=Zac h1
  obtain ⟨hn1,hn2,hn3⟩:=ZGz.1 hn
  exact⟨f2,ho,⟨h2,hn2⟩,fun b hb=>ZA1 _ hb,fun b hb=>ZA2 _ hb,fun b hb hb'=>hn3 b hb b hb' rfl⟩
theorem Zr8 {i e f:Nat} {a:List Int} {b:List Form} {v u:Value} {f1 f2:List Nat} (h1:((Tr.sl i (EI .i64).tr).item a [v] f1).holds w) (h2:((Tr.sl f (Ya e)).item b [u] f2).holds w) (hd:∀ x,x∈f1→x∉f2):((Zek i e f).item ⟨a,b⟩ [v,u] (f1++f2)).holds w :=
  ⟨⟨[v],[u],f1,f2,rfl,rfl,h1.1,h2.1⟩,ZGz.2 ⟨h1.2,h2.2,fun x hx y hy e=>hd x hx (e ▸ hy)⟩⟩
theorem Xf {e:Nat} {x:Form} {v:Value} {fp:List Nat} (h:((Ya e).item x [v] fp).holds w):(own e ETerm.sz v x.terms.length (ETerm.encs x.terms)).holds w∧fp=v.ownBlock.toList:=Zac h.1
theorem Za4 {e:Nat} {a:List Term} {v:Value} {f:List Nat} (h:((Tr.sl e ETerm.tr).item a [v] f).holds w):((Ya e).item ⟨a⟩ [v] f).holds w:=h
theorem Zbz {α:Type} (e:Nat) (T:Tr α) (w:World):((Tr.sl e T).item [] [.slice none 0 0] []).holds w:=⟨Zr7 e T w,by simp⟩
def Ym {α:Type} (T:Tr α) (xs:List α) (cs:List Value) (fps:List (List Nat)):Item where
  fp:=fps.flatten
  holds w:=T.trees xs cs fps w∧fps.flatten.Nodup
  keep _ _ h hw:=⟨Znm h hw.1,hw.2⟩
  low _ hw:=Zkk hw.1
theorem Za5 {α:Type} (T:Tr α) (w:World):(Ym T [] [] []).holds w:=⟨Znn T w,by simp⟩
theorem Zcq {α:Type} {T:Tr α} {x:α} {xs:List α} {c cs:List Value} {f:List Nat} {fps:List (List Nat)} (h:(T.item x c f).holds w) (hs:(Ym T xs cs fps).holds w) (hd:∀ b,b∈f→b∉fps.flatten):(Ym T (x::xs) (c++cs) (f::fps)).holds w :=
  ⟨Zr5 h.1 hs.1,by rw [List.flatten_cons]; exact ZGz.2 ⟨h.2,hs.2,fun a ha b hb e=>hd a ha (e ▸ hb)⟩⟩
theorem Zal {α:Type} {T:Tr α} {e:Nat} {xs:List α} {cs:List Value} {fps:List (List Nat)} {v:Value} (h:(own e T.ty.sz v xs.length cs).holds w) (hs:(Ym T xs cs fps).holds w) (hd:∀ b,b∈v.ownBlock.toList→b∉fps.flatten):((Tr.sl e T).item xs [v] (v.ownBlock.toList++fps.flatten)).holds w :=
  ⟨⟨v,cs,fps,rfl,h,hs.1,rfl⟩,ZGz.2 ⟨Zkm v,hs.2,fun a ha b hb e=>hd a ha (e ▸ hb)⟩⟩
theorem Ctx.startL (w:World) (F:List Nat) (M Ps:List Item) (hm:∀ it,it∈M→it.holds w) (hp:∀ it,it∈Ps→it.holds w) (hF:∀ it,it∈M→∀ b,b∈it.fp→b∈F) (hdis:M.Pairwise (fun a b=>∀ x,x∈a.fp→x∉b.fp)) (hpd:∀ it,it∈Ps→∀ b,b∈it.fp→b∉F):Ctx (fun c=>c∈F) w w M Ps :=
  ⟨rfl,rfl,rfl,Zy1 _,Zy1 _,fun _ _ _=>rfl,hm,hp,fun it hi b hb=>.inr (hF it hi b hb),hdis,fun it hi b hb m hm hbm=>hpd it hi b hb (hF m hm b hbm)⟩
theorem Ctx.belO {F:List Nat} (h:Ctx (fun c=>c∈F) w0 w M Ps):BelO F w0 w:=⟨h.os,h.tape,h.output,h.size,h.drawn,fun c hc hne=>h.old c hc hne⟩
end
end Vc
namespace Vc
open Go Go.RowKit
section
variable {X:Nat→Prop} {w0 w w':World} {M Ps:List Item}
end
end Vc
namespace Vc
open Go Go.RowKit
theorem Ctx.pushM0 {X:Nat→Prop} {w0 w:World} {M Ps:List Item} (h:Ctx X w0 w M Ps) (it:Item) (hi:it.holds w) (hf:it.fp=[]):Ctx X w0 w (it::M) Ps :=
  { h with
    m := fun j hj => by
      rcases Zyz.1 hj with rfl | hj
      · exact hi
      · exact h.m j hj
    mfp:=fun j hj b hb=>by
      rcases Zyz.1 hj with rfl | hj
      · rw [hf] at hb; cases hb
      · exact h.mfp j hj b hb
    dis:=Zzy.2 ⟨fun j hj x hx=>absurd (hf ▸ hx) (by simp),h.dis⟩
    pd:=fun j hj b hb m hm hbm=>by
      rcases Zyz.1 hm with rfl | hm
      · rw [hf] at hbm; cases hbm
      · exact h.pd j hj b hb m hm hbm }
def Zc2 (v:Value):Prop:=∃ A n c,v=.slice A n c
theorem Zfx {ty sz n:Nat} {v:Value} {cs:List Value} {w:World} (h:(own ty sz v n cs).holds w):Zc2 v:=by
  obtain ⟨A,c,rfl⟩:=J1 h
  exact⟨A,n,c,rfl⟩
theorem Zc3 {α:Type} {t:Ty α} {xs:List α} {v:Value} {fp:List Nat} {w:World} (h:t.sl.rep xs [v] fp w):Zc2 v:=by
  obtain ⟨A,c,rfl⟩:=Z1 h
  exact⟨A,_,c,rfl⟩
section
variable {P:Program} {ops:Array Oper} {Q:Exit→Act→World→Prop} {n:Nat} {e:Env} {w w':World} {rest:List Oper}
variable {d ty:Nat} {pos:String} {af:Array Edge} {gd:Option (Nat×Bool)}
end
end Vc
namespace Vc
open Go Go.RowKit
theorem Znp (m:Nat):(madeCells #[.slice none 0 0] (m * 1)).toList=Zy0 m (.slice none 0 0):=by
  let E:Enc Unit:=⟨1,by decide,fun _=>[.slice none 0 0],fun _=>rfl,fun _ u hu=>by obtain rfl:=List.mem_singleton.1 hu; rfl⟩
  have h:=Zcl (E:=E) () m
  have e:E.encs (Zy0 m ())=Zy0 m (.slice none 0 0):=by
    induction m with
    | zero=>rfl
    | succ m ih=>rw [ZG3,ZG3,← ih (Zcl (E:=E) () m)]; rfl
  exact h.trans e
theorem Znq (m:Nat):(Zy0 m ([]:List Nat)).flatten=[]:=by induction m <;> simp_all [ZG3]
theorem Znr {α:Type} {T:Tr α} {x:α} {c:Value} {w:World} (h:(T.item x [c] []).holds w) (hs:T.ty.sz=1) (m:Nat):(Ym T (Zy0 m x) (Zy0 m c) (Zy0 m [])).holds w:=by
  induction m with
  | zero=>exact Za5 T w
  | succ m ih=>exact Zcq (c:=[c]) (cs:=Zy0 m c) h ih (by simp)
theorem Zr9 {α:Type} {T:Tr α} {xs ys:List α} {cs ds:List Value} {fps gps:List (List Nat)} {w:World} (h:(Ym T xs cs fps).holds w) (k:(Ym T ys ds gps).holds w) (hd:∀ b,b∈fps.flatten→b∉gps.flatten):(Ym T (xs++ys) (cs++ds) (fps++gps)).holds w :=
  ⟨Zr6 h.1 k.1,by rw [List.flatten_append]; exact ZGz.2 ⟨h.2,k.2,fun a ha b hb e=>hd a ha (e ▸ hb)⟩⟩
theorem Zel {α:Type} {e:Nat} {T:Tr α} {xs:List α} {v:Value} {fp:List Nat} {w:World} (h:((Tr.sl e T).item xs [v] fp).holds w) :
    ∃ ecs fps,(own e T.ty.sz v xs.length ecs).holds w∧(Ym T xs ecs fps).holds w∧fp=v.ownBlock.toList++fps.flatten∧(∀ b,b∈v.ownBlock.toList→b∉fps.flatten):=by
  obtain ⟨⟨v',ecs,fps,hv,h1,h2,rfl⟩,hn⟩:=h
  obtain rfl:v=v':=by simpa using hv
  obtain ⟨hn1,hn2,hn3⟩:=ZGz.1 hn
  exact⟨ecs,fps,h1,⟨h2,hn2⟩,rfl,fun b hb hb'=>hn3 b hb b hb' rfl⟩
section
variable {P:Program} {ops:Array Oper} {Q:Exit→Act→World→Prop} {n:Nat} {e:Env} {w w':World} {rest:List Oper}
variable {X:Nat→Prop} {w0:World} {M Ps:List Item}
variable {d ty:Nat} {pos:String} {af:Array Edge}
theorem Zc4 {t el bytes:Nat} {α:Type} {T:Tr α} {z:Value} {x y:Operand} {v u:Value} {xs ys:List α} {f1 f2:List Nat} (hC:Ctx X w0 w ((Tr.sl el T).item xs [v] f1::(Tr.sl el T).item ys [u] f2::M) Ps)
    (ht:P.underlying t=some (.slice el)) (hE:Zab P el z T.ty.sz bytes) (hzs:z.cells.size=T.ty.sz) (hsz:0 < T.ty.sz) (hby:0 < bytes) (hx:ev n e x=v) (hy:ev n e y=u) (hb:(xs.length+ys.length) * bytes≤140737488355328)
    (h:∀ v' f w',Ctx X w0 w' ((Tr.sl el T).item (xs++ys) [v'] f::M) Ps→W P ops Q rest n (upd e d v') w') :
    W P ops Q (⟨some d,.call { callee:=.builtin .append,args:=#[x,y],argTypes:=#[t,t] }, ty,pos,af,none⟩::rest) n e w:=by
  obtain ⟨ecs,fps,a1,a2,rfl,a4⟩:=Zel (hC.getM 0 rfl)
  obtain ⟨dcs,gps,b1,b2,rfl,b4⟩:=Zel (hC.getM 1 rfl)
  have h1:=hC.split (a:=own el T.ty.sz v xs.length ecs) (b:=Ym T xs ecs fps) (fun b hb=>ZA1 _ hb) (fun b hb=>ZA2 _ hb) ⟨a1,a2,a4⟩
  have h2:=h1.perm (M':=(Tr.sl el T).item ys [u] (u.ownBlock.toList++gps.flatten)::own el T.ty.sz v xs.length ecs::Ym T xs ecs fps::M) (((ZGy _ _ _).cons _).trans (ZGy _ _ _))
  have h3:=h2.split (a:=own el T.ty.sz u ys.length dcs) (b:=Ym T ys dcs gps) (fun b hb=>ZA1 _ hb) (fun b hb=>ZA2 _ hb) ⟨b1,b2,b4⟩
  have hall:=Zkl b2.1
  refine Zaw h3 2 ht hE hzs hsz hby rfl (Za9 b1) hall.2.2.1 hx hy hb fun v' w1 hC1=>?_
  have h4:=hC1.sub (M':=Ym T ys dcs gps::own el T.ty.sz v' (xs.length+ys.length) (ecs++dcs)::Ym T xs ecs fps::M) (List.sublist_cons_self _ _) (fun _ h=>h)
  have h5:=h4.perm (M':=Ym T xs ecs fps::Ym T ys dcs gps::own el T.ty.sz v' (xs.length+ys.length) (ecs++dcs)::M) (((ZGy _ _ _).cons _).trans (ZGy _ _ _))
  have h6:=h5.gather (c:=Ym T (xs++ys) (ecs++dcs) (fps++gps)) (fun x hx=>Zzu.1 (by simpa [Ym] using hx)) (fun p q r=>Zr9 p q r)
  have h7:=h6.perm (M':=own el T.ty.sz v' (xs.length+ys.length) (ecs++dcs)::Ym T (xs++ys) (ecs++dcs) (fps++gps)::M) (ZGy _ _ _)
  exact h v' _ w1 (h7.gather (c:=(Tr.sl el T).item (xs++ys) [v'] (v'.ownBlock.toList++(fps++gps).flatten)) (fun x hx=>Zzu.1 hx) (fun p q r=>Zal (by rw [ZBe]; exact p) q r))
end
end Vc
namespace Vc
open Go
theorem Zc5 {α:Type} {T:Tr α} {xs:List α} {cs:List Value} {f:List Nat} {fps:List (List Nat)} {x:Nat} (h:x∈(Ym T xs cs (f::fps)).fp):x∈f∨x∈fps.flatten:=by
  have h':x∈(f::fps).flatten:=h
  rw [List.flatten_cons] at h'
  exact Zzu.1 h'
end Vc
namespace Vc
open Go Go.RowKit
section
variable {P:Program} {ops:Array Oper} {Q:Exit→Act→World→Prop} {n:Nat} {e:Env} {w w':World} {rest:List Oper}
variable {d ty:Nat} {pos:String} {af:Array Edge} {gd:Option (Nat×Bool)}
theorem Zsa {t i:Nat} {x:Operand} {cs:List Value} {fs:Array Field} {f:Field} (v:Value) (ht:P.underlying t=some (.struct fs)) (hf:fs[i]?=some f) (hS:ScaT P f.type) (hx:ev n e x=.agg cs.toArray) (hv:cs[f.offset]?=some v) :
    (execOp (ev n e) ⟨some d,.field t x i,ty,pos,af,gd⟩).run P w=.ok (.value v) w:=by
  simp [execOp,hx,Instr.field,run_underlying ht,hf,asAgg,part,Ze8 hS,hv]
theorem Zsb {t i:Nat} {x:Operand} {cs:List Value} {fs:Array Field} {f:Field} (v:Value) (ht:P.underlying t=some (.struct fs)) (hf:fs[i]?=some f) (hS:ScaT P f.type) (hx:ev n e x=.agg cs.toArray) (hv:cs[f.offset]?=some v)
    (h:W P ops Q rest n (upd e d v) w):W P ops Q (⟨some d,.field t x i,ty,pos,af,none⟩::rest) n e w :=
  Xd v rfl rfl (Zsa v ht hf hS hx hv) h
end
end Vc
namespace Vc
open Go Go.RowKit
def Z3 (e:Env) (l:List (Nat×Value)):Prop:=∀ p,p∈l→e p.1=p.2
theorem Zsc {e:Env}:Z3 e []:=by intro p hp; cases hp
theorem Zsd {e:Env} {t:Nat} {v:Value} {l:List (Nat×Value)} (h:e t=v) (hs:Z3 e l):Z3 e ((t,v)::l):=by
  intro p hp
  rcases Zyz.1 hp with rfl | hp
  · exact h
  · exact hs p hp
def Za (n k:Nat):Array Bool:=((List.range n).map (Nat.testBit k)).toArray
section
variable {α β:Type}
def Zse (kv:α→Value) (vv:β→Value) (ls:List (Option (List (α×β)))) (cs:List Value) (fp:List Nat) (w:World) (j:Nat):Prop :=
  (ls[j]?=some none∧cs[j]?=some (.map none))∨∃ l b,ls[j]?=some (some l)∧cs[j]?=some (.map (some b))∧b∈fp∧(Ze kv vv b l).holds w
theorem Zsf {kv:α→Value} {vv:β→Value} {b:Nat} {l:List (α×β)} {w w':World} (h:w'.heap[b]?=w.heap[b]?) (hw:(Ze kv vv b l).holds w):(Ze kv vv b l).holds w':=by
  obtain ⟨es,c,h1,h2⟩:=hw
  exact⟨es,c,h.trans h1,h2⟩
def X3 (kv : α → Value) (vv : β → Value) (n : Nat) : Ty (List (Option (List (α × β)))) where
  sz:=n
  rep ls cs fp w:=cs.length=n∧ls.length=n∧(∀ b,b∈fp→b < w.heap.size)∧∀ j,j < n→Zse kv vv ls cs fp w j
  keep h hw:=⟨hw.1,hw.2.1,Zfc h hw.2.2.1,fun j hj=>by
    rcases hw.2.2.2 j hj with q | ⟨l,b,h1,h2,h3,h4⟩
    · exact .inl q
    · exact .inr ⟨l,b,h1,h2,h3,Zsf (h b h3) h4⟩⟩
  low hw:=hw.2.2.1
  len hw:=hw.1
  one hw u hu:=by
    obtain ⟨j,hj,rfl⟩:=Zzo hu
    rcases hw.2.2.2 j (by have:=hw.1; omega) with ⟨_,q⟩ | ⟨l,b,_,q,_⟩
    · rw [List.getElem?_eq_getElem hj] at q; injection q with q; rw [q]; rfl
    · rw [List.getElem?_eq_getElem hj] at q; injection q with q; rw [q]; rfl
  more hw hs hl:=⟨hw.1,hw.2.1,hl,fun j hj=>by
    rcases hw.2.2.2 j hj with q | ⟨l,b,h1,h2,h3,h4⟩
    · exact .inl q
    · exact .inr ⟨l,b,h1,h2,hs _ h3,h4⟩⟩
variable {kv:α→Value} {vv:β→Value} {n:Nat} {ls:List (Option (List (α×β)))} {cs:List Value} {fp:List Nat} {w:World}
theorem Zil (kv:α→Value) (vv:β→Value) (n:Nat) (w:World):(X3 kv vv n).rep (Zy0 n none) (Zy0 n (.map none)) [] w :=
  ⟨by simp,by simp,by simp,fun j hj=>.inl ⟨by simp [hj],by simp [hj]⟩⟩
theorem Zsg (h:(X3 kv vv n).rep ls cs fp w) {b i:Nat} {l:List (α×β)} (hm:(Ze kv vv b l).holds w):(X3 kv vv n).rep (ls.set i (some l)) (cs.set i (.map (some b))) (b::fp) w:=by
  refine⟨by rw [ZG0]; exact h.1,by rw [ZG0]; exact h.2.1,fun c hc=>?_,fun j hj=>?_⟩
  · rcases Zyz.1 hc with rfl | hc
    · exact(Ze kv vv c l).low w hm c (by simp [Ze])
    · exact h.2.2.1 c hc
  · have hl:=h.1
    have hl2:=h.2.1
    by_cases e:i=j
    · subst e
      exact .inr ⟨l,b,by rw [List.getElem?_set_self (by omega)],by rw [List.getElem?_set_self (by omega)],by simp,hm⟩
    · rcases h.2.2.2 j hj with ⟨q1,q2⟩ | ⟨l',b',h1,h2,h3,h4⟩
      · exact .inl ⟨by rw [List.getElem?_set_ne e]; exact q1,by rw [List.getElem?_set_ne e]; exact q2⟩
      · exact .inr ⟨l',b',by rw [List.getElem?_set_ne e]; exact h1,by rw [List.getElem?_set_ne e]; exact h2,by simp [h3],h4⟩
theorem Zsh (h:(X3 kv vv n).rep ls cs fp w) {i:Nat} {l:List (α×β)} (hl:ls[i]?=some (some l)):∃ b,cs[i]?=some (.map (some b))∧b∈fp∧(Ze kv vv b l).holds w:=by
  have hi:i < n:=by have:=(List.getElem?_eq_some_iff.1 hl).1; have:=h.2.1; omega
  rcases h.2.2.2 i hi with ⟨q1,q2⟩ | ⟨l',b',h1,h2,h3,h4⟩
  · rw [hl] at q1; cases q1
  · rw [hl] at h1; injection h1 with h1; injection h1 with h1; subst h1; exact⟨b',h2,h3,h4⟩
theorem Zcr (h:(X3 kv vv n).rep ls cs fp w):cs.length=n:=h.1
theorem Zko (h:(X3 kv vv n).rep ls cs fp w):cs.all (·.oneCell')=true:=List.all_eq_true.2 fun u hu=>(X3 kv vv n).one h u hu
end
theorem Zsi {cs:List Value} {n:Nat} (h:cs.length=n):(cs.drop 0).take n=cs:=by rw [List.drop_zero,Zzz (by omega)]
theorem Zsj {cs:List Value} {o i:Nat} {v:Value} (h:cs[i]?=some v) (ho:o=i):cs[o]?=some v:=ho ▸ h
theorem Zns {cs:List Value} {o i:Nat} {v:Value} (hi:i < cs.length) (ho:o=i):Xx cs o [v]=cs.set i v:=by
  subst ho
  unfold Xx
  rw [List.set_eq_take_append_cons_drop,if_pos hi]
  simp
theorem Zkp {cs vc:List Value} (h:vc.length=cs.length):Xx cs 0 vc=vc:=by
  unfold Xx
  rw [List.take_zero,List.nil_append,Nat.zero_add,h,List.drop_length,List.append_nil]
namespace Ctx
variable {X:Nat→Prop} {w0 w w':World} {M Ps:List Item}
theorem joinP (h:Ctx X w0 w M Ps) (j k:Nat) {it jt:Item} (hj:Ps[j]?=some it) (hk:Ps[k]?=some jt) (nt:Item) (hn:it.holds w→jt.holds w→nt.holds w) (hf:∀ b,b∈nt.fp→b∈it.fp∨b∈jt.fp):Ctx X w0 w M (nt::Ps) :=
  h.pushP nt (hn (h.getP j hj) (h.getP k hk)) (fun b hb m hm=>(hf b hb).elim (fun q=>h.pd it (List.mem_of_getElem? hj) b q m hm) (fun q=>h.pd jt (List.mem_of_getElem? hk) b q m hm))
end Ctx
theorem Zaj {w w':World} (h:BelN w.heap.size w w'):Bel w w':=⟨⟨h.os,h.tape,h.output,h.size,h.old⟩,h.drawn⟩
theorem Ys {N:Nat} {w w':World} (hN:N≤w.heap.size) (h:Bel w w'):BelN N w w':=⟨h.os,h.tape,h.output,h.size,h.drawn,fun c hc=>h.block c (by omega)⟩
theorem Yz {N b:Nat} {w w':World} (hN:N≤w.heap.size) (hb:N≤b) (h:BelB b w w'):BelN N w w':=⟨h.os,h.tape,h.output,h.size,h.drawn,fun c hc=>h.old c (by omega) (by omega)⟩
section
variable {P:Program} {l:List Oper} {Q:Exit→Act→World→Prop} {n m f:Nat} {e:Env} {w:World} {listed:Array Bool}
theorem Zy {N i:Nat} {w':World} {l9:Array Bool} (hb:BelN N w w') (hN:N≤w.heap.size) (hl:listed.setIfInBounds i true=l9) (h:N≤w'.heap.size→AE (BelN N) P .any l.toArray Q m n f l9 e w'):AK (BelN N) P l Q m n f i listed w .normal (actOf n e) w' :=
  Zmv hb hl (h (Nat.le_trans hN hb.size))
end
section
variable {P:Program} {ops:Array Oper} {Q:Exit→Act→World→Prop} {n:Nat} {e:Env} {w w':World} {rest:List Oper}
variable {X:Nat→Prop} {w0:World} {M Ps:List Item}
variable {d ty:Nat} {pos:String} {af:Array Edge} {gd:Option (Nat×Bool)}
theorem Zbm (hC:Ctx X w0 w M Ps) {t:Nat} {z:Value} (cs:List Value) (hz:Je P t z) (hcs:z.cells.toList=cs)
    (h:∀ b w',w.heap.size≤b→Bel w w'→Ctx X w0 w' (blk b t cs::M) Ps→W P ops Q rest n (upd e d (.pointer (some ⟨b,0,none⟩))) w') :
    W P ops Q (⟨some d,.alloc t,ty,pos,af,none⟩::rest) n e w:=by
  have hB:Bel w (w.alloc (.cells z.cells t)):=Bel.alloc _ _
  refine Xd (.pointer (some ⟨w.heap.size,0,none⟩)) rfl rfl ?_ (h w.heap.size (w.alloc (.cells z.cells t)) (Zy1 _) hB (hC.push hB _ ?_ ?_))
  · simp [execOp,Instr.alloc,Zju hz,newVar,newRow]
  · show (w.alloc _).heap[w.heap.size]?=_
    rw [heap_alloc_new,← hcs]
  · simp [blk]
theorem Zem (hC:Ctx X w0 w M Ps) (k:Nat) {b t off sz ty':Nat} {x y:Operand} {cs:List Value} {v:Value} (vc:List Value) (cs':List Value) (hk:M[k]?=some (blk b t cs)) (hT:X8 P ty' sz) (hx:ev n e x=.pointer (some ⟨b,off,none⟩))
    (hy:ev n e y=v) (hv:v.cells.toList=vc) (hl:vc.length=sz) (h1:vc.all (·.oneCell')=true) (ho:off+sz≤cs.length) (hcs:Xx cs off vc=cs')
    (h:∀ w',BelB b w w'→Ctx X w0 w' (M.set k (blk b t cs')) Ps→W P ops Q rest n e w') :
    W P ops Q (⟨none,.store ty' x y,ty,pos,af,none⟩::rest) n e w:=by
  obtain ⟨w',hr,hb,hos,hta,hou,hsz,hother⟩:=Zmb (P:=P) hT (hC.getM k hk) hv hl h1 ho
  refine Zcv rfl rfl ?_ (h w' ⟨hos,hta,hou,by omega,Zcf _ _ _ _ hr,fun c _ hc=>hother c hc⟩ (hC.turn k hk hos hta hou (by omega) (Zcf _ _ _ _ hr) (fun c _ hc=>hother c (by simpa [blk] using hc)) (hcs ▸ hb) (fun c hc=>.inl hc)))
  simp [execOp,hx,hy,Instr.storeAt,Instr.sureAddr,hr]
variable {α β:Type} {kv:α→Value} {vv:β→Value}
theorem Zad (hC:Ctx X w0 w M Ps) {t:Nat} (kv:α→Value) (vv:β→Value) (h:∀ b w',w.heap.size≤b→Bel w w'→Ctx X w0 w' (Ze kv vv b []::M) Ps→W P ops Q rest n (upd e d (.map (some b))) w') :
    W P ops Q (⟨some d,.makeMap t none,ty,pos,af,none⟩::rest) n e w:=by
  have hB:Bel w (w.alloc (.map #[] 0)):=Bel.alloc _ _
  refine Xd (.map (some w.heap.size)) rfl rfl ?_ (h w.heap.size _ (Zy1 _) hB (hC.push hB _ ⟨#[],0,heap_alloc_new _ _,rfl,by simp,by simp,by simp⟩ (by simp [Ze])))
  simp [execOp,Instr.makeMap,newObj,Sem.run,Result.andThen]
variable [DecidableEq α]
theorem Y7 (hC:Ctx X w0 w M Ps) (j:Nat) {t k el b:Nat} {l:List (α×β)} {x y z:Operand} (kx:α) (v:β) (hk:M[j]?=some (Ze kv vv b l)) (K:KeyT P k kv) (ht:P.underlying t=some (.map k el))
    (hx:ev n e x=.map (some b)) (hy:ev n e y=kv kx) (hz:ev n e z=vv v) (h:∀ w',BelB b w w'→Ctx X w0 w' (M.set j (Ze kv vv b (Zz l kx v))) Ps→W P ops Q rest n e w') {op:Op} (hop:op=.mapUpdate t x y z∨op=.insert t x y z) :
    W P ops Q (⟨none,op,ty,pos,af,none⟩::rest) n e w:=by
  obtain ⟨w',hr,hh,hb⟩:=Zm1 K ht (hC.getM j hk) kx v
  refine Zcv rfl rfl ?_ (h w' hb (hC.turnB j hk hb rfl rfl hh))
  rcases hop with rfl | rfl <;> simp [execOp,hx,hy,hz,hr]
end
theorem Zsk {cs vc:List Value} {o:Nat} (ho:o+vc.length≤cs.length) (k:Nat):(Xx cs o vc)[k]?=if k < o then cs[k]? else if k < o+vc.length then vc[k - o]? else cs[k]?:=by
  unfold Xx
  have h1:(cs.take o).length=o:=by rw [List.length_take]; omega
  by_cases a:k < o
  · rw [if_pos a,List.append_assoc,List.getElem?_append_left (by omega),List.getElem?_take,if_pos a]
  · rw [if_neg a]
    by_cases b:k < o+vc.length
    · rw [if_pos b,List.append_assoc,List.getElem?_append_right (by omega),h1,List.getElem?_append_left (by omega)]
    · rw [if_neg b,List.getElem?_append_right (by rw [ZBe]; omega),ZBe,h1,List.getElem?_drop]
      congr 1
      omega
theorem Zsl {cs vc:List Value} {o:Nat} (ho:o+vc.length≤cs.length):(Xx cs o vc).length=cs.length:=by
  unfold Xx; simp; omega
section
variable {α:Type} {T:Tr α} {w:World}
theorem Zsm {fps:List (List Nat)} {i:Nat} {f:List Nat} {b:Nat} (h:b∈(fps.set i f).flatten):b∈fps.flatten∨b∈f:=by
  obtain ⟨l,hl,hb⟩:=ZG1.1 h
  rcases ZG8 hl with q | q
  · exact .inl (ZG1.2 ⟨l,q,hb⟩)
  · exact .inr (q ▸ hb)
theorem Zsn {xs : List α} {cs c2 : List Value} {fps : List (List Nat)} {f2 : List Nat} {i : Nat} {y : α} (h : (Ym T xs cs fps).holds w) (hi : i < xs.length) (hy : (T.item y c2 f2).holds w) (hd : ∀ b, b ∈ fps.flatten → b ∉ f2) :
    (Ym T (xs.set i y) (Xx cs (i * T.ty.sz) c2) (fps.set i f2)).holds w:=by
  have hc2:c2.length=T.ty.sz:=T.ty.len (T.trep hy.1)
  have hle:i * T.ty.sz+T.ty.sz≤cs.length:=by rw [h.1.1]; exact Zbk hi
  have hle2:i * T.ty.sz+c2.length≤cs.length:=by rw [hc2]; exact hle
  have hfl:=h.1.2.1
  refine⟨⟨by rw [Zsl hle2,h.1.1,ZG0],by rw [ZG0,ZG0,hfl],fun j hj=>?_⟩,?_⟩
  · have hj':j < xs.length:=by simpa using hj
    have hseg:∀ k:Nat,(((Xx cs (i * T.ty.sz) c2).drop (j * T.ty.sz)).take T.ty.sz)[k]?=if j=i then c2[k]? else((cs.drop (j * T.ty.sz)).take T.ty.sz)[k]?:=by
      intro k
      rw [List.getElem?_take]
      by_cases hk:k < T.ty.sz
      · rw [if_pos hk,List.getElem?_drop,Zsk hle2]
        by_cases hji:j=i
        · subst hji
          rw [if_neg (by omega),if_pos (by omega),if_pos rfl,Nat.add_sub_cancel_left]
        · rw [if_neg hji,List.getElem?_take,if_pos hk,List.getElem?_drop]
          rcases Nat.lt_or_gt_of_ne hji with q | q
          · have:=Zbk (sz:=T.ty.sz) q
            rw [if_pos (by omega)]
          · have:=Zbk (sz:=T.ty.sz) q
            rw [if_neg (by omega),if_neg (by omega)]
      · rw [if_neg hk]
        by_cases hji:j=i
        · rw [if_pos hji,List.getElem?_eq_none (by omega)]
        · rw [if_neg hji,List.getElem?_take,if_neg hk]
    have hfj:(fps.set i f2).getD j []=if j=i then f2 else fps.getD j []:=by
      simp only [Zzm]
      by_cases hji:j=i
      · subst hji; rw [if_pos rfl,List.getElem?_set_self (by omega)]; rfl
      · rw [if_neg hji,List.getElem?_set_ne (fun e=>hji e.symm)]
    rw [List.getElem_set,hfj]
    by_cases hji:j=i
    · subst hji
      rw [if_pos rfl,if_pos rfl]
      have e1:((Xx cs (j * T.ty.sz) c2).drop (j * T.ty.sz)).take T.ty.sz=c2:=List.ext_getElem? (fun k=>(hseg k).trans (if_pos rfl))
      rw [e1]
      exact hy.1
    · rw [if_neg (fun e=>hji e.symm),if_neg hji]
      have e1:((Xx cs (i * T.ty.sz) c2).drop (j * T.ty.sz)).take T.ty.sz=(cs.drop (j * T.ty.sz)).take T.ty.sz:=List.ext_getElem? (fun k=>(hseg k).trans (if_neg hji))
      rw [e1]
      exact h.1.2.2 j hj'
  · have hp:=ZG9.1 h.2
    refine ZG9.2 ⟨fun l hl=>?_,?_⟩
    · rcases ZG8 hl with q | q
      · exact hp.1 l q
      · rw [q]; exact hy.2
    · rw [Zza]
      intro a b ha hb hab x hx z hz
      have ha':a < fps.length:=by simpa using ha
      have hb':b < fps.length:=by simpa using hb
      rw [List.getElem_set] at hx hz
      split at hx
      · split at hz
        · omega
        · intro e; subst e; exact hd x (ZG1.2 ⟨_,Zzv hb',hz⟩) hx
      · split at hz
        · intro e; subst e; exact hd x (ZG1.2 ⟨_,Zzv ha',hx⟩) hz
        · exact Zza.1 hp.2 a b ha' hb' hab x hx z hz
theorem Znt {e:Nat} {xs:List α} {v:Value} {fp:List Nat} (h:((Tr.sl e T).item xs [v] fp).holds w) (hn:0 < xs.length):∃ g cap,v=.slice (some ⟨g,0,none⟩) xs.length cap:=by
  obtain ⟨ecs,fps,a1,_⟩:=Zel h
  exact Zai a1 hn
end
section
variable {P:Program} {ops:Array Oper} {Q:Exit→Act→World→Prop} {n:Nat} {e:Env} {w w':World} {rest:List Oper}
variable {X:Nat→Prop} {w0:World} {M Ps:List Item}
variable {d ty:Nat} {pos:String} {af:Array Edge} {gd:Option (Nat×Bool)}
theorem Znu {el ty' i g cap j:Nat} {α:Type} {T:Tr α} {x y:Operand} {v u:Value} {xs:List α} {z:α} {c2:List Value} {f1 f2:List Nat} (hC:Ctx X w0 w ((Tr.sl el T).item xs [v] f1::T.item z c2 f2::M) Ps)
    (hi:i < xs.length) (hv:v=.slice (some ⟨g,0,none⟩) xs.length cap) (hT:X8 P ty' T.ty.sz) (hx:ev n e x=.pointer (some ⟨g,j,none⟩)) (hj:j=i * T.ty.sz) (hy:ev n e y=u) (hu:u.cells.toList=c2)
    (h:∀ f w',Ctx X w0 w' ((Tr.sl el T).item (xs.set i z) [v] f::M) Ps→W P ops Q rest n e w') :
    W P ops Q (⟨none,.store ty' x y,ty,pos,af,none⟩::rest) n e w:=by
  obtain ⟨ecs,fps,a1,a2,rfl,a4⟩:=Zel (hC.getM 0 rfl)
  have hz:(T.item z c2 f2).holds w:=hC.getM 1 rfl
  have hdz:∀ b,b∈v.ownBlock.toList++fps.flatten→b∉f2:=fun b hb hb'=>hC.mm 0 1 rfl rfl (by decide) b hb hb'
  have h1:=hC.split (a:=own el T.ty.sz v xs.length ecs) (b:=Ym T xs ecs fps) (fun b hb=>ZA1 _ hb) (fun b hb=>ZA2 _ hb) ⟨a1,a2,a4⟩
  have hc2:c2.length=T.ty.sz:=T.ty.len (T.trep hz.1)
  have hle:j+T.ty.sz≤ecs.length:=by rw [hj,a2.1.1]; exact Zbk hi
  refine Zec (v:=u) h1 0 c2 (Xx ecs j c2) rfl hv hT hx hy hu hc2 (List.all_eq_true.2 fun q hq=>T.ty.one (T.trep hz.1) q hq) hle rfl fun w1 hC1=>?_
  have h2:=hC1.perm (M':=Ym T xs ecs fps::T.item z c2 f2::own el T.ty.sz v xs.length (Xx ecs j c2)::M) (by
    have q1:(own el T.ty.sz v xs.length (Xx ecs j c2)::Ym T xs ecs fps::T.item z c2 f2::M).Perm (Ym T xs ecs fps::own el T.ty.sz v xs.length (Xx ecs j c2)::T.item z c2 f2::M):=ZGy _ _ _
    have q2:(Ym T xs ecs fps::own el T.ty.sz v xs.length (Xx ecs j c2)::T.item z c2 f2::M).Perm (Ym T xs ecs fps::T.item z c2 f2::own el T.ty.sz v xs.length (Xx ecs j c2)::M):=(ZGy _ _ _).cons _
    exact q1.trans q2)
  have h3:=h2.gather (c:=Ym T (xs.set i z) (Xx ecs j c2) (fps.set i f2)) (fun b hb=>Zsm hb) (fun p q r=>by rw [hj]; exact Zsn p hi q r)
  have h4:=h3.perm (M':=own el T.ty.sz v xs.length (Xx ecs j c2)::Ym T (xs.set i z) (Xx ecs j c2) (fps.set i f2)::M) (ZGy _ _ _)
  exact h _ w1 (h4.gather (c:=(Tr.sl el T).item (xs.set i z) [v] (v.ownBlock.toList++(fps.set i f2).flatten)) (fun b hb=>Zzu.1 hb) (fun p q r=>Zal (by rw [ZG0]; exact p) q r))
end
section
variable {P:Program} {ops:Array Oper} {Q:Exit→Act→World→Prop} {n:Nat} {e:Env} {w w':World} {rest:List Oper}
variable {d ty:Nat} {pos:String} {af:Array Edge} {gd:Option (Nat×Bool)}
end
section
variable {P:Program} {ops:Array Oper} {Q:Exit→Act→World→Prop} {K:Act→World→Prop} {n:Nat} {e:Env} {w:World}
theorem dn (h:K (actOf n e) w):W P ops (Exit.then K Q) [] n e w:=done (Zd h)
theorem sr {id:Nat} {l:List Oper} {y:Code} (h:W P l.toArray (Exit.then (y.wp P Q) Q) l n e w):(Code.seq (Code.region id l.toArray false) y).wp P Q (actOf n e) w:=wp_seq (Zh h)
def Zkq (e:Env):List (Nat×Value)→Env
  | []=>e
  | p::l=>upd (Zkq e l) p.1 p.2
theorem ue {e:Env}:∀ {l:List (Nat×Value)}, Z3 e l→e=Zkq e l
  | [],_=>rfl
  | p :: l, h => by
    have h1:=ue (l:=l) (fun q hq=>h q (List.mem_cons_of_mem _ hq))
    have h2:e p.1=p.2:=h p (by simp)
    show e=upd (Zkq e l) p.1 p.2
    rw [← h1,Zqa h2]
def SlR (e:Env):List (Nat×Value)→Prop
  | []=>True
  | p::l=>e p.1=p.2∧SlR e l
theorem sl {e:Env}:∀ {l:List (Nat×Value)}, SlR e l→Z3 e l
  | [],_=>Zsc
  | p::l,h=>Zsd h.1 (sl h.2)
end
end Vc
namespace Go.Proofs
open Go.Shelf
end Go.Proofs
