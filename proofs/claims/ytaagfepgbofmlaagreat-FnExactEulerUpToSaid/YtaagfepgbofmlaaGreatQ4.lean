import Derived.Test.YtaagfepgbofmlaaGreatQ3
set_option linter.unusedSectionVars false
set_option linter.unusedSimpArgs false
set_option linter.unusedVariables false
open Bool renaming noConfusion→ZXi
open Go renaming wp_seq→ZMn,wp_block→ZMt,wp_skip→ZMr,wp_ret→ZMv,wp_exit→ZM1
open Go.Instr renaming storeAt→ZHc,sureAddr→ZE0
open Go.IntKind renaming i64→ZHd
open Go.Proofs.Tryz renaming underlying85→ZT8,underlying22→ZM6,prog→ZMq,underlying125→ZTk,func86→ZXg,func138→ZXk,func139→ZXl,func140→ZXm
open Go.Value renaming ownBlock→ZFq
open Inhabited renaming default→ZEx
open Int renaming tmod→ZFo,natCast_nonneg→ZM3,ofNat_lt→ZNl,tdiv→ZTb,toNat_of_nonneg→ZPc
open List renaming mem_append→ZE4,replicate→ZEs,mem_append_left→ZFi,mem_cons→ZEt,length_eq_one_iff→ZNj,mem_cons_of_mem→ZTd,toArray→ZMl,mem_append_right→ZFj,mem_map→ZF9,mem_singleton_self→ZTg,not_mem_nil→ZG2,append_of_mem→ZXh,mem_cons_self→ZTq,append_nil→ZUn,pairwise_singleton→ZU4
open Nat renaming lt_of_le_of_lt→ZPl,zero_le→ZGh,le_of_ble_eq_true→ZMw
open Option renaming toList→ZNm
open Vc renaming TInts→ZO5
open Vc.Ctx renaming start→ZM8
open Vc.Enc renaming encs_append→ZNf
open Vc.Lev renaming key→ZXf
open Vc.Tr renaming sl→ZTa,item→ZM4,trep→ZXe
open Vc.Ty renaming item→ZMm,allItem→ZXd
namespace Vc
open Go Go.RowKit
def LvIn (D:List Lev) (n:Int) (b:Nat) (c3 c4:Bool):Prop:=∃ e,e∈D∧e.n=n∧e.b=b∧e.md=true∧(c3=true→e.c3=true)∧(c4=true→e.c4=true)
theorem LvIn.up {S:Nat→Prop} {D D':List Lev} {F F':List Nat} {n:Int} {b:Nat} {c3 c4:Bool} (h:LvIn D n b c3 c4) (k:CpX S D D' F F'):LvIn D' n b c3 c4:=by
  obtain ⟨e,h1,h2,h3,h4,h5,h6⟩:=h
  obtain ⟨e1,k1,k2⟩:=k.up e h1
  exact⟨e1,k1,k2.n.trans h2,k2.b.trans h3,k2.md h4,fun q=>k2.c3 (h5 q),fun q=>k2.c4 (h6 q)⟩
theorem LvAt.inn {D:List Lev} {n:Int} {b:Nat} (h:LvAt D n b true false):LvIn D n b false false:=by
  obtain ⟨e,h1,h2,h3,h4,_⟩:=h
  exact⟨e,h1,h2,h3,h4 rfl,fun q=>(Bool.false_ne_true q).elim,fun q=>(Bool.false_ne_true q).elim⟩
section
variable {C:Cx} {lt mb:Nat} {D:List Lev} {F:List Nat} {w:World} {n:Int} {b:Nat} {c3 c4 md:Bool}
theorem ZAq (h:(cpx C lt mb D F).holds w) (hl:LvAt D n b true false) (hr:Zfm D):∃ v0 v1 v2 v3 v4 v5,(blk b lt [v0,v1,v2,v3,v4,v5]).holds w∧∃ A m c,v3=.slice A m c∧∀ a,A=some a→LvAt D n b true true:=by
  obtain ⟨e,h1,rfl,rfl,h2,_⟩:=hl
  obtain ⟨_,_,_,_,a3,b3,_⟩:=h.2.2.1.2 e h1
  refine⟨_,_,_,_,_,_,Zdl h.2.1 h1,?_⟩
  cases q:e.c3 with
  | false=>exact⟨none,0,0,a3 q,fun a e1=>by cases e1⟩
  | true =>
    obtain ⟨A,m,c,e1⟩:=Zfl (b3 q)
    exact⟨A,m,c,e1,fun a _=>⟨e,h1,rfl,rfl,h2,fun _=>⟨q,hr e h1 q⟩⟩⟩
theorem Zhp (h:(cpx C lt mb D F).holds w) (hl:LvIn D n b c3 c4):∃ v0 v1 v2 v3 v4 v5,(blk b lt [v0,v1,v2,v3,v4,v5]).holds w∧((EA .i64).ty.sl).rep (C.LV n) [v0] F w∧(((EI .i64).ty.sl).sl).rep (C.MX n) [v2] F w ∧
    (c3=true→(((EI .i64).ty.sl).sl).rep (C.CL n) [v3] F w)∧(c4=true→(((EI .i64).ty.sl).sl).rep (C.BD n) [v4] F w):=by
  obtain ⟨e,h1,rfl,rfl,h2,h3,h4⟩:=hl
  obtain ⟨g1,g2,g3,g4,_,b3,_,b4,_⟩:=h.2.2.1.2 e h1
  exact⟨_,_,_,_,_,_,Zdl h.2.1 h1,g1,g4 h2,fun q=>b3 (h3 q),fun q=>b4 (h4 q)⟩
theorem Zmz {cd:Bool} (h:(cpx C lt mb D F).holds w) (hl:LvAt D n b md cd):b≠mb:=by
  obtain ⟨e,h1,_,rfl,_⟩:=hl
  exact fun q=>h.2.2.2.1 (q ▸ ZF9.2 ⟨e,h1,rfl⟩)
theorem ZAr (h:(cpx C lt mb D F).holds w) (hl:LvIn D n b c3 c4):b≠mb:=by
  obtain ⟨e,h1,_,rfl,_⟩:=hl
  exact fun q=>h.2.2.2.1 (q ▸ ZF9.2 ⟨e,h1,rfl⟩)
theorem Zq5 {t:Nat} {cs:List Value} {w':World} (hB:BelB mb w w') (h:(blk b t cs).holds w) (hne:b≠mb):(blk b t cs).holds w':=(hB.old b (Zbr h) hne).trans h
theorem ZAs {α:Type} {T:Ty α} {x:α} {cs:List Value} {w':World} (h:T.rep x cs F w) (hB:BelB mb w w') (hm:mb∉F):T.rep x cs F w':=T.keep (fun c hc=>hB.old c (T.low h c hc) (fun e=>hm (e ▸ hc))) h
theorem ZAt {D:List Lev} (hd:(D.map (·.b)).Nodup) {e e':Lev} (h:e∈D) (h':e'∈D) (hb:e.b=e'.b):e=e':=by
  induction D with
  | nil=>cases h
  | cons x D ih =>
    rw [List.map_cons,List.nodup_cons] at hd
    rcases ZEt.1 h with q | q <;> rcases ZEt.1 h' with z | z
    · exact q.trans z.symm
    · exact absurd (show x.b∈D.map (·.b) from ZF9.2 ⟨e',z,by rw [← q]; exact hb.symm⟩) hd.1
    · exact absurd (show x.b∈D.map (·.b) from ZF9.2 ⟨e,q,by rw [← z]; exact hb⟩) hd.1
    · exact ih hd.2 q z
theorem Zq6 (h:(cpx C lt mb D F).holds w) (hl:LvAt D n b md true):∀ e,e∈D→e.b=b→e.c4=true∧e.c5=true:=fun e he hb=>by
  obtain ⟨e1,h1,_,h3,_,h5⟩:=hl
  obtain rfl:=ZAt h.2.1.2 he h1 (hb.trans h3.symm)
  exact(h5 rfl).2
end
theorem ZAu {C:Cx} {lt mb a e0:Nat} {D1 D2:List Lev} {ev ev':Lev} {F f:List Nat} {v:Value} {xs:List (List Int)} {w w':World} (h:(cpx C lt mb (D1++ev::D2) F).holds w) (ht:(ZM4 (ZTa a (ZTa e0 (EI .i64).tr)) xs [v] f).holds w)
    (hd:∀ x,x∈(cpx C lt mb (D1++ev::D2) F).fp→x∉f) (hn:ev'.n=ev.n) (hb:ev'.b=ev.b) (hblk:(blk ev.b lt ev'.cells).holds w') (ho:∀ k,k≠ev.b→w'.heap[k]? = w.heap[k]?)
    (hlc:LvC C F ev w→(∀ b,b∈F++f→b < w.heap.size)→(((EI .i64).ty.sl).sl).rep xs [v] f w→LvC C (F++f) ev' w):(cpx C lt mb (D1++ev'::D2) (F++f)).holds w':=by
  have hbs:(D1++ev'::D2).map (·.b)=(D1++ev::D2).map (·.b):=by simp [hb]
  have hks:(D1++ev'::D2).map ZXf=(D1++ev::D2).map ZXf:=by simp [ZXf,hb,hn]
  have inD:ev.b∈(D1++ev::D2).map (·.b):=ZF9.2 ⟨ev,by simp,rfl⟩
  have inF:ev.b∈(cpx C lt mb (D1++ev::D2) F).fp:=ZTd _ (ZFi _ inD)
  have hlow:∀ x,x∈f→x < w.heap.size:=fun x hx=>Item.low _ w ht x hx
  have hlF:∀ x,x∈F→x < w.heap.size:=fun x hx=>h.2.2.1.1 x hx
  have hlA:∀ b,b∈F++f→b < w.heap.size:=fun b hb=>(ZE4.1 hb).elim (hlF b) (hlow b)
  have neF:∀ x,x∈F++f→x≠ev.b:=fun x hx e=>by
    subst e
    rcases ZE4.1 hx with q | q
    · exact h.2.2.2.2.2 _ inD q
    · exact hd _ inF q
  obtain ⟨q1,q2,q3⟩:=Zmu h.2.1
  refine⟨?_,?_,?_,?_,?_,?_⟩
  · rw [hks]
    exact Item.keep _ w w' (fun c hc=>ho c (fun e=>by
      have:c=mb:=by simpa [Z1] using hc
      exact h.2.2.2.1 (this ▸ e ▸ inD))) h.1
  · refine Zmv (e:=ev') (by rw [hb]; exact hblk) (Item.keep _ w w' (fun c hc=>ho c (fun e=>q3 c (by simp [blk,e]) hc)) q2) (fun x hx=>q3 x ?_)
    have:x=ev.b:=by rw [← hb]; simpa [blk] using hx
    simp [blk,this]
  · exact Item.keep _ w w' (fun c hc=>ho c (neF c hc)) (Zmw (e:=ev) (e':=ev') h.2.2.1 hlow fun hc=>hlc hc hlA (ZXe _ ht.1))
  · rw [hbs]; exact h.2.2.2.1
  · intro q
    rcases ZE4.1 q with q | q
    · exact h.2.2.2.2.1 q
    · exact hd mb Zc0 q
  · intro b hbm q
    rw [hbs] at hbm
    rcases ZE4.1 q with q | q
    · exact h.2.2.2.2.2 b hbm q
    · exact hd b (ZTd _ (ZFi _ hbm)) q
section
variable {X:Nat→Prop} {w0 w w':World} {M Ps:List Item}
theorem Ctx.put {C : Cx} {lt mb a e0 : Nat} {D1 D2 : List Lev} {ev ev' : Lev} {F f : List Nat} {v : Value} {xs : List (List Int)} (hC : Ctx X w0 w (cpx C lt mb (D1 ++ ev :: D2) F :: ZM4 (ZTa a (ZTa e0 (EI .i64).tr)) xs [v] f :: M) Ps)
    (hn:ev'.n=ev.n) (hb:ev'.b=ev.b) (hos:w'.os=w.os) (hta:w'.tape=w.tape) (hou:w'.output=w.output) (hsz:w'.heap.size=w.heap.size) (hdr:w.drawn≤w'.drawn) (hblk:(blk ev.b lt ev'.cells).holds w') (ho:∀ k,k≠ev.b→w'.heap[k]? = w.heap[k]?)
    (hlc:LvC C F ev w→(∀ b,b∈F++f→b < w.heap.size)→(((EI .i64).ty.sl).sl).rep xs [v] f w→LvC C (F++f) ev' w):Ctx X w0 w' (cpx C lt mb (D1++ev'::D2) (F++f)::M) Ps:=by
  have hbs:(D1++ev'::D2).map (·.b)=(D1++ev::D2).map (·.b):=by simp [hb]
  have inF:ev.b∈(cpx C lt mb (D1++ev::D2) F).fp:=ZTd _ (ZFi _ (ZF9.2 ⟨ev,by simp,rfl⟩))
  have h1:=hC.gather (c:=Item.and (cpx C lt mb (D1++ev::D2) F) (ZM4 (ZTa a (ZTa e0 (EI .i64).tr)) xs [v] f)) (fun x hx=>ZE4.1 hx) (fun p q _=>⟨p,q⟩)
  exact h1.turn 0 rfl hos hta hou (by omega) hdr (fun c _ hc => ho c (fun e => hc (ZFi _ (e ▸ inF)))) (ZAu (hC.getM 0 rfl) (hC.getM 1 rfl) (hC.mm 0 1 rfl rfl (by decide)) hn hb hblk ho hlc) (fun x hx => .inl (by
    rcases ZEt.1 hx with rfl | hx
    · exact ZFi _ Zc0
    · rcases ZE4.1 hx with q | q
      · rw [hbs] at q; exact ZFi _ (ZTd _ (ZFi _ q))
      · rcases ZE4.1 q with q | q
        · exact ZFi _ (Zei q)
        · exact ZFj _ q))
theorem Zj2 {D1 D2:List Lev} {ev ev':Lev} {F f:List Nat} (h:ev.Le ev'):CpX (fun x=>x=ev.b) (D1++ev::D2) (D1++ev'::D2) F (F++f):=by
  refine⟨fun z hz=>?_,fun z hz hs h3=>?_,fun x hx=>ZFi _ hx⟩
  · rcases ZE4.1 hz with q | q
    · exact⟨z,ZFi _ q,.refl z⟩
    · rcases ZEt.1 q with rfl | q
      · exact⟨ev',ZFj _ ZTq,h⟩
      · exact⟨z,ZFj _ (ZTd _ q),.refl z⟩
  · rcases ZE4.1 hz with q | q
    · exact .inr ⟨z,ZFi _ q,rfl,h3,id,id⟩
    · rcases ZEt.1 q with rfl | q
      · exact absurd h.b hs
      · exact .inr ⟨z,ZFj _ (ZTd _ q),rfl,h3,id,id⟩
theorem Ctx.noBd {C : Cx} {lt mb : Nat} {D : List Lev} {F : List Nat} {n : Int} {b : Nat} (hC : Ctx X w0 w (cpx C lt mb D F :: M) Ps) (hl : LvIn D n b true false) (hb : C.BD n = []) :
    ∃ D',CpX (fun x=>x=b) D D' F F∧LvIn D' n b true true∧Ctx X w0 w (cpx C lt mb D' F::M) Ps:=by
  obtain ⟨e,h1,rfl,rfl,h2,h3,_⟩:=hl
  cases q:e.c4 with
  | true=>exact⟨D,.refl _ _,⟨e,h1,rfl,rfl,h2,h3,fun _=>q⟩,hC⟩
  | false =>
    obtain ⟨D1,D2,rfl⟩:=ZXh h1
    have hle:e.Le { e with c4:=true }:=⟨rfl,rfl,id,id,fun _=>rfl,id⟩
    have hX:=Zj2 (D1:=D1) (D2:=D2) (F:=F) (f:=[]) hle
    rw [ZUn] at hX
    refine⟨D1++{ e with c4:=true }::D2,hX,⟨{ e with c4:=true }, by simp,rfl,rfl,h2,h3,fun _=>rfl⟩,hC.recast (fun x hx=>?_) (fun h=>?_)⟩
    · have:(D1++({ e with c4:=true }:Lev)::D2).map (·.b)=(D1++e::D2).map (·.b):=by simp
      simpa [cpx,this] using hx
    · have hbs:(D1++({ e with c4:=true }:Lev)::D2).map (·.b)=(D1++e::D2).map (·.b):=by simp
      have hks:(D1++({ e with c4:=true }:Lev)::D2).map ZXf=(D1++e::D2).map ZXf:=by simp [ZXf]
      obtain ⟨q1,q2,q3⟩:=Zmu h.2.1
      refine⟨by rw [hks]; exact h.1,Zmv (e:={ e with c4:=true }) q1 q2 q3,?_,by rw [hbs]; exact h.2.2.2.1,h.2.2.2.2.1,by rw [hbs]; exact h.2.2.2.2.2⟩
      have:=Zmw (F1:=[]) (e':={ e with c4:=true }) h.2.2.1 (by simp) (fun hc=>by
        rw [ZUn]
        obtain ⟨g1,g2,g3,g4,a3,b3,a4,b4,a5,b5⟩:=hc
        exact⟨g1,g2,g3,g4,a3,b3,fun z=>ZXi z,fun _=>by
          show (((EI .i64).ty.sl).sl).rep (C.BD e.n) [e.vd] F w
          rw [hb,a4 q]
          exact Ty.more _ (Zk7 _ _) (by simp) h.2.2.1.1,a5,b5⟩)
      rwa [ZUn] at this
theorem Ctx.back {it:Item} (h:Ctx X w0 w M (it::Ps)) (hz:∀ b,b∈it.fp→w0.heap.size≤b∨X b) (hp:∀ jt,jt∈Ps→∀ b,b∈jt.fp→b∉it.fp):Ctx X w0 w (it::M) Ps :=
  { h with
    m:=fun x hx=>(ZEt.1 hx).elim (fun e=>e ▸ h.p it ZTq) (h.m x)
    p:=fun x hx=>h.p x (ZTd _ hx)
    mfp:=fun x hx=>(ZEt.1 hx).elim (fun e=>e ▸ hz) (h.mfp x)
    dis:=List.pairwise_cons.2 ⟨fun m hm x hx=>h.pd it ZTq x hx m hm,h.dis⟩
    pd:=fun x hx b hb m hm=>(ZEt.1 hm).elim (fun e=>e ▸ hp x hx b hb) (h.pd x (ZTd _ hx) b hb m) }
theorem Ctx.off (h:Ctx X w0 w M Ps) (k:Nat) {it:Item} (hk:M[k]? = some it):∀ jt,jt∈Ps→∀ b,b∈jt.fp→b∉it.fp:=fun jt hj b hb=>h.pd jt hj b hb it (List.mem_of_getElem? hk)
variable {P:Program} {ops:Array Oper} {Q:Exit→Act→World→Prop} {m:Nat} {e:Env} {rest:List Oper} {d ty:Nat} {pos:String} {af:Array Edge} {x y:Operand} {ty':Nat}
variable {C:Cx} {lt mb a e0:Nat} {D:List Lev} {F f:List Nat} {n:Int} {b:Nat} {c3 c4:Bool} {v:Value}
theorem ZAv (hC:Ctx X w0 w (cpx C lt mb D F::ZM4 (ZTa a (ZTa e0 (EI .i64).tr)) (C.CL n) [v] f::M) Ps) (hl:LvIn D n b c3 c4) (hT:Y9 P ty' 1) (hx:ev m e x=.pointer (some ⟨b,3,none⟩)) (hy:ev m e y=v)
    (h:∀ D' w',CpX (fun x=>x=b) D D' F (F++f)→LvIn D' n b true c4→Ctx X w0 w' (cpx C lt mb D' (F++f)::M) Ps→W P ops Q rest m e w'):W P ops Q (⟨none,.store ty' x y,ty,pos,af,none⟩::rest) m e w:=by
  obtain ⟨ev,h1,rfl,rfl,h2,h3,h4⟩:=hl
  obtain ⟨D1,D2,rfl⟩:=ZXh h1
  obtain ⟨A,q,c,e1⟩:=Zfl (ZXe _ (hC.getM 1 rfl).1)
  obtain ⟨w',hr,hb,hos,hta,hou,hsz,hother⟩:=Zf2 (P:=P) (off:=3) (v:=v) (vc:=[v]) hT (Zdl (hC.getM 0 rfl).2.1 h1) (by rw [e1]; rfl) rfl (by rw [e1]; rfl) (by simp [Lev.cells])
  refine Zbq rfl rfl ?_ (h _ w' (Zj2 (ev':={ ev with vc:=v,c3:=true }) ⟨rfl,rfl,id,fun _=>rfl,id,id⟩) ⟨{ ev with vc:=v,c3:=true }, by simp,rfl,rfl,h2,fun _=>rfl,h4⟩ (hC.put rfl rfl hos hta hou hsz (Zax _ _ _ _ hr) hb hother fun hc hlA hrp=>?_))
  · simp [execOp,hx,hy,ZHc,ZE0,hr]
  · obtain ⟨g1,g2,g3,g4,a3,b3,a4,b4,a5,b5⟩:=hc.more (F':=F++f) (fun b hb=>ZFi _ hb) hlA
    exact⟨g1,g2,g3,g4,fun z=>ZXi z,fun _=>Ty.more _ hrp (fun b hb=>ZFj _ hb) hlA,a4,b4,a5,b5⟩
theorem ZAw (hC:Ctx X w0 w (cpx C lt mb D F::ZM4 (ZTa a (ZTa e0 (EI .i64).tr)) (C.BD n) [v] f::M) Ps) (hl:LvIn D n b c3 c4) (hT:Y9 P ty' 1) (hx:ev m e x=.pointer (some ⟨b,4,none⟩)) (hy:ev m e y=v)
    (h:∀ D' w',CpX (fun x=>x=b) D D' F (F++f)→LvIn D' n b c3 true→Ctx X w0 w' (cpx C lt mb D' (F++f)::M) Ps→W P ops Q rest m e w'):W P ops Q (⟨none,.store ty' x y,ty,pos,af,none⟩::rest) m e w:=by
  obtain ⟨ev,h1,rfl,rfl,h2,h3,h4⟩:=hl
  obtain ⟨D1,D2,rfl⟩:=ZXh h1
  obtain ⟨A,q,c,e1⟩:=Zfl (ZXe _ (hC.getM 1 rfl).1)
  obtain ⟨w',hr,hb,hos,hta,hou,hsz,hother⟩:=Zf2 (P:=P) (off:=4) (v:=v) (vc:=[v]) hT (Zdl (hC.getM 0 rfl).2.1 h1) (by rw [e1]; rfl) rfl (by rw [e1]; rfl) (by simp [Lev.cells])
  refine Zbq rfl rfl ?_ (h _ w' (Zj2 (ev':={ ev with vd:=v,c4:=true }) ⟨rfl,rfl,id,id,fun _=>rfl,id⟩) ⟨{ ev with vd:=v,c4:=true }, by simp,rfl,rfl,h2,h3,fun _=>rfl⟩ (hC.put rfl rfl hos hta hou hsz (Zax _ _ _ _ hr) hb hother fun hc hlA hrp=>?_))
  · simp [execOp,hx,hy,ZHc,ZE0,hr]
  · obtain ⟨g1,g2,g3,g4,a3,b3,a4,b4,a5,b5⟩:=hc.more (F':=F++f) (fun b hb=>ZFi _ hb) hlA
    exact⟨g1,g2,g3,g4,a3,b3,fun z=>ZXi z,fun _=>Ty.more _ hrp (fun b hb=>ZFj _ hb) hlA,a5,b5⟩
theorem Zq7 (hC:Ctx X w0 w (cpx C lt mb D F::ZM4 (ZTa a (ZTa e0 (EI .i64).tr)) (C.KL n) [v] f::M) Ps) (hl:LvIn D n b true true) (hT:Y9 P ty' 1) (hx:ev m e x=.pointer (some ⟨b,5,none⟩)) (hy:ev m e y=v)
    (h:∀ D' w',CpX (fun x=>x=b) D D' F (F++f)→LvAt D' n b true true→Ctx X w0 w' (cpx C lt mb D' (F++f)::M) Ps→W P ops Q rest m e w'):W P ops Q (⟨none,.store ty' x y,ty,pos,af,none⟩::rest) m e w:=by
  obtain ⟨ev,h1,rfl,rfl,h2,h3,h4⟩:=hl
  obtain ⟨D1,D2,rfl⟩:=ZXh h1
  obtain ⟨A,q,c,e1⟩:=Zfl (ZXe _ (hC.getM 1 rfl).1)
  obtain ⟨w',hr,hb,hos,hta,hou,hsz,hother⟩:=Zf2 (P:=P) (off:=5) (v:=v) (vc:=[v]) hT (Zdl (hC.getM 0 rfl).2.1 h1) (by rw [e1]; rfl) rfl (by rw [e1]; rfl) (by simp [Lev.cells])
  refine Zbq rfl rfl ?_ (h _ w' (Zj2 (ev':={ ev with vk:=v,c5:=true }) ⟨rfl,rfl,id,id,id,fun _=>rfl⟩) ⟨{ ev with vk:=v,c5:=true }, by simp,rfl,rfl,fun _=>h2,fun _=>⟨h3 rfl,h4 rfl,rfl⟩⟩ (hC.put rfl rfl hos hta hou hsz (Zax _ _ _ _ hr) hb hother fun hc hlA hrp=>?_))
  · simp [execOp,hx,hy,ZHc,ZE0,hr]
  · obtain ⟨g1,g2,g3,g4,a3,b3,a4,b4,a5,b5⟩:=hc.more (F':=F++f) (fun b hb=>ZFi _ hb) hlA
    exact⟨g1,g2,g3,g4,a3,b3,a4,b4,fun z=>ZXi z,fun _=>Ty.more _ hrp (fun b hb=>ZFj _ hb) hlA⟩
theorem Zq8 {t t' el:Nat} {A:Option Addr} {m' c:Nat} (b:Bool) (ht:P.underlying t=some (.slice el)) (hx:ev m e x=.slice A m' c) (hy:ev m e y=.slice none 0 0) (hb:(!A.isNone)=b)
    (h:W P ops Q rest m (upd e d (.bool b)) w):W P ops Q (⟨some d,.binOp .neq t x y t',ty,pos,af,none⟩::rest) m e w:=by
  subst hb
  have hq:(eqGuard .neq t x y (.slice A m' c) (.slice none 0 0)).run P w=.ok () w:=by unfold eqGuard; simp
  have hr:(binOp .neq t (.slice A m' c) (.slice none 0 0)).run P w=.ok (.bool !A.isNone) w:=by
    simp [binOp,Zqj ht]
  exact Ym _ rfl rfl (by simp only [execOp,hx,hy,Sem.run_bind,hq,Result.andThen_ok,hr,Sem.run_pure]) h
end
end Vc
set_option maxRecDepth 4000
set_option maxHeartbeats 4000000
namespace Go.Proofs.YtaagfepgbofmlaaGreat
open Go Go.RowKit Vc
variable {b0 bp0 b1 bp1 b2 bp2 b3 bp3 b4 bp4 b5 bp5 b6 bp6 b7 bp7 mb0:Nat} {u0_0 u0_1 u0_2 u0_3 u0_4 u0_5 u1_0 u1_1 u1_2 u1_3 u1_4 u1_5 u2_0 u2_1 u2_2 u2_3 u2_4 u2_5 u3_0 u3_1 u3_2 u3_3 u3_4 u3_5 u4_0 u4_1 u4_2 u4_3 u4_4 u4_5 u5_0 u5_1 u5_2 u5_3 u5_4 u5_5 u6_0 u6_1 u6_2 u6_3 u6_4 u6_5 u7_0 u7_1 u7_2 u7_3 u7_4 u7_5:Value} {fp0 fp1 fp2 fp3 fp4 fp5 fp6 fp7 fp0_0 fp0_1 fp0_2 fp0_3 fp0_4 fp0_5 fp1_0 fp1_1 fp1_2 fp1_3 fp1_4 fp1_5 F0:List Nat} {D0:List Lev}
theorem Zm0  (w:World):(Instr.buildSlice 22 0 #[]).run ZMq w=.ok (.slice (some ⟨w.heap.size,0,none⟩) 0 0) (w.alloc (.cells (ZMl ((EI .i64).encs [])) 2)):=by kernel_rfl
theorem ZAx (x0:Value) (x1:Value) (hx0:Zd2 x0) (hx1:Zd2 x1) (w:World):(Instr.buildSlice 85 2 #[(0,x0),(1,x1)]).run ZMq w=.ok (.slice (some ⟨w.heap.size,0,none⟩) 2 2) (w.alloc (.cells (ZMl [x0,x1]) 22)):=by obtain ⟨_,_,_,rfl⟩:=hx0; obtain ⟨_,_,_,rfl⟩:=hx1; kernel_rfl
def Zdm (a0:List Int) (a1:Int) (K:Bool→Prop):Prop :=
 ((0≤a1∧a1 < (a0.length:Int))∧K (decide (a0.getD a1.toNat ZEx≠0)))
theorem ZAy (a0:List Int) (a1:Int)  {K:Bool→Prop} (h:Zdm a0 a1 K) (w0:World) (q0:ZO5.rep a0 [u0_0] fp0 w0) (qb1:(blk b1 3 [vI a1]).holds w0) :
  Calls ZMq 142 #[u0_0,vQ b1] w0 fun e w'=>∃ (r0:Bool),
   e=.returned (.bool r0)∧K r0∧Bel w0 w':=by
 unfold Zdm at h
 refine cof Tryz.func142 rfl 9 Tryz.ntmps142 ?_
 have hC:=ZM8 (X:=Nox) w0 [ZMm TInts a0 [u0_0] fp0,blk b1 3 [vI a1]] (alc q0 (al1 qb1))
 refine sr (Zc (v:=.bool false) rfl (dn (sr (Za (v:=u0_0) rfl (Zdy (vI a1) (hC.getP 1 rfl) sc3 rfl rfl ?_)))))
 obtain ⟨⟨h0_3,h1_4⟩,h⟩:=h
 obtain ⟨Ad5,c6,hv7⟩:=Zw (hC.getP 0 rfl) a1.toNat (show a1.toNat < a0.length by omega)
 refine Yo (len:=a0.length) ZM6 sc2.size (tr rfl hv7) rfl h0_3 h1_4 (Yl (vI (a0.getD a1.toNat ZEx)) (Ye (hC.getP 0 rfl) hv7 a1.toNat (show a1.toNat < a0.length by omega)) sc2 rfl (Y2 rfl rfl (Zc (v:=.bool (decide (a0.getD a1.toNat ZEx≠0))) rfl (dn (ZMv ?_)))))
 exact Zi rfl (Ze rfl) ⟨decide (a0.getD a1.toNat ZEx≠0),rfl,h,hC.below⟩ (.inl rfl)
def Zdn (a0:Int) (K:Bool→Prop):Prop :=
 K (decide (a0≠0))
theorem ZAz (a0:Int)  {K:Bool→Prop} (h:Zdn a0 K) (w0:World)  :
  Calls ZMq 186 #[vI a0] w0 fun e w'=>∃ (r0:Bool),
   e=.returned (.bool r0)∧K r0∧Bel w0 w':=by
 unfold Zdn at h
 refine cof Tryz.func186 rfl 5 Tryz.ntmps186 ?_
 have hC:=ZM8 (X:=Nox) w0 [] (by simp)
 refine sr (Zc (v:=.bool false) rfl (dn (sr (Za (v:=vI a0) rfl (Y2 rfl rfl (Zc (v:=.bool (decide (a0≠0))) rfl (dn (ZMv ?_))))))))
 exact Zi rfl (Ze rfl) ⟨decide (a0≠0),rfl,h,hC.below⟩ (.inl rfl)
def Zel (a0:List Int) (K:Int→Prop):Prop :=
 Zd8 a0 Zdn (fun r5=>K r5)
theorem Zq9 (a0:List Int)  {K:Int→Prop} (h:Zel a0 K) (w0:World) (q0:ZO5.rep a0 [u0_0] fp0 w0) :
  Calls ZMq 138 #[u0_0] w0 fun e w'=>∃ (r0:Int),
   e=.returned (vI r0)∧K r0∧Bel w0 w':=by
 unfold Zel at h
 refine cof ZXk rfl 5 Tryz.ntmps138 ?_
 have hC:=ZM8 (X:=Nox) w0 [ZMm TInts a0 [u0_0] fp0] (al1 q0)
 refine sr (Zc (v:=vI 0) rfl (dn (sr (Za (v:=u0_0) rfl (Zf [u0_0,.func (.func 186) #[] (ZMl [])] _ Tryz.func185 rfl rfl rfl (Zpp a0 Zdn h _ (hC.getP 0 rfl) Tryz.func186 rfl rfl (fun x0_ K_ w_ _ hq_=>ZAz x0_ hq_ w_)) ?_)))))
 rintro _ w4 ⟨r5,rfl,h,hB6⟩
 refine rt ?_
 replace hC:=hC.grow hB6
 refine Zc (v:=vI r5) rfl (dn (ZMv ?_))
 exact Zi rfl (Ze rfl) ⟨r5,rfl,h,hC.below⟩ (.inl rfl)
def Zhq (a0:List Int) (K:List Int→Prop):Prop :=
 ((a0=[]→K [])∧(Z7 (0+a0.length) 8∧K a0))
theorem Zra (a0:List Int)  {K:List Int→Prop} (h:Zhq a0 K) (w0:World) (q0:ZO5.rep a0 [u0_0] fp0 w0) :
  Calls ZMq 139 #[u0_0] w0 fun e w'=>∃ (r0:List Int) (z0_0:Value) (fz0:List Nat),
   e=.returned (z0_0)∧K r0∧(ZM4 (ZTa 2 (eI.tr)) r0 [z0_0] fz0).holds w'∧(∀ b,b∈fz0→w0.heap.size≤b)∧Bel w0 w':=by
 unfold Zhq at h
 refine cof ZXl rfl 8 Tryz.ntmps139 ?_
 have hC:=ZM8 (X:=Nox) w0 [ZMm TInts a0 [u0_0] fp0] (al1 q0)
 refine sr (Zc (v:=.slice none 0 0) rfl (dn (ZMn (sr (Za (v:=u0_0) rfl ?_)))))
 rcases Zy9 (hC.getP 0 rfl) with ⟨z4,z5,he2,ha3⟩ | ⟨z6,z7,z8,he2⟩
 ·replace h:=h.1 ha3
  refine Zjx true ZM6 (tr rfl he2) rfl rfl (dn (Yc rfl rfl (sr (Zc (v:=.slice none 0 0) rfl (dn ?_)))))
  refine ZMv (Zk ?_)
  exact Zi rfl (Ze rfl) ⟨[],.slice none 0 0,[],rfl,h,(Zda _ _ _),(fun b hb=>absurd hb (by simp)),hC.below⟩ (.inl rfl)
 ·replace h:=h.2
  refine Zjx false ZM6 (tr rfl he2) rfl rfl (dn (Z2 rfl rfl (ZMr (Zd (sr (Y4 (sz:=1) hC [] (eI.encs []) rfl (fun _=>Zm0  _) rfl (by decide) fun b9 w10 hB_ hC=>Za (v:=u0_0) rfl ?_))))))
  obtain ⟨hm10,h⟩:=h
  refine J7 hC 0 ZM6 el2 rfl (by decide) (by decide) rfl (Zoy (hC.getP 0 rfl)) (fun q hq=>Enc.encs_one' (E:=eI) _ q hq) rfl rfl hm10 fun v10 w11 hC=>?_
  replace hC:=Xb hC 0 (a0.length) (eI.encs a0) rfl (by simp) (by first | (simp [ZNf]; done) | simp [ZNf,Enc.encs])
  refine Zc (v:=v10) rfl (dn (ZMv ?_))
  exact Zi rfl (Ze rfl) ⟨a0,v10,(ZNm (ZFq v10)),rfl,h,(Xy (hC.getM 0 rfl)),(Yz hC 0 rfl),hC.below⟩ (.inl rfl)
def Zfo (a0:List Int) (a1:List Int) (a2:Int) (K:List Int→Prop):Prop :=
 Yb (fun i10 (s10:(List Int)) nx10=>((0≤(i10:Int)∧(i10:Int) < (s10.length:Int))∧Zcq (ZHd.wrap ((s10.getD i10 ZEx) - (ZFo (ZHd.wrap (a2 * (a1.getD i10 ZEx))) 10007))) (fun r10=>((0≤(i10:Int)∧(i10:Int) < (s10.length:Int))∧nx10 (s10.set i10 r10))))) (fun (s10:(List Int))=>K s10) a1.length 0 a0
theorem Zrb (a0:List Int) (a1:List Int) (a2:Int)  {K:List Int→Prop} (h:Zfo a0 a1 a2 K) (w0:World) (qw0:(own 2 1 u0_0 a0.length (eI.encs a0)).holds w0) (q1:ZO5.rep a1 [u1_0] fp1 w0) (do1:∀ b,b∈fp1→b∉(ZNm (ZFq u0_0))) :
  Calls ZMq 140 #[u0_0,u1_0,vI a2] w0 fun e w'=>∃ (mw:List Int),
   e=.returned (.tuple #[])∧K mw∧(own 2 1 u0_0 mw.length (eI.encs mw)).holds w'∧BelO ((ZNm (ZFq u0_0))) w0 w':=by
 unfold Zfo at h
 refine cof ZXm rfl 29 Tryz.ntmps140 ?_
 have hC:=Ctx.startL w0 ((ZNm (ZFq u0_0))) [own 2 1 u0_0 a0.length (eI.encs a0)] [ZMm TInts a1 [u1_0] fp1] (by simp only [ZEt,ZG2,or_false,forall_eq_or_imp,forall_eq]; exact qw0) (by simp only [ZEt,ZG2,or_false,forall_eq_or_imp,forall_eq]; exact q1) (by simp only [ZEt,ZG2,or_false,forall_eq_or_imp,forall_eq]; exact fun b hb=>hb) (ZU4 _ _) (by simp only [ZEt,ZG2,or_false,forall_eq_or_imp,forall_eq]; exact do1)
 refine sr (Za (v:=u1_0) rfl (Zv hC 0 rfl ZM6 rfl (Za (v:=vI 0) rfl (dn (ZMt ?_)))))
 have hN10:a1.length≤9223372036854775807:=Yx (hC.getP 0 rfl)
 refine Yn (S:=(List Int)) _ _ (fun i10 s10 e_ w_=>Zt e_ [(0,u0_0),(2,vI a2),(8,u1_0),(9,vI (a1.length:Int)),(10,vI (i10:Int))]∧Ctx (fun c_=>c_∈(ZNm (ZFq u0_0))) w0 w_ [own 2 1 u0_0 s10.length (eI.encs s10)] [ZMm TInts a1 [u1_0] fp1]) a1.length ?_ ?_ (s0:=a0) ?_ h
 ·clear hC h
  rintro i10 s10 e_ w10 nx10 K10 hi10 ⟨hS_,hC⟩ h hK10
  rw [ue hS_]
  refine sr (Zn rfl rfl (dn (ZMn (Yc rfl (decide_eq_true (by omega)) (ZMr (Zd (ZMn (ZMt (sr (Za (v:=vI (i10:Int)) rfl ?_))))))))))
  obtain ⟨Ad10,c10,hv10⟩:=Zw (hC.getP 0 rfl) i10 hi10
  refine Yo (len:=a1.length) ZM6 sc2.size (tr rfl hv10) rfl (ZM3 _) (ZNl.2 hi10) (Yl (vI (a1.getD i10 ZEx)) (Ye (hC.getP 0 rfl) hv10 i10 hi10) sc2 rfl (Zc (v:=vI (i10:Int)) rfl (Zc (v:=vI (a1.getD i10 ZEx)) rfl (dn (Zg (Za (v:=u0_0) rfl (Za (v:=vI (i10:Int)) rfl (Za (v:=u0_0) rfl (Za (v:=vI (i10:Int)) rfl ?_)))))))))
  obtain ⟨⟨h10,h11⟩,h⟩:=h
  obtain ⟨Ad11,c11,hv11⟩:=Jp (hC.getM 0 rfl) (ZPl (ZGh _) (show i10 < s10.length by omega))
  refine Jz (i10 * 1) ZM6 sc2.size (tr rfl hv11) rfl h10 h11 rfl (Yl (vI (s10.getD i10 ZEx)) (Zb3 (hC.getM 0 rfl) hv11 i10 (show i10 < s10.length by omega)) sc2 rfl (Za (v:=vI a2) rfl (Za (v:=vI (a1.getD i10 ZEx)) rfl (Js rfl rfl (Xr rfl rfl (by decide) (Jx rfl rfl (Zf [vI (ZHd.wrap ((s10.getD i10 ZEx) - (ZFo (ZHd.wrap (a2 * (a1.getD i10 ZEx))) 10007)))] _ Tryz.func187 rfl rfl rfl (Zl1 (ZHd.wrap ((s10.getD i10 ZEx) - (ZFo (ZHd.wrap (a2 * (a1.getD i10 ZEx))) 10007))) h _) ?_)))))))
  rintro _ w11 ⟨r10,rfl,h,hB10⟩
  refine rt ?_
  replace hC:=hC.grow hB10
  obtain ⟨⟨h12,h13⟩,h⟩:=h
  obtain ⟨Ad12,c12,hv12⟩:=Jp (hC.getM 0 rfl) (ZPl (ZGh _) (show i10 < s10.length by omega))
  refine Jz (i10 * 1) ZM6 sc2.size (tr rfl hv12) rfl h12 h13 rfl (Zc7 (v:=vI r10) hC 0 [vI r10] (eI.encs (s10.set i10 r10)) rfl hv12 sc2.size rfl rfl rfl rfl rfl (by rw [Enc.encs_len]; exact Zar (sz:=1) (show i10 < s10.length by omega)) (Zc8 _ _ _ (show i10 < s10.length by omega)) fun w12 hC=>?_)
  replace hC:=Xb hC 0 ((s10.set i10 r10).length) (eI.encs (s10.set i10 r10)) rfl (by simp) rfl
  refine done (Zq (Zd (Zg (Zo rfl rfl (Za (v:=vI (ZHd.wrap ((i10:Int)+1))) rfl (done ?_))))))
  exact hK10 (s10.set i10 r10) _ _ ⟨(sl ⟨rfl,rfl,rfl,rfl,(tr rfl (congrArg _ (Z6 hi10 hN10))),trivial⟩),hC⟩ h
 ·clear hC h
  rintro s10 e_ w13 K10 ⟨hS_,hC⟩ h
  rw [ue hS_]
  refine sr (Zn rfl rfl (dn (ZMn (Z2 rfl (decide_eq_false (by omega)) ?_))))
  refine ZM1 (Zh (Zh (Zy ?_)))
  exact Zck rfl  ⟨s10,rfl,h,(hC.getM 0 rfl),hC.belO⟩ (.inr rfl)
 ·skip
  exact⟨(slq rfl),hC⟩
def Zdo (a0:List Int) (a1:List (List Int)) (K:List Int→Prop):Prop :=
 Zhq a0 (fun r6=>Yb (fun i10 (s10:(List Int)) nx10=>Zel (a1.getD i10 ZEx) (fun r10=>((0≤r10∧r10 < (s10.length:Int))∧Zfo s10 (a1.getD i10 ZEx) (s10.getD r10.toNat ZEx) (fun m10=>nx10 m10)))) (fun (s10:(List Int))=>K s10) a1.length 0 r6)
theorem Zrc (a0:List Int) (a1:List (List Int))  {K:List Int→Prop} (h:Zdo a0 a1 K) (w0:World) (q0:ZO5.rep a0 [u0_0] fp0 w0) (q1:(ZO5.sl).rep a1 [u1_0] fp1 w0) :
  Calls ZMq 84 #[u0_0,u1_0] w0 fun e w'=>∃ (r0:List Int) (z0_0:Value) (fz0:List Nat),
   e=.returned (z0_0)∧K r0∧(ZM4 (ZTa 2 (eI.tr)) r0 [z0_0] fz0).holds w'∧(∀ b,b∈fz0→w0.heap.size≤b)∧Bel w0 w':=by
 unfold Zdo at h
 refine cof Tryz.func84 rfl 25 Tryz.ntmps84 ?_
 have hC:=ZM8 (X:=Nox) w0 [ZMm TInts a0 [u0_0] fp0,ZMm (ZO5.sl) a1 [u1_0] fp1] (alc q0 (al1 q1))
 refine sr (Zc (v:=.slice none 0 0) rfl (dn (sr (Za (v:=u0_0) rfl (Zf [u0_0] _ ZXl rfl rfl rfl (Zra a0 h _ (hC.getP 0 rfl)) ?_)))))
 rintro _ w5 ⟨r6,u7,f8,rfl,h,hr9,hf10,hB10⟩
 refine rt ?_
 replace hC:=hC.push hB10 (ZM4 (ZTa 2 (eI.tr)) r6 [u7] f8) hr9 hf10
 obtain ⟨ho10,hf11⟩:=Xn (hC.getM 0 rfl).1
 subst hf11
 replace hC:=hC.recast (c:=own 2 1 u7 r6.length (eI.encs r6)) (fun _ h_=>h_) (fun _=>ho10)
 refine Zc (v:=u7) rfl (dn (ZMn (sr (Za (v:=u1_0) rfl (Zv hC 1 rfl ZT8 rfl (Za (v:=vI 0) rfl (dn (ZMt ?_))))))))
 have hN10:a1.length≤9223372036854775807:=Yx (hC.getP 1 rfl)
 refine Yn (S:=(List Int)) _ _ (fun i10 s10 e_ w_=>∃ (v10:Value),Zt e_ [(0,v10),(9,u1_0),(10,vI (a1.length:Int)),(11,vI (i10:Int))]∧Ctx Nox w0 w_ [own 2 1 v10 s10.length (eI.encs s10)] [ZMm TInts a0 [u0_0] fp0,ZMm (ZO5.sl) a1 [u1_0] fp1]) a1.length ?_ ?_ (s0:=r6) ?_ h
 ·clear hC h
  rintro i10 s10 e_ w10 nx10 K10 hi10 ⟨v10,hS_,hC⟩ h hK10
  rw [ue hS_]
  refine sr (Zn rfl rfl (dn (ZMn (Yc rfl (decide_eq_true (by omega)) (ZMr (Zd (ZMn (ZMt (sr ?_)))))))))
  obtain ⟨Ad10,c10,hv10⟩:=Zw (hC.getP 1 rfl) i10 hi10
  refine Yo (len:=a1.length) ZT8 sc22.size (tr rfl hv10) rfl (ZM3 _) (ZNl.2 hi10) ?_
  obtain ⟨cs_,hl10,hc10,hr10⟩:=Xj (hC.getP 1 rfl) hv10 i10 hi10
  obtain ⟨u10,rfl⟩:=ZNj.1 hl10
  clear hl10
  rw [Xl _ _ hi10] at hr10
  replace hC:=hC.derive 1 rfl (ZMm TInts (a1.getD i10 ZEx) [u10] fp1) (fun _=>hr10) (fun _ hb_=>hb_)
  refine Yl (u10) hc10 sc22 rfl (Zc (v:=u10) rfl (dn (Zg (Za (v:=v10) rfl (Za (v:=u10) rfl (Za (v:=v10) rfl (Za (v:=u10) rfl (Zf [u10] _ ZXk rfl rfl rfl (Zq9 (a1.getD i10 ZEx) h _ (hC.getP 0 rfl)) ?_))))))))
  rintro _ w11 ⟨r10,rfl,h,hB11⟩
  refine rt ?_
  replace hC:=hC.grow hB11
  obtain ⟨⟨h10,h11⟩,h⟩:=h
  obtain ⟨Ad11,c11,hv11⟩:=Jp (hC.getM 0 rfl) (ZPl (ZGh _) (show r10.toNat < s10.length by omega))
  refine Jz (r10.toNat * 1) ZM6 sc2.size (tr rfl hv11) rfl h10 h11 rfl (Yl (vI (s10.getD r10.toNat ZEx)) (Zb3 (hC.getM 0 rfl) hv11 r10.toNat (show r10.toNat < s10.length by omega)) sc2 rfl (Zf [v10,u10,vI (s10.getD r10.toNat ZEx)] _ ZXm rfl rfl rfl (Zrb s10 (a1.getD i10 ZEx) (s10.getD r10.toNat ZEx) h _ (hC.getM 0 rfl) (hC.getP 0 rfl) (fun b_ hb_ hb2_=>hC.pdk 0 0 rfl rfl b_ hb_ hb2_)) ?_))
  rintro _ w12 ⟨m10,rfl,h,hm10,hB12⟩
  refine rt ?_
  replace hC:=hC.turnL hB12 (M':=[own 2 1 v10 m10.length (eI.encs m10)]) rfl (fun x_ hx_=>⟨_,mg 0 rfl,hx_⟩) (by simp only [ZEt,ZG2,or_false,forall_eq_or_imp,forall_eq]; exact hm10)
  refine done (Zq (Zd (Zg (Zo rfl rfl (Za (v:=vI (ZHd.wrap ((i10:Int)+1))) rfl (done ?_))))))
  exact hK10 m10 _ _ ⟨v10,(sl ⟨rfl,rfl,rfl,(tr rfl (congrArg _ (Z6 hi10 hN10))),trivial⟩),(hC.sP [1,2] rfl)⟩ h
 ·clear hC h
  rintro s10 e_ w13 K10 ⟨v10,hS_,hC⟩ h
  rw [ue hS_]
  refine sr (Zn rfl rfl (dn (ZMn (Z2 rfl (decide_eq_false (by omega)) ?_))))
  refine ZM1 (Zh (Zh (Zy ?_)))
  refine Zd (sr (Za (v:=v10) rfl (Zc (v:=v10) rfl (dn (ZMv ?_)))))
  exact Zi rfl (Ze rfl) ⟨s10,v10,(ZNm (ZFq v10)),rfl,h,(Xy (hC.getM 0 rfl)),(Yz hC 0 rfl),hC.below⟩ (.inl rfl)
 ·skip
  exact⟨u7,(slq rfl),hC⟩
def Zhr (a0:List (List Int)) (p1:(List Int)→(Bool→Prop)→Prop) (K:Int→Prop):Prop :=
 Yb (fun i10 (s10:Unit) nx10=>p1 (a0.getD i10 ZEx) (fun r10=>(if r10=true then K (i10:Int) else nx10 ()))) (fun (s10:Unit)=>K (-1)) a0.length 0 ()
theorem ZA0 (a0:List (List Int)) (p1:(List Int)→(Bool→Prop)→Prop)  {K:Int→Prop} (h:Zhr a0 p1 K) (w0:World) (q0:(ZO5.sl).rep a0 [u0_0] fp0 w0) {g1:Nat} {cp1:List Value} {fn1:Func} (hf1:ZMq.funcs[g1]? = some fn1) (hb1:fn1.body.isNone=false) (hn1:(fn1.name == "runtime.NumGoroutine")=false) (hp1:∀ (y0:List Int) (yu0_0:Value) (yf0:List Nat) (K_:Bool→Prop) (w_:World),Bel w0 w_→ZO5.rep y0 [yu0_0] yf0 w_→p1 y0 K_→Calls ZMq g1 (ZMl ([yu0_0]++cp1)) w_ fun e w'=>∃ (z0:Bool),e=.returned (.bool z0)∧K_ z0∧Bel w_ w') :
  Calls ZMq 141 #[u0_0,.func (.func g1) #[] (ZMl cp1)] w0 fun e w'=>∃ (r0:Int),
   e=.returned (vI r0)∧K r0∧Bel w0 w':=by
 unfold Zhr at h
 refine cof Tryz.func141 rfl 19 Tryz.ntmps141 ?_
 have hC:=ZM8 (X:=Nox) w0 [ZMm (ZO5.sl) a0 [u0_0] fp0] (al1 q0)
 refine sr (Zc (v:=vI 0) rfl (dn (ZMn (sr (Za (v:=u0_0) rfl (Zv hC 0 rfl ZT8 rfl (Za (v:=vI 0) rfl (dn (ZMt ?_)))))))))
 have hN10:a0.length≤9223372036854775807:=Yx (hC.getP 0 rfl)
 refine Yn (S:=Unit) _ _ (fun i10 s10 e_ w_=>Zt e_ [(0,u0_0),(1,.func (.func g1) #[] (ZMl cp1)),(7,vI (a0.length:Int)),(8,vI (i10:Int))]∧Ctx Nox w0 w_ [] [ZMm (ZO5.sl) a0 [u0_0] fp0]) a0.length ?_ ?_ (s0:=()) ?_ h
 ·clear hC h
  rintro i10 s10 e_ w10 nx10 K10 hi10 ⟨hS_,hC⟩ h hK10
  rw [ue hS_]
  refine sr (Zn rfl rfl (dn (ZMn (Yc rfl (decide_eq_true (by omega)) (ZMr (Zd (ZMn (ZMt (sr (Za (v:=vI (i10:Int)) rfl (Zc (v:=vI (i10:Int)) rfl (dn (sr (Za (v:=.func (.func g1) #[] (ZMl cp1)) rfl (Za (v:=u0_0) rfl (Za (v:=vI (i10:Int)) rfl ?_))))))))))))))))
  obtain ⟨Ad10,c10,hv10⟩:=Zw (hC.getP 0 rfl) i10 hi10
  refine Yo (len:=a0.length) ZT8 sc22.size (tr rfl hv10) rfl (ZM3 _) (ZNl.2 hi10) ?_
  obtain ⟨cs_,hl10,hc10,hr10⟩:=Xj (hC.getP 0 rfl) hv10 i10 hi10
  obtain ⟨u10,rfl⟩:=ZNj.1 hl10
  clear hl10
  rw [Xl _ _ hi10] at hr10
  replace hC:=hC.derive 0 rfl (ZMm TInts (a0.getD i10 ZEx) [u10] fp0) (fun _=>hr10) (fun _ hb_=>hb_)
  refine Yl (u10) hc10 sc22 rfl ?_
  refine Zle [u10] _ rfl hf1 hb1 hn1 rfl (hp1 _ _ _ _ _ hC.below (hC.getP 0 rfl) h) (fun ret10 w11 hR10=>?_)
  obtain ⟨r10,rfl,h,hB10⟩:=hR10
  refine⟨_,rfl,?_⟩
  replace hC:=hC.grow hB10
  refine dn ?_
  refine Zp rfl (fun hb10=>?_) (fun hb10=>?_)
  ·replace h:=ift h (hb10)
   refine sr (Za (v:=vI (i10:Int)) rfl (Zc (v:=vI (i10:Int)) rfl (dn ?_)))
   refine ZMv (Z4 (Zk (Zk (Z4 (Zk ?_)))))
   exact Zi rfl (Ze rfl) ⟨(i10:Int),rfl,h,hC.below⟩ (.inl rfl)
  ·replace h:=Zj h (Xa hb10)
   refine ZMr (Zq (Zd (Zg (Zo rfl rfl (Za (v:=vI (ZHd.wrap ((i10:Int)+1))) rfl (done ?_))))))
   exact hK10 () _ _ ⟨(sl ⟨rfl,rfl,rfl,(tr rfl (congrArg _ (Z6 hi10 hN10))),trivial⟩),(hC.sP [1] rfl)⟩ h
 ·clear hC h
  rintro s10 e_ w12 K10 ⟨hS_,hC⟩ h
  rw [ue hS_]
  refine sr (Zn rfl rfl (dn (ZMn (Z2 rfl (decide_eq_false (by omega)) ?_))))
  refine ZM1 (Zh (Zh (Zy ?_)))
  refine Zd (sr (Zc (v:=vI (-1)) rfl (dn (ZMv ?_))))
  exact Zi rfl (Ze rfl) ⟨(-1),rfl,h,hC.below⟩ (.inl rfl)
 ·skip
  exact⟨(slq rfl),hC⟩
def Zhs (a0:Int) (K:Int→Prop):Prop :=
 Xh (fun (s6:Int×Int×Int) next7=>(if s6.2.2 > 0 then(if ZFo s6.2.2 2=1 then next7 (ZFo (ZHd.wrap (s6.1 * s6.1)) 10007,ZFo (ZHd.wrap (s6.2.1 * s6.1)) 10007,ZHd.wrap (ZTb s6.2.2 2)) else next7 (ZFo (ZHd.wrap (s6.1 * s6.1)) 10007,s6.2.1,ZHd.wrap (ZTb s6.2.2 2))) else K s6.2.1)) (a0,1,10005)
theorem ZA1 (a0:Int)  {K:Int→Prop} (h:Zhs a0 K) (w0:World)  :
  Calls ZMq 143 #[vI a0] w0 fun e w'=>∃ (r0:Int),
   e=.returned (vI r0)∧K r0∧Bel w0 w':=by
 unfold Zhs at h
 refine cof Tryz.func143 rfl 21 Tryz.ntmps143 ?_
 have hC:=ZM8 (X:=Nox) w0 [] (by simp)
 refine sr (Zc (v:=vI 0) rfl (dn (sr (Zc (v:=vI 1) rfl (dn (ZMn (sr (Zc (v:=vI 10005) rfl (dn (ZMt ?_))))))))))
 refine X2 (S:=Int×Int×Int) _ (fun s6 e_ w_=>Zt e_ [(0,vI s6.1),(3,vI s6.2.1),(4,vI s6.2.2)]∧Ctx Nox w0 w_ [] []) ?_ (s0:=(a0,1,10005)) ?_ h
 ·clear hC h
  rintro s6 e_ w10 next7 K8 ⟨hS_,hC⟩ h hK9
  rw [ue hS_]
  refine ZMn (sr (Za (v:=vI s6.2.2) rfl (Jh rfl rfl (dn ?_))))
  refine Zp rfl (fun hb10=>?_) (fun hb10=>?_)
  ·replace h:=ift h (ct hb10)
   refine ZMr (Zd (ZMn (ZMt (ZMn (sr (Za (v:=vI s6.2.2) rfl (Xr rfl rfl (by decide) (Jg rfl rfl (dn ?_)))))))))
   refine Zp rfl (fun hb11=>?_) (fun hb11=>?_)
   ·replace h:=ift h (ct hb11)
    refine Zg (Za (v:=vI s6.2.1) rfl (Za (v:=vI s6.1) rfl (Js rfl rfl (Xr rfl rfl (by decide) (Zc (v:=vI (ZFo (ZHd.wrap (s6.2.1 * s6.1)) 10007)) rfl (dn (Zg (Za (v:=vI s6.1) rfl (Za (v:=vI s6.1) rfl (Js rfl rfl (Xr rfl rfl (by decide) (Zc (v:=vI (ZFo (ZHd.wrap (s6.1 * s6.1)) 10007)) rfl (done (Zq (Zd (Zg (Za (v:=vI s6.2.2) rfl (Zeu rfl rfl (by decide) (Zc (v:=vI (ZHd.wrap (ZTb s6.2.2 2))) rfl (done ?_))))))))))))))))))))
    exact hK9 (ZFo (ZHd.wrap (s6.1 * s6.1)) 10007,ZFo (ZHd.wrap (s6.2.1 * s6.1)) 10007,ZHd.wrap (ZTb s6.2.2 2)) _ _ ⟨(slq rfl),hC⟩ h
   ·replace h:=Zj h (cf hb11)
    refine ZMr (Zd (Zg (Za (v:=vI s6.1) rfl (Za (v:=vI s6.1) rfl (Js rfl rfl (Xr rfl rfl (by decide) (Zc (v:=vI (ZFo (ZHd.wrap (s6.1 * s6.1)) 10007)) rfl (done (Zq (Zd (Zg (Za (v:=vI s6.2.2) rfl (Zeu rfl rfl (by decide) (Zc (v:=vI (ZHd.wrap (ZTb s6.2.2 2))) rfl (done ?_)))))))))))))))
    exact hK9 (ZFo (ZHd.wrap (s6.1 * s6.1)) 10007,s6.2.1,ZHd.wrap (ZTb s6.2.2 2)) _ _ ⟨(slq rfl),hC⟩ h
  ·replace h:=Zj h (cf hb10)
   refine ZM1 (Zh (Zh (Zy ?_)))
   refine Zd (sr (Za (v:=vI s6.2.1) rfl (Zc (v:=vI s6.2.1) rfl (dn (ZMv ?_)))))
   exact Zi rfl (Ze rfl) ⟨s6.2.1,rfl,h,hC.below⟩ (.inl rfl)
 ·skip
  exact⟨(slq rfl),hC⟩
def Zb0 (a0:List (List Int)) (K:List (List Int)→Prop):Prop :=
 Yb (fun i10 (s13:(List (List Int))) nx12=>Zhq (a0.getD i10 ZEx) (fun r11=>(Z7 (s13.length+1) 24∧nx12 (s13++[r11])))) (fun (s13:(List (List Int)))=>Xh (fun (s10:(List (List Int))×Int×Int) nx11=>(if s10.2.1 < (s10.1.length:Int) then((0≤(0:Int)∧(0:Int) < (s10.1.length:Int))∧(if s10.2.2 < ((s10.1.getD 0 ZEx).length:Int) then((0≤s10.2.1∧s10.2.1≤(s10.1.length:Int))∧Zhr (s10.1.drop s10.2.1.toNat) (fun y0_ K_=>Zdm y0_ s10.2.2 K_) (fun r10=>(if r10 < 0 then nx11 (s10.1,s10.2.1,ZHd.wrap (s10.2.2+1)) else((0≤ZHd.wrap (s10.2.1+r10)∧ZHd.wrap (s10.2.1+r10) < (s10.1.length:Int))∧((0≤s10.2.1∧s10.2.1 < (s10.1.length:Int))∧((0≤s10.2.1∧s10.2.1 < (s10.1.length:Int))∧((0≤ZHd.wrap (s10.2.1+r10)∧ZHd.wrap (s10.2.1+r10) < (s10.1.length:Int))∧((0≤s10.2.1∧s10.2.1 < ((Y6 ZEx s10.1 s10.2.1.toNat ((ZHd.wrap (s10.2.1+r10)).toNat)).length:Int))∧((0≤s10.2.2∧s10.2.2 < (((Y6 ZEx s10.1 s10.2.1.toNat ((ZHd.wrap (s10.2.1+r10)).toNat)).getD s10.2.1.toNat ZEx).length:Int))∧Zhs (((Y6 ZEx s10.1 s10.2.1.toNat ((ZHd.wrap (s10.2.1+r10)).toNat)).getD s10.2.1.toNat ZEx).getD s10.2.2.toNat ZEx) (fun r12=>((0≤s10.2.1∧s10.2.1 < ((Y6 ZEx s10.1 s10.2.1.toNat ((ZHd.wrap (s10.2.1+r10)).toNat)).length:Int))∧Xh (fun (s12:(List (List Int))×Int) nx13=>(if s12.2 < (((Y6 ZEx s10.1 s10.2.1.toNat ((ZHd.wrap (s10.2.1+r10)).toNat)).getD s10.2.1.toNat ZEx).length:Int) then((0≤s10.2.1∧s10.2.1 < (s12.1.length:Int))∧((0≤s10.2.1∧s10.2.1 < (s12.1.length:Int))∧((0≤s12.2∧s12.2 < ((s12.1.getD s10.2.1.toNat ZEx).length:Int))∧((0≤s12.2∧s12.2 < ((s12.1.getD s10.2.1.toNat ZEx).length:Int))∧nx13 (s12.1.set s10.2.1.toNat ((s12.1.getD s10.2.1.toNat ZEx).set s12.2.toNat (ZFo (ZHd.wrap (((s12.1.getD s10.2.1.toNat ZEx).getD s12.2.toNat ZEx) * r12)) 10007)),ZHd.wrap (s12.2+1)))))) else Xh (fun (s11:(List (List Int))×Int) nx10=>(if s11.2 < (s12.1.length:Int) then((0≤s11.2∧s11.2 < (s11.1.length:Int))∧(if s11.2≠s10.2.1 then((0≤s10.2.2∧s10.2.2 < ((s11.1.getD s11.2.toNat ZEx).length:Int))∧(if(s11.1.getD s11.2.toNat ZEx).getD s10.2.2.toNat ZEx≠0 then((0≤s10.2.1∧s10.2.1 < (s11.1.length:Int))∧((0≤s10.2.2∧s10.2.2 < ((s11.1.getD s11.2.toNat ZEx).length:Int))∧((s10.2.1.toNat≠s11.2.toNat)∧Zfo (s11.1.getD s11.2.toNat ZEx) (s11.1.getD s10.2.1.toNat ZEx) ((s11.1.getD s11.2.toNat ZEx).getD s10.2.2.toNat ZEx) (fun m10=>nx10 (s11.1.set s11.2.toNat m10,ZHd.wrap (s11.2+1)))))) else nx10 (s11.1,ZHd.wrap (s11.2+1)))) else nx10 (s11.1,ZHd.wrap (s11.2+1)))) else nx11 (s11.1,ZHd.wrap (s10.2.1+1),ZHd.wrap (s10.2.2+1)))) (s12.1,0))) (Y6 ZEx s10.1 s10.2.1.toNat ((ZHd.wrap (s10.2.1+r10)).toNat),0)))))))))))) else((0≤s10.2.1∧s10.2.1≤(s10.1.length:Int))∧K (s10.1.take s10.2.1.toNat)))) else((0≤s10.2.1∧s10.2.1≤(s10.1.length:Int))∧K (s10.1.take s10.2.1.toNat)))) (s13,0,0)) a0.length 0 []
theorem Zht (a0 : List (List Int))  {K : List (List Int) → Prop} (h : Zb0 a0 K) (w0 : World) (q0 : (ZO5.sl).rep a0 [u0_0] fp0 w0) :
  Calls ZMq 86 #[u0_0] w0 fun e w'=>∃ (r0:List (List Int)) (z0_0:Value) (fz0:List Nat),
   e=.returned (z0_0)∧K r0∧(ZM4 (ZTa 22 (ZTa 2 (eI.tr))) r0 [z0_0] fz0).holds w'∧(∀ b,b∈fz0→w0.heap.size≤b)∧Bel w0 w':=by
 unfold Zb0 at h
 refine cof ZXg rfl 132 Tryz.ntmps86 ?_
 have hC:=ZM8 (X:=Nox) w0 [ZMm (ZO5.sl) a0 [u0_0] fp0] (al1 q0)
 refine sr (Zc (v:=.slice none 0 0) rfl (dn (sr (Y4 (sz:=1) hC [] [] rfl (fun _=>Zbz _) rfl (by decide) fun b2 w3 hB_ hC=>?_))))
 replace hC:=hC.pushM0 (Yj (ZTa 2 (eI.tr)) ([]:List (List Int)) [] []) (Zat _ _) rfl
 replace hC:=hC.gather (c:=ZM4 (ZTa 22 (ZTa 2 (eI.tr))) [] [.slice (some ⟨b2,0,none⟩) 0 0] ((ZNm (ZFq (.slice (some ⟨b2,0,none⟩) 0 0)))++([]:List (List Nat)).flatten)) (fun x_ hx_=>(ZE4.1 hx_).symm) (fun h1_ h2_ hd_=>Zah h2_ h1_ (fun b_ hb_ hb2_=>hd_ b_ hb2_ hb_))
 refine Zc (v:=.slice (some ⟨b2,0,none⟩) 0 0) rfl (dn (ZMn (sr (Za (v:=u0_0) rfl (Zv hC 0 rfl ZT8 rfl (Za (v:=vI 0) rfl (dn (ZMt ?_))))))))
 have hN10:a0.length≤9223372036854775807:=Yx (hC.getP 0 rfl)
 refine Yn (S:=(List (List Int))) _ _ (fun i10 s13 e_ w_=>∃ (v13:Value),∃ (f10:List Nat),Zt e_ [(3,v13),(14,u0_0),(15,vI (a0.length:Int)),(16,vI (i10:Int))]∧Ctx Nox w0 w_ [ZM4 (ZTa 22 (ZTa 2 (eI.tr))) s13 [v13] f10] [ZMm (ZO5.sl) a0 [u0_0] fp0]) a0.length ?_ ?_ (s0:=[]) ?_ h
 ·clear hC h
  rintro i10 s13 e_ w10 nx12 K10 hi10 ⟨v13,f10,hS_,hC⟩ h hK12
  rw [ue hS_]
  refine sr (Zn rfl rfl (dn (ZMn (Yc rfl (decide_eq_true (by omega)) (ZMr (Zd (ZMn (ZMt (sr ?_)))))))))
  obtain ⟨Ad11,c11,hv10⟩:=Zw (hC.getP 0 rfl) i10 hi10
  refine Yo (len:=a0.length) ZT8 sc22.size (tr rfl hv10) rfl (ZM3 _) (ZNl.2 hi10) ?_
  obtain ⟨cs_,hl10,hc10,hr10⟩:=Xj (hC.getP 0 rfl) hv10 i10 hi10
  obtain ⟨u11,rfl⟩:=ZNj.1 hl10
  clear hl10
  rw [Xl _ _ hi10] at hr10
  replace hC:=hC.derive 0 rfl (ZMm TInts (a0.getD i10 ZEx) [u11] fp0) (fun _=>hr10) (fun _ hb_=>hb_)
  refine Yl (u11) hc10 sc22 rfl (Zc (v:=u11) rfl (dn (Zg (Za (v:=v13) rfl (Za (v:=u11) rfl (Zf [u11] _ ZXl rfl rfl rfl (Zra (a0.getD i10 ZEx) h _ (hC.getP 0 rfl)) ?_))))))
  rintro _ w11 ⟨r11,u10,f14,rfl,h,hr11,hf13,hB10⟩
  refine rt ?_
  replace hC:=hC.push hB10 (ZM4 (ZTa 2 (eI.tr)) r11 [u10] f14) hr11 hf13
  obtain ⟨ho10,hf14⟩:=Xn (hC.getM 0 rfl).1
  subst hf14
  replace hC:=hC.recast (c:=own 2 1 u10 r11.length (eI.encs r11)) (fun _ h_=>h_) (fun _=>ho10)
  refine Y4 (sz:=1) hC [(0,u10)] [u10] rfl (fun _=>Zbe u10 (Ze7 (hC.getM 0 rfl)) _) rfl (by decide) fun b11 w12 hB_ hC=>?_
  replace hC:=hC.pushM0 (Yj (ZTa 2 (eI.tr)) [] [] []) (Zat _ _) rfl
  replace hC:=hC.sM [2,0,1,3] (M':=[own 2 1 u10 r11.length (eI.encs r11),Yj (ZTa 2 (eI.tr)) [] [] [],own 22 1 (.slice (some ⟨b11,0,none⟩) 1 1) 1 [u10],ZM4 (ZTa 22 (ZTa 2 (eI.tr))) s13 [v13] f10]) (by decide) rfl
  replace hC:=hC.gather (c:=Yj (ZTa 2 (eI.tr)) [r11] [u10] [(ZNm (ZFq u10))]) (fun x_ hx_=>Zgi hx_) (fun h1_ h2_ hd_=>Ze6 (c:=[u10]) (id (Xy h1_)) h2_ hd_)
  replace hC:=hC.sM [1,0,2] (M':=[own 22 1 (.slice (some ⟨b11,0,none⟩) 1 1) 1 [u10],Yj (ZTa 2 (eI.tr)) [r11] [u10] [(ZNm (ZFq u10))],ZM4 (ZTa 22 (ZTa 2 (eI.tr))) s13 [v13] f10]) (by decide) rfl
  replace hC:=hC.gather (c:=ZM4 (ZTa 22 (ZTa 2 (eI.tr))) [r11] [.slice (some ⟨b11,0,none⟩) 1 1] ((ZNm (ZFq (.slice (some ⟨b11,0,none⟩) 1 1)))++([(ZNm (ZFq u10))]:List (List Nat)).flatten)) (fun x_ hx_=>ZE4.1 hx_) (fun h1_ h2_ hd_=>Zah h1_ h2_ hd_)
  replace hC:=hC.sM [1,0] (M':=[ZM4 (ZTa 22 (ZTa 2 (eI.tr))) s13 [v13] f10,ZM4 (ZTa 22 (ZTa 2 (eI.tr))) [r11] [.slice (some ⟨b11,0,none⟩) 1 1] ((ZNm (ZFq (.slice (some ⟨b11,0,none⟩) 1 1)))++([(ZNm (ZFq u10))]:List (List Nat)).flatten)]) (by decide) rfl
  obtain ⟨hm10,h⟩:=h
  refine Zgh hC ZT8 Zbf rfl (by decide) (by decide) rfl rfl hm10 fun v16 f15 w13 hC=>Zc (v:=v16) rfl (done (Zq (Zd (Zg (Zo rfl rfl (Za (v:=vI (ZHd.wrap ((i10:Int)+1))) rfl (done ?_)))))))
  exact hK12 (s13++[r11]) _ _ ⟨v16,f15,(sl ⟨rfl,rfl,rfl,(tr rfl (congrArg _ (Z6 hi10 hN10))),trivial⟩),(hC.sP [1] rfl)⟩ h
 ·clear hC h
  rintro s13 e_ w14 K10 ⟨v13,f10,hS_,hC⟩ h
  rw [ue hS_]
  refine sr (Zn rfl rfl (dn (ZMn (Z2 rfl (decide_eq_false (by omega)) ?_))))
  refine ZM1 (Zh (Zh (Zy ?_)))
  refine Zd (sr (Zc (v:=vI 0) rfl (dn (ZMn (sr (Yk hC [vI 0] z3 rfl fun b13 w15 hB_ hC=>Zx (v:=vI 0) hC 0 [vI 0] [vI 0] rfl sc3.size rfl rfl rfl rfl rfl (ZMw rfl) rfl fun w16 hC=>dn (ZMt ?_)))))))
  refine X2 (S:=(List (List Int))×Int×Int) _ (fun s10 e_ w_=>∃ (v10:Value),∃ (f12:List Nat),∃ (b10:Nat),Zt e_ [(3,v10),(6,vI s10.2.1),(7,vQ b10)]∧Ctx Nox w0 w_ [blk b10 3 [vI s10.2.2],ZM4 (ZTa 22 (ZTa 2 (eI.tr))) s10.1 [v10] f12] [ZMm (ZO5.sl) a0 [u0_0] fp0]) ?_ (s0:=(s13,0,0)) ?_ h
  ·clear hC h
   rintro s10 e_ w17 nx11 K11 ⟨v10,f12,b10,hS_,hC⟩ h hK11
   rw [ue hS_]
   refine ZMn (ZMn ?_)
   refine cwd 10 Yi [0,0,2,7,15,31,31,95,223,479,1023,2047] [2,5,7,8,9] [0,1,3,4,5,6,7,8,9] (fun hM14 hM11 w18 hB_=>?_)
   replace hC:=hC.grow hB_
   refine bM 0 (vI s10.2.1) rfl hM11 (Zb 12 1) (bM 1 (v10) rfl hM11 (Zb 12 3) (bL 2 (vI (s10.1.length:Int)) rfl rfl hM14 (fun _ hB_=>by exact Zvw (hC.grow hB_) 1 rfl ZT8 rfl) (Zb 12 7) (bF 3 (.bool (decide (s10.2.1 < (s10.1.length:Int)))) rfl rfl hM11 (fun _=>by exact Zoh rfl rfl) (Zb 12 15) (bM 4 (.bool (decide (s10.2.1 < (s10.1.length:Int)))) rfl hM11 (Zb 12 31) ?_))))
   refine Y5 (decide (s10.2.1 < (s10.1.length:Int))) (fun hb10=>?_) (fun hb10=>?_)
   ·replace h := ift h (ct hb10)
    refine aL 5 (vI s10.2.2) rfl rfl (hM14 5 rfl) (Yd 4 30 rfl rfl hb10) (fun _ hB_=>by exact Ya (hC.grow hB_) 0 (vI s10.2.2) rfl sc3 rfl rfl) (Zb 12 63) (aF 6 (v10) rfl rfl (hM11 6 rfl) (Yd 4 30 rfl rfl hb10) (fun _=>by exact Zaj (v:=v10) rfl) (Zb 12 127) ?_)
    replace hC:=hC.sM [1,0] (M':=[ZM4 (ZTa 22 (ZTa 2 (eI.tr))) s10.1 [v10] f12,blk b10 3 [vI s10.2.2]]) (by decide) rfl
    obtain ⟨cs10,ho11,hf11⟩:=Zj0 (hC.getM 0 rfl)
    replace hC:=hC.recast (c:=mat eI 22 2 v10 cs10 s10.1) (fun x_ hx_=>by have e_:=hf11; exact e_ ▸ hx_) (fun _=>ho11)
    obtain ⟨⟨h13,h14⟩,h⟩:=h
    obtain ⟨g10,cap10,hv11⟩:=Zcc (hC.getM 0 rfl) (ZPl (ZGh _) (show 0 < s10.1.length by omega))
    refine aL 7 (.pointer (some ⟨g10,0 * 1,none⟩)) rfl rfl (hM14 7 rfl) (Yd 4 30 rfl rfl hb10) (fun _ hB_=>by exact Zba (0 * 1) ZT8 sc22.size (by exact tr rfl hv11) rfl h13 h14 rfl) (Zb 12 255) (aL 8 ((hd cs10 0)) rfl rfl (hM14 8 rfl) (Yd 4 30 rfl rfl hb10) (fun _ hB_=>by exact Y7 (hd cs10 0) (Zcz ((hC.grow hB_).getM 0 rfl) hv11 (show 0 < s10.1.length by omega)) sc22 rfl) (Zb 12 511) ?_)
    obtain ⟨Ad12,c12,hv28⟩:=Za6 (Zac (hC.getM 0 rfl) (show 0 < s10.1.length by omega))
    refine aL 9 (vI ((s10.1.getD 0 ZEx).length:Int)) rfl rfl (hM14 9 rfl) (Yd 4 30 rfl rfl hb10) (fun _ hB_=>by exact Zez ZM6 (by exact tr rfl hv28)) (Zb 12 1023) (Zz 10 (by decide) (by decide) (by kernel_rfl) (by kernel_rfl) rfl (Zl 4 30 rfl rfl hb10 (Zn rfl rfl (Z3 (v:=.bool (decide (s10.2.2 < ((s10.1.getD 0 ZEx).length:Int)))) (b:=true) (tr rfl (congrArg _ hb10)) rfl (done (Z0 (Zd ?_)))))))
    refine Zp rfl (fun hb12=>?_) (fun hb12=>?_)
    ·replace h:=ift h (ct hb12)
     refine ZMr (Zd (ZMn (ZMt (sr (Za (v:=v10) rfl (Za (v:=vI s10.2.1) rfl ?_))))))
     obtain ⟨h10,h⟩:=h
     obtain ⟨Ad10,c10,hv12,hcap10⟩:=Zzu (hC.getM 0 rfl)
     refine Zqw ZT8 sc22.size (tr rfl hv12) rfl h10.1 h10.2 (Zlg (g:=142) [vQ b10] (Zlf rfl rfl) (Zf [sliced Ad10 s10.2.1.toNat s10.1.length c10 1,.func (.func 142) #[] (ZMl [vQ b10])] _ Tryz.func141 rfl rfl rfl (ZA0 (s10.1.drop s10.2.1.toNat) (fun y0_ K_=>Zdm y0_ s10.2.2 K_) h _ (Zqu (Zzm (hC.getM 0 rfl)) hv12 (show _≤_ by omega) hcap10) Tryz.func142 rfl rfl (fun y0_ yu0_0_ yf0_ K_ w_ hb_ rq0_ hq_=>ZAy y0_ s10.2.2 hq_ w_ rq0_ ((hC.grow hb_).getM 1 rfl))) ?_))
     rintro _ w19 ⟨r10,rfl,h,hB11⟩
     refine rt ?_
     replace hC:=hC.grow hB11
     refine Zc (v:=vI r10) rfl (dn (ZMn (sr (Za (v:=vI r10) rfl (Zn rfl rfl (dn ?_))))))
     refine Zp rfl (fun hb13=>?_) (fun hb13=>?_)
     ·replace h:=ift h (ct hb13)
      refine ZM1 (Zh (Zy ?_))
      refine Zd (ZMn (sr (Z5 hC 1 (vI s10.2.2) rfl sc3 rfl rfl (dn (Zg (Yk hC [vI 0] z3 rfl fun b12 w20 hB_ hC=>Zx (v:=vI s10.2.2) hC 0 [vI s10.2.2] [vI s10.2.2] rfl sc3.size rfl rfl rfl rfl rfl (ZMw rfl) rfl fun w21 hC=>dn (Zg (Z5 hC 0 (vI s10.2.2) rfl sc3 rfl rfl (Zo rfl rfl (Zx (v:=vI (ZHd.wrap (s10.2.2+1))) hC 0 [vI (ZHd.wrap (s10.2.2+1))] [vI (ZHd.wrap (s10.2.2+1))] rfl sc3.size rfl rfl rfl rfl rfl (ZMw rfl) rfl fun w22 hC=>done ?_))))))))))
      replace hC:=hC.sM [1,0,2] (M':=[mat eI 22 2 v10 cs10 s10.1,blk b12 3 [vI (ZHd.wrap (s10.2.2+1))],blk b10 3 [vI s10.2.2]]) (by decide) rfl
      replace hC:=hC.recast (c:=ZM4 (ZTa 22 (ZTa 2 (eI.tr))) s10.1 [v10] (Jn v10 cs10)) (fun x_ hx_=>hx_) (fun h_=>Zcy h_)
      rw [← hf11] at hC
      exact hK11 (s10.1,s10.2.1,ZHd.wrap (s10.2.2+1)) _ _ ⟨v10,f12,b12,(slq rfl),(hC.xM [1,0] rfl)⟩ h
     ·replace h:=Zj h (cf hb13)
      refine ZMr (Zd (ZMn ?_))
      refine cwd 17 Yi [0,0,0,0,0,24,0,0,0,384,960,1984,0,0,12288,28672,65475,131011,262143,524287] [10,11,14,15,16] [0,1,2,3,4,5,6,7,8,9,12,13] (fun hM15 hM10 w23 hB_=>?_)
      replace hC:=hC.grow hB_
      refine bM 0 (v10) rfl hM10 (Zb 20 1) (bM 1 (vI s10.2.1) rfl hM10 (Zb 20 3) (bM 2 (v10) rfl hM10 (Zb 20 7) (bM 3 (vI s10.2.1) rfl hM10 (Zb 20 15) (bM 4 (vI r10) rfl hM10 (Zb 20 31) (bF 5 (vI (ZHd.wrap (s10.2.1+r10))) rfl rfl hM10 (fun _=>by exact Zc4 rfl rfl) (Zb 20 63) (bM 6 (v10) rfl hM10 (Zb 20 127) (bM 7 (vI s10.2.1) rfl hM10 (Zb 20 255) (bM 8 (vI r10) rfl hM10 (Zb 20 511) (bF 9 (vI (ZHd.wrap (s10.2.1+r10))) rfl rfl hM10 (fun _=>by exact Zc4 rfl rfl) (Zb 20 1023) ?_)))))))))
      obtain ⟨⟨h15,h16⟩,h⟩:=h
      obtain ⟨g11,cap11,hv13⟩:=Zcc (hC.getM 0 rfl) (ZPl (ZGh _) (show (ZHd.wrap (s10.2.1+r10)).toNat < s10.1.length by omega))
      refine bL 10 (.pointer (some ⟨g11,(ZHd.wrap (s10.2.1+r10)).toNat * 1,none⟩)) rfl rfl hM15 (fun _ hB_=>by exact Zba ((ZHd.wrap (s10.2.1+r10)).toNat * 1) ZT8 sc22.size (by exact tr rfl hv13) rfl h15 h16 rfl) (Zb 20 2047) (bL 11 ((hd cs10 ((ZHd.wrap (s10.2.1+r10)).toNat))) rfl rfl hM15 (fun _ hB_=>by exact Y7 (hd cs10 ((ZHd.wrap (s10.2.1+r10)).toNat)) (Zcz ((hC.grow hB_).getM 0 rfl) hv13 (show (ZHd.wrap (s10.2.1+r10)).toNat < s10.1.length by omega)) sc22 rfl) (Zb 20 4095) (bM 12 (v10) rfl hM10 (Zb 20 8191) (bM 13 (vI s10.2.1) rfl hM10 (Zb 20 16383) ?_)))
      obtain ⟨⟨h17,h18⟩,h⟩:=h
      obtain ⟨g12,cap12,hv14⟩:=Zcc (hC.getM 0 rfl) (ZPl (ZGh _) (show s10.2.1.toNat < s10.1.length by omega))
      refine bL 14 (.pointer (some ⟨g12,s10.2.1.toNat * 1,none⟩)) rfl rfl hM15 (fun _ hB_=>by exact Zba (s10.2.1.toNat * 1) ZT8 sc22.size (by exact tr rfl hv14) rfl h17 h18 rfl) (Zb 20 32767) (bL 15 ((hd cs10 s10.2.1.toNat)) rfl rfl hM15 (fun _ hB_=>by exact Y7 (hd cs10 s10.2.1.toNat) (Zcz ((hC.grow hB_).getM 0 rfl) hv14 (show s10.2.1.toNat < s10.1.length by omega)) sc22 rfl) (Zb 20 65535) ?_)
      obtain ⟨⟨h19,h20⟩,h⟩:=h
      obtain ⟨g13,cap13,hv15⟩:=Zcc (hC.getM 0 rfl) (ZPl (ZGh _) (show s10.2.1.toNat < s10.1.length by omega))
      refine bL 16 (.pointer (some ⟨g13,s10.2.1.toNat * 1,none⟩)) rfl rfl hM15 (fun _ hB_=>by exact Zba (s10.2.1.toNat * 1) ZT8 sc22.size (by exact tr rfl hv15) rfl h19 h20 rfl) (Zb 20 131071) (aO 17 rfl (Zzr hC 0 rfl (show s10.2.1.toNat < s10.1.length by omega) (show (ZHd.wrap (s10.2.1+r10)).toNat < s10.1.length by omega) hv15 sc22.size rfl rfl fun w24 hC=>done (Zf6 (by decide) (l9:=(Zb 20 262143)) (by kernel_rfl) (Zz 18 (by decide) (by decide) (by kernel_rfl) (by kernel_rfl) rfl ?_))))
      obtain ⟨⟨h21,h22⟩,h⟩:=h
      obtain ⟨g20,cap14,hv16⟩:=Zzq (hC.getM 0 rfl) (ZPl (ZGh _) (show (ZHd.wrap (s10.2.1+r10)).toNat < s10.1.length by omega))
      refine Jz ((ZHd.wrap (s10.2.1+r10)).toNat * 1) ZT8 sc22.size (tr rfl hv16) rfl h21 h22 rfl (Zzs hC 0 rfl (show s10.2.1.toNat < s10.1.length by omega) (show (ZHd.wrap (s10.2.1+r10)).toNat < s10.1.length by omega) hv16 sc22.size rfl rfl fun w25 hC=>done (Z0 (Zd (ZMn ?_))))
      refine cwd 5 Yi [0,0,3,7,0,31,63,127,255] [2,3,4] [0,1] (fun hM18 hM19 w26 hB_=>?_)
      replace hC:=hC.grow hB_
      refine bM 0 (v10) rfl hM19 (Zb 9 1) (bM 1 (vI s10.2.1) rfl hM19 (Zb 9 3) ?_)
      obtain ⟨⟨h23,h24⟩,h⟩:=h
      obtain ⟨g14,cap15,hv17⟩:=Zcc (hC.getM 0 rfl) (ZPl (ZGh _) (show s10.2.1.toNat < (Y6 ZEx s10.1 s10.2.1.toNat ((ZHd.wrap (s10.2.1+r10)).toNat)).length by omega))
      refine bL 2 (.pointer (some ⟨g14,s10.2.1.toNat * 1,none⟩)) rfl rfl hM18 (fun _ hB_=>by exact Zba (s10.2.1.toNat * 1) ZT8 sc22.size (by exact tr rfl hv17) rfl h23 h24 rfl) (Zb 9 7) (bL 3 ((hd (Y6 undef cs10 s10.2.1.toNat ((ZHd.wrap (s10.2.1+r10)).toNat)) s10.2.1.toNat)) rfl rfl hM18 (fun _ hB_=>by exact Y7 (hd (Y6 undef cs10 s10.2.1.toNat ((ZHd.wrap (s10.2.1+r10)).toNat)) s10.2.1.toNat) (Zcz ((hC.grow hB_).getM 0 rfl) hv17 (show s10.2.1.toNat < (Y6 ZEx s10.1 s10.2.1.toNat ((ZHd.wrap (s10.2.1+r10)).toNat)).length by omega)) sc22 rfl) (Zb 9 15) (bL 4 (vI s10.2.2) rfl rfl hM18 (fun _ hB_=>by exact Ya (hC.grow hB_) 1 (vI s10.2.2) rfl sc3 rfl rfl) (Zb 9 31) (Zz 5 (by decide) (by decide) (by kernel_rfl) (by kernel_rfl) rfl ?_)))
      obtain ⟨⟨h25,h26⟩,h⟩:=h
      obtain ⟨g21,cap16,hv18⟩:=Jp (Zac (hC.getM 0 rfl) (show s10.2.1.toNat < (Y6 ZEx s10.1 s10.2.1.toNat ((ZHd.wrap (s10.2.1+r10)).toNat)).length by omega)) (ZPl (ZGh _) (show s10.2.2.toNat < ((Y6 ZEx s10.1 s10.2.1.toNat ((ZHd.wrap (s10.2.1+r10)).toNat)).getD s10.2.1.toNat ZEx).length by omega))
      refine Jz (s10.2.2.toNat * 1) ZM6 sc2.size (tr rfl hv18) rfl h25 h26 rfl (Yl (vI (((Y6 ZEx s10.1 s10.2.1.toNat ((ZHd.wrap (s10.2.1+r10)).toNat)).getD s10.2.1.toNat ZEx).getD s10.2.2.toNat ZEx)) (Zb3 (Zac (hC.getM 0 rfl) (show s10.2.1.toNat < (Y6 ZEx s10.1 s10.2.1.toNat ((ZHd.wrap (s10.2.1+r10)).toNat)).length by omega)) hv18 s10.2.2.toNat (show s10.2.2.toNat < ((Y6 ZEx s10.1 s10.2.1.toNat ((ZHd.wrap (s10.2.1+r10)).toNat)).getD s10.2.1.toNat ZEx).length by omega)) sc2 rfl (Zf [vI (((Y6 ZEx s10.1 s10.2.1.toNat ((ZHd.wrap (s10.2.1+r10)).toNat)).getD s10.2.1.toNat ZEx).getD s10.2.2.toNat ZEx)] _ Tryz.func143 rfl rfl rfl (ZA1 (((Y6 ZEx s10.1 s10.2.1.toNat ((ZHd.wrap (s10.2.1+r10)).toNat)).getD s10.2.1.toNat ZEx).getD s10.2.2.toNat ZEx) h _) ?_))
      rintro _ w27 ⟨r12,rfl,h,hB12⟩
      refine rt ?_
      replace hC:=hC.grow hB12
      refine Zc (v:=vI r12) rfl (done (Z0 (Zd (ZMn (sr (Za (v:=v10) rfl (Za (v:=vI s10.2.1) rfl ?_)))))))
      obtain ⟨⟨h27,h28⟩,h⟩:=h
      obtain ⟨g22,cap17,hv19⟩:=Zcc (hC.getM 0 rfl) (ZPl (ZGh _) (show s10.2.1.toNat < (Y6 ZEx s10.1 s10.2.1.toNat ((ZHd.wrap (s10.2.1+r10)).toNat)).length by omega))
      refine Jz (s10.2.1.toNat * 1) ZT8 sc22.size (tr rfl hv19) rfl h27 h28 rfl (Yl (hd (Y6 undef cs10 s10.2.1.toNat ((ZHd.wrap (s10.2.1+r10)).toNat)) s10.2.1.toNat) (Zcz (hC.getM 0 rfl) hv19 (show s10.2.1.toNat < (Y6 ZEx s10.1 s10.2.1.toNat ((ZHd.wrap (s10.2.1+r10)).toNat)).length by omega)) sc22 rfl ?_)
      obtain ⟨Ad13,c13,hv29⟩:=Za6 (Zac (hC.getM 0 rfl) (show s10.2.1.toNat < (Y6 ZEx s10.1 s10.2.1.toNat ((ZHd.wrap (s10.2.1+r10)).toNat)).length by omega))
      refine Zc6 ZM6 (tr rfl hv29) (Za (v:=vI 0) rfl (dn (ZMt ?_)))
      replace hC:=hC.recast (c:=ZM4 (ZTa 22 (ZTa 2 (eI.tr))) (Y6 ZEx s10.1 s10.2.1.toNat ((ZHd.wrap (s10.2.1+r10)).toNat)) [v10] (Jn v10 (Y6 undef cs10 s10.2.1.toNat ((ZHd.wrap (s10.2.1+r10)).toNat)))) (fun x_ hx_=>hx_) (fun h_=>Zcy h_)
      refine X2 (S:=(List (List Int))×Int) _ (fun s12 e_ w_=>∃ (v12:Value),∃ (f13:List Nat),Zt e_ [(3,v12),(6,vI s10.2.1),(7,vQ b10),(9,vI r12),(77,vI (((Y6 ZEx s10.1 s10.2.1.toNat ((ZHd.wrap (s10.2.1+r10)).toNat)).getD s10.2.1.toNat ZEx).length:Int)),(78,vI s12.2)]∧Ctx Nox w0 w_ [ZM4 (ZTa 22 (ZTa 2 (eI.tr))) s12.1 [v12] f13,blk b10 3 [vI s10.2.2]] [ZMm (ZO5.sl) a0 [u0_0] fp0]) ?_ (s0:=(Y6 ZEx s10.1 s10.2.1.toNat ((ZHd.wrap (s10.2.1+r10)).toNat),0)) ?_ h
      ·clear hC h
       rintro s12 e_ w28 nx13 K12 ⟨v12,f13,hS_,hC⟩ h hK13
       rw [ue hS_]
       refine sr (Zn rfl rfl (dn (ZMn ?_)))
       refine Zp rfl (fun hb14=>?_) (fun hb14=>?_)
       ·replace h:=ift h (ct hb14)
        refine ZMr (Zd (ZMn (ZMt (sr (Za (v:=vI s12.2) rfl (Zc (v:=vI s12.2) rfl (dn ?_)))))))
        refine cwd 15 Yi [0,0,3,7,0,0,0,96,224,0,992,2016,0,8160,16352,32767,65535] [2,3,7,8,10,11] [0,1,4,5,6,9,12,13,14] (fun hM13 hM12 w29 hB_=>?_)
        replace hC:=hC.grow hB_
        refine bM 0 (v12) rfl hM12 (Zb 17 1) (bM 1 (vI s10.2.1) rfl hM12 (Zb 17 3) ?_)
        obtain ⟨cs12,ho12,hf12⟩:=Zj0 (hC.getM 0 rfl)
        replace hC:=hC.recast (c:=mat eI 22 2 v12 cs12 s12.1) (fun x_ hx_=>by have e_:=hf12; exact e_ ▸ hx_) (fun _=>ho12)
        obtain ⟨⟨h29,h30⟩,h⟩:=h
        obtain ⟨g15,cap18,hv20⟩:=Zcc (hC.getM 0 rfl) (ZPl (ZGh _) (show s10.2.1.toNat < s12.1.length by omega))
        refine bL 2 (.pointer (some ⟨g15,s10.2.1.toNat * 1,none⟩)) rfl rfl hM13 (fun _ hB_=>by exact Zba (s10.2.1.toNat * 1) ZT8 sc22.size (by exact tr rfl hv20) rfl h29 h30 rfl) (Zb 17 7) (bL 3 ((hd cs12 s10.2.1.toNat)) rfl rfl hM13 (fun _ hB_=>by exact Y7 (hd cs12 s10.2.1.toNat) (Zcz ((hC.grow hB_).getM 0 rfl) hv20 (show s10.2.1.toNat < s12.1.length by omega)) sc22 rfl) (Zb 17 15) (bM 4 (vI s12.2) rfl hM12 (Zb 17 31) (bM 5 (v12) rfl hM12 (Zb 17 63) (bM 6 (vI s10.2.1) rfl hM12 (Zb 17 127) ?_))))
        obtain ⟨⟨h31,h32⟩,h⟩:=h
        obtain ⟨g16,cap19,hv21⟩:=Zcc (hC.getM 0 rfl) (ZPl (ZGh _) (show s10.2.1.toNat < s12.1.length by omega))
        refine bL 7 (.pointer (some ⟨g16,s10.2.1.toNat * 1,none⟩)) rfl rfl hM13 (fun _ hB_=>by exact Zba (s10.2.1.toNat * 1) ZT8 sc22.size (by exact tr rfl hv21) rfl h31 h32 rfl) (Zb 17 255) (bL 8 ((hd cs12 s10.2.1.toNat)) rfl rfl hM13 (fun _ hB_=>by exact Y7 (hd cs12 s10.2.1.toNat) (Zcz ((hC.grow hB_).getM 0 rfl) hv21 (show s10.2.1.toNat < s12.1.length by omega)) sc22 rfl) (Zb 17 511) (bM 9 (vI s12.2) rfl hM12 (Zb 17 1023) ?_))
        obtain ⟨⟨h33,h34⟩,h⟩:=h
        obtain ⟨g17,cap20,hv22⟩:=Jp (Zac (hC.getM 0 rfl) (show s10.2.1.toNat < s12.1.length by omega)) (ZPl (ZGh _) (show s12.2.toNat < (s12.1.getD s10.2.1.toNat ZEx).length by omega))
        refine bL 10 (.pointer (some ⟨g17,s12.2.toNat * 1,none⟩)) rfl rfl hM13 (fun _ hB_=>by exact Zba (s12.2.toNat * 1) ZM6 sc2.size (by exact tr rfl hv22) rfl h33 h34 rfl) (Zb 17 2047) (bL 11 (vI ((s12.1.getD s10.2.1.toNat ZEx).getD s12.2.toNat ZEx)) rfl rfl hM13 (fun _ hB_=>by exact Y7 (vI ((s12.1.getD s10.2.1.toNat ZEx).getD s12.2.toNat ZEx)) (Zb3 (Zac ((hC.grow hB_).getM 0 rfl) (show s10.2.1.toNat < s12.1.length by omega)) hv22 s12.2.toNat (show s12.2.toNat < (s12.1.getD s10.2.1.toNat ZEx).length by omega)) sc2 rfl) (Zb 17 4095) (bM 12 (vI r12) rfl hM12 (Zb 17 8191) (bF 13 (vI (ZHd.wrap (((s12.1.getD s10.2.1.toNat ZEx).getD s12.2.toNat ZEx) * r12))) rfl rfl hM12 (fun _=>by exact Zcj rfl rfl) (Zb 17 16383) (bF 14 (vI (ZFo (ZHd.wrap (((s12.1.getD s10.2.1.toNat ZEx).getD s12.2.toNat ZEx) * r12)) 10007)) rfl rfl hM12 (fun _=>by exact Zof rfl rfl (by decide)) (Zb 17 32767) (Zz 15 (by decide) (by decide) (by kernel_rfl) (by kernel_rfl) rfl ?_)))))
        obtain ⟨⟨h35,h36⟩,h⟩:=h
        obtain ⟨g23,cap21,hv23⟩:=Jp (Zac (hC.getM 0 rfl) (show s10.2.1.toNat < s12.1.length by omega)) (ZPl (ZGh _) (show s12.2.toNat < (s12.1.getD s10.2.1.toNat ZEx).length by omega))
        refine Jz (s12.2.toNat * 1) ZM6 sc2.size (tr rfl hv23) rfl h35 h36 rfl (Zzo hC 0 (ZFo (ZHd.wrap (((s12.1.getD s10.2.1.toNat ZEx).getD s12.2.toNat ZEx) * r12)) 10007) rfl (show s10.2.1.toNat < s12.1.length by omega) hv23 (show s12.2.toNat < (s12.1.getD s10.2.1.toNat ZEx).length by omega) sc2.size rfl rfl rfl fun w30 hC=>done (Z0 (Zq (Zd (Zg (Zo rfl rfl (Za (v:=vI (ZHd.wrap (s12.2+1))) rfl (done ?_))))))))
        replace hC:=hC.recast (c:=ZM4 (ZTa 22 (ZTa 2 (eI.tr))) (s12.1.set s10.2.1.toNat ((s12.1.getD s10.2.1.toNat ZEx).set s12.2.toNat (ZFo (ZHd.wrap (((s12.1.getD s10.2.1.toNat ZEx).getD s12.2.toNat ZEx) * r12)) 10007))) [v12] (Jn v12 cs12)) (fun x_ hx_=>hx_) (fun h_=>Zcy h_)
        rw [← hf12] at hC
        exact hK13 (s12.1.set s10.2.1.toNat ((s12.1.getD s10.2.1.toNat ZEx).set s12.2.toNat (ZFo (ZHd.wrap (((s12.1.getD s10.2.1.toNat ZEx).getD s12.2.toNat ZEx) * r12)) 10007)),ZHd.wrap (s12.2+1)) _ _ ⟨v12,f13,(slq rfl),hC⟩ h
       ·replace h:=Zj h (cf hb14)
        refine ZM1 (Zh (Zh (Zy ?_)))
        refine Zd (ZMn (sr (Za (v:=v12) rfl (Zpk hC 0 rfl ZT8 rfl (Za (v:=vI 0) rfl (dn (ZMt ?_)))))))
        refine X2 (S:=(List (List Int))×Int) _ (fun s11 e_ w_=>∃ (v11:Value),∃ (f11:List Nat),Zt e_ [(3,v11),(6,vI s10.2.1),(7,vQ b10),(98,v11),(99,vI (s12.1.length:Int)),(100,vI s11.2)]∧Ctx Nox w0 w_ [ZM4 (ZTa 22 (ZTa 2 (eI.tr))) s11.1 [v11] f11,blk b10 3 [vI s10.2.2]] [ZMm (ZO5.sl) a0 [u0_0] fp0]) ?_ (s0:=(s12.1,0)) ?_ h
        ·clear hC h
         rintro s11 e_ w31 nx10 K13 ⟨v11,f11,hS_,hC⟩ h hK10
         rw [ue hS_]
         refine sr (Zn rfl rfl (dn (ZMn ?_)))
         refine Zp rfl (fun hb15=>?_) (fun hb15=>?_)
         ·replace h:=ift h (ct hb15)
          refine ZMr (Zd (ZMn (ZMt (sr (Za (v:=vI s11.2) rfl ?_)))))
          obtain ⟨cs11,ho13,hf10⟩:=Zj0 (hC.getM 0 rfl)
          replace hC:=hC.recast (c:=mat eI 22 2 v11 cs11 s11.1) (fun x_ hx_=>by have e_:=hf10; exact e_ ▸ hx_) (fun _=>ho13)
          obtain ⟨⟨h37,h38⟩,h⟩:=h
          obtain ⟨g24,cap22,hv24⟩:=Zcc (hC.getM 0 rfl) (ZPl (ZGh _) (show s11.2.toNat < s11.1.length by omega))
          refine Jz (s11.2.toNat * 1) ZT8 sc22.size (tr rfl hv24) rfl h37 h38 rfl (Yl (hd cs11 s11.2.toNat) (Zcz (hC.getM 0 rfl) hv24 (show s11.2.toNat < s11.1.length by omega)) sc22 rfl (Zc (v:=vI s11.2) rfl (Zc (v:=(hd cs11 s11.2.toNat)) rfl (dn (sr (Za (v:=vI s11.2) rfl (Za (v:=vI s10.2.1) rfl (Y2 rfl rfl (Za (v:=.bool (decide (s11.2≠s10.2.1))) rfl ?_)))))))))
          refine Y5 (decide (s11.2≠s10.2.1)) (fun hb11=>?_) (fun hb11=>?_)
          ·replace h:=ift h (ct hb11)
           refine Zl 3 108 rfl rfl hb11 (Za (v:=(hd cs11 s11.2.toNat)) rfl (Zl 3 108 rfl rfl hb11 (Z5 hC 1 (vI s10.2.2) rfl sc3 rfl rfl (Zl 3 108 rfl rfl hb11 ?_))))
           obtain ⟨⟨h39,h40⟩,h⟩:=h
           obtain ⟨g25,cap23,hv25⟩:=Jp (Zac (hC.getM 0 rfl) (show s11.2.toNat < s11.1.length by omega)) (ZPl (ZGh _) (show s10.2.2.toNat < (s11.1.getD s11.2.toNat ZEx).length by omega))
           refine Jz (s10.2.2.toNat * 1) ZM6 sc2.size (tr rfl hv25) rfl h39 h40 rfl (Zl 3 108 rfl rfl hb11 (Yl (vI ((s11.1.getD s11.2.toNat ZEx).getD s10.2.2.toNat ZEx)) (Zb3 (Zac (hC.getM 0 rfl) (show s11.2.toNat < s11.1.length by omega)) hv25 s10.2.2.toNat (show s10.2.2.toNat < (s11.1.getD s11.2.toNat ZEx).length by omega)) sc2 rfl (Zl 3 108 rfl rfl hb11 (Y2 rfl rfl (Z3 (v:=.bool (decide ((s11.1.getD s11.2.toNat ZEx).getD s10.2.2.toNat ZEx≠0))) (b:=true) (tr rfl (congrArg _ hb11)) rfl (dn ?_))))))
           refine Zp rfl (fun hb16=>?_) (fun hb16=>?_)
           ·replace h:=ift h (ct hb16)
            refine cwd 9 Yi [0,0,0,6,14,0,0,96,224,511] [3,4,6,7,8] [0,1,2,5] (fun hM16 hM17 w32 hB_=>?_)
            replace hC:=hC.grow hB_
            refine bM 0 ((hd cs11 s11.2.toNat)) rfl hM17 (Zb 10 1) (bM 1 (v11) rfl hM17 (Zb 10 3) (bM 2 (vI s10.2.1) rfl hM17 (Zb 10 7) ?_))
            obtain ⟨⟨h41,h42⟩,h⟩:=h
            obtain ⟨g18,cap24,hv26⟩:=Zcc (hC.getM 0 rfl) (ZPl (ZGh _) (show s10.2.1.toNat < s11.1.length by omega))
            refine bL 3 (.pointer (some ⟨g18,s10.2.1.toNat * 1,none⟩)) rfl rfl hM16 (fun _ hB_=>by exact Zba (s10.2.1.toNat * 1) ZT8 sc22.size (by exact tr rfl hv26) rfl h41 h42 rfl) (Zb 10 15) (bL 4 ((hd cs11 s10.2.1.toNat)) rfl rfl hM16 (fun _ hB_=>by exact Y7 (hd cs11 s10.2.1.toNat) (Zcz ((hC.grow hB_).getM 0 rfl) hv26 (show s10.2.1.toNat < s11.1.length by omega)) sc22 rfl) (Zb 10 31) (bM 5 ((hd cs11 s11.2.toNat)) rfl hM17 (Zb 10 63) (bL 6 (vI s10.2.2) rfl rfl hM16 (fun _ hB_=>by exact Ya (hC.grow hB_) 1 (vI s10.2.2) rfl sc3 rfl rfl) (Zb 10 127) ?_)))
            obtain ⟨⟨h43,h44⟩,h⟩:=h
            obtain ⟨g19,cap25,hv27⟩:=Jp (Zac (hC.getM 0 rfl) (show s11.2.toNat < s11.1.length by omega)) (ZPl (ZGh _) (show s10.2.2.toNat < (s11.1.getD s11.2.toNat ZEx).length by omega))
            refine bL 7 (.pointer (some ⟨g19,s10.2.2.toNat * 1,none⟩)) rfl rfl hM16 (fun _ hB_=>by exact Zba (s10.2.2.toNat * 1) ZM6 sc2.size (by exact tr rfl hv27) rfl h43 h44 rfl) (Zb 10 255) (bL 8 (vI ((s11.1.getD s11.2.toNat ZEx).getD s10.2.2.toNat ZEx)) rfl rfl hM16 (fun _ hB_=>by exact Y7 (vI ((s11.1.getD s11.2.toNat ZEx).getD s10.2.2.toNat ZEx)) (Zb3 (Zac ((hC.grow hB_).getM 0 rfl) (show s11.2.toNat < s11.1.length by omega)) hv27 s10.2.2.toNat (show s10.2.2.toNat < (s11.1.getD s11.2.toNat ZEx).length by omega)) sc2 rfl) (Zb 10 511) (Zz 9 (by decide) (by decide) (by kernel_rfl) (by kernel_rfl) rfl ?_))
            obtain ⟨hne10,h⟩:=h
            refine Zf [(hd cs11 s11.2.toNat),(hd cs11 s10.2.1.toNat),vI ((s11.1.getD s11.2.toNat ZEx).getD s10.2.2.toNat ZEx)] _ ZXm rfl rfl rfl (Zrb (s11.1.getD s11.2.toNat ZEx) (s11.1.getD s10.2.1.toNat ZEx) ((s11.1.getD s11.2.toNat ZEx).getD s10.2.2.toNat ZEx) h _ (Zac (hC.getM 0 rfl) (show s11.2.toNat < s11.1.length by omega)) (Y3 (Zac (hC.getM 0 rfl) (show s10.2.1.toNat < s11.1.length by omega))) (Zqm (hC.getM 0 rfl).2.2 (Zqt (hC.getM 0 rfl) (show s10.2.1.toNat < s11.1.length by omega)) (Zqt (hC.getM 0 rfl) (show s11.2.toNat < s11.1.length by omega)) hne10)) ?_
            rintro _ w33 ⟨m10,rfl,h,hm11,hB13⟩
            refine rt ?_
            replace hC:=hC.turnRow 0 rfl (show s11.2.toNat < s11.1.length by omega) hB13 hm11
            refine done (Z0 (Zq (Zd (Zg (Zo rfl rfl (Za (v:=vI (ZHd.wrap (s11.2+1))) rfl (done ?_)))))))
            replace hC:=hC.recast (c:=ZM4 (ZTa 22 (ZTa 2 (eI.tr))) (s11.1.set s11.2.toNat m10) [v11] (Jn v11 cs11)) (fun x_ hx_=>hx_) (fun h_=>Zcy h_)
            rw [← hf10] at hC
            exact hK10 (s11.1.set s11.2.toNat m10,ZHd.wrap (s11.2+1)) _ _ ⟨v11,f11,(slq rfl),hC⟩ h
           ·replace h:=Zj h (cf hb16)
            refine ZMr (Zq (Zd (Zg (Zo rfl rfl (Za (v:=vI (ZHd.wrap (s11.2+1))) rfl (done ?_))))))
            replace hC:=hC.recast (c:=ZM4 (ZTa 22 (ZTa 2 (eI.tr))) s11.1 [v11] (Jn v11 cs11)) (fun x_ hx_=>hx_) (fun h_=>Zcy h_)
            rw [← hf10] at hC
            exact hK10 (s11.1,ZHd.wrap (s11.2+1)) _ _ ⟨v11,f11,(slq rfl),hC⟩ h
          ·replace h:=Zj h (cf hb11)
           refine Zm (b:=false) 3 108 rfl (tr rfl (congrArg _ hb11)) (by decide) (Zm (b:=false) 3 108 rfl (tr rfl (congrArg _ hb11)) (by decide) (Zm (b:=false) 3 108 rfl (tr rfl (congrArg _ hb11)) (by decide) (Zm (b:=false) 3 108 rfl (tr rfl (congrArg _ hb11)) (by decide) (Zm (b:=false) 3 108 rfl (tr rfl (congrArg _ hb11)) (by decide) (Z3 (v:=.bool false) (b:=false) (tr rfl (congrArg _ hb11)) rfl (dn (Z2 rfl rfl (ZMr (Zq (Zd (Zg (Zo rfl rfl (Za (v:=vI (ZHd.wrap (s11.2+1))) rfl (done ?_))))))))))))))
           replace hC:=hC.recast (c:=ZM4 (ZTa 22 (ZTa 2 (eI.tr))) s11.1 [v11] (Jn v11 cs11)) (fun x_ hx_=>hx_) (fun h_=>Zcy h_)
           rw [← hf10] at hC
           exact hK10 (s11.1,ZHd.wrap (s11.2+1)) _ _ ⟨v11,f11,(slq rfl),hC⟩ h
         ·replace h:=Zj h (cf hb15)
          refine ZM1 (Zh (Zh (Zy ?_)))
          refine Zd (Zg (Za (v:=vI s10.2.1) rfl (Zo rfl rfl (Zc (v:=vI (ZHd.wrap (s10.2.1+1))) rfl (done (Zq (Zd (ZMn (sr (Z5 hC 1 (vI s10.2.2) rfl sc3 rfl rfl (dn (Zg (Yk hC [vI 0] z3 rfl fun b14 w34 hB_ hC=>Zx (v:=vI s10.2.2) hC 0 [vI s10.2.2] [vI s10.2.2] rfl sc3.size rfl rfl rfl rfl rfl (ZMw rfl) rfl fun w35 hC=>dn (Zg (Z5 hC 0 (vI s10.2.2) rfl sc3 rfl rfl (Zo rfl rfl (Zx (v:=vI (ZHd.wrap (s10.2.2+1))) hC 0 [vI (ZHd.wrap (s10.2.2+1))] [vI (ZHd.wrap (s10.2.2+1))] rfl sc3.size rfl rfl rfl rfl rfl (ZMw rfl) rfl fun w36 hC=>done ?_)))))))))))))))))
          exact hK11 (s11.1,ZHd.wrap (s10.2.1+1),ZHd.wrap (s10.2.2+1)) _ _ ⟨v11,f11,b14,(slq rfl),(hC.xM [0,1] rfl)⟩ h
        ·skip
         exact⟨v12,f13,(slq rfl),hC⟩
      ·skip
       exact⟨v10,(Jn v10 (Y6 undef cs10 s10.2.1.toNat ((ZHd.wrap (s10.2.1+r10)).toNat))),(slq rfl),hC⟩
    ·replace h:=Zj h (cf hb12)
     refine ZM1 (Zh (Zh (Zy ?_)))
     refine Zd (sr (Za (v:=v10) rfl (Za (v:=vI s10.2.1) rfl ?_)))
     obtain ⟨h11,h⟩:=h
     refine Zqs hC 0 rfl ZT8 sc22.size rfl rfl h11.1 h11.2 fun v14 hC=>Zc (v:=v14) rfl (dn (ZMv ?_))
     replace hC:=hC.recast (c:=ZM4 (ZTa 22 (ZTa 2 (eI.tr))) (s10.1.take s10.2.1.toNat) [v14] (Jn v14 (cs10.take s10.2.1.toNat))) (fun x_ hx_=>hx_) (fun h_=>Zcy h_)
     exact Zi rfl (Ze rfl) ⟨s10.1.take s10.2.1.toNat,v14,(Jn v14 (cs10.take s10.2.1.toNat)),rfl,h,(hC.getM 0 rfl),(Zcn hC 0 rfl),hC.below⟩ (.inl rfl)
   ·replace h:=Zj h (cf hb10)
    refine Zr Zs 5 undef rfl rfl (by kernel_rfl) (hM11 5 rfl) (fun w_=>.inr ⟨Z8 (b:=false) 4 30 rfl (tr rfl (congrArg _ hb10)) (by decide),rfl⟩) (l9:=(Zb 12 63)) (by kernel_rfl) (Zr Zs 6 undef rfl rfl (by kernel_rfl) (hM11 6 rfl) (fun w_=>.inr ⟨Z8 (b:=false) 4 30 rfl (tr rfl (congrArg _ hb10)) (by decide),rfl⟩) (l9:=(Zb 12 127)) (by kernel_rfl) (Zr Zs 7 undef rfl rfl (by kernel_rfl) (hM11 7 rfl) (fun w_=>.inr ⟨Z8 (b:=false) 4 30 rfl (tr rfl (congrArg _ hb10)) (by decide),rfl⟩) (l9:=(Zb 12 255)) (by kernel_rfl) (Zr Zs 8 undef rfl rfl (by kernel_rfl) (hM11 8 rfl) (fun w_=>.inr ⟨Z8 (b:=false) 4 30 rfl (tr rfl (congrArg _ hb10)) (by decide),rfl⟩) (l9:=(Zb 12 511)) (by kernel_rfl) (Zr Zs 9 undef rfl rfl (by kernel_rfl) (hM11 9 rfl) (fun w_=>.inr ⟨Z8 (b:=false) 4 30 rfl (tr rfl (congrArg _ hb10)) (by decide),rfl⟩) (l9:=(Zb 12 1023)) (by kernel_rfl) (Zz 10 (by decide) (by decide) (by kernel_rfl) (by kernel_rfl) rfl (Zm (b:=false) 4 30 rfl (tr rfl (congrArg _ hb10)) (by decide) (Z3 (v:=.bool false) (b:=false) (tr rfl (congrArg _ hb10)) rfl (done (Z0 (Zd (Z2 rfl rfl ?_)))))))))))
    refine ZM1 (Zh (Zh (Zy ?_)))
    refine Zd (sr (Za (v:=v10) rfl (Za (v:=vI s10.2.1) rfl ?_)))
    replace hC:=hC.sM [1,0] (M':=[ZM4 (ZTa 22 (ZTa 2 (eI.tr))) s10.1 [v10] f12,blk b10 3 [vI s10.2.2]]) (by decide) rfl
    obtain ⟨cs13,ho14,hf15⟩:=Zj0 (hC.getM 0 rfl)
    replace hC:=hC.recast (c:=mat eI 22 2 v10 cs13 s10.1) (fun x_ hx_=>by have e_:=hf15; exact e_ ▸ hx_) (fun _=>ho14)
    obtain ⟨h12,h⟩:=h
    refine Zqs hC 0 rfl ZT8 sc22.size rfl rfl h12.1 h12.2 fun v15 hC=>Zc (v:=v15) rfl (dn (ZMv ?_))
    replace hC:=hC.recast (c:=ZM4 (ZTa 22 (ZTa 2 (eI.tr))) (s10.1.take s10.2.1.toNat) [v15] (Jn v15 (cs13.take s10.2.1.toNat))) (fun x_ hx_=>hx_) (fun h_=>Zcy h_)
    exact Zi rfl (Ze rfl) ⟨s10.1.take s10.2.1.toNat,v15,(Jn v15 (cs13.take s10.2.1.toNat)),rfl,h,(hC.getM 0 rfl),(Zcn hC 0 rfl),hC.below⟩ (.inl rfl)
  ·skip
   exact⟨v13,f10,b13,(slq rfl),hC⟩
 ·skip
  exact⟨.slice (some ⟨b2,0,none⟩) 0 0,((ZNm (ZFq (.slice (some ⟨b2,0,none⟩) 0 0)))++([]:List (List Nat)).flatten),(slq rfl),hC⟩
def Zhu (a0:List Int) (K:Bool→Prop):Prop :=
 Zel a0 (fun r5=>K (decide (r5 < 0)))
theorem ZA2 (a0:List Int)  {K:Bool→Prop} (h:Zhu a0 K) (w0:World) (q0:ZO5.rep a0 [u0_0] fp0 w0) :
  Calls ZMq 83 #[u0_0] w0 fun e w'=>∃ (r0:Bool),
   e=.returned (.bool r0)∧K r0∧Bel w0 w':=by
 unfold Zhu at h
 refine cof Tryz.func83 rfl 6 Tryz.ntmps83 ?_
 have hC:=ZM8 (X:=Nox) w0 [ZMm TInts a0 [u0_0] fp0] (al1 q0)
 refine sr (Zc (v:=.bool false) rfl (dn (sr (Za (v:=u0_0) rfl (Zf [u0_0] _ ZXk rfl rfl rfl (Zq9 a0 h _ (hC.getP 0 rfl)) ?_)))))
 rintro _ w4 ⟨r5,rfl,h,hB6⟩
 refine rt ?_
 replace hC:=hC.grow hB6
 refine Zn rfl rfl (Zc (v:=.bool (decide (r5 < 0))) rfl (dn (ZMv ?_)))
 exact Zi rfl (Ze rfl) ⟨decide (r5 < 0),rfl,h,hC.below⟩ (.inl rfl)
def Zhv (a1:Int) (K:List Int→Prop):Prop :=
 (¬ (a1 < 0)∧(if ZHd.wrap (a1 - (ZHd.wrap (0 - 0))) > 0 then((0≤ZHd.wrap (a1 - (ZHd.wrap (0 - 0)))∧Z7 (0+((ZHd.wrap (a1 - (ZHd.wrap (0 - 0)))).toNat)) 8)∧(((0:Int)≤0∧0≤((ZEs ((ZHd.wrap (a1 - (ZHd.wrap (0 - 0)))).toNat) (0:Int)).length:Int))∧K ((ZEs ((ZHd.wrap (a1 - (ZHd.wrap (0 - 0)))).toNat) (0:Int)).take 0))) else K []))
theorem ZA3 (a1:Int)  {K:List Int→Prop} (h:Zhv a1 K) (w0:World)  :
  Calls ZMq 198 #[.slice none 0 0,vI a1] w0 fun e w'=>∃ (r0:List Int) (z0_0:Value) (fz0:List Nat),
   e=.returned (z0_0)∧K r0∧(ZM4 (ZTa 2 (eI.tr)) r0 [z0_0] fz0).holds w'∧(∀ b,b∈fz0→w0.heap.size≤b)∧Bel w0 w':=by
 unfold Zhv at h
 refine cof Tryz.func198 rfl 27 Tryz.ntmps198 ?_
 have hC:=ZM8 (X:=Nox) w0 [] (by simp)
 refine sr (Zc (v:=.slice none 0 0) rfl (dn (ZMn (sr (Za (v:=vI a1) rfl (Zn rfl rfl (dn ?_)))))))
 obtain ⟨hb1,h⟩:=h
 refine Z2 rfl (decide_eq_false hb1) (ZMr (Zd (ZMn (sr (Za (v:=vI a1) rfl (Za (v:=.slice none 0 0) rfl (Zql ZM6 rfl (Za (v:=.slice none 0 0) rfl (Zc6 ZM6 rfl (Jx rfl rfl (Jx rfl rfl (Zc (v:=vI (ZHd.wrap (a1 - (ZHd.wrap (0 - 0))))) rfl (dn (sr (Za (v:=vI (ZHd.wrap (a1 - (ZHd.wrap (0 - 0))))) rfl (Jh rfl rfl (dn ?_)))))))))))))))))
 refine Zp rfl (fun hb2=>?_) (fun hb2=>?_)
 ·replace h:=ift h (ct hb2)
  refine Zg (Za (v:=.slice none 0 0) rfl (Za (v:=.slice none 0 0) rfl (Zql ZM6 rfl (Zze ZM6 sc2.size rfl rfl (Za (v:=vI (ZHd.wrap (a1 - (ZHd.wrap (0 - 0))))) rfl ?_)))))
  replace hC:=hC.pushNil 2 1
  obtain ⟨hm6,h⟩:=h
  refine Zy6 hC 0 ZM6 Tryz.underlying3 el2 rfl rfl (by decide) rfl rfl (tr rfl (congrArg (Value.int .i64) (ZPc hm6.1).symm)) hm6.2 fun v4 w5 hC=>?_
  replace hC:=Xb hC 0 ((ZEs ((ZHd.wrap (a1 - (ZHd.wrap (0 - 0)))).toNat) (0:Int)).length) (eI.encs (ZEs ((ZHd.wrap (a1 - (ZHd.wrap (0 - 0)))).toNat) (0:Int))) rfl (by simp) (Zzh _ [] _)
  refine Za (v:=.slice none 0 0) rfl (Zc6 ZM6 rfl ?_)
  obtain ⟨h0_7,h⟩:=h
  refine Zzd hC 0 rfl ZM6 sc2.size rfl rfl h0_7.1 h0_7.2 fun v8 hC=>?_
  replace hC:=Xb hC 0 (((ZEs ((ZHd.wrap (a1 - (ZHd.wrap (0 - 0)))).toNat) (0:Int)).take 0).length) (eI.encs ((ZEs ((ZHd.wrap (a1 - (ZHd.wrap (0 - 0)))).toNat) (0:Int)).take 0)) rfl (List.length_take_of_le (by omega)).symm (Enc.encs_take eI _ _)
  refine Zc (v:=v8) rfl (dn (sr (Za (v:=v8) rfl (Zc (v:=v8) rfl (dn (ZMv ?_))))))
  exact Zi rfl (Ze rfl) ⟨(ZEs ((ZHd.wrap (a1 - (ZHd.wrap (0 - 0)))).toNat) (0:Int)).take 0,v8,(ZNm (ZFq v8)),rfl,h,(Xy (hC.getM 0 rfl)),(Yz hC 0 rfl),hC.below⟩ (.inl rfl)
 ·replace h:=Zj h (cf hb2)
  refine ZMr (Zd (sr (Za (v:=.slice none 0 0) rfl (Zc (v:=.slice none 0 0) rfl (dn (ZMv ?_))))))
  exact Zi rfl (Ze rfl) ⟨[],.slice none 0 0,[],rfl,h,(Zda _ _ _),(fun b hb=>absurd hb (by simp)),hC.below⟩ (.inl rfl)
def Zhw (a0:List (List Int)) (K:List Int→Prop):Prop :=
 Yb (fun i10 (s10:Int) nx10=>(¬ (ZHd.wrap (s10+((a0.getD i10 ZEx).length:Int)) < 0)∧nx10 (ZHd.wrap (s10+((a0.getD i10 ZEx).length:Int))))) (fun (s10:Int)=>Zhv s10 (fun r10=>Yb (fun i11 (s11:(List Int)) nx11=>(Z7 (s11.length+(a0.getD i11 ZEx).length) 8∧nx11 (s11++(a0.getD i11 ZEx)))) (fun (s11:(List Int))=>K s11) a0.length 0 r10)) a0.length 0 0
theorem ZA4 (a0:List (List Int))  {K:List Int→Prop} (h:Zhw a0 K) (w0:World) (q0:(ZO5.sl).rep a0 [u0_0] fp0 w0) :
  Calls ZMq 184 #[u0_0] w0 fun e w'=>∃ (r0:List Int) (z0_0:Value) (fz0:List Nat),
   e=.returned (z0_0)∧K r0∧(ZM4 (ZTa 2 (eI.tr)) r0 [z0_0] fz0).holds w'∧(∀ b,b∈fz0→w0.heap.size≤b)∧Bel w0 w':=by
 unfold Zhw at h
 refine cof Tryz.func184 rfl 36 Tryz.ntmps184 ?_
 have hC:=ZM8 (X:=Nox) w0 [ZMm (ZO5.sl) a0 [u0_0] fp0] (al1 q0)
 refine sr (Zc (v:=.slice none 0 0) rfl (dn (sr (Zc (v:=vI 0) rfl (dn (ZMn (sr (Za (v:=u0_0) rfl (Zv hC 0 rfl ZT8 rfl (Za (v:=vI 0) rfl (dn (ZMt ?_))))))))))))
 have hN10:a0.length≤9223372036854775807:=Yx (hC.getP 0 rfl)
 refine Yn (S:=Int) _ _ (fun i10 s10 e_ w_=>Zt e_ [(0,u0_0),(3,vI s10),(9,u0_0),(10,vI (a0.length:Int)),(11,vI (i10:Int))]∧Ctx Nox w0 w_ [] [ZMm (ZO5.sl) a0 [u0_0] fp0]) a0.length ?_ ?_ (s0:=0) ?_ h
 ·clear hC h
  rintro i10 s10 e_ w10 nx10 K10 hi10 ⟨hS_,hC⟩ h hK10
  rw [ue hS_]
  refine sr (Zn rfl rfl (dn (ZMn (Yc rfl (decide_eq_true (by omega)) (ZMr (Zd (ZMn (ZMt (sr ?_)))))))))
  obtain ⟨Ad10,c10,hv10⟩:=Zw (hC.getP 0 rfl) i10 hi10
  refine Yo (len:=a0.length) ZT8 sc22.size (tr rfl hv10) rfl (ZM3 _) (ZNl.2 hi10) ?_
  obtain ⟨cs_,hl10,hc10,hr10⟩:=Xj (hC.getP 0 rfl) hv10 i10 hi10
  obtain ⟨u10,rfl⟩:=ZNj.1 hl10
  clear hl10
  rw [Xl _ _ hi10] at hr10
  replace hC:=hC.derive 0 rfl (ZMm TInts (a0.getD i10 ZEx) [u10] fp0) (fun _=>hr10) (fun _ hb_=>hb_)
  refine Yl (u10) hc10 sc22 rfl (Zc (v:=u10) rfl (dn (sr (Za (v:=vI s10) rfl (Za (v:=u10) rfl (Zv hC 0 rfl ZM6 rfl (Zo rfl rfl (Zc (v:=vI (ZHd.wrap (s10+((a0.getD i10 ZEx).length:Int)))) rfl (dn (sr (Za (v:=vI (ZHd.wrap (s10+((a0.getD i10 ZEx).length:Int)))) rfl (Zn rfl rfl (dn ?_)))))))))))))
  obtain ⟨hb10,h⟩:=h
  refine Z2 rfl (decide_eq_false hb10) (ZMr (Zq (Zd (Zg (Zo rfl rfl (Za (v:=vI (ZHd.wrap ((i10:Int)+1))) rfl (done ?_)))))))
  exact hK10 (ZHd.wrap (s10+((a0.getD i10 ZEx).length:Int))) _ _ ⟨(sl ⟨rfl,rfl,rfl,rfl,(tr rfl (congrArg _ (Z6 hi10 hN10))),trivial⟩),(hC.sP [1] rfl)⟩ h
 ·clear hC h
  rintro s10 e_ w11 K10 ⟨hS_,hC⟩ h
  rw [ue hS_]
  refine sr (Zn rfl rfl (dn (ZMn (Z2 rfl (decide_eq_false (by omega)) ?_))))
  refine ZM1 (Zh (Zh (Zy ?_)))
  refine Zd (sr (Za (v:=vI s10) rfl (Zf [.slice none 0 0,vI s10] _ Tryz.func198 rfl rfl rfl (ZA3 s10 h _) ?_)))
  rintro _ w12 ⟨r10,u11,f10,rfl,h,hr12,hf10,hB10⟩
  refine rt ?_
  replace hC:=hC.push hB10 (ZM4 (ZTa 2 (eI.tr)) r10 [u11] f10) hr12 hf10
  obtain ⟨ho10,hf11⟩:=Xn (hC.getM 0 rfl).1
  subst hf11
  replace hC:=hC.recast (c:=own 2 1 u11 r10.length (eI.encs r10)) (fun _ h_=>h_) (fun _=>ho10)
  refine Zc (v:=u11) rfl (dn (ZMn (sr (Za (v:=u0_0) rfl (Zv hC 0 rfl ZT8 rfl (Za (v:=vI 0) rfl (dn (ZMt ?_))))))))
  have hN11:a0.length≤9223372036854775807:=Yx (hC.getP 0 rfl)
  refine Yn (S:=(List Int)) _ _ (fun i11 s11 e_ w_=>∃ (v10:Value),Zt e_ [(6,v10),(25,u0_0),(26,vI (a0.length:Int)),(27,vI (i11:Int))]∧Ctx Nox w0 w_ [own 2 1 v10 s11.length (eI.encs s11)] [ZMm (ZO5.sl) a0 [u0_0] fp0]) a0.length ?_ ?_ (s0:=r10) ?_ h
  ·clear hC h
   rintro i11 s11 e_ w13 nx11 K11 hi11 ⟨v10,hS_,hC⟩ h hK11
   rw [ue hS_]
   refine sr (Zn rfl rfl (dn (ZMn (Yc rfl (decide_eq_true (by omega)) (ZMr (Zd (ZMn (ZMt (sr ?_)))))))))
   obtain ⟨Ad11,c11,hv11⟩:=Zw (hC.getP 0 rfl) i11 hi11
   refine Yo (len:=a0.length) ZT8 sc22.size (tr rfl hv11) rfl (ZM3 _) (ZNl.2 hi11) ?_
   obtain ⟨cs_,hl11,hc11,hr11⟩:=Xj (hC.getP 0 rfl) hv11 i11 hi11
   obtain ⟨u12,rfl⟩:=ZNj.1 hl11
   clear hl11
   rw [Xl _ _ hi11] at hr11
   replace hC:=hC.derive 0 rfl (ZMm TInts (a0.getD i11 ZEx) [u12] fp0) (fun _=>hr11) (fun _ hb_=>hb_)
   refine Yl (u12) hc11 sc22 rfl (Zc (v:=u12) rfl (dn (Zg (Za (v:=v10) rfl (Za (v:=u12) rfl ?_)))))
   obtain ⟨hm10,h⟩:=h
   refine J7 hC 0 ZM6 el2 rfl (by decide) (by decide) rfl (Zoy (hC.getP 0 rfl)) (fun q hq=>Enc.encs_one' (E:=eI) _ q hq) rfl rfl hm10 fun v11 w14 hC=>?_
   replace hC:=Xb hC 0 ((s11++(a0.getD i11 ZEx)).length) (eI.encs (s11++(a0.getD i11 ZEx))) rfl (by simp) (by first | (simp [ZNf]; done) | simp [ZNf,Enc.encs])
   refine Zc (v:=v11) rfl (done (Zq (Zd (Zg (Zo rfl rfl (Za (v:=vI (ZHd.wrap ((i11:Int)+1))) rfl (done ?_)))))))
   exact hK11 (s11++(a0.getD i11 ZEx)) _ _ ⟨v11,(sl ⟨rfl,rfl,rfl,(tr rfl (congrArg _ (Z6 hi11 hN11))),trivial⟩),(hC.sP [1] rfl)⟩ h
  ·clear hC h
   rintro s11 e_ w15 K11 ⟨v10,hS_,hC⟩ h
   rw [ue hS_]
   refine sr (Zn rfl rfl (dn (ZMn (Z2 rfl (decide_eq_false (by omega)) ?_))))
   refine ZM1 (Zh (Zh (Zy ?_)))
   refine Zd (sr (Za (v:=v10) rfl (Zc (v:=v10) rfl (dn (ZMv ?_)))))
   exact Zi rfl (Ze rfl) ⟨s11,v10,(ZNm (ZFq v10)),rfl,h,(Xy (hC.getM 0 rfl)),(Yz hC 0 rfl),hC.below⟩ (.inl rfl)
  ·skip
   exact⟨u11,(slq rfl),hC⟩
 ·skip
  exact⟨(slq rfl),hC⟩
def Zhx (a0:List (List Int)) (a1:Int) (K:List (List Int)→Prop):Prop :=
 Yb (fun i10 (s11:(List (List Int))) nx11=>((0≤(a0.length:Int)∧(a0.length:Int) * 8≤281474976710656)∧((0≤(i10:Int)∧(i10:Int) < ((ZEs ((a0.length:Int).toNat) (0:Int)).length:Int))∧Zhw [(a0.getD i10 ZEx),(ZEs ((a0.length:Int).toNat) (0:Int)).set i10 1] (fun r11=>(Z7 (s11.length+1) 24∧nx11 (s11++[r11])))))) (fun (s11:(List (List Int)))=>Zb0 s11 (fun r10=>Yb (fun i11 (s10:(List (List Int))) nx10=>((0≤a1∧a1≤((r10.getD i11 ZEx).length:Int))∧Zhu ((r10.getD i11 ZEx).take a1.toNat) (fun r13=>(if r13=true then((0≤a1∧a1≤((r10.getD i11 ZEx).length:Int))∧(Z7 (s10.length+1) 24∧nx10 (s10++[(r10.getD i11 ZEx).drop a1.toNat]))) else nx10 s10)))) (fun (s10:(List (List Int)))=>Zb0 s10 (fun r12=>K r12)) r10.length 0 [])) a0.length 0 []
theorem ZA5 (a0:List (List Int)) (a1:Int)  {K:List (List Int)→Prop} (h:Zhx a0 a1 K) (w0:World) (q0:(ZO5.sl).rep a0 [u0_0] fp0 w0) :
  Calls ZMq 136 #[u0_0,vI a1] w0 fun e w'=>∃ (r0:List (List Int)) (z0_0:Value) (fz0:List Nat),
   e=.returned (z0_0)∧K r0∧(ZM4 (ZTa 22 (ZTa 2 (eI.tr))) r0 [z0_0] fz0).holds w'∧(∀ b,b∈fz0→w0.heap.size≤b)∧Bel w0 w':=by
 unfold Zhx at h
 refine cof Tryz.func136 rfl 57 Tryz.ntmps136 ?_
 have hC:=ZM8 (X:=Nox) w0 [ZMm (ZO5.sl) a0 [u0_0] fp0] (al1 q0)
 refine sr (Zc (v:=.slice none 0 0) rfl (dn (sr (Za (v:=u0_0) rfl (Zv hC 0 rfl ZT8 rfl (Y4 (sz:=1) hC [] [] rfl (fun _=>Zbz _) rfl (by decide) fun b5 w6 hB_ hC=>?_))))))
 replace hC:=hC.pushE (ZXd TInts [] [] []) (Zmq _ _) rfl
 refine Zc (v:=vI (a0.length:Int)) rfl (Zc (v:=.slice (some ⟨b5,0,none⟩) 0 0) rfl (dn (ZMn (sr (Za (v:=u0_0) rfl (Zv hC 1 rfl ZT8 rfl (Za (v:=vI 0) rfl (dn (ZMt ?_)))))))))
 have hN11:a0.length≤9223372036854775807:=Yx (hC.getP 1 rfl)
 refine Yn (S:=(List (List Int))) _ _ (fun i10 s11 e_ w_=>∃ (v12:Value),∃ (cs11:List Value),∃ (f12:List Nat),Zt e_ [(1,vI a1),(5,vI (a0.length:Int)),(6,v12),(16,u0_0),(17,vI (a0.length:Int)),(18,vI (i10:Int))]∧(∀ b,b∈f12→w0.heap.size≤b)∧Ctx Nox w0 w_ [own 22 1 v12 s11.length cs11] [ZXd TInts s11 cs11 f12,ZMm (ZO5.sl) a0 [u0_0] fp0]) a0.length ?_ ?_ (s0:=[]) ?_ h
 ·clear hC h
  rintro i10 s11 e_ w10 nx11 K10 hi11 ⟨v12,cs11,f12,hS_,hq11,hC⟩ h hK11
  rw [ue hS_]
  refine sr (Zn rfl rfl (dn (ZMn (Yc rfl (decide_eq_true (by omega)) (ZMr (Zd (ZMn (ZMt (sr (Za (v:=vI (i10:Int)) rfl ?_))))))))))
  obtain ⟨Ad12,c12,hv10⟩:=Zw (hC.getP 1 rfl) i10 hi11
  refine Yo (len:=a0.length) ZT8 sc22.size (tr rfl hv10) rfl (ZM3 _) (ZNl.2 hi11) ?_
  obtain ⟨cs_,hl10,hc10,hr10⟩:=Xj (hC.getP 1 rfl) hv10 i10 hi11
  obtain ⟨u11,rfl⟩:=ZNj.1 hl10
  clear hl10
  rw [Xl _ _ hi11] at hr10
  replace hC:=hC.derive 1 rfl (ZMm TInts (a0.getD i10 ZEx) [u11] fp0) (fun _=>hr10) (fun _ hb_=>hb_)
  refine Yl (u11) hc10 sc22 rfl (Zc (v:=vI (i10:Int)) rfl (Zc (v:=u11) rfl (dn (sr (Za (v:=vI (a0.length:Int)) rfl ?_)))))
  obtain ⟨hm10,h⟩:=h
  refine Zb2 (sz:=1) hC (eI.encs (ZEs ((a0.length:Int).toNat) (0:Int))) ZM6 el2 (tr rfl (congrArg (Value.int .i64) (ZPc hm10.1).symm)) (tr rfl (congrArg (Value.int .i64) (ZPc hm10.1).symm)) (by omega) (by omega) (Zbu (E:=eI) _ _) fun v10 w11 hB_ hC=>?_
  replace hC:=Xb hC 0 ((ZEs ((a0.length:Int).toNat) (0:Int)).length) (eI.encs (ZEs ((a0.length:Int).toNat) (0:Int))) rfl (by simp) rfl
  refine Zc (v:=v10) rfl (dn (sr (Za (v:=v10) rfl (Za (v:=vI (i10:Int)) rfl ?_))))
  obtain ⟨⟨h12,h13⟩,h⟩:=h
  obtain ⟨Ad13,c13,hv11⟩:=Jp (hC.getM 0 rfl) (ZPl (ZGh _) (show i10 < (ZEs ((a0.length:Int).toNat) (0:Int)).length by omega))
  refine Jz (i10 * 1) ZM6 sc2.size (tr rfl hv11) rfl h12 h13 rfl (Zc7 (v:=vI 1) hC 0 [vI 1] (eI.encs ((ZEs ((a0.length:Int).toNat) (0:Int)).set i10 1)) rfl hv11 sc2.size rfl rfl rfl rfl rfl (by rw [Enc.encs_len]; exact Zar (sz:=1) (show i10 < (ZEs ((a0.length:Int).toNat) (0:Int)).length by omega)) (Zc8 _ _ _ (show i10 < (ZEs ((a0.length:Int).toNat) (0:Int)).length by omega)) fun w12 hC=>?_)
  replace hC:=Xb hC 0 (((ZEs ((a0.length:Int).toNat) (0:Int)).set i10 1).length) (eI.encs ((ZEs ((a0.length:Int).toNat) (0:Int)).set i10 1)) rfl (by simp) rfl
  refine dn (Zg (Za (v:=v12) rfl (Za (v:=u11) rfl (Za (v:=v10) rfl ?_))))
  have hs10:=Yz hC 0 rfl
  replace hC:=hC.thaw 0 rfl (ZMm TInts ((ZEs ((a0.length:Int).toNat) (0:Int)).set i10 1) [v10] (ZNm (ZFq v10))) Y3 (fun _ hb_=>hb_)
  refine Y4 (sz:=1) hC [(0,u11),(1,v10)] [u11,v10] rfl (fun _=>ZAx u11 v10 (Zb5 (hC.getP 1 rfl)) (Zb5 (hC.getP 0 rfl)) _) rfl (by decide) fun b12 w13 hB_ hC=>?_
  have hf10:=Yz hC 0 rfl
  replace hC:=hC.joinP 1 0 rfl rfl (ZXd TInts [(a0.getD i10 ZEx),(ZEs ((a0.length:Int).toNat) (0:Int)).set i10 1] [u11,v10] (fp0++(ZNm (ZFq v10)))) (fun a_ b_=>Zzb a_ b_) (fun c_ hc_=>ZE4.1 hc_)
  replace hC:=hC.thaw 0 rfl (own 22 1 (.slice (some ⟨b12,0,none⟩) 2 2) 2 [u11,v10]) id (fun _ hb_=>hb_)
  replace hC:=hC.joinP 0 1 rfl rfl (ZMm (ZO5.sl) [(a0.getD i10 ZEx),(ZEs ((a0.length:Int).toNat) (0:Int)).set i10 1] [.slice (some ⟨b12,0,none⟩) 2 2] ((ZNm (ZFq (.slice (some ⟨b12,0,none⟩) 2 2)))++(fp0++(ZNm (ZFq v10))))) (fun a_ b_=>Zap a_ b_) (fun c_ hc_=>ZE4.1 hc_)
  have hs17:∀ b,b∈((ZNm (ZFq (.slice (some ⟨b12,0,none⟩) 2 2)))++(fp0++(ZNm (ZFq v10))))→w0.heap.size≤b∨b∈(fp0):=(fun b hb=>(ZE4.1 hb).elim (fun hb=>.inl (hf10 b hb)) (fun hb=>(ZE4.1 hb).elim (fun hb=>.inr hb) (fun hb=>.inl (hs10 b hb))))
  refine Zf [.slice (some ⟨b12,0,none⟩) 2 2] _ Tryz.func184 rfl rfl rfl (ZA4 [(a0.getD i10 ZEx),(ZEs ((a0.length:Int).toNat) (0:Int)).set i10 1] h _ (hC.getP 0 rfl)) ?_
  rintro _ w14 ⟨r11,u10,f14,rfl,h,hr12,hf11,hB10⟩
  refine rt ?_
  replace hC:=hC.push hB10 (ZM4 (ZTa 2 (eI.tr)) r11 [u10] f14) hr12 hf11
  obtain ⟨ho10,hf12⟩:=Xn (hC.getM 0 rfl).1
  subst hf12
  replace hC:=hC.recast (c:=own 2 1 u10 r11.length (eI.encs r11)) (fun _ h_=>h_) (fun _=>ho10)
  have hs11:=Yz hC 0 rfl
  replace hC:=hC.thaw 0 rfl (ZMm TInts r11 [u10] (ZNm (ZFq u10))) Y3 (fun _ hb_=>hb_)
  refine Y4 (sz:=1) hC [(0,u10)] [u10] rfl (fun _=>Zbe u10 (Zb5 (hC.getP 0 rfl)) _) rfl (by decide) fun b10 w15 hB_ hC=>?_
  have hf13:=Yz hC 0 rfl
  replace hC:=hC.thaw 0 rfl (own 22 1 (.slice (some ⟨b10,0,none⟩) 1 1) 1 [u10]) id (fun _ hb_=>hb_)
  replace hC:=hC.joinP 0 1 rfl rfl (ZMm (ZO5.sl) [r11] [.slice (some ⟨b10,0,none⟩) 1 1] ((ZNm (ZFq (.slice (some ⟨b10,0,none⟩) 1 1)))++(ZNm (ZFq u10)))) (fun a_ b_=>Zap a_ (Zdh b_)) (fun c_ hc_=>ZE4.1 hc_)
  have hs12:∀ b,b∈((ZNm (ZFq (.slice (some ⟨b10,0,none⟩) 1 1)))++(ZNm (ZFq u10)))→w0.heap.size≤b:=(fun b hb=>(ZE4.1 hb).elim (fun hb=>hf13 b hb) (fun hb=>hs11 b hb))
  obtain ⟨cs12,hd10,ha10⟩:=Zef (hC.getP 0 rfl)
  replace hC:=hC.derive 0 rfl (ZXd TInts [r11] cs12 ((ZNm (ZFq (.slice (some ⟨b10,0,none⟩) 1 1)))++(ZNm (ZFq u10)))) (fun _=>ha10) (fun _ h_=>h_)
  obtain ⟨hm11,h⟩:=h
  refine J7 hC 0 ZT8 Zbf rfl (by decide) (by decide) rfl hd10 (fun q_ hq_=>ha10.2.2.1 q_ hq_) rfl rfl hm11 fun v13 w16 hC=>?_
  replace hC:=Xb hC 0 ((s11++[r11]).length) (cs11++cs12) rfl (by simp) (by simp)
  have hs13:∀ b,b∈(f12++((ZNm (ZFq (.slice (some ⟨b10,0,none⟩) 1 1)))++(ZNm (ZFq u10))))→w0.heap.size≤b:=(fun b hb=>(ZE4.1 hb).elim (fun hb=>hq11 b hb) (fun hb=>hs12 b hb))
  replace hC:=hC.joinP 9 0 rfl rfl (ZXd TInts (s11++[r11]) (cs11++cs12) (f12++((ZNm (ZFq (.slice (some ⟨b10,0,none⟩) 1 1)))++(ZNm (ZFq u10))))) (fun a_ b_=>Zeg a_ b_) (fun c_ hc_=>ZE4.1 hc_)
  refine Zc (v:=v13) rfl (done (Zq (Zd (Zg (Zo rfl rfl (Za (v:=vI (ZHd.wrap ((i10:Int)+1))) rfl (done ?_)))))))
  exact hK11 (s11++[r11]) _ _ ⟨v13,cs11++cs12,(f12++((ZNm (ZFq (.slice (some ⟨b10,0,none⟩) 1 1)))++(ZNm (ZFq u10)))),(sl ⟨rfl,rfl,rfl,rfl,rfl,(tr rfl (congrArg _ (Z6 hi11 hN11))),trivial⟩),hs13,(hC.sP [0,11] rfl)⟩ h
 ·clear hC h
  rintro s11 e_ w17 K10 ⟨v12,cs11,f12,hS_,hq11,hC⟩ h
  rw [ue hS_]
  refine sr (Zn rfl rfl (dn (ZMn (Z2 rfl (decide_eq_false (by omega)) ?_))))
  refine ZM1 (Zh (Zh (Zy ?_)))
  refine Zd (sr (Y4 (sz:=1) hC [] [] rfl (fun _=>Zbz _) rfl (by decide) fun b13 w18 hB_ hC=>?_))
  replace hC:=hC.pushE (ZXd TInts [] [] []) (Zmq _ _) rfl
  refine Zc (v:=.slice (some ⟨b13,0,none⟩) 0 0) rfl (dn (ZMn (sr (Za (v:=v12) rfl (Zf [v12] _ ZXg rfl rfl rfl (Zht s11 h _ (Zap (hC.getM 1 rfl) (hC.getP 1 rfl))) ?_)))))
  rintro _ w19 ⟨r10,u13,f10,rfl,h,hr13,hf14,hB11⟩
  refine rt ?_
  replace hC:=hC.push hB11 (ZM4 (ZTa 22 (ZTa 2 (eI.tr))) r10 [u13] f10) hr13 hf14
  refine Zpk hC 0 rfl ZT8 rfl (Za (v:=vI 0) rfl (dn (ZMt ?_)))
  have hs14:=Zcn hC 0 rfl
  replace hC:=hC.thaw 0 rfl (ZMm (ZO5.sl) r10 [u13] f10) (fun h_=>ZXe _ h_.1) (fun _ hb_=>hb_)
  have hN10:r10.length≤9223372036854775807:=Yx (hC.getP 0 rfl)
  refine Yn (S:=(List (List Int))) _ _ (fun i11 s10 e_ w_=>∃ (v11:Value),∃ (cs10:List Value),∃ (f11:List Nat),Zt e_ [(1,vI a1),(10,v11),(38,u13),(39,vI (r10.length:Int)),(40,vI (i11:Int))]∧(∀ b,b∈f11→w0.heap.size≤b)∧Ctx Nox w0 w_ [own 22 1 v11 s10.length cs10] [ZXd TInts s10 cs10 f11,ZMm (ZO5.sl) r10 [u13] f10,ZMm (ZO5.sl) a0 [u0_0] fp0]) r10.length ?_ ?_ (s0:=[]) ?_ h
  ·clear hC h
   rintro i11 s10 e_ w20 nx10 K11 hi10 ⟨v11,cs10,f11,hS_,hq10,hC⟩ h hK10
   rw [ue hS_]
   refine sr (Zn rfl rfl (dn (ZMn (Yc rfl (decide_eq_true (by omega)) (ZMr (Zd (ZMn (ZMt (sr ?_)))))))))
   obtain ⟨Ad14,c14,hv12⟩:=Zw (hC.getP 1 rfl) i11 hi10
   refine Yo (len:=r10.length) ZT8 sc22.size (tr rfl hv12) rfl (ZM3 _) (ZNl.2 hi10) ?_
   obtain ⟨cs_,hl11,hc11,hr11⟩:=Xj (hC.getP 1 rfl) hv12 i11 hi10
   obtain ⟨u12,rfl⟩:=ZNj.1 hl11
   clear hl11
   rw [Xl _ _ hi10] at hr11
   replace hC:=hC.derive 1 rfl (ZMm TInts (r10.getD i11 ZEx) [u12] f10) (fun _=>hr11) (fun _ hb_=>hb_)
   refine Yl (u12) hc11 sc22 rfl (Zc (v:=u12) rfl (dn (sr (Za (v:=u12) rfl (Za (v:=vI a1) rfl ?_)))))
   obtain ⟨h10,h⟩:=h
   obtain ⟨Ad11,c11,hv13,hcap10⟩:=Zqv (hC.getP 0 rfl)
   refine Zzv ZM6 sc2.size (tr rfl hv13) rfl h10.1 h10.2 hcap10 ?_
   replace hC:=hC.derive 0 rfl (ZMm TInts ((r10.getD i11 ZEx).take a1.toNat) [(sliced Ad11 0 a1.toNat c11 1)] f10) (fun h_=>Zzt h_ hv13 (show _≤_ by omega) hcap10) (fun _ h_=>h_)
   refine Zf [(sliced Ad11 0 a1.toNat c11 1)] _ Tryz.func83 rfl rfl rfl (ZA2 ((r10.getD i11 ZEx).take a1.toNat) h _ (hC.getP 0 rfl)) ?_
   rintro _ w21 ⟨r13,rfl,h,hB12⟩
   refine rt ?_
   replace hC:=hC.grow hB12
   refine dn ?_
   refine Zp rfl (fun hb10=>?_) (fun hb10=>?_)
   ·replace h:=ift h (hb10)
    refine Zg (Za (v:=v11) rfl (Za (v:=u12) rfl (Za (v:=vI a1) rfl ?_)))
    obtain ⟨h11,h⟩:=h
    obtain ⟨Ad10,c10,hv14,hcap11⟩:=Zqv (hC.getP 1 rfl)
    refine Zqw ZM6 sc2.size (tr rfl hv14) rfl h11.1 h11.2 ?_
    replace hC:=hC.derive 1 rfl (ZMm TInts ((r10.getD i11 ZEx).drop a1.toNat) [(sliced Ad10 a1.toNat ((r10.getD i11 ZEx).length) c10 1)] f10) (fun h_=>Zqu h_ hv14 (show _≤_ by omega) hcap11) (fun _ h_=>h_)
    refine Y4 (sz:=1) hC [(0,(sliced Ad10 a1.toNat ((r10.getD i11 ZEx).length) c10 1))] [(sliced Ad10 a1.toNat ((r10.getD i11 ZEx).length) c10 1)] rfl (fun _=>Zbe (sliced Ad10 a1.toNat ((r10.getD i11 ZEx).length) c10 1) (Zb5 (hC.getP 0 rfl)) _) rfl (by decide) fun b11 w22 hB_ hC=>?_
    have hf15:=Yz hC 0 rfl
    replace hC:=hC.thaw 0 rfl (own 22 1 (.slice (some ⟨b11,0,none⟩) 1 1) 1 [(sliced Ad10 a1.toNat ((r10.getD i11 ZEx).length) c10 1)]) id (fun _ hb_=>hb_)
    replace hC:=hC.joinP 0 1 rfl rfl (ZMm (ZO5.sl) [(r10.getD i11 ZEx).drop a1.toNat] [.slice (some ⟨b11,0,none⟩) 1 1] ((ZNm (ZFq (.slice (some ⟨b11,0,none⟩) 1 1)))++f10)) (fun a_ b_=>Zap a_ (Zdh b_)) (fun c_ hc_=>ZE4.1 hc_)
    have hs15:∀ b,b∈((ZNm (ZFq (.slice (some ⟨b11,0,none⟩) 1 1)))++f10)→w0.heap.size≤b:=(fun b hb=>(ZE4.1 hb).elim (fun hb=>hf15 b hb) (fun hb=>hs14 b hb))
    obtain ⟨cs13,hd11,ha11⟩:=Zef (hC.getP 0 rfl)
    replace hC:=hC.derive 0 rfl (ZXd TInts [(r10.getD i11 ZEx).drop a1.toNat] cs13 ((ZNm (ZFq (.slice (some ⟨b11,0,none⟩) 1 1)))++f10)) (fun _=>ha11) (fun _ h_=>h_)
    obtain ⟨hm12,h⟩:=h
    refine J7 hC 0 ZT8 Zbf rfl (by decide) (by decide) rfl hd11 (fun q_ hq_=>ha11.2.2.1 q_ hq_) rfl rfl hm12 fun v14 w23 hC=>?_
    replace hC:=Xb hC 0 ((s10++[(r10.getD i11 ZEx).drop a1.toNat]).length) (cs10++cs13) rfl (by simp) (by simp)
    have hs16:∀ b,b∈(f11++((ZNm (ZFq (.slice (some ⟨b11,0,none⟩) 1 1)))++f10))→w0.heap.size≤b:=(fun b hb=>(ZE4.1 hb).elim (fun hb=>hq10 b hb) (fun hb=>hs15 b hb))
    replace hC:=hC.joinP 6 0 rfl rfl (ZXd TInts (s10++[(r10.getD i11 ZEx).drop a1.toNat]) (cs10++cs13) (f11++((ZNm (ZFq (.slice (some ⟨b11,0,none⟩) 1 1)))++f10))) (fun a_ b_=>Zeg a_ b_) (fun c_ hc_=>ZE4.1 hc_)
    refine Zc (v:=v14) rfl (done (Zq (Zd (Zg (Zo rfl rfl (Za (v:=vI (ZHd.wrap ((i11:Int)+1))) rfl (done ?_)))))))
    exact hK10 (s10++[(r10.getD i11 ZEx).drop a1.toNat]) _ _ ⟨v14,cs10++cs13,(f11++((ZNm (ZFq (.slice (some ⟨b11,0,none⟩) 1 1)))++f10)),(sl ⟨rfl,rfl,rfl,rfl,(tr rfl (congrArg _ (Z6 hi10 hN10))),trivial⟩),hs16,(hC.sP [0,8,9] rfl)⟩ h
   ·replace h:=Zj h (Xa hb10)
    refine ZMr (Zq (Zd (Zg (Zo rfl rfl (Za (v:=vI (ZHd.wrap ((i11:Int)+1))) rfl (done ?_))))))
    exact hK10 s10 _ _ ⟨v11,cs10,f11,(sl ⟨rfl,rfl,rfl,rfl,(tr rfl (congrArg _ (Z6 hi10 hN10))),trivial⟩),hq10,(hC.sP [2,3,4] rfl)⟩ h
  ·clear hC h
   rintro s10 e_ w24 K11 ⟨v11,cs10,f11,hS_,hq10,hC⟩ h
   rw [ue hS_]
   refine sr (Zn rfl rfl (dn (ZMn (Z2 rfl (decide_eq_false (by omega)) ?_))))
   refine ZM1 (Zh (Zh (Zy ?_)))
   refine Zd (sr (Za (v:=v11) rfl (Zf [v11] _ ZXg rfl rfl rfl (Zht s10 h _ (Zap (hC.getM 0 rfl) (hC.getP 0 rfl))) ?_)))
   rintro _ w25 ⟨r12,u14,f13,rfl,h,hr14,hf16,hB13⟩
   refine rt ?_
   replace hC:=hC.push hB13 (ZM4 (ZTa 22 (ZTa 2 (eI.tr))) r12 [u14] f13) hr14 hf16
   refine Zc (v:=u14) rfl (dn (ZMv ?_))
   have hf17:=Yz hC 1 rfl
   replace hC:=hC.thaw 1 rfl (own 22 1 v11 s10.length cs10) id (fun _ hb_=>hb_)
   replace hC:=hC.joinP 0 1 rfl rfl (ZMm (ZO5.sl) s10 [v11] ((ZNm (ZFq v11))++f11)) (fun a_ b_=>Zap a_ b_) (fun c_ hc_=>ZE4.1 hc_)
   have hs18:∀ b,b∈((ZNm (ZFq v11))++f11)→w0.heap.size≤b:=(fun b hb=>(ZE4.1 hb).elim (fun hb=>hf17 b hb) (fun hb=>hq10 b hb))
   exact Zi rfl (Ze rfl) ⟨r12,u14,f13,rfl,h,(hC.getM 0 rfl),(Zcn hC 0 rfl),hC.below⟩ (.inl rfl)
  ·skip
   exact⟨.slice (some ⟨b13,0,none⟩) 0 0,[],[],(slq rfl),(fun b hb=>absurd hb (by simp)),((hC.xM [0] rfl).sP [1,0,3] rfl)⟩
 ·skip
  exact⟨.slice (some ⟨b5,0,none⟩) 0 0,[],[],(slq rfl),(fun b hb=>absurd hb (by simp)),hC⟩
def Zj3 (C:Cx) (a0:Alg) (a1:Int) (K:Prop):Prop :=
 (Zho C a0 a1∧((Zek C a0.degrees (ZHd.wrap (a1+1))∧Zhx (C.MX a1) ((C.LV (ZHd.wrap (a1+1))).length:Int) (fun r14=>(r14=C.CL a1∧(if a1 > 0 then(Zho C a0 (ZHd.wrap (a1 - 1))∧Zb0 (C.MX (ZHd.wrap (a1 - 1))) (fun r15=>(r15=C.BD a1∧Yb (fun i10 (s10:(List (List Int))) nx10=>Zdo ((C.CL a1).getD i10 ZEx) (C.BD a1) (fun r10=>(Z7 (s10.length+1) 24∧nx10 (s10++[r10])))) (fun (s10:(List (List Int)))=>Zb0 s10 (fun r12=>(r12=C.KL a1∧K))) ((C.CL a1).length) 0 []))) else(C.BD a1=[]∧Yb (fun i11 (s11:(List (List Int))) nx11=>Zdo ((C.CL a1).getD i11 ZEx) (C.BD a1) (fun r11=>(Z7 (s11.length+1) 24∧nx11 (s11++[r11])))) (fun (s11:(List (List Int)))=>Zb0 s11 (fun r13=>(r13=C.KL a1∧K))) ((C.CL a1).length) 0 [])))))∧K))
theorem ZA6 (C:Cx) (a0:Alg) (a1:Int)  {K:Prop} (h:Zj3 C a0 a1 K) (w0:World) (q0:TAlg.rep a0 [u0_0,u0_1] fp0 w0) (qb0:(blk b0 32 [u0_0,u0_1]).holds w0) (qbp0:(blk bp0 198 [vQ b0,.map (some mb0)]).holds w0) (qx0:(cpx C 125 mb0 D0 F0).holds w0) (dq0:∀ b,b∈fp0→b∉(cpx C 125 mb0 D0 F0).fp) (db0:b0∉(cpx C 125 mb0 D0 F0).fp) (dbp0:bp0∉(cpx C 125 mb0 D0 F0).fp) (hr0:Zfm D0) :
  Calls ZMq 79 #[vQ bp0,vI a1] w0 fun e w'=>∃ (zb0:Nat) (Dz:List Lev) (Fz:List Nat),
   e=.returned (vvP zb0)∧K∧LvAt Dz a1 zb0 true true∧CpLe D0 Dz F0 Fz∧(cpx C 125 mb0 Dz Fz).holds w'∧(∀ x,x∈(cpx C 125 mb0 Dz Fz).fp→x∈(cpx C 125 mb0 D0 F0).fp∨w0.heap.size≤x)∧BelO ((cpx C 125 mb0 D0 F0).fp) w0 w':=by
 unfold Zj3 at h
 refine cof Tryz.func79 rfl 73 Tryz.ntmps79 ?_
 have hC:=Ctx.startL w0 ((cpx C 125 mb0 D0 F0).fp) [cpx C 125 mb0 D0 F0] [ZMm TAlg a0 [u0_0,u0_1] fp0,blk b0 32 [u0_0,u0_1],blk bp0 198 [vQ b0,.map (some mb0)]] (al1 qx0) (alc q0 (alc qb0 (al1 qbp0))) (al1 (fun b_ hb_=>hb_)) (ZU4 _ _) (alc (fun b_ hb_=>dq0 b_ hb_) (alc (Zi5 db0) (al1 (Zi5 dbp0))))
 replace hC:=hC.dAlg 0 rfl
 refine sr (Zc (v:=.pointer none) rfl (dn (sr (Za (v:=vQ bp0) rfl (Za (v:=vI a1) rfl ?_)))))
 obtain ⟨ho10,h⟩:=h
 refine Zf [vQ bp0,vI a1] _ Tryz.func135 rfl rfl rfl (Zq4 C a0 a1 ho10 _ (Xs (hC.getP 1 rfl) (hC.getP 0 rfl)) (hC.getP 3 rfl) (hC.getP 4 rfl) (hC.getM 0 rfl) (fun b_ hb hb2_=>(ZE4.1 hb).elim (fun hb=>hC.pdk 1 0 rfl rfl b_ hb hb2_) (fun hb=>hC.pdk 0 0 rfl rfl b_ hb hb2_)) (fun hx_=>hC.pdk 3 0 rfl rfl _ (ZTg _) hx_) (fun hx_=>hC.pdk 4 0 rfl rfl _ (ZTg _) hx_)) ?_
 rintro _ w9 ⟨b10,D10,F11,rfl,hat18,hle12,hx13,hf10,hB11⟩
 refine rt ?_
 replace hC:=hC.turnI 0 rfl hB11 hx13 hf10
 refine Zc (v:=vvP b10) rfl (dn (ZMn (sr (Za (v:=vvP b10) rfl (Xg rfl (Zu 3 ZTk rfl sc85.size rfl rfl ?_))))))
 obtain ⟨u26,u27,u28,u25,u29,u30,hb11,Ad10,n27,c10,hv10,hmd30⟩:=ZAq (hC.getM 0 rfl) hat18 (hle12.rest hr0)
 refine Yl (u25) (Jo (off:=3) (sz:=1) hb11 rfl) sc85 rfl ?_
 rcases Ad10 with _ | Ad11
 ·replace h:=h.1
  refine Zq8 false ZT8 (tr rfl hv10) rfl rfl (dn (Z2 rfl rfl (ZMr (Zd (ZMn ?_)))))
  refine ZAe mb0 14 Yi [0,0,2,6,14,0,0,64,224,480,992,2016,4064,8190,16383,32767,65535] [4,11,12] [0,1,2,3,5,6,7,9,10] (by kernel_rfl) (by kernel_rfl) (by kernel_rfl) (fun hM11 hM10 w10 hB_=>?_)
  replace hC:=hC.grow hB_
  refine bMR (Zbd mb0) 0 (vvP b10) rfl hM10 (Zb 17 1) (bMR (Zbd mb0) 1 (vvP b10) rfl hM10 (Zb 17 3) (Zr (Zbd mb0) 2 (vvP b10) rfl rfl (by kernel_rfl) (hM10 2 rfl) (fun w_=>.inl ⟨rfl,by exact Zae rfl⟩) (l9:=(Zb 17 7)) (by kernel_rfl) (Zr (Zbd mb0) 3 (.pointer (some ⟨b10,2,none⟩)) rfl rfl (by kernel_rfl) (hM10 3 rfl) (fun w_=>.inl ⟨rfl,by exact Yf 2 ZTk rfl sc85.size rfl rfl⟩) (l9:=(Zb 17 15)) (by kernel_rfl) ?_)))
  obtain ⟨u31,u32,u18,u33,u34,u35,hb12,hr33,hr12,hr34,hr35⟩:=Zhp (hC.getM 0 rfl) hat18.inn
  have hr13:=hr12
  have hnhb42:=ZAr (hC.getM 0 rfl) hat18.inn
  refine Zag (Zbd mb0) 4 (u18) rfl rfl (by kernel_rfl) (hM11 4 rfl) (fun w_ hB_=>.inl ⟨rfl,by exact Y7 (u18) (Jo (off:=2) (sz:=1) (Zq5 hB_ hb12 hnhb42) rfl) sc85 rfl⟩) (l9:=(Zb 17 31)) (by kernel_rfl) (bMR (Zbd mb0) 5 (vQ bp0) rfl hM10 (Zb 17 63) (bMR (Zbd mb0) 6 (vI a1) rfl hM10 (Zb 17 127) (Zr (Zbd mb0) 7 (vI (ZHd.wrap (a1+1))) rfl rfl (by kernel_rfl) (hM10 7 rfl) (fun w_=>.inl ⟨rfl,by exact Zc4 rfl rfl⟩) (l9:=(Zb 17 255)) (by kernel_rfl) (aO 8 rfl ?_))))
  have hmf57:=(hC.getM 0 rfl).2.2.2.2.1
  obtain ⟨ho11,h⟩:=h
  refine Zf [vQ bp0,vI (ZHd.wrap (a1+1))] _ Tryz.func115 rfl rfl rfl (Zq3 C a0 (ZHd.wrap (a1+1)) ho11 _ (Xs (hC.getP 1 rfl) (hC.getP 0 rfl)) (hC.getP 3 rfl) (hC.getP 4 rfl) (hC.getM 0 rfl) (fun b_ hb hb2_=>(ZE4.1 hb).elim (fun hb=>hC.pdk 1 0 rfl rfl b_ hb hb2_) (fun hb=>hC.pdk 0 0 rfl rfl b_ hb hb2_)) (fun hx_=>hC.pdk 3 0 rfl rfl _ (ZTg _) hx_) (fun hx_=>hC.pdk 4 0 rfl rfl _ (ZTg _) hx_)) ?_
  rintro _ w11 ⟨b15,D51,F52,rfl,hat60,hle53,hx54,hf11,hB10⟩
  refine rt ?_
  replace hC:=hC.turnI 0 rfl (hB10.belO Zc0) hx54 hf11
  have hr14:=ZAs hr13 hB10 hmf57
  refine done (aK (by first | assumption | exact Zqz (by assumption)) (Zb 17 511) (Zr (Zbd mb0) 9 (vvP b15) rfl rfl (by kernel_rfl) (hM10 9 rfl) (fun w_=>.inl ⟨rfl,by exact Zae rfl⟩) (l9:=(Zb 17 1023)) (by kernel_rfl) (Zr (Zbd mb0) 10 (vQ b15) rfl rfl (by kernel_rfl) (hM10 10 rfl) (fun w_=>.inl ⟨rfl,by exact Yf 0 ZTk rfl sc122.size rfl rfl⟩) (l9:=(Zb 17 2047)) (by kernel_rfl) ?_)))
  obtain ⟨u23,u36,u37,u38,u39,u40,hb13,hr15,hr36,hr37⟩:=Zmx (hC.getM 0 rfl) hat60
  have hr16:=hr15
  have hnhb68:=Zmz (hC.getM 0 rfl) hat60
  refine Zag (Zbd mb0) 11 (u23) rfl rfl (by kernel_rfl) (hM11 11 rfl) (fun w_ hB_=>.inl ⟨rfl,by exact Y7 (u23) (Jo (off:=0) (sz:=1) (Zq5 hB_ hb13 hnhb68) rfl) sc122 rfl⟩) (l9:=(Zb 17 4095)) (by kernel_rfl) ?_
  obtain ⟨Ad12,c11,hv13⟩:=Zc5 hr16
  refine Zag (Zbd mb0) 12 (vI ((C.LV (ZHd.wrap (a1+1))).length:Int)) rfl rfl (by kernel_rfl) (hM11 12 rfl) (fun w_ hB_=>.inl ⟨rfl,by exact Zez Tryz.underlying122 (by exact tr rfl hv13)⟩) (l9:=(Zb 17 8191)) (by kernel_rfl) (aO 13 rfl (Zf [u18,vI ((C.LV (ZHd.wrap (a1+1))).length:Int)] _ Tryz.func136 rfl rfl rfl (ZA5 (C.MX a1) ((C.LV (ZHd.wrap (a1+1))).length:Int) h _ hr14) ?_))
  rintro _ w12 ⟨r14,u19,f10,rfl,h,hr17,hf12,hB12⟩
  refine rt ?_
  replace hC:=hC.push hB12 (ZM4 (ZTa 22 (ZTa 2 (eI.tr))) r14 [u19] f10) hr17 hf12
  refine done (aK (by first | assumption | exact Zqz (by assumption)) (Zb 17 16383) (Zz 14 (by decide) (by decide) (by kernel_rfl) (by kernel_rfl) rfl (Xg rfl (Zu 3 ZTk rfl sc85.size rfl rfl ?_))))
  obtain ⟨hmx87,h⟩:=h
  replace hC:=hC.recast (c:=ZM4 (ZTa 22 (ZTa 2 (eI.tr))) (C.CL a1) [u19] f10) (fun _ h_=>h_) (fun h_=>hmx87 ▸ h_)
  replace hC:=hC.sM [1,0] (M':=[cpx C 125 mb0 D51 F52,ZM4 (ZTa 22 (ZTa 2 (eI.tr))) (C.CL a1) [u19] f10]) (by decide) rfl
  refine ZAv hC (hat18.inn.up hle53) sc85.size rfl rfl (fun D88 w13 hx90 hin12 hC=>?_)
  refine done (Z0 (Zd (ZMn (sr (Za (v:=vI a1) rfl (Jh rfl rfl (dn ?_)))))))
  refine Zp rfl (fun hb10=>?_) (fun hb10=>?_)
  ·replace h:=ift h (ct hb10)
   refine Zg (Za (v:=vvP b10) rfl (Za (v:=vQ bp0) rfl (Za (v:=vI a1) rfl (Jx rfl rfl ?_))))
   obtain ⟨ho12,h⟩:=h
   refine Zf [vQ bp0,vI (ZHd.wrap (a1 - 1))] _ Tryz.func135 rfl rfl rfl (Zq4 C a0 (ZHd.wrap (a1 - 1)) ho12 _ (Xs (hC.getP 1 rfl) (hC.getP 0 rfl)) (hC.getP 3 rfl) (hC.getP 4 rfl) (hC.getM 0 rfl) (fun b_ hb hb2_=>(ZE4.1 hb).elim (fun hb=>hC.pdk 1 0 rfl rfl b_ hb hb2_) (fun hb=>hC.pdk 0 0 rfl rfl b_ hb hb2_)) (fun hx_=>hC.pdk 3 0 rfl rfl _ (ZTg _) hx_) (fun hx_=>hC.pdk 4 0 rfl rfl _ (ZTg _) hx_)) ?_
   rintro _ w14 ⟨b16,D96,F97,rfl,hat104,hle98,hx99,hf13,hB13⟩
   refine rt ?_
   replace hC:=hC.turnI 0 rfl hB13 hx99 hf13
   refine Xg rfl (Zu 2 ZTk rfl sc85.size rfl rfl ?_)
   obtain ⟨u41,u42,u24,u43,u44,u45,hb14,hr38,hr18,hr39⟩:=Zmx (hC.getM 0 rfl) hat104
   have hr19:=hr18 rfl
   have hnhb111:=Zmz (hC.getM 0 rfl) hat104
   refine Yl (u24) (Jo (off:=2) (sz:=1) hb14 rfl) sc85 rfl (Zf [u24] _ ZXg rfl rfl rfl (Zht (C.MX (ZHd.wrap (a1 - 1))) h _ hr19) ?_)
   rintro _ w15 ⟨r15,u20,f11,rfl,h,hr20,hf14,hB14⟩
   refine rt ?_
   replace hC:=hC.push hB14 (ZM4 (ZTa 22 (ZTa 2 (eI.tr))) r15 [u20] f11) hr20 hf14
   refine Xg rfl (Zu 4 ZTk rfl sc85.size rfl rfl ?_)
   obtain ⟨hmx127,h⟩:=h
   replace hC:=hC.recast (c:=ZM4 (ZTa 22 (ZTa 2 (eI.tr))) (C.BD a1) [u20] f11) (fun _ h_=>h_) (fun h_=>hmx127 ▸ h_)
   replace hC:=hC.sM [1,0] (M':=[cpx C 125 mb0 D96 F97,ZM4 (ZTa 22 (ZTa 2 (eI.tr))) (C.BD a1) [u20] f11]) (by decide) rfl
   refine ZAw hC (hin12.up hle98) sc85.size rfl rfl (fun D128 w16 hx130 hin10 hC=>?_)
   refine dn (sr (Y4 (sz:=1) hC [] [] rfl (fun _=>Zbz _) rfl (by decide) fun b14 w17 hB_ hC=>?_))
   replace hC:=hC.pushM0 (Yj (ZTa 2 (eI.tr)) ([]:List (List Int)) [] []) (Zat _ _) rfl
   replace hC:=hC.gather (c:=ZM4 (ZTa 22 (ZTa 2 (eI.tr))) [] [.slice (some ⟨b14,0,none⟩) 0 0] ((ZNm (ZFq (.slice (some ⟨b14,0,none⟩) 0 0)))++([]:List (List Nat)).flatten)) (fun x_ hx_=>(ZE4.1 hx_).symm) (fun h1_ h2_ hd_=>Zah h2_ h1_ (fun b_ hb_ hb2_=>hd_ b_ hb2_ hb_))
   refine Zc (v:=.slice (some ⟨b14,0,none⟩) 0 0) rfl (dn (ZMn (sr (Za (v:=vvP b10) rfl (Xg rfl (Zu 3 ZTk rfl sc85.size rfl rfl ?_))))))
   have ho13:=hC.off 1 rfl
   have hz136:=hC.anyX 1 rfl
   replace hC:=hC.thaw 1 rfl (cpx C 125 mb0 D128 (F97++f11)) id (fun _ hb_=>hb_)
   obtain ⟨u46,u47,u48,u14,u49,u50,hb15,hr40,hr41,hr21,hr42⟩:=Zhp (hC.getP 0 rfl) hin10
   have hr22:=hr21 rfl
   replace hC:=hC.derive 0 rfl (ZMm (ZO5.sl) (C.CL a1) [u14] (F97++f11)) (fun _=>hr22) (fun _ h_=>Zei h_)
   refine Yl (u14) (Jo (off:=3) (sz:=1) hb15 rfl) sc85 rfl (Zv hC 0 rfl ZT8 rfl (Za (v:=vI 0) rfl (dn (ZMt ?_))))
   have hN10:(C.CL a1).length≤9223372036854775807:=Yx (hC.getP 0 rfl)
   refine Yn (S:=(List (List Int))) _ _ (fun i10 s10 e_ w_=>∃ (v10:Value),∃ (f12:List Nat),Zt e_ [(5,vvP b10),(6,v10),(51,u14),(52,vI ((C.CL a1).length:Int)),(53,vI (i10:Int))]∧Ctx (fun c_=>c_∈(cpx C 125 mb0 D0 F0).fp) w0 w_ [ZM4 (ZTa 22 (ZTa 2 (eI.tr))) s10 [v10] f12] [ZMm (ZO5.sl) (C.CL a1) [u14] (F97++f11),cpx C 125 mb0 D128 (F97++f11),ZMm TForm.sl a0.images [u0_1] fp0,ZMm TInts a0.degrees [u0_0] fp0,ZMm TAlg a0 [u0_0,u0_1] fp0,blk b0 32 [u0_0,u0_1],blk bp0 198 [vQ b0,.map (some mb0)]]) ((C.CL a1).length) ?_ ?_ (s0:=[]) ?_ h
   ·clear hC h
    rintro i10 s10 e_ w18 nx10 K10 hi10 ⟨v10,f12,hS_,hC⟩ h hK10
    rw [ue hS_]
    refine sr (Zn rfl rfl (dn (ZMn (Yc rfl (decide_eq_true (by omega)) (ZMr (Zd (ZMn (ZMt (sr ?_)))))))))
    obtain ⟨Ad13,c12,hv11⟩:=Zw (hC.getP 0 rfl) i10 hi10
    refine Yo (len:=(C.CL a1).length) ZT8 sc22.size (tr rfl hv11) rfl (ZM3 _) (ZNl.2 hi10) ?_
    obtain ⟨cs_,hl10,hc10,hr10⟩:=Xj (hC.getP 0 rfl) hv11 i10 hi10
    obtain ⟨u12,rfl⟩:=ZNj.1 hl10
    clear hl10
    rw [Xl _ _ hi10] at hr10
    replace hC:=hC.derive 0 rfl (ZMm TInts ((C.CL a1).getD i10 ZEx) [u12] (F97++f11)) (fun _=>hr10) (fun _ hb_=>hb_)
    refine Yl (u12) hc10 sc22 rfl (Zc (v:=u12) rfl (dn (Zg (Za (v:=v10) rfl (Za (v:=u12) rfl (Za (v:=vvP b10) rfl (Xg rfl (Zu 4 ZTk rfl sc85.size rfl rfl ?_))))))))
    obtain ⟨u51,u52,u53,u54,u21,u55,hb16,hr43,hr44,hr45,hr23⟩:=Zhp (hC.getP 2 rfl) hin10
    have hr24:=hr23 rfl
    replace hC:=hC.derive 2 rfl (ZMm (ZO5.sl) (C.BD a1) [u21] (F97++f11)) (fun _=>hr24) (fun _ h_=>Zei h_)
    refine Yl (u21) (Jo (off:=4) (sz:=1) hb16 rfl) sc85 rfl (Zf [u12,u21] _ Tryz.func84 rfl rfl rfl (Zrc ((C.CL a1).getD i10 ZEx) (C.BD a1) h _ (hC.getP 1 rfl) (hC.getP 0 rfl)) ?_)
    rintro _ w19 ⟨r10,u10,f16,rfl,h,hr25,hf15,hB15⟩
    refine rt ?_
    replace hC:=hC.push hB15 (ZM4 (ZTa 2 (eI.tr)) r10 [u10] f16) hr25 hf15
    obtain ⟨ho14,hf16⟩:=Xn (hC.getM 0 rfl).1
    subst hf16
    replace hC:=hC.recast (c:=own 2 1 u10 r10.length (eI.encs r10)) (fun _ h_=>h_) (fun _=>ho14)
    refine Y4 (sz:=1) hC [(0,u10)] [u10] rfl (fun _=>Zbe u10 (Ze7 (hC.getM 0 rfl)) _) rfl (by decide) fun b12 w20 hB_ hC=>?_
    replace hC:=hC.pushM0 (Yj (ZTa 2 (eI.tr)) [] [] []) (Zat _ _) rfl
    replace hC:=hC.sM [2,0,1,3] (M':=[own 2 1 u10 r10.length (eI.encs r10),Yj (ZTa 2 (eI.tr)) [] [] [],own 22 1 (.slice (some ⟨b12,0,none⟩) 1 1) 1 [u10],ZM4 (ZTa 22 (ZTa 2 (eI.tr))) s10 [v10] f12]) (by decide) rfl
    replace hC:=hC.gather (c:=Yj (ZTa 2 (eI.tr)) [r10] [u10] [(ZNm (ZFq u10))]) (fun x_ hx_=>Zgi hx_) (fun h1_ h2_ hd_=>Ze6 (c:=[u10]) (id (Xy h1_)) h2_ hd_)
    replace hC:=hC.sM [1,0,2] (M':=[own 22 1 (.slice (some ⟨b12,0,none⟩) 1 1) 1 [u10],Yj (ZTa 2 (eI.tr)) [r10] [u10] [(ZNm (ZFq u10))],ZM4 (ZTa 22 (ZTa 2 (eI.tr))) s10 [v10] f12]) (by decide) rfl
    replace hC:=hC.gather (c:=ZM4 (ZTa 22 (ZTa 2 (eI.tr))) [r10] [.slice (some ⟨b12,0,none⟩) 1 1] ((ZNm (ZFq (.slice (some ⟨b12,0,none⟩) 1 1)))++([(ZNm (ZFq u10))]:List (List Nat)).flatten)) (fun x_ hx_=>ZE4.1 hx_) (fun h1_ h2_ hd_=>Zah h1_ h2_ hd_)
    replace hC:=hC.sM [1,0] (M':=[ZM4 (ZTa 22 (ZTa 2 (eI.tr))) s10 [v10] f12,ZM4 (ZTa 22 (ZTa 2 (eI.tr))) [r10] [.slice (some ⟨b12,0,none⟩) 1 1] ((ZNm (ZFq (.slice (some ⟨b12,0,none⟩) 1 1)))++([(ZNm (ZFq u10))]:List (List Nat)).flatten)]) (by decide) rfl
    obtain ⟨hm10,h⟩:=h
    refine Zgh hC ZT8 Zbf rfl (by decide) (by decide) rfl rfl hm10 fun v12 f17 w21 hC=>Zc (v:=v12) rfl (done (Zq (Zd (Zg (Zo rfl rfl (Za (v:=vI (ZHd.wrap ((i10:Int)+1))) rfl (done ?_)))))))
    exact hK10 (s10++[r10]) _ _ ⟨v12,f17,(sl ⟨rfl,rfl,rfl,rfl,(tr rfl (congrArg _ (Z6 hi10 hN10))),trivial⟩),(hC.sP [2,3,4,5,6,7,8] rfl)⟩ h
   ·clear hC h
    rintro s10 e_ w22 K10 ⟨v10,f12,hS_,hC⟩ h
    rw [ue hS_]
    refine sr (Zn rfl rfl (dn (ZMn (Z2 rfl (decide_eq_false (by omega)) ?_))))
    refine ZM1 (Zh (Zh (Zy ?_)))
    refine Zd (sr (Za (v:=vvP b10) rfl (Za (v:=v10) rfl (Zf [v10] _ ZXg rfl rfl rfl (Zht s10 h _ (ZXe _ (hC.getM 0 rfl).1)) ?_))))
    rintro _ w23 ⟨r12,u15,f14,rfl,h,hr26,hf17,hB16⟩
    refine rt ?_
    replace hC:=hC.push hB16 (ZM4 (ZTa 22 (ZTa 2 (eI.tr))) r12 [u15] f14) hr26 hf17
    refine Xg rfl (Zu 5 ZTk rfl sc85.size rfl rfl ?_)
    replace hC:=(hC.sP [1,2,3,4,5,6] (Ps':=[cpx C 125 mb0 D128 (F97++f11),ZMm TForm.sl a0.images [u0_1] fp0,ZMm TInts a0.degrees [u0_0] fp0,ZMm TAlg a0 [u0_0,u0_1] fp0,blk b0 32 [u0_0,u0_1],blk bp0 198 [vQ b0,.map (some mb0)]]) rfl).back hz136 ho13
    obtain ⟨hmx346,h⟩:=h
    replace hC:=hC.sM [1,0,2] (M':=[ZM4 (ZTa 22 (ZTa 2 (eI.tr))) r12 [u15] f14,cpx C 125 mb0 D128 (F97++f11),ZM4 (ZTa 22 (ZTa 2 (eI.tr))) s10 [v10] f12]) (by decide) rfl
    replace hC:=hC.recast (c:=ZM4 (ZTa 22 (ZTa 2 (eI.tr))) (C.KL a1) [u15] f14) (fun _ h_=>h_) (fun h_=>hmx346 ▸ h_)
    replace hC:=hC.sM [1,0,2] (M':=[cpx C 125 mb0 D128 (F97++f11),ZM4 (ZTa 22 (ZTa 2 (eI.tr))) (C.KL a1) [u15] f14,ZM4 (ZTa 22 (ZTa 2 (eI.tr))) s10 [v10] f12]) (by decide) rfl
    refine Zq7 hC hin10 sc85.size rfl rfl (fun D347 w24 hx349 hin13 hC=>?_)
    have hle351:=(hle12.trans ((((((hle53.some (fun _ q_=>q_.elim)).trans hx90).trans (hle98.some (fun _ q_=>q_.elim))).trans hx130).trans hx349).done (Zq6 (hC.getM 0 rfl) hin13)))
    refine dn (sr (Za (v:=vvP b10) rfl (Zc (v:=vvP b10) rfl (dn (ZMv ?_)))))
    exact Zi rfl (Ze rfl) ⟨b10,D347,((F97++f11)++f14),rfl,h,hin13,hle351,(hC.getM 0 rfl),(fun x_ hx_=>(hC.anyX 0 rfl x_ hx_).symm),hC.belO⟩ (.inl rfl)
   ·skip
    exact⟨.slice (some ⟨b14,0,none⟩) 0 0,((ZNm (ZFq (.slice (some ⟨b14,0,none⟩) 0 0)))++([]:List (List Nat)).flatten),(slq rfl),hC⟩
  ·replace h:=Zj h (cf hb10)
   refine ZMr (Zd (sr (Y4 (sz:=1) hC [] [] rfl (fun _=>Zbz _) rfl (by decide) fun b11 w25 hB_ hC=>?_)))
   replace hC:=hC.pushM0 (Yj (ZTa 2 (eI.tr)) ([]:List (List Int)) [] []) (Zat _ _) rfl
   replace hC:=hC.gather (c:=ZM4 (ZTa 22 (ZTa 2 (eI.tr))) [] [.slice (some ⟨b11,0,none⟩) 0 0] ((ZNm (ZFq (.slice (some ⟨b11,0,none⟩) 0 0)))++([]:List (List Nat)).flatten)) (fun x_ hx_=>(ZE4.1 hx_).symm) (fun h1_ h2_ hd_=>Zah h2_ h1_ (fun b_ hb_ hb2_=>hd_ b_ hb2_ hb_))
   refine Zc (v:=.slice (some ⟨b11,0,none⟩) 0 0) rfl (dn (ZMn (sr (Za (v:=vvP b10) rfl (Xg rfl (Zu 3 ZTk rfl sc85.size rfl rfl ?_))))))
   obtain ⟨hb17,h⟩:=h
   replace hC:=hC.sM [1,0] (M':=[cpx C 125 mb0 D88 (F52++f10),ZM4 (ZTa 22 (ZTa 2 (eI.tr))) [] [.slice (some ⟨b11,0,none⟩) 0 0] ((ZNm (ZFq (.slice (some ⟨b11,0,none⟩) 0 0)))++([]:List (List Nat)).flatten)]) (by decide) rfl
   obtain ⟨D356,hx357,hin11,hC⟩:=hC.noBd hin12 hb17
   have ho15:=hC.off 0 rfl
   have hz360:=hC.anyX 0 rfl
   replace hC:=hC.thaw 0 rfl (cpx C 125 mb0 D356 (F52++f10)) id (fun _ hb_=>hb_)
   obtain ⟨u56,u57,u58,u16,u59,u60,hb18,hr46,hr47,hr27,hr48⟩:=Zhp (hC.getP 0 rfl) hin11
   have hr28:=hr27 rfl
   replace hC:=hC.derive 0 rfl (ZMm (ZO5.sl) (C.CL a1) [u16] (F52++f10)) (fun _=>hr28) (fun _ h_=>Zei h_)
   refine Yl (u16) (Jo (off:=3) (sz:=1) hb18 rfl) sc85 rfl (Zv hC 0 rfl ZT8 rfl (Za (v:=vI 0) rfl (dn (ZMt ?_))))
   have hN11:(C.CL a1).length≤9223372036854775807:=Yx (hC.getP 0 rfl)
   refine Yn (S:=(List (List Int))) _ _ (fun i11 s11 e_ w_=>∃ (v11:Value),∃ (f13:List Nat),Zt e_ [(5,vvP b10),(6,v11),(51,u16),(52,vI ((C.CL a1).length:Int)),(53,vI (i11:Int))]∧Ctx (fun c_=>c_∈(cpx C 125 mb0 D0 F0).fp) w0 w_ [ZM4 (ZTa 22 (ZTa 2 (eI.tr))) s11 [v11] f13] [ZMm (ZO5.sl) (C.CL a1) [u16] (F52++f10),cpx C 125 mb0 D356 (F52++f10),ZMm TForm.sl a0.images [u0_1] fp0,ZMm TInts a0.degrees [u0_0] fp0,ZMm TAlg a0 [u0_0,u0_1] fp0,blk b0 32 [u0_0,u0_1],blk bp0 198 [vQ b0,.map (some mb0)]]) ((C.CL a1).length) ?_ ?_ (s0:=[]) ?_ h
   ·clear hC h
    rintro i11 s11 e_ w26 nx11 K11 hi11 ⟨v11,f13,hS_,hC⟩ h hK11
    rw [ue hS_]
    refine sr (Zn rfl rfl (dn (ZMn (Yc rfl (decide_eq_true (by omega)) (ZMr (Zd (ZMn (ZMt (sr ?_)))))))))
    obtain ⟨Ad14,c13,hv12⟩:=Zw (hC.getP 0 rfl) i11 hi11
    refine Yo (len:=(C.CL a1).length) ZT8 sc22.size (tr rfl hv12) rfl (ZM3 _) (ZNl.2 hi11) ?_
    obtain ⟨cs_,hl11,hc11,hr11⟩:=Xj (hC.getP 0 rfl) hv12 i11 hi11
    obtain ⟨u13,rfl⟩:=ZNj.1 hl11
    clear hl11
    rw [Xl _ _ hi11] at hr11
    replace hC:=hC.derive 0 rfl (ZMm TInts ((C.CL a1).getD i11 ZEx) [u13] (F52++f10)) (fun _=>hr11) (fun _ hb_=>hb_)
    refine Yl (u13) hc11 sc22 rfl (Zc (v:=u13) rfl (dn (Zg (Za (v:=v11) rfl (Za (v:=u13) rfl (Za (v:=vvP b10) rfl (Xg rfl (Zu 4 ZTk rfl sc85.size rfl rfl ?_))))))))
    obtain ⟨u61,u62,u63,u64,u22,u65,hb19,hr49,hr50,hr51,hr29⟩:=Zhp (hC.getP 2 rfl) hin11
    have hr30:=hr29 rfl
    replace hC:=hC.derive 2 rfl (ZMm (ZO5.sl) (C.BD a1) [u22] (F52++f10)) (fun _=>hr30) (fun _ h_=>Zei h_)
    refine Yl (u22) (Jo (off:=4) (sz:=1) hb19 rfl) sc85 rfl (Zf [u13,u22] _ Tryz.func84 rfl rfl rfl (Zrc ((C.CL a1).getD i11 ZEx) (C.BD a1) h _ (hC.getP 1 rfl) (hC.getP 0 rfl)) ?_)
    rintro _ w27 ⟨r11,u11,f18,rfl,h,hr31,hf18,hB17⟩
    refine rt ?_
    replace hC:=hC.push hB17 (ZM4 (ZTa 2 (eI.tr)) r11 [u11] f18) hr31 hf18
    obtain ⟨ho16,hf19⟩:=Xn (hC.getM 0 rfl).1
    subst hf19
    replace hC:=hC.recast (c:=own 2 1 u11 r11.length (eI.encs r11)) (fun _ h_=>h_) (fun _=>ho16)
    refine Y4 (sz:=1) hC [(0,u11)] [u11] rfl (fun _=>Zbe u11 (Ze7 (hC.getM 0 rfl)) _) rfl (by decide) fun b13 w28 hB_ hC=>?_
    replace hC:=hC.pushM0 (Yj (ZTa 2 (eI.tr)) [] [] []) (Zat _ _) rfl
    replace hC:=hC.sM [2,0,1,3] (M':=[own 2 1 u11 r11.length (eI.encs r11),Yj (ZTa 2 (eI.tr)) [] [] [],own 22 1 (.slice (some ⟨b13,0,none⟩) 1 1) 1 [u11],ZM4 (ZTa 22 (ZTa 2 (eI.tr))) s11 [v11] f13]) (by decide) rfl
    replace hC:=hC.gather (c:=Yj (ZTa 2 (eI.tr)) [r11] [u11] [(ZNm (ZFq u11))]) (fun x_ hx_=>Zgi hx_) (fun h1_ h2_ hd_=>Ze6 (c:=[u11]) (id (Xy h1_)) h2_ hd_)
    replace hC:=hC.sM [1,0,2] (M':=[own 22 1 (.slice (some ⟨b13,0,none⟩) 1 1) 1 [u11],Yj (ZTa 2 (eI.tr)) [r11] [u11] [(ZNm (ZFq u11))],ZM4 (ZTa 22 (ZTa 2 (eI.tr))) s11 [v11] f13]) (by decide) rfl
    replace hC:=hC.gather (c:=ZM4 (ZTa 22 (ZTa 2 (eI.tr))) [r11] [.slice (some ⟨b13,0,none⟩) 1 1] ((ZNm (ZFq (.slice (some ⟨b13,0,none⟩) 1 1)))++([(ZNm (ZFq u11))]:List (List Nat)).flatten)) (fun x_ hx_=>ZE4.1 hx_) (fun h1_ h2_ hd_=>Zah h1_ h2_ hd_)
    replace hC:=hC.sM [1,0] (M':=[ZM4 (ZTa 22 (ZTa 2 (eI.tr))) s11 [v11] f13,ZM4 (ZTa 22 (ZTa 2 (eI.tr))) [r11] [.slice (some ⟨b13,0,none⟩) 1 1] ((ZNm (ZFq (.slice (some ⟨b13,0,none⟩) 1 1)))++([(ZNm (ZFq u11))]:List (List Nat)).flatten)]) (by decide) rfl
    obtain ⟨hm11,h⟩:=h
    refine Zgh hC ZT8 Zbf rfl (by decide) (by decide) rfl rfl hm11 fun v13 f19 w29 hC=>Zc (v:=v13) rfl (done (Zq (Zd (Zg (Zo rfl rfl (Za (v:=vI (ZHd.wrap ((i11:Int)+1))) rfl (done ?_)))))))
    exact hK11 (s11++[r11]) _ _ ⟨v13,f19,(sl ⟨rfl,rfl,rfl,rfl,(tr rfl (congrArg _ (Z6 hi11 hN11))),trivial⟩),(hC.sP [2,3,4,5,6,7,8] rfl)⟩ h
   ·clear hC h
    rintro s11 e_ w30 K11 ⟨v11,f13,hS_,hC⟩ h
    rw [ue hS_]
    refine sr (Zn rfl rfl (dn (ZMn (Z2 rfl (decide_eq_false (by omega)) ?_))))
    refine ZM1 (Zh (Zh (Zy ?_)))
    refine Zd (sr (Za (v:=vvP b10) rfl (Za (v:=v11) rfl (Zf [v11] _ ZXg rfl rfl rfl (Zht s11 h _ (ZXe _ (hC.getM 0 rfl).1)) ?_))))
    rintro _ w31 ⟨r13,u17,f15,rfl,h,hr32,hf20,hB18⟩
    refine rt ?_
    replace hC:=hC.push hB18 (ZM4 (ZTa 22 (ZTa 2 (eI.tr))) r13 [u17] f15) hr32 hf20
    refine Xg rfl (Zu 5 ZTk rfl sc85.size rfl rfl ?_)
    replace hC:=(hC.sP [1,2,3,4,5,6] (Ps':=[cpx C 125 mb0 D356 (F52++f10),ZMm TForm.sl a0.images [u0_1] fp0,ZMm TInts a0.degrees [u0_0] fp0,ZMm TAlg a0 [u0_0,u0_1] fp0,blk b0 32 [u0_0,u0_1],blk bp0 198 [vQ b0,.map (some mb0)]]) rfl).back hz360 ho15
    obtain ⟨hmx570,h⟩:=h
    replace hC:=hC.sM [1,0,2] (M':=[ZM4 (ZTa 22 (ZTa 2 (eI.tr))) r13 [u17] f15,cpx C 125 mb0 D356 (F52++f10),ZM4 (ZTa 22 (ZTa 2 (eI.tr))) s11 [v11] f13]) (by decide) rfl
    replace hC:=hC.recast (c:=ZM4 (ZTa 22 (ZTa 2 (eI.tr))) (C.KL a1) [u17] f15) (fun _ h_=>h_) (fun h_=>hmx570 ▸ h_)
    replace hC:=hC.sM [1,0,2] (M':=[cpx C 125 mb0 D356 (F52++f10),ZM4 (ZTa 22 (ZTa 2 (eI.tr))) (C.KL a1) [u17] f15,ZM4 (ZTa 22 (ZTa 2 (eI.tr))) s11 [v11] f13]) (by decide) rfl
    refine Zq7 hC hin11 sc85.size rfl rfl (fun D571 w32 hx573 hin14 hC=>?_)
    have hle575:=(hle12.trans (((((hle53.some (fun _ q_=>q_.elim)).trans hx90).trans hx357).trans hx573).done (Zq6 (hC.getM 0 rfl) hin14)))
    refine dn (sr (Za (v:=vvP b10) rfl (Zc (v:=vvP b10) rfl (dn (ZMv ?_)))))
    exact Zi rfl (Ze rfl) ⟨b10,D571,((F52++f10)++f15),rfl,h,hin14,hle575,(hC.getM 0 rfl),(fun x_ hx_=>(hC.anyX 0 rfl x_ hx_).symm),hC.belO⟩ (.inl rfl)
   ·skip
    exact⟨.slice (some ⟨b11,0,none⟩) 0 0,((ZNm (ZFq (.slice (some ⟨b11,0,none⟩) 0 0)))++([]:List (List Nat)).flatten),(slq rfl),hC⟩
 ·replace h:=h.2
  refine Zq8 true ZT8 (tr rfl hv10) rfl rfl ?_
  have hat32:=hmd30 _ rfl
  refine dn (Yc rfl rfl (sr (Za (v:=vvP b10) rfl (Zc (v:=vvP b10) rfl (dn ?_)))))
  refine ZMv (Zk ?_)
  exact Zi rfl (Ze rfl) ⟨b10,D10,F11,rfl,h,hat32,hle12,(hC.getM 0 rfl),(fun x_ hx_=>(hC.anyX 0 rfl x_ hx_).symm),hC.belO⟩ (.inl rfl)
end Go.Proofs.YtaagfepgbofmlaaGreat
namespace Go.Proofs.YtaagfepgbofmlaaGreat
open Go Go.RowKit Vc
def Zhy (C:Cx) (a:Alg) (n:Int):Prop:=Zj3 C a n True
theorem ZA7 (C:Cx) (a:Alg) (n:Int) {cb ab mb:Nat} {u0 u1:Value} {fpA:List Nat} {D:List Lev} {F:List Nat} (h:Zhy C a n) (w0:World)
    (q0:TAlg.rep a [u0,u1] fpA w0) (qa:(blk ab 32 [u0,u1]).holds w0) (qc:(blk cb 198 [.pointer (some ⟨ab,0,none⟩),.map (some mb)]).holds w0) (qx:(cpx C 125 mb D F).holds w0)
    (dq:∀ b,b∈fpA→b∉(cpx C 125 mb D F).fp) (da:ab∉(cpx C 125 mb D F).fp) (dc:cb∉(cpx C 125 mb D F).fp) (hr:Zfm D) :
    Calls ZMq 79 #[.pointer (some ⟨cb,0,none⟩),.int .i64 n] w0 fun e w'=>∃ (b:Nat) (D':List Lev) (F':List Nat),
      e=.returned (vvP b)∧LvAt D' n b true true∧CpLe D D' F F'∧(cpx C 125 mb D' F').holds w'∧(∀ x,x∈(cpx C 125 mb D' F').fp→x∈(cpx C 125 mb D F).fp∨w0.heap.size≤x)∧BelO (cpx C 125 mb D F).fp w0 w':=by
  refine(ZA6 C a n h w0 q0 qa qc qx dq da dc hr).mono ?_
  rintro e w' ⟨b,D',F',h1,_,h2⟩
  exact⟨b,D',F',h1,h2⟩
end Go.Proofs.YtaagfepgbofmlaaGreat
