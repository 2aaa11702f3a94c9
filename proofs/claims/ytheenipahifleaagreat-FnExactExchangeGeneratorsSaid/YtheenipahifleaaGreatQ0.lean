import Derived.Calls
import Derived.WalkKit
import Derived.Orders
import Derived.Tactics
import Derived.Below
import Derived.Laws.Rows
import Derived.Laws.Cells
import Derived.Laws.Tables
import Derived.Laws.Sem
import Derived.Laws.World
import Derived.Laws.CopyRow
import Derived.Laws.Entries
import Derived.Maps.AppendAt
import Derived.IntWalk
import Derived.Laws.MakeOwn
import Derived.OwnWalk
import Derived.Laws.OwnMore
import Derived.KernelRfl
import Derived.Maps.RangeRun
import Derived.Shelf.SlSortCmp.WholeK
import Derived.Shelf.SlSortCmp.NoneTotal
import Derived.ProofKit
import Derived.OpenShut
import Derived.Deep.Slices
import Derived.Ground.SlsfProg
import Derived.Test.YtheenipahifleaaGreatProg
import Derived.Lib.AppendZeros
import Derived.Lib.AppendZerosOnto
import Derived.Laws.Slices
import Derived.Laws.StructEq
set_option linter.unusedSectionVars false
set_option linter.unusedSimpArgs false
set_option linter.unusedVariables false
open Array renaming getD→Zu4,length_toList→Zwt,all_eq_true'→Zwz,any_eq_true'→Zxl,setIfInBounds_comm→Zyk,toList_filter→Zyx
open Bool renaming and_eq_true→Zu7,or_eq_true→Zvu,false_eq_true→Zwe,beq_eq_decide_eq→Zw8,not_eq_true'→Zxj
open Go.Act renaming put_comm→Zwl
open Go.Addr renaming add→Zwc
open Go.Builtin renaming len_→Zxe,append_→Zxf,delete_→Zxs,firstCells→Zyh
open Go.ChangeMaps renaming map_eraseIdx→Zv8
open Go.Deferred renaming ofValue→Zx5
open Go.Exit renaming inBlock→Zww
open Go.Instr renaming sureAddr→Zu0,loadAt→Zvf,checkKey→Zwn,indexAt→Zwu,sameNow→Zxn,findNow→Zxo,mapUpdate→Zxp
open Go.IntKind renaming i64→Zxa
open Go.Op renaming intCmp→Zvk,intArith→Zvv,equalIn→Zw2
open Go.Oper renaming wp→Zvc,upon→Zvr,upon_value→Zwp
open Go.Proofs.SlLaysF0 renaming n6→Zy2
open Go.Region renaming wanted→Zuu,ready→Zu1,binds→Zu6,Mode→Zv6
open Go.Result renaming andThen_ok→Zuq
open Go.Sem renaming run_bind→Zup,run_pure→Zut,run→Zu2
open Go.Shelf renaming Ren→Zxt
open Go.Sort renaming ahead→Zvz,heap_grow_old→Zy3
open Go.Value renaming ownBlock→Zvi
open Inhabited renaming default→Zuw
open Int renaming tmod→Zvh
open List renaming replicate→Zur,mem_cons→Zus,pairwise_iff_getElem→Zuz,getD→Zu3,mem_append→Zu9,getElem_of_mem→Zvb,pairwise_cons→Zvd,getElem_mem→Zve,range→Zvg,mem_append_right→Zvj,length_append→Zvm,nodup_append→Zvn,mem_append_left→Zvo,length→Zvq,all_eq_true→Zvt,map_cons→Zvx,drop_drop→Zv1,drop_left'→Zv2,mem_map→Zv7,getElem_set→Zwd,flatMap_cons→Zwf,drop_zero→Zwg,take_of_length_le→Zwh,mem_singleton→Zwj,mem_range→Zwk,length_drop→Zwm,flatten_cons→Zwo,take_one→Zwv,not_mem_nil→Zwy,replicate_succ→Zw1,eraseIdx_sublist→Zw7,take_append_of_le_length→Zxd,length_take→Zxh,ext_getElem→Zxi,length_cons→Zxm,length_eraseIdx_of_lt→Zxy,eq_nil_of_length_eq_zero→Zyf,getElem_cons_zero→Zyl,getElem_cons_succ→Zym,take_append_drop→Zyn,length_eq_zero_iff→Zyz
open List.Perm renaming swap→Zv9
open List.cons renaming injEq→Zyr
open Nat renaming le_refl→Zuv,le_trans→Zux,blt→Zuy,add_mul→Zu5,blt_eq→Zu8,not_lt→Zva,one_mul→Zvl,zero_le→Zvp,add_comm→Zvw,lt_or_ge→Zv0,mul_comm→Zv3,zero_add→Zv4,mod_lt→Zv5,le_succ→Zwa,lt_of_lt_of_le→Zwq,lt_or_gt_of_ne→Zwr,zero_mul→Zwx,lt_succ_self→Zw0,div_lt_of_lt_mul→Zw3,div_add_mod'→Zw4,mul_le_mul_right→Zxg,sub_zero→Zxq,eq_of_beq_eq_true→Zxu
open Option renaming map_some→Zvs,getD_some→Zxk,map_eq_some_iff→Zyd
open Option.some renaming inj→Zxr
open Prod renaming fst→Zvy
open Prod.mk renaming injEq→Zwi
open Std.Legacy.Range renaming forIn_eq_forIn_range'→Zy0
namespace Vc
open Go
theorem Zm3 {α:Type} (q:Ask α):∀ w:World,w.drawn≤(w.ask q).2.drawn:=by
  induction q with
  | done a=>intro w; exact Zuv _
  | ask what range k ih =>
    intro w
    simp only [World.ask]
    split
    · exact ih _ _
    · exact Zux (Zwa _) (ih _ { w with drawn:=w.drawn+1 })
theorem Zm4 (w:World) (c:Sys):w.drawn≤(w.sys c).2.drawn:=by
  unfold World.sys
  have:=Zm3 (Kernel.perform c w.os) w
  split
  · exact Zuv _
  · rename_i r os w1 _ h
    rw [h] at this
    exact this
theorem Zm5 {P:Program} {w w1:World} {a:Addr} {v:Value} {b:Bool} {l:List Addr} (h:w.farStore P a v b=.ok (w1,l)):w1.drawn=w.drawn:=by
  unfold World.farStore at h
  split at h
  · split at h
    · rename_i r hr
      injection h with h
      subst h
      unfold World.viewStore at hr
      simp only [bind,Except.bind,pure,Except.pure] at hr
      repeat' (first | (cases hr; done) | split at hr)
      all_goals (injection hr with hr; injection hr with hr; rw [← hr])
    · cases h
  · cases h
theorem Zcu {α : Type} {P : Program} (s : Sem α) : ∀ (w : World) (v : α) (w' : World), s.run P w = .ok v w' → w.drawn ≤ w'.drawn := by
  induction s with
  | pure a=>intro w v w' h; simp [Zu2] at h; obtain ⟨_,rfl⟩:=h; exact Zuv _
  | load m a k ih =>
    intro w v w' h
    simp only [Zu2] at h
    split at h
    · exact ih _ _ _ _ h
    · split at h
      · exact ih _ _ _ _ h
      · cases h
  | store m a v k ih =>
    intro w u w' h
    have key:∀ w1,k.run P w1=.ok u w'→w1.drawn=w.drawn→w.drawn≤w'.drawn:=fun w1 h1 h2=>h2 ▸ ih _ _ _ h1
    have hs:(match w.cell? a with
      | some _=>if w.frozen? a then(.halt (.unsupported (.unsafePointer "a write to bytes that a string shares")) w:Result α) else k.run P (w.setCell a v)
      | none => match w.farStore P a v (m == Go.Mode.atomic) with
        | .ok (w,_)=>k.run P w
        | .error h=>.halt h w)=.ok u w':=by
      cases v <;> first | exact h | (simp [Zu2] at h)
    split at hs
    · split at hs
      · cases hs
      · exact key _ hs rfl
    · split at hs
      · rename_i hf
        exact key _ hs (Zm5 hf)
      · cases hs
  | new o k ih=>intro w v w' h; have:=ih w.heap.size { w with heap:=w.heap.push o } v w' h; exact this
  | shape r k ih=>intro w v w' h; exact ih _ _ _ _ h
  | freeze a n k ih =>
    intro w v w' h
    have:=ih _ _ _ h
    unfold World.freeze at this
    split at this <;> exact this
  | frozen a k ih=>intro w v w' h; exact ih _ _ _ _ h
  | getObj r k ih =>
    intro w v w' h
    simp only [Zu2] at h
    split at h
    · cases h
    · exact ih _ _ _ _ h
    · cases h
  | setObj r o k ih =>
    intro w v w' h
    simp only [Zu2] at h
    split at h
    · cases h
    · have:=ih { w with heap:=w.heap.setIfInBounds r o } v w' h
      exact this
    · cases h
  | choose q k ih =>
    intro w v w' h
    simp only [Zu2] at h
    split at h
    · exact ih _ _ _ _ h
    · exact Zux (Zwa _) (ih _ _ _ _ h)
  | sys c k ih =>
    intro w v w' h
    exact Zux (Zm4 w c) (ih _ _ _ _ h)
  | program k ih=>intro w v w' h; exact ih _ _ _ _ h
  | mark m k ih=>intro w v w' h; exact ih _ _ _ h
  | halt h=>intro w v w' hh; simp [Zu2] at hh
end Vc
namespace Vc
open Go
abbrev Env:=Nat→Value
def upd (e:Env) (d:Nat) (v:Value):Env:=fun i=>bif Nat.beq i d then v else e i
def actOf (n:Nat) (e:Env):Act:=⟨Array.ofFn (n:=n) (fun i=>e i.val),[]⟩
def ev (n:Nat) (e:Env):Operand→Value
  | .tmp t=>bif Zuy t n then e t else undef
  | .const v=>v
  | .global g=>.pointer (some ⟨g,0,none⟩)
  | .func f=>.func (.func f) #[] #[]
theorem Zad (n : Nat) (e : Env) : (actOf n e).eval = ev n e := by
  funext x
  cases x with
  | tmp t =>
    simp only [Act.eval,actOf,ev]
    by_cases h:t < n
    · simp [Zu4,h,show Zuy t n=true by rw [Zu8]; exact h]
    · simp [Zu4,h,show Zuy t n=false by
        cases hb:Zuy t n with
        | false=>rfl
        | true=>rw [Zu8] at hb; exact absurd hb h]
  | _=>rfl
theorem Zm6 {i d:Nat} (h:i≠d):Nat.beq i d=false:=by
  cases hb:Nat.beq i d with
  | false=>rfl
  | true=>exact absurd (Zxu hb) h
theorem Zbu (n:Nat) (e:Env) (d:Nat) (v:Value):(actOf n e).put (some d) v=actOf n (upd e d v):=by
  simp only [Act.put,actOf]
  congr 1
  apply Array.ext
  · simp
  · intro i h1 h2
    by_cases hd:d=i
    · subst hd; simp [upd,Nat.beq_refl]
    · have h3:i < n:=by simpa using h2
      rw [Array.getElem_setIfInBounds_ne (by simpa using h3) hd]
      simp [upd,Zm6 (Ne.symm hd)]
theorem Zm7 {i d:Nat} (h:i≠d):Nat.beq i d=false:=by
  cases hb:Nat.beq i d with
  | false=>rfl
  | true=>exact absurd (Zxu hb) h
theorem Zm8 {e:Env} {d:Nat} {v:Value} (h:e d=v):upd e d v=e:=by
  funext i; unfold upd
  by_cases hi:i=d
  · subst hi; simp [Nat.beq_refl,h]
  · simp [Zm7 hi]
structure W (P:Program) (ops:Array Oper) (Q:Exit→Act→World→Prop) (l:List Oper) (n:Nat) (e:Env) (w:World):Prop where
  out:wpList P ops Q l (actOf n e) w
section
variable {P:Program} {ops:Array Oper} {Q:Exit→Act→World→Prop} {n:Nat} {e:Env} {w w':World} {rest:List Oper} {o:Oper}
theorem Yv {d:Nat} (v:Value) (hg:o.guard=none) (hd:o.dst=some d) (hr:(execOp (ev n e) o).run P w=.ok (.value v) w')
    (h:W P ops Q rest n (upd e d v) w'):W P ops Q (o::rest) n e w:=by
  refine⟨?_⟩
  unfold wpList
  rw [if_pos (by simp [Zuu,hg])]
  refine .inl ?_
  unfold Zvc
  rw [Zad,hr,Zwp,hd,Zbu]
  exact h.out
theorem Zdy (hg:o.guard=none) (hd:o.dst=none) (hr:(execOp (ev n e) o).run P w=.ok .skip w')
    (h:W P ops Q rest n e w'):W P ops Q (o::rest) n e w:=by
  refine⟨?_⟩
  unfold wpList
  rw [if_pos (by simp [Zuu,hg])]
  refine .inl ?_
  unfold Zvc
  rw [Zad,hr,Oper.upon_skip,hd]
  exact h.out
def Xu (ops:Array Oper) (n:Nat) (e:Env) (g:Nat):Option Bool :=
  match (ops[g]?).bind (·.dst) with
  | some d=>if d < n then(match e d with | .bool b=>some b | _=>none) else none
  | none=>none
theorem Zbv (g:Nat):yielded ops (actOf n e).tmps g=Xu ops n e g:=by
  unfold yielded Xu
  cases h:(ops[g]?).bind (·.dst) with
  | none=>rfl
  | some d =>
    simp only [Option.bind_some,actOf]
    by_cases hd:d < n
    · simp [hd]
      cases e d <;> rfl
    · simp [hd]
theorem stepG0 {g:Nat} {want b:Bool} {d:Nat} (hg:o.guard=some (g,want)) (hd:o.dst=some d) (hb:Xu ops n e g=some b) (hne:b≠want)
    (h:W P ops Q rest n (upd e d undef) w):W P ops Q (o::rest) n e w:=by
  refine⟨?_⟩
  unfold wpList
  rw [if_neg (by simp [Zuu,hg,Zbv,hb,hne]),hd,Zbu]
  exact h.out
theorem stepG1 {g:Nat} {want:Bool} {d:Nat} (v:Value) (hg:o.guard=some (g,want)) (hd:o.dst=some d) (hb:Xu ops n e g=some want)
    (hr:(execOp (ev n e) o).run P w=.ok (.value v) w')
    (h:W P ops Q rest n (upd e d v) w'):W P ops Q (o::rest) n e w:=by
  refine⟨?_⟩
  unfold wpList
  rw [if_pos (by simp [Zuu,hg,Zbv,hb])]
  refine .inl ?_
  unfold Zvc
  rw [Zad,hr,Zwp,hd,Zbu]
  exact h.out
theorem Zjp {d:Nat} (f:FuncId) (args:Array Value) (R:Ending→World→Prop) (hw:∀ g b,o.guard=some (g,b)→Xu ops n e g=some b) (hd:o.dst=some d)
    (hr:(execOp (ev n e) o).run P w=.ok (.enter f args) w') (hc:Calls P f args w' R)
    (h:∀ ret w'',R ret w''→∃ v,ret=.returned v∧W P ops Q rest n (upd e d v) w''):W P ops Q (o::rest) n e w:=by
  refine⟨?_⟩
  unfold wpList
  rw [if_pos (by
    unfold Zuu
    cases hg:o.guard with
    | none=>rfl
    | some gb=>obtain ⟨g,b⟩:=gb; simp [Zbv,hw g b hg])]
  refine .inl ?_
  unfold Zvc
  rw [Zad,hr,Oper.upon_enter]
  refine hc.mono fun ret w'' hR=>?_
  obtain ⟨v,rfl,hk⟩:=h ret w'' hR
  show wpList P ops Q rest ((actOf n e).put o.dst v) w''
  rw [hd,Zbu]
  exact hk.out
theorem Zm {id:Nat} {l:List Oper} (h:W P l.toArray Q l n e w):(Code.region id l.toArray false).wp P Q (actOf n e) w:=wp_region_lit h.out
theorem Zq {c:Operand} {x y:Code} {b:Bool} (hc:ev n e c=.bool b) (ht:b=true→x.wp P Q (actOf n e) w) (hf:b=false→y.wp P Q (actOf n e) w) :
    (Code.cond c x y).wp P Q (actOf n e) w:=wp_cond_split (by rw [Zad]; exact hc) ht hf
theorem Z8 {c:Operand} {x y:Code} {b:Bool} (hc:ev n e c=.bool b) (hb:b=true) (h:x.wp P Q (actOf n e) w):(Code.cond c x y).wp P Q (actOf n e) w:=wp_cond_true (by rw [Zad,hc,hb]) h
theorem Z9 {c:Operand} {x y:Code} {b:Bool} (hc:ev n e c=.bool b) (hb:b=false) (h:y.wp P Q (actOf n e) w):(Code.cond c x y).wp P Q (actOf n e) w:=wp_cond_false (by rw [Zad,hc,hb]) h
def Zfy (args:List Value):Env:=fun i=>(args[i]?).getD undef
theorem Zm9 {f:FuncId} {fn:Func} {c:Code} {args:List Value} {w:World} {R:Ending→World→Prop}
    (hf:P.funcs[f]? = some fn) (hb:fn.body=some c) (n:Nat) (hn:fn.ntmps=n) (hl:args.length≤n)
    (h:c.wp P (bodyPost P fn R) (actOf n (Zfy args)) w):Calls P f args.toArray w R:=by
  refine calls_of_wp hf hb ?_
  have:({ tmps:=args.toArray++Array.replicate (fn.ntmps - args.toArray.size) undef,defers:=[] }:Act)=actOf n (Zfy args):=by
    unfold actOf
    congr 1
    apply Array.ext
    · simp [hn]; omega
    · intro i h1 h2
      simp only [Array.getElem_ofFn,Zfy]
      by_cases hi:i < args.length
      · rw [Array.getElem_append_left (by simpa using hi)]; simp [hi]
      · rw [Array.getElem_append_right (by simpa using hi)]; simp [hi]
  rw [this]; exact h
end
end Vc
namespace Vc
open Go Go.RowKit
structure Bel (w w':World):Prop extends Below w.heap.size w w' where
  drawn:w.drawn≤w'.drawn
theorem Bel.refl (w:World):Bel w w:=⟨Below.refl _ _,Zuv _⟩
theorem Bel.trans {a b c:World} (h:Bel a b) (k:Bel b c):Bel a c:=⟨h.toBelow.trans (k.toBelow.mono h.size),Zux h.drawn k.drawn⟩
theorem Bel.alloc (w:World) (o:Obj):Bel w (w.alloc o):=⟨(Below.refl _ _).alloc (Zuv _) _,Zuv _⟩
structure Item where
  fp:List Nat
  holds:World→Prop
  keep:∀ w w':World,(∀ b,b∈fp→w'.heap[b]? = w.heap[b]?)→holds w→holds w'
  low:∀ w:World,holds w→∀ b,b∈fp→b < w.heap.size
theorem Zak {w:World} {b:Nat} {o:Obj} (h:w.heap[b]? = some o):b < w.heap.size:=(Array.getElem?_eq_some_iff.1 h).1
def blk (b t:Nat) (cs:List Value):Item where
  fp:=[b]
  holds w:=w.heap[b]? = some (.cells cs.toArray t (0,0))
  keep _ _ h hw:=(h b (by simp)).trans hw
  low _ hw c hc := by obtain rfl : c = b := by simpa using hc
                      exact Zak hw
def own (t sz : Nat) (v : Value) (n : Nat) (cs : List Value) : Item where
  fp:=v.ownBlock.toList
  holds w:=w.ownsRow 0 t sz v n cs
  keep w w' h hw:=by
    obtain ⟨h1,h2⟩:=hw
    refine⟨h1,?_⟩
    rcases h2 with h2 | ⟨g,cap,cur,rfl,hg,hh,r⟩
    · exact .inl h2
    · exact .inr ⟨g,cap,cur,rfl,hg,(h g (by simp [Zvi])).trans hh,r⟩
  low w hw b hb := by
    rcases hw.2 with ⟨rfl,_⟩ | ⟨g,cap,cur,rfl,_,hh,_⟩
    · simp [Zvi] at hb
    · obtain rfl:b=g:=by simpa [Zvi] using hb
      exact Zak hh
def rdr (sz : Nat) (v : Value) (n : Nat) (cs : List Value) (fp : List Nat) : Item where
  fp:=fp
  holds w:=(∀ b,b∈fp→b < w.heap.size)∧cs.length=n * sz∧n≤maxLen ∧
    ∃ A c,v=.slice A n c∧n≤c∧(0 < n→∃ a,A=some a∧a.block∈fp∧∀ j u,cs[j]? = some u→w.cell? (a.add j)=some u)
  keep w w' h hw:=by
    obtain ⟨h0,h1,h2,A,c,rfl,hnc,h3⟩:=hw
    refine⟨fun b hb=>?_,h1,h2,A,c,rfl,hnc,fun hn=>?_⟩
    · have:=h0 b hb
      have e:=h b hb
      rcases Zv0 b w'.heap.size with hl | hl
      · exact hl
      · rw [Array.getElem?_eq_none hl,Array.getElem?_eq_getElem this] at e; cases e
    · obtain ⟨a,rfl,ha,hc⟩:=h3 hn
      refine⟨a,rfl,ha,fun j u hj=>?_⟩
      have hb:(a.add j).block=a.block:=by unfold Zwc; split <;> rfl
      exact(World.cell?_of_block (by rw [hb]; exact h _ ha)).trans (hc j u hj)
  low _ hw:=hw.1
def Item.and (a b : Item) : Item where
  fp:=a.fp++b.fp
  holds w:=a.holds w∧b.holds w
  keep w w' h hw:=⟨a.keep w w' (fun x hx=>h x (Zvo _ hx)) hw.1,b.keep w w' (fun x hx=>h x (Zvj _ hx)) hw.2⟩
  low w hw x hx:=by
    rcases Zu9.1 hx with h | h
    · exact a.low w hw.1 x h
    · exact b.low w hw.2 x h
structure Ctx (X:Nat→Prop) (w0 w:World) (M Ps:List Item):Prop where
  os:w.os=w0.os
  tape:w.tape=w0.tape
  output:w.output=w0.output
  size:w0.heap.size≤w.heap.size
  drawn:w0.drawn≤w.drawn
  old:∀ b,b < w0.heap.size→¬ X b→w.heap[b]? = w0.heap[b]?
  m:∀ it,it∈M→it.holds w
  p:∀ it,it∈Ps→it.holds w
  mfp:∀ it,it∈M→∀ b,b∈it.fp→w0.heap.size≤b∨X b
  dis:M.Pairwise (fun a b=>∀ x,x∈a.fp→x∉b.fp)
  pd:∀ it,it∈Ps→∀ b,b∈it.fp→∀ m,m∈M→b∉m.fp
def Nox:Nat→Prop:=fun _=>False
namespace Ctx
variable {X:Nat→Prop} {w0 w w':World} {M Ps:List Item}
theorem getM (h:Ctx X w0 w M Ps) {it:Item} (k:Nat) (hk:M[k]? = some it):it.holds w:=h.m it (List.mem_of_getElem? hk)
theorem getP (h:Ctx X w0 w M Ps) {it:Item} (k:Nat) (hk:Ps[k]? = some it):it.holds w:=h.p it (List.mem_of_getElem? hk)
theorem start (w:World) (Ps:List Item) (h:∀ it,it∈Ps→it.holds w):Ctx X w w [] Ps :=
  ⟨rfl,rfl,rfl,Zuv _,Zuv _,fun _ _ _=>rfl,by simp,h,by simp,.nil,by simp⟩
theorem below (h:Ctx Nox w0 w M Ps):Bel w0 w:=⟨⟨h.os,h.tape,h.output,h.size,fun k hk=>h.old k hk (fun x=>x)⟩,h.drawn⟩
theorem grow (h:Ctx X w0 w M Ps) (hb:Bel w w'):Ctx X w0 w' M Ps where
  os:=hb.os.trans h.os
  tape:=hb.tape.trans h.tape
  output:=hb.output.trans h.output
  size:=Zux h.size hb.size
  drawn:=Zux h.drawn hb.drawn
  old b hb' hx:=(hb.block b (Zwq hb' h.size)).trans (h.old b hb' hx)
  m it hi:=it.keep w w' (fun b hbf=>hb.block b (it.low w (h.m it hi) b hbf)) (h.m it hi)
  p it hi:=it.keep w w' (fun b hbf=>hb.block b (it.low w (h.p it hi) b hbf)) (h.p it hi)
  mfp:=h.mfp
  dis:=h.dis
  pd:=h.pd
theorem push (h:Ctx X w0 w M Ps) (hb:Bel w w') (it:Item) (hi:it.holds w') (hf:∀ b,b∈it.fp→w.heap.size≤b):Ctx X w0 w' (it::M) Ps :=
  have g:=h.grow hb
  { g with
    m := fun j hj => by
      rcases Zus.1 hj with hj | hj
      · exact hj ▸ hi
      · exact g.m j hj
    mfp:=fun j hj b hb=>by
      rcases Zus.1 hj with rfl | hj
      · exact .inl (Zux h.size (hf b hb))
      · exact g.mfp j hj b hb
    dis:=Zvd.2 ⟨fun j hj x hx hx'=>absurd (j.low w (h.m j hj) x hx') (Zva.2 (hf x hx)),g.dis⟩
    pd:=fun j hj b hb m hm hbm=>by
      rcases Zus.1 hm with rfl | hm
      · exact absurd (j.low w (h.p j hj) b hb) (Zva.2 (hf b hbm))
      · exact g.pd j hj b hb m hm hbm }
theorem pushP (h:Ctx X w0 w M Ps) (it:Item) (hi:it.holds w) (hf:∀ b,b∈it.fp→∀ m,m∈M→b∉m.fp):Ctx X w0 w M (it::Ps) :=
  { h with
    p := fun j hj => by
      rcases Zus.1 hj with hj | hj
      · exact hj ▸ hi
      · exact h.p j hj
    pd:=fun j hj b hb m hm hbm=>by
      rcases Zus.1 hj with rfl | hj
      · exact hf b hb m hm hbm
      · exact h.pd j hj b hb m hm hbm }
theorem derive (h:Ctx X w0 w M Ps) (k:Nat) {it:Item} (hk:Ps[k]? = some it) (jt:Item) (hj:it.holds w→jt.holds w) (hf:∀ b,b∈jt.fp→b∈it.fp):Ctx X w0 w M (jt::Ps) :=
  h.pushP jt (hj (h.getP k hk)) (fun b hb m hm=>h.pd it (List.mem_of_getElem? hk) b (hf b hb) m hm)
theorem turn (h:Ctx X w0 w M Ps) (k:Nat) {it jt:Item} (hk:M[k]? = some it)
    (hos:w'.os=w.os) (hta:w'.tape=w.tape) (hou:w'.output=w.output) (hsz:w.heap.size≤w'.heap.size) (hdr:w.drawn≤w'.drawn)
    (hb:∀ b,b < w.heap.size→b∉it.fp→w'.heap[b]? = w.heap[b]?) (hj:jt.holds w') (hf:∀ b,b∈jt.fp→b∈it.fp∨w.heap.size≤b) :
    Ctx X w0 w' (M.set k jt) Ps:=by
  have hmem:it∈M:=List.mem_of_getElem? hk
  have hlt:k < M.length:=(List.getElem?_eq_some_iff.1 hk).1
  have hget:M[k]=it:=(List.getElem?_eq_some_iff.1 hk).2
  -- the other items
  have sep:∀ i (hi:i < M.length),i≠k→∀ x,x∈(M[i]).fp→x∉it.fp:=by
    intro i hi hne x hx hx'
    rcases Zwr hne with hl | hl
    · exact(Zuz.1 h.dis i k hi hlt hl) x hx (hget ▸ hx')
    · exact(Zuz.1 h.dis k i hlt hi hl) x (hget ▸ hx') hx
  refine⟨hos.trans h.os,hta.trans h.tape,hou.trans h.output,Zux h.size hsz,Zux h.drawn hdr,?_,?_,?_,?_,?_,?_⟩
  · intro b hb0 hx
    rw [hb b (Zwq hb0 h.size) (fun hbi=>?_)]
    · exact h.old b hb0 hx
    · rcases h.mfp it hmem b hbi with h' | h'
      · omega
      · exact hx h'
  · intro x hx
    obtain ⟨i,hi,hxi⟩:=Zvb hx
    rw [Zwd] at hxi
    split at hxi
    · subst hxi; exact hj
    · rename_i hne
      have hi':i < M.length:=by simpa using hi
      subst hxi
      exact(M[i]).keep w w' (fun b hbf=>hb b ((M[i]).low w (h.m _ (Zve hi')) b hbf) (sep i hi' (fun e=>hne e.symm) b hbf)) (h.m _ (Zve hi'))
  · intro x hx
    exact x.keep w w' (fun b hbf=>hb b (x.low w (h.p x hx) b hbf) (h.pd x hx b hbf it hmem)) (h.p x hx)
  · intro x hx b hbx
    obtain ⟨i,hi,hxi⟩:=Zvb hx
    rw [Zwd] at hxi
    split at hxi
    · subst hxi
      rcases hf b hbx with h' | h'
      · exact h.mfp it hmem b h'
      · exact .inl (Zux h.size h')
    · have hi':i < M.length:=by simpa using hi
      subst hxi
      exact h.mfp _ (Zve hi') b hbx
  · rw [Zuz]
    intro i j hi hj' hij x hx hx'
    have hi':i < M.length:=by simpa using hi
    have hj'':j < M.length:=by simpa using hj'
    rw [Zwd] at hx hx'
    split at hx <;> split at hx'
    · omega
    · rename_i e1 e2
      rcases hf x hx with h' | h'
      · exact sep j hj'' (fun e=>e2 e.symm) x hx' h'
      · exact absurd ((M[j]).low w (h.m _ (Zve hj'')) x hx') (Zva.2 h')
    · rename_i e1 e2
      rcases hf x hx' with h' | h'
      · exact sep i hi' (fun e=>e1 e.symm) x hx h'
      · exact absurd ((M[i]).low w (h.m _ (Zve hi')) x hx) (Zva.2 h')
    · exact(Zuz.1 h.dis i j hi' hj'' hij) x hx hx'
  · intro x hx b hbx m hm hbm
    obtain ⟨i,hi,hmi⟩:=Zvb hm
    rw [Zwd] at hmi
    split at hmi
    · subst hmi
      rcases hf b hbm with h' | h'
      · exact h.pd x hx b hbx it hmem h'
      · exact absurd (x.low w (h.p x hx) b hbx) (Zva.2 h')
    · have hi':i < M.length:=by simpa using hi
      subst hmi
      exact h.pd x hx b hbx _ (Zve hi') hbm
theorem sub (h:Ctx X w0 w M Ps) {M' Ps':List Item} (hm:M'.Sublist M) (hp:∀ it,it∈Ps'→it∈Ps):Ctx X w0 w M' Ps' :=
  { h with
    m:=fun it hi=>h.m it (hm.subset hi)
    p:=fun it hi=>h.p it (hp it hi)
    mfp:=fun it hi=>h.mfp it (hm.subset hi)
    dis:=h.dis.sublist hm
    pd:=fun it hi b hb m hm'=>h.pd it (hp it hi) b hb m (hm.subset hm') }
theorem thaw (h:Ctx X w0 w M Ps) (k:Nat) {it:Item} (hk:M[k]? = some it) (jt:Item) (hj:it.holds w→jt.holds w) (hf:∀ b,b∈jt.fp→b∈it.fp):Ctx X w0 w (M.eraseIdx k) (jt::Ps):=by
  have g:=h.sub (M':=M.eraseIdx k) (Ps':=Ps) (Zw7 ..) (fun _ x=>x)
  refine g.pushP jt (hj (h.getM k hk)) (fun b hb m hm hbm=>?_)
  have hlt:k < M.length:=(List.getElem?_eq_some_iff.1 hk).1
  have hget:M[k]=it:=(List.getElem?_eq_some_iff.1 hk).2
  obtain ⟨i,hi,hmi⟩:=Zvb hm
  rw [List.getElem_eraseIdx] at hmi
  split at hmi
  · rename_i hik
    subst hmi
    exact(Zuz.1 h.dis i k (by omega) hlt hik) b hbm (hget ▸ hf b hb)
  · rename_i hik
    have hi2:i < M.length - 1:=by rw [Zxy hlt] at hi; exact hi
    subst hmi
    exact(Zuz.1 h.dis k (i+1) hlt (by omega) (by omega)) b (hget ▸ hf b hb) hbm
end Ctx
end Vc
namespace Vc
open Go Go.RowKit
def AggT (P:Program) (t sz:Nat):Prop:=(∃ d,P.underlying t=some d∧(match d with | .struct _ | .array _ _=>true | _=>false)=true)∧(P.info? t).map (·.size)=some sz
def ScaT (P:Program) (t:Nat):Prop:=(∃ d,P.underlying t=some d∧(match d with | .struct _ | .array _ _=>true | _=>false)=false)∧(P.info? t).map (·.size)=some 1
def Xc (P:Program) (t:Nat) (z:Value):Prop:=(P.info? t).map (·.zero)=some (some z)
def Xk (P:Program) (t sz:Nat):Prop:=(P.info? t).map (·.size)=some sz
theorem AggT.size {P:Program} {t sz:Nat} (h:AggT P t sz):Xk P t sz:=h.2
theorem ScaT.size {P:Program} {t:Nat} (h:ScaT P t):Xk P t 1:=h.2
theorem Zjq {P:Program} {t sz:Nat} (h:AggT P t sz) (w:World):(isAgg t).run P w=.ok true w:=by
  obtain ⟨⟨d,hu,hd⟩,_⟩:=h
  unfold isAgg
  rw [Zup,run_underlying hu w]
  cases d <;> simp_all
theorem Zbw {P:Program} {t:Nat} (h:ScaT P t) (w:World):(isAgg t).run P w=.ok false w:=by
  obtain ⟨⟨d,hu,hd⟩,_⟩:=h
  unfold isAgg
  rw [Zup,run_underlying hu w]
  cases d <;> simp_all
theorem Jt {P:Program} {t sz:Nat} (h:Xk P t sz) (w:World):(Go.sizeOf t).run P w=.ok sz w:=by
  unfold Xk at h
  cases hq:P.info? t with
  | none=>simp [hq] at h
  | some i =>
    have hs:i.size=sz:=by simpa [hq] using h
    simp [Go.sizeOf,typeInfo,hq,hs]
theorem Zfz {P:Program} {t:Nat} {z:Value} (h:Xc P t z) (w:World):(zeroValue t).run P w=.ok z w:=by
  unfold Xc at h
  cases hq:P.info? t with
  | none=>simp [hq] at h
  | some i =>
    have hs:i.zero=some z:=by simpa [hq] using h
    simp [zeroValue,typeInfo,hq,hs]
def Xh (w:World) (a:Addr) (seg:List Value):Prop:=∀ j u,seg[j]? = some u→w.cell? (a.add j)=some u
theorem Zae (g o j:Nat):(⟨g,o,none⟩:Addr).add j=⟨g,o+j,none⟩:=by unfold Zwc; split <;> simp_all
theorem Zbd {a:Addr} (i j:Nat):(a.add i).add j=a.add (i+j):=by
  unfold Zwc
  by_cases hi:i=0
  · subst hi; simp
  · by_cases hj:j=0
    · subst hj; simp [hi]
    · rw [if_neg hi,if_neg hj,if_neg (by omega)]
      simp [Nat.add_assoc]
theorem Zbx {w:World} {b t off sz:Nat} {cs seg:List Value} (h:(blk b t cs).holds w) (hs:(cs.drop off).take sz=seg):Xh w ⟨b,off,none⟩ seg:=by
  intro j u hj
  rw [Zae,cell_of_row w b _ cs.toArray t (0,0) h]
  rw [← hs] at hj
  simp only [List.getElem?_take] at hj
  split at hj
  · simpa using hj
  · cases hj
theorem Zcv {P:Program} {w:World} {t sz:Nat} {a:Addr} {seg:List Value} (hT:AggT P t sz) (hc:Xh w a seg) (hl:seg.length=sz) :
    (loadVar t a).run P w=.ok (.agg seg.toArray) w:=by
  have h1:(loadCells a sz).run P w=.ok seg.toArray w:=by
    rw [← hl]; exact run_loadCells_list (P:=P) w a seg hc
  unfold loadVar
  simp only [Zup,Zjq hT,Zuq,if_true,Jt hT.size,h1,Zut]
theorem Zdz {P:Program} {w:World} {t:Nat} {a:Addr} {v:Value} (hT:ScaT P t) (hc:Xh w a [v]) :
    (loadVar t a).run P w=.ok v w:=by
  have h0:w.cell? a=some v:=by have:=hc 0 v rfl; simpa [Zwc] using this
  unfold loadVar
  simp only [Zup,Zbw hT,Zuq]
  simp [h0]
def Yz (cs:List Value) (off:Nat) (vc:List Value):List Value:=cs.take off++vc++cs.drop (off+vc.length)
theorem Zjr {P:Program} {w:World} {b t ty off sz:Nat} {cs vc:List Value} {v:Value} (hT:Xk P ty sz) (h:(blk b t cs).holds w)
    (hv:v.cells.toList=vc) (hl:vc.length=sz) (h1:vc.all (·.oneCell')=true) (ho:off+sz≤cs.length) :
    ∃ w', (storeVar ty ⟨b, off, none⟩ v).run P w = .ok () w' ∧ (blk b t (Yz cs off vc)).holds w' ∧ w'.os = w.os ∧ w'.tape = w.tape ∧ w'.output = w.output ∧ w'.heap.size = w.heap.size ∧
      ∀ k,k≠b→w'.heap[k]? = w.heap[k]? := by
  have hs:v.cells.size=sz:=by rw [← Zwt,hv,hl]
  have hr:=run_storeCells_at (P:=P) b off t vc 0 cs.toArray w h (by simp; omega) (by simpa using h1)
  refine⟨w.setRow b (cs.take off++vc++cs.drop (off+vc.length)).toArray,?_,?_,rfl,rfl,rfl,?_,?_⟩
  · unfold storeVar
    simp only [Zup,Jt hT,Zuq,hs,ne_eq,not_true_eq_false,if_false,hv]
    simpa using hr
  · show (World.setRow _ _ _).heap[b]? = _
    rw [setRow_heap w b _ _ t _ h]
    simp [Yz]
  · simp
  · intro k hk
    exact setRow_other w b k _ hk
section
variable {P:Program} {ops:Array Oper} {Q:Exit→Act→World→Prop} {n:Nat} {e:Env} {w w':World} {rest:List Oper}
variable {X:Nat→Prop} {w0:World} {M Ps:List Item}
variable {d ty:Nat} {pos:String} {af:Array Edge} {gd:Option (Nat×Bool)}
theorem Zi {l : List Oper} {op : Op} {dst : Option Nat} (g : Nat) {want : Bool} (dg : Nat) (hd : (l[g]?).bind (·.dst) = some dg) {b : Bool} (hv : ev n e (.tmp dg) = .bool b) (hb : b = want)
    (h:W P l.toArray Q (⟨dst,op,ty,pos,af,none⟩::rest) n e w):W P l.toArray Q (⟨dst,op,ty,pos,af,some (g,want)⟩::rest) n e w:=by
  have hy:yielded l.toArray (actOf n e).tmps g=some want:=by
    rw [Zbv]
    unfold Xu
    rw [List.getElem?_toArray,hd]
    simp only [ev] at hv
    by_cases hdn:dg < n
    · have hbt:Zuy dg n=true:=by rw [Zu8]; exact hdn
      rw [hbt] at hv
      simp only [cond_true] at hv
      simp [hdn,hv,hb]
    · have hbt:Zuy dg n=false:=by
        cases hq:Zuy dg n with
        | false=>rfl
        | true=>rw [Zu8] at hq; exact absurd hq hdn
      rw [hbt] at hv
      simp [undef] at hv
  obtain ⟨h⟩:=h
  refine⟨?_⟩
  unfold wpList at h ⊢
  rw [if_pos (by simp [Zuu])] at h
  rw [if_pos (by simp [Zuu,hy])]
  exact h
theorem Zh {l:List Oper} {op:Op} (g:Nat) {want:Bool} (dg:Nat) (hd:(l[g]?).bind (·.dst)=some dg) {b:Bool} (hv:ev n e (.tmp dg)=.bool b) (hb:b≠want)
    (h:W P l.toArray Q rest n (upd e d undef) w):W P l.toArray Q (⟨some d,op,ty,pos,af,some (g,want)⟩::rest) n e w:=by
  refine stepG0 (g:=g) (want:=want) (b:=b) (d:=d) rfl rfl ?_ hb h
  unfold Xu
  rw [List.getElem?_toArray,hd]
  simp only [ev] at hv
  by_cases hdn:dg < n
  · have hbt:Zuy dg n=true:=by rw [Zu8]; exact hdn
    rw [hbt] at hv
    simp only [cond_true] at hv
    simp [hdn,hv]
  · have hbt:Zuy dg n=false:=by
      cases hq:Zuy dg n with
      | false=>rfl
      | true=>rw [Zu8] at hq; exact absurd hq hdn
    rw [hbt] at hv
    simp [undef] at hv
theorem X7 {l:List Oper} {op:Op} (g:Nat) {want:Bool} (dg:Nat) (hd:(l[g]?).bind (·.dst)=some dg) (hv:ev n e (.tmp dg)=undef)
    (h:W P l.toArray Q rest n (upd e d undef) w):W P l.toArray Q (⟨some d,op,ty,pos,af,some (g,want)⟩::rest) n e w:=by
  have hy:yielded l.toArray (actOf n e).tmps g=none:=by
    rw [Zbv]
    unfold Xu
    rw [List.getElem?_toArray,hd]
    simp only [ev] at hv
    by_cases hdn:dg < n
    · have hbt:Zuy dg n=true:=by rw [Zu8]; exact hdn
      rw [hbt] at hv
      simp only [cond_true] at hv
      simp [hdn,hv,undef]
    · simp [hdn]
  refine⟨?_⟩
  unfold wpList
  rw [if_neg (by simp [Zuu,hy]),Zbu]
  exact h.out
theorem done (h:Q .normal (actOf n e) w):W P ops Q [] n e w:=⟨h⟩
theorem Jo {x:Operand} {v:Value} (hx:ev n e x=v):(execOp (ev n e) ⟨some d,.move x,ty,pos,af,gd⟩).run P w=.ok (.value v) w :=
  (by simp [execOp,hx])
theorem Zb {x:Operand} {v:Value} (hx:ev n e x=v) (h:W P ops Q rest n (upd e d v) w):W P ops Q (⟨some d,.move x,ty,pos,af,none⟩::rest) n e w :=
  Yv v rfl rfl (by simp [execOp,hx]) h
theorem Zh3 {x:Operand} {v:Value} (hx:ev n e x=v):(execOp (ev n e) ⟨some d,.assign x,ty,pos,af,gd⟩).run P w=.ok (.value v) w :=
  (by simp [execOp,hx])
theorem Zc {x:Operand} {v:Value} (hx:ev n e x=v) (h:W P ops Q rest n (upd e d v) w):W P ops Q (⟨some d,.assign x,ty,pos,af,none⟩::rest) n e w :=
  Yv v rfl rfl (by simp [execOp,hx]) h
theorem Zjs {c x y:Operand} {b:Bool} {v:Value} (hc:ev n e c=.bool b) (hv:(bif b then ev n e x else ev n e y)=v):(execOp (ev n e) ⟨some d,.pick c x y,ty,pos,af,gd⟩).run P w=.ok (.value v) w :=
  (by cases b <;> simp [execOp,hc,asBool] at hv ⊢ <;> exact hv)
theorem Z0 {c x y:Operand} {b:Bool} {v:Value} (hc:ev n e c=.bool b) (hv:(bif b then ev n e x else ev n e y)=v) (h:W P ops Q rest n (upd e d v) w) :
    W P ops Q (⟨some d,.pick c x y,ty,pos,af,none⟩::rest) n e w :=
  Yv v rfl rfl (by cases b <;> simp [execOp,hc,asBool] at hv ⊢ <;> exact hv) h
theorem Zby {op:BinOp} {t t':Nat} {x y:Operand} {k:IntKind} {a b:Int} {r:Value} (hx:ev n e x=.int k a) (hy:ev n e y=.int k b) (hr:(binOp op t (.int k a) (.int k b)).run P w=.ok r w) :
    (execOp (ev n e) ⟨some d,.binOp op t x y t',ty,pos,af,gd⟩).run P w=.ok (.value r) w:=by
  have hq:(eqGuard op t x y (.int k a) (.int k b)).run P w=.ok () w:=by
    unfold eqGuard
    cases op <;> simp
  simp only [execOp,hx,hy,Zup,hq,Zuq,hr,Zut]
theorem Zal {op:BinOp} {t t':Nat} {x y:Operand} {k:IntKind} {a b:Int} (r:Value) (hx:ev n e x=.int k a) (hy:ev n e y=.int k b) (hr:(binOp op t (.int k a) (.int k b)).run P w=.ok r w)
    (h:W P ops Q rest n (upd e d r) w):W P ops Q (⟨some d,.binOp op t x y t',ty,pos,af,none⟩::rest) n e w:=by
  refine Yv r rfl rfl ?_ h
  have hq:(eqGuard op t x y (.int k a) (.int k b)).run P w=.ok () w:=by
    unfold eqGuard
    cases op <;> simp
  simp only [execOp,hx,hy,Zup,hq,Zuq,hr,Zut]
theorem Zjt {t t':Nat} {x y:Operand} {k:IntKind} {a b:Int} (hx:ev n e x=.int k a) (hy:ev n e y=.int k b)
    : (execOp (ev n e) ⟨some d,.binOp .add t x y t',ty,pos,af,gd⟩).run P w=.ok (.value (.int k (k.wrap (a+b)))) w :=
  Zby hx hy (by simp [binOp,Zvv])
theorem Zp {t t':Nat} {x y:Operand} {k:IntKind} {a b:Int} (hx:ev n e x=.int k a) (hy:ev n e y=.int k b)
    (h:W P ops Q rest n (upd e d (.int k (k.wrap (a+b)))) w):W P ops Q (⟨some d,.binOp .add t x y t',ty,pos,af,none⟩::rest) n e w :=
  Zal _ hx hy (by simp [binOp,Zvv]) h
theorem Zh4 {t t':Nat} {x y:Operand} {k:IntKind} {a b:Int} (hx:ev n e x=.int k a) (hy:ev n e y=.int k b)
    : (execOp (ev n e) ⟨some d,.binOp .sub t x y t',ty,pos,af,gd⟩).run P w=.ok (.value (.int k (k.wrap (a - b)))) w :=
  Zby hx hy (by simp [binOp,Zvv])
theorem Zaz {t t':Nat} {x y:Operand} {k:IntKind} {a b:Int} (hx:ev n e x=.int k a) (hy:ev n e y=.int k b)
    (h:W P ops Q rest n (upd e d (.int k (k.wrap (a - b)))) w):W P ops Q (⟨some d,.binOp .sub t x y t',ty,pos,af,none⟩::rest) n e w :=
  Zal _ hx hy (by simp [binOp,Zvv]) h
theorem Zd0 {t t':Nat} {x y:Operand} {k:IntKind} {a b:Int} (hx:ev n e x=.int k a) (hy:ev n e y=.int k b)
    : (execOp (ev n e) ⟨some d,.binOp .mul t x y t',ty,pos,af,gd⟩).run P w=.ok (.value (.int k (k.wrap (a * b)))) w :=
  Zby hx hy (by simp [binOp,Zvv])
theorem Zbe {t t':Nat} {x y:Operand} {k:IntKind} {a b:Int} (hx:ev n e x=.int k a) (hy:ev n e y=.int k b)
    (h:W P ops Q rest n (upd e d (.int k (k.wrap (a * b)))) w):W P ops Q (⟨some d,.binOp .mul t x y t',ty,pos,af,none⟩::rest) n e w :=
  Zal _ hx hy (by simp [binOp,Zvv]) h
theorem Zna {t t':Nat} {x y:Operand} {k:IntKind} {a b:Int} (hx:ev n e x=.int k a) (hy:ev n e y=.int k b) (h0:b≠0)
    : (execOp (ev n e) ⟨some d,.binOp .rem t x y t',ty,pos,af,gd⟩).run P w=.ok (.value (.int k (a.tmod b))) w :=
  Zby hx hy (by simp [binOp,Op.intDiv,h0])
theorem Jp {t t':Nat} {x y:Operand} {k:IntKind} {a b:Int} (hx:ev n e x=.int k a) (hy:ev n e y=.int k b) (h0:b≠0)
    (h:W P ops Q rest n (upd e d (.int k (a.tmod b))) w):W P ops Q (⟨some d,.binOp .rem t x y t',ty,pos,af,none⟩::rest) n e w :=
  Zal _ hx hy (by simp [binOp,Op.intDiv,h0]) h
theorem Zju {t t':Nat} {x y:Operand} {k:IntKind} {a b:Int} (hx:ev n e x=.int k a) (hy:ev n e y=.int k b)
    : (execOp (ev n e) ⟨some d,.binOp .eql t x y t',ty,pos,af,gd⟩).run P w=.ok (.value (.bool (decide (a=b)))) w :=
  Zby hx hy (by simp [binOp,Zvk,Zw8])
theorem Je {t t':Nat} {x y:Operand} {k:IntKind} {a b:Int} (hx:ev n e x=.int k a) (hy:ev n e y=.int k b)
    (h:W P ops Q rest n (upd e d (.bool (decide (a=b)))) w):W P ops Q (⟨some d,.binOp .eql t x y t',ty,pos,af,none⟩::rest) n e w :=
  Zal _ hx hy (by simp [binOp,Zvk,Zw8]) h
theorem Y4 {t t':Nat} {x y:Operand} {k:IntKind} {a b:Int} (hx:ev n e x=.int k a) (hy:ev n e y=.int k b)
    (h:W P ops Q rest n (upd e d (.bool (decide (a≠b)))) w):W P ops Q (⟨some d,.binOp .neq t x y t',ty,pos,af,none⟩::rest) n e w :=
  Zal _ hx hy (by simp [binOp,Zvk,bne]; rfl) h
theorem Znb {t t':Nat} {x y:Operand} {k:IntKind} {a b:Int} (hx:ev n e x=.int k a) (hy:ev n e y=.int k b)
    : (execOp (ev n e) ⟨some d,.binOp .lss t x y t',ty,pos,af,gd⟩).run P w=.ok (.value (.bool (decide (a < b)))) w :=
  Zby hx hy (by simp [binOp,Zvk])
theorem Zn {t t':Nat} {x y:Operand} {k:IntKind} {a b:Int} (hx:ev n e x=.int k a) (hy:ev n e y=.int k b)
    (h:W P ops Q rest n (upd e d (.bool (decide (a < b)))) w):W P ops Q (⟨some d,.binOp .lss t x y t',ty,pos,af,none⟩::rest) n e w :=
  Zal _ hx hy (by simp [binOp,Zvk]) h
theorem Zbz {t t':Nat} {x y:Operand} {k:IntKind} {a b:Int} (hx:ev n e x=.int k a) (hy:ev n e y=.int k b)
    (h:W P ops Q rest n (upd e d (.bool (decide (a≤b)))) w):W P ops Q (⟨some d,.binOp .leq t x y t',ty,pos,af,none⟩::rest) n e w :=
  Zal _ hx hy (by simp [binOp,Zvk]) h
theorem Zjv {t t':Nat} {x y:Operand} {k:IntKind} {a b:Int} (hx:ev n e x=.int k a) (hy:ev n e y=.int k b)
    : (execOp (ev n e) ⟨some d,.binOp .gtr t x y t',ty,pos,af,gd⟩).run P w=.ok (.value (.bool (decide (a > b)))) w :=
  Zby hx hy (by simp [binOp,Zvk])
theorem Xy {t t':Nat} {x y:Operand} {k:IntKind} {a b:Int} (hx:ev n e x=.int k a) (hy:ev n e y=.int k b)
    (h:W P ops Q rest n (upd e d (.bool (decide (a > b)))) w):W P ops Q (⟨some d,.binOp .gtr t x y t',ty,pos,af,none⟩::rest) n e w :=
  Zal _ hx hy (by simp [binOp,Zvk]) h
theorem Zbf {t t':Nat} {x y:Operand} {k:IntKind} {a b:Int} (hx:ev n e x=.int k a) (hy:ev n e y=.int k b)
    (h:W P ops Q rest n (upd e d (.bool (decide (a≥b)))) w):W P ops Q (⟨some d,.binOp .geq t x y t',ty,pos,af,none⟩::rest) n e w :=
  Zal _ hx hy (by simp [binOp,Zvk]) h
theorem Zh5 {t:Nat} {x:Operand} {b:Bool} (hx:ev n e x=.bool b):(execOp (ev n e) ⟨some d,.unOp .not t x,ty,pos,af,gd⟩).run P w=.ok (.value (.bool (!b))) w :=
  (by simp [execOp,hx,Op.unary])
theorem Xa {t:Nat} {x:Operand} {b:Bool} (hx:ev n e x=.bool b) (h:W P ops Q rest n (upd e d (.bool (!b))) w) :
    W P ops Q (⟨some d,.unOp .not t x,ty,pos,af,none⟩::rest) n e w :=
  Yv _ rfl rfl (by simp [execOp,hx,Op.unary]) h
theorem Zf0 {t:Nat} {x:Operand} {k:IntKind} {a:Int} (hx:ev n e x=.int k a) (h:W P ops Q rest n (upd e d (.int k (k.wrap (0 - a)))) w) :
    W P ops Q (⟨some d,.unOp .neg t x,ty,pos,af,none⟩::rest) n e w :=
  Yv _ rfl rfl (by simp [execOp,hx,Op.unary,Zvv]) h
theorem Zjw {src dst:Nat} {x:Operand} {k k':IntKind} {a:Int} {sd:TypeDesc} (hs:P.underlying src=some sd) (hd:P.underlying dst=some (.int k')) (hx:ev n e x=.int k a)
    : (execOp (ev n e) ⟨some d,.convert src dst x,ty,pos,af,gd⟩).run P w=.ok (.value (.int k' (k'.wrap a))) w :=
  (by
    simp only [execOp,hx,convert,Zup,run_underlying hs,run_underlying hd,Zuq]
    cases sd <;> simp [Conv.intToInt])
theorem Zf1 {src dst:Nat} {x:Operand} {k k':IntKind} {a:Int} {sd:TypeDesc} (hs:P.underlying src=some sd) (hd:P.underlying dst=some (.int k')) (hx:ev n e x=.int k a)
    (h:W P ops Q rest n (upd e d (.int k' (k'.wrap a))) w):W P ops Q (⟨some d,.convert src dst x,ty,pos,af,none⟩::rest) n e w :=
  Yv _ rfl rfl (by
    simp only [execOp,hx,convert,Zup,run_underlying hs,run_underlying hd,Zuq]
    cases sd <;> simp [Conv.intToInt]) h
theorem Ji {x:Operand} {i:Nat} {vs:Array Value} {v:Value} (hx:ev n e x=.tuple vs) (hv:vs[i]? = some v):(execOp (ev n e) ⟨some d,.extract x i,ty,pos,af,gd⟩).run P w=.ok (.value v) w :=
  (by simp [execOp,hx,Instr.extract,hv])
theorem Yu {x:Operand} {i:Nat} {vs:Array Value} {v:Value} (hx:ev n e x=.tuple vs) (hv:vs[i]? = some v) (h:W P ops Q rest n (upd e d v) w) :
    W P ops Q (⟨some d,.extract x i,ty,pos,af,none⟩::rest) n e w :=
  Yv v rfl rfl (by simp [execOp,hx,Instr.extract,hv]) h
theorem Zam {x:Operand} {a:Addr} (hx:ev n e x=.pointer (some a)):(execOp (ev n e) ⟨some d,.nilCheck x,ty,pos,af,gd⟩).run P w=.ok (.value (.pointer (some a))) w :=
  (by simp [execOp,hx])
theorem Zan {x:Operand} {a:Addr} (hx:ev n e x=.pointer (some a)) (h:W P ops Q rest n (upd e d (.pointer (some a))) w) :
    W P ops Q (⟨some d,.nilCheck x,ty,pos,af,none⟩::rest) n e w :=
  Yv _ rfl rfl (by simp [execOp,hx]) h
theorem Zjx {s:Nat} {x:Operand} {i:Nat} {a:Addr} {fs:Array Field} {f:Field} (hs:P.underlying s=some (.struct fs)) (hf:fs[i]? = some f) {sz:Nat} (hz:Xk P f.type (sz+1)) (hx:ev n e x=.pointer (some a))
    : (execOp (ev n e) ⟨some d,.fieldAddr s x i,ty,pos,af,gd⟩).run P w=.ok (.value (.pointer (some (a.add f.offset)))) w :=
  (by
    simp only [execOp,hx,Instr.fieldAt,Zup,run_underlying hs,Zuq,hf,Zu0,fieldPlace,Jt hz,Zut]
    simp)
theorem Zjy {s:Nat} {x:Operand} {i:Nat} {a:Addr} {fs:Array Field} {f:Field} (hs:P.underlying s=some (.struct fs)) (hf:fs[i]? = some f) {sz:Nat} (hz:Xk P f.type (sz+1)) (hx:ev n e x=.pointer (some a))
    (h:W P ops Q rest n (upd e d (.pointer (some (a.add f.offset)))) w):W P ops Q (⟨some d,.fieldAddr s x i,ty,pos,af,none⟩::rest) n e w :=
  Yv _ rfl rfl (by
    simp only [execOp,hx,Instr.fieldAt,Zup,run_underlying hs,Zuq,hf,Zu0,fieldPlace,Jt hz,Zut]
    simp) h
theorem Zjz {t el len sz:Nat} {x y:Operand} {a:Addr} {k:IntKind} {i:Int} (ht:P.underlying t=some (.array len el)) (hz:Xk P el sz) (hx:ev n e x=.pointer (some a)) (hy:ev n e y=.int k i)
    (h0:0≤i) (h1:i < len):(execOp (ev n e) ⟨some d,.indexAddr t x y,ty,pos,af,gd⟩).run P w=.ok (.value (.pointer (some (a.add (i.toNat * sz))))) w :=
  (by
    simp only [execOp,hx,hy,Zwu,asIntOf,Zup,Zut,Zuq,run_underlying ht,Zu0]
    simp [h0,h1,Jt hz])
theorem Zj0 {t el len sz:Nat} {x y:Operand} {a:Addr} {k:IntKind} {i:Int} (ht:P.underlying t=some (.array len el)) (hz:Xk P el sz) (hx:ev n e x=.pointer (some a)) (hy:ev n e y=.int k i)
    (h0:0≤i) (h1:i < len) (h:W P ops Q rest n (upd e d (.pointer (some (a.add (i.toNat * sz))))) w) :
    W P ops Q (⟨some d,.indexAddr t x y,ty,pos,af,none⟩::rest) n e w :=
  Yv _ rfl rfl (by
    simp only [execOp,hx,hy,Zwu,asIntOf,Zup,Zut,Zuq,run_underlying ht,Zu0]
    simp [h0,h1,Jt hz]) h
theorem Jf {t el len sz b off:Nat} {x y:Operand} {k:IntKind} {i:Int} (off':Nat) (ht:P.underlying t=some (.array len el)) (hz:Xk P el sz) (hx:ev n e x=.pointer (some ⟨b,off,none⟩)) (hy:ev n e y=.int k i)
    (h0:0≤i) (h1:i < len) (ho:off+i.toNat * sz=off'):(execOp (ev n e) ⟨some d,.indexAddr t x y,ty,pos,af,gd⟩).run P w=.ok (.value (.pointer (some ⟨b,off',none⟩))) w :=
  by have:=Zjz (P:=P) (w:=w) (d:=d) (ty:=ty) (pos:=pos) (af:=af) (gd:=gd) ht hz hx hy h0 h1; rwa [Zae,ho] at this
theorem Y6 {t el len sz b off:Nat} {x y:Operand} {k:IntKind} {i:Int} (off':Nat) (ht:P.underlying t=some (.array len el)) (hz:Xk P el sz) (hx:ev n e x=.pointer (some ⟨b,off,none⟩)) (hy:ev n e y=.int k i)
    (h0:0≤i) (h1:i < len) (ho:off+i.toNat * sz=off') (h:W P ops Q rest n (upd e d (.pointer (some ⟨b,off',none⟩))) w) :
    W P ops Q (⟨some d,.indexAddr t x y,ty,pos,af,none⟩::rest) n e w :=
  Zj0 ht hz hx hy h0 h1 (by rw [Zae,ho]; exact h)
theorem Yh {s b off:Nat} {x:Operand} {i:Nat} {fs:Array Field} {f:Field} (off':Nat) (hs:P.underlying s=some (.struct fs)) (hf:fs[i]? = some f) {sz:Nat} (hz:Xk P f.type (sz+1)) (hx:ev n e x=.pointer (some ⟨b,off,none⟩))
    (ho:off+f.offset=off'):(execOp (ev n e) ⟨some d,.fieldAddr s x i,ty,pos,af,gd⟩).run P w=.ok (.value (.pointer (some ⟨b,off',none⟩))) w :=
  by have:=Zjx (P:=P) (w:=w) (d:=d) (ty:=ty) (pos:=pos) (af:=af) (gd:=gd) hs hf hz hx; rwa [Zae,ho] at this
theorem Zx {s b off:Nat} {x:Operand} {i:Nat} {fs:Array Field} {f:Field} (off':Nat) (hs:P.underlying s=some (.struct fs)) (hf:fs[i]? = some f) {sz:Nat} (hz:Xk P f.type (sz+1)) (hx:ev n e x=.pointer (some ⟨b,off,none⟩))
    (ho:off+f.offset=off') (h:W P ops Q rest n (upd e d (.pointer (some ⟨b,off',none⟩))) w):W P ops Q (⟨some d,.fieldAddr s x i,ty,pos,af,none⟩::rest) n e w :=
  Zjy hs hf hz hx (by rw [Zae,ho]; exact h)
theorem Jz {s:Nat} {A:Addr} {j:Nat} {x:Operand} {i:Nat} {fs:Array Field} {f:Field} (j':Nat) (hs:P.underlying s=some (.struct fs)) (hf:fs[i]? = some f) {sz:Nat} (hz:Xk P f.type (sz+1)) (hx:ev n e x=.pointer (some (A.add j)))
    (ho:j+f.offset=j'):(execOp (ev n e) ⟨some d,.fieldAddr s x i,ty,pos,af,gd⟩).run P w=.ok (.value (.pointer (some (A.add j')))) w :=
  by have:=Zjx (P:=P) (w:=w) (d:=d) (ty:=ty) (pos:=pos) (af:=af) (gd:=gd) hs hf hz hx; rwa [Zbd,ho] at this
theorem Zao {s:Nat} {A:Addr} {j:Nat} {x:Operand} {i:Nat} {fs:Array Field} {f:Field} (j':Nat) (hs:P.underlying s=some (.struct fs)) (hf:fs[i]? = some f) {sz:Nat} (hz:Xk P f.type (sz+1)) (hx:ev n e x=.pointer (some (A.add j)))
    (ho:j+f.offset=j') (h:W P ops Q rest n (upd e d (.pointer (some (A.add j')))) w):W P ops Q (⟨some d,.fieldAddr s x i,ty,pos,af,none⟩::rest) n e w :=
  Zjy hs hf hz hx (by rw [Zbd,ho]; exact h)
theorem Yw {t el len c sz:Nat} {x y:Operand} {A:Addr} {k:IntKind} {i:Int} (ht:P.underlying t=some (.slice el)) (hz:Xk P el sz) (hx:ev n e x=.slice (some A) len c) (hy:ev n e y=.int k i)
    (h0:0≤i) (h1:i < len):(execOp (ev n e) ⟨some d,.indexAddr t x y,ty,pos,af,gd⟩).run P w=.ok (.value (.pointer (some (A.add (i.toNat * sz))))) w :=
  (by
    simp only [execOp,hx,hy,Zwu,asIntOf,Zup,Zut,Zuq,run_underlying ht]
    simp [h0,h1,Jt hz])
theorem Yq {t el len c sz:Nat} {x y:Operand} {A:Addr} {k:IntKind} {i:Int} (ht:P.underlying t=some (.slice el)) (hz:Xk P el sz) (hx:ev n e x=.slice (some A) len c) (hy:ev n e y=.int k i)
    (h0:0≤i) (h1:i < len) (h:W P ops Q rest n (upd e d (.pointer (some (A.add (i.toNat * sz))))) w) :
    W P ops Q (⟨some d,.indexAddr t x y,ty,pos,af,none⟩::rest) n e w :=
  Yv _ rfl rfl (by
    simp only [execOp,hx,hy,Zwu,asIntOf,Zup,Zut,Zuq,run_underlying ht]
    simp [h0,h1,Jt hz]) h
theorem Zf2 {t el len:Nat} {x y:Operand} {cs:List Value} {k:IntKind} {i:Int} (v:Value) (ht:P.underlying t=some (.array len el)) (hx:ev n e x=.agg cs.toArray) (hy:ev n e y=.int k i)
    (h0:0≤i) (h1:i < len) (hS:ScaT P el) (hv:cs[i.toNat]? = some v) (h:W P ops Q rest n (upd e d v) w) :
    W P ops Q (⟨some d,.index t x y,ty,pos,af,none⟩::rest) n e w :=
  Yv v rfl rfl (by
    simp only [execOp,hx,hy,Instr.index,asIntOf,Zup,Zut,Zuq,run_underlying ht]
    rw [if_pos ⟨h0,h1⟩]
    simp [Jt hS.size,part,Zbw hS,hv]) h
theorem Zd1 {t:Nat} {l:List (Nat×Operand)} (vs:List (Nat×Value)) {v:Value} (hp:l.map (fun p=>(p.1,ev n e p.2))=vs) (hr:(Instr.build t vs.toArray).run P w=.ok v w):(execOp (ev n e) ⟨some d,.build t l.toArray,ty,pos,af,gd⟩).run P w=.ok (.value v) w :=
  (by
    have:(l.toArray.map fun (x:Nat×Operand)=>match x with | (i,x)=>(i,ev n e x))=vs.toArray:=by
      rw [← hp]; simp
    simp only [execOp,Zup,this,hr,Zuq,Zut])
theorem Y5 {t:Nat} {l:List (Nat×Operand)} (vs:List (Nat×Value)) {v:Value} (hp:l.map (fun p=>(p.1,ev n e p.2))=vs) (hr:(Instr.build t vs.toArray).run P w=.ok v w) (h:W P ops Q rest n (upd e d v) w) :
    W P ops Q (⟨some d,.build t l.toArray,ty,pos,af,none⟩::rest) n e w :=
  Yv v rfl rfl (by
    have:(l.toArray.map fun (x:Nat×Operand)=>match x with | (i,x)=>(i,ev n e x))=vs.toArray:=by
      rw [← hp]; simp
    simp only [execOp,Zup,this,hr,Zuq,Zut]) h
theorem Zf {f:FuncId} {l:List Operand} {fn:Func} {at_:Array Nat} (vs:List Value) (R:Ending→World→Prop) (hf:P.funcs[f]? = some fn) (hb:fn.body.isNone=false) (hne:(fn.name == "runtime.NumGoroutine")=false)
    (hp:l.map (ev n e)=vs) (hc:Calls P f vs.toArray w R)
    (h:∀ ret w'',R ret w''→∃ v,ret=.returned v∧W P ops Q rest n (upd e d v) w'') :
    W P ops Q (⟨some d,.call { callee:=.value (.func f),args:=l.toArray,argTypes:=at_ }, ty,pos,af,none⟩::rest) n e w:=by
  refine Zjp (d:=d) f vs.toArray R (fun g b hg=>by cases hg) rfl ?_ hc h
  have:l.toArray.map (ev n e)=vs.toArray:=by rw [← hp]; simp
  simp only [execOp,resolve,this,ev,Zx5,Zup,Zut,Zuq,invoke,callFunc]
  simp only [run_program,Zup,Zuq,hf,hne,hb,Zwe,if_false,Zut,Array.append_empty,Array.empty_append]
theorem Z1 (hC:Ctx X w0 w M Ps) {t:Nat} {z:Value} (cs:List Value) (hz:Xc P t z) (hcs:z.cells.toList=cs)
    (h:∀ b w',Bel w w'→Ctx X w0 w' (blk b t cs::M) Ps→W P ops Q rest n (upd e d (.pointer (some ⟨b,0,none⟩))) w') :
    W P ops Q (⟨some d,.alloc t,ty,pos,af,none⟩::rest) n e w:=by
  have hB:Bel w (w.alloc (.cells z.cells t)):=Bel.alloc _ _
  refine Yv (.pointer (some ⟨w.heap.size,0,none⟩)) rfl rfl ?_ (h w.heap.size (w.alloc (.cells z.cells t)) hB (hC.push hB _ ?_ ?_))
  · simp [execOp,Instr.alloc,Zfz hz,newVar,newRow]
  · show (w.alloc _).heap[w.heap.size]? = _
    rw [heap_alloc_new,← hcs]
  · simp [blk]
theorem Yj (hC:Ctx X w0 w M Ps) {t:Nat} {x:Operand} {v:Value} (cs:List Value) (hx:ev n e x=v) (hcs:v.cells.toList=cs)
    (h:∀ b w',Bel w w'→Ctx X w0 w' (blk b t cs::M) Ps→W P ops Q rest n (upd e d (.pointer (some ⟨b,0,none⟩))) w') :
    W P ops Q (⟨some d,.box t x,ty,pos,af,none⟩::rest) n e w:=by
  have hB:Bel w (w.alloc (.cells v.cells t)):=Bel.alloc _ _
  refine Yv (.pointer (some ⟨w.heap.size,0,none⟩)) rfl rfl ?_ (h w.heap.size (w.alloc (.cells v.cells t)) hB (hC.push hB _ ?_ ?_))
  · simp [execOp,Instr.box,hx,newVar,newRow]
  · show (w.alloc _).heap[w.heap.size]? = _
    rw [heap_alloc_new,← hcs]
  · simp [blk]
theorem Y9 (hC:Ctx X w0 w M Ps) (k:Nat) {b t off sz ty':Nat} {x:Operand} {cs:List Value} (seg:List Value) (hk:M[k]? = some (blk b t cs)) (hT:AggT P ty' sz) (hx:ev n e x=.pointer (some ⟨b,off,none⟩))
    (hs:(cs.drop off).take sz=seg) (hl:seg.length=sz):(execOp (ev n e) ⟨some d,.load ty' x,ty,pos,af,gd⟩).run P w=.ok (.value (.agg seg.toArray)) w :=
  (by simp [execOp,hx,Zvf,Zu0,Zcv hT (Zbx (hC.getM k hk) hs) hl])
theorem Yb (hC:Ctx X w0 w M Ps) (k:Nat) {b t off sz ty':Nat} {x:Operand} {cs:List Value} (seg:List Value) (hk:M[k]? = some (blk b t cs)) (hT:AggT P ty' sz) (hx:ev n e x=.pointer (some ⟨b,off,none⟩))
    (hs:(cs.drop off).take sz=seg) (hl:seg.length=sz) (h:W P ops Q rest n (upd e d (.agg seg.toArray)) w) :
    W P ops Q (⟨some d,.load ty' x,ty,pos,af,none⟩::rest) n e w :=
  Yv _ rfl rfl (by simp [execOp,hx,Zvf,Zu0,Zcv hT (Zbx (hC.getM k hk) hs) hl]) h
theorem Yd (hC:Ctx X w0 w M Ps) (k:Nat) {b t off ty':Nat} {x:Operand} {cs:List Value} (v:Value) (hk:M[k]? = some (blk b t cs)) (hT:ScaT P ty') (hx:ev n e x=.pointer (some ⟨b,off,none⟩))
    (hs:cs[off]? = some v):(execOp (ev n e) ⟨some d,.load ty' x,ty,pos,af,gd⟩).run P w=.ok (.value v) w :=
  (by
    have h1:(cs.drop off).take 1=[v]:=by
      rw [Zwv]
      simp [hs]
    simp [execOp,hx,Zvf,Zu0,Zdz hT (Zbx (hC.getM k hk) h1)])
theorem Z4 (hC:Ctx X w0 w M Ps) (k:Nat) {b t off ty':Nat} {x:Operand} {cs:List Value} (v:Value) (hk:M[k]? = some (blk b t cs)) (hT:ScaT P ty') (hx:ev n e x=.pointer (some ⟨b,off,none⟩))
    (hs:cs[off]? = some v) (h:W P ops Q rest n (upd e d v) w) :
    W P ops Q (⟨some d,.load ty' x,ty,pos,af,none⟩::rest) n e w :=
  Yv _ rfl rfl (by
    have h1:(cs.drop off).take 1=[v]:=by
      rw [Zwv]
      simp [hs]
    simp [execOp,hx,Zvf,Zu0,Zdz hT (Zbx (hC.getM k hk) h1)]) h
theorem Zo (hC:Ctx X w0 w M Ps) (k:Nat) {b t off sz ty':Nat} {x y:Operand} {cs:List Value} {v:Value} (vc:List Value) (cs':List Value) (hk:M[k]? = some (blk b t cs)) (hT:Xk P ty' sz) (hx:ev n e x=.pointer (some ⟨b,off,none⟩))
    (hy:ev n e y=v) (hv:v.cells.toList=vc) (hl:vc.length=sz) (h1:vc.all (·.oneCell')=true) (ho:off+sz≤cs.length) (hcs:Yz cs off vc=cs')
    (h:∀ w',Ctx X w0 w' (M.set k (blk b t cs')) Ps→W P ops Q rest n e w') :
    W P ops Q (⟨none,.store ty' x y,ty,pos,af,none⟩::rest) n e w:=by
  obtain ⟨w',hr,hb,hos,hta,hou,hsz,hother⟩:=Zjr (P:=P) hT (hC.getM k hk) hv hl h1 ho
  refine Zdy rfl rfl ?_ (h w' (hC.turn k hk hos hta hou (by omega) (Zcu _ _ _ _ hr) (fun c _ hc=>hother c (by simpa [blk] using hc)) (hcs ▸ hb) (fun c hc=>.inl hc)))
  simp [execOp,hx,hy,Instr.storeAt,Zu0,hr]
end
end Vc
namespace Vc
open Go Go.RowKit
def Yi {S:Type} (body:Nat→S→(S→Prop)→Prop) (exit:S→Prop):Nat→Nat→S→Prop
  | 0,_,s=>exit s
  | r+1,i,s=>body i s (fun s'=>Yi body exit r (i+1) s')
def Zf3 {S:Type} (body:S→(S→Prop)→Prop):Nat→S→Prop
  | 0,_=>False
  | k+1,s=>body s (Zf3 body k)
def X8 {S:Type} (body:S→(S→Prop)→Prop) (s:S):Prop:=∃ k,Zf3 body k s
structure A8 where
  x0:Int
  x1:Int
  x2:Int
  x3:Int
  x4:Int
  x5:Int
  x6:Int
  x7:Int
  deriving DecidableEq,Inhabited
namespace A8
def enc (k:IntKind) (a:A8):List Value:=[.int k a.x0,.int k a.x1,.int k a.x2,.int k a.x3,.int k a.x4,.int k a.x5,.int k a.x6,.int k a.x7]
def zero:A8:=⟨0,0,0,0,0,0,0,0⟩
def get (a:A8):Nat→Int
  | 0=>a.x0
  | 1=>a.x1
  | 2=>a.x2
  | 3=>a.x3
  | 4=>a.x4
  | 5=>a.x5
  | 6=>a.x6
  | 7=>a.x7
  | _=>0
def set (a:A8) (i:Nat) (v:Int):A8:=match i with
  | 0=>{ a with x0:=v }
  | 1=>{ a with x1:=v }
  | 2=>{ a with x2:=v }
  | 3=>{ a with x3:=v }
  | 4=>{ a with x4:=v }
  | 5=>{ a with x5:=v }
  | 6=>{ a with x6:=v }
  | 7=>{ a with x7:=v }
  | _=>a
theorem enc_get (k:IntKind) (a:A8) {i:Nat} (h:i < 8):(a.enc k)[i]? = some (.int k (a.get i)):=by
  match i,h with
  | 0,_=>rfl
  | 1,_=>rfl
  | 2,_=>rfl
  | 3,_=>rfl
  | 4,_=>rfl
  | 5,_=>rfl
  | 6,_=>rfl
  | 7,_=>rfl
theorem enc_set (k:IntKind) (a:A8) {i:Nat} (v:Int) (h:i < 8):Yz (a.enc k) i [.int k v]=(a.set i v).enc k:=by
  match i,h with
  | 0,_=>rfl
  | 1,_=>rfl
  | 2,_=>rfl
  | 3,_=>rfl
  | 4,_=>rfl
  | 5,_=>rfl
  | 6,_=>rfl
  | 7,_=>rfl
end A8
theorem i64_in (x:Int) (h:-9223372036854775808≤x∧x≤9223372036854775807):Zxa.wrap x=x:=IntWalk.i64_in x h
theorem Z6 {i n:Nat} (h:i < n) (hn:n≤9223372036854775807):Zxa.wrap ((i:Int)+1)=((i+1:Nat):Int):=by
  rw [i64_in _ (by omega)]
  omega
@[reducible] def joinP {S:Type} (F:(S→Prop)→Prop) (T:S→Prop):Prop:=F T
theorem Zh6 {S:Type} {F:(S→Prop)→Prop} {T:S→Prop} (h:joinP F T):∃ J:S→Prop,(∀ s,J s→T s)∧F J:=⟨T,fun _ h=>h,h⟩
end Vc
namespace Vc
open Go Go.RowKit
def Zcw (P:Program) (n:Nat) (e:Env) (w:World):ResultVar→Value→Prop
  | .tmp t,v=>ev n e (.tmp t)=v
  | .cell t ty,v=>∃ a,ev n e (.tmp t)=.pointer (some a)∧(loadVar ty a).run P w=.ok v w
section
variable {P:Program} {n:Nat} {e:Env} {w:World} {fn:Func} {R:Ending→World→Prop}
theorem Zj1 (t:Nat):(actOf n e).tmps.getD t undef=ev n e (.tmp t):=by
  have:=congrFun (Zad n e) (.tmp t)
  exact this
def Zf4 (tmps:Array Value):ResultVar→Sem Value:=fun
  | .tmp t=>pure (tmps.getD t undef)
  | .cell a t=>do loadVar t (← asAddr (tmps.getD a undef))
theorem Zj2 (tmps:Array Value):results fn tmps=(do
  let vs ← fn.results.mapM (Zf4 tmps)
  pure (if h:vs.size=1 then vs[0] else .tuple vs)):=by
  unfold results
  congr 1
theorem Zf5 {r:ResultVar} {v:Value} (h:Zcw P n e w r v):(Zf4 (actOf n e).tmps r).run P w=.ok v w:=by
  cases r with
  | tmp t=>simp only [Zf4,Zj1]; rw [show ev n e (.tmp t)=v from h]; rfl
  | cell t ty =>
    obtain ⟨a,h1,h2⟩:=h
    simp only [Zf4,Zj1,h1,asAddr,Zup,Zut,Zuq,h2]
theorem Zh7 (hr:fn.results=#[]) (h:R (.returned (.tuple #[])) w) {x:Exit} (hx:x=.ret∨x=.normal):bodyPost P fn R x (actOf n e) w:=by
  have:(results fn (actOf n e).tmps).run P w=.ok (.tuple #[]) w:=by simp [results,hr]
  rcases hx with rfl | rfl <;> exact⟨rfl,_,this,h⟩
theorem Zj {r:ResultVar} {v:Value} (hr:fn.results=#[r]) (h1:Zcw P n e w r v) (h:R (.returned v) w) {x:Exit} (hx:x=.ret∨x=.normal):bodyPost P fn R x (actOf n e) w:=by
  have:(results fn (actOf n e).tmps).run P w=.ok v w:=by
    have:=Zf5 h1
    rw [Zj2,hr]
    simp only [List.mapM_toArray,List.mapM_cons,List.mapM_nil,Zup,Sem.run_map,Zf5 h1,Zuq,Zut]
    rfl
  rcases hx with rfl | rfl <;> exact⟨rfl,_,this,h⟩
theorem Xi {r s:ResultVar} {v u:Value} (hr:fn.results=#[r,s]) (h1:Zcw P n e w r v) (h2:Zcw P n e w s u) (h:R (.returned (.tuple #[v,u])) w) {x:Exit} (hx:x=.ret∨x=.normal) :
    bodyPost P fn R x (actOf n e) w:=by
  have:(results fn (actOf n e).tmps).run P w=.ok (.tuple #[v,u]) w:=by
    rw [Zj2,hr]
    simp only [List.mapM_toArray,List.mapM_cons,List.mapM_nil,Zup,Sem.run_map,Zf5 h1,Zf5 h2,Zuq,Zut]
    rfl
  rcases hx with rfl | rfl <;> exact⟨rfl,_,this,h⟩
theorem Zg {t:Nat} {v:Value} (h:ev n e (.tmp t)=v):Zcw P n e w (.tmp t) v:=h
section
variable {X:Nat→Prop} {w0:World} {M Ps:List Item}
theorem Y2 (hC:Ctx X w0 w M Ps) (k:Nat) {b ty t sz:Nat} {tt:Nat} {cs:List Value} (hk:M[k]? = some (blk b ty cs)) (hT:AggT P tt sz) (hx:ev n e (.tmp t)=.pointer (some ⟨b,0,none⟩)) (hl:cs.length=sz) :
    Zcw P n e w (.cell t tt) (.agg cs.toArray) :=
  ⟨_,hx,Zcv hT (Zbx (sz:=cs.length) (hC.getM k hk) (by simp)) hl⟩
end
end
section
variable {P:Program} {c:Code} {Q:Exit→Act→World→Prop} {n:Nat} {e:Env} {w:World}
theorem Z5 {id:Nat} {a:Act} (h:Q .normal a w):Zww id Q (.exit id) a w:=by simp [Zww,h]
theorem Zl {K:Act→World→Prop} {id:Nat} {a:Act} (h:Q (.exit id) a w):Exit.then K Q (.exit id) a w:=h
theorem Ze {K:Act→World→Prop} {a:Act} (h:Q .ret a w):Exit.then K Q .ret a w:=h
theorem Zd {K:Act→World→Prop} {a:Act} (h:K a w):Exit.then K Q .normal a w:=h
theorem Zw {id:Nat} {a:Act} (h:Q .ret a w):Zww id Q .ret a w:=h
theorem Zs {id:Nat} {a:Act} (h:Q .normal a w):Zww id Q .normal a w:=h
theorem Yn {S:Type} (B:Nat→S→(S→Prop)→Prop) (E:S→Prop) (I:Nat→S→Env→World→Prop) (N:Nat)
    (body:∀ i s e w (next:S→Prop) (K:Act→World→Prop),i < N→I i s e w→B i s next→(∀ s' e' w',I (i+1) s' e' w'→next s'→K (actOf n e') w')→c.wp P (Exit.then K Q) (actOf n e) w)
    (last:∀ s e w (K:Act→World→Prop),I N s e w→E s→c.wp P (Exit.then K Q) (actOf n e) w)
    {s0:S} (h0:I 0 s0 e w) (hF:Yi B E N 0 s0):(Code.loop c).wp P Q (actOf n e) w:=by
  have L:∀ r i s e w,i+r=N→I i s e w→Yi B E r i s→Code.rounds P c Q (r+1) (actOf n e) w:=by
    intro r
    induction r with
    | zero =>
      intro i s e w hi hI h
      obtain rfl:i=N:=by omega
      exact last s e w _ hI h
    | succ r ih =>
      intro i s e w hi hI h
      exact body i s e w _ _ (by omega) hI h (fun s' e' w' hI' h'=>ih (i+1) s' e' w' (by omega) hI' h')
  exact wp_loop_rounds (N+1) (L N 0 s0 e w (by omega) h0 hF)
theorem Jj {S:Type} (B:S→(S→Prop)→Prop) (I:S→Env→World→Prop)
    (body:∀ s e w (next:S→Prop) (K:Act→World→Prop),I s e w→B s next→(∀ s' e' w',I s' e' w'→next s'→K (actOf n e') w')→c.wp P (Exit.then K Q) (actOf n e) w)
    {s0:S} (h0:I s0 e w) (hF:X8 B s0):(Code.loop c).wp P Q (actOf n e) w:=by
  obtain ⟨k,hF⟩:=hF
  have L:∀ k s e w,I s e w→Zf3 B k s→Code.rounds P c Q k (actOf n e) w:=by
    intro k
    induction k with
    | zero=>intro s e w hI h; exact h.elim
    | succ k ih =>
      intro s e w hI h
      exact body s e w _ _ hI h (fun s' e' w' hI' h'=>ih s' e' w' hI' h')
  exact wp_loop_rounds k (L k s0 e w h0 hF)
end
end Vc
namespace Vc
open Go Go.RowKit
structure Ty (α:Type) where
  sz:Nat
  rep:α→List Value→List Nat→World→Prop
  keep:∀ {x cs fp} {w w':World}, (∀ b,b∈fp→w'.heap[b]? = w.heap[b]?)→rep x cs fp w→rep x cs fp w'
  low:∀ {x cs fp w}, rep x cs fp w→∀ b,b∈fp→b < w.heap.size
  len:∀ {x cs fp w}, rep x cs fp w→cs.length=sz
  one:∀ {x cs fp w}, rep x cs fp w→∀ u,u∈cs→u.oneCell'=true
  more:∀ {x cs fp fp' w}, rep x cs fp w→(∀ b,b∈fp→b∈fp')→(∀ b,b∈fp'→b < w.heap.size)→rep x cs fp' w
theorem Zf6 {w w':World} {fp:List Nat} (h:∀ b,b∈fp→w'.heap[b]? = w.heap[b]?) (hl:∀ b,b∈fp→b < w.heap.size):∀ b,b∈fp→b < w'.heap.size:=by
  intro b hb
  have:=hl b hb
  have e:=h b hb
  rcases Zv0 b w'.heap.size with hl | hl
  · exact hl
  · rw [Array.getElem?_eq_none hl,Array.getElem?_eq_getElem this] at e; cases e
def Ty.item {α:Type} (t:Ty α) (x:α) (cs:List Value) (fp:List Nat):Item where
  fp:=fp
  holds w:=t.rep x cs fp w
  keep _ _ h hw:=t.keep h hw
  low _ hw:=t.low hw
structure Enc (α:Type) where
  sz:Nat
  pos:0 < sz
  enc:α→List Value
  len:∀ x,(enc x).length=sz
  one:∀ x u,u∈enc x→u.oneCell'=true
def Enc.ty {α:Type} (E:Enc α):Ty α where
  sz:=E.sz
  rep x cs fp w:=(∀ b,b∈fp→b < w.heap.size)∧cs=E.enc x
  keep h hw:=⟨Zf6 h hw.1,hw.2⟩
  low hw:=hw.1
  len hw:=hw.2 ▸ E.len _
  one hw u hu:=E.one _ u (hw.2 ▸ hu)
  more hw _ h':=⟨h',hw.2⟩
def Enc.encs {α:Type} (E:Enc α) (xs:List α):List Value:=xs.flatMap E.enc
theorem Enc.encs_len {α:Type} (E:Enc α) (xs:List α):(E.encs xs).length=xs.length * E.sz:=by
  induction xs with
  | nil=>simp [Enc.encs]
  | cons x xs ih=>simp [Enc.encs] at ih ⊢; rw [E.len,ih,Zu5]; omega
theorem Enc.encs_seg {α:Type} [Inhabited α] (E:Enc α) (xs:List α) (i:Nat) (h:i < xs.length):((E.encs xs).drop (i * E.sz)).take E.sz=E.enc (xs.getD i Zuw):=by
  induction xs generalizing i with
  | nil=>simp at h
  | cons x xs ih =>
    cases i with
    | zero =>
      simp only [Enc.encs,Zwf,Zwx,Zwg]
      rw [Zxd (by rw [E.len]; exact Zuv _),Zwh (by rw [E.len]; exact Zuv _)]
      rfl
    | succ i =>
      simp only [Enc.encs,Zwf]
      rw [Zu5,Zvl,Zvw (i * E.sz),← Zv1,Zv2 (E.len x)]
      exact ih i (by simpa using h)
theorem Enc.encs_append {α:Type} (E:Enc α) (xs ys:List α):E.encs (xs++ys)=E.encs xs++E.encs ys:=by simp [Enc.encs]
theorem Enc.encs_one' {α:Type} (E:Enc α) (xs:List α) (u:Value) (h:u∈E.encs xs):u.oneCell'=true:=by
  simp only [Enc.encs,List.mem_flatMap] at h
  obtain ⟨x,_,hu⟩:=h
  exact E.one x u hu
def Ty.all {α:Type} (t:Ty α) (xs:List α) (cs:List Value) (fp:List Nat) (w:World):Prop :=
  (∀ b,b∈fp→b < w.heap.size)∧cs.length=xs.length * t.sz∧(∀ u,u∈cs→u.oneCell'=true)∧∀ i (h:i < xs.length),t.rep xs[i] ((cs.drop (i * t.sz)).take t.sz) fp w
def Ty.allItem {α:Type} (t:Ty α) (xs:List α) (cs:List Value) (fp:List Nat):Item where
  fp:=fp
  holds w:=t.all xs cs fp w
  keep _ _ h hw:=⟨Zf6 h hw.1,hw.2.1,hw.2.2.1,fun i hi=>t.keep h (hw.2.2.2 i hi)⟩
  low _ hw:=hw.1
def Ty.sl {α : Type} (t : Ty α) : Ty (List α) where
  sz:=1
  rep xs cs fp w:=∃ v ecs,cs=[v]∧(rdr t.sz v xs.length ecs fp).holds w∧t.all xs ecs fp w
  keep h hw:=by
    obtain ⟨v,ecs,rfl,h1,h2⟩:=hw
    exact⟨v,ecs,rfl,Item.keep _ _ _ h h1,(t.allItem _ ecs _).keep _ _ h h2⟩
  low hw:=by
    obtain ⟨v,ecs,rfl,h1,h2⟩:=hw
    exact h2.1
  len hw:=by obtain ⟨v,ecs,rfl,h1,h2⟩:=hw; rfl
  one hw u hu:=by
    obtain ⟨v,ecs,rfl,⟨_,_,_,A,c,rfl,_⟩,h2⟩:=hw
    obtain rfl:u=_:=by simpa using hu
    rfl
  more:=by
    intro xs cs fp fp' w hw h h'
    obtain ⟨v,ecs,rfl,⟨a0,a1,a2,A,c,rfl,anc,a3⟩,h2⟩:=hw
    refine⟨_,ecs,rfl,⟨h',a1,a2,A,c,rfl,anc,fun hn=>?_⟩,h',h2.2.1,h2.2.2.1,fun i hi=>t.more (h2.2.2.2 i hi) h h'⟩
    obtain ⟨a,rfl,ha,hc⟩:=a3 hn
    exact⟨a,rfl,h _ ha,hc⟩
section
variable {α:Type} {t:Ty α} {xs:List α} {v:Value} {fp:List Nat} {w:World}
theorem Zd2 (h:t.sl.rep xs [v] fp w) (i:Nat) (hi:i < xs.length):∃ A c,v=.slice (some A) xs.length c∧∃ cs,cs.length=t.sz∧Xh w (A.add (i * t.sz)) cs∧t.rep xs[i] cs fp w:=by
  obtain ⟨v',ecs,e,⟨a0,a1,a2,A,c,rfl,anc,a3⟩,h2⟩:=h
  obtain rfl:v=_:=by simpa using e
  obtain ⟨a,rfl,ha,hc⟩:=a3 (by omega)
  refine⟨a,c,rfl,(ecs.drop (i * t.sz)).take t.sz,t.len (h2.2.2.2 i hi),?_,h2.2.2.2 i hi⟩
  intro j u hj
  rw [Zbd]
  refine hc _ u ?_
  rw [List.getElem?_take] at hj
  split at hj
  · simpa using hj
  · cases hj
theorem Zd3 (h:t.sl.rep xs [v] fp w):∃ A c,v=.slice A xs.length c:=by
  obtain ⟨v',ecs,e,⟨a0,a1,a2,A,c,rfl,anc,a3⟩,h2⟩:=h
  obtain rfl:v=_:=by simpa using e
  exact⟨A,c,rfl⟩
theorem Y3 (h:t.sl.rep xs [v] fp w):xs.length≤9223372036854775807:=by
  obtain ⟨v',ecs,e,⟨a0,a1,a2,A,c,rfl,anc,a3⟩,h2⟩:=h
  simpa [maxLen] using a2
end
theorem Znc {α:Type} [Inhabited α] {E:Enc α} {xs:List α} {v:Value} {fp:List Nat} {w:World} (h:E.ty.sl.rep xs [v] fp w) (i:Nat) (hi:i < xs.length) :
    ∃ A c,v=.slice (some A) xs.length c∧Xh w (A.add (i * E.sz)) (E.enc (xs.getD i Zuw)):=by
  obtain ⟨A,c,hv,cs,hl,hc,hr⟩:=Zd2 h i hi
  refine⟨A,c,hv,?_⟩
  have:xs.getD i Zuw=xs[i]:=by simp [Zu3,hi]
  rw [this]
  rwa [hr.2] at hc
theorem Zj3 {w:World} {a:Addr} {seg sub:List Value} {o k:Nat} (h:Xh w a seg) (hs:(seg.drop o).take k=sub):Xh w (a.add o) sub:=by
  intro j u hj
  rw [Zbd]
  refine h _ u ?_
  rw [← hs,List.getElem?_take] at hj
  split at hj
  · simpa using hj
  · cases hj
section
variable {sz n:Nat} {ty:Nat} {v:Value} {cs:List Value} {w:World}
theorem Znd (h:(own ty sz v n cs).holds w):cs.length=n * sz:=h.1
theorem Zd4 (h:(own ty sz v n cs).holds w):∃ A c,v=.slice A n c:=by
  rcases h.2 with ⟨rfl,rfl⟩ | ⟨g,cap,cur,rfl,_⟩
  · exact⟨none,0,rfl⟩
  · exact⟨_,cap,rfl⟩
theorem Zj4 (h:(own ty sz v n cs).holds w) (hn:0 < n):∃ g cap,v=.slice (some ⟨g,0,none⟩) n cap∧Xh w ⟨g,0,none⟩ cs:=by
  rcases h.2 with ⟨rfl,rfl⟩ | ⟨g,cap,cur,rfl,_,hh,hc,_,hz,ht⟩
  · omega
  · refine⟨g,cap,rfl,fun j u hj=>?_⟩
    rw [Zae,cell_of_row w g _ cur ty (0,0) hh]
    rw [← ht,List.getElem?_take] at hj
    split at hj
    · simpa using hj
    · cases hj
theorem J5 (h:(own ty sz v n cs).holds w):(rdr sz v n cs v.ownBlock.toList).holds w:=by
  refine⟨Item.low _ _ h,h.1,?_,?_⟩
  · rcases h.2 with ⟨rfl,rfl⟩ | ⟨g,cap,cur,rfl,_,hh,hc,hm,hz,ht⟩
    · simp [maxLen]
    · omega
  · obtain ⟨A,c,rfl⟩:=Zd4 h
    refine⟨A,c,rfl,?_,fun hn=>?_⟩
    · rcases h.2 with ⟨e,rfl⟩ | ⟨g,cap,cur,e,_,hh,hc,hm,hz,ht⟩
      · exact Zvp _
      · injection e with e1 e2 e3; omega
    obtain ⟨g,cap,e,hc⟩:=Zj4 h hn
    injection e with e1 e2 e3
    subst e1
    exact⟨_,rfl,by simp [Zvi],hc⟩
theorem Yp {α:Type} {E:Enc α} {xs:List α} (h:(own ty E.sz v xs.length (E.encs xs)).holds w):E.ty.sl.rep xs [v] v.ownBlock.toList w:=by
  refine⟨v,E.encs xs,rfl,J5 h,Item.low _ _ h,E.encs_len xs,fun u hu=>E.encs_one' xs u hu,fun i hi=>⟨Item.low _ _ h,?_⟩⟩
  have:Inhabited α:=⟨xs[i]⟩
  have e:=E.encs_seg xs i hi
  have e2:xs.getD i Zuw=xs[i]:=by simp [Zu3,hi]
  rw [e2] at e
  exact e
theorem Zh8 {α:Type} {t:Ty α} {xs:List α} {fp:List Nat} (h:(own ty t.sz v xs.length cs).holds w) (ha:t.all xs cs fp w):t.sl.rep xs [v] (v.ownBlock.toList++fp) w:=by
  have hl:∀ b,b∈v.ownBlock.toList++fp→b < w.heap.size:=by
    intro b hb
    rcases Zu9.1 hb with hb | hb
    · exact Item.low _ _ h b hb
    · exact ha.1 b hb
  obtain ⟨a0,a1,a2,A,c,rfl,anc,a3⟩:=J5 h
  refine⟨_,cs,rfl,⟨hl,a1,a2,A,c,rfl,anc,fun hn=>?_⟩,hl,ha.2.1,ha.2.2.1,fun i hi=>t.more (ha.2.2.2 i hi) (fun b hb=>Zvj _ hb) hl⟩
  obtain ⟨a,rfl,hm,hc⟩:=a3 hn
  exact⟨a,rfl,Zvo _ hm,hc⟩
theorem Zne {α:Type} (t:Ty α) (w:World):t.all [] [] [] w:=⟨by simp,by simp,by simp,fun i hi=>absurd hi (by simp)⟩
end
end Vc
namespace Vc
open Go Go.RowKit
def Ju (P:Program) (e:Nat) (z:Value) (sz bytes:Nat):Prop:=(P.info? e).map (fun i=>(i.zero,i.size,i.bytes))=some (some z,sz,bytes)
section
variable {P:Program} {ops:Array Oper} {Q:Exit→Act→World→Prop} {n:Nat} {e:Env} {w w':World} {rest:List Oper}
variable {X:Nat→Prop} {w0:World} {M Ps:List Item}
variable {d ty:Nat} {pos:String} {af:Array Edge} {gd:Option (Nat×Bool)}
theorem Xn {a:Addr} {sz ty':Nat} {x:Operand} (seg:List Value) (hc:Xh w a seg) (hT:AggT P ty' sz) (hx:ev n e x=.pointer (some a)) (hl:seg.length=sz)
    : (execOp (ev n e) ⟨some d,.load ty' x,ty,pos,af,gd⟩).run P w=.ok (.value (.agg seg.toArray)) w :=
  (by simp [execOp,hx,Zvf,Zu0,Zcv hT hc hl])
theorem Jv {a:Addr} {sz ty':Nat} {x:Operand} (seg:List Value) (hc:Xh w a seg) (hT:AggT P ty' sz) (hx:ev n e x=.pointer (some a)) (hl:seg.length=sz)
    (h:W P ops Q rest n (upd e d (.agg seg.toArray)) w):W P ops Q (⟨some d,.load ty' x,ty,pos,af,none⟩::rest) n e w :=
  Yv _ rfl rfl (by simp [execOp,hx,Zvf,Zu0,Zcv hT hc hl]) h
theorem Jw {a:Addr} {ty':Nat} {x:Operand} (v:Value) (hc:Xh w a [v]) (hT:ScaT P ty') (hx:ev n e x=.pointer (some a))
    : (execOp (ev n e) ⟨some d,.load ty' x,ty,pos,af,gd⟩).run P w=.ok (.value v) w :=
  (by simp [execOp,hx,Zvf,Zu0,Zdz hT hc])
theorem Xb {a:Addr} {ty':Nat} {x:Operand} (v:Value) (hc:Xh w a [v]) (hT:ScaT P ty') (hx:ev n e x=.pointer (some a))
    (h:W P ops Q rest n (upd e d v) w):W P ops Q (⟨some d,.load ty' x,ty,pos,af,none⟩::rest) n e w :=
  Yv _ rfl rfl (by simp [execOp,hx,Zvf,Zu0,Zdz hT hc]) h
theorem Znf {t el m c:Nat} {x:Operand} {A:Option Addr} (ht:P.underlying t=some (.slice el)) (hx:ev n e x=.slice A m c)
    : (execOp (ev n e) ⟨some d,.call { callee:=.builtin .len,args:=#[x],argTypes:=#[t] }, ty,pos,af,gd⟩).run P w=.ok (.value (.int .i64 (m:Int))) w :=
  (by
    simp [execOp,resolve,invoke,builtin,hx,Zxe,Zup,run_underlying ht,goInt])
theorem Zh9 {t el m c:Nat} {x:Operand} {A:Option Addr} (ht:P.underlying t=some (.slice el)) (hx:ev n e x=.slice A m c)
    (h:W P ops Q rest n (upd e d (.int .i64 (m:Int))) w):W P ops Q (⟨some d,.call { callee:=.builtin .len,args:=#[x],argTypes:=#[t] }, ty,pos,af,none⟩::rest) n e w :=
  Yv _ rfl rfl (by
    simp [execOp,resolve,invoke,builtin,hx,Zxe,Zup,run_underlying ht,goInt]) h
theorem Jk (hC:Ctx X w0 w M Ps) {t el len sz:Nat} {l:List (Nat×Operand)} (vs:List (Nat×Value)) (cs:List Value) (hp:l.map (fun p=>(p.1,ev n e p.2))=vs)
    (hr:∀ w:World,(Instr.buildSlice t len vs.toArray).run P w=.ok (.slice (some ⟨w.heap.size,0,none⟩) len len) (w.alloc (.cells cs.toArray el))) (hl:cs.length=len * sz) (hm:len≤maxLen)
    (h:∀ b w',Bel w w'→Ctx X w0 w' (own el sz (.slice (some ⟨b,0,none⟩) len len) len cs::M) Ps→W P ops Q rest n (upd e d (.slice (some ⟨b,0,none⟩) len len)) w') :
    W P ops Q (⟨some d,.buildSlice t len l.toArray,ty,pos,af,none⟩::rest) n e w:=by
  have hB:Bel w (w.alloc (.cells cs.toArray el)):=Bel.alloc _ _
  refine Yv _ rfl rfl ?_ (h w.heap.size (w.alloc (.cells cs.toArray el)) hB (hC.push hB _ ?_ ?_))
  · have:(l.toArray.map fun (x:Nat×Operand)=>match x with | (i,x)=>(i,ev n e x))=vs.toArray:=by
      rw [← hp]; simp
    simp only [execOp,Zup,this,hr,Zuq,Zut]
  · exact World.ownsRow_lit w cs.toArray len (Zvp _) hm (by simpa using hl)
  · simp [own,Zvi]
theorem Zb0 (hC:Ctx X w0 w M Ps) {t el sz bytes:Nat} {z:Value} {x y:Operand} {kx ky:IntKind} {m:Nat} (cs:List Value) (ht:P.underlying t=some (.slice el)) (hE:Ju P el z sz bytes)
    (hx:ev n e x=.int kx (m:Int)) (hy:ev n e y=.int ky (m:Int)) (hb:m * bytes≤281474976710656) (hm:m≤281474976710656) (hcs:(madeCells z.cells (m * sz)).toList=cs)
    (h:∀ v w',Bel w w'→Ctx X w0 w' (own el sz v m cs::M) Ps→W P ops Q rest n (upd e d v) w') :
    W P ops Q (⟨some d,.makeSlice t x y,ty,pos,af,none⟩::rest) n e w:=by
  obtain ⟨i,hi,hzz⟩:=Zyd.1 hE
  simp only [Zwi] at hzz
  obtain ⟨w',hrun,r1,r2⟩:=run_make_full (P:=P) w 0 t el i z sz ht hi hzz.1 hzz.2.1 kx ky m (by rw [hzz.2.2,Zv3]; exact hb) (by unfold maxLen; omega) (Zvp _)
  have hB:Bel w w':=⟨⟨r2.os,r2.tape,r2.output,r2.size,fun k hk=>r2.block k hk (by simp)⟩,Zcu _ _ _ _ hrun⟩
  refine Yv _ rfl rfl ?_ (h _ w' hB (hC.push hB _ (hcs ▸ r1) ?_))
  · simp [execOp,hx,hy,hrun]
  · simp [own,Zvi]
theorem Zap (hC:Ctx X w0 w M Ps) (k:Nat) {t el sz bytes nv m:Nat} {z:Value} {x y:Operand} {v u:Value} {cs cs2:List Value} {fp:List Nat}
    (ht:P.underlying t=some (.slice el)) (hE:Ju P el z sz bytes) (hzs:z.cells.size=sz) (hsz:0 < sz) (hby:0 < bytes)
    (hk:M[k]? = some (own el sz v nv cs)) (hu:(rdr sz u m cs2 fp).holds w) (h1:∀ q,q∈cs2→q.oneCell'=true) (hx:ev n e x=v) (hy:ev n e y=u) (hb:(nv+m) * bytes≤140737488355328)
    (h:∀ v' w',Ctx X w0 w' (M.set k (own el sz v' (nv+m) (cs++cs2))) Ps→W P ops Q rest n (upd e d v') w') :
    W P ops Q (⟨some d,.call { callee:=.builtin .append,args:=#[x,y],argTypes:=#[t,t] }, ty,pos,af,none⟩::rest) n e w:=by
  obtain ⟨i0,hi,hzz⟩:=Zyd.1 hE
  simp only [Zwi] at hzz
  have HO:w.ownsRow 0 el sz v nv cs:=hC.getM k hk
  obtain ⟨hu0,hu1,hu2,A,c,rfl,hu3⟩:=hu
  have hlen:nv+m≤140737488355328:=Zux (Nat.le_mul_of_pos_right _ hby) hb
  have hrun:∃ v1 w1,(Zxf #[t,t] ty #[v,.slice A m c]).run P w=.ok v1 w1∧w1.ownsRow 0 el sz v1 (nv+m) (cs++cs2)∧w.grownBy w1 v.ownBlock∧(v1.ownBlock=v.ownBlock∨v1.ownBlock=some w.heap.size):=by
    rcases Nat.eq_zero_or_pos m with h0 | h0
    · subst h0
      obtain rfl:cs2=[]:=Zyf (by simpa using hu1)
      refine⟨v,w,?_,by simpa using HO,World.grownBy.refl w _,.inl rfl⟩
      rcases HO.2 with ⟨rfl,hn⟩ | ⟨g,cap,cur,rfl,_,_,hnc,_⟩
      · cases A <;> simp [Zxf,run_underlying ht,Go.sizeOf,typeInfo,hi,Builtin.lenOf,Zyh,loadCells,loadCellsFrom]
      · cases A <;> simp [Zxf,run_underlying ht,Go.sizeOf,typeInfo,hi,Builtin.lenOf,Zyh,hnc,storeCells,loadCells,loadCellsFrom]
    · obtain ⟨a,rfl,_,hcells⟩:=hu3.2 h0
      obtain ⟨v1,w1,hr,h2,h3,_,h5⟩:=run_append_own_at (P:=P) w 0 t ty el i0 z sz bytes ht hi hzz.1 hzz.2.1 hzz.2.2 hzs hsz v nv cs HO a m c cs2 hu1 hcells h1 (by unfold maxLen; omega) hb (Zvp _)
      exact⟨v1,w1,hr,h2,h3,h5⟩
  obtain ⟨v1,w1,hr,hown,hg,hat⟩:=hrun
  refine Yv v1 rfl rfl ?_ (h v1 w1 (hC.turn k hk hg.os hg.tape hg.output hg.size (Zcu _ _ _ _ hr) (fun b hb' hnb=>hg.block b hb' ?_) hown ?_))
  · simp only [execOp,resolve,invoke,builtin,Zup,Zut,Zuq,List.map_toArray,Zvx,List.map_nil,hx,hy,hr]
  · intro e
    exact hnb (by simp [own,← e])
  · intro b hbm
    simp only [own] at hbm ⊢
    rcases hat with hat | hat
    · rw [hat] at hbm; exact .inl hbm
    · rw [hat] at hbm
      have:b=w.heap.size:=by simpa using hbm
      omega
theorem Zng {P : Program} {w : World} {t2 sz nv ty' ksz j g cap : Nat} {cs vc : List Value} {v : Value} (hT : Xk P ty' ksz) (h : (own t2 sz (.slice (some ⟨g, 0, none⟩) nv cap) nv cs).holds w)
    (hv:v.cells.toList=vc) (hl:vc.length=ksz) (h1:vc.all (·.oneCell')=true) (ho:j+ksz≤cs.length) :
    ∃ w', (storeVar ty' ⟨g, j, none⟩ v).run P w = .ok () w' ∧ (own t2 sz (.slice (some ⟨g, 0, none⟩) nv cap) nv (Yz cs j vc)).holds w' ∧ w'.os = w.os ∧ w'.tape = w.tape ∧ w'.output = w.output ∧ w'.heap.size = w.heap.size ∧
      ∀ k,k≠g→w'.heap[k]? = w.heap[k]? := by
  have hs:v.cells.size=ksz:=by rw [← Zwt,hv,hl]
  have hlen:cs.length=nv * sz:=Znd h
  rcases h.2 with ⟨e,_⟩ | ⟨g',cap',cur,e,_,hh,hc,hm,hz,ht⟩
  · cases e
  · injection e with e1 e2 e3
    injection e1 with e1
    injection e1 with e1
    subst e1 e3
    have hcl:nv * sz≤cur.size:=by rw [hz]; exact Zxg _ hc
    have hr:=run_storeCells_at (P:=P) g j t2 vc 0 cur w hh (by simp; omega) (by simpa using h1)
    refine⟨w.setRow g (cur.toList.take j++vc++cur.toList.drop (j+vc.length)).toArray,?_,?_,rfl,rfl,rfl,?_,?_⟩
    · unfold storeVar
      simp only [Zup,Jt hT,Zuq,hs,ne_eq,not_true_eq_false,if_false,hv]
      simpa using hr
    · refine⟨?_,.inr ⟨g,cap,_,rfl,Zvp _,setRow_heap w g cur _ t2 _ hh,hc,hm,?_,?_⟩⟩
      · simp [Yz]; omega
      · simp; omega
      · rw [← ht]
        simp only [Yz,List.toList_toArray]
        apply List.ext_getElem?
        intro q
        simp only [List.getElem?_take,List.getElem?_append,Zvm,Zxh,List.getElem?_drop,Zwt]
        have hmin1:min j cur.size=j:=by omega
        have hmin2:min j (min (nv * sz) cur.size)=j:=by omega
        simp only [hmin1,hmin2]
        by_cases h1:q < j
        · simp [h1,show q < j+vc.length by omega,show q < nv * sz by omega]
        · by_cases h2:q < j+vc.length
          · simp [h1,h2,show q < nv * sz by omega]
          · by_cases h3:q < nv * sz
            · simp [h1,h2,h3]
              omega
            · simp [h1,h2,h3]
              omega
    · simp
    · intro k hk
      exact setRow_other w g k _ hk
theorem Zb1 (hC:Ctx X w0 w M Ps) (k:Nat) {t2 sz nv ty' ksz j g cap:Nat} {x y:Operand} {cs:List Value} {v u:Value} (vc cs':List Value) (hk:M[k]? = some (own t2 sz u nv cs)) (hu:u=.slice (some ⟨g,0,none⟩) nv cap) (hT:Xk P ty' ksz)
    (hx:ev n e x=.pointer (some ⟨g,j,none⟩)) (hy:ev n e y=v) (hv:v.cells.toList=vc) (hl:vc.length=ksz) (h1:vc.all (·.oneCell')=true) (ho:j+ksz≤cs.length) (hcs:Yz cs j vc=cs')
    (h:∀ w',Ctx X w0 w' (M.set k (own t2 sz u nv cs')) Ps→W P ops Q rest n e w') :
    W P ops Q (⟨none,.store ty' x y,ty,pos,af,none⟩::rest) n e w:=by
  subst hu
  obtain ⟨w',hr,hb,hos,hta,hou,hsz,hother⟩:=Zng (P:=P) hT (hC.getM k hk) hv hl h1 ho
  refine Zdy rfl rfl ?_ (h w' (hC.turn k hk hos hta hou (by omega) (Zcu _ _ _ _ hr) (fun c _ hc=>hother c (by simpa [own,Zvi] using hc)) (hcs ▸ hb) (fun c hc=>.inl hc)))
  simp [execOp,hx,hy,Instr.storeAt,Zu0,hr]
end
theorem Zd5 {α:Type} {E:Enc α} (xs:List α) (i:Nat) (x:α) (h:i < xs.length):Yz (E.encs xs) (i * E.sz) (E.enc x)=E.encs (xs.set i x):=by
  induction xs generalizing i with
  | nil=>simp at h
  | cons y xs ih =>
    cases i with
    | zero =>
      simp only [Yz,Enc.encs,Zwf,Zwx,List.take_zero,List.nil_append,Zv4,List.set_cons_zero]
      rw [E.len,Zv2 (E.len y)]
    | succ i =>
      have:=ih i (by simpa using h)
      simp only [Yz,Enc.encs,Zwf,List.set_cons_succ,E.len] at this ⊢
      rw [← this]
      have e1:(i+1) * E.sz=E.sz+i * E.sz:=by rw [Zu5,Zvl,Zvw]
      rw [e1]
      rw [List.take_append,Zwh (by rw [E.len]; omega),E.len,Nat.add_sub_cancel_left]
      rw [Nat.add_assoc,← Zv1,Zv2 (E.len y)]
      simp
theorem Zd6 {α:Type} {E:Enc α} (x:α) (m:Nat):(madeCells (E.enc x).toArray (m * E.sz)).toList=E.encs (Zur m x):=by
  apply Zxi
  · simp [madeCells,E.encs_len]
  · intro i h1 h2
    have hpos:=E.pos
    have hi:i < m * E.sz:=by simpa [madeCells] using h1
    have hdm:i / E.sz < m:=by rw [Nat.div_lt_iff_lt_mul hpos]; exact hi
    have:Inhabited α:=⟨x⟩
    have hs:=E.encs_seg (Zur m x) (i / E.sz) (by simpa using hdm)
    have hx:(Zur m x).getD (i / E.sz) Zuw=x:=by simp [Zu3,hdm]
    rw [hx] at hs
    have hmod:i % E.sz < E.sz:=Zv5 _ hpos
    have h3:(E.enc x)[i % E.sz]? = (E.encs (Zur m x))[i]? := by
      rw [← hs,List.getElem?_take,if_pos hmod,List.getElem?_drop]
      congr 1
      rw [Zv3]; exact Nat.div_add_mod i E.sz
    rw [List.getElem?_eq_getElem h2,List.getElem?_eq_getElem (by rw [E.len]; exact hmod)] at h3
    injection h3 with h3
    rw [← h3]
    simp [madeCells,E.len,hmod]
end Vc
namespace Vc
open Go Go.RowKit
def Xd (n bytes:Nat):Prop:=n * bytes≤140737488355328
theorem tr {α:Sort _} {a b c:α} (h:a=b) (k:b=c):a=c:=h.trans k
theorem Xf {b:Bool} (h:(!b)=true):b=false:=by simpa using h
theorem Xg {b:Bool} (h:(!b)=false):b=true:=by simpa using h
theorem Y0 {b:Bool} (h:b=false):¬ b=true:=by simp [h]
theorem ct {p:Prop} [Decidable p] (h:decide p=true):p:=of_decide_eq_true h
theorem cf {p:Prop} [Decidable p] (h:decide p=false):¬ p:=of_decide_eq_false h
theorem ift {p:Prop} [Decidable p] {A B:Prop} (h:if p then A else B) (hp:p):A:=by rw [if_pos hp] at h; exact h
theorem Zk {p:Prop} [Decidable p] {A B:Prop} (h:if p then A else B) (hp:¬ p):B:=by rw [if_neg hp] at h; exact h
theorem Y1 (b:Bool) {G:Prop} (t:b=true→G) (f:b=false→G):G:=by cases b; exact f rfl; exact t rfl
theorem Zf7 {M:List Item} {idx:List Nat} {M':List Item} (h:idx.map (M[·]?)=M'.map some):∀ j (hj:j < M'.length),∃ k,idx[j]? = some k∧M[k]? = some M'[j]:=by
  intro j hj
  have hlen:idx.length=M'.length:=by have:=congrArg Zvq h; simpa using this
  have hj':j < idx.length:=by omega
  refine⟨idx[j],List.getElem?_eq_getElem hj',?_⟩
  have:=congrArg (·[j]?) h
  simpa [hj,hj'] using this
namespace Ctx
variable {X:Nat→Prop} {w0 w w':World} {M Ps:List Item}
theorem sel (h:Ctx X w0 w M Ps) (idx jdx:List Nat) {M' Ps':List Item} (hn:idx.Nodup) (hm:idx.map (M[·]?)=M'.map some) (hp:jdx.map (Ps[·]?)=Ps'.map some):Ctx X w0 w M' Ps':=by
  have hlen:idx.length=M'.length:=by have:=congrArg Zvq hm; simpa using this
  have memM:∀ it,it∈M'→it∈M:=by
    intro it hi
    obtain ⟨j,hj,rfl⟩:=Zvb hi
    obtain ⟨k,_,hk⟩:=Zf7 hm j hj
    exact List.mem_of_getElem? hk
  have memP:∀ it,it∈Ps'→it∈Ps:=by
    intro it hi
    obtain ⟨j,hj,rfl⟩:=Zvb hi
    obtain ⟨k,_,hk⟩:=Zf7 hp j hj
    exact List.mem_of_getElem? hk
  refine { h with m:=fun it hi=>h.m it (memM it hi),p:=fun it hi=>h.p it (memP it hi),mfp:=fun it hi=>h.mfp it (memM it hi),dis:=?_,pd:=fun it hi b hb m hm'=>h.pd it (memP it hi) b hb m (memM m hm') }
  rw [Zuz]
  intro i j hi hj hij x hx hx'
  obtain ⟨k,hk1,hk2⟩:=Zf7 hm i hi
  obtain ⟨l,hl1,hl2⟩:=Zf7 hm j hj
  have hne:k≠l:=by
    intro e
    subst e
    have hi':i < idx.length:=by omega
    have hj':j < idx.length:=by omega
    rw [List.getElem?_eq_getElem hi'] at hk1
    rw [List.getElem?_eq_getElem hj'] at hl1
    injection hk1 with hk1
    injection hl1 with hl1
    have:=(Zuz.1 hn) i j hi' hj' hij
    exact this (hk1.trans hl1.symm)
  have hkl:k < M.length:=(List.getElem?_eq_some_iff.1 hk2).1
  have hll:l < M.length:=(List.getElem?_eq_some_iff.1 hl2).1
  have ek:M[k]=M'[i]:=(List.getElem?_eq_some_iff.1 hk2).2
  have el:M[l]=M'[j]:=(List.getElem?_eq_some_iff.1 hl2).2
  rcases Zwr hne with hlt | hlt
  · exact(Zuz.1 h.dis k l hkl hll hlt) x (ek ▸ hx) (el ▸ hx')
  · exact(Zuz.1 h.dis l k hll hkl hlt) x (el ▸ hx') (ek ▸ hx)
theorem pushNil (h:Ctx X w0 w M Ps) (t sz:Nat):Ctx X w0 w (own t sz (.slice none 0 0) 0 []::M) Ps :=
  h.push (Bel.refl _) _ ⟨by simp,.inl ⟨rfl,rfl⟩⟩ (by simp [own,Zvi])
theorem pushR (h:Ctx X w0 w M Ps) (hb:Bel w w') (it:Item) (hi:it.holds w') (hf:∀ b,b∈it.fp→w.heap.size≤b∨∃ jt,jt∈Ps∧b∈jt.fp):Ctx X w0 w' M (it::Ps) :=
  (h.grow hb).pushP it hi (fun b hbi m hm hbm=>by
    rcases hf b hbi with h' | ⟨jt,hj,hbj⟩
    · exact absurd (m.low w (h.m m hm) b hbm) (Zva.2 h')
    · exact h.pd jt hj b hbj m hm hbm)
theorem pushE (h:Ctx X w0 w M Ps) (it:Item) (hi:it.holds w) (hf:it.fp=[]):Ctx X w0 w M (it::Ps):=h.pushP it hi (by simp [hf])
theorem sM (h:Ctx X w0 w M Ps) (idx:List Nat) {M':List Item} (hn:idx.Nodup) (hm:idx.map (M[·]?)=M'.map some):Ctx X w0 w M' Ps :=
  h.sel idx (Zvg Ps.length) hn hm (by apply Zxi <;> simp)
theorem sP (h:Ctx X w0 w M Ps) (jdx:List Nat) {Ps':List Item} (hp:jdx.map (Ps[·]?)=Ps'.map some):Ctx X w0 w M Ps' :=
  h.sel (Zvg M.length) jdx List.nodup_range (by apply Zxi <;> simp) hp
end Ctx
theorem Znh {ty sz n:Nat} {v:Value} {cs:List Value} {w:World} (h:(own ty sz v n cs).holds w):n≤9223372036854775807:=by
  have:=(J5 h).2.2.1
  simpa [maxLen] using this
theorem Yf {α:Type} [Inhabited α] {E:Enc α} {xs:List α} {v:Value} {fp:List Nat} {w:World} {A:Addr} {n c:Nat} (h:E.ty.sl.rep xs [v] fp w) (hv:v=.slice (some A) n c) (i:Nat) (hi:i < xs.length) :
    Xh w (A.add (i * E.sz)) (E.enc (xs.getD i Zuw)):=by
  obtain ⟨A',c',hv',hc⟩:=Znc h i hi
  rw [hv'] at hv
  injection hv with e1 e2 e3
  injection e1 with e1
  exact e1 ▸ hc
theorem Zz {α:Type} {t:Ty α} {xs:List α} {v:Value} {fp:List Nat} {w:World} (h:t.sl.rep xs [v] fp w) (i:Nat) (hi:i < xs.length):∃ A c,v=.slice (some A) xs.length c:=by
  obtain ⟨A,c,hv,_⟩:=Zd2 h i hi
  exact⟨A,c,hv⟩
theorem Jg {α:Type} {t:Ty α} {xs:List α} {v:Value} {fp:List Nat} {w:World} {A:Addr} {n c:Nat} (h:t.sl.rep xs [v] fp w) (hv:v=.slice (some A) n c) (i:Nat) (hi:i < xs.length) :
    ∃ cs,cs.length=t.sz∧Xh w (A.add (i * t.sz)) cs∧t.rep xs[i] cs fp w:=by
  obtain ⟨A',c',hv',cs,hl,hc,hr⟩:=Zd2 h i hi
  rw [hv'] at hv
  injection hv with e1 e2 e3
  injection e1 with e1
  exact⟨cs,hl,e1 ▸ hc,hr⟩
theorem Za0 {ty sz n:Nat} {v:Value} {cs:List Value} {w:World} (h:(own ty sz v n cs).holds w) (hn:0 < n):∃ g cap,v=.slice (some ⟨g,0,none⟩) n cap:=by
  obtain ⟨g,cap,hv,_⟩:=Zj4 h hn
  exact⟨g,cap,hv⟩
theorem Zni {α:Type} [Inhabited α] {E:Enc α} {xs:List α} {ty g n c:Nat} {v:Value} {w:World} (h:(own ty E.sz v xs.length (E.encs xs)).holds w) (hv:v=.slice (some ⟨g,0,none⟩) n c) (i:Nat) (hi:i < xs.length) :
    Xh w ⟨g,i * E.sz,none⟩ (E.enc (xs.getD i Zuw)):=by
  have:=Yf (Yp h) hv i hi
  rwa [Zae,Zv4] at this
theorem J0 {α:Type} (t:Ty α) (w:World):t.sl.rep [] [.slice none 0 0] [] w :=
  ⟨_,[],rfl,⟨by simp,by simp,by simp,none,0,rfl,Zuv _,fun h=>absurd h (by simp)⟩,Zne t w⟩
end Vc
namespace Vc
open Go Go.RowKit
def EI (k:IntKind):Enc Int:=⟨1,by decide,fun x=>[.int k x],fun _=>rfl,fun x u hu=>by obtain rfl:u=_:=Zwj.1 hu; rfl⟩
def EA (k:IntKind):Enc A8:=⟨8,by decide,A8.enc k,fun _=>rfl,fun x u hu=>by
  simp only [A8.enc,Zus,Zwy,or_false] at hu
  rcases hu with rfl | rfl | rfl | rfl | rfl | rfl | rfl | rfl <;> rfl⟩
structure Term where
  mono:A8
  factor:Int
  deriving DecidableEq,Inhabited
def Term.enc (t:Term):List Value:=A8.enc .u8 t.mono++[.int .i64 t.factor]
def ETerm:Enc Term:=⟨9,by decide,Term.enc,fun _=>rfl,fun x u hu=>by
  simp only [Term.enc,Zu9] at hu
  rcases hu with hu | hu
  · exact(EA .u8).one _ u hu
  · obtain rfl:u=_:=Zwj.1 hu; rfl⟩
structure Form where
  terms:List Term
  deriving DecidableEq,Inhabited
structure Alg where
  degrees:List Int
  images:List Form
  deriving DecidableEq,Inhabited
structure Der where
  drop:Int
  images:List Form
  deriving DecidableEq,Inhabited
structure Desk where
  first:Alg
  second:Alg
  form:Form
  deriving DecidableEq,Inhabited
def Ty.iso {α β:Type} (f:β→α) (t:Ty α):Ty β where
  sz:=t.sz
  rep x cs fp w:=t.rep (f x) cs fp w
  keep h hw:=t.keep h hw
  low hw:=t.low hw
  len hw:=t.len hw
  one hw:=t.one hw
  more hw:=t.more hw
def Ty.pair {α β : Type} (s : Ty α) (t : Ty β) : Ty (α × β) where
  sz:=s.sz+t.sz
  rep x cs fp w:=∃ c1 c2,cs=c1++c2∧s.rep x.1 c1 fp w∧t.rep x.2 c2 fp w
  keep h hw:=by obtain ⟨c1,c2,e,h1,h2⟩:=hw; exact⟨c1,c2,e,s.keep h h1,t.keep h h2⟩
  low hw:=by obtain ⟨c1,c2,e,h1,h2⟩:=hw; exact s.low h1
  len hw:=by obtain ⟨c1,c2,rfl,h1,h2⟩:=hw; rw [Zvm,s.len h1,t.len h2]
  one hw u hu:=by
    obtain ⟨c1,c2,rfl,h1,h2⟩:=hw
    rcases Zu9.1 hu with hu | hu
    · exact s.one h1 u hu
    · exact t.one h2 u hu
  more hw h h':=by obtain ⟨c1,c2,e,h1,h2⟩:=hw; exact⟨c1,c2,e,s.more h1 h h',t.more h2 h h'⟩
theorem Znj {α β:Type} {s:Ty α} {t:Ty β} {x:α×β} {c1 c2:List Value} {fp:List Nat} {w:World} (h:(Ty.pair s t).rep x (c1++c2) fp w) (hl:c1.length=s.sz):s.rep x.1 c1 fp w∧t.rep x.2 c2 fp w:=by
  obtain ⟨d1,d2,e,h1,h2⟩:=h
  have:=s.len h1
  obtain ⟨rfl,rfl⟩:=List.append_inj e (by omega)
  exact⟨h1,h2⟩
theorem Zj5 {α β:Type} {s:Ty α} {t:Ty β} {x:α×β} {c1 c2:List Value} {f1 f2:List Nat} {w:World} (h1:s.rep x.1 c1 f1 w) (h2:t.rep x.2 c2 f2 w):(Ty.pair s t).rep x (c1++c2) (f1++f2) w:=by
  have hl:∀ b,b∈f1++f2→b < w.heap.size:=by
    intro b hb
    rcases Zu9.1 hb with hb | hb
    · exact s.low h1 b hb
    · exact t.low h2 b hb
  exact⟨c1,c2,rfl,s.more h1 (fun b hb=>Zvo _ hb) hl,t.more h2 (fun b hb=>Zvj _ hb) hl⟩
abbrev TInts:Ty (List Int):=(EI .i64).ty.sl
abbrev TTerms:Ty (List Term):=ETerm.ty.sl
def TForm:Ty Form:=.iso Form.terms TTerms
abbrev TForms:Ty (List Form):=TForm.sl
def TAlg:Ty Alg:=.iso (fun a=>(a.degrees,a.images)) (.pair TInts TForms)
theorem Yx {x:Form} {v:Value} {fp:List Nat} {w:World} (h:TForm.rep x [v] fp w):TTerms.rep x.terms [v] fp w:=h
theorem Yl {ts:List Term} {v:Value} {fp:List Nat} {w:World} (h:TTerms.rep ts [v] fp w):TForm.rep ⟨ts⟩ [v] fp w:=h
theorem Zd7 {x:Alg} {v u:Value} {fp:List Nat} {w:World} (h:TAlg.rep x [v,u] fp w):TInts.rep x.degrees [v] fp w∧TForms.rep x.images [u] fp w:=Znj (c1:=[v]) (c2:=[u]) h rfl
theorem Yy {a:List Int} {b:List Form} {v u:Value} {f1 f2:List Nat} {w:World} (h1:TInts.rep a [v] f1 w) (h2:TForms.rep b [u] f2 w):TAlg.rep ⟨a,b⟩ [v,u] (f1++f2) w:=Zj5 (c1:=[v]) (c2:=[u]) h1 h2
end Vc
namespace Vc
open Go Go.RowKit
structure PreW (R:World→World→Prop):Prop where
  refl:∀ w,R w w
  trans:∀ {a b c}, R a b→R b c→R a c
theorem Zu:PreW Bel:=⟨Bel.refl,Bel.trans⟩
structure BelN (N:Nat) (w w':World):Prop where
  os:w'.os=w.os
  tape:w'.tape=w.tape
  output:w'.output=w.output
  size:w.heap.size≤w'.heap.size
  drawn:w.drawn≤w'.drawn
  old:∀ c,c < N→w'.heap[c]? = w.heap[c]?
theorem Y7 (N:Nat):PreW (BelN N):=⟨fun w=>⟨rfl,rfl,rfl,Zuv _,Zuv _,fun _ _=>rfl⟩,fun h k=>⟨k.os.trans h.os,k.tape.trans h.tape,k.output.trans h.output,Zux h.size k.size,Zux h.drawn k.drawn,fun c hc=>(k.old c hc).trans (h.old c hc)⟩⟩
def Qf:Exit→Act→World→Prop:=fun _ _ _=>False
section
variable {R:World→World→Prop} {P:Program} {ops:Array Oper} {n:Nat} {md:Zv6}
def AEd (R : World → World → Prop) (P : Program) (md : Zv6) (ops : Array Oper) (Q : Exit → Act → World → Prop) (m : Nat) : Nat → Array Bool → Act → World → Prop
  | 0,listed,a,w=>Zu1 md ops listed=[]∧Q .normal a w
  | f + 1, listed, a, w => (Zu1 md ops listed = [] → Q .normal a w) ∧
    ∀ i∈Zu1 md ops listed,wpOp P ops Qf i (fun a' w'=>(i < m→R w w')∧AEd R P md ops Q m f (listed.setIfInBounds i true) a' w') a w
theorem Znk {o:Oper} {a:Act} {w:World} {K:Act→World→Prop} {Q:Exit→Act→World→Prop} (h:o.wp P a w K Qf):o.wp P a w K Q:=by
  unfold Zvc at *
  generalize (execOp a.eval o).run P w=r at *
  cases r with
  | ok x w' =>
    cases x <;> simp only [Zvr] at h ⊢ <;> first
      | exact h
      | exact h.elim
      | exact h.mono (fun e w'' he=>by cases e <;> first | exact he | exact he.elim | (obtain ⟨_,_,he⟩:=he; exact he.elim))
  | halt x w'=>cases x <;> simp only [Zvr] at h ⊢ <;> first | exact h.elim | exact h
theorem Znl {i:Nat} {a:Act} {w:World} {K:Act→World→Prop} {Q:Exit→Act→World→Prop} (h:wpOp P ops Qf i K a w):wpOp P ops Q i K a w:=by
  unfold wpOp at *
  split
  · rename_i ho; simpa [ho] using h
  · rename_i o ho
    simp only [ho] at h
    split
    · rename_i hw
      simp only [hw,if_true] at h
      rcases h with h | ⟨_,_,_,h⟩
      · exact .inl (Znk h)
      · exact h.elim
    · rename_i hw
      simpa [hw] using h
theorem Zia {Q:Exit→Act→World→Prop} {m:Nat}:∀ f listed a w,AEd R P md ops Q m f listed a w→wpAny P md ops Q f listed a w:=by
  intro f
  induction f with
  | zero=>intro listed a w h; exact h
  | succ f ih =>
    intro listed a w h
    exact⟨h.1,fun i hi=>Znl (wpOp_mono (fun a' w' hA=>ih _ _ _ hA.2) (h.2 i hi))⟩
theorem ready_mem {listed:Array Bool} {i:Nat}:i∈Zu1 md ops listed↔i < ops.size∧listed.getD i true=false∧∃ o,ops[i]? = some o∧∀ x∈o.after,Zu6 md x=true→listed.getD x.on false=true:=by
  unfold Zu1
  simp only [List.mem_filter,Zwk,Zu7,Zxj]
  constructor
  · rintro ⟨h1,h2,h3⟩
    refine⟨h1,h2,?_⟩
    rw [Array.getElem?_eq_getElem h1] at h3 ⊢
    refine⟨_,rfl,fun x hx hb=>?_⟩
    simp only [Zvs,Zxk] at h3
    have:=(Zwz.1 h3) x hx
    simpa [hb] using this
  · rintro ⟨h1,h2,o,ho,h3⟩
    refine⟨h1,h2,?_⟩
    rw [ho]
    simp only [Zvs,Zxk]
    refine Zwz.2 fun x hx=>?_
    cases hb:Zu6 md x with
    | false=>rfl
    | true=>simpa using h3 x hx hb
theorem Zf8 {l:Array Bool} {i j:Nat} {d:Bool}:(l.setIfInBounds i true).getD j d=if i=j∧j < l.size then true else l.getD j d:=by
  simp only [Array.getD_eq_getD_getElem?,Array.getElem?_setIfInBounds]
  by_cases h:i=j
  · subst h
    by_cases h2:i < l.size
    · simp [h2]
    · simp [h2]
  · simp [h]
theorem Zcx {listed:Array Bool} {i j:Nat} (h:j∈Zu1 md ops listed) (hij:i≠j):j∈Zu1 md ops (listed.setIfInBounds i true):=by
  obtain ⟨h1,h2,o,ho,h3⟩:=ready_mem.1 h
  refine ready_mem.2 ⟨h1,?_,o,ho,fun x hx hb=>?_⟩
  · rw [Zf8,if_neg (fun e=>hij e.1)]; exact h2
  · rw [Zf8]; split
    · rfl
    · exact h3 x hx hb
def Steady (R:World→World→Prop) (P:Program) (ops:Array Oper) (o:Oper) (v:Value) (a:Act) (w:World):Prop :=
  ∀ w',R w w'→(Zuu o (yielded ops a.tmps)=true∧(execOp a.eval o).run P w'=.ok (.value v) w')∨(Zuu o (yielded ops a.tmps)=false∧v=undef)
theorem Steady.op (hR:PreW R) {i:Nat} {o:Oper} {v:Value} {a:Act} {w:World} {K:Act→World→Prop} (h:Steady R P ops o v a w) (ho:ops[i]? = some o) (hK:K (a.put o.dst v) w):wpOp P ops Qf i K a w:=by
  unfold wpOp
  simp only [ho]
  rcases h w (hR.refl _) with ⟨hw,hr⟩ | ⟨hw,rfl⟩
  · rw [if_pos hw]
    refine .inl ?_
    unfold Zvc
    rw [hr,Zwp]
    exact hK
  · rw [if_neg (by simp [hw])]
    exact hK
theorem Steady.later (hR:PreW R) {o:Oper} {v:Value} {a:Act} {w w':World} (h:Steady R P ops o v a w) (hb:R w w'):Steady R P ops o v a w' :=
  fun w'' hb'=>h w'' (hR.trans hb hb')
theorem Steady.same {o:Oper} {v:Value} {a a':Act} {w:World} (h:Steady R P ops o v a w) (he:execOp a'.eval o=execOp a.eval o) (hw:Zuu o (yielded ops a'.tmps)=Zuu o (yielded ops a.tmps)):Steady R P ops o v a' w:=by
  intro w' hb
  rw [he,hw]
  exact h w' hb
theorem Zj6 {j : Nat} {oi oj : Oper} {v : Value} {a : Act} {w : World} {K : Act → World → Prop} (hj : ops[j]? = some oj) (hap : oi.apart ops oj = true) (hsi : ∀ cs b, oi.op ≠ .select cs b) (hsj : ∀ cs b, oj.op ≠ .select cs b)
    (h:wpOp P ops Qf j K (a.put oi.dst v) w) :
    wpOp P ops Qf j (fun a' w'=>(∀ w1,Steady R P ops oi v a w1→Steady R P ops oi v a' w1)∧K (a'.put oi.dst v) w') a w:=by
  obtain ⟨h1,h2,h3⟩:=Oper.apart_spec hap
  have keep:∀ u w1,Steady R P ops oi v a w1→Steady R P ops oi v (a.put oj.dst u) w1:=fun u w1 hy =>
    hy.same (execOp_put oi hsi a oj.dst u h3) (wanted_put oi a oj.dst u h3)
  have keepD:∀ d u w1,Steady R P ops oi v a w1→Steady R P ops oi v ({ a with defers:=d::a.defers }.put oj.dst u) w1:=fun d u w1 hy =>
    (Steady.same (a':={ a with defers:=d::a.defers }) hy rfl rfl).same (execOp_put oi hsi _ oj.dst u h3) (wanted_put oi _ oj.dst u h3)
  unfold wpOp at *
  simp only [hj] at *
  rw [wanted_put oj a oi.dst v h1] at h
  split
  · rename_i hw
    simp only [hw,if_true] at h
    rcases h with h | ⟨_,_,_,h⟩
    case inr=>exact h.elim
    refine .inl ?_
    unfold Zvc at *
    rw [execOp_put oj hsj a oi.dst v h1] at h
    generalize (execOp a.eval oj).run P w=r at *
    cases r with
    | ok x w' =>
      cases x <;> simp only [Zvr] at h ⊢ <;> first
        | exact h.elim
        | (rw [Act.put_defers] at h; exact⟨fun w1 hy=>keepD _ _ w1 hy,by rw [← Zwl _ _ _ h2]; exact h⟩)
        | exact⟨fun w1 hy=>keep _ w1 hy,by rw [← Zwl a v _ h2]; exact h⟩
        | exact h.mono (fun e w'' he=>by cases e <;> first | exact⟨fun w1 hy=>keep _ w1 hy,by rw [← Zwl a v _ h2]; exact he⟩ | exact he.elim | (obtain ⟨_,_,he⟩:=he; exact he.elim))
        | exact h.mono (fun u w'' he=>⟨fun w1 hy=>keep _ w1 hy,by rw [← Zwl a v _ h2]; exact he⟩)
    | halt x w'=>cases x <;> simp only [Zvr] at h ⊢ <;> first | exact h.elim | exact h
  · rename_i hw
    simp only [hw] at h
    exact⟨fun w1 hy=>keep _ w1 hy,by rw [← Zwl a v _ h2]; simpa using h⟩
def Zbg (o:Oper):Bool:=match o.op with | .select ..=>false | _=>true
theorem Zf9 {o:Oper} (h:Zbg o=true):∀ cs b,o.op≠.select cs b:=by
  intro cs b he
  unfold Zbg at h
  rw [he] at h
  cases h
def Xo (md : Zv6) (ops : Array Oper) (i : Nat) : Nat → Nat → Bool
  | 0,_=>false
  | f + 1, j => match ops[j]? with
    | none=>false
    | some oj=>oj.after.any fun x=>Zu6 md x && (x.on == i || Xo md ops i f x.on)
def closed (md : Zv6) (ops : Array Oper) (listed : Array Bool) : Bool :=
  (Zvg ops.size).all fun j=>match ops[j]? with
    | none=>true
    | some oj=>!listed.getD j false || oj.after.all fun x=>!Zu6 md x || listed.getD x.on false
structure AE (R:World→World→Prop) (P:Program) (md:Zv6) (ops:Array Oper) (Q:Exit→Act→World→Prop) (m n:Nat) (f:Nat) (listed:Array Bool) (e:Env) (w:World):Prop where
  out:closed md ops listed=true→AEd R P md ops Q m f listed (actOf n e) w
theorem closed_spec {listed:Array Bool}:closed md ops listed=true↔∀ j oj,ops[j]? = some oj→listed.getD j false=true→∀ x∈oj.after,Zu6 md x=true→listed.getD x.on false=true:=by
  unfold closed
  rw [Zvt]
  constructor
  · intro h j oj hj hl x hx hb
    have hlt:j < ops.size:=(Array.getElem?_eq_some_iff.1 hj).1
    have:=h j (Zwk.2 hlt)
    rw [hj] at this
    simp only [hl,Bool.not_true,Bool.false_or] at this
    have:=Zwz.1 this x hx
    simpa [hb] using this
  · intro h j hj
    have hlt:=Zwk.1 hj
    rw [Array.getElem?_eq_getElem hlt]
    simp only [Zvu,Zxj]
    by_cases hl:listed.getD j false=true
    · refine .inr (Zwz.2 fun x hx=>?_)
      cases hb:Zu6 md x with
      | false=>rfl
      | true=>simpa using h j _ (Array.getElem?_eq_getElem hlt) hl x hx hb
    · exact .inl (by simpa using hl)
theorem Zga {listed : Array Bool} (hc : closed md ops listed = true) {i : Nat} : ∀ f j oj, ops[j]? = some oj → (∀ x ∈ oj.after, Zu6 md x = true → listed.getD x.on false = true) → Xo md ops i f j = true → listed.getD i false = true := by
  intro f
  induction f with
  | zero=>intro j oj hj h hw; simp [Xo] at hw
  | succ f ih =>
    intro j oj hj h hw
    unfold Xo at hw
    rw [hj] at hw
    simp only [Zxl,Zu7,Zvu,beq_iff_eq] at hw
    obtain ⟨x,hx,hb,hw⟩:=hw
    have hl:=h x hx hb
    rcases hw with hw | hw
    · rw [← hw]; exact hl
    · cases hq:ops[x.on]? with
      | none =>
        cases f with
        | zero=>simp [Xo] at hw
        | succ f=>simp [Xo,hq] at hw
      | some oq=>exact ih x.on oq hq (closed_spec.1 hc x.on oq hq hl) hw
theorem Zcy {listed:Array Bool} {j:Nat} (hc:closed md ops listed=true) (hj:j∈Zu1 md ops listed):closed md ops (listed.setIfInBounds j true)=true:=by
  obtain ⟨hjs,hjl,oj,hoj,hja⟩:=ready_mem.1 hj
  refine closed_spec.2 fun q oq hq hl x hx hb=>?_
  rw [Zf8]
  split
  · rfl
  · rw [Zf8] at hl
    split at hl
    · rename_i h1
      obtain ⟨rfl,_⟩:=h1
      rw [hoj] at hq
      injection hq with hq
      subst hq
      exact hja x hx hb
    · exact closed_spec.1 hc q oq hq hl x hx hb
def Xl (md : Zv6) (ops : Array Oper) (m i : Nat) : Bool :=
  match ops[i]? with
  | none=>false
  | some oi => Zbg oi && (Zvg ops.size).all fun j => match ops[j]? with
    | none=>false
    | some oj=>j == i || Xo md ops i ops.size j || Xo md ops j ops.size i || (decide (j < m) && Zbg oj && oi.apart ops oj)
theorem Zj7 {m i:Nat} {oi:Oper} (h:Xl md ops m i=true) (ho:ops[i]? = some oi):Zbg oi=true∧∀ j oj,ops[j]? = some oj→j≠i→Xo md ops i ops.size j=false→Xo md ops j ops.size i=false→j < m∧Zbg oj=true∧oi.apart ops oj=true:=by
  unfold Xl at h
  rw [ho] at h
  simp only [Zu7,Zvt,Zwk] at h
  refine⟨h.1,fun j oj hj hne hx hx'=>?_⟩
  have hlt:j < ops.size:=(Array.getElem?_eq_some_iff.1 hj).1
  have h2:=h.2 j hlt
  rw [hj] at h2
  simp only [Zvu,Zu7,beq_iff_eq,decide_eq_true_eq,hx,hx',Zwe,or_false] at h2
  rcases h2 with h2 | ⟨⟨h2,h3⟩,h4⟩
  · exact absurd h2 hne
  · exact⟨h2,h3,h4⟩
theorem Zib {i:Nat}:∀ f g j,f≤g→Xo md ops i f j=true→Xo md ops i g j=true:=by
  intro f
  induction f with
  | zero=>intro g j _ h; simp [Xo] at h
  | succ f ih =>
    intro g j hg h
    obtain ⟨g,rfl⟩:∃ g',g=g'+1:=⟨g - 1,by omega⟩
    unfold Xo at h ⊢
    split at h
    · cases h
    · rename_i oj hj
      rw [Zxl] at h ⊢
      obtain ⟨x,hx,hb⟩:=h
      refine⟨x,hx,?_⟩
      rw [Zu7,Zvu] at hb ⊢
      exact⟨hb.1,hb.2.imp id (ih g _ (by omega))⟩
def Zj8 (rows:List Nat) (j:Nat) (o:Oper):Nat:=o.after.toList.foldr (fun x r=>if Zu6 .any x && Zuy x.on j then 2 ^ x.on ||| (rows.getD x.on 0 ||| r) else r) 0
def Zb2 (l:List Oper) (rows:List Nat):Bool:=(Zvg l.length).all fun j=>match l[j]? with
  | none=>true
  | some o=>rows.getD j 0 == Zj8 rows j o
theorem Znm {rows : List Nat} {j i : Nat} {o : Oper} (h : (Zj8 rows j o).testBit i = true) : ∃ x, x ∈ o.after ∧ Zu6 .any x = true ∧ x.on < j ∧ (x.on = i ∨ (rows.getD x.on 0).testBit i = true) := by
  have key:∀ l:List Edge,(l.foldr (fun x r=>if Zu6 .any x && Zuy x.on j then 2 ^ x.on ||| (rows.getD x.on 0 ||| r) else r) 0).testBit i=true→∃ x,x∈l∧Zu6 .any x=true∧x.on < j∧(x.on=i∨(rows.getD x.on 0).testBit i=true):=by
    intro l
    induction l with
    | nil=>intro h; simp at h
    | cons a l ih =>
      intro h
      rw [List.foldr_cons] at h
      split at h
      · rename_i hc
        rw [Zu7,Zu8] at hc
        rw [Nat.testBit_or,Nat.testBit_or,Zvu,Zvu,Nat.testBit_two_pow,decide_eq_true_eq] at h
        rcases h with h | h | h
        · exact⟨a,by simp,hc.1,hc.2,.inl h⟩
        · exact⟨a,by simp,hc.1,hc.2,.inr h⟩
        · obtain ⟨x,hx,h'⟩:=ih h
          exact⟨x,by simp [hx],h'⟩
      · obtain ⟨x,hx,h'⟩:=ih h
        exact⟨x,by simp [hx],h'⟩
  obtain ⟨x,hx,h'⟩:=key _ h
  exact⟨x,by simpa using hx,h'⟩
theorem Zj9 {l:List Oper} {rows:List Nat} (hr:Zb2 l rows=true) {i:Nat}:∀ k j,j < k→j < l.length→(rows.getD j 0).testBit i=true→Xo .any l.toArray i (j+1) j=true:=by
  intro k
  induction k with
  | zero=>intro j hj; omega
  | succ k ih =>
    intro j hj hl h
    have h1:=Zvt.1 hr j (Zwk.2 hl)
    rw [List.getElem?_eq_getElem hl] at h1
    simp only [beq_iff_eq] at h1
    rw [h1] at h
    obtain ⟨x,hx,hb,hlt,h'⟩:=Znm h
    unfold Xo
    have hj':l.toArray[j]? = some l[j]:=by simp [hl]
    simp only [hj']
    rw [Zxl]
    refine⟨x,hx,?_⟩
    rw [Zu7,Zvu,beq_iff_eq]
    refine⟨hb,h'.imp id fun h'=>?_⟩
    exact Zib (x.on+1) j _ (by omega) (ih x.on (by omega) (by omega) h')
def J8 (rows : List Nat) (l : List Oper) (m i : Nat) : Bool :=
  match l[i]? with
  | none=>false
  | some oi => Zbg oi && (Zvg l.length).all fun j => match l[j]? with
    | none=>false
    | some oj=>j == i || (rows.getD j 0).testBit i || (rows.getD i 0).testBit j || (decide (j < m) && Zbg oj && oi.apart l.toArray oj)
theorem Zcz {rows:List Nat} {l:List Oper} {m i:Nat} (hr:Zb2 l rows=true) (h:J8 rows l m i=true):Xl .any l.toArray m i=true:=by
  unfold J8 at h
  split at h
  · cases h
  · rename_i oi hi
    have hil:=(List.getElem?_eq_some_iff.1 hi).1
    have hi':l.toArray[i]? = some oi:=by simpa using hi
    unfold Xl
    simp only [hi']
    rw [Zu7,Zvt] at h ⊢
    refine⟨h.1,fun j hj=>?_⟩
    have hjl:j < l.length:=by simpa using hj
    have h2:=h.2 j (by simpa using hjl)
    have hj1:l[j]? = some l[j]:=List.getElem?_eq_getElem hjl
    have hj2:l.toArray[j]? = some l[j]:=by simp [hjl]
    simp only [hj1] at h2
    simp only [hj2]
    simp only [Zvu,List.size_toArray] at h2 ⊢
    rcases h2 with ((h2 | h2) | h2) | h2
    · exact .inl (.inl (.inl h2))
    · exact .inl (.inl (.inr (Zib _ _ _ (by omega) (Zj9 hr _ j (Zw0 j) hjl h2))))
    · exact .inl (.inr (Zib _ _ _ (by omega) (Zj9 hr _ i (Zw0 i) hil h2)))
    · exact .inr h2
theorem Znn (hR : PreW R) {Q : Exit → Act → World → Prop} {m i : Nat} {oi : Oper} {v : Value} (ho : ops[i]? = some oi) (hm : Xl md ops m i = true) :
    ∀ f listed a w,closed md ops listed=true→i∈Zu1 md ops listed→Steady R P ops oi v a w→AEd R P md ops Q m f (listed.setIfInBounds i true) (a.put oi.dst v) w→AEd R P md ops Q m (f+1) listed a w:=by
  obtain ⟨hsi,hoth⟩:=Zj7 hm ho
  intro f
  induction f with
  | zero =>
    intro listed a w hcl hi hst h
    refine⟨fun hr=>absurd (hr ▸ hi) (by simp),fun j hj=>?_⟩
    by_cases hji:j=i
    · subst hji
      exact hst.op hR ho ⟨fun _=>hR.refl _,h⟩
    · have:=Zcx hj (fun e=>hji e.symm)
      rw [h.1] at this
      cases this
  | succ f ih =>
    intro listed a w hcl hi hst h
    refine⟨fun hr=>absurd (hr ▸ hi) (by simp),fun j hj=>?_⟩
    by_cases hji:j=i
    · subst hji
      exact hst.op hR ho ⟨fun _=>hR.refl _,h⟩
    · have hj':=Zcx hj (fun e=>hji e.symm)
      obtain ⟨hjs,hjl,oj,hoj,hja⟩:=ready_mem.1 hj
      obtain ⟨his,hil,_⟩:=ready_mem.1 hi
      have hno:Xo md ops i ops.size j=false:=by
        cases hq:Xo md ops i ops.size j with
        | false=>rfl
        | true =>
          have:=Zga hcl _ j oj hoj hja hq
          have hlt:i < listed.size:=by
            rcases Zv0 i listed.size with h' | h'
            · exact h'
            · simp [Zu4,Zva.2 h'] at hil
          simp [Zu4,hlt] at this hil
          rw [this] at hil
          cases hil
      have hno2:Xo md ops j ops.size i=false:=by
        cases hq:Xo md ops j ops.size i with
        | false=>rfl
        | true =>
          obtain ⟨_,_,oi',hoi',hia⟩:=ready_mem.1 hi
          have:=Zga hcl _ i oi' hoi' hia hq
          have hlt:j < listed.size:=by
            rcases Zv0 j listed.size with h' | h'
            · exact h'
            · simp [Zu4,Zva.2 h'] at hjl
          simp [Zu4,hlt] at this hjl
          rw [this] at hjl
          cases hjl
      obtain ⟨hjm,hsj,hap⟩:=hoth j oj hoj hji hno hno2
      have h2:=Zj6 (R:=R) hoj hap (Zf9 hsi) (Zf9 hsj) (h.2 j hj')
      refine wpOp_mono ?_ h2
      rintro a' w' ⟨hk,hb,hA⟩
      refine⟨hb,ih _ a' w' (Zcy hcl hj) (Zcx hi (fun e=>hji e)) ((hk w hst).later hR (hb hjm)) ?_⟩
      have:(listed.setIfInBounds j true).setIfInBounds i true=(listed.setIfInBounds i true).setIfInBounds j true:=Zyk _ _ hji
      rw [this]
      exact hA
theorem Zno (hR : PreW R) {Q : Exit → Act → World → Prop} {m i : Nat} {oi : Oper} {v : Value} (ho : ops[i]? = some oi) (hm : Xl md ops ops.size i = true) :
    ∀ f listed a w,closed md ops listed=true→i∈Zu1 md ops listed→(∀ w1,Steady R P ops oi v a w1)→AEd R P md ops Q m f (listed.setIfInBounds i true) (a.put oi.dst v) w→AEd R P md ops Q m (f+1) listed a w:=by
  obtain ⟨hsi,hoth⟩:=Zj7 hm ho
  intro f
  induction f with
  | zero =>
    intro listed a w hcl hi hst h
    refine⟨fun hr=>absurd (hr ▸ hi) (by simp),fun j hj=>?_⟩
    by_cases hji:j=i
    · subst hji
      exact(hst w).op hR ho ⟨fun _=>hR.refl _,h⟩
    · have:=Zcx hj (fun e=>hji e.symm)
      rw [h.1] at this
      cases this
  | succ f ih =>
    intro listed a w hcl hi hst h
    refine⟨fun hr=>absurd (hr ▸ hi) (by simp),fun j hj=>?_⟩
    by_cases hji:j=i
    · subst hji
      exact(hst w).op hR ho ⟨fun _=>hR.refl _,h⟩
    · have hj':=Zcx hj (fun e=>hji e.symm)
      obtain ⟨hjs,hjl,oj,hoj,hja⟩:=ready_mem.1 hj
      obtain ⟨his,hil,_⟩:=ready_mem.1 hi
      have hno:Xo md ops i ops.size j=false:=by
        cases hq:Xo md ops i ops.size j with
        | false=>rfl
        | true =>
          have:=Zga hcl _ j oj hoj hja hq
          have hlt:i < listed.size:=by
            rcases Zv0 i listed.size with h' | h'
            · exact h'
            · simp [Zu4,Zva.2 h'] at hil
          simp [Zu4,hlt] at this hil
          rw [this] at hil
          cases hil
      have hno2:Xo md ops j ops.size i=false:=by
        cases hq:Xo md ops j ops.size i with
        | false=>rfl
        | true =>
          obtain ⟨_,_,oi',hoi',hia⟩:=ready_mem.1 hi
          have:=Zga hcl _ i oi' hoi' hia hq
          have hlt:j < listed.size:=by
            rcases Zv0 j listed.size with h' | h'
            · exact h'
            · simp [Zu4,Zva.2 h'] at hjl
          simp [Zu4,hlt] at this hjl
          rw [this] at hjl
          cases hjl
      obtain ⟨hjm,hsj,hap⟩:=hoth j oj hoj hji hno hno2
      have h2:=Zj6 (R:=R) hoj hap (Zf9 hsi) (Zf9 hsj) (h.2 j hj')
      refine wpOp_mono ?_ h2
      rintro a' w' ⟨hk,hb,hA⟩
      refine⟨hb,ih _ a' w' (Zcy hcl hj) (Zcx hi (fun e=>hji e)) (fun w1=>hk w1 (hst w1)) ?_⟩
      have:(listed.setIfInBounds j true).setIfInBounds i true=(listed.setIfInBounds i true).setIfInBounds j true:=Zyk _ _ hji
      rw [this]
      exact hA
end
section
variable {R:World→World→Prop} {P:Program} {l:List Oper} {Q:Exit→Act→World→Prop} {n m f:Nat} {e:Env} {w:World} {listed:Array Bool}
theorem Zic (k:Nat):closed .any l.toArray (Zur k false).toArray=true:=by
  refine closed_spec.2 fun j oj _ hl=>?_
  exfalso
  by_cases h:j < k
  · simp [Zu4,h] at hl
  · simp [Zu4,h] at hl
def J9 (l:List Oper) (listed:Array Bool) (i:Nat):Bool:=!listed.getD i true && match l[i]? with
  | none=>false
  | some o=>o.after.all fun x=>!Zu6 .any x || listed.getD x.on false
theorem Zgb {i:Nat} (h:J9 l listed i=true):i∈Zu1 .any l.toArray listed:=by
  unfold J9 at h
  rw [Zu7,Zxj] at h
  split at h
  · simp at h
  · rename_i o ho
    refine ready_mem.2 ⟨?_,h.1,o,by simpa using ho,fun x hx hb=>?_⟩
    · have:=(List.getElem?_eq_some_iff.1 ho).1
      simpa using this
    · have:=Array.all_eq_true_iff_forall_mem.1 h.2 x hx
      simpa [hb] using this
theorem Zid {id:Nat} (m:Nat) (hm:P.follows .mixedOrders=true) (rows lk lf:List Nat) (hro:Zb2 l rows=true) (hk:lk.all (J8 rows l m)=true) (hf:lf.all (J8 rows l l.length)=true)
    (h:(∀ i,lk.contains i=true→Xl .any l.toArray m i=true)→(∀ i,lf.contains i=true→Xl .any l.toArray l.toArray.size i=true)→∀ w',Bel w w'→AE Bel P .any l.toArray Q m n l.length (Zur l.length false).toArray e w'):(Code.region id l.toArray true).wp P Q (actOf n e) w:=by
  refine wp_region_any hm ?_
  have:=(h (fun i hi=>Zcz hro (Zvt.1 hk i (by simpa using hi))) (fun i hi=>Zcz (m:=l.length) hro (Zvt.1 hf i (by simpa using hi))) { w with drawn:=w.drawn+1 } ⟨⟨rfl,rfl,rfl,Zuv _,fun _ _=>rfl⟩,Zwa _⟩).out (Zic _)
  have h2:=Zia _ _ _ _ this
  simpa using h2
theorem Znp {id:Nat} (m:Nat) (hm:P.follows .mixedOrders=true) (rows lk lf:List Nat) (hro:Zb2 l rows=true) (hk:lk.all (J8 rows l m)=true) (hf:lf.all (J8 rows l l.length)=true)
    (h:(∀ i,lk.contains i=true→Xl .any l.toArray m i=true)→(∀ i,lf.contains i=true→Xl .any l.toArray l.toArray.size i=true)→∀ w',Bel w w'→AE (BelN w'.heap.size) P .any l.toArray Q m n l.length (Zur l.length false).toArray e w'):(Code.region id l.toArray true).wp P Q (actOf n e) w:=by
  refine wp_region_any hm ?_
  have:=(h (fun i hi=>Zcz hro (Zvt.1 hk i (by simpa using hi))) (fun i hi=>Zcz (m:=l.length) hro (Zvt.1 hf i (by simpa using hi))) { w with drawn:=w.drawn+1 } ⟨⟨rfl,rfl,rfl,Zuv _,fun _ _=>rfl⟩,Zwa _⟩).out (Zic _)
  have h2:=Zia _ _ _ _ this
  simpa using h2
theorem Zt (hR:PreW R) {d:Nat} (i:Nat) (v:Value) {oi:Oper} (ho:l[i]? = some oi) (hd:oi.dst=some d) (hr:J9 l listed i=true) (hm:Xl .any l.toArray l.toArray.size i=true)
    (hst:∀ w':World,(Zuu oi (Xu l.toArray n e)=true∧(execOp (ev n e) oi).run P w'=.ok (.value v) w')∨(Zuu oi (Xu l.toArray n e)=false∧v=undef))
    {l9:Array Bool} (hl:listed.setIfInBounds i true=l9) (h:AE R P .any l.toArray Q m n f l9 (upd e d v) w):AE R P .any l.toArray Q m n (f+1) listed e w:=by
  refine⟨fun hcl=>Zno hR (oi:=oi) (v:=v) (by simpa using ho) hm f listed _ w hcl (Zgb hr) ?_ ?_⟩
  · intro w1 w' hb
    have:=hst w'
    have e1:yielded l.toArray (actOf n e).tmps=Xu l.toArray n e:=by funext g; exact Zbv g
    rwa [e1,Zad]
  · have hcl':=Zcy hcl (Zgb hr)
    rw [hl] at hcl'
    rw [hd,Zbu,hl]
    exact h.out hcl'
theorem Jl (hR:PreW R) {d:Nat} (i:Nat) (v:Value) {oi:Oper} (ho:l[i]? = some oi) (hd:oi.dst=some d) (hr:J9 l listed i=true) (hm:Xl .any l.toArray m i=true)
    (hst:∀ w',R w w'→(Zuu oi (Xu l.toArray n e)=true∧(execOp (ev n e) oi).run P w'=.ok (.value v) w')∨(Zuu oi (Xu l.toArray n e)=false∧v=undef))
    {l9:Array Bool} (hl:listed.setIfInBounds i true=l9) (h:AE R P .any l.toArray Q m n f l9 (upd e d v) w):AE R P .any l.toArray Q m n (f+1) listed e w:=by
  refine⟨fun hcl=>Znn hR (oi:=oi) (v:=v) (by simpa using ho) hm f listed _ w hcl (Zgb hr) ?_ ?_⟩
  · intro w' hb
    have:=hst w' hb
    have e1:yielded l.toArray (actOf n e).tmps=Xu l.toArray n e:=by funext g; exact Zbv g
    rwa [e1,Zad]
  · have hcl':=Zcy hcl (Zgb hr)
    rw [hl] at hcl'
    rw [hd,Zbu,hl]
    exact h.out hcl'
def AK (R:World→World→Prop) (P:Program) (l:List Oper) (Q:Exit→Act→World→Prop) (m n f i:Nat) (listed:Array Bool) (w:World):Exit→Act→World→Prop
  | .normal,a,w'=>(i < m→R w w')∧(closed .any l.toArray (listed.setIfInBounds i true)=true→AEd R P .any l.toArray Q m f (listed.setIfInBounds i true) a w')
  | _,_,_=>False
theorem Zka {i:Nat} {w':World} {l9:Array Bool} (hb:R w w') (hl:listed.setIfInBounds i true=l9) (h:AE R P .any l.toArray Q m n f l9 e w'):AK R P l Q m n f i listed w .normal (actOf n e) w':=⟨fun _=>hb,by rw [hl]; exact h.out⟩
theorem Zc0 {i:Nat} {w':World} {l9:Array Bool} (hi:m≤i) (hl:listed.setIfInBounds i true=l9) (h:AE R P .any l.toArray Q m n f l9 e w'):AK R P l Q m n f i listed w .normal (actOf n e) w':=⟨fun hlt=>absurd hlt (Zva.2 hi),by rw [hl]; exact h.out⟩
theorem Zie {i : Nat} {oi : Oper} (ho : l[i]? = some oi) (h : W P l.toArray (AK R P l Q m n f i listed w) [oi] n e w) :
    wpOp P l.toArray Qf i (fun a' w'=>(i < m→R w w')∧(closed .any l.toArray (listed.setIfInBounds i true)=true→AEd R P .any l.toArray Q m f (listed.setIfInBounds i true) a' w')) (actOf n e) w:=by
  have h':=h.out
  unfold wpOp
  have ho':l.toArray[i]? = some oi:=by simpa using ho
  simp only [ho']
  unfold wpList at h'
  split
  · rename_i hw
    rw [if_pos hw] at h'
    rcases h' with h' | ⟨_,_,_,h'⟩
    case inr=>exact h'.elim
    refine .inl ?_
    unfold Zvc at *
    generalize (execOp (actOf n e).eval oi).run P w=r at *
    cases r with
    | ok x w' =>
      cases x <;> simp only [Zvr] at h' ⊢ <;> first
        | exact h'
        | exact h'.elim
        | exact h'.mono (fun e w'' he=>by cases e <;> first | exact he | exact he.elim | (obtain ⟨_,_,he⟩:=he; exact he.elim))
    | halt x w'=>cases x <;> simp only [Zvr] at h' ⊢ <;> first | exact h'.elim | exact h'
  · rename_i hw
    rw [if_neg hw] at h'
    exact h'
theorem Znq (i:Nat) {oi:Oper} (ho:l[i]? = some oi) (hr:Zu1 .any l.toArray listed=[i]) (h:W P l.toArray (AK R P l Q m n f i listed w) [oi] n e w):AE R P .any l.toArray Q m n (f+1) listed e w :=
  ⟨fun hcl=>⟨fun h0=>absurd (hr.symm.trans h0) (by simp),fun j hj=>by
    have hc:=Zcy hcl hj
    rw [hr] at hj
    obtain rfl:j=i:=by simpa using hj
    exact wpOp_mono (fun _ _ hA=>⟨hA.1,hA.2 hc⟩) (Zie ho h)⟩⟩
theorem X9 (i j:Nat) {oi oj:Oper} (ho:l[i]? = some oi) (ho2:l[j]? = some oj) (hr:Zu1 .any l.toArray listed=[i,j]) (h:W P l.toArray (AK R P l Q m n f i listed w) [oi] n e w)
    (h2:W P l.toArray (AK R P l Q m n f j listed w) [oj] n e w):AE R P .any l.toArray Q m n (f+1) listed e w :=
  ⟨fun hcl=>⟨fun h0=>absurd (hr.symm.trans h0) (by simp),fun q hq=>by
    have hc:=Zcy hcl hq
    rw [hr] at hq
    rcases Zus.1 hq with rfl | hq
    · exact wpOp_mono (fun _ _ hA=>⟨hA.1,hA.2 hc⟩) (Zie ho h)
    · obtain rfl:q=j:=by simpa using hq
      exact wpOp_mono (fun _ _ hA=>⟨hA.1,hA.2 hc⟩) (Zie ho2 h2)⟩⟩
def Zd8 (l:List Oper):Nat→Nat→Bool
  | 0,k=>k == l.length && (Zu1 .any l.toArray (Zur l.length true).toArray).isEmpty
  | f+1,k=>Zu1 .any l.toArray (Zur k true++Zur (l.length - k) false).toArray == [k] && Zd8 l f (k+1)
def QN (Q:Exit→Act→World→Prop):Exit→Act→World→Prop
  | .normal,a,w=>Q .normal a w
  | _,_,_=>False
theorem Znr : ∀ f k, m ≤ k → k + f = l.length → Zd8 l f k = true → ∀ a w, wpList P l.toArray (QN Q) (l.drop k) a w →
    AEd R P .any l.toArray Q m f (Zur k true++Zur (l.length - k) false).toArray a w:=by
  intro f
  induction f with
  | zero =>
    intro k hk hl ht a w h
    obtain rfl:k=l.length:=by omega
    simp only [Zd8,Zu7,List.isEmpty_iff] at ht
    rw [List.drop_length] at h
    refine⟨?_,h⟩
    simpa using ht.2
  | succ f ih =>
    intro k hk hl ht a w h
    simp only [Zd8,Zu7,beq_iff_eq] at ht
    refine⟨fun h0=>absurd (ht.1.symm.trans h0) (by simp),fun j hj=>?_⟩
    rw [ht.1] at hj
    obtain rfl:j=k:=by simpa using hj
    have hlt:j < l.length:=by omega
    rw [List.drop_eq_getElem_cons hlt] at h
    have hset:(Zur j true++Zur (l.length - j) false).toArray.setIfInBounds j true=(Zur (j+1) true++Zur (l.length - (j+1)) false).toArray:=by
      have e1:l.length - j=(l.length - (j+1))+1:=by omega
      rw [List.setIfInBounds_toArray,e1,Zw1,List.replicate_succ',List.set_append_right _ _ (by simp)]
      simp
    unfold wpOp
    have ho':l.toArray[j]? = some l[j]:=by simp [hlt]
    simp only [ho']
    unfold wpList at h
    have fin:∀ a' w',wpList P l.toArray (QN Q) (l.drop (j+1)) a' w'→(j < m→R w w')∧AEd R P .any l.toArray Q m f ((Zur j true++Zur (l.length - j) false).toArray.setIfInBounds j true) a' w':=by
      intro a' w' h'
      refine⟨fun hjm=>absurd hjm (by omega),?_⟩
      rw [hset]
      exact ih (j+1) (by omega) (by omega) ht.2 a' w' h'
    split
    · rename_i hw
      rw [if_pos hw] at h
      rcases h with h | ⟨_,_,_,h⟩
      case inr=>exact h.elim
      refine .inl ?_
      unfold Zvc at *
      generalize (execOp a.eval l[j]).run P w=r at *
      cases r with
      | ok x w' =>
        cases x <;> simp only [Zvr] at h ⊢ <;> first
          | exact fin _ _ h
          | exact h.elim
          | exact h.mono (fun e w'' he=>by cases e <;> first | exact fin _ _ he | exact he.elim | (obtain ⟨_,_,he⟩:=he; exact he.elim))
          | exact h.mono (fun u w'' he=>fin _ _ he)
      | halt x w'=>cases x <;> simp only [Zvr] at h ⊢ <;> first | exact h.elim | exact h
    · rename_i hw
      rw [if_neg hw] at h
      exact fin _ _ h
theorem Z2 (k:Nat) {f:Nat} {rest:List Oper} (hk:m≤k) (hl:k+f=l.length) (ht:Zd8 l f k=true) (hlist:(Zur k true++Zur (l.length - k) false).toArray=listed) (hd:l.drop k=rest)
    (h:W P l.toArray (QN Q) rest n e w):AE R P .any l.toArray Q m n f listed e w:=⟨fun _=>hlist ▸ Znr f k hk hl ht _ w (hd ▸ h.out)⟩
theorem Z3 {a:Act} (h:Q .normal a w):QN Q .normal a w:=h
theorem Zns {Q':Exit→Act→World→Prop} (k:∀ a w,Q' .normal a w→Q .normal a w):∀ f (listed:Array Bool) a w,AEd R P .any l.toArray Q' m f listed a w→AEd R P .any l.toArray Q m f listed a w:=by
  intro f
  induction f with
  | zero=>intro listed a w h; exact⟨h.1,k _ _ h.2⟩
  | succ f ih =>
    intro listed a w h
    exact⟨fun h0=>k _ _ (h.1 h0),fun i hi=>wpOp_mono (fun a' w' hA=>⟨hA.1,ih _ _ _ hA.2⟩) (h.2 i hi)⟩
def QJ (n:Nat) (J:Env→World→Prop):Exit→Act→World→Prop:=fun x a w=>x=.normal∧∃ e,a=actOf n e∧J e w
theorem Zb3 (J:Env→World→Prop) (k:∀ e' w',J e' w'→Q .normal (actOf n e') w') (h:AE R P .any l.toArray (QJ n J) m n f listed e w):AE R P .any l.toArray Q m n f listed e w :=
  ⟨fun hc=>Zns (fun a w h=>by obtain ⟨_,e',rfl,hJ⟩:=h; exact k e' w hJ) _ _ _ _ (h.out hc)⟩
end
section
variable {P:Program} {l:List Oper} {Q:Exit→Act→World→Prop} {n m f:Nat} {e:Env} {w:World} {listed:Array Bool}
theorem aF {d:Nat} (i:Nat) (v:Value) {oi:Oper} (ho:l[i]? = some oi) (hd:oi.dst=some d) (hm:Xl .any l.toArray l.toArray.size i=true) (hw:Zuu oi (Xu l.toArray n e)=true)
    (hst:∀ w':World,(execOp (ev n e) oi).run P w'=.ok (.value v) w') (l9:Array Bool) (h:AE Bel P .any l.toArray Q m n f l9 (upd e d v) w)
    (hr:J9 l listed i=true:=by kernel_rfl) (hl:listed.setIfInBounds i true=l9:=by kernel_rfl):AE Bel P .any l.toArray Q m n (f+1) listed e w :=
  Zt Zu i v ho hd hr hm (fun w'=>.inl ⟨hw,hst w'⟩) hl h
theorem aL {d:Nat} (i:Nat) (v:Value) {oi:Oper} (ho:l[i]? = some oi) (hd:oi.dst=some d) (hm:Xl .any l.toArray m i=true) (hw:Zuu oi (Xu l.toArray n e)=true)
    (hst:∀ w':World,Bel w w'→(execOp (ev n e) oi).run P w'=.ok (.value v) w') (l9:Array Bool) (h:AE Bel P .any l.toArray Q m n f l9 (upd e d v) w)
    (hr:J9 l listed i=true:=by kernel_rfl) (hl:listed.setIfInBounds i true=l9:=by kernel_rfl):AE Bel P .any l.toArray Q m n (f+1) listed e w :=
  Jl Zu i v ho hd hr hm (fun w' hB=>.inl ⟨hw,hst w' hB⟩) hl h
theorem aK {R:World→World→Prop} {i:Nat} {w':World} (hb:R w w') (l9:Array Bool) (h:AE R P .any l.toArray Q m n f l9 e w') (hl:listed.setIfInBounds i true=l9:=by kernel_rfl):AK R P l Q m n f i listed w .normal (actOf n e) w':=Zka hb hl h
theorem aO {R:World→World→Prop} (i:Nat) {oi:Oper} (ho:l[i]? = some oi) (h:W P l.toArray (AK R P l Q m n f i listed w) [oi] n e w) (hr:Zu1 .any l.toArray listed=[i]:=by kernel_rfl):AE R P .any l.toArray Q m n (f+1) listed e w:=Znq i ho hr h
end
theorem Zif {P:Program} {Q:Exit→Act→World→Prop} {n:Nat} {e:Env} {w:World} {c:Code} (J:Env→World→Prop) (h1:c.wp P (fun x a w=>x=.normal∧∃ e',a=actOf n e'∧J e' w) (actOf n e) w) (h2:∀ e' w',J e' w'→Q .normal (actOf n e') w'):c.wp P Q (actOf n e) w :=
  Code.wp_mono (fun x a w h=>by obtain ⟨rfl,e',rfl,hJ⟩:=h; exact h2 e' w hJ) h1
end Vc
namespace Vc
open Go Go.RowKit
section
variable {P:Program} {ops:Array Oper} {Q:Exit→Act→World→Prop} {n:Nat} {e:Env} {w w':World} {rest:List Oper}
variable {X:Nat→Prop} {w0:World} {M Ps:List Item}
variable {d ty:Nat} {pos:String} {af:Array Edge} {gd:Option (Nat×Bool)}
theorem Znt {t el len c sz g:Nat} {x y:Operand} {k:IntKind} {i:Int} (j:Nat) (ht:P.underlying t=some (.slice el)) (hz:Xk P el sz) (hx:ev n e x=.slice (some ⟨g,0,none⟩) len c) (hy:ev n e y=.int k i)
    (h0:0≤i) (h1:i < len) (ho:i.toNat * sz=j):(execOp (ev n e) ⟨some d,.indexAddr t x y,ty,pos,af,gd⟩).run P w=.ok (.value (.pointer (some ⟨g,j,none⟩))) w:=by
  have:=Yw (P:=P) (w:=w) (d:=d) (ty:=ty) (pos:=pos) (af:=af) (gd:=gd) ht hz hx hy h0 h1
  rwa [Zae,Zv4,ho] at this
theorem Zaq {t el len c sz g:Nat} {x y:Operand} {k:IntKind} {i:Int} (j:Nat) (ht:P.underlying t=some (.slice el)) (hz:Xk P el sz) (hx:ev n e x=.slice (some ⟨g,0,none⟩) len c) (hy:ev n e y=.int k i)
    (h0:0≤i) (h1:i < len) (ho:i.toNat * sz=j) (h:W P ops Q rest n (upd e d (.pointer (some ⟨g,j,none⟩))) w):W P ops Q (⟨some d,.indexAddr t x y,ty,pos,af,none⟩::rest) n e w :=
  Yv _ rfl rfl (Znt j ht hz hx hy h0 h1 ho) h
theorem Yg {l:List Oper} {op:Op} {dst:Option Nat} (g:Nat) {want:Bool} (dg:Nat) (hd:(l[g]?).bind (·.dst)=some dg) {b:Bool} (hv:ev n e (.tmp dg)=.bool b) (hb:b=want) :
    Zuu ⟨dst,op,ty,pos,af,some (g,want)⟩ (Xu l.toArray n e)=true:=by
  simp only [Zuu,Xu]
  rw [List.getElem?_toArray,hd]
  simp only [ev] at hv
  by_cases hdn:dg < n
  · have hbt:Zuy dg n=true:=by rw [Zu8]; exact hdn
    rw [hbt] at hv
    simp only [cond_true] at hv
    simp [hdn,hv,hb]
  · have hbt:Zuy dg n=false:=by
      cases hq:Zuy dg n with
      | false=>rfl
      | true=>rw [Zu8] at hq; exact absurd hq hdn
    rw [hbt] at hv
    simp [undef] at hv
theorem Ya {l:List Oper} {op:Op} {dst:Option Nat} (g:Nat) {want:Bool} (dg:Nat) (hd:(l[g]?).bind (·.dst)=some dg) {b:Bool} (hv:ev n e (.tmp dg)=.bool b) (hb:b≠want) :
    Zuu ⟨dst,op,ty,pos,af,some (g,want)⟩ (Xu l.toArray n e)=false:=by
  have:=Yg (n:=n) (e:=e) (op:=op) (dst:=dst) (ty:=ty) (pos:=pos) (af:=af) g (want:=b) dg hd hv rfl
  simp only [Zuu,beq_iff_eq] at this ⊢
  rw [this]
  simpa using hb
theorem Xe {l:List Oper} {op:Op} {dst:Option Nat} (g:Nat) {want:Bool} (dg:Nat) (hd:(l[g]?).bind (·.dst)=some dg) (hv:ev n e (.tmp dg)=undef) :
    Zuu ⟨dst,op,ty,pos,af,some (g,want)⟩ (Xu l.toArray n e)=false:=by
  simp only [Zuu,Xu]
  rw [List.getElem?_toArray,hd]
  simp only [ev] at hv
  by_cases hdn:dg < n
  · have hbt:Zuy dg n=true:=by rw [Zu8]; exact hdn
    rw [hbt] at hv
    simp only [cond_true] at hv
    simp [hdn,hv,undef]
  · simp [hdn]
theorem Znu {b t off sz ty':Nat} {x:Operand} {cs:List Value} (seg:List Value) (hh:(blk b t cs).holds w) (hT:AggT P ty' sz) (hx:ev n e x=.pointer (some ⟨b,off,none⟩))
    (hs:(cs.drop off).take sz=seg) (hl:seg.length=sz):(execOp (ev n e) ⟨some d,.load ty' x,ty,pos,af,gd⟩).run P w=.ok (.value (.agg seg.toArray)) w:=by
  simp [execOp,hx,Zvf,Zu0,Zcv hT (Zbx hh hs) hl]
theorem Znv {b t off sz ty':Nat} {x:Operand} {cs:List Value} (seg:List Value) (hh:(blk b t cs).holds w) (hT:AggT P ty' sz) (hx:ev n e x=.pointer (some ⟨b,off,none⟩))
    (hs:(cs.drop off).take sz=seg) (hl:seg.length=sz) (h:W P ops Q rest n (upd e d (.agg seg.toArray)) w):W P ops Q (⟨some d,.load ty' x,ty,pos,af,none⟩::rest) n e w :=
  Yv _ rfl rfl (Znu seg hh hT hx hs hl) h
theorem Zaa {b t off ty':Nat} {x:Operand} {cs:List Value} (v:Value) (hh:(blk b t cs).holds w) (hT:ScaT P ty') (hx:ev n e x=.pointer (some ⟨b,off,none⟩))
    (hs:cs[off]? = some v):(execOp (ev n e) ⟨some d,.load ty' x,ty,pos,af,gd⟩).run P w=.ok (.value v) w:=by
  have h1:(cs.drop off).take 1=[v]:=by rw [Zwv]; simp [hs]
  simp [execOp,hx,Zvf,Zu0,Zdz hT (Zbx hh h1)]
theorem Za1 {b t off ty':Nat} {x:Operand} {cs:List Value} (v:Value) (hh:(blk b t cs).holds w) (hT:ScaT P ty') (hx:ev n e x=.pointer (some ⟨b,off,none⟩))
    (hs:cs[off]? = some v) (h:W P ops Q rest n (upd e d v) w):W P ops Q (⟨some d,.load ty' x,ty,pos,af,none⟩::rest) n e w :=
  Yv _ rfl rfl (Zaa v hh hT hx hs) h
theorem Zkb {f:Operand} {g:FuncId} {cap:List Value} {l:List Operand} {fn:Func} {at_:Array Nat} (vs:List Value) (R:Ending→World→Prop) (hx:ev n e f=.func (.func g) #[] cap.toArray) (hf:P.funcs[g]? = some fn) (hb:fn.body.isNone=false)
    (hne:(fn.name == "runtime.NumGoroutine")=false) (hp:l.map (ev n e)=vs) (hc:Calls P g (vs++cap).toArray w R)
    (h:∀ ret w'',R ret w''→∃ v,ret=.returned v∧W P ops Q rest n (upd e d v) w'') :
    W P ops Q (⟨some d,.call { callee:=.value f,args:=l.toArray,argTypes:=at_ }, ty,pos,af,none⟩::rest) n e w:=by
  refine Zjp (d:=d) g (vs++cap).toArray R (fun g b hg=>by cases hg) rfl ?_ hc h
  have:l.toArray.map (ev n e)=vs.toArray:=by rw [← hp]; simp
  simp only [execOp,resolve,this,hx,Zx5,Zup,Zut,Zuq,invoke,callFunc]
  simp only [run_program,Zup,Zuq,hf,hne,hb,Zwe,if_false,Zut,Array.append_empty,Array.empty_append]
  simp
theorem Zkc {α β:Type} {f:α→β} {x:α} {v:β} {l:List α} {vs:List β} (h:f x=v) (k:l.map f=vs):(x::l).map f=v::vs:=by rw [Zvx,h,k]
theorem Zkd {g:FuncId} {cap:List Operand} (vs:List Value) (hc:cap.map (ev n e)=vs) (h:W P ops Q rest n (upd e d (.func (.func g) #[] vs.toArray)) w) :
    W P ops Q (⟨some d,.makeFunc (.func g) #[] cap.toArray,ty,pos,af,none⟩::rest) n e w:=by
  refine Yv (.func (.func g) #[] vs.toArray) rfl rfl ?_ h
  have:cap.toArray.map (ev n e)=vs.toArray:=by rw [← hc]; simp
  simp [execOp,Instr.makeFunc,← hc]
theorem Jm (hC:Ctx X w0 w M Ps) (k:Nat) {t sz nn:Nat} {v:Value} {cs:List Value} (n':Nat) (cs':List Value) (hk:M[k]? = some (own t sz v nn cs)) (hn:nn=n') (hcs:cs=cs'):Ctx X w0 w (M.set k (own t sz v n' cs')) Ps:=by
  subst hn hcs
  obtain ⟨hlt,he⟩:=List.getElem?_eq_some_iff.1 hk
  rw [← he,List.set_getElem_self]
  exact hC
end
theorem Zke {w0 w w':World} (h:Bel w0 w) (k:Bel w w'):Bel w0 w':=h.trans k
theorem Znw {w0 w:World} {fp:List Nat} (h:w0.heap.size≤w.heap.size) (hf:∀ b,b∈fp→w.heap.size≤b):∀ b,b∈fp→w0.heap.size≤b:=fun b hb=>Zux h (hf b hb)
theorem X3 {w0 w:World} {M Ps:List Item} (hC:Ctx Nox w0 w M Ps) (k:Nat) {t sz nn:Nat} {v:Value} {cs:List Value} (hk:M[k]? = some (own t sz v nn cs)):∀ b,b∈v.ownBlock.toList→w0.heap.size≤b :=
  fun b hb=>(hC.mfp _ (List.mem_of_getElem? hk) b hb).elim id (fun x=>x.elim)
theorem Yr {ty sz n:Nat} {v:Value} {cs:List Value} {w:World} (h:(own ty sz v n cs).holds w):v.oneCell'=true:=by
  obtain ⟨A,c,rfl⟩:=Zd4 h
  rfl
theorem Ja {α:Type} {t:Ty α} {xs:List α} {v:Value} {fp:List Nat} {w:World} (h:t.sl.rep xs [v] fp w):v.oneCell'=true:=t.sl.one h v (by simp)
theorem Za2 {ty sz n:Nat} {v:Value} {cs:List Value} {w:World} (h:(own ty sz v n cs).holds w):v.cells.toList=[v]:=by
  obtain ⟨A,c,rfl⟩:=Zd4 h
  rfl
theorem Zig {α:Type} {t:Ty α} {xs:List α} {v:Value} {fp:List Nat} {w:World} (h:t.sl.rep xs [v] fp w):v.cells.toList=[v]:=by
  obtain ⟨A,c,rfl⟩:=Zd3 h
  rfl
theorem Xp {w:World} {A:Addr} {j o k:Nat} {cs seg:List Value} (h:Xh w (A.add j) cs) (hs:(cs.drop o).take k=seg):Xh w (A.add (j+o)) seg:=by
  have:=Zj3 h hs
  rwa [Zbd] at this
theorem Znx {w:World} {g j o k:Nat} {cs seg:List Value} (h:Xh w ⟨g,j,none⟩ cs) (hs:(cs.drop o).take k=seg):Xh w ⟨g,j+o,none⟩ seg:=by
  have:=Zj3 h hs
  rwa [Zae] at this
theorem Zaf {w w':World} {a:Addr} {cs:List Value} (hB:Bel w w') (h:Xh w a cs):Xh w' a cs:=by
  intro j u hj
  have h1:=h j u hj
  refine(World.cell?_of_block (hB.block _ ?_)).trans h1
  unfold World.cell? at h1
  split at h1
  · rename_i e; exact Zak e
  · cases h1
theorem Ye {v:Value} {vs:List Value} (h:v.oneCell'=true) (k:vs.all (·.oneCell')=true):(v::vs).all (·.oneCell')=true:=by simp [h,k]
theorem Zny {α:Type} {l:List α} (h:l.length=2):∃ a b,l=[a,b]:=by
  match l,h with
  | [a,b],_=>exact⟨a,b,rfl⟩
theorem J6 {i n sz:Nat} (h:i < n):i * sz+sz≤n * sz:=by
  have:(i+1) * sz≤n * sz:=Zxg _ h
  rwa [Zu5,Zvl] at this
theorem Jb {α:Type} [Inhabited α] (xs:List α) (i:Nat) (h:i < xs.length):xs[i]=xs.getD i Zuw:=by simp [Zu3,h]
theorem Znz {α:Type} {E:Enc α} {xs:List α} {cs:List Value} {fp:List Nat} {w:World} (h:E.ty.all xs cs fp w):cs=E.encs xs:=by
  have hl:cs.length=xs.length * E.sz:=h.2.1
  have hs:∀ i (hi:i < xs.length),(cs.drop (i * E.sz)).take E.sz=E.enc xs[i]:=fun i hi=>(h.2.2.2 i hi).2
  clear h
  induction xs generalizing cs with
  | nil=>simpa [Enc.encs] using hl
  | cons x xs ih =>
    have h0:=hs 0 (by simp)
    simp only [Zwx,Zwg,Zyl] at h0
    have ht:=ih (cs:=cs.drop E.sz) (by rw [Zwm,hl,Zxm,Zu5,Zvl]; omega) (fun i hi=>by
      have:=hs (i+1) (by simpa using hi)
      simp only [Zym] at this
      rw [← this,Zv1]
      congr 2
      rw [Zu5,Zvl,Zvw])
    simp only [Enc.encs,Zwf]
    rw [← h0]
    show cs=_++E.encs xs
    rw [← ht,Zyn]
end Vc
namespace Vc
open Go Go.RowKit
open Go.ChangeMaps (setBlock)
abbrev kvA (k:IntKind) (a:A8):Value:=.agg (List.toArray (a.enc k))
abbrev vvI (k:IntKind) (a:Int):Value:=.int k a
structure KeyT (P:Program) (k:TypeId) {α:Type} [DecidableEq α] (kv:α→Value):Prop where
  under:∃ d,P.underlying k=some d∧((∀ x u,Zxn d (kv x) u=none)∨∀ x y,Zxn d (kv x) (kv y)=some (decide (x=y)))
  check:∀ em w x,(Zwn em 10000 k (kv x)).run P w=.ok () w
  equal:∀ w x y,(Op.equal k (kv x) (kv y)).run P w=.ok (decide (x=y)) w
  stays:∀ x,Instr.sameBits 10000 (kv x) (kv x)=true
section pure
variable {α β:Type} [DecidableEq α]
def Jq:List (α×β)→α→Nat→Option (Nat×β)
  | [],_,_=>none
  | p::l,x,i=>if x=p.1 then some (i,p.2) else Jq l x (i+1)
def Ym:List (α×β)→α→Option β
  | [],_=>none
  | p::l,x=>if x=p.1 then some p.2 else Ym l x
def Yc:List (α×β)→α→β→List (α×β)
  | [],x,v=>[(x,v)]
  | p::l,x,v=>if x=p.1 then(x,v)::l else p::Yc l x v
def Xq:List (α×β)→α→List (α×β)
  | [],_=>[]
  | p::l,x=>if x=p.1 then l else p::Xq l x
theorem Zb4 {l:List (α×β)} {x:α} {i:Nat} (h:Jq l x i=none):Ym l x=none∧(∀ v,Yc l x v=l++[(x,v)])∧Xq l x=l∧x∉l.map Zvy:=by
  induction l generalizing i with
  | nil=>exact⟨rfl,fun _=>rfl,rfl,by simp⟩
  | cons p l ih =>
    unfold Jq at h
    split at h
    · cases h
    · rename_i hne
      obtain ⟨h1,h2,h3,h4⟩:=ih h
      refine⟨by simp [Ym,hne,h1],fun v=>by simp [Yc,hne,h2],by simp [Xq,hne,h3],?_⟩
      simp only [Zvx,Zus,not_or]
      exact⟨hne,h4⟩
theorem Zb5 {l:List (α×β)} {x:α} {i j:Nat} {v:β} (h:Jq l x i=some (j,v)):i≤j∧l[j - i]? = some (x,v)∧Ym l x=some v∧(∀ u,Yc l x u=l.set (j - i) (x,u))∧Xq l x=l.eraseIdx (j - i):=by
  induction l generalizing i with
  | nil=>cases h
  | cons p l ih =>
    unfold Jq at h
    split at h
    · rename_i he
      obtain ⟨rfl,rfl⟩:i=j∧p.2=v:=by simpa using h
      subst he
      simp [Ym,Yc,Xq]
    · rename_i hne
      obtain ⟨h0,h1,h2,h3,h4⟩:=ih h
      have e:j - i=(j - (i+1))+1:=by omega
      rw [e]
      exact⟨by omega,by simpa using h1,by simp [Ym,hne,h2],fun u=>by simp [Yc,hne,h3],by simp [Xq,hne,h4]⟩
def Zb6 (l:List (α×β)) (p:α×β) (l':List (α×β)):Prop:=∃ i,∃ h:i < l.length,l[i]=p∧l'=l.eraseIdx i
end pure
def Z7 {α β:Type} (kv:α→Value) (vv:β→Value) (b:Nat) (l:List (α×β)):Item where
  fp:=[b]
  holds w:=∃ es clock,w.heap[b]? = some (.map es clock)∧es.toList.map (fun e=>(e.key,e.val))=l.map (fun p=>(kv p.1,vv p.2))∧(es.toList.map (·.born)).Nodup∧(∀ e∈es.toList,e.born < clock)∧(l.map Zvy).Nodup
  keep _ _ h hw:=by obtain ⟨es,c,h1,h2⟩:=hw; exact⟨es,c,(h b (by simp)).trans h1,h2⟩
  low _ hw c hc := by obtain ⟨es, _, h1, _⟩ := hw; obtain rfl : c = b := by simpa using hc
                      exact Zak h1
def Jx (b:Nat) (es:Array MapEntry) (clock:Nat):Item where
  fp:=[b]
  holds w:=w.heap[b]? = some (.map es clock)
  keep _ _ h hw:=(h b (by simp)).trans hw
  low _ hw c hc := by obtain rfl : c = b := by simpa using hc
                      exact Zak hw
def itI {α β : Type} (kv : α → Value) (vv : β → Value) (r b : Nat) (es : Array MapEntry) (clock : Nat) (last : Option MapEntry) (l : List (α × β)) : Item where
  fp:=[r]
  holds w:=∃ seen c0,w.heap[r]? = some (.mapIter (some b) clock seen c0)∧clock≤c0∧(leftOf es seen).toList.map (fun e=>(e.key,e.val))=l.map (fun p=>(kv p.1,vv p.2)) ∧
    (∀ e,last=some e→(∃ s:Array Nat,seen=s.push e.born)∧c0=clock∧e∈es.toList)
  keep _ _ h hw:=by obtain ⟨s,c,h1,h2⟩:=hw; exact⟨s,c,(h r (by simp)).trans h1,h2⟩
  low _ hw c hc := by obtain ⟨_, _, h1, _⟩ := hw; obtain rfl : c = r := by simpa using hc
                      exact Zak h1
section
variable {P:Program} {α β:Type} [DecidableEq α] {kv:α→Value} {vv:β→Value}
theorem Zkf {k:TypeId} (K:KeyT P k kv) (w:World) (x:α):∀ (es:List MapEntry) (l:List (α×β)) (i:Nat),es.map (fun e=>(e.key,e.val))=l.map (fun p=>(kv p.1,vv p.2)) →
    (Instr.findAsking k (kv x) es i).run P w=.ok ((Jq l x i).map (fun q=>(q.1,vv q.2))) w
  | [],[],i,_=>rfl
  | [],_::_,_,h=>by simp at h
  | _::_,[],_,h=>by simp at h
  | e :: es, p :: l, i, h => by
    simp only [Zvx,Zyr,Zwi] at h
    unfold Instr.findAsking Jq
    simp only [Zup,h.1.1,K.equal,Zuq]
    by_cases hx:x=p.1
    · simp [hx,h.1.2]
    · simp only [hx,decide_false,Zwe,if_false]
      exact Zkf K w x es l (i+1) h.2
theorem Zkg {d:TypeDesc} (hs:∀ x y,Zxn d (kv x) (kv y)=some (decide (x=y))) (x:α):∀ (es:List MapEntry) (l:List (α×β)) (i:Nat),es.map (fun e=>(e.key,e.val))=l.map (fun p=>(kv p.1,vv p.2)) →
    Zxo d (kv x) es i=some ((Jq l x i).map (fun q=>(q.1,vv q.2)))
  | [],[],i,_=>rfl
  | [],_::_,_,h=>by simp at h
  | _::_,[],_,h=>by simp at h
  | e :: es, p :: l, i, h => by
    simp only [Zvx,Zyr,Zwi] at h
    unfold Zxo Jq
    rw [h.1.1,hs]
    by_cases hx:x=p.1
    · simp [hx,h.1.2]
    · simp only [hx,decide_false,if_false]
      exact Zkg hs x es l (i+1) h.2
theorem Zb7 {k:TypeId} (K:KeyT P k kv) (w:World) (x:α) (es:List MapEntry) (l:List (α×β)) (h:es.map (fun e=>(e.key,e.val))=l.map (fun p=>(kv p.1,vv p.2))) :
    (Instr.findKey k (kv x) es).run P w=.ok ((Jq l x 0).map (fun q=>(q.1,vv q.2))) w:=by
  obtain ⟨d,hd,hs⟩:=K.under
  unfold Instr.findKey
  simp only [Zup,run_underlying hd,Zuq]
  rcases hs with hs | hs
  · cases es with
    | nil =>
      cases l with
      | nil=>rfl
      | cons=>simp at h
    | cons e es=>simp only [Zxo,hs]; exact Zkf K w x (e::es) l 0 h
  · rw [Zkg hs x es l 0 h]; rfl
theorem Zn0 {t k el:TypeId} (K:KeyT P k kv) (ht:P.underlying t=some (.map k el)) {w:World} {b:Nat} {l:List (α×β)} (h:(Z7 kv vv b l).holds w) (x:α) {z:β} (hz:Xc P el (vv z)) :
    (Instr.lookup t (.map (some b)) (kv x) false).run P w=.ok (vv ((Ym l x).getD z)) w:=by
  obtain ⟨es,clock,h1,h2,h3⟩:=h
  have hg:(getObj b).run P w=.ok (.map es clock) w:=by simp [getObj,Zu2,h1]
  simp only [Instr.lookup,Zup,run_underlying ht,Zuq,hg,Zut,K.check,Zb7 K w x es.toList l h2]
  cases hf:Jq l x 0 with
  | none=>simp [(Zb4 hf).1,Zfz hz]
  | some q=>obtain ⟨j,v⟩:=q; simp [(Zb5 hf).2.2.1]
theorem Zgc {w:World} {r:Nat} {es:Array MapEntry} {c:Nat} (hr:w.heap[r]? = some (.map es c)) (o':Obj):(setObj r o').run P w=.ok () (setBlock w r o'):=by
  simp [setObj,Zu2,hr,setBlock]
structure BelB (b:Nat) (w w':World):Prop where
  os:w'.os=w.os
  tape:w'.tape=w.tape
  output:w'.output=w.output
  size:w.heap.size≤w'.heap.size
  drawn:w.drawn≤w'.drawn
  old:∀ c,c < w.heap.size→c≠b→w'.heap[c]? = w.heap[c]?
theorem BelB.set (w:World) (b:Nat) (o:Obj):BelB b w (setBlock w b o) where
  os:=rfl
  tape:=rfl
  output:=rfl
  size:=by simp [setBlock]
  drawn:=Zuv _
  old c _ hc:=by simp [setBlock,Array.getElem?_setIfInBounds_ne hc.symm]
theorem Zd9 {w:World} {b:Nat} {o:Obj} (h:b < w.heap.size):(setBlock w b o).heap[b]? = some o:=by simp [setBlock,h]
theorem Zih {l : List (α × β)} {x : α} {v : β} (h : (l.map Zvy).Nodup) : ((Yc l x v).map Zvy).Nodup := by
  cases hf:Jq l x 0 with
  | none =>
    obtain ⟨_,h2,_,h4⟩:=Zb4 hf
    rw [h2,List.map_append,Zvn]
    refine⟨h,by simp,fun a ha b hb=>?_⟩
    obtain rfl:b=x:=by simpa using hb
    exact fun e=>h4 (e ▸ ha)
  | some q =>
    obtain ⟨j,u⟩:=q
    obtain ⟨_,h1,_,h3,_⟩:=Zb5 hf
    rw [h3]
    have:(l.set (j - 0) (x,v)).map Zvy=l.map Zvy:=by
      rw [List.map_set]
      apply List.ext_getElem?
      intro i
      by_cases hij:j - 0=i
      · subst hij
        have hj:=(List.getElem?_eq_some_iff.1 h1).1
        rw [List.getElem?_set_self (by simpa using hj),List.getElem?_map,h1]; rfl
      · rw [List.getElem?_set_ne hij]
    rw [this]; exact h
theorem Zkh {t k el : TypeId} (K : KeyT P k kv) (ht : P.underlying t = some (.map k el)) {w : World} {b : Nat} {l : List (α × β)} (h : (Z7 kv vv b l).holds w) (x : α) (v : β) :
    ∃ w',(Zxp t (.map (some b)) (kv x) (vv v)).run P w=.ok () w'∧(Z7 kv vv b (Yc l x v)).holds w'∧BelB b w w':=by
  obtain ⟨es,clock,h1,h2,h3,h4,h5⟩:=h
  have hlt:=Zak h1
  have hg:(getObj b).run P w=.ok (.map es clock) w:=by simp [getObj,Zu2,h1]
  have hlen:es.size=l.length:=by have:=congrArg Zvq h2; simpa using this
  cases hf:Jq l x 0 with
  | none =>
    obtain ⟨_,q2,_,_⟩:=Zb4 hf
    refine⟨setBlock w b (.map (es.push ⟨kv x,vv v,clock⟩) (clock+1)),?_,⟨_,_,Zd9 hlt,?_,?_,?_,Zih h5⟩,BelB.set _ _ _⟩
    · simp only [Zxp,Zup,run_underlying ht,Zuq,hg,Zut,K.check,Zb7 K w x es.toList l h2,hf,Option.map_none,Zgc h1]
    · rw [q2]; simp [h2]
    · simp only [Array.toList_push,List.map_append,Zvx,List.map_nil]
      rw [Zvn]
      refine⟨h3,by simp,fun a ha b hb e=>?_⟩
      obtain ⟨e0,he0,rfl⟩:=Zv7.1 ha
      have:=h4 e0 he0
      simp at hb; omega
    · intro e he
      simp only [Array.toList_push,Zu9,Zwj] at he
      rcases he with he | rfl
      · exact Nat.lt_succ_of_lt (h4 e he)
      · exact Zw0 _
  | some q =>
    obtain ⟨j,u⟩:=q
    obtain ⟨_,q1,_,q3,_⟩:=Zb5 hf
    rw [Zxq] at q1 q3
    have hj:j < l.length:=(List.getElem?_eq_some_iff.1 q1).1
    have hjs:j < es.size:=by omega
    have hkey:es[j].key=kv x:=by
      have:=congrArg (·[j]?) h2
      simp only [List.getElem?_map,q1,Zvs,Array.getElem?_toList,Array.getElem?_eq_getElem hjs] at this
      simpa using (congrArg Zvy (Zxr this))
    refine⟨setBlock w b (.map (es.modify j fun e=>{ e with key:=kv x,val:=vv v }) clock),?_,⟨_,_,Zd9 hlt,?_,?_,?_,Zih h5⟩,BelB.set _ _ _⟩
    · simp only [Zxp,Zup,run_underlying ht,Zuq,hg,Zut,K.check,Zb7 K w x es.toList l h2,hf,Zvs,Array.getElem?_eq_getElem hjs,Zxk,hkey,Instr.keyThatStays,K.stays,if_true,Zgc h1]
    · rw [q3]
      apply List.ext_getElem?
      intro i
      have h2i:=congrArg (·[i]?) h2
      simp only [List.getElem?_map,Array.getElem?_toList,Array.getElem?_modify] at h2i ⊢
      by_cases hij:j=i
      · subst hij
        simp [hjs,hj]
      · simp [hij,List.getElem?_set_ne hij] at h2i ⊢
        exact h2i
    · have:(es.modify j fun e=>{ e with key:=kv x,val:=vv v }).toList.map (·.born)=es.toList.map (·.born):=by
        apply List.ext_getElem?
        intro i
        simp only [List.getElem?_map,Array.getElem?_toList,Array.getElem?_modify]
        by_cases hij:j=i
        · subst hij; simp [hjs]
        · simp [hij]
      rw [this]; exact h3
    · intro e he
      obtain ⟨i,hi,rfl⟩:=Zvb he
      simp only [Array.getElem_toList,Array.getElem_modify]
      have hi':i < es.size:=by simpa using hi
      split
      · exact h4 es[i] (by simp)
      · exact h4 es[i] (by simp)
theorem Zn1 {t k el:TypeId} {ats:Array TypeId} {ty:TypeId} (K:KeyT P k kv) (ht:P.underlying t=some (.map k el)) (ha:ats[0]? = some t) {w:World} {b:Nat} {l:List (α×β)} (h:(Z7 kv vv b l).holds w) (x:α) :
    ∃ w',(Zxs ats ty #[.map (some b),kv x]).run P w=.ok (.tuple #[]) w'∧(Z7 kv vv b (Xq l x)).holds w'∧BelB b w w':=by
  obtain ⟨es,clock,h1,h2,h3,h4,h5⟩:=h
  have hlt:=Zak h1
  have hg:(getObj b).run P w=.ok (.map es clock) w:=by simp [getObj,Zu2,h1]
  have hlen:es.size=l.length:=by have:=congrArg Zvq h2; simpa using this
  cases hf:Jq l x 0 with
  | none =>
    obtain ⟨_,_,q3,_⟩:=Zb4 hf
    refine⟨setBlock w b (.map es clock),?_,⟨_,_,Zd9 hlt,by rw [q3]; exact h2,h3,h4,by rw [q3]; exact h5⟩,BelB.set _ _ _⟩
    simp [Zxs,ha,Zup,run_underlying ht,Zuq,hg,Zut,K.check,Zb7 K w x es.toList l h2,hf,Zgc h1]
  | some q =>
    obtain ⟨j,u⟩:=q
    obtain ⟨_,q1,_,_,q4⟩:=Zb5 hf
    rw [Zxq] at q1 q4
    have hj:j < l.length:=(List.getElem?_eq_some_iff.1 q1).1
    have hjs:j < es.size:=by omega
    have hE:(es.eraseIdxIfInBounds j).toList=es.toList.eraseIdx j:=by
      simp [Array.eraseIdxIfInBounds,hjs]
    refine⟨setBlock w b (.map (es.eraseIdxIfInBounds j) clock),?_,⟨_,_,Zd9 hlt,?_,?_,?_,?_⟩,BelB.set _ _ _⟩
    · simp [Zxs,ha,Zup,run_underlying ht,Zuq,hg,Zut,K.check,Zb7 K w x es.toList l h2,hf,Zgc h1]
    · rw [q4,hE,Zv8,Zv8,h2]
    · rw [hE,Zv8]; exact h3.sublist (Zw7 ..)
    · rw [hE]; exact fun e he=>h4 e (List.mem_of_mem_eraseIdx he)
    · rw [q4,Zv8]; exact h5.sublist (Zw7 ..)
theorem Zn2 {w:World} {b:Nat} {l:List (α×β)} (h:(Z7 kv vv b l).holds w):∃ es clock,w.heap[b]? = some (.map es clock)∧es.size=l.length:=by
  obtain ⟨es,clock,h1,h2,_⟩:=h
  exact⟨es,clock,h1,by have:=congrArg Zvq h2; simpa using this⟩
end
section
variable {P:Program} {ops:Array Oper} {Q:Exit→Act→World→Prop} {n:Nat} {e:Env} {w w':World} {rest:List Oper}
variable {X:Nat→Prop} {w0:World} {M Ps:List Item}
variable {d ty:Nat} {pos:String} {af:Array Edge} {gd:Option (Nat×Bool)}
variable {α β:Type} [DecidableEq α] {kv:α→Value} {vv:β→Value}
theorem Ctx.turnB (h:Ctx X w0 w M Ps) (k:Nat) {it jt:Item} {b:Nat} (hk:M[k]? = some it) (hb:BelB b w w') (hi:it.fp=[b]) (hj:jt.fp=[b]) (hh:jt.holds w'):Ctx X w0 w' (M.set k jt) Ps :=
  h.turn k hk hb.os hb.tape hb.output hb.size hb.drawn (fun c hc hc'=>hb.old c hc (by simpa [hi] using hc')) hh (fun c hc=>.inl (by rw [hi]; rwa [hj] at hc))
theorem Zn3 {o:Oper} {v:Value} (hg:o.guard=none) (hd:o.dst=none) (hr:(execOp (ev n e) o).run P w=.ok (.value v) w')
    (h:W P ops Q rest n e w'):W P ops Q (o::rest) n e w:=by
  refine⟨?_⟩
  unfold wpList
  rw [if_pos (by simp [Zuu,hg])]
  refine .inl ?_
  unfold Zvc
  rw [Zad,hr,Zwp,hd]
  exact h.out
theorem Ctx.start1 (w:World) (b:Nat) {it:Item} (hfp:it.fp=[b]) (Ps:List Item) (hi:it.holds w) (hp:∀ jt,jt∈Ps→jt.holds w) (hd:∀ jt,jt∈Ps→∀ c,c∈jt.fp→c≠b):Ctx (fun c=>c=b) w w [it] Ps :=
  ⟨rfl,rfl,rfl,Zuv _,Zuv _,fun _ _ _=>rfl,by simpa using hi,hp,by simp [hfp],by simp,fun jt hj c hc m hm hcm=>by
    obtain rfl:m=it:=by simpa using hm
    rw [hfp] at hcm
    exact hd jt hj c hc (Zwj.1 hcm)⟩
theorem Ctx.belB {b:Nat} (h:Ctx (fun c=>c=b) w0 w M Ps):BelB b w0 w:=⟨h.os,h.tape,h.output,h.size,h.drawn,fun c hc hne=>h.old c hc hne⟩
theorem Ctx.mm (h:Ctx X w0 w M Ps) (i j:Nat) {a c:Item} (hi:M[i]? = some a) (hj:M[j]? = some c) (hne:i≠j):∀ x,x∈a.fp→x∉c.fp:=by
  obtain ⟨h1,e1⟩:=List.getElem?_eq_some_iff.1 hi
  obtain ⟨h2,e2⟩:=List.getElem?_eq_some_iff.1 hj
  subst e1 e2
  rcases Zwr hne with hl | hl
  · exact Zuz.1 h.dis i j h1 h2 hl
  · exact fun x hx hx'=>Zuz.1 h.dis j i h2 h1 hl x hx' hx
theorem Zc1 (h:Ctx Nox w0 w M Ps) (k:Nat) {b:Nat} {l:List (α×β)} (hk:M[k]? = some (Z7 kv vv b l)):w0.heap.size≤b :=
  (h.mfp _ (List.mem_of_getElem? hk) b (by simp [Z7])).elim id (fun x=>x.elim)
theorem Za3 (hC:Ctx X w0 w M Ps) {t:Nat} (kv:α→Value) (vv:β→Value) (h:∀ b w',Bel w w'→Ctx X w0 w' (Z7 kv vv b []::M) Ps→W P ops Q rest n (upd e d (.map (some b))) w') :
    W P ops Q (⟨some d,.makeMap t none,ty,pos,af,none⟩::rest) n e w:=by
  have hB:Bel w (w.alloc (.map #[] 0)):=Bel.alloc _ _
  refine Yv (.map (some w.heap.size)) rfl rfl ?_ (h w.heap.size _ hB (hC.push hB _ ⟨#[],0,heap_alloc_new _ _,rfl,by simp,by simp,by simp⟩ (by simp [Z7])))
  simp [execOp,Instr.makeMap,newObj,Zu2,Result.andThen]
theorem Zc2 (hC:Ctx X w0 w M Ps) (j:Nat) {t k el b:Nat} {l:List (α×β)} {x y z:Operand} (kx:α) (v:β) (hk:M[j]? = some (Z7 kv vv b l)) (K:KeyT P k kv) (ht:P.underlying t=some (.map k el))
    (hx:ev n e x=.map (some b)) (hy:ev n e y=kv kx) (hz:ev n e z=vv v) (h:∀ w',Ctx X w0 w' (M.set j (Z7 kv vv b (Yc l kx v))) Ps→W P ops Q rest n e w') {op:Op} (hop:op=.mapUpdate t x y z∨op=.insert t x y z) :
    W P ops Q (⟨none,op,ty,pos,af,none⟩::rest) n e w:=by
  obtain ⟨w',hr,hh,hb⟩:=Zkh K ht (hC.getM j hk) kx v
  refine Zdy rfl rfl ?_ (h w' (hC.turnB j hk hb rfl rfl hh))
  rcases hop with rfl | rfl <;> simp [execOp,hx,hy,hz,hr]
theorem Zn4 (hC:Ctx X w0 w M Ps) (j:Nat) {t k el b:Nat} {l:List (α×β)} {x y:Operand} (kx:α) (hk:M[j]? = some (Z7 kv vv b l)) (K:KeyT P k kv) (ht:P.underlying t=some (.map k el))
    (hx:ev n e x=.map (some b)) (hy:ev n e y=kv kx) {ats:Array TypeId} (ha:ats[0]? = some t) (h:∀ w',Ctx X w0 w' (M.set j (Z7 kv vv b (Xq l kx))) Ps→W P ops Q rest n e w') :
    W P ops Q (⟨none,.call { callee:=.builtin .delete,args:=#[x,y],argTypes:=ats }, ty,pos,af,none⟩::rest) n e w:=by
  obtain ⟨w',hr,hh,hb⟩:=Zn1 (ty:=ty) K ht ha (hC.getM j hk) kx
  refine Zn3 (v:=.tuple #[]) rfl rfl ?_ (h w' (hC.turnB j hk hb rfl rfl hh))
  simp [execOp,resolve,invoke,builtin,hx,hy,hr]
theorem Zki {t k el b:Nat} {l:List (α×β)} {x y:Operand} (kx:α) (z:β) (hh:(Z7 kv vv b l).holds w) (K:KeyT P k kv) (ht:P.underlying t=some (.map k el)) (hz:Xc P el (vv z))
    (hx:ev n e x=.map (some b)) (hy:ev n e y=kv kx):(execOp (ev n e) ⟨some d,.lookup t x y false,ty,pos,af,gd⟩).run P w=.ok (.value (vv ((Ym l kx).getD z))) w:=by
  simp [execOp,hx,hy,Zn0 K ht hh kx hz]
theorem Zkj {t k el b:Nat} {l:List (α×β)} {x y:Operand} (kx:α) (z:β) (hh:(Z7 kv vv b l).holds w) (K:KeyT P k kv) (ht:P.underlying t=some (.map k el)) (hz:Xc P el (vv z))
    (hx:ev n e x=.map (some b)) (hy:ev n e y=kv kx) (h:W P ops Q rest n (upd e d (vv ((Ym l kx).getD z))) w):W P ops Q (⟨some d,.lookup t x y false,ty,pos,af,none⟩::rest) n e w :=
  Yv _ rfl rfl (Zki kx z hh K ht hz hx hy) h
theorem Zn5 {t k el b:Nat} {l:List (α×β)} {x:Operand} (hh:(Z7 kv vv b l).holds w) (ht:P.underlying t=some (.map k el)) (hx:ev n e x=.map (some b)) {ats:Array TypeId} (ha:ats=#[t]) :
    (execOp (ev n e) ⟨some d,.call { callee:=.builtin .len,args:=#[x],argTypes:=ats }, ty,pos,af,gd⟩).run P w=.ok (.value (.int .i64 l.length)) w:=by
  obtain ⟨es,clock,h1,h2⟩:=Zn2 hh
  have hg:(getObj b).run P w=.ok (.map es clock) w:=by simp [getObj,Zu2,h1]
  subst ha
  simp [execOp,resolve,invoke,hx,builtin,Zxe,run_underlying ht,hg,goInt,h2]
theorem Zkk {t k el b:Nat} {l:List (α×β)} {x:Operand} (hh:(Z7 kv vv b l).holds w) (ht:P.underlying t=some (.map k el)) (hx:ev n e x=.map (some b)) {ats:Array TypeId} (ha:ats=#[t])
    (h:W P ops Q rest n (upd e d (.int .i64 l.length)) w):W P ops Q (⟨some d,.call { callee:=.builtin .len,args:=#[x],argTypes:=ats }, ty,pos,af,none⟩::rest) n e w :=
  Yv _ rfl rfl (Zn5 hh ht hx ha) h
theorem Zn6 (es:Array MapEntry):leftOf es #[]=es:=by simp [leftOf]
theorem Zc3 (hC:Ctx X w0 w M Ps) (j:Nat) {t k el b:Nat} {l:List (α×β)} {x:Operand} (hk:Ps[j]? = some (Z7 kv vv b l)) (ht:P.underlying t=some (.map k el)) (hx:ev n e x=.map (some b))
    (h:∀ r es clock w',Bel w w'→(es.toList.map (·.born)).Nodup→(∀ e∈es.toList,e.born < clock)→Ctx X w0 w' (itI kv vv r b es clock none l::M) (Jx b es clock::Ps)→W P ops Q rest n (upd e d (.pointer (some ⟨r,0,none⟩))) w') :
    W P ops Q (⟨some d,.range t x,ty,pos,af,none⟩::rest) n e w:=by
  obtain ⟨es,clock,h1,h2,h3,h4,h5⟩:=hC.getP j hk
  have hg:(getObj b).run P w=.ok (.map es clock) w:=by simp [getObj,Zu2,h1]
  have hC2:=hC.derive j hk (Jx b es clock) (fun _=>h1) (fun _ h=>h)
  have hB:Bel w (w.alloc (.mapIter (some b) clock #[] clock)):=Bel.alloc _ _
  refine Yv _ rfl rfl ?_ (h w.heap.size es clock _ hB h3 h4 (hC2.push hB _ ⟨#[],clock,heap_alloc_new _ _,Zuv _,by rw [Zn6]; exact h2,by simp⟩ (by simp [itI])))
  simp [execOp,Instr.range,hx,run_underlying ht,hg,newObj,Zu2,Result.andThen]
theorem Zn7 {es : Array MapEntry} {seen : Array Nat} (hn : (es.toList.map (·.born)).Nodup) {i : Nat} (hi : i < (leftOf es seen).toList.length) :
    (leftOf es (seen.push ((leftOf es seen).toList[i]).born)).toList=(leftOf es seen).toList.eraseIdx i:=by
  have hN:((leftOf es seen).toList.map (·.born)).Nodup:=by
    unfold leftOf; rw [Zyx]
    exact hn.sublist (List.filter_sublist.map _)
  have h1:leftOf es (seen.push ((leftOf es seen).toList[i]).born)=(leftOf es seen).filter (fun e=>e.born != ((leftOf es seen).toList[i]).born):=by
    generalize ((leftOf es seen).toList[i]).born=q
    unfold leftOf
    rw [Array.filter_filter]
    congr 1
    funext e
    simp [Array.contains_push,bne,Bool.not_or]
    cases hq:decide (e.born=q) <;> simp_all
  rw [h1,Zyx]
  clear h1
  generalize (leftOf es seen).toList=L at hN hi ⊢
  induction L generalizing i with
  | nil=>simp at hi
  | cons a L ih =>
    rw [Zvx,List.nodup_cons] at hN
    cases i with
    | zero =>
      have:L.filter (fun e=>e.born != a.born)=L:=by
        rw [List.filter_eq_self]
        intro x hx
        have:x.born≠a.born:=fun e=>hN.1 (e ▸ Zv7.2 ⟨x,hx,rfl⟩)
        simpa using this
      simp [this]
    | succ i =>
      have hi':i < L.length:=by simpa using hi
      have hne:a.born≠(L[i]).born:=fun e=>hN.1 (e ▸ Zv7.2 ⟨L[i],Zve hi',rfl⟩)
      have:=ih hN.2 hi'
      simp [hne,this]
theorem Zc4 (hC : Ctx X w0 w M Ps) (j p : Nat) {r b : Nat} {es : Array MapEntry} {clock : Nat} {last : Option MapEntry} {l : List (α × β)} {x : Operand} (hk : M[j]? = some (itI kv vv r b es clock last l)) (hp : Ps[p]? = some (Jx b es clock))
    (hn:(es.toList.map (·.born)).Nodup) (hb:∀ e∈es.toList,e.born < clock) (hx:ev n e x=.pointer (some ⟨r,0,none⟩))
    (h0:l=[]→W P ops Q rest n (upd e d (.tuple #[.bool false])) w)
    (h1:∀ q l' ent w',Zb6 l q l'→ent.key=kv q.1→ent.val=vv q.2→Ctx X w0 w' (M.set j (itI kv vv r b es clock (some ent) l')) Ps→W P ops Q rest n (upd e d (.tuple #[.bool true,kv q.1,vv q.2])) w') :
    W P ops Q (⟨some d,.next x false,ty,pos,af,none⟩::rest) n e w:=by
  obtain ⟨seen,c0,g1,g2,g3,g4⟩:=hC.getM j hk
  have g0:w.heap[b]? = some (.map es clock):=hC.getP p hp
  rcases run_next_at (P:=P) w ty r b clock c0 seen es clock g1 g0 hb g2 with ⟨hs,hr⟩ | ⟨ent,hent,w1,hw1,hr⟩
  · have:l=[]:=by
      have:=congrArg Zvq g3
      simp only [List.length_map,Zwt,hs] at this
      exact Zyz.1 this.symm
    exact Yv _ rfl rfl (by simp [execOp,hx,hr]) (h0 this)
  · obtain ⟨i,hi,hie⟩:=Zvb hent
    have hlen:i < l.length:=by have:=congrArg Zvq g3; simp only [List.length_map] at this; omega
    have hq:=congrArg (·[i]?) g3
    simp only [List.getElem?_map,List.getElem?_eq_getElem hi,List.getElem?_eq_getElem hlen,Zvs,Option.some.injEq,Zwi,hie] at hq
    have hlt:r < w1.heap.size:=by rcases hw1 with rfl | rfl <;> exact Zak g1
    have hB:BelB r w (setBlock w1 r (.mapIter (some b) clock (seen.push ent.born) clock)):=by
      rcases hw1 with rfl | rfl
      · exact BelB.set _ _ _
      · have:=BelB.set w.drew r (.mapIter (some b) clock (seen.push ent.born) clock)
        exact⟨this.os,this.tape,this.output,this.size,Zux (Zwa _) this.drawn,this.old⟩
    refine Yv _ rfl rfl (by simp [execOp,hx,hr,hq.1,hq.2]) (h1 l[i] (l.eraseIdx i) ent _ ⟨i,hlen,rfl,rfl⟩ hq.1 hq.2 (hC.turnB j hk hB rfl rfl ⟨seen.push ent.born,clock,Zd9 hlt,Zuv _,?_,?_⟩))
    · subst hie
      rw [Zn7 hn hi,Zv8,g3,← Zv8]
    · intro e2 he2
      obtain rfl:ent=e2:=by simpa using he2
      exact⟨⟨seen,rfl⟩,rfl,(mem_left hent).1⟩
theorem Zc5 (hC:Ctx X w0 w M Ps) (j p:Nat) {r b:Nat} {es:Array MapEntry} {clock:Nat} {ent:MapEntry} {l:List (α×β)} {x:Operand} (q:α×β) (hk:M[j]? = some (itI kv vv r b es clock (some ent) l)) (hp:Ps[p]? = some (Jx b es clock))
    (hn:(es.toList.map (·.born)).Nodup) (hx:ev n e x=.pointer (some ⟨r,0,none⟩)) (hkq:ent.key=kv q.1) (hvq:ent.val=vv q.2)
    (h:W P ops Q rest n (upd e d (.tuple #[kv q.1,vv q.2])) w) :
    W P ops Q (⟨some d,.entry x,ty,pos,af,none⟩::rest) n e w:=by
  obtain ⟨seen,c0,g1,g2,g3,g4⟩:=hC.getM j hk
  obtain ⟨⟨s,rfl⟩,rfl,hm⟩:=g4 ent rfl
  have g0:w.heap[b]? = some (.map es c0):=hC.getP p hp
  exact Yv _ rfl rfl (by simp [execOp,hx,run_entry_at (P:=P) w r b c0 s es c0 ent g1 g0 hm hn,hkq,hvq]) h
end
def Zab {α β S:Type} [DecidableEq α] (body:α×β→S→(S→Prop)→Prop) (exit:S→Prop):Nat→List (α×β)→S→Prop
  | 0,_,s=>exit s
  | k+1,l,s=>∀ p l',Zb6 l p l'→body p s (Zab body exit k l')
section
variable {P:Program} {c:Code} {Q:Exit→Act→World→Prop} {n:Nat} {e:Env} {w:World}
theorem Zc6 {α β:Type} [DecidableEq α] {l l':List (α×β)} {p:α×β} (h:Zb6 l p l'):l.length=l'.length+1:=by
  obtain ⟨i,hi,_,rfl⟩:=h
  rw [Zxy hi]; omega
theorem Zc7 {α β S:Type} [DecidableEq α] (B:α×β→S→(S→Prop)→Prop) (E:S→Prop) (I:List (α×β)→S→Env→World→Prop)
    (body:∀ l s e w (next:List (α×β)→S→Prop) (K:Act→World→Prop),I l s e w→(l=[]→E s)∧(∀ p l',Zb6 l p l'→B p s (next l'))→(∀ p l' s' e' w',Zb6 l p l'→I l' s' e' w'→next l' s'→K (actOf n e') w')→c.wp P (Exit.then K Q) (actOf n e) w)
    {l0:List (α×β)} {s0:S} (h0:I l0 s0 e w) (hF:Zab B E l0.length l0 s0):(Code.loop c).wp P Q (actOf n e) w:=by
  have L:∀ k l s e w,l.length=k→I l s e w→Zab B E k l s→Code.rounds P c Q (k+1) (actOf n e) w:=by
    intro k
    induction k with
    | zero =>
      intro l s e w hl hI h
      refine body l s e w (fun _ _=>True) _ hI ⟨fun _=>h,fun p l' hp=>?_⟩ (fun p l' s' e' w' hp _ _=>?_)
      · have:=Zc6 hp; omega
      · have:=Zc6 hp; omega
    | succ k ih =>
      intro l s e w hl hI h
      refine body l s e w (Zab B E k) _ hI ⟨fun hn=>by subst hn; simp at hl,fun p l' hp=>h p l' hp⟩ (fun p l' s' e' w' hp hI' h'=>?_)
      have:=Zc6 hp
      exact ih l' s' e' w' (by omega) hI' h'
  exact wp_loop_rounds (l0.length+1) (L l0.length l0 s0 e w rfl h0 hF)
end
end Vc
namespace Vc
open Go Go.RowKit
section
variable {P:Program} {k el len:Nat} {ik:IntKind}
theorem Zii {d:Nat} (he:P.underlying el=some (.int ik)) (w:World) (a b:Int):(Zw2 (d+1) el (.int ik a) (.int ik b)).run P w=.ok (decide (a=b)) w:=by
  unfold Zw2
  simp [Zup,run_underlying he,Zw8]
theorem Zn8 (hk:P.underlying k=some (.array 8 el)) (he:P.underlying el=some (.int ik)) (hs:ScaT P el):KeyT P k (kvA ik) where
  under:=⟨_,hk,.inl fun x u=>by cases u <;> rfl⟩
  check em w x:=by
    have hi:∀ m y,(Zwn em (m+1) el (.int ik y)).run P w=.ok () w:=by
      intro m y; unfold Zwn; simp [Zup,run_underlying he]
    show (Zwn em (9999+1) k _).run P w=_
    unfold Zwn
    simp only [Zup,run_underlying hk,Zuq]
    simp [Zy0,List.range',Jt hs.size,part,Zbw hs,A8.enc,Zup,hi 9998]
  equal w x y:=by
    show (Zw2 (9999+1) k _ _).run P w=_
    unfold Zw2
    simp only [Zup,run_underlying hk,Zuq]
    simp [Zy0,List.range',Jt hs.size,part,Zbw hs,A8.enc,Zup,Zii (d:=9998) he]
    have e:(x=y)↔(x.x0=y.x0∧x.x1=y.x1∧x.x2=y.x2∧x.x3=y.x3∧x.x4=y.x4∧x.x5=y.x5∧x.x6=y.x6∧x.x7=y.x7):=by cases x; cases y; simp
    simp only [e]
    (repeat' split) <;> simp_all
  stays x:=by simp [Instr.sameBits,A8.enc]
end
end Vc
namespace Vc
open Go Go.RowKit
open Go.Proofs (CmpLays sortWorldK ltOf)
open Go.Sort (grow putRowK flatK HoldsK SWO PermIn SortedIn mapBlock onCells putCells putRow)
theorem Enc.encs_at {α:Type} [Inhabited α] (E:Enc α) (xs:List α) (j:Nat) (hj:j < xs.length * E.sz):(E.encs xs)[j]? = (E.enc (xs.getD (j / E.sz) Zuw))[j % E.sz]? := by
  have hi:j / E.sz < xs.length:=Zw3 (by rw [Zv3]; exact hj)
  have h:=congrArg (fun l:List Value=>l[j % E.sz]?) (E.encs_seg xs (j / E.sz) hi)
  simp only [List.getElem?_take,List.getElem?_drop,Zv5 _ E.pos,if_true,Zw4] at h
  exact h
theorem Zkl {α S:Type} [Inhabited α] [Inhabited S] (E:Enc α) (f:S→α) (d:Array S):(flatK (fun x=>E.enc (f x)) E.sz d).toList=E.encs (d.toList.map f):=by
  apply List.ext_getElem?
  intro j
  by_cases hj:j < d.size * E.sz
  · have hi:j / E.sz < d.size:=Zw3 (by rw [Zv3]; exact hj)
    have hm:j % E.sz < (E.enc (f d[j / E.sz]!)).length:=by rw [E.len]; exact Zv5 _ E.pos
    rw [E.encs_at _ _ (by simpa using hj)]
    have e:(d.toList.map f).getD (j / E.sz) Zuw=f d[j / E.sz]! := by simp [Zu3,hi]
    rw [e,List.getElem?_eq_getElem hm]
    have hs:j < (flatK (fun x=>E.enc (f x)) E.sz d).size:=by simpa using hj
    rw [Array.getElem?_toList,Array.getElem?_eq_getElem hs]
    have:=Go.Sort.get_flatK (fun x=>E.enc (f x)) E.sz d j hj
    rw [getElem!_pos (flatK (fun x=>E.enc (f x)) E.sz d) j hs] at this
    rw [this,getElem!_pos (E.enc (f d[j / E.sz]!)) (j % E.sz) hm]
  · rw [List.getElem?_eq_none (by simpa using hj),List.getElem?_eq_none (by rw [E.encs_len]; simpa using hj)]
structure BelO (fp:List Nat) (w w':World):Prop where
  os:w'.os=w.os
  tape:w'.tape=w.tape
  output:w'.output=w.output
  size:w.heap.size≤w'.heap.size
  drawn:w.drawn≤w'.drawn
  old:∀ c,c < w.heap.size→c∉fp→w'.heap[c]? = w.heap[c]?
theorem Zn9 {w w' : World} (h : Bel w w') : ∃ q os', w' = grow (w.drewN q) os' := by
  refine⟨w'.drawn - w.drawn,w'.heap.extract w.heap.size w'.heap.size,?_⟩
  have hh:w'.heap=w.heap++w'.heap.extract w.heap.size w'.heap.size:=by
    apply Array.ext_getElem?
    intro i
    rw [Array.getElem?_append]
    split
    · rename_i hi; exact h.block i hi
    · rename_i hi
      rw [Array.getElem?_extract]
      have:w.heap.size+(i - w.heap.size)=i:=by omega
      rw [this]
      split
      · rfl
      · rename_i hi2
        exact Array.getElem?_eq_none (by simp at hi2; have:=h.size; omega)
  have h1:=h.os; have h2:=h.tape; have h3:=h.output; have h4:=h.drawn
  cases w; cases w'
  simp only [grow,World.drewN] at *
  subst h1 h2 h3
  congr 1
  omega
def Zkm {α:Type} (Ok:α→Prop) (cf:α→α→Int) (xs:List α) (K:List α→Prop):Prop :=
  ((∀ x,x∈xs→Ok x)∧xs.length < 4611686018427387904)∧∀ xs',xs'.Perm xs→xs'.Pairwise (fun a b=>¬ cf b a < 0)→K xs'
theorem Zoa {P : Program} {ρ : Zxt} {α : Type} [Inhabited α] (L : Zy2 P ρ) (E : Enc α) (Ok : α → Prop) (x0 : α) (hx0 : Ok x0) (cf : α → α → Int) (hA : AggT P (ρ.t 24) E.sz)
    (hO:SWO (ltOf (fun a b:{a // Ok a}=>cf a.1 b.1))) {g:Nat} {fn:Func} (hf:P.funcs[g]? = some fn) (hb:fn.body.isNone=false) (hn:(fn.name == "runtime.NumGoroutine")=false)
    (hc:∀ a b,Ok a→Ok b→∀ w,Calls P g #[.agg (E.enc a).toArray,.agg (E.enc b).toArray] w fun e w'=>e=.returned (.int .i64 (cf a b))∧Bel w w')
    {t:Nat} {v:Value} {xs:List α} {w:World} (hH:(own t E.sz v xs.length (E.encs xs)).holds w) (ho:∀ x,x∈xs→Ok x) (hs:xs.length < 4611686018427387904) :
    Calls P (ρ.f 6) #[v,.func (.func g) #[] #[]] w fun e w'=>e=.returned (.tuple #[])∧∃ xs',xs'.Perm xs∧xs'.Pairwise (fun a b=>¬ cf b a < 0)∧(own t E.sz v xs'.length (E.encs xs')).holds w'∧BelO v.ownBlock.toList w w':=by
  rcases hH.2 with ⟨rfl,hn0⟩ | ⟨blk,cap,cur,rfl,_,hcur,hcap,hmax,hsz,htk⟩
  · obtain rfl:xs=[]:=Zyf hn0
    refine(Go.Proofs.AnyF.slices_SortFunc_none { L with } none 0 _ w).mono ?_
    rintro e w' ⟨rfl,rfl⟩
    exact⟨rfl,[],.refl _,.nil,hH,⟨rfl,rfl,rfl,Zuv _,Zuv _,fun _ _ _=>rfl⟩⟩
  · haveI:Inhabited {a // Ok a}:=⟨⟨x0,hx0⟩⟩
    let d:Array {a // Ok a}:=(xs.attachWith Ok ho).toArray
    have hd:d.toList.map (·.1)=xs:=by simp [d]
    have hds:d.size=xs.length:=by simp [d]
    have hblk:blk < w.heap.size:=Zak hcur
    let enc:{a // Ok a}→List Value:=fun x=>E.enc x.1
    have hHK:HoldsK enc E.sz w blk 0 d:=by
      intro j hj
      have hj':j < xs.length * E.sz:=by rw [← hds]; simpa using hj
      have hfl:=Zkl E (fun x:{a // Ok a}=>x.1) d
      rw [hd] at hfl
      have h1:(flatK enc E.sz d)[j]? = some (flatK enc E.sz d)[j]! := by rw [Array.getElem?_eq_getElem hj,getElem!_pos (flatK enc E.sz d) j hj]
      have h2:(E.encs xs)[j]? = some (flatK enc E.sz d)[j]! := by rw [← hfl,Array.getElem?_toList]; exact h1
      rw [← htk,List.getElem?_take,if_pos hj',Array.getElem?_toList] at h2
      constructor
      · simp only [World.cell?,hcur,Zv4]
        simpa using h2
      · simp [World.frozen?,hcur]
    have hcl:CmpLays P g #[] enc E.sz (fun a b=>cf a.1 b.1) blk 0 d.size w:=by
      intro m os dk hdk x y
      refine(hc x.1 y.1 x.2 y.2 _).mono ?_
      rintro e w' ⟨rfl,hB⟩
      exact⟨rfl,Zn9 hB⟩
    have eg:∀ args w,(callFunc g args).run P w=.ok (.enter g args) w:=by
      intro args w
      unfold callFunc
      simp only [run_program,Zup,Zuq,hf,hn,hb,Zwe,if_false,Zut]
    have hcon:=Go.Proofs.AnyQ.slices_SortFunc L E.sz (Zjq hA) (Jt hA.size) enc (fun x=>E.len _) (fun x v hv=>E.one _ v hv) (fun a b=>cf a.1 b.1) hO g #[] blk 0 cap d w eg hcl hHK hblk (by rw [hds]; exact hs)
    rw [hds] at hcon
    refine hcon.mono ?_
    rintro e w' ⟨rfl,d',n,os,hp,hsorted,rfl⟩
    have hds':d'.size=xs.length:=hp.1.trans hds
    have hl':(d'.toList.map (·.1)).length=xs.length:=by simpa using hds'
    have hperm:d'.toList.Perm d.toList:=by
      have:=hp.2.2
      rwa [show d'.extract 0 xs.length=d' by rw [← hds']; simp,show d.extract 0 xs.length=d by rw [← hds]; simp] at this
    have hmsz:(putRowK enc E.sz (Zvz w n) blk 0 d').heap.size=w.heap.size:=by simp [putRowK,putRow,mapBlock,Zvz]
    refine⟨rfl,d'.toList.map (·.1),?_,?_,⟨?_,.inr ⟨blk,cap,putCells id 0 (flatK enc E.sz d') cur,by rw [hl'],Zvp _,?_,by rw [hl']; exact hcap,hmax,by simp [putCells,hsz],?_⟩⟩,?_⟩
    · have:=hperm.map (·.1); rwa [hd] at this
    · rw [List.pairwise_map,Zuz]
      intro i j hi hj hij
      have:=hsorted i j (Zvp _) hij (by simpa [hds'] using hj)
      rw [getElem!_pos d' i (by simpa using hi),getElem!_pos d' j (by simpa using hj)] at this
      simpa [ltOf] using this
    · rw [E.encs_len]
    · show (grow (putRowK enc E.sz (Zvz w n) blk 0 d') os).heap[blk]? = _
      rw [Zy3 _ _ (by rw [hmsz]; exact hblk)]
      simp only [putRowK,putRow,mapBlock,Zvz,Array.getElem?_modify,if_true,hcur,Zvs,onCells]
    · rw [hl',← Zkl E (fun x:{a // Ok a}=>x.1) d']
      apply List.ext_getElem?
      intro j
      have hfs:(flatK enc E.sz d').size=xs.length * E.sz:=by simp [hds']
      by_cases hj:j < xs.length * E.sz
      · rw [List.getElem?_take,if_pos hj,Array.getElem?_toList,Array.getElem?_toList]
        have hjc:j < cur.size:=by rw [hsz]; exact Zwq hj (Zxg _ hcap)
        have hjf:j < (flatK enc E.sz d').size:=by rw [hfs]; exact hj
        simp only [putCells,Array.getElem?_mapIdx,Array.getElem?_eq_getElem hjc,Zvs,Zvp,true_and,Zv4,hjf,if_true,Zxq,id]
        rw [getElem!_pos (flatK enc E.sz d') j hjf]
        exact(Array.getElem?_eq_getElem hjf).symm
      · rw [List.getElem?_eq_none (by simp; omega),List.getElem?_eq_none (by simp [hds']; omega)]
    · refine⟨rfl,rfl,rfl,?_,?_,fun c hc hne=>?_⟩
      · show w.heap.size≤(grow (putRowK enc E.sz (Zvz w n) blk 0 d') os).heap.size
        simp [grow,hmsz]
      · exact Nat.le_add_right _ _
      · show (grow (putRowK enc E.sz (Zvz w n) blk 0 d') os).heap[c]? = _
        rw [Zy3 _ _ (by rw [hmsz]; exact hc)]
        have hne':blk≠c:=fun e=>hne (by simp [Zvi,e])
        simp only [putRowK,putRow,mapBlock,Zvz,Array.getElem?_modify,hne',if_false]
section
variable {P:Program} {ops:Array Oper} {Q:Exit→Act→World→Prop} {n:Nat} {e:Env} {w w':World} {rest:List Oper}
variable {X:Nat→Prop} {w0:World} {M Ps:List Item}
variable {d ty:Nat} {pos:String} {af:Array Edge}
structure Cmp (P:Program) (ρ:Zxt) {α:Type} [Inhabited α] (E:Enc α) (Ok:α→Prop) (cf:α→α→Int) (g:Nat):Prop where
  lays:Zy2 P ρ
  one:∃ x0,Ok x0
  agg:AggT P (ρ.t 24) E.sz
  swo:SWO (ltOf (fun a b:{a // Ok a}=>cf a.1 b.1))
  fn:∃ fn:Func,P.funcs[g]? = some fn∧fn.body.isNone=false∧(fn.name == "runtime.NumGoroutine")=false
  call:∀ a b,Ok a→Ok b→∀ w,Calls P g #[.agg (E.enc a).toArray,.agg (E.enc b).toArray] w fun e w'=>e=.returned (.int .i64 (cf a b))∧Bel w w'
theorem Zob (hC:Ctx X w0 w M Ps) (k:Nat) {ρ:Zxt} {α:Type} [Inhabited α] {E:Enc α} {Ok:α→Prop} {cf:α→α→Int} {g f:Nat} (K:Cmp P ρ E Ok cf g) (hff:ρ.f 6=f) {t:Nat} {v:Value} {xs:List α} {x y:Operand} {G:List α→Prop} (hk:M[k]? = some (own t E.sz v xs.length (E.encs xs)))
    {fn:Func} {at_:Array Nat} (hf:P.funcs[f]? = some fn) (hb:fn.body.isNone=false) (hne:(fn.name == "runtime.NumGoroutine")=false)
    (hx:ev n e x=v) (hy:ev n e y=.func (.func g) #[] #[]) (hs:Zkm Ok cf xs G)
    (h:∀ xs' w',G xs'→Ctx X w0 w' (M.set k (own t E.sz v xs'.length (E.encs xs'))) Ps→W P ops Q rest n (upd e d (.tuple #[])) w') :
    W P ops Q (⟨some d,.call { callee:=.value (.func f),args:=#[x,y],argTypes:=at_ }, ty,pos,af,none⟩::rest) n e w:=by
  obtain ⟨x0,hx0⟩:=K.one
  obtain ⟨fg,q1,q2,q3⟩:=K.fn
  have hc:=Zoa K.lays E Ok x0 hx0 cf K.agg K.swo q1 q2 q3 K.call (hC.getM k hk) hs.1.1 hs.1.2
  rw [hff] at hc
  refine Zf (l:=[x,y]) [v,.func (.func g) #[] #[]] _ hf hb hne (by simp [hx,hy]) hc ?_
  rintro ret w'' ⟨rfl,xs',hp,hw,hh,hB⟩
  exact⟨_,rfl,h xs' w'' (hs.2 xs' hp hw) (hC.turn k hk hB.os hB.tape hB.output hB.size hB.drawn hB.old hh (fun b hb=>.inl hb))⟩
end
end Vc
namespace Vc
open Go Go.RowKit
open Go.Proofs (ltOf)
open Go.Sort (SWO)
def A8.list (a:A8):List Int:=[a.x0,a.x1,a.x2,a.x3,a.x4,a.x5,a.x6,a.x7]
def Xr:List Int→List Int→Int
  | x::xs,y::ys=>if x≠y then y - x else Xr xs ys
  | _,_=>0
def pcmp (a b:A8):Int:=Xr a.list b.list
def OkP (a:A8):Prop:=∀ x,x∈a.list→0≤x∧x≤1099511627776
theorem Zkn (xs:List Int):Xr xs xs=0:=by
  induction xs with
  | nil=>rfl
  | cons x xs ih=>simp [Xr,ih]
theorem Zij:∀ (xs ys zs:List Int),xs.length=ys.length→ys.length=zs.length→Xr xs ys < 0→Xr ys zs < 0→Xr xs zs < 0
  | [],[],_,_,_,h,_=>by simp [Xr] at h
  | x :: xs, y :: ys, z :: zs, h1, h2, h3, h4 => by
    simp only [Xr] at h3 h4 ⊢
    have:=Zij xs ys zs (by simpa using h1) (by simpa using h2)
    split at h3 <;> split at h4 <;> split <;> first | omega | exact this h3 h4
  | x::xs,y::ys,[],_,h,_,_=>by simp at h
theorem Zko:∀ (xs ys zs:List Int),xs.length=ys.length→ys.length=zs.length→¬ Xr xs ys < 0→¬ Xr ys zs < 0→¬ Xr xs zs < 0
  | [],_,_,_,_,_,_=>by simp [Xr]
  | x :: xs, y :: ys, z :: zs, h1, h2, h3, h4 => by
    simp only [Xr] at h3 h4 ⊢
    have:=Zko xs ys zs (by simpa using h1) (by simpa using h2)
    split at h3 <;> split at h4 <;> split <;> first | omega | exact this h3 h4
  | x::xs,y::ys,[],_,h,_,_=>by simp at h
  | x::xs,[],_,h,_,_,_=>by simp at h
theorem Zoc:SWO (ltOf (fun a b:{a:A8 // OkP a}=>pcmp a.1 b.1)) where
  irrefl x:=by simp [ltOf,pcmp,Zkn]
  trans x y z h1 h2:=by
    simp only [ltOf,decide_eq_true_eq] at *
    exact Zij x.1.list y.1.list z.1.list rfl rfl h1 h2
  ntrans x y z h1 h2:=by
    simp only [ltOf,decide_eq_false_iff_not] at *
    exact Zko x.1.list y.1.list z.1.list rfl rfl h1 h2
theorem OkP.zero:OkP A8.zero:=by simp [OkP,A8.list,A8.zero]
theorem OkP.sub {a b:A8} (ha:OkP a) (hb:OkP b):(0≤a.x0∧a.x0≤1099511627776∧0≤b.x0∧b.x0≤1099511627776)∧(0≤a.x1∧a.x1≤1099511627776∧0≤b.x1∧b.x1≤1099511627776)∧(0≤a.x2∧a.x2≤1099511627776∧0≤b.x2∧b.x2≤1099511627776)∧(0≤a.x3∧a.x3≤1099511627776∧0≤b.x3∧b.x3≤1099511627776) ∧
    (0≤a.x4∧a.x4≤1099511627776∧0≤b.x4∧b.x4≤1099511627776)∧(0≤a.x5∧a.x5≤1099511627776∧0≤b.x5∧b.x5≤1099511627776)∧(0≤a.x6∧a.x6≤1099511627776∧0≤b.x6∧b.x6≤1099511627776)∧(0≤a.x7∧a.x7≤1099511627776∧0≤b.x7∧b.x7≤1099511627776):=by
  simp only [OkP,A8.list,Zus,Zwy,or_false,forall_eq_or_imp,forall_eq] at ha hb
  omega
def Zkp (a0 a1:A8) (K:Int→Prop):Prop:=Yi (fun i (s:Unit) next=>(if a0.get i≠a1.get i then K (Zxa.wrap ((a1.get i) - (a0.get i))) else next ())) (fun (s:Unit)=>K 0) 8 0 ()
theorem Zkq {a b:A8} {K:Int→Prop} (ha:OkP a) (hb:OkP b) (h:K (pcmp a b)):Zkp a b K:=by
  obtain ⟨h0,h1,h2,h3,h4,h5,h6,h7⟩:=ha.sub hb
  simp only [Zkp,Yi,A8.get]
  simp only [pcmp,A8.list,Xr] at h
  repeat' split
  all_goals (first | (rw [i64_in _ (by omega)]; simp_all; done) | simp_all)
end Vc
namespace Vc
open Go Go.RowKit Go.ChangeShapes Go.WideShapes Go.ChangeAt
section
variable {H:Type} {enc:TypeId×Value→H} {P:Program} {W:World}
abbrev allB (W:World):List Nat:=Zvg W.heap.size
def Opens (enc:TypeId×Value→H) (P:Program) (W:World) (t:TypeId) {α:Type} (T:Ty α) (G:α→Prop):Prop :=
  ∀ fuel cs x,DataW.trod enc P W 0 (fun _=>true) true fuel t cs=some x→∃ a,T.rep a cs (allB W) W∧G a
theorem Zc8:∀ b,b∈allB W→b < W.heap.size:=by simp
def Fit (k:IntKind) (n:Int):Prop:=(Lit.int k n).wf=true
def J1 (k:IntKind) (a:A8):Prop:=∀ x,x∈a.list→Fit k x
theorem Zod {t:TypeId} {k:IntKind} (ht:P.underlying t=some (.int k)):Opens enc P W t (EI k).ty (Fit k):=by
  intro fuel cs x h
  obtain ⟨n,rfl,_,hw⟩:=DataW.trod_int ht h
  exact⟨n,⟨Zc8,rfl⟩,hw⟩
theorem Zoe {t e:TypeId} {k:IntKind} (ht:P.underlying t=some (.array 8 e)) (he:P.underlying e=some (.int k)) (hc:P.cellsOf e=1) (hc8:P.cellsOf t=8):Opens enc P W t (EA k).ty (J1 k):=by
  intro fuel cs x h
  obtain ⟨xs,m,rfl,_,hl,hxl,hx⟩:=DataW.trod_array ht h
  rw [hc8] at hl
  have key:∀ i,i < 8→∃ n,cs[i]? = some (.int k n)∧Fit k n:=by
    intro i hi
    have h1:=hx i hi
    rw [List.getElem?_eq_getElem (by omega)] at h1
    obtain ⟨n,h2,_,hw⟩:=DataW.trod_int he h1
    rw [hc,Nat.mul_one,Zwv,List.head?_drop] at h2
    refine⟨n,?_,hw⟩
    cases hq:cs[i]? with
    | none=>rw [hq] at h2; cases h2
    | some v=>rw [hq] at h2; simpa using h2
  obtain ⟨n0,e0,w0⟩:=key 0 (by omega)
  obtain ⟨n1,e1,w1⟩:=key 1 (by omega)
  obtain ⟨n2,e2,w2⟩:=key 2 (by omega)
  obtain ⟨n3,e3,w3⟩:=key 3 (by omega)
  obtain ⟨n4,e4,w4⟩:=key 4 (by omega)
  obtain ⟨n5,e5,w5⟩:=key 5 (by omega)
  obtain ⟨n6,e6,w6⟩:=key 6 (by omega)
  obtain ⟨n7,e7,w7⟩:=key 7 (by omega)
  refine⟨⟨n0,n1,n2,n3,n4,n5,n6,n7⟩,⟨Zc8,?_⟩,?_⟩
  · show cs=[.int k n0,.int k n1,.int k n2,.int k n3,.int k n4,.int k n5,.int k n6,.int k n7]
    apply List.ext_getElem?
    intro i
    by_cases hi:i < 8
    · match i,hi with
      | 0,_=>exact e0
      | 1,_=>exact e1
      | 2,_=>exact e2
      | 3,_=>exact e3
      | 4,_=>exact e4
      | 5,_=>exact e5
      | 6,_=>exact e6
      | 7,_=>exact e7
    · rw [List.getElem?_eq_none (by omega),List.getElem?_eq_none (by simp; omega)]
  · intro x hx
    simp only [A8.list,Zus,Zwy,or_false] at hx
    rcases hx with rfl | rfl | rfl | rfl | rfl | rfl | rfl | rfl <;> assumption
theorem Zof {sz:Nat} (L:List (List Value)) (hL:∀ c,c∈L→c.length=sz) (i:Nat) (hi:i < L.length):(L.flatten.drop (i * sz)).take sz=L[i]:=by
  induction L generalizing i with
  | nil=>simp at hi
  | cons c L ih =>
    have hc:=hL c (by simp)
    cases i with
    | zero=>simp [Zwo,← hc]
    | succ i =>
      rw [Zwo,Zu5,Zvl,Zvw (i * sz),← Zv1,Zv2 hc]
      exact ih (fun c' h'=>hL c' (by simp [h'])) i (by simpa using hi)
theorem Zik {sz:Nat} (L:List (List Value)) (hL:∀ c,c∈L→c.length=sz):L.flatten.length=L.length * sz:=by
  induction L with
  | nil=>simp
  | cons c L ih=>rw [Zwo,Zvm,hL c (by simp),ih (fun c' h'=>hL c' (by simp [h'])),Zxm,Zu5,Zvl,Zvw]
theorem Zil {α : Type} [Inhabited α] {T : Ty α} {G : α → Prop} {t e : TypeId} (ht : P.underlying t = some (.slice e)) (hc : P.cellsOf e = T.sz) (hpos : 0 < T.sz) (ho : Opens enc P W e T G) : Opens enc P W t T.sl (fun xs => ∀ x, x ∈ xs → G x) := by
  intro fuel cs x h
  rcases Go.Deep.open_slice ht h with ⟨rfl,rfl⟩ | ⟨a,len,cap,m,n,D,Pl,rfl,_,hlc,hm,hmm,rfl,hx⟩
  · exact⟨[],T.sl.more (J0 T W) (by simp) Zc8,by simp⟩
  · have hlm:len≤m:=by rw [hmm]; simp [hlc]
    obtain ⟨f,hf⟩:=Go.Deep.choose_lt (n:=len) (p:=fun i (q:α×List Value)=>W.cells? 0 (a.add (i * P.cellsOf e)) (P.cellsOf e)=some q.2∧T.rep q.1 q.2 (allB W) W∧G q.1) (fun i hi=>by
      obtain ⟨cs',h1,h2⟩:=hx i (by omega)
      obtain ⟨x0,hr,hg⟩:=ho _ _ _ h2
      exact⟨(x0,cs'),h1,hr,hg⟩)
    let L:=(Zvg len).map (fun i=>(f i).2)
    have hLs:∀ c,c∈L→c.length=T.sz:=by
      intro c hcm
      obtain ⟨i,hi,rfl⟩:=Zv7.1 hcm
      exact T.len (hf i (by simpa using hi)).2.1
    have hLl:L.length=len:=by simp [L]
    have hxl:((Zvg len).map (fun i=>(f i).1)).length=len:=by simp
    have hseg:∀ i (hi:i < len),(L.flatten.drop (i * T.sz)).take T.sz=(f i).2:=by
      intro i hi
      rw [Zof L hLs i (by omega)]
      simp [L]
    refine⟨(Zvg len).map (fun i=>(f i).1),⟨_,L.flatten,rfl,⟨Zc8,?_,?_,some a,cap,by rw [hxl],by rw [hxl]; exact hlc,fun hn=>⟨a,rfl,?_,?_⟩⟩,Zc8,?_,?_,?_⟩,?_⟩
    · rw [Zik L hLs,hLl,hxl]
    · rw [hxl]; omega
    · rw [hxl] at hn
      have:=World.cells?_block (hf 0 hn).1 (by rw [hc]; exact hpos)
      simpa [Zwc] using this
    · intro j u hj
      have hjl:j < len * T.sz:=by
        have:=(List.getElem?_eq_some_iff.1 hj).1
        rwa [Zik L hLs,hLl] at this
      have hi:j / T.sz < len:=Zw3 (by rw [Zv3]; exact hjl)
      have hj2:=congrArg (fun l:List Value=>l[j % T.sz]?) (hseg _ hi)
      simp only [List.getElem?_take,List.getElem?_drop,Zv5 _ hpos,if_true,Zw4] at hj2
      rw [hj] at hj2
      obtain ⟨_,_,h3⟩:=World.cells?_some (hf _ hi).1
      have h4:=h3 (j % T.sz) (by rw [hc]; exact Zv5 _ hpos)
      rw [hc,Zbd,Zw4] at h4
      rw [h4]; exact hj2.symm
    · rw [Zik L hLs,hLl,hxl]
    · intro u hu
      obtain ⟨c,hcm,huc⟩:=List.mem_flatten.1 hu
      obtain ⟨i,hi,rfl⟩:=Zv7.1 hcm
      exact T.one (hf i (by simpa using hi)).2.1 u huc
    · intro i hi
      rw [hxl] at hi
      rw [hseg i hi]
      simpa using (hf i hi).2.1
    · intro x hx'
      obtain ⟨i,hi,rfl⟩:=Zv7.1 hx'
      exact(hf i (by simpa using hi)).2.2
theorem Opens.arg {α:Type} {T:Ty α} {G:α→Prop} {t:TypeId} (ho:Opens enc P W t T G) {v:Value} {d:DataW H} {ps:List MemPlace} (h:DataW.Trod enc P W 0 (fun _=>true) true t v d ps):∃ a,T.rep a v.cells.toList (allB W) W∧G a:=by
  obtain ⟨fuel,hf⟩:=h
  exact ho _ _ _ hf
theorem Zkr {t:TypeId} {v:Value} {d:DataW H} {ps:List MemPlace} (h:DataW.Trod enc P W 0 (fun _=>true) true t v d ps):∀ x∈ps,x.block < W.heap.size:=by
  obtain ⟨m,hm⟩:=h
  exact DataW.trod_lt m _ _ _ hm
end
end Vc
namespace Vc
open Go
theorem Zog {P:Program} {w:World} {r:Reach} {base:Nat} {t:TypeId} {v:Value} (h:Value.okWide P w r base t v) (hu:∃ d,P.underlying t=some d∧(match d with | .struct _ | .array _ _=>true | _=>false)=true):∃ cs,v=.agg cs:=by
  obtain ⟨d,hu,hd⟩:=hu
  cases d <;> first
    | (simp only [Value.okWide,hu] at h; obtain ⟨cs,h1,_⟩:=h; exact⟨cs,h1⟩)
    | cases hd
theorem Zoh {c:Array Value} (h:(Value.agg c).cells.toList.length=2):∃ u v,c=#[u,v]:=by
  obtain ⟨u,v,hu⟩:=Zny h
  exact⟨u,v,by simpa [Value.cells] using congrArg List.toArray hu⟩
end Vc
namespace Vc
open Go Go.RowKit Go.ChangeShapes Go.WideShapes Go.ChangeAt
section
variable {H:Type} {enc:TypeId×Value→H} {P:Program} {W:World}
theorem Zoi {α β:Type} {T:Ty α} {G:α→Prop} (f:β→α) (g:α→β) (hg:∀ x,f (g x)=x) {t:TypeId} {f0:Field} (ht:P.underlying t=some (.struct #[f0])) (h0:f0.offset=0) (hc:P.cellsOf f0.type=P.cellsOf t)
    (h:Opens enc P W f0.type T G):Opens enc P W t (Ty.iso f T) (fun b=>G (f b)):=by
  intro fuel cs x hx
  obtain ⟨y0,n,_,hl,hy⟩:=trod_struct1 ht hx
  rw [h0,Zwg,Zwh (by omega)] at hy
  obtain ⟨a,hr,hga⟩:=h _ _ _ hy
  refine⟨g a,?_,?_⟩
  · show T.rep (f (g a)) cs (allB W) W
    rw [hg]; exact hr
  · show G (f (g a))
    rw [hg]; exact hga
theorem Zks {α γ β:Type} {T:Ty α} {S:Ty γ} {G:α→Prop} {D:γ→Prop} (f:β→α×γ) (g:α×γ→β) (hg:∀ x,f (g x)=x) {t:TypeId} {f0 f1:Field} (ht:P.underlying t=some (.struct #[f0,f1])) (h0:f0.offset=0)
    (h1:f1.offset=P.cellsOf f0.type) (hc:P.cellsOf f0.type+P.cellsOf f1.type=P.cellsOf t) (h:Opens enc P W f0.type T G) (k:Opens enc P W f1.type S D):Opens enc P W t (Ty.iso f (Ty.pair T S)) (fun b=>G (f b).1∧D (f b).2):=by
  intro fuel cs x hx
  obtain ⟨y0,y1,n,_,hl,hy,hz⟩:=trod_struct2 ht hx
  rw [h0,Zwg] at hy
  rw [h1,Zwh (by rw [Zwm]; omega)] at hz
  obtain ⟨a,hr,hga⟩:=h _ _ _ hy
  obtain ⟨c,hs,hgc⟩:=k _ _ _ hz
  refine⟨g (a,c),?_,?_⟩
  · show ∃ c1 c2,cs=c1++c2∧T.rep (f (g (a,c))).1 c1 (allB W) W∧S.rep (f (g (a,c))).2 c2 (allB W) W
    rw [hg]
    exact⟨_,_,(Zyn _ _).symm,hr,hs⟩
  · show G (f (g (a,c))).1∧D (f (g (a,c))).2
    rw [hg]; exact⟨hga,hgc⟩
theorem Zoj {t:TypeId} {f0 f1:Field} (ht:P.underlying t=some (.struct #[f0,f1])) (h0:f0.offset=0) (h1:f1.offset=P.cellsOf f0.type) (hc:P.cellsOf f0.type+P.cellsOf f1.type=P.cellsOf t)
    (h:Opens enc P W f0.type (EA .u8).ty (J1 .u8)) (k:Opens enc P W f1.type (EI .i64).ty (Fit .i64)):Opens enc P W t ETerm.ty (fun x=>J1 .u8 x.mono∧Fit .i64 x.factor):=by
  intro fuel cs x hx
  obtain ⟨a,⟨c1,c2,rfl,hr,hs⟩,hg⟩:=Zks (fun x:Term=>(x.mono,x.factor)) (fun p=>⟨p.1,p.2⟩) (fun _=>rfl) ht h0 h1 hc h k fuel cs x hx
  refine⟨a,⟨Zc8,?_⟩,hg⟩
  rw [hr.2,hs.2]; rfl
end
end Vc
namespace Vc
open Go
theorem Ys {S:Type} {body:Nat→S→(S→Prop)→Prop} {exit:S→Prop} (I:Nat→S→Prop) (N:Nat)
    (step:∀ i s next,i < N→I i s→(∀ s',I (i+1) s'→next s')→body i s next) (fin:∀ s,I N s→exit s):∀ r i s,i+r=N→I i s→Yi body exit r i s:=by
  intro r
  induction r with
  | zero => intro i s hi h; obtain rfl : i = N := by omega
            exact fin s h
  | succ r ih=>intro i s hi h; exact step i s _ (by omega) h (fun s' h'=>ih (i+1) s' (by omega) h')
theorem X4 {S:Type} {body:S→(S→Prop)→Prop} (I:S→Prop) (μ:S→Nat) (step:∀ s next,I s→(∀ s',I s'→μ s' < μ s→next s')→body s next) {s:S} (h:I s):X8 body s:=by
  have L:∀ k s,I s→μ s < k→Zf3 body k s:=by
    intro k
    induction k with
    | zero=>intro s _ hk; omega
    | succ k ih=>intro s hs hk; exact step s _ hs (fun s' h' hm=>ih s' h' (by omega))
  exact⟨μ s+1,L _ s h (Zw0 _)⟩
theorem Zc9 {α β S:Type} [DecidableEq α] {body:α×β→S→(S→Prop)→Prop} {exit:S→Prop} (I:List (α×β)→S→Prop)
    (step:∀ l p l' s next,Zb6 l p l'→I l s→(∀ s',I l' s'→next s')→body p s next) (fin:∀ s,I [] s→exit s):∀ l s,I l s→Zab body exit l.length l s:=by
  have L:∀ k l s,l.length=k→I l s→Zab body exit k l s:=by
    intro k
    induction k with
    | zero=>intro l s hl h; obtain rfl:=Zyz.1 hl; exact fin s h
    | succ k ih =>
      intro l s hl h p l' hp
      exact step l p l' s _ hp h (fun s' h'=>ih l' s' (by have:=Zc6 hp; omega) h')
  exact fun l s h=>L _ l s rfl h
theorem Zda {α β:Type} [DecidableEq α] {l l':List (α×β)} {p:α×β} (h:Zb6 l p l'):l.Perm (p::l'):=by
  obtain ⟨i,hi,rfl,rfl⟩:=h
  induction l generalizing i with
  | nil=>simp at hi
  | cons a l ih =>
    cases i with
    | zero=>simp
    | succ i =>
      have:=ih i (by simpa using hi)
      simp only [Zym,List.eraseIdx_cons_succ]
      exact(this.cons a).trans (Zv9 _ _ _)
namespace A8
theorem ext_get {a b:A8} (h:∀ i,i < 8→a.get i=b.get i):a=b:=by
  have h0:=h 0 (by omega); have h1:=h 1 (by omega); have h2:=h 2 (by omega); have h3:=h 3 (by omega)
  have h4:=h 4 (by omega); have h5:=h 5 (by omega); have h6:=h 6 (by omega); have h7:=h 7 (by omega)
  cases a; cases b
  simp only [get] at *
  simp only [A8.mk.injEq]
  exact⟨h0,h1,h2,h3,h4,h5,h6,h7⟩
theorem get_set {a:A8} {i j:Nat} {v:Int} (hi:i < 8):(a.set i v).get j=if j=i then v else a.get j:=by
  match i,hi with
  | 0, _ => match j with
    | 0 | 1 | 2 | 3 | 4 | 5 | 6 | 7=>rfl
    | j+8=>simp [set,get]
  | 1, _ => match j with
    | 0 | 1 | 2 | 3 | 4 | 5 | 6 | 7=>rfl
    | j+8=>simp [set,get]
  | 2, _ => match j with
    | 0 | 1 | 2 | 3 | 4 | 5 | 6 | 7=>rfl
    | j+8=>simp [set,get]
  | 3, _ => match j with
    | 0 | 1 | 2 | 3 | 4 | 5 | 6 | 7=>rfl
    | j+8=>simp [set,get]
  | 4, _ => match j with
    | 0 | 1 | 2 | 3 | 4 | 5 | 6 | 7=>rfl
    | j+8=>simp [set,get]
  | 5, _ => match j with
    | 0 | 1 | 2 | 3 | 4 | 5 | 6 | 7=>rfl
    | j+8=>simp [set,get]
  | 6, _ => match j with
    | 0 | 1 | 2 | 3 | 4 | 5 | 6 | 7=>rfl
    | j+8=>simp [set,get]
  | 7, _ => match j with
    | 0 | 1 | 2 | 3 | 4 | 5 | 6 | 7=>rfl
    | j+8=>simp [set,get]
theorem get_zero (i:Nat):zero.get i=0:=by
  match i with
  | 0 | 1 | 2 | 3 | 4 | 5 | 6 | 7=>rfl
  | i+8=>rfl
theorem mem_list {a:A8} {x:Int}:x∈a.list↔∃ i,i < 8∧a.get i=x:=by
  constructor
  · intro h
    simp only [list,Zus,Zwy,or_false] at h
    rcases h with rfl | rfl | rfl | rfl | rfl | rfl | rfl | rfl
    · exact⟨0,by omega,rfl⟩
    · exact⟨1,by omega,rfl⟩
    · exact⟨2,by omega,rfl⟩
    · exact⟨3,by omega,rfl⟩
    · exact⟨4,by omega,rfl⟩
    · exact⟨5,by omega,rfl⟩
    · exact⟨6,by omega,rfl⟩
    · exact⟨7,by omega,rfl⟩
  · rintro ⟨i,hi,rfl⟩
    match i,hi with
    | 0,_=>simp [list,get]
    | 1,_=>simp [list,get]
    | 2,_=>simp [list,get]
    | 3,_=>simp [list,get]
    | 4,_=>simp [list,get]
    | 5,_=>simp [list,get]
    | 6,_=>simp [list,get]
    | 7,_=>simp [list,get]
def add (a b:A8):A8:=⟨a.x0+b.x0,a.x1+b.x1,a.x2+b.x2,a.x3+b.x3,a.x4+b.x4,a.x5+b.x5,a.x6+b.x6,a.x7+b.x7⟩
theorem get_add (a b:A8) (i:Nat):(a.add b).get i=a.get i+b.get i:=by
  match i with
  | 0 | 1 | 2 | 3 | 4 | 5 | 6 | 7=>rfl
  | i+8=>rfl
end A8
theorem Zim {x:Int} (h:Fit .u8 x):0≤x∧x≤255:=by
  simp only [Fit,Lit.wf,Zu7,decide_eq_true_eq] at h
  simp [IntKind.min,IntKind.max,IntKind.signed,IntKind.bits] at h
  omega
theorem Zin {k:IntKind} {a:A8} (h:J1 k a) {i:Nat} (hi:i < 8):Fit k (a.get i):=h _ (A8.mem_list.2 ⟨i,hi,rfl⟩)
theorem Zgd (x:Int) (h:0≤x∧x≤255):IntKind.u8.wrap x=x:=by
  simp [IntKind.wrap,IntKind.bits,IntKind.signed]; omega
def OkDeg (ds:List Int):Prop:=ds.length≤8∧∀ i,i < ds.length→1≤ds.getD i Zuw∧ds.getD i Zuw≤12
instance (ds:List Int):Decidable (OkDeg ds):=inferInstanceAs (Decidable (_∧∀ i,i < ds.length→_))
def OkMono (ds:List Int) (a:A8):Prop:=∀ i,i < 8→(i < ds.length→a.get i≤20∧(Zvh (ds.getD i Zuw) 2≠0→a.get i≤1))∧(ds.length≤i→a.get i=0)
instance (ds:List Int) (a:A8):Decidable (OkMono ds a):=inferInstanceAs (Decidable (∀ i,i < 8→_))
def Xv (ds:List Int) (a:A8):Prop:=∀ i,i < 8→(i < ds.length→a.get i≤100∧(Zvh (ds.getD i Zuw) 2≠0→a.get i≤1))∧(ds.length≤i→a.get i=0)
theorem OkMono.wk {ds:List Int} {a:A8} (h:OkMono ds a):Xv ds a:=fun i hi=>⟨fun hl=>⟨by have:=((h i hi).1 hl).1; omega,((h i hi).1 hl).2⟩,(h i hi).2⟩
theorem Zok {d:Int} (h:1≤d∧d≤12):Zvh d 2=0∨Zvh d 2=1:=by
  rw [Int.tmod_eq_emod_of_nonneg (by omega)]; omega
theorem OkDeg.odd {ds:List Int} (h:OkDeg ds) {i:Nat} (hi:i < ds.length):Zvh (ds.getD i Zuw) 2=0∨Zvh (ds.getD i Zuw) 2=1:=Zok (h.2 i hi)
def Clash (ds:List Int) (a b:A8):Prop:=∃ i,i < ds.length∧Zvh (ds.getD i Zuw) 2≠0∧0 < a.get i∧0 < b.get i
instance (ds:List Int) (a b:A8):Decidable (Clash ds a b):=decidable_of_iff (∃ i,i < ds.length∧(Zvh (ds.getD i Zuw) 2≠0∧0 < a.get i∧0 < b.get i)) (by simp [Clash])
def Zar (ds:List Int) (a:A8):Nat→Nat→Int
  | 0,_=>0
  | r+1,j=>Zvh (ds.getD j Zuw) 2 * a.get j+Zar ds a r (j+1)
def Zas (ds:List Int) (a b:A8):Nat→Nat→Int
  | 0,_=>0
  | r+1,i=>(if Zvh (ds.getD i Zuw) 2=0∨b.get i≤0 then 0 else Zar ds a r (i+1))+Zas ds a b r (i+1)
def sg (c:Int):Int:=if c % 2=0 then 1 else -1
def Yt (ds:List Int) (a b:A8):A8×Int:=if Clash ds a b then(A8.zero,0) else(a.add b,sg (Zas ds a b ds.length 0))
theorem Zge (a b:Int):sg (a+b)=sg a * sg b:=by
  unfold sg; split <;> split <;> split <;> omega
theorem Zol (s:Int):sg (s+1)=- sg s:=by unfold sg; split <;> split <;> omega
theorem Zkt (s:Int):sg s=1∨sg s=-1:=by unfold sg; split <;> simp
end Vc
namespace Vc
open Go Go.RowKit
structure Tr (α:Type) where
  ty:Ty α
  tree:α→List Value→List Nat→World→Prop
  tkeep:∀ {x cs fp} {w w':World}, (∀ b,b∈fp→w'.heap[b]? = w.heap[b]?)→tree x cs fp w→tree x cs fp w'
  tlow:∀ {x cs fp w}, tree x cs fp w→∀ b,b∈fp→b < w.heap.size
  trep:∀ {x cs fp w}, tree x cs fp w→ty.rep x cs fp w
def Tr.item {α:Type} (T:Tr α) (x:α) (cs:List Value) (fp:List Nat):Item where
  fp:=fp
  holds w:=T.tree x cs fp w∧fp.Nodup
  keep _ _ h hw:=⟨T.tkeep h hw.1,hw.2⟩
  low _ hw:=T.tlow hw.1
def Enc.tr {α:Type} (E:Enc α):Tr α where
  ty:=E.ty
  tree x cs fp w:=fp=[]∧cs=E.enc x
  tkeep _ h:=h
  tlow h:=by obtain ⟨rfl,_⟩:=h; simp
  trep h:=by obtain ⟨rfl,rfl⟩:=h; exact⟨by simp,rfl⟩
def Tr.trees {α:Type} (T:Tr α) (xs:List α) (cs:List Value) (fps:List (List Nat)) (w:World):Prop :=
  cs.length=xs.length * T.ty.sz∧fps.length=xs.length∧∀ i (h:i < xs.length),T.tree xs[i] ((cs.drop (i * T.ty.sz)).take T.ty.sz) (fps.getD i []) w
section
variable {α:Type} {T:Tr α} {w w':World}
theorem mem_flat {fps:List (List Nat)} {b:Nat}:b∈fps.flatten↔∃ i,i < fps.length∧b∈fps.getD i []:=by
  rw [List.mem_flatten]
  constructor
  · rintro ⟨l,hl,hb⟩
    obtain ⟨i,hi,rfl⟩:=Zvb hl
    exact⟨i,hi,by simpa [Zu3,hi] using hb⟩
  · rintro ⟨i,hi,hb⟩
    refine⟨fps[i],Zve hi,by simpa [Zu3,hi] using hb⟩
theorem Zku {xs:List α} {cs:List Value} {fps:List (List Nat)} (h:∀ b,b∈fps.flatten→w'.heap[b]? = w.heap[b]?) (ht:T.trees xs cs fps w):T.trees xs cs fps w' :=
  ⟨ht.1,ht.2.1,fun i hi=>T.tkeep (fun b hb=>h b (mem_flat.2 ⟨i,by rw [ht.2.1]; exact hi,hb⟩)) (ht.2.2 i hi)⟩
theorem Zio {xs:List α} {cs:List Value} {fps:List (List Nat)} (ht:T.trees xs cs fps w):∀ b,b∈fps.flatten→b < w.heap.size:=by
  intro b hb
  obtain ⟨i,hi,hb⟩:=mem_flat.1 hb
  exact T.tlow (ht.2.2 i (by rw [← ht.2.1]; exact hi)) b hb
theorem Zkv (T:Tr α) (w:World):T.trees [] [] [] w:=⟨by simp,by simp,fun i hi=>absurd hi (by simp)⟩
theorem Zom {x:α} {xs:List α} {c cs:List Value} {f:List Nat} {fps:List (List Nat)} (h:T.tree x c f w) (hs:T.trees xs cs fps w):T.trees (x::xs) (c++cs) (f::fps) w:=by
  have hc:=T.ty.len (T.trep h)
  refine⟨by rw [Zvm,hc,hs.1,Zxm,Zu5,Zvl,Zvw],by simp [hs.2.1],fun i hi=>?_⟩
  cases i with
  | zero =>
    simp only [Zwx,Zwg,Zyl]
    rw [Zxd (by omega),Zwh (by omega)]
    exact h
  | succ i =>
    rw [Zu5,Zvl,Zvw (i * T.ty.sz),← Zv1,Zv2 hc]
    exact hs.2.2 i (by simpa using hi)
theorem Zon {xs ys:List α} {cs ds:List Value} {fps gps:List (List Nat)} (h:T.trees xs cs fps w) (k:T.trees ys ds gps w):T.trees (xs++ys) (cs++ds) (fps++gps) w:=by
  refine⟨by rw [Zvm,h.1,k.1,Zvm,Zu5],by simp [h.2.1,k.2.1],fun i hi=>?_⟩
  by_cases hx:i < xs.length
  · have e1:(xs++ys)[i]=xs[i]:=List.getElem_append_left hx
    have hle:i * T.ty.sz+T.ty.sz≤cs.length:=by rw [h.1]; exact J6 hx
    have e2:((cs++ds).drop (i * T.ty.sz)).take T.ty.sz=(cs.drop (i * T.ty.sz)).take T.ty.sz:=by
      rw [List.drop_append_of_le_length (by omega),Zxd (by rw [Zwm]; omega)]
    have e3:(fps++gps).getD i []=fps.getD i []:=by simp only [Zu3]; rw [List.getElem?_append_left (by rw [h.2.1]; exact hx)]
    rw [e1,e2,e3]
    exact h.2.2 i hx
  · have hy:i - xs.length < ys.length:=by rw [Zvm] at hi; omega
    have e1:(xs++ys)[i]=ys[i - xs.length]:=List.getElem_append_right (by omega)
    have hm:i * T.ty.sz=cs.length+(i - xs.length) * T.ty.sz:=by rw [h.1,← Zu5]; congr 1; omega
    have e2:((cs++ds).drop (i * T.ty.sz))=ds.drop ((i - xs.length) * T.ty.sz):=by rw [hm,← Zv1,Zv2 rfl]
    have e3:(fps++gps).getD i []=gps.getD (i - xs.length) []:=by simp only [Zu3]; rw [List.getElem?_append_right (by rw [h.2.1]; omega),h.2.1]
    rw [e1,e2,e3]
    exact k.2.2 _ hy
theorem Zip {xs:List α} {cs:List Value} {fps:List (List Nat)} (h:T.trees xs cs fps w):T.ty.all xs cs fps.flatten w:=by
  have hl:=Zio h
  have hr:∀ i (hi:i < xs.length),T.ty.rep xs[i] ((cs.drop (i * T.ty.sz)).take T.ty.sz) fps.flatten w:=fun i hi=>T.ty.more (T.trep (h.2.2 i hi)) (fun b hb=>mem_flat.2 ⟨i,by rw [h.2.1]; exact hi,hb⟩) hl
  refine⟨hl,h.1,fun u hu=>?_,hr⟩
  obtain ⟨j,hj,rfl⟩:=Zvb hu
  rcases Nat.eq_zero_or_pos T.ty.sz with h0 | h0
  · rw [h.1,h0] at hj; omega
  · have hi:j / T.ty.sz < xs.length:=Zw3 (by rw [Zv3,← h.1]; exact hj)
    refine T.ty.one (hr _ hi) _ ?_
    refine List.mem_of_getElem? (i:=j % T.ty.sz) ?_
    rw [List.getElem?_take,if_pos (Zv5 _ h0),List.getElem?_drop,Zw4]
    exact List.getElem?_eq_getElem hj
end
def Tr.sl {α : Type} (e : Nat) (T : Tr α) : Tr (List α) where
  ty:=T.ty.sl
  tree xs cs fp w:=∃ v ecs fps,cs=[v]∧(own e T.ty.sz v xs.length ecs).holds w∧T.trees xs ecs fps w∧fp=v.ownBlock.toList++fps.flatten
  tkeep h ht:=by
    obtain ⟨v,ecs,fps,rfl,h1,h2,rfl⟩:=ht
    exact⟨v,ecs,fps,rfl,Item.keep _ _ _ (fun b hb=>h b (Zvo _ hb)) h1,Zku (fun b hb=>h b (Zvj _ hb)) h2,rfl⟩
  tlow ht b hb:=by
    obtain ⟨v,ecs,fps,rfl,h1,h2,rfl⟩:=ht
    rcases Zu9.1 hb with hb | hb
    · exact Item.low _ _ h1 b hb
    · exact Zio h2 b hb
  trep ht:=by
    obtain ⟨v,ecs,fps,rfl,h1,h2,rfl⟩:=ht
    exact Zh8 h1 (Zip h2)
def Tr.iso {α β:Type} (f:β→α) (T:Tr α):Tr β where
  ty:=T.ty.iso f
  tree x cs fp w:=T.tree (f x) cs fp w
  tkeep h ht:=T.tkeep h ht
  tlow ht:=T.tlow ht
  trep ht:=T.trep ht
def Tr.pair {α β : Type} (S : Tr α) (T : Tr β) : Tr (α × β) where
  ty:=S.ty.pair T.ty
  tree x cs fp w:=∃ c1 c2 f1 f2,cs=c1++c2∧fp=f1++f2∧S.tree x.1 c1 f1 w∧T.tree x.2 c2 f2 w
  tkeep h ht:=by
    obtain ⟨c1,c2,f1,f2,rfl,rfl,h1,h2⟩:=ht
    exact⟨c1,c2,f1,f2,rfl,rfl,S.tkeep (fun b hb=>h b (Zvo _ hb)) h1,T.tkeep (fun b hb=>h b (Zvj _ hb)) h2⟩
  tlow ht b hb:=by
    obtain ⟨c1,c2,f1,f2,rfl,rfl,h1,h2⟩:=ht
    rcases Zu9.1 hb with hb | hb
    · exact S.tlow h1 b hb
    · exact T.tlow h2 b hb
  trep ht:=by
    obtain ⟨c1,c2,f1,f2,rfl,rfl,h1,h2⟩:=ht
    exact Zj5 (S.trep h1) (T.trep h2)
theorem Zkw {α:Type} {E:Enc α} {e:Nat} {xs:List α} {v:Value} {w:World} (h:(own e E.sz v xs.length (E.encs xs)).holds w):(Tr.sl e E.tr).tree xs [v] v.ownBlock.toList w:=by
  refine⟨v,E.encs xs,Zur xs.length [],rfl,h,⟨E.encs_len xs,by simp,fun i hi=>⟨by simp [Zu3,hi],?_⟩⟩,by simp⟩
  haveI:Inhabited α:=⟨xs[i]⟩
  have:=E.encs_seg xs i hi
  rw [show xs.getD i Zuw=xs[i] by simp [Zu3,hi]] at this
  exact this
theorem Zat {α:Type} {E:Enc α} {e:Nat} {xs:List α} {v:Value} {fp:List Nat} {w:World} (h:(Tr.sl e E.tr).tree xs [v] fp w):(own e E.sz v xs.length (E.encs xs)).holds w∧fp=v.ownBlock.toList:=by
  obtain ⟨v',ecs,fps,hv,h1,h2,rfl⟩:=h
  obtain rfl:v=v':=by simpa using hv
  have he:ecs=E.encs xs:=Znz (Zip h2)
  have hf:fps.flatten=[]:=by
    rw [List.eq_nil_iff_forall_not_mem]
    intro b hb
    obtain ⟨i,hi,hb⟩:=mem_flat.1 hb
    have:=(h2.2.2 i (by rw [← h2.2.1]; exact hi)).1
    rw [this] at hb; cases hb
  rw [hf,List.append_nil]
  exact⟨he ▸ h1,rfl⟩
theorem Zoo {α:Type} (e:Nat) (T:Tr α) (w:World):(Tr.sl e T).tree [] [.slice none 0 0] [] w :=
  ⟨.slice none 0 0,[],[],rfl,⟨by simp,.inl ⟨rfl,rfl⟩⟩,Zkv T w,rfl⟩
section
variable {X:Nat→Prop} {w0 w w':World} {M Ps:List Item}
theorem Ctx.perm {M':List Item} (h:Ctx X w0 w M Ps) (hp:M.Perm M'):Ctx X w0 w M' Ps :=
  { h with
    m:=fun j hj=>h.m j (hp.mem_iff.2 hj)
    mfp:=fun j hj=>h.mfp j (hp.mem_iff.2 hj)
    dis:=(hp.pairwise_iff (fun {a b} (hab:∀ x,x∈a.fp→x∉b.fp)=>fun x hx hx'=>hab x hx' hx)).1 h.dis
    pd:=fun j hj b hb m hm=>h.pd j hj b hb m (hp.mem_iff.2 hm) }
theorem Ctx.gather {a b c : Item} (h : Ctx X w0 w (a :: b :: M) Ps) (hfp : ∀ x, x ∈ c.fp → x ∈ a.fp ∨ x ∈ b.fp) (hc : a.holds w → b.holds w → (∀ x, x ∈ a.fp → x ∉ b.fp) → c.holds w) : Ctx X w0 w (c :: M) Ps := by
  obtain ⟨hd1,hd2⟩:=Zvd.1 h.dis
  obtain ⟨hd3,hd4⟩:=Zvd.1 hd2
  exact { h with
    m := fun j hj => by
      rcases Zus.1 hj with rfl | hj
      · exact hc (h.m a (by simp)) (h.m b (by simp)) (hd1 b (by simp))
      · exact h.m j (by simp [hj])
    mfp := fun j hj x hx => by
      rcases Zus.1 hj with rfl | hj
      · rcases hfp x hx with hx | hx
        · exact h.mfp a (by simp) x hx
        · exact h.mfp b (by simp) x hx
      · exact h.mfp j (by simp [hj]) x hx
    dis:=Zvd.2 ⟨fun j hj x hx hxj=>by
      rcases hfp x hx with hx | hx
      · exact hd1 j (by simp [hj]) x hx hxj
      · exact hd3 j hj x hx hxj,hd4⟩
    pd:=fun j hj x hx m hm hxm=>by
      rcases Zus.1 hm with rfl | hm
      · rcases hfp x hxm with hxm | hxm
        · exact h.pd j hj x hx a (by simp) hxm
        · exact h.pd j hj x hx b (by simp) hxm
      · exact h.pd j hj x hx m (by simp [hm]) hxm }
theorem Ctx.split {a b c : Item} (h : Ctx X w0 w (c :: M) Ps) (ha : ∀ x, x ∈ a.fp → x ∈ c.fp) (hb : ∀ x, x ∈ b.fp → x ∈ c.fp) (hc : a.holds w ∧ b.holds w ∧ (∀ x, x ∈ a.fp → x ∉ b.fp)) : Ctx X w0 w (a :: b :: M) Ps := by
  obtain ⟨hd1,hd2⟩:=Zvd.1 h.dis
  exact { h with
    m := fun j hj => by
      rcases Zus.1 hj with rfl | hj
      · exact hc.1
      · rcases Zus.1 hj with rfl | hj
        · exact hc.2.1
        · exact h.m j (by simp [hj])
    mfp := fun j hj x hx => by
      rcases Zus.1 hj with rfl | hj
      · exact h.mfp c (by simp) x (ha x hx)
      · rcases Zus.1 hj with rfl | hj
        · exact h.mfp c (by simp) x (hb x hx)
        · exact h.mfp j (by simp [hj]) x hx
    dis:=by
      refine Zvd.2 ⟨fun j hj x hx hxj=>?_,Zvd.2 ⟨fun j hj x hx hxj=>hd1 j hj x (hb x hx) hxj,hd2⟩⟩
      rcases Zus.1 hj with rfl | hj
      · exact hc.2.2 x hx hxj
      · exact hd1 j hj x (ha x hx) hxj
    pd:=fun j hj x hx m hm hxm=>by
      rcases Zus.1 hm with rfl | hm
      · exact h.pd j hj x hx c (by simp) (ha x hxm)
      · rcases Zus.1 hm with rfl | hm
        · exact h.pd j hj x hx c (by simp) (hb x hxm)
        · exact h.pd j hj x hx m (by simp [hm]) hxm }
theorem Ctx.recast {a c:Item} (h:Ctx X w0 w (a::M) Ps) (hfp:∀ x,x∈c.fp→x∈a.fp) (hc:a.holds w→c.holds w):Ctx X w0 w (c::M) Ps:=by
  obtain ⟨hd1,hd2⟩:=Zvd.1 h.dis
  exact { h with
    m := fun j hj => by
      rcases Zus.1 hj with rfl | hj
      · exact hc (h.m a (by simp))
      · exact h.m j (by simp [hj])
    mfp:=fun j hj x hx=>by
      rcases Zus.1 hj with rfl | hj
      · exact h.mfp a (by simp) x (hfp x hx)
      · exact h.mfp j (by simp [hj]) x hx
    dis:=Zvd.2 ⟨fun j hj x hx hxj=>hd1 j hj x (hfp x hx) hxj,hd2⟩
    pd:=fun j hj x hx m hm hxm=>by
      rcases Zus.1 hm with rfl | hm
      · exact h.pd j hj x hx a (by simp) (hfp x hxm)
      · exact h.pd j hj x hx m (by simp [hm]) hxm }
theorem Ctx.stay (h:Ctx X w0 w M Ps) (j:Nat) {it:Item} (hj:M[j]? = some it) {F:List Nat} (hB:BelO F w w') (hF:∀ x,x∈it.fp→x∉F):it.holds w' :=
  it.keep w w' (fun b hb=>hB.old b (it.low w (h.getM j hj) b hb) (hF b hb)) (h.getM j hj)
theorem Ctx.turnL (h:Ctx X w0 w M Ps) {F:List Nat} (hB:BelO F w w') {M':List Item} (hfp:M'.map Item.fp=M.map Item.fp) (hF:∀ x,x∈F→∃ it,it∈M∧x∈it.fp) (hh:∀ it,it∈M'→it.holds w'):Ctx X w0 w' M' Ps:=by
  have hlen:M'.length=M.length:=by have:=congrArg Zvq hfp; simpa using this
  have hget:∀ i (hi:i < M'.length),(M'[i]).fp=(M[i]'(by omega)).fp:=by
    intro i hi
    have:=congrArg (·[i]?) hfp
    simp only [List.getElem?_map,List.getElem?_eq_getElem hi,List.getElem?_eq_getElem (show i < M.length by omega),Zvs] at this
    exact Zxr this
  have back:∀ it,it∈M'→∃ jt,jt∈M∧it.fp=jt.fp:=by
    intro it hi
    obtain ⟨i,hlt,rfl⟩:=Zvb hi
    exact⟨_,Zve (show i < M.length by omega),hget i (by omega)⟩
  refine⟨hB.os.trans h.os,hB.tape.trans h.tape,hB.output.trans h.output,Zux h.size hB.size,Zux h.drawn hB.drawn,?_,hh,?_,?_,?_,?_⟩
  · intro b hb hx
    rw [hB.old b (Zwq hb h.size) (fun hbF=>?_)]
    · exact h.old b hb hx
    · obtain ⟨it,hi,hbi⟩:=hF b hbF
      rcases h.mfp it hi b hbi with h' | h'
      · omega
      · exact hx h'
  · intro x hx
    refine x.keep w w' (fun b hb=>hB.old b (x.low w (h.p x hx) b hb) (fun hbF=>?_)) (h.p x hx)
    obtain ⟨it,hi,hbi⟩:=hF b hbF
    exact h.pd x hx b hb it hi hbi
  · intro it hi b hb
    obtain ⟨jt,hj,he⟩:=back it hi
    exact h.mfp jt hj b (he ▸ hb)
  · rw [Zuz]
    intro i j hi hj hij x hx hx'
    rw [hget i hi] at hx
    rw [hget j hj] at hx'
    exact Zuz.1 h.dis i j (by omega) (by omega) hij x hx hx'
  · intro x hx b hb m hm hbm
    obtain ⟨jt,hj,he⟩:=back m hm
    exact h.pd x hx b hb jt hj (he ▸ hbm)
theorem Zop {α : Type} {e : Nat} {T : Tr α} {xs : List α} {v : Value} {fp : List Nat} (h : (Tr.item (Tr.sl e T) xs [v] fp).holds w) (i : Nat) (hi : i < xs.length) :
    ∃ cs f, (∃ g cap, v = .slice (some ⟨g, 0, none⟩) xs.length cap ∧ Xh w ⟨g, i * T.ty.sz, none⟩ cs) ∧ (T.item xs[i] cs f).holds w ∧ (∀ b, b ∈ f → b ∈ fp) ∧
      ∀ (x':α) (w':World),T.tree x' cs f w'→BelO f w w'→(Tr.item (Tr.sl e T) (xs.set i x') [v] fp).holds w':=by
  obtain ⟨⟨v',ecs,fps,hv,h1,h2,rfl⟩,hn⟩:=h
  obtain rfl:v=v':=by simpa using hv
  obtain ⟨g,cap,rfl⟩:=Za0 h1 (by omega)
  have hfi:i < fps.length:=by rw [h2.2.1]; exact hi
  obtain ⟨hn1,hn2,hn3⟩:=Zvn.1 hn
  have hfe:fps.getD i []=fps[i]:=by simp [Zu3,hfi]
  have hnf:(fps.getD i []).Nodup:=by
    rw [hfe]
    exact hn2.sublist (List.sublist_flatten_of_mem (Zve hfi))
  refine⟨(ecs.drop (i * T.ty.sz)).take T.ty.sz,fps.getD i [],⟨g,cap,rfl,?_⟩,⟨h2.2.2 i hi,hnf⟩,fun b hb=>Zvj _ (mem_flat.2 ⟨i,hfi,hb⟩),?_⟩
  · obtain ⟨_,_,_,A,c,hA,hcell⟩:=J5 h1
    obtain ⟨a,ha,_,hcell⟩:=hcell.2 (by omega)
    have hA2:=hA
    injection hA2 with q1 q2 q3
    rw [← q1] at ha
    obtain rfl:(⟨g,0,none⟩:Addr)=a:=Zxr ha
    intro j u hj
    rw [Zae]
    rw [List.getElem?_take] at hj
    split at hj
    · have:=hcell (i * T.ty.sz+j) u (by simpa using hj)
      rwa [Zae,Zv4] at this
    · cases hj
  · intro x' w' hx' hB
    have hsep:∀ b,b∈(Value.slice (some ⟨g,0,none⟩) xs.length cap).ownBlock.toList→b∉fps.getD i []:=fun b hb hb'=>hn3 b hb b (mem_flat.2 ⟨i,hfi,hb'⟩) rfl
    have hdj:∀ j,j < fps.length→j≠i→∀ b,b∈fps.getD j []→b∉fps.getD i []:=by
      intro j hj hne b hb hb'
      have hpw:=List.pairwise_flatten.1 hn2
      rw [show fps.getD j []=fps[j] by simp [Zu3,hj]] at hb
      rw [hfe] at hb'
      rcases Zwr hne with hl | hl
      · exact Zuz.1 hpw.2 j i hj hfi hl b hb b hb' rfl
      · exact Zuz.1 hpw.2 i j hfi hj hl b hb' b hb rfl
    refine⟨⟨_,ecs,fps,rfl,?_,⟨by simpa using h2.1,by simpa using h2.2.1,fun j hj=>?_⟩,rfl⟩,hn⟩
    · rw [List.length_set]
      exact Item.keep _ w w' (fun b hb=>hB.old b (Item.low _ w h1 b hb) (hsep b hb)) h1
    · have hj':j < xs.length:=by simpa using hj
      rw [Zwd]
      split
      · rename_i hij; subst hij; exact hx'
      · rename_i hij
        exact T.tkeep (fun b hb=>hB.old b (T.tlow (h2.2.2 j hj') b hb) (hdj j (by rw [h2.2.1]; exact hj') (fun e=>hij e.symm) b hb)) (h2.2.2 j hj')
def Zr (e:Nat):Tr Form:=.iso Form.terms (Tr.sl e ETerm.tr)
def Zac (i e f:Nat):Tr Alg:=.iso (fun a=>(a.degrees,a.images)) (.pair (Tr.sl i (EI .i64).tr) (Tr.sl f (Zr e)))
theorem Zkx (v:Value):v.ownBlock.toList.Nodup:=by cases v.ownBlock <;> simp
theorem Jc {α:Type} {E:Enc α} {e:Nat} {xs:List α} {v:Value} {w:World} (h:(own e E.sz v xs.length (E.encs xs)).holds w):(Tr.item (Tr.sl e E.tr) xs [v] v.ownBlock.toList).holds w:=⟨Zkw h,Zkx v⟩
theorem Zoq {α:Type} {e:Nat} {T:Tr α} {xs:List α} {v:Value} {fp:List Nat} (h:(Tr.item (Tr.sl e T) xs [v] fp).holds w):∃ A c,v=.slice A xs.length c:=Zd3 (t:=T.ty) ((Tr.sl e T).trep h.1)
theorem Zb8 {α:Type} {T:Tr α} {x:α} {cs:List Value} {fp:List Nat} (hC:Ctx Nox w0 w M Ps) (k:Nat) (hk:M[k]? = some (T.item x cs fp)):∀ b,b∈fp→w0.heap.size≤b :=
  fun b hb=>(hC.mfp _ (List.mem_of_getElem? hk) b hb).elim id (fun x=>x.elim)
theorem Zb9 {i e f:Nat} {x:Alg} {v u:Value} {fp:List Nat} (h:((Zac i e f).item x [v,u] fp).holds w):∃ f2,(own i (EI .i64).sz v x.degrees.length ((EI .i64).encs x.degrees)).holds w∧((Tr.sl f (Zr e)).item x.images [u] f2).holds w ∧
    (∀ b,b∈v.ownBlock.toList→b∈fp)∧(∀ b,b∈f2→b∈fp)∧(∀ b,b∈v.ownBlock.toList→b∉f2):=by
  obtain ⟨⟨c1,c2,f1,f2,hcs,rfl,h1,h2⟩,hn⟩:=h
  have hl:=(Tr.sl i (EI .i64).tr).ty.len ((Tr.sl i (EI .i64).tr).trep h1)
  obtain ⟨a,rfl⟩:=List.length_eq_one_iff.1 (show c1.length=1 from hl)
  obtain ⟨rfl,rfl⟩:v=a∧c2=[u]:=by simp at hcs; exact⟨hcs.1,hcs.2.symm⟩
  obtain ⟨ho,rfl⟩:=Zat h1
  obtain ⟨hn1,hn2,hn3⟩:=Zvn.1 hn
  exact⟨f2,ho,⟨h2,hn2⟩,fun b hb=>Zvo _ hb,fun b hb=>Zvj _ hb,fun b hb hb'=>hn3 b hb b hb' rfl⟩
theorem Zea {i e f:Nat} {a:List Int} {b:List Form} {v u:Value} {f1 f2:List Nat} (h1:((Tr.sl i (EI .i64).tr).item a [v] f1).holds w) (h2:((Tr.sl f (Zr e)).item b [u] f2).holds w) (hd:∀ x,x∈f1→x∉f2):((Zac i e f).item ⟨a,b⟩ [v,u] (f1++f2)).holds w :=
  ⟨⟨[v],[u],f1,f2,rfl,rfl,h1.1,h2.1⟩,Zvn.2 ⟨h1.2,h2.2,fun x hx y hy e=>hd x hx (e ▸ hy)⟩⟩
theorem Y8 {e:Nat} {x:Form} {v:Value} {fp:List Nat} (h:((Zr e).item x [v] fp).holds w):(own e ETerm.sz v x.terms.length (ETerm.encs x.terms)).holds w∧fp=v.ownBlock.toList:=Zat h.1
theorem X5 {e:Nat} {a:List Term} {v:Value} {f:List Nat} (h:((Tr.sl e ETerm.tr).item a [v] f).holds w):((Zr e).item ⟨a⟩ [v] f).holds w:=h
theorem J7 {α:Type} (e:Nat) (T:Tr α) (w:World):((Tr.sl e T).item [] [.slice none 0 0] []).holds w:=⟨Zoo e T w,by simp⟩
def Yk {α:Type} (T:Tr α) (xs:List α) (cs:List Value) (fps:List (List Nat)):Item where
  fp:=fps.flatten
  holds w:=T.trees xs cs fps w∧fps.flatten.Nodup
  keep _ _ h hw:=⟨Zku h hw.1,hw.2⟩
  low _ hw:=Zio hw.1
theorem Zdb {α:Type} (T:Tr α) (w:World):(Yk T [] [] []).holds w:=⟨Zkv T w,by simp⟩
theorem Zeb {α:Type} {T:Tr α} {x:α} {xs:List α} {c cs:List Value} {f:List Nat} {fps:List (List Nat)} (h:(T.item x c f).holds w) (hs:(Yk T xs cs fps).holds w) (hd:∀ b,b∈f→b∉fps.flatten):(Yk T (x::xs) (c++cs) (f::fps)).holds w :=
  ⟨Zom h.1 hs.1,by rw [Zwo]; exact Zvn.2 ⟨h.2,hs.2,fun a ha b hb e=>hd a ha (e ▸ hb)⟩⟩
theorem Zag {α:Type} {T:Tr α} {e:Nat} {xs:List α} {cs:List Value} {fps:List (List Nat)} {v:Value} (h:(own e T.ty.sz v xs.length cs).holds w) (hs:(Yk T xs cs fps).holds w) (hd:∀ b,b∈v.ownBlock.toList→b∉fps.flatten):((Tr.sl e T).item xs [v] (v.ownBlock.toList++fps.flatten)).holds w :=
  ⟨⟨v,cs,fps,rfl,h,hs.1,rfl⟩,Zvn.2 ⟨Zkx v,hs.2,fun a ha b hb e=>hd a ha (e ▸ hb)⟩⟩
theorem Ctx.startL (w:World) (F:List Nat) (M Ps:List Item) (hm:∀ it,it∈M→it.holds w) (hp:∀ it,it∈Ps→it.holds w) (hF:∀ it,it∈M→∀ b,b∈it.fp→b∈F) (hdis:M.Pairwise (fun a b=>∀ x,x∈a.fp→x∉b.fp)) (hpd:∀ it,it∈Ps→∀ b,b∈it.fp→b∉F):Ctx (fun c=>c∈F) w w M Ps :=
  ⟨rfl,rfl,rfl,Zuv _,Zuv _,fun _ _ _=>rfl,hm,hp,fun it hi b hb=>.inr (hF it hi b hb),hdis,fun it hi b hb m hm hbm=>hpd it hi b hb (hF m hm b hbm)⟩
theorem Ctx.belO {F:List Nat} (h:Ctx (fun c=>c∈F) w0 w M Ps):BelO F w0 w:=⟨h.os,h.tape,h.output,h.size,h.drawn,fun c hc hne=>h.old c hc hne⟩
theorem Zky {α:Type} {E:Enc α} {xs:List α} {i o:Nat} {vc:List Value} {y:α} [Inhabited α] (hi:i < xs.length) (ho:o+vc.length≤E.sz) (h:Yz (E.enc (xs.getD i Zuw)) o vc=E.enc y):Yz (E.encs xs) (i * E.sz+o) vc=E.encs (xs.set i y):=by
  rw [← Zd5 xs i y hi,← h]
  have hseg:=E.encs_seg xs i hi
  have hle:i * E.sz+E.sz≤(E.encs xs).length:=by rw [E.encs_len]; exact J6 hi
  apply List.ext_getElem?
  intro j
  unfold Yz
  rw [← hseg]
  simp only [List.getElem?_append,Zxh,Zwm,Zvm]
  simp only [List.getElem?_take,List.getElem?_drop]
  repeat' split
  all_goals first | rfl | (exfalso; omega) | (congr 1; omega) | (simp only [List.getElem?_append,List.getElem?_take,List.getElem?_drop,Zxh,Zwm]; repeat' split) <;> first | rfl | (exfalso; omega) | (congr 1; omega) | skip
theorem Ziq {k:IntKind} {a:A8} {r:List Value} {q:Nat} (h:q < 8):((a.enc k++r).drop q).take 1=[.int k (a.get q)]:=by
  match q,h with
  | 0,_=>rfl
  | 1,_=>rfl
  | 2,_=>rfl
  | 3,_=>rfl
  | 4,_=>rfl
  | 5,_=>rfl
  | 6,_=>rfl
  | 7,_=>rfl
theorem Zor {k:IntKind} {a:A8} {r:List Value} {q:Nat} {v:Int} (h:q < 8):Yz (a.enc k++r) q [.int k v]=(a.set q v).enc k++r:=by
  match q,h with
  | 0,_=>rfl
  | 1,_=>rfl
  | 2,_=>rfl
  | 3,_=>rfl
  | 4,_=>rfl
  | 5,_=>rfl
  | 6,_=>rfl
  | 7,_=>rfl
end
end Vc
namespace Vc
open Go Go.RowKit
section
variable {X:Nat→Prop} {w0 w w':World} {M Ps:List Item}
end
end Vc
namespace Vc
open Go Go.RowKit
theorem Ctx.pushM0 {X:Nat→Prop} {w0 w:World} {M Ps:List Item} (h:Ctx X w0 w M Ps) (it:Item) (hi:it.holds w) (hf:it.fp=[]):Ctx X w0 w (it::M) Ps :=
  { h with
    m := fun j hj => by
      rcases Zus.1 hj with rfl | hj
      · exact hi
      · exact h.m j hj
    mfp:=fun j hj b hb=>by
      rcases Zus.1 hj with rfl | hj
      · rw [hf] at hb; cases hb
      · exact h.mfp j hj b hb
    dis:=Zvd.2 ⟨fun j hj x hx=>absurd (hf ▸ hx) (by simp),h.dis⟩
    pd:=fun j hj b hb m hm hbm=>by
      rcases Zus.1 hm with rfl | hm
      · rw [hf] at hbm; cases hbm
      · exact h.pd j hj b hb m hm hbm }
def Zbh (v:Value):Prop:=∃ A n c,v=.slice A n c
theorem Zgf {ty sz n:Nat} {v:Value} {cs:List Value} {w:World} (h:(own ty sz v n cs).holds w):Zbh v:=by
  obtain ⟨A,c,rfl⟩:=Zd4 h
  exact⟨A,n,c,rfl⟩
theorem Zec {α:Type} {t:Ty α} {xs:List α} {v:Value} {fp:List Nat} {w:World} (h:t.sl.rep xs [v] fp w):Zbh v:=by
  obtain ⟨A,c,rfl⟩:=Zd3 h
  exact⟨A,_,c,rfl⟩
section
variable {P:Program} {ops:Array Oper} {Q:Exit→Act→World→Prop} {n:Nat} {e:Env} {w w':World} {rest:List Oper}
variable {d ty:Nat} {pos:String} {af:Array Edge} {gd:Option (Nat×Bool)}
theorem Zos {t el len sz:Nat} {A:Addr} {j:Nat} {x y:Operand} {k:IntKind} {i:Int} (j':Nat) (ht:P.underlying t=some (.array len el)) (hz:Xk P el sz) (hx:ev n e x=.pointer (some (A.add j))) (hy:ev n e y=.int k i)
    (h0:0≤i) (h1:i < len) (ho:j+i.toNat * sz=j'):(execOp (ev n e) ⟨some d,.indexAddr t x y,ty,pos,af,gd⟩).run P w=.ok (.value (.pointer (some (A.add j')))) w:=by
  have:=Zjz (P:=P) (w:=w) (d:=d) (ty:=ty) (pos:=pos) (af:=af) (gd:=gd) ht hz hx hy h0 h1; rwa [Zbd,ho] at this
theorem Zkz {t el len sz:Nat} {A:Addr} {j:Nat} {x y:Operand} {k:IntKind} {i:Int} (j':Nat) (ht:P.underlying t=some (.array len el)) (hz:Xk P el sz) (hx:ev n e x=.pointer (some (A.add j))) (hy:ev n e y=.int k i)
    (h0:0≤i) (h1:i < len) (ho:j+i.toNat * sz=j') (h:W P ops Q rest n (upd e d (.pointer (some (A.add j')))) w) :
    W P ops Q (⟨some d,.indexAddr t x y,ty,pos,af,none⟩::rest) n e w :=
  Zj0 ht hz hx hy h0 h1 (by rw [Zbd,ho]; exact h)
end
end Vc
namespace Vc
open Go Go.RowKit
theorem Zgg (m:Nat):(madeCells #[.slice none 0 0] (m * 1)).toList=Zur m (.slice none 0 0):=by
  let E:Enc Unit:=⟨1,by decide,fun _=>[.slice none 0 0],fun _=>rfl,fun _ u hu=>by obtain rfl:=Zwj.1 hu; rfl⟩
  have h:=Zd6 (E:=E) () m
  have e:E.encs (Zur m ())=Zur m (.slice none 0 0):=by
    induction m with
    | zero=>rfl
    | succ m ih=>rw [Zw1,Zw1,← ih (Zd6 (E:=E) () m)]; rfl
  exact h.trans e
theorem Zgh (m:Nat):(Zur m ([]:List Nat)).flatten=[]:=by induction m <;> simp_all [Zw1]
theorem Zgi {α:Type} {T:Tr α} {x:α} {c:Value} {w:World} (h:(T.item x [c] []).holds w) (hs:T.ty.sz=1) (m:Nat):(Yk T (Zur m x) (Zur m c) (Zur m [])).holds w:=by
  induction m with
  | zero=>exact Zdb T w
  | succ m ih=>exact Zeb (c:=[c]) (cs:=Zur m c) h ih (by simp)
theorem Zot {α:Type} {T:Tr α} {xs ys:List α} {cs ds:List Value} {fps gps:List (List Nat)} {w:World} (h:(Yk T xs cs fps).holds w) (k:(Yk T ys ds gps).holds w) (hd:∀ b,b∈fps.flatten→b∉gps.flatten):(Yk T (xs++ys) (cs++ds) (fps++gps)).holds w :=
  ⟨Zon h.1 k.1,by rw [List.flatten_append]; exact Zvn.2 ⟨h.2,k.2,fun a ha b hb e=>hd a ha (e ▸ hb)⟩⟩
theorem Zgj {α:Type} {e:Nat} {T:Tr α} {xs:List α} {v:Value} {fp:List Nat} {w:World} (h:((Tr.sl e T).item xs [v] fp).holds w) :
    ∃ ecs fps,(own e T.ty.sz v xs.length ecs).holds w∧(Yk T xs ecs fps).holds w∧fp=v.ownBlock.toList++fps.flatten∧(∀ b,b∈v.ownBlock.toList→b∉fps.flatten):=by
  obtain ⟨⟨v',ecs,fps,hv,h1,h2,rfl⟩,hn⟩:=h
  obtain rfl:v=v':=by simpa using hv
  obtain ⟨hn1,hn2,hn3⟩:=Zvn.1 hn
  exact⟨ecs,fps,h1,⟨h2,hn2⟩,rfl,fun b hb hb'=>hn3 b hb b hb' rfl⟩
section
variable {P:Program} {ops:Array Oper} {Q:Exit→Act→World→Prop} {n:Nat} {e:Env} {w w':World} {rest:List Oper}
variable {X:Nat→Prop} {w0:World} {M Ps:List Item}
variable {d ty:Nat} {pos:String} {af:Array Edge}
theorem Zgk {t el bytes:Nat} {α:Type} {T:Tr α} {z:Value} {x y:Operand} {v u:Value} {xs ys:List α} {f1 f2:List Nat} (hC:Ctx X w0 w ((Tr.sl el T).item xs [v] f1::(Tr.sl el T).item ys [u] f2::M) Ps)
    (ht:P.underlying t=some (.slice el)) (hE:Ju P el z T.ty.sz bytes) (hzs:z.cells.size=T.ty.sz) (hsz:0 < T.ty.sz) (hby:0 < bytes) (hx:ev n e x=v) (hy:ev n e y=u) (hb:(xs.length+ys.length) * bytes≤140737488355328)
    (h:∀ v' f w',Ctx X w0 w' ((Tr.sl el T).item (xs++ys) [v'] f::M) Ps→W P ops Q rest n (upd e d v') w') :
    W P ops Q (⟨some d,.call { callee:=.builtin .append,args:=#[x,y],argTypes:=#[t,t] }, ty,pos,af,none⟩::rest) n e w:=by
  obtain ⟨ecs,fps,a1,a2,rfl,a4⟩:=Zgj (hC.getM 0 rfl)
  obtain ⟨dcs,gps,b1,b2,rfl,b4⟩:=Zgj (hC.getM 1 rfl)
  have h1:=hC.split (a:=own el T.ty.sz v xs.length ecs) (b:=Yk T xs ecs fps) (fun b hb=>Zvo _ hb) (fun b hb=>Zvj _ hb) ⟨a1,a2,a4⟩
  have h2:=h1.perm (M':=(Tr.sl el T).item ys [u] (u.ownBlock.toList++gps.flatten)::own el T.ty.sz v xs.length ecs::Yk T xs ecs fps::M) (((Zv9 _ _ _).cons _).trans (Zv9 _ _ _))
  have h3:=h2.split (a:=own el T.ty.sz u ys.length dcs) (b:=Yk T ys dcs gps) (fun b hb=>Zvo _ hb) (fun b hb=>Zvj _ hb) ⟨b1,b2,b4⟩
  have hall:=Zip b2.1
  refine Zap h3 2 ht hE hzs hsz hby rfl (J5 b1) hall.2.2.1 hx hy hb fun v' w1 hC1=>?_
  have h4:=hC1.sub (M':=Yk T ys dcs gps::own el T.ty.sz v' (xs.length+ys.length) (ecs++dcs)::Yk T xs ecs fps::M) (List.sublist_cons_self _ _) (fun _ h=>h)
  have h5:=h4.perm (M':=Yk T xs ecs fps::Yk T ys dcs gps::own el T.ty.sz v' (xs.length+ys.length) (ecs++dcs)::M) (((Zv9 _ _ _).cons _).trans (Zv9 _ _ _))
  have h6:=h5.gather (c:=Yk T (xs++ys) (ecs++dcs) (fps++gps)) (fun x hx=>Zu9.1 (by simpa [Yk] using hx)) (fun p q r=>Zot p q r)
  have h7:=h6.perm (M':=own el T.ty.sz v' (xs.length+ys.length) (ecs++dcs)::Yk T (xs++ys) (ecs++dcs) (fps++gps)::M) (Zv9 _ _ _)
  exact h v' _ w1 (h7.gather (c:=(Tr.sl el T).item (xs++ys) [v'] (v'.ownBlock.toList++(fps++gps).flatten)) (fun x hx=>Zu9.1 hx) (fun p q r=>Zag (by rw [Zvm]; exact p) q r))
end
end Vc
namespace Vc
open Go
theorem Zgl {α:Type} {T:Tr α} {xs:List α} {cs:List Value} {f:List Nat} {fps:List (List Nat)} {x:Nat} (h:x∈(Yk T xs cs (f::fps)).fp):x∈f∨x∈fps.flatten:=by
  have h':x∈(f::fps).flatten:=h
  rw [Zwo] at h'
  exact Zu9.1 h'
end Vc
namespace Vc
open Go Go.RowKit
section
variable {P:Program} {ops:Array Oper} {Q:Exit→Act→World→Prop} {n:Nat} {e:Env} {w w':World} {rest:List Oper}
variable {d ty:Nat} {pos:String} {af:Array Edge} {gd:Option (Nat×Bool)}
theorem Zou {t i:Nat} {x:Operand} {cs:List Value} {fs:Array Field} {f:Field} (v:Value) (ht:P.underlying t=some (.struct fs)) (hf:fs[i]? = some f) (hS:ScaT P f.type) (hx:ev n e x=.agg cs.toArray) (hv:cs[f.offset]? = some v) :
    (execOp (ev n e) ⟨some d,.field t x i,ty,pos,af,gd⟩).run P w=.ok (.value v) w:=by
  simp [execOp,hx,Instr.field,run_underlying ht,hf,asAgg,part,Zbw hS,hv]
theorem Zov {t i:Nat} {x:Operand} {cs:List Value} {fs:Array Field} {f:Field} (v:Value) (ht:P.underlying t=some (.struct fs)) (hf:fs[i]? = some f) (hS:ScaT P f.type) (hx:ev n e x=.agg cs.toArray) (hv:cs[f.offset]? = some v)
    (h:W P ops Q rest n (upd e d v) w):W P ops Q (⟨some d,.field t x i,ty,pos,af,none⟩::rest) n e w :=
  Yv v rfl rfl (Zou v ht hf hS hx hv) h
end
end Vc
