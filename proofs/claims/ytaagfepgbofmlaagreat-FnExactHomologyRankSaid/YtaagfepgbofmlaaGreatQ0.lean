import Derived.Calls
import Derived.WalkKit
import Derived.Orders
import Derived.Tactics
import Derived.Below
import Derived.Laws.Rows
import Derived.Laws.Cells
import Derived.Laws.Tables
import Derived.Laws.Sem
import Derived.Laws.World
import Derived.Laws.CopyRow
import Derived.Laws.Entries
import Derived.Maps.AppendAt
import Derived.IntWalk
import Derived.Laws.MakeOwn
import Derived.OwnWalk
import Derived.Laws.OwnMore
import Derived.KernelRfl
import Derived.Maps.RangeRun
import Derived.Shelf.SlSortCmp.WholeK
import Derived.Shelf.SlSortCmp.NoneTotal
import Derived.ProofKit
import Derived.OpenShut
import Derived.Deep.Slices
import Derived.Ground.SlsfProg
import Derived.Test.YtaagfepgbofmlaaGreatProg
import Derived.Lib.AppendZeros
import Derived.Lib.AppendZerosOnto
import Derived.Laws.Slices
import Derived.Laws.StructEq
set_option linter.unusedSectionVars false
set_option linter.unusedSimpArgs false
set_option linter.unusedVariables false
open Array renaming getD→Zzb,length_toList→ZAh,all_eq_true'→ZAv,any_eq_true'→ZBj,setIfInBounds_comm→ZCg,toList_filter→ZCw
open Bool renaming and_eq_true→Zzd,or_eq_true→Zzs,false_eq_true→ZAk,beq_eq_decide_eq→ZA6,not_eq_true'→ZBi
open Go.Act renaming put_comm→ZAb
open Go.Addr renaming add→Zz4
open Go.Builtin renaming len_→ZBb,append_→ZBc,delete_→ZBn,firstCells→ZCc
open Go.ChangeMaps renaming map_eraseIdx→Zz1
open Go.Deferred renaming ofValue→ZB2
open Go.Exit renaming inBlock→ZAm
open Go.Instr renaming sureAddr→Zy4,loadAt→Zzi,checkKey→ZAc,indexAt→ZAj,sameNow→ZBk,findNow→ZBl,mapUpdate→ZBm
open Go.IntKind renaming i64→ZA7
open Go.Op renaming intCmp→Zzh,intArith→Zzp,equalIn→ZAx
open Go.Oper renaming wp→Zzg,upon→Zzq,upon_value→ZAe
open Go.Region renaming wanted→Zyx,ready→Zy5,binds→Zzc,Mode→Zz0
open Go.Result renaming andThen_ok→Zyv
open Go.Sem renaming run_bind→Zyu,run_pure→Zyw,run→Zy7
open Go.Value renaming ownBlock→Zzn
open Inhabited renaming default→Zyt
open Int renaming tmod→Zyy,zero_add→ZAd,tmod_eq_emod_of_nonneg→ZAy,mul_tdiv_add_tmod→ZDd,eq_ofNat_of_zero_le→ZDf
open List renaming mem_cons→Zyz,replicate→Zy0,mem_map→Zy2,map_cons→Zy8,pairwise_iff_getElem→Zza,range→Zzj,nodup_cons→Zzk,getD→Zzm,getElem_of_mem→Zzo,all_eq_true→Zzr,mem_append→Zzu,getElem_mem→Zzv,length→Zzx,pairwise_cons→Zzy,take_of_length_le→Zzz,mem_of_mem_drop→Zz5,flatMap_cons→Zz6,mem_range→Zz9,getElem_set→ZAf,take_one→ZAl,drop_zero→ZAn,drop_drop→ZAo,drop_left'→ZAp,mem_singleton→ZAs,not_mem_nil→ZAt,mem_append_left→ZA1,mem_append_right→ZA2,eraseIdx_sublist→ZA4,length_append→ZBe,ext_getElem→ZBg,flatten_cons→ZBo,length_eraseIdx_of_lt→ZBw,getElem_cons_succ→ZCj,take_append_drop→ZCk,length_eq_zero_iff→ZCy,pairwise_append→ZDa
open List.Pairwise renaming nil→ZC9
open List.Perm renaming refl→ZBq
open List.cons renaming injEq→ZCo
open Nat renaming le_refl→Zy1,blt→Zy3,le_trans→Zy6,blt_eq→Zze,not_lt→Zzf,add_mul→Zzl,lt_or_ge→Zzt,one_mul→Zzw,le_succ→Zz2,add_comm→Zz7,zero_le→ZAq,mul_comm→ZAr,lt_succ_self→ZAw,lt_or_gt_of_ne→ZA3,zero_mul→ZBa,eq_zero_or_pos→ZBd,zero_add→ZBf,eq_of_beq_eq_true→ZBr
open Option renaming map_some→ZAa,getD_some→ZAu,map_eq_some_iff→ZCa
open Prod renaming fst→Zy9
open Prod.mk renaming injEq→Zz8
open Std.Legacy.Range renaming forIn_eq_forIn_range'→ZCz
namespace Vc
open Go
theorem Zp5 {α:Type} (q:Ask α):∀ w:World,w.drawn≤(w.ask q).2.drawn:=by
  induction q with
  | done a=>intro w; exact Zy1 _
  | ask what range k ih =>
    intro w
    simp only [World.ask]
    split
    · exact ih _ _
    · exact Zy6 (Zz2 _) (ih _ { w with drawn:=w.drawn+1 })
theorem Zp6 (w:World) (c:Sys):w.drawn≤(w.sys c).2.drawn:=by
  unfold World.sys
  have:=Zp5 (Kernel.perform c w.os) w
  split
  · exact Zy1 _
  · rename_i r os w1 _ h
    rw [h] at this
    exact this
theorem Zp7 {P:Program} {w w1:World} {a:Addr} {v:Value} {b:Bool} {l:List Addr} (h:w.farStore P a v b=.ok (w1,l)):w1.drawn=w.drawn:=by
  unfold World.farStore at h
  split at h
  · split at h
    · rename_i r hr
      injection h with h
      subst h
      unfold World.viewStore at hr
      simp only [bind,Except.bind,pure,Except.pure] at hr
      repeat' (first | (cases hr; done) | split at hr)
      all_goals (injection hr with hr; injection hr with hr; rw [← hr])
    · cases h
  · cases h
theorem Zcf {α : Type} {P : Program} (s : Sem α) : ∀ (w : World) (v : α) (w' : World), s.run P w = .ok v w' → w.drawn ≤ w'.drawn := by
  induction s with
  | pure a=>intro w v w' h; simp [Zy7] at h; obtain ⟨_,rfl⟩:=h; exact Zy1 _
  | load m a k ih =>
    intro w v w' h
    simp only [Zy7] at h
    split at h
    · exact ih _ _ _ _ h
    · split at h
      · exact ih _ _ _ _ h
      · cases h
  | store m a v k ih =>
    intro w u w' h
    have key:∀ w1,k.run P w1=.ok u w'→w1.drawn=w.drawn→w.drawn≤w'.drawn:=fun w1 h1 h2=>h2 ▸ ih _ _ _ h1
    have hs:(match w.cell? a with
      | some _=>if w.frozen? a then(.halt (.unsupported (.unsafePointer "a write to bytes that a string shares")) w:Result α) else k.run P (w.setCell a v)
      | none => match w.farStore P a v (m == Go.Mode.atomic) with
        | .ok (w,_)=>k.run P w
        | .error h=>.halt h w)=.ok u w':=by
      cases v <;> first | exact h | (simp [Zy7] at h)
    split at hs
    · split at hs
      · cases hs
      · exact key _ hs rfl
    · split at hs
      · rename_i hf
        exact key _ hs (Zp7 hf)
      · cases hs
  | new o k ih=>intro w v w' h; have:=ih w.heap.size { w with heap:=w.heap.push o } v w' h; exact this
  | shape r k ih=>intro w v w' h; exact ih _ _ _ _ h
  | freeze a n k ih =>
    intro w v w' h
    have:=ih _ _ _ h
    unfold World.freeze at this
    split at this <;> exact this
  | frozen a k ih=>intro w v w' h; exact ih _ _ _ _ h
  | getObj r k ih =>
    intro w v w' h
    simp only [Zy7] at h
    split at h
    · cases h
    · exact ih _ _ _ _ h
    · cases h
  | setObj r o k ih =>
    intro w v w' h
    simp only [Zy7] at h
    split at h
    · cases h
    · have:=ih { w with heap:=w.heap.setIfInBounds r o } v w' h
      exact this
    · cases h
  | choose q k ih =>
    intro w v w' h
    simp only [Zy7] at h
    split at h
    · exact ih _ _ _ _ h
    · exact Zy6 (Zz2 _) (ih _ _ _ _ h)
  | sys c k ih =>
    intro w v w' h
    exact Zy6 (Zp6 w c) (ih _ _ _ _ h)
  | program k ih=>intro w v w' h; exact ih _ _ _ _ h
  | mark m k ih=>intro w v w' h; exact ih _ _ _ h
  | halt h=>intro w v w' hh; simp [Zy7] at hh
end Vc
namespace Vc
open Go
abbrev Env:=Nat→Value
def upd (e:Env) (d:Nat) (v:Value):Env:=fun i=>bif Nat.beq i d then v else e i
def actOf (n:Nat) (e:Env):Act:=⟨Array.ofFn (n:=n) (fun i=>e i.val),[]⟩
def ev (n:Nat) (e:Env):Operand→Value
  | .tmp t=>bif Zy3 t n then e t else undef
  | .const v=>v
  | .global g=>.pointer (some ⟨g,0,none⟩)
  | .func f=>.func (.func f) #[] #[]
theorem Zbt (n : Nat) (e : Env) : (actOf n e).eval = ev n e := by
  funext x
  cases x with
  | tmp t =>
    simp only [Act.eval,actOf,ev]
    by_cases h:t < n
    · simp [Zzb,h,show Zy3 t n=true by rw [Zze]; exact h]
    · simp [Zzb,h,show Zy3 t n=false by
        cases hb:Zy3 t n with
        | false=>rfl
        | true=>rw [Zze] at hb; exact absurd hb h]
  | _=>rfl
theorem Zp8 {i d:Nat} (h:i≠d):Nat.beq i d=false:=by
  cases hb:Nat.beq i d with
  | false=>rfl
  | true=>exact absurd (ZBr hb) h
theorem Zdd (n:Nat) (e:Env) (d:Nat) (v:Value):(actOf n e).put (some d) v=actOf n (upd e d v):=by
  simp only [Act.put,actOf]
  congr 1
  apply Array.ext
  · simp
  · intro i h1 h2
    by_cases hd:d=i
    · subst hd; simp [upd,Nat.beq_refl]
    · have h3:i < n:=by simpa using h2
      rw [Array.getElem_setIfInBounds_ne (by simpa using h3) hd]
      simp [upd,Zp8 (Ne.symm hd)]
theorem Zp9 {i d:Nat} (h:i≠d):Nat.beq i d=false:=by
  cases hb:Nat.beq i d with
  | false=>rfl
  | true=>exact absurd (ZBr hb) h
theorem Zqa {e:Env} {d:Nat} {v:Value} (h:e d=v):upd e d v=e:=by
  funext i; unfold upd
  by_cases hi:i=d
  · subst hi; simp [Nat.beq_refl,h]
  · simp [Zp9 hi]
structure W (P:Program) (ops:Array Oper) (Q:Exit→Act→World→Prop) (l:List Oper) (n:Nat) (e:Env) (w:World):Prop where
  out:wpList P ops Q l (actOf n e) w
section
variable {P:Program} {ops:Array Oper} {Q:Exit→Act→World→Prop} {n:Nat} {e:Env} {w w':World} {rest:List Oper} {o:Oper}
theorem Xd {d:Nat} (v:Value) (hg:o.guard=none) (hd:o.dst=some d) (hr:(execOp (ev n e) o).run P w=.ok (.value v) w')
    (h:W P ops Q rest n (upd e d v) w'):W P ops Q (o::rest) n e w:=by
  refine⟨?_⟩
  unfold wpList
  rw [if_pos (by simp [Zyx,hg])]
  refine .inl ?_
  unfold Zzg
  rw [Zbt,hr,ZAe,hd,Zdd]
  exact h.out
theorem Zcv (hg:o.guard=none) (hd:o.dst=none) (hr:(execOp (ev n e) o).run P w=.ok .skip w')
    (h:W P ops Q rest n e w'):W P ops Q (o::rest) n e w:=by
  refine⟨?_⟩
  unfold wpList
  rw [if_pos (by simp [Zyx,hg])]
  refine .inl ?_
  unfold Zzg
  rw [Zbt,hr,Oper.upon_skip,hd]
  exact h.out
def J7 (ops:Array Oper) (n:Nat) (e:Env) (g:Nat):Option Bool :=
  match (ops[g]?).bind (·.dst) with
  | some d=>if d < n then(match e d with | .bool b=>some b | _=>none) else none
  | none=>none
theorem Zde (g:Nat):yielded ops (actOf n e).tmps g=J7 ops n e g:=by
  unfold yielded J7
  cases h:(ops[g]?).bind (·.dst) with
  | none=>rfl
  | some d =>
    simp only [Option.bind_some,actOf]
    by_cases hd:d < n
    · simp [hd]
      cases e d <;> rfl
    · simp [hd]
theorem stepG0 {g:Nat} {want b:Bool} {d:Nat} (hg:o.guard=some (g,want)) (hd:o.dst=some d) (hb:J7 ops n e g=some b) (hne:b≠want)
    (h:W P ops Q rest n (upd e d undef) w):W P ops Q (o::rest) n e w:=by
  refine⟨?_⟩
  unfold wpList
  rw [if_neg (by simp [Zyx,hg,Zde,hb,hne]),hd,Zdd]
  exact h.out
theorem stepG1 {g:Nat} {want:Bool} {d:Nat} (v:Value) (hg:o.guard=some (g,want)) (hd:o.dst=some d) (hb:J7 ops n e g=some want)
    (hr:(execOp (ev n e) o).run P w=.ok (.value v) w')
    (h:W P ops Q rest n (upd e d v) w'):W P ops Q (o::rest) n e w:=by
  refine⟨?_⟩
  unfold wpList
  rw [if_pos (by simp [Zyx,hg,Zde,hb])]
  refine .inl ?_
  unfold Zzg
  rw [Zbt,hr,ZAe,hd,Zdd]
  exact h.out
theorem Zma {d:Nat} (f:FuncId) (args:Array Value) (R:Ending→World→Prop) (hw:∀ g b,o.guard=some (g,b)→J7 ops n e g=some b) (hd:o.dst=some d)
    (hr:(execOp (ev n e) o).run P w=.ok (.enter f args) w') (hc:Calls P f args w' R)
    (h:∀ ret w'',R ret w''→∃ v,ret=.returned v∧W P ops Q rest n (upd e d v) w''):W P ops Q (o::rest) n e w:=by
  refine⟨?_⟩
  unfold wpList
  rw [if_pos (by
    unfold Zyx
    cases hg:o.guard with
    | none=>rfl
    | some gb=>obtain ⟨g,b⟩:=gb; simp [Zde,hw g b hg])]
  refine .inl ?_
  unfold Zzg
  rw [Zbt,hr,Oper.upon_enter]
  refine hc.mono fun ret w'' hR=>?_
  obtain ⟨v,rfl,hk⟩:=h ret w'' hR
  show wpList P ops Q rest ((actOf n e).put o.dst v) w''
  rw [hd,Zdd]
  exact hk.out
theorem Zh {id:Nat} {l:List Oper} (h:W P l.toArray Q l n e w):(Code.region id l.toArray false).wp P Q (actOf n e) w:=wp_region_lit h.out
theorem Zr {c:Operand} {x y:Code} {b:Bool} (hc:ev n e c=.bool b) (ht:b=true→x.wp P Q (actOf n e) w) (hf:b=false→y.wp P Q (actOf n e) w) :
    (Code.cond c x y).wp P Q (actOf n e) w:=wp_cond_split (by rw [Zbt]; exact hc) ht hf
theorem Yr {c:Operand} {x y:Code} {b:Bool} (hc:ev n e c=.bool b) (hb:b=true) (h:x.wp P Q (actOf n e) w):(Code.cond c x y).wp P Q (actOf n e) w:=wp_cond_true (by rw [Zbt,hc,hb]) h
theorem Yi {c:Operand} {x y:Code} {b:Bool} (hc:ev n e c=.bool b) (hb:b=false) (h:y.wp P Q (actOf n e) w):(Code.cond c x y).wp P Q (actOf n e) w:=wp_cond_false (by rw [Zbt,hc,hb]) h
def Zhu (args:List Value):Env:=fun i=>(args[i]?).getD undef
theorem Z4 {f:FuncId} {fn:Func} {c:Code} {args:List Value} {w:World} {R:Ending→World→Prop}
    (hf:P.funcs[f]?=some fn) (hb:fn.body=some c) (n:Nat) (hn:fn.ntmps=n) (hl:args.length≤n)
    (h:c.wp P (bodyPost P fn R) (actOf n (Zhu args)) w):Calls P f args.toArray w R:=by
  refine calls_of_wp hf hb ?_
  have:({ tmps:=args.toArray++Array.replicate (fn.ntmps - args.toArray.size) undef,defers:=[] }:Act)=actOf n (Zhu args):=by
    unfold actOf
    congr 1
    apply Array.ext
    · simp [hn]; omega
    · intro i h1 h2
      simp only [Array.getElem_ofFn,Zhu]
      by_cases hi:i < args.length
      · rw [Array.getElem_append_left (by simpa using hi)]; simp [hi]
      · rw [Array.getElem_append_right (by simpa using hi)]; simp [hi]
  rw [this]; exact h
end
end Vc
namespace Vc
open Go Go.RowKit
structure Bel (w w':World):Prop extends Below w.heap.size w w' where
  drawn:w.drawn≤w'.drawn
theorem Bel.refl (w:World):Bel w w:=⟨Below.refl _ _,Zy1 _⟩
theorem Bel.trans {a b c:World} (h:Bel a b) (k:Bel b c):Bel a c:=⟨h.toBelow.trans (k.toBelow.mono h.size),Zy6 h.drawn k.drawn⟩
theorem Bel.alloc (w:World) (o:Obj):Bel w (w.alloc o):=⟨(Below.refl _ _).alloc (Zy1 _) _,Zy1 _⟩
structure Item where
  fp:List Nat
  holds:World→Prop
  keep:∀ w w':World,(∀ b,b∈fp→w'.heap[b]?=w.heap[b]?)→holds w→holds w'
  low:∀ w:World,holds w→∀ b,b∈fp→b < w.heap.size
theorem Zcg {w:World} {b:Nat} {o:Obj} (h:w.heap[b]?=some o):b < w.heap.size:=(Array.getElem?_eq_some_iff.1 h).1
def blk (b t:Nat) (cs:List Value):Item where
  fp:=[b]
  holds w:=w.heap[b]?=some (.cells cs.toArray t (0,0))
  keep _ _ h hw:=(h b (by simp)).trans hw
  low _ hw c hc := by obtain rfl : c = b := by simpa using hc
                      exact Zcg hw
def own (t sz : Nat) (v : Value) (n : Nat) (cs : List Value) : Item where
  fp:=v.ownBlock.toList
  holds w:=w.ownsRow 0 t sz v n cs
  keep w w' h hw:=by
    obtain ⟨h1,h2⟩:=hw
    refine⟨h1,?_⟩
    rcases h2 with h2 | ⟨g,cap,cur,rfl,hg,hh,r⟩
    · exact .inl h2
    · exact .inr ⟨g,cap,cur,rfl,hg,(h g (by simp [Zzn])).trans hh,r⟩
  low w hw b hb := by
    rcases hw.2 with ⟨rfl,_⟩ | ⟨g,cap,cur,rfl,_,hh,_⟩
    · simp [Zzn] at hb
    · obtain rfl:b=g:=by simpa [Zzn] using hb
      exact Zcg hh
def rdr (sz : Nat) (v : Value) (n : Nat) (cs : List Value) (fp : List Nat) : Item where
  fp:=fp
  holds w:=(∀ b,b∈fp→b < w.heap.size)∧cs.length=n * sz∧n≤maxLen ∧
    ∃ A c,v=.slice A n c∧(0 < n→∃ a,A=some a∧a.block∈fp∧∀ j u,cs[j]?=some u→w.cell? (a.add j)=some u)
  keep w w' h hw:=by
    obtain ⟨h0,h1,h2,A,c,rfl,h3⟩:=hw
    refine⟨fun b hb=>?_,h1,h2,A,c,rfl,fun hn=>?_⟩
    · have:=h0 b hb
      have e:=h b hb
      rcases Zzt b w'.heap.size with hl | hl
      · exact hl
      · rw [Array.getElem?_eq_none hl,Array.getElem?_eq_getElem this] at e; cases e
    · obtain ⟨a,rfl,ha,hc⟩:=h3 hn
      refine⟨a,rfl,ha,fun j u hj=>?_⟩
      have hb:(a.add j).block=a.block:=by unfold Zz4; split <;> rfl
      exact(World.cell?_of_block (by rw [hb]; exact h _ ha)).trans (hc j u hj)
  low _ hw:=hw.1
def Item.and (a b : Item) : Item where
  fp:=a.fp++b.fp
  holds w:=a.holds w∧b.holds w
  keep w w' h hw:=⟨a.keep w w' (fun x hx=>h x (ZA1 _ hx)) hw.1,b.keep w w' (fun x hx=>h x (ZA2 _ hx)) hw.2⟩
  low w hw x hx:=by
    rcases Zzu.1 hx with h | h
    · exact a.low w hw.1 x h
    · exact b.low w hw.2 x h
structure Ctx (X:Nat→Prop) (w0 w:World) (M Ps:List Item):Prop where
  os:w.os=w0.os
  tape:w.tape=w0.tape
  output:w.output=w0.output
  size:w0.heap.size≤w.heap.size
  drawn:w0.drawn≤w.drawn
  old:∀ b,b < w0.heap.size→¬ X b→w.heap[b]?=w0.heap[b]?
  m:∀ it,it∈M→it.holds w
  p:∀ it,it∈Ps→it.holds w
  mfp:∀ it,it∈M→∀ b,b∈it.fp→w0.heap.size≤b∨X b
  dis:M.Pairwise (fun a b=>∀ x,x∈a.fp→x∉b.fp)
  pd:∀ it,it∈Ps→∀ b,b∈it.fp→∀ m,m∈M→b∉m.fp
def Nox:Nat→Prop:=fun _=>False
namespace Ctx
variable {X:Nat→Prop} {w0 w w':World} {M Ps:List Item}
theorem getM (h:Ctx X w0 w M Ps) {it:Item} (k:Nat) (hk:M[k]?=some it):it.holds w:=h.m it (List.mem_of_getElem? hk)
theorem getP (h:Ctx X w0 w M Ps) {it:Item} (k:Nat) (hk:Ps[k]?=some it):it.holds w:=h.p it (List.mem_of_getElem? hk)
theorem start (w:World) (Ps:List Item) (h:∀ it,it∈Ps→it.holds w):Ctx X w w [] Ps :=
  ⟨rfl,rfl,rfl,Zy1 _,Zy1 _,fun _ _ _=>rfl,by simp,h,by simp,.nil,by simp⟩
theorem below (h:Ctx Nox w0 w M Ps):Bel w0 w:=⟨⟨h.os,h.tape,h.output,h.size,fun k hk=>h.old k hk (fun x=>x)⟩,h.drawn⟩
theorem grow (h:Ctx X w0 w M Ps) (hb:Bel w w'):Ctx X w0 w' M Ps where
  os:=hb.os.trans h.os
  tape:=hb.tape.trans h.tape
  output:=hb.output.trans h.output
  size:=Zy6 h.size hb.size
  drawn:=Zy6 h.drawn hb.drawn
  old b hb' hx:=(hb.block b (Nat.lt_of_lt_of_le hb' h.size)).trans (h.old b hb' hx)
  m it hi:=it.keep w w' (fun b hbf=>hb.block b (it.low w (h.m it hi) b hbf)) (h.m it hi)
  p it hi:=it.keep w w' (fun b hbf=>hb.block b (it.low w (h.p it hi) b hbf)) (h.p it hi)
  mfp:=h.mfp
  dis:=h.dis
  pd:=h.pd
theorem push (h:Ctx X w0 w M Ps) (hb:Bel w w') (it:Item) (hi:it.holds w') (hf:∀ b,b∈it.fp→w.heap.size≤b):Ctx X w0 w' (it::M) Ps :=
  have g:=h.grow hb
  { g with
    m := fun j hj => by
      rcases Zyz.1 hj with hj | hj
      · exact hj ▸ hi
      · exact g.m j hj
    mfp:=fun j hj b hb=>by
      rcases Zyz.1 hj with rfl | hj
      · exact .inl (Zy6 h.size (hf b hb))
      · exact g.mfp j hj b hb
    dis:=Zzy.2 ⟨fun j hj x hx hx'=>absurd (j.low w (h.m j hj) x hx') (Zzf.2 (hf x hx)),g.dis⟩
    pd:=fun j hj b hb m hm hbm=>by
      rcases Zyz.1 hm with rfl | hm
      · exact absurd (j.low w (h.p j hj) b hb) (Zzf.2 (hf b hbm))
      · exact g.pd j hj b hb m hm hbm }
theorem pushP (h:Ctx X w0 w M Ps) (it:Item) (hi:it.holds w) (hf:∀ b,b∈it.fp→∀ m,m∈M→b∉m.fp):Ctx X w0 w M (it::Ps) :=
  { h with
    p := fun j hj => by
      rcases Zyz.1 hj with hj | hj
      · exact hj ▸ hi
      · exact h.p j hj
    pd:=fun j hj b hb m hm hbm=>by
      rcases Zyz.1 hj with rfl | hj
      · exact hf b hb m hm hbm
      · exact h.pd j hj b hb m hm hbm }
theorem derive (h:Ctx X w0 w M Ps) (k:Nat) {it:Item} (hk:Ps[k]?=some it) (jt:Item) (hj:it.holds w→jt.holds w) (hf:∀ b,b∈jt.fp→b∈it.fp):Ctx X w0 w M (jt::Ps) :=
  h.pushP jt (hj (h.getP k hk)) (fun b hb m hm=>h.pd it (List.mem_of_getElem? hk) b (hf b hb) m hm)
theorem turn (h:Ctx X w0 w M Ps) (k:Nat) {it jt:Item} (hk:M[k]?=some it)
    (hos:w'.os=w.os) (hta:w'.tape=w.tape) (hou:w'.output=w.output) (hsz:w.heap.size≤w'.heap.size) (hdr:w.drawn≤w'.drawn)
    (hb:∀ b,b < w.heap.size→b∉it.fp→w'.heap[b]?=w.heap[b]?) (hj:jt.holds w') (hf:∀ b,b∈jt.fp→b∈it.fp∨w.heap.size≤b) :
    Ctx X w0 w' (M.set k jt) Ps:=by
  have hmem:it∈M:=List.mem_of_getElem? hk
  have hlt:k < M.length:=(List.getElem?_eq_some_iff.1 hk).1
  have hget:M[k]=it:=(List.getElem?_eq_some_iff.1 hk).2
  -- the other items
  have sep:∀ i (hi:i < M.length),i≠k→∀ x,x∈(M[i]).fp→x∉it.fp:=by
    intro i hi hne x hx hx'
    rcases ZA3 hne with hl | hl
    · exact(Zza.1 h.dis i k hi hlt hl) x hx (hget ▸ hx')
    · exact(Zza.1 h.dis k i hlt hi hl) x (hget ▸ hx') hx
  refine⟨hos.trans h.os,hta.trans h.tape,hou.trans h.output,Zy6 h.size hsz,Zy6 h.drawn hdr,?_,?_,?_,?_,?_,?_⟩
  · intro b hb0 hx
    rw [hb b (Nat.lt_of_lt_of_le hb0 h.size) (fun hbi=>?_)]
    · exact h.old b hb0 hx
    · rcases h.mfp it hmem b hbi with h' | h'
      · omega
      · exact hx h'
  · intro x hx
    obtain ⟨i,hi,hxi⟩:=Zzo hx
    rw [ZAf] at hxi
    split at hxi
    · subst hxi; exact hj
    · rename_i hne
      have hi':i < M.length:=by simpa using hi
      subst hxi
      exact(M[i]).keep w w' (fun b hbf=>hb b ((M[i]).low w (h.m _ (Zzv hi')) b hbf) (sep i hi' (fun e=>hne e.symm) b hbf)) (h.m _ (Zzv hi'))
  · intro x hx
    exact x.keep w w' (fun b hbf=>hb b (x.low w (h.p x hx) b hbf) (h.pd x hx b hbf it hmem)) (h.p x hx)
  · intro x hx b hbx
    obtain ⟨i,hi,hxi⟩:=Zzo hx
    rw [ZAf] at hxi
    split at hxi
    · subst hxi
      rcases hf b hbx with h' | h'
      · exact h.mfp it hmem b h'
      · exact .inl (Zy6 h.size h')
    · have hi':i < M.length:=by simpa using hi
      subst hxi
      exact h.mfp _ (Zzv hi') b hbx
  · rw [Zza]
    intro i j hi hj' hij x hx hx'
    have hi':i < M.length:=by simpa using hi
    have hj'':j < M.length:=by simpa using hj'
    rw [ZAf] at hx hx'
    split at hx <;> split at hx'
    · omega
    · rename_i e1 e2
      rcases hf x hx with h' | h'
      · exact sep j hj'' (fun e=>e2 e.symm) x hx' h'
      · exact absurd ((M[j]).low w (h.m _ (Zzv hj'')) x hx') (Zzf.2 h')
    · rename_i e1 e2
      rcases hf x hx' with h' | h'
      · exact sep i hi' (fun e=>e1 e.symm) x hx h'
      · exact absurd ((M[i]).low w (h.m _ (Zzv hi')) x hx) (Zzf.2 h')
    · exact(Zza.1 h.dis i j hi' hj'' hij) x hx hx'
  · intro x hx b hbx m hm hbm
    obtain ⟨i,hi,hmi⟩:=Zzo hm
    rw [ZAf] at hmi
    split at hmi
    · subst hmi
      rcases hf b hbm with h' | h'
      · exact h.pd x hx b hbx it hmem h'
      · exact absurd (x.low w (h.p x hx) b hbx) (Zzf.2 h')
    · have hi':i < M.length:=by simpa using hi
      subst hmi
      exact h.pd x hx b hbx _ (Zzv hi') hbm
theorem drop (h:Ctx X w0 w M Ps) (k j:Nat):Ctx X w0 w (M.drop k) (Ps.drop j) :=
  { h with
    m:=fun it hi=>h.m it (Zz5 hi)
    p:=fun it hi=>h.p it (Zz5 hi)
    mfp:=fun it hi=>h.mfp it (Zz5 hi)
    dis:=h.dis.sublist (List.drop_sublist _ _)
    pd:=fun it hi b hb m hm=>h.pd it (Zz5 hi) b hb m (Zz5 hm) }
theorem sub (h:Ctx X w0 w M Ps) {M' Ps':List Item} (hm:M'.Sublist M) (hp:∀ it,it∈Ps'→it∈Ps):Ctx X w0 w M' Ps' :=
  { h with
    m:=fun it hi=>h.m it (hm.subset hi)
    p:=fun it hi=>h.p it (hp it hi)
    mfp:=fun it hi=>h.mfp it (hm.subset hi)
    dis:=h.dis.sublist hm
    pd:=fun it hi b hb m hm'=>h.pd it (hp it hi) b hb m (hm.subset hm') }
theorem thaw (h:Ctx X w0 w M Ps) (k:Nat) {it:Item} (hk:M[k]?=some it) (jt:Item) (hj:it.holds w→jt.holds w) (hf:∀ b,b∈jt.fp→b∈it.fp):Ctx X w0 w (M.eraseIdx k) (jt::Ps):=by
  have g:=h.sub (M':=M.eraseIdx k) (Ps':=Ps) (ZA4 ..) (fun _ x=>x)
  refine g.pushP jt (hj (h.getM k hk)) (fun b hb m hm hbm=>?_)
  have hlt:k < M.length:=(List.getElem?_eq_some_iff.1 hk).1
  have hget:M[k]=it:=(List.getElem?_eq_some_iff.1 hk).2
  obtain ⟨i,hi,hmi⟩:=Zzo hm
  rw [List.getElem_eraseIdx] at hmi
  split at hmi
  · rename_i hik
    subst hmi
    exact(Zza.1 h.dis i k (by omega) hlt hik) b hbm (hget ▸ hf b hb)
  · rename_i hik
    have hi2:i < M.length - 1:=by rw [ZBw hlt] at hi; exact hi
    subst hmi
    exact(Zza.1 h.dis k (i+1) hlt (by omega) (by omega)) b (hget ▸ hf b hb) hbm
end Ctx
end Vc
namespace Vc
open Go Go.RowKit
def AggT (P:Program) (t sz:Nat):Prop:=(∃ d,P.underlying t=some d∧(match d with | .struct _ | .array _ _=>true | _=>false)=true)∧(P.info? t).map (·.size)=some sz
def ScaT (P:Program) (t:Nat):Prop:=(∃ d,P.underlying t=some d∧(match d with | .struct _ | .array _ _=>true | _=>false)=false)∧(P.info? t).map (·.size)=some 1
def Je (P:Program) (t:Nat) (z:Value):Prop:=(P.info? t).map (·.zero)=some (some z)
def X8 (P:Program) (t sz:Nat):Prop:=(P.info? t).map (·.size)=some sz
theorem AggT.size {P:Program} {t sz:Nat} (h:AggT P t sz):X8 P t sz:=h.2
theorem ScaT.size {P:Program} {t:Nat} (h:ScaT P t):X8 P t 1:=h.2
theorem Zqb {P:Program} {t sz:Nat} (h:AggT P t sz) (w:World):(isAgg t).run P w=.ok true w:=by
  obtain ⟨⟨d,hu,hd⟩,_⟩:=h
  unfold isAgg
  rw [Zyu,run_underlying hu w]
  cases d <;> simp_all
theorem Ze8 {P:Program} {t:Nat} (h:ScaT P t) (w:World):(isAgg t).run P w=.ok false w:=by
  obtain ⟨⟨d,hu,hd⟩,_⟩:=h
  unfold isAgg
  rw [Zyu,run_underlying hu w]
  cases d <;> simp_all
theorem Za1 {P:Program} {t sz:Nat} (h:X8 P t sz) (w:World):(Go.sizeOf t).run P w=.ok sz w:=by
  unfold X8 at h
  cases hq:P.info? t with
  | none=>simp [hq] at h
  | some i =>
    have hs:i.size=sz:=by simpa [hq] using h
    simp [Go.sizeOf,typeInfo,hq,hs]
theorem Zju {P:Program} {t:Nat} {z:Value} (h:Je P t z) (w:World):(zeroValue t).run P w=.ok z w:=by
  unfold Je at h
  cases hq:P.info? t with
  | none=>simp [hq] at h
  | some i =>
    have hs:i.zero=some z:=by simpa [hq] using h
    simp [zeroValue,typeInfo,hq,hs]
def J8 (w:World) (a:Addr) (seg:List Value):Prop:=∀ j u,seg[j]?=some u→w.cell? (a.add j)=some u
theorem Zch (g o j:Nat):(⟨g,o,none⟩:Addr).add j=⟨g,o+j,none⟩:=by unfold Zz4; split <;> simp_all
theorem Zdf {a:Addr} (i j:Nat):(a.add i).add j=a.add (i+j):=by
  unfold Zz4
  by_cases hi:i=0
  · subst hi; simp
  · by_cases hj:j=0
    · subst hj; simp [hi]
    · rw [if_neg hi,if_neg hj,if_neg (by omega)]
      simp [Nat.add_assoc]
theorem Zdg {w:World} {b t off sz:Nat} {cs seg:List Value} (h:(blk b t cs).holds w) (hs:(cs.drop off).take sz=seg):J8 w ⟨b,off,none⟩ seg:=by
  intro j u hj
  rw [Zch,cell_of_row w b _ cs.toArray t (0,0) h]
  rw [← hs] at hj
  simp only [List.getElem?_take] at hj
  split at hj
  · simpa using hj
  · cases hj
theorem Zd7 {P:Program} {w:World} {t sz:Nat} {a:Addr} {seg:List Value} (hT:AggT P t sz) (hc:J8 w a seg) (hl:seg.length=sz) :
    (loadVar t a).run P w=.ok (.agg seg.toArray) w:=by
  have h1:(loadCells a sz).run P w=.ok seg.toArray w:=by
    rw [← hl]; exact run_loadCells_list (P:=P) w a seg hc
  unfold loadVar
  simp only [Zyu,Zqb hT,Zyv,if_true,Za1 hT.size,h1,Zyw]
theorem Ze9 {P:Program} {w:World} {t:Nat} {a:Addr} {v:Value} (hT:ScaT P t) (hc:J8 w a [v]) :
    (loadVar t a).run P w=.ok v w:=by
  have h0:w.cell? a=some v:=by have:=hc 0 v rfl; simpa [Zz4] using this
  unfold loadVar
  simp only [Zyu,Ze8 hT,Zyv]
  simp [h0]
def Xx (cs:List Value) (off:Nat) (vc:List Value):List Value:=cs.take off++vc++cs.drop (off+vc.length)
theorem Zmb {P:Program} {w:World} {b t ty off sz:Nat} {cs vc:List Value} {v:Value} (hT:X8 P ty sz) (h:(blk b t cs).holds w)
    (hv:v.cells.toList=vc) (hl:vc.length=sz) (h1:vc.all (·.oneCell')=true) (ho:off+sz≤cs.length) :
    ∃ w', (storeVar ty ⟨b, off, none⟩ v).run P w = .ok () w' ∧ (blk b t (Xx cs off vc)).holds w' ∧ w'.os = w.os ∧ w'.tape = w.tape ∧ w'.output = w.output ∧ w'.heap.size = w.heap.size ∧
      ∀ k,k≠b→w'.heap[k]?=w.heap[k]?:=by
  have hs:v.cells.size=sz:=by rw [← ZAh,hv,hl]
  have hr:=run_storeCells_at (P:=P) b off t vc 0 cs.toArray w h (by simp; omega) (by simpa using h1)
  refine⟨w.setRow b (cs.take off++vc++cs.drop (off+vc.length)).toArray,?_,?_,rfl,rfl,rfl,?_,?_⟩
  · unfold storeVar
    simp only [Zyu,Za1 hT,Zyv,hs,ne_eq,not_true_eq_false,if_false,hv]
    simpa using hr
  · show (World.setRow _ _ _).heap[b]?=_
    rw [setRow_heap w b _ _ t _ h]
    simp [Xx]
  · simp
  · intro k hk
    exact setRow_other w b k _ hk
section
variable {P:Program} {ops:Array Oper} {Q:Exit→Act→World→Prop} {n:Nat} {e:Env} {w w':World} {rest:List Oper}
variable {X:Nat→Prop} {w0:World} {M Ps:List Item}
variable {d ty:Nat} {pos:String} {af:Array Edge} {gd:Option (Nat×Bool)}
theorem Zl {l : List Oper} {op : Op} {dst : Option Nat} (g : Nat) {want : Bool} (dg : Nat) (hd : (l[g]?).bind (·.dst) = some dg) {b : Bool} (hv : ev n e (.tmp dg) = .bool b) (hb : b = want)
    (h:W P l.toArray Q (⟨dst,op,ty,pos,af,none⟩::rest) n e w):W P l.toArray Q (⟨dst,op,ty,pos,af,some (g,want)⟩::rest) n e w:=by
  have hy:yielded l.toArray (actOf n e).tmps g=some want:=by
    rw [Zde]
    unfold J7
    rw [List.getElem?_toArray,hd]
    simp only [ev] at hv
    by_cases hdn:dg < n
    · have hbt:Zy3 dg n=true:=by rw [Zze]; exact hdn
      rw [hbt] at hv
      simp only [cond_true] at hv
      simp [hdn,hv,hb]
    · have hbt:Zy3 dg n=false:=by
        cases hq:Zy3 dg n with
        | false=>rfl
        | true=>rw [Zze] at hq; exact absurd hq hdn
      rw [hbt] at hv
      simp [undef] at hv
  obtain ⟨h⟩:=h
  refine⟨?_⟩
  unfold wpList at h ⊢
  rw [if_pos (by simp [Zyx])] at h
  rw [if_pos (by simp [Zyx,hy])]
  exact h
theorem Zn {l:List Oper} {op:Op} (g:Nat) {want:Bool} (dg:Nat) (hd:(l[g]?).bind (·.dst)=some dg) {b:Bool} (hv:ev n e (.tmp dg)=.bool b) (hb:b≠want)
    (h:W P l.toArray Q rest n (upd e d undef) w):W P l.toArray Q (⟨some d,op,ty,pos,af,some (g,want)⟩::rest) n e w:=by
  refine stepG0 (g:=g) (want:=want) (b:=b) (d:=d) rfl rfl ?_ hb h
  unfold J7
  rw [List.getElem?_toArray,hd]
  simp only [ev] at hv
  by_cases hdn:dg < n
  · have hbt:Zy3 dg n=true:=by rw [Zze]; exact hdn
    rw [hbt] at hv
    simp only [cond_true] at hv
    simp [hdn,hv]
  · have hbt:Zy3 dg n=false:=by
      cases hq:Zy3 dg n with
      | false=>rfl
      | true=>rw [Zze] at hq; exact absurd hq hdn
    rw [hbt] at hv
    simp [undef] at hv
theorem Zae {l:List Oper} {op:Op} (g:Nat) {want:Bool} (dg:Nat) (hd:(l[g]?).bind (·.dst)=some dg) (hv:ev n e (.tmp dg)=undef)
    (h:W P l.toArray Q rest n (upd e d undef) w):W P l.toArray Q (⟨some d,op,ty,pos,af,some (g,want)⟩::rest) n e w:=by
  have hy:yielded l.toArray (actOf n e).tmps g=none:=by
    rw [Zde]
    unfold J7
    rw [List.getElem?_toArray,hd]
    simp only [ev] at hv
    by_cases hdn:dg < n
    · have hbt:Zy3 dg n=true:=by rw [Zze]; exact hdn
      rw [hbt] at hv
      simp only [cond_true] at hv
      simp [hdn,hv,undef]
    · simp [hdn]
  refine⟨?_⟩
  unfold wpList
  rw [if_neg (by simp [Zyx,hy]),Zdd]
  exact h.out
theorem done (h:Q .normal (actOf n e) w):W P ops Q [] n e w:=⟨h⟩
theorem Zf {x:Operand} {v:Value} (hx:ev n e x=v):(execOp (ev n e) ⟨some d,.move x,ty,pos,af,gd⟩).run P w=.ok (.value v) w :=
  (by simp [execOp,hx])
theorem Zb {x:Operand} {v:Value} (hx:ev n e x=v) (h:W P ops Q rest n (upd e d v) w):W P ops Q (⟨some d,.move x,ty,pos,af,none⟩::rest) n e w :=
  Xd v rfl rfl (by simp [execOp,hx]) h
theorem Zhv {x:Operand} {v:Value} (hx:ev n e x=v):(execOp (ev n e) ⟨some d,.assign x,ty,pos,af,gd⟩).run P w=.ok (.value v) w :=
  (by simp [execOp,hx])
theorem Zc {x:Operand} {v:Value} (hx:ev n e x=v) (h:W P ops Q rest n (upd e d v) w):W P ops Q (⟨some d,.assign x,ty,pos,af,none⟩::rest) n e w :=
  Xd v rfl rfl (by simp [execOp,hx]) h
theorem Zmc {c x y:Operand} {b:Bool} {v:Value} (hc:ev n e c=.bool b) (hv:(bif b then ev n e x else ev n e y)=v):(execOp (ev n e) ⟨some d,.pick c x y,ty,pos,af,gd⟩).run P w=.ok (.value v) w :=
  (by cases b <;> simp [execOp,hc,asBool] at hv ⊢ <;> exact hv)
theorem Yc {c x y:Operand} {b:Bool} {v:Value} (hc:ev n e c=.bool b) (hv:(bif b then ev n e x else ev n e y)=v) (h:W P ops Q rest n (upd e d v) w) :
    W P ops Q (⟨some d,.pick c x y,ty,pos,af,none⟩::rest) n e w :=
  Xd v rfl rfl (by cases b <;> simp [execOp,hc,asBool] at hv ⊢ <;> exact hv) h
theorem Zcw {op:BinOp} {t t':Nat} {x y:Operand} {k:IntKind} {a b:Int} {r:Value} (hx:ev n e x=.int k a) (hy:ev n e y=.int k b) (hr:(binOp op t (.int k a) (.int k b)).run P w=.ok r w) :
    (execOp (ev n e) ⟨some d,.binOp op t x y t',ty,pos,af,gd⟩).run P w=.ok (.value r) w:=by
  have hq:(eqGuard op t x y (.int k a) (.int k b)).run P w=.ok () w:=by
    unfold eqGuard
    cases op <;> simp
  simp only [execOp,hx,hy,Zyu,hq,Zyv,hr,Zyw]
theorem Zbu {op:BinOp} {t t':Nat} {x y:Operand} {k:IntKind} {a b:Int} (r:Value) (hx:ev n e x=.int k a) (hy:ev n e y=.int k b) (hr:(binOp op t (.int k a) (.int k b)).run P w=.ok r w)
    (h:W P ops Q rest n (upd e d r) w):W P ops Q (⟨some d,.binOp op t x y t',ty,pos,af,none⟩::rest) n e w:=by
  refine Xd r rfl rfl ?_ h
  have hq:(eqGuard op t x y (.int k a) (.int k b)).run P w=.ok () w:=by
    unfold eqGuard
    cases op <;> simp
  simp only [execOp,hx,hy,Zyu,hq,Zyv,hr,Zyw]
theorem Zdh {t t':Nat} {x y:Operand} {k:IntKind} {a b:Int} (hx:ev n e x=.int k a) (hy:ev n e y=.int k b)
    : (execOp (ev n e) ⟨some d,.binOp .add t x y t',ty,pos,af,gd⟩).run P w=.ok (.value (.int k (k.wrap (a+b)))) w :=
  Zcw hx hy (by simp [binOp,Zzp])
theorem Zq {t t':Nat} {x y:Operand} {k:IntKind} {a b:Int} (hx:ev n e x=.int k a) (hy:ev n e y=.int k b)
    (h:W P ops Q rest n (upd e d (.int k (k.wrap (a+b)))) w):W P ops Q (⟨some d,.binOp .add t x y t',ty,pos,af,none⟩::rest) n e w :=
  Zbu _ hx hy (by simp [binOp,Zzp]) h
theorem Zci {t t':Nat} {x y:Operand} {k:IntKind} {a b:Int} (hx:ev n e x=.int k a) (hy:ev n e y=.int k b)
    : (execOp (ev n e) ⟨some d,.binOp .sub t x y t',ty,pos,af,gd⟩).run P w=.ok (.value (.int k (k.wrap (a - b)))) w :=
  Zcw hx hy (by simp [binOp,Zzp])
theorem Jt {t t':Nat} {x y:Operand} {k:IntKind} {a b:Int} (hx:ev n e x=.int k a) (hy:ev n e y=.int k b)
    (h:W P ops Q rest n (upd e d (.int k (k.wrap (a - b)))) w):W P ops Q (⟨some d,.binOp .sub t x y t',ty,pos,af,none⟩::rest) n e w :=
  Zbu _ hx hy (by simp [binOp,Zzp]) h
theorem Zbi {t t':Nat} {x y:Operand} {k:IntKind} {a b:Int} (hx:ev n e x=.int k a) (hy:ev n e y=.int k b)
    : (execOp (ev n e) ⟨some d,.binOp .mul t x y t',ty,pos,af,gd⟩).run P w=.ok (.value (.int k (k.wrap (a * b)))) w :=
  Zcw hx hy (by simp [binOp,Zzp])
theorem Ju {t t':Nat} {x y:Operand} {k:IntKind} {a b:Int} (hx:ev n e x=.int k a) (hy:ev n e y=.int k b)
    (h:W P ops Q rest n (upd e d (.int k (k.wrap (a * b)))) w):W P ops Q (⟨some d,.binOp .mul t x y t',ty,pos,af,none⟩::rest) n e w :=
  Zbu _ hx hy (by simp [binOp,Zzp]) h
theorem Zmd {t t':Nat} {x y:Operand} {k:IntKind} {a b:Int} (hx:ev n e x=.int k a) (hy:ev n e y=.int k b) (h0:b≠0)
    : (execOp (ev n e) ⟨some d,.binOp .rem t x y t',ty,pos,af,gd⟩).run P w=.ok (.value (.int k (a.tmod b))) w :=
  Zcw hx hy (by simp [binOp,Op.intDiv,h0])
theorem X0 {t t':Nat} {x y:Operand} {k:IntKind} {a b:Int} (hx:ev n e x=.int k a) (hy:ev n e y=.int k b) (h0:b≠0)
    (h:W P ops Q rest n (upd e d (.int k (a.tmod b))) w):W P ops Q (⟨some d,.binOp .rem t x y t',ty,pos,af,none⟩::rest) n e w :=
  Zbu _ hx hy (by simp [binOp,Op.intDiv,h0]) h
theorem Zd8 {t t':Nat} {x y:Operand} {k:IntKind} {a b:Int} (hx:ev n e x=.int k a) (hy:ev n e y=.int k b) (h0:b≠0)
    (h:W P ops Q rest n (upd e d (.int k (k.wrap (a.tdiv b)))) w):W P ops Q (⟨some d,.binOp .quo t x y t',ty,pos,af,none⟩::rest) n e w :=
  Zbu _ hx hy (by simp [binOp,Op.intDiv,h0]) h
theorem Zme {t t':Nat} {x y:Operand} {k:IntKind} {a b:Int} (hx:ev n e x=.int k a) (hy:ev n e y=.int k b)
    : (execOp (ev n e) ⟨some d,.binOp .eql t x y t',ty,pos,af,gd⟩).run P w=.ok (.value (.bool (decide (a=b)))) w :=
  Zcw hx hy (by simp [binOp,Zzh,ZA6])
theorem Jm {t t':Nat} {x y:Operand} {k:IntKind} {a b:Int} (hx:ev n e x=.int k a) (hy:ev n e y=.int k b)
    (h:W P ops Q rest n (upd e d (.bool (decide (a=b)))) w):W P ops Q (⟨some d,.binOp .eql t x y t',ty,pos,af,none⟩::rest) n e w :=
  Zbu _ hx hy (by simp [binOp,Zzh,ZA6]) h
theorem Xl {t t':Nat} {x y:Operand} {k:IntKind} {a b:Int} (hx:ev n e x=.int k a) (hy:ev n e y=.int k b)
    (h:W P ops Q rest n (upd e d (.bool (decide (a≠b)))) w):W P ops Q (⟨some d,.binOp .neq t x y t',ty,pos,af,none⟩::rest) n e w :=
  Zbu _ hx hy (by simp [binOp,Zzh,bne]; rfl) h
theorem Zmf {t t':Nat} {x y:Operand} {k:IntKind} {a b:Int} (hx:ev n e x=.int k a) (hy:ev n e y=.int k b)
    : (execOp (ev n e) ⟨some d,.binOp .lss t x y t',ty,pos,af,gd⟩).run P w=.ok (.value (.bool (decide (a < b)))) w :=
  Zcw hx hy (by simp [binOp,Zzh])
theorem Zt {t t':Nat} {x y:Operand} {k:IntKind} {a b:Int} (hx:ev n e x=.int k a) (hy:ev n e y=.int k b)
    (h:W P ops Q rest n (upd e d (.bool (decide (a < b)))) w):W P ops Q (⟨some d,.binOp .lss t x y t',ty,pos,af,none⟩::rest) n e w :=
  Zbu _ hx hy (by simp [binOp,Zzh]) h
theorem Zmg {t t':Nat} {x y:Operand} {k:IntKind} {a b:Int} (hx:ev n e x=.int k a) (hy:ev n e y=.int k b)
    : (execOp (ev n e) ⟨some d,.binOp .leq t x y t',ty,pos,af,gd⟩).run P w=.ok (.value (.bool (decide (a≤b)))) w :=
  Zcw hx hy (by simp [binOp,Zzh])
theorem Zb4 {t t':Nat} {x y:Operand} {k:IntKind} {a b:Int} (hx:ev n e x=.int k a) (hy:ev n e y=.int k b)
    (h:W P ops Q rest n (upd e d (.bool (decide (a≤b)))) w):W P ops Q (⟨some d,.binOp .leq t x y t',ty,pos,af,none⟩::rest) n e w :=
  Zbu _ hx hy (by simp [binOp,Zzh]) h
theorem Zmh {t t':Nat} {x y:Operand} {k:IntKind} {a b:Int} (hx:ev n e x=.int k a) (hy:ev n e y=.int k b)
    : (execOp (ev n e) ⟨some d,.binOp .gtr t x y t',ty,pos,af,gd⟩).run P w=.ok (.value (.bool (decide (a > b)))) w :=
  Zcw hx hy (by simp [binOp,Zzh])
theorem Jj {t t':Nat} {x y:Operand} {k:IntKind} {a b:Int} (hx:ev n e x=.int k a) (hy:ev n e y=.int k b)
    (h:W P ops Q rest n (upd e d (.bool (decide (a > b)))) w):W P ops Q (⟨some d,.binOp .gtr t x y t',ty,pos,af,none⟩::rest) n e w :=
  Zbu _ hx hy (by simp [binOp,Zzh]) h
theorem Zat {t t':Nat} {x y:Operand} {k:IntKind} {a b:Int} (hx:ev n e x=.int k a) (hy:ev n e y=.int k b)
    (h:W P ops Q rest n (upd e d (.bool (decide (a≥b)))) w):W P ops Q (⟨some d,.binOp .geq t x y t',ty,pos,af,none⟩::rest) n e w :=
  Zbu _ hx hy (by simp [binOp,Zzh]) h
theorem Zjv {t:Nat} {x:Operand} {b:Bool} (hx:ev n e x=.bool b):(execOp (ev n e) ⟨some d,.unOp .not t x,ty,pos,af,gd⟩).run P w=.ok (.value (.bool (!b))) w :=
  (by simp [execOp,hx,Op.unary])
theorem Jf {t:Nat} {x:Operand} {b:Bool} (hx:ev n e x=.bool b) (h:W P ops Q rest n (upd e d (.bool (!b))) w) :
    W P ops Q (⟨some d,.unOp .not t x,ty,pos,af,none⟩::rest) n e w :=
  Xd _ rfl rfl (by simp [execOp,hx,Op.unary]) h
theorem Zmi {t:Nat} {x:Operand} {k:IntKind} {a:Int} (hx:ev n e x=.int k a):(execOp (ev n e) ⟨some d,.unOp .neg t x,ty,pos,af,gd⟩).run P w=.ok (.value (.int k (k.wrap (0 - a)))) w :=
  (by simp [execOp,hx,Op.unary,Zzp])
theorem Zfa {t:Nat} {x:Operand} {k:IntKind} {a:Int} (hx:ev n e x=.int k a) (h:W P ops Q rest n (upd e d (.int k (k.wrap (0 - a)))) w) :
    W P ops Q (⟨some d,.unOp .neg t x,ty,pos,af,none⟩::rest) n e w :=
  Xd _ rfl rfl (by simp [execOp,hx,Op.unary,Zzp]) h
theorem Zfb {src dst:Nat} {x:Operand} {k k':IntKind} {a:Int} {sd:TypeDesc} (hs:P.underlying src=some sd) (hd:P.underlying dst=some (.int k')) (hx:ev n e x=.int k a)
    : (execOp (ev n e) ⟨some d,.convert src dst x,ty,pos,af,gd⟩).run P w=.ok (.value (.int k' (k'.wrap a))) w :=
  (by
    simp only [execOp,hx,convert,Zyu,run_underlying hs,run_underlying hd,Zyv]
    cases sd <;> simp [Conv.intToInt])
theorem Zhw {src dst:Nat} {x:Operand} {k k':IntKind} {a:Int} {sd:TypeDesc} (hs:P.underlying src=some sd) (hd:P.underlying dst=some (.int k')) (hx:ev n e x=.int k a)
    (h:W P ops Q rest n (upd e d (.int k' (k'.wrap a))) w):W P ops Q (⟨some d,.convert src dst x,ty,pos,af,none⟩::rest) n e w :=
  Xd _ rfl rfl (by
    simp only [execOp,hx,convert,Zyu,run_underlying hs,run_underlying hd,Zyv]
    cases sd <;> simp [Conv.intToInt]) h
theorem Zd9 {x:Operand} {i:Nat} {vs:Array Value} {v:Value} (hx:ev n e x=.tuple vs) (hv:vs[i]?=some v):(execOp (ev n e) ⟨some d,.extract x i,ty,pos,af,gd⟩).run P w=.ok (.value v) w :=
  (by simp [execOp,hx,Instr.extract,hv])
theorem Xk {x:Operand} {i:Nat} {vs:Array Value} {v:Value} (hx:ev n e x=.tuple vs) (hv:vs[i]?=some v) (h:W P ops Q rest n (upd e d v) w) :
    W P ops Q (⟨some d,.extract x i,ty,pos,af,none⟩::rest) n e w :=
  Xd v rfl rfl (by simp [execOp,hx,Instr.extract,hv]) h
theorem J9 {x:Operand} {a:Addr} (hx:ev n e x=.pointer (some a)):(execOp (ev n e) ⟨some d,.nilCheck x,ty,pos,af,gd⟩).run P w=.ok (.value (.pointer (some a))) w :=
  (by simp [execOp,hx])
theorem Zaf {x:Operand} {a:Addr} (hx:ev n e x=.pointer (some a)) (h:W P ops Q rest n (upd e d (.pointer (some a))) w) :
    W P ops Q (⟨some d,.nilCheck x,ty,pos,af,none⟩::rest) n e w :=
  Xd _ rfl rfl (by simp [execOp,hx]) h
theorem Zmj {s:Nat} {x:Operand} {i:Nat} {a:Addr} {fs:Array Field} {f:Field} (hs:P.underlying s=some (.struct fs)) (hf:fs[i]?=some f) {sz:Nat} (hz:X8 P f.type (sz+1)) (hx:ev n e x=.pointer (some a))
    : (execOp (ev n e) ⟨some d,.fieldAddr s x i,ty,pos,af,gd⟩).run P w=.ok (.value (.pointer (some (a.add f.offset)))) w :=
  (by
    simp only [execOp,hx,Instr.fieldAt,Zyu,run_underlying hs,Zyv,hf,Zy4,fieldPlace,Za1 hz,Zyw]
    simp)
theorem Zmk {s:Nat} {x:Operand} {i:Nat} {a:Addr} {fs:Array Field} {f:Field} (hs:P.underlying s=some (.struct fs)) (hf:fs[i]?=some f) {sz:Nat} (hz:X8 P f.type (sz+1)) (hx:ev n e x=.pointer (some a))
    (h:W P ops Q rest n (upd e d (.pointer (some (a.add f.offset)))) w):W P ops Q (⟨some d,.fieldAddr s x i,ty,pos,af,none⟩::rest) n e w :=
  Xd _ rfl rfl (by
    simp only [execOp,hx,Instr.fieldAt,Zyu,run_underlying hs,Zyv,hf,Zy4,fieldPlace,Za1 hz,Zyw]
    simp) h
theorem Zqc {t el len sz:Nat} {x y:Operand} {a:Addr} {k:IntKind} {i:Int} (ht:P.underlying t=some (.array len el)) (hz:X8 P el sz) (hx:ev n e x=.pointer (some a)) (hy:ev n e y=.int k i)
    (h0:0≤i) (h1:i < len):(execOp (ev n e) ⟨some d,.indexAddr t x y,ty,pos,af,gd⟩).run P w=.ok (.value (.pointer (some (a.add (i.toNat * sz))))) w :=
  (by
    simp only [execOp,hx,hy,ZAj,asIntOf,Zyu,Zyw,Zyv,run_underlying ht,Zy4]
    simp [h0,h1,Za1 hz])
theorem Zqd {t el len sz:Nat} {x y:Operand} {a:Addr} {k:IntKind} {i:Int} (ht:P.underlying t=some (.array len el)) (hz:X8 P el sz) (hx:ev n e x=.pointer (some a)) (hy:ev n e y=.int k i)
    (h0:0≤i) (h1:i < len) (h:W P ops Q rest n (upd e d (.pointer (some (a.add (i.toNat * sz))))) w) :
    W P ops Q (⟨some d,.indexAddr t x y,ty,pos,af,none⟩::rest) n e w :=
  Xd _ rfl rfl (by
    simp only [execOp,hx,hy,ZAj,asIntOf,Zyu,Zyw,Zyv,run_underlying ht,Zy4]
    simp [h0,h1,Za1 hz]) h
theorem Zaa {t el len sz b off:Nat} {x y:Operand} {k:IntKind} {i:Int} (off':Nat) (ht:P.underlying t=some (.array len el)) (hz:X8 P el sz) (hx:ev n e x=.pointer (some ⟨b,off,none⟩)) (hy:ev n e y=.int k i)
    (h0:0≤i) (h1:i < len) (ho:off+i.toNat * sz=off'):(execOp (ev n e) ⟨some d,.indexAddr t x y,ty,pos,af,gd⟩).run P w=.ok (.value (.pointer (some ⟨b,off',none⟩))) w :=
  by have:=Zqc (P:=P) (w:=w) (d:=d) (ty:=ty) (pos:=pos) (af:=af) (gd:=gd) ht hz hx hy h0 h1; rwa [Zch,ho] at this
theorem Y5 {t el len sz b off:Nat} {x y:Operand} {k:IntKind} {i:Int} (off':Nat) (ht:P.underlying t=some (.array len el)) (hz:X8 P el sz) (hx:ev n e x=.pointer (some ⟨b,off,none⟩)) (hy:ev n e y=.int k i)
    (h0:0≤i) (h1:i < len) (ho:off+i.toNat * sz=off') (h:W P ops Q rest n (upd e d (.pointer (some ⟨b,off',none⟩))) w) :
    W P ops Q (⟨some d,.indexAddr t x y,ty,pos,af,none⟩::rest) n e w :=
  Zqd ht hz hx hy h0 h1 (by rw [Zch,ho]; exact h)
theorem Z7 {s b off:Nat} {x:Operand} {i:Nat} {fs:Array Field} {f:Field} (off':Nat) (hs:P.underlying s=some (.struct fs)) (hf:fs[i]?=some f) {sz:Nat} (hz:X8 P f.type (sz+1)) (hx:ev n e x=.pointer (some ⟨b,off,none⟩))
    (ho:off+f.offset=off'):(execOp (ev n e) ⟨some d,.fieldAddr s x i,ty,pos,af,gd⟩).run P w=.ok (.value (.pointer (some ⟨b,off',none⟩))) w :=
  by have:=Zmj (P:=P) (w:=w) (d:=d) (ty:=ty) (pos:=pos) (af:=af) (gd:=gd) hs hf hz hx; rwa [Zch,ho] at this
theorem Z6 {s b off:Nat} {x:Operand} {i:Nat} {fs:Array Field} {f:Field} (off':Nat) (hs:P.underlying s=some (.struct fs)) (hf:fs[i]?=some f) {sz:Nat} (hz:X8 P f.type (sz+1)) (hx:ev n e x=.pointer (some ⟨b,off,none⟩))
    (ho:off+f.offset=off') (h:W P ops Q rest n (upd e d (.pointer (some ⟨b,off',none⟩))) w):W P ops Q (⟨some d,.fieldAddr s x i,ty,pos,af,none⟩::rest) n e w :=
  Zmk hs hf hz hx (by rw [Zch,ho]; exact h)
theorem Zau {s:Nat} {A:Addr} {j:Nat} {x:Operand} {i:Nat} {fs:Array Field} {f:Field} (j':Nat) (hs:P.underlying s=some (.struct fs)) (hf:fs[i]?=some f) {sz:Nat} (hz:X8 P f.type (sz+1)) (hx:ev n e x=.pointer (some (A.add j)))
    (ho:j+f.offset=j'):(execOp (ev n e) ⟨some d,.fieldAddr s x i,ty,pos,af,gd⟩).run P w=.ok (.value (.pointer (some (A.add j')))) w :=
  by have:=Zmj (P:=P) (w:=w) (d:=d) (ty:=ty) (pos:=pos) (af:=af) (gd:=gd) hs hf hz hx; rwa [Zdf,ho] at this
theorem Zea {s:Nat} {A:Addr} {j:Nat} {x:Operand} {i:Nat} {fs:Array Field} {f:Field} (j':Nat) (hs:P.underlying s=some (.struct fs)) (hf:fs[i]?=some f) {sz:Nat} (hz:X8 P f.type (sz+1)) (hx:ev n e x=.pointer (some (A.add j)))
    (ho:j+f.offset=j') (h:W P ops Q rest n (upd e d (.pointer (some (A.add j')))) w):W P ops Q (⟨some d,.fieldAddr s x i,ty,pos,af,none⟩::rest) n e w :=
  Zmk hs hf hz hx (by rw [Zdf,ho]; exact h)
theorem Yp {t el len c sz:Nat} {x y:Operand} {A:Addr} {k:IntKind} {i:Int} (ht:P.underlying t=some (.slice el)) (hz:X8 P el sz) (hx:ev n e x=.slice (some A) len c) (hy:ev n e y=.int k i)
    (h0:0≤i) (h1:i < len):(execOp (ev n e) ⟨some d,.indexAddr t x y,ty,pos,af,gd⟩).run P w=.ok (.value (.pointer (some (A.add (i.toNat * sz))))) w :=
  (by
    simp only [execOp,hx,hy,ZAj,asIntOf,Zyu,Zyw,Zyv,run_underlying ht]
    simp [h0,h1,Za1 hz])
theorem Xb {t el len c sz:Nat} {x y:Operand} {A:Addr} {k:IntKind} {i:Int} (ht:P.underlying t=some (.slice el)) (hz:X8 P el sz) (hx:ev n e x=.slice (some A) len c) (hy:ev n e y=.int k i)
    (h0:0≤i) (h1:i < len) (h:W P ops Q rest n (upd e d (.pointer (some (A.add (i.toNat * sz))))) w) :
    W P ops Q (⟨some d,.indexAddr t x y,ty,pos,af,none⟩::rest) n e w :=
  Xd _ rfl rfl (by
    simp only [execOp,hx,hy,ZAj,asIntOf,Zyu,Zyw,Zyv,run_underlying ht]
    simp [h0,h1,Za1 hz]) h
theorem Zjw {t el len:Nat} {x y:Operand} {cs:List Value} {k:IntKind} {i:Int} (v:Value) (ht:P.underlying t=some (.array len el)) (hx:ev n e x=.agg cs.toArray) (hy:ev n e y=.int k i)
    (h0:0≤i) (h1:i < len) (hS:ScaT P el) (hv:cs[i.toNat]?=some v) (h:W P ops Q rest n (upd e d v) w) :
    W P ops Q (⟨some d,.index t x y,ty,pos,af,none⟩::rest) n e w :=
  Xd v rfl rfl (by
    simp only [execOp,hx,hy,Instr.index,asIntOf,Zyu,Zyw,Zyv,run_underlying ht]
    rw [if_pos ⟨h0,h1⟩]
    simp [Za1 hS.size,part,Ze8 hS,hv]) h
theorem Zjx {t:Nat} {l:List (Nat×Operand)} (vs:List (Nat×Value)) {v:Value} (hp:l.map (fun p=>(p.1,ev n e p.2))=vs) (hr:(Instr.build t vs.toArray).run P w=.ok v w):(execOp (ev n e) ⟨some d,.build t l.toArray,ty,pos,af,gd⟩).run P w=.ok (.value v) w :=
  (by
    have:(l.toArray.map fun (x:Nat×Operand)=>match x with | (i,x)=>(i,ev n e x))=vs.toArray:=by
      rw [← hp]; simp
    simp only [execOp,Zyu,this,hr,Zyv,Zyw])
theorem Jn {t:Nat} {l:List (Nat×Operand)} (vs:List (Nat×Value)) {v:Value} (hp:l.map (fun p=>(p.1,ev n e p.2))=vs) (hr:(Instr.build t vs.toArray).run P w=.ok v w) (h:W P ops Q rest n (upd e d v) w) :
    W P ops Q (⟨some d,.build t l.toArray,ty,pos,af,none⟩::rest) n e w :=
  Xd v rfl rfl (by
    have:(l.toArray.map fun (x:Nat×Operand)=>match x with | (i,x)=>(i,ev n e x))=vs.toArray:=by
      rw [← hp]; simp
    simp only [execOp,Zyu,this,hr,Zyv,Zyw]) h
theorem Zg {f:FuncId} {l:List Operand} {fn:Func} {at_:Array Nat} (vs:List Value) (R:Ending→World→Prop) (hf:P.funcs[f]?=some fn) (hb:fn.body.isNone=false) (hne:(fn.name == "runtime.NumGoroutine")=false)
    (hp:l.map (ev n e)=vs) (hc:Calls P f vs.toArray w R)
    (h:∀ ret w'',R ret w''→∃ v,ret=.returned v∧W P ops Q rest n (upd e d v) w'') :
    W P ops Q (⟨some d,.call { callee:=.value (.func f),args:=l.toArray,argTypes:=at_ }, ty,pos,af,none⟩::rest) n e w:=by
  refine Zma (d:=d) f vs.toArray R (fun g b hg=>by cases hg) rfl ?_ hc h
  have:l.toArray.map (ev n e)=vs.toArray:=by rw [← hp]; simp
  simp only [execOp,resolve,this,ev,ZB2,Zyu,Zyw,Zyv,invoke,callFunc]
  simp only [run_program,Zyu,Zyv,hf,hne,hb,ZAk,if_false,Zyw,Array.append_empty,Array.empty_append]
theorem Yj (hC:Ctx X w0 w M Ps) {t:Nat} {z:Value} (cs:List Value) (hz:Je P t z) (hcs:z.cells.toList=cs)
    (h:∀ b w',Bel w w'→Ctx X w0 w' (blk b t cs::M) Ps→W P ops Q rest n (upd e d (.pointer (some ⟨b,0,none⟩))) w') :
    W P ops Q (⟨some d,.alloc t,ty,pos,af,none⟩::rest) n e w:=by
  have hB:Bel w (w.alloc (.cells z.cells t)):=Bel.alloc _ _
  refine Xd (.pointer (some ⟨w.heap.size,0,none⟩)) rfl rfl ?_ (h w.heap.size (w.alloc (.cells z.cells t)) hB (hC.push hB _ ?_ ?_))
  · simp [execOp,Instr.alloc,Zju hz,newVar,newRow]
  · show (w.alloc _).heap[w.heap.size]?=_
    rw [heap_alloc_new,← hcs]
  · simp [blk]
theorem Yl (hC:Ctx X w0 w M Ps) {t:Nat} {x:Operand} {v:Value} (cs:List Value) (hx:ev n e x=v) (hcs:v.cells.toList=cs)
    (h:∀ b w',Bel w w'→Ctx X w0 w' (blk b t cs::M) Ps→W P ops Q rest n (upd e d (.pointer (some ⟨b,0,none⟩))) w') :
    W P ops Q (⟨some d,.box t x,ty,pos,af,none⟩::rest) n e w:=by
  have hB:Bel w (w.alloc (.cells v.cells t)):=Bel.alloc _ _
  refine Xd (.pointer (some ⟨w.heap.size,0,none⟩)) rfl rfl ?_ (h w.heap.size (w.alloc (.cells v.cells t)) hB (hC.push hB _ ?_ ?_))
  · simp [execOp,Instr.box,hx,newVar,newRow]
  · show (w.alloc _).heap[w.heap.size]?=_
    rw [heap_alloc_new,← hcs]
  · simp [blk]
theorem Yv (hC:Ctx X w0 w M Ps) (k:Nat) {b t off sz ty':Nat} {x:Operand} {cs:List Value} (seg:List Value) (hk:M[k]?=some (blk b t cs)) (hT:AggT P ty' sz) (hx:ev n e x=.pointer (some ⟨b,off,none⟩))
    (hs:(cs.drop off).take sz=seg) (hl:seg.length=sz):(execOp (ev n e) ⟨some d,.load ty' x,ty,pos,af,gd⟩).run P w=.ok (.value (.agg seg.toArray)) w :=
  (by simp [execOp,hx,Zzi,Zy4,Zd7 hT (Zdg (hC.getM k hk) hs) hl])
theorem Yy (hC:Ctx X w0 w M Ps) (k:Nat) {b t off sz ty':Nat} {x:Operand} {cs:List Value} (seg:List Value) (hk:M[k]?=some (blk b t cs)) (hT:AggT P ty' sz) (hx:ev n e x=.pointer (some ⟨b,off,none⟩))
    (hs:(cs.drop off).take sz=seg) (hl:seg.length=sz) (h:W P ops Q rest n (upd e d (.agg seg.toArray)) w) :
    W P ops Q (⟨some d,.load ty' x,ty,pos,af,none⟩::rest) n e w :=
  Xd _ rfl rfl (by simp [execOp,hx,Zzi,Zy4,Zd7 hT (Zdg (hC.getM k hk) hs) hl]) h
theorem Z5 (hC:Ctx X w0 w M Ps) (k:Nat) {b t off ty':Nat} {x:Operand} {cs:List Value} (v:Value) (hk:M[k]?=some (blk b t cs)) (hT:ScaT P ty') (hx:ev n e x=.pointer (some ⟨b,off,none⟩))
    (hs:cs[off]?=some v):(execOp (ev n e) ⟨some d,.load ty' x,ty,pos,af,gd⟩).run P w=.ok (.value v) w :=
  (by
    have h1:(cs.drop off).take 1=[v]:=by
      rw [ZAl]
      simp [hs]
    simp [execOp,hx,Zzi,Zy4,Ze9 hT (Zdg (hC.getM k hk) h1)])
theorem Z8 (hC:Ctx X w0 w M Ps) (k:Nat) {b t off ty':Nat} {x:Operand} {cs:List Value} (v:Value) (hk:M[k]?=some (blk b t cs)) (hT:ScaT P ty') (hx:ev n e x=.pointer (some ⟨b,off,none⟩))
    (hs:cs[off]?=some v) (h:W P ops Q rest n (upd e d v) w) :
    W P ops Q (⟨some d,.load ty' x,ty,pos,af,none⟩::rest) n e w :=
  Xd _ rfl rfl (by
    have h1:(cs.drop off).take 1=[v]:=by
      rw [ZAl]
      simp [hs]
    simp [execOp,hx,Zzi,Zy4,Ze9 hT (Zdg (hC.getM k hk) h1)]) h
theorem Zw (hC:Ctx X w0 w M Ps) (k:Nat) {b t off sz ty':Nat} {x y:Operand} {cs:List Value} {v:Value} (vc:List Value) (cs':List Value) (hk:M[k]?=some (blk b t cs)) (hT:X8 P ty' sz) (hx:ev n e x=.pointer (some ⟨b,off,none⟩))
    (hy:ev n e y=v) (hv:v.cells.toList=vc) (hl:vc.length=sz) (h1:vc.all (·.oneCell')=true) (ho:off+sz≤cs.length) (hcs:Xx cs off vc=cs')
    (h:∀ w',Ctx X w0 w' (M.set k (blk b t cs')) Ps→W P ops Q rest n e w') :
    W P ops Q (⟨none,.store ty' x y,ty,pos,af,none⟩::rest) n e w:=by
  obtain ⟨w',hr,hb,hos,hta,hou,hsz,hother⟩:=Zmb (P:=P) hT (hC.getM k hk) hv hl h1 ho
  refine Zcv rfl rfl ?_ (h w' (hC.turn k hk hos hta hou (by omega) (Zcf _ _ _ _ hr) (fun c _ hc=>hother c (by simpa [blk] using hc)) (hcs ▸ hb) (fun c hc=>.inl hc)))
  simp [execOp,hx,hy,Instr.storeAt,Zy4,hr]
end
end Vc
namespace Vc
open Go Go.RowKit
def Yt {S:Type} (body:Nat→S→(S→Prop)→Prop) (exit:S→Prop):Nat→Nat→S→Prop
  | 0,_,s=>exit s
  | r+1,i,s=>body i s (fun s'=>Yt body exit r (i+1) s')
def Zhx {S:Type} (body:S→(S→Prop)→Prop):Nat→S→Prop
  | 0,_=>False
  | k+1,s=>body s (Zhx body k)
def Xj {S:Type} (body:S→(S→Prop)→Prop) (s:S):Prop:=∃ k,Zhx body k s
structure A8 where
  x0:Int
  x1:Int
  x2:Int
  x3:Int
  x4:Int
  x5:Int
  x6:Int
  x7:Int
  deriving DecidableEq,Inhabited
namespace A8
def enc (k:IntKind) (a:A8):List Value:=[.int k a.x0,.int k a.x1,.int k a.x2,.int k a.x3,.int k a.x4,.int k a.x5,.int k a.x6,.int k a.x7]
def zero:A8:=⟨0,0,0,0,0,0,0,0⟩
def get (a:A8):Nat→Int
  | 0=>a.x0
  | 1=>a.x1
  | 2=>a.x2
  | 3=>a.x3
  | 4=>a.x4
  | 5=>a.x5
  | 6=>a.x6
  | 7=>a.x7
  | _=>0
def set (a:A8) (i:Nat) (v:Int):A8:=match i with
  | 0=>{ a with x0:=v }
  | 1=>{ a with x1:=v }
  | 2=>{ a with x2:=v }
  | 3=>{ a with x3:=v }
  | 4=>{ a with x4:=v }
  | 5=>{ a with x5:=v }
  | 6=>{ a with x6:=v }
  | 7=>{ a with x7:=v }
  | _=>a
theorem enc_get (k:IntKind) (a:A8) {i:Nat} (h:i < 8):(a.enc k)[i]?=some (.int k (a.get i)):=by
  match i,h with
  | 0,_=>rfl
  | 1,_=>rfl
  | 2,_=>rfl
  | 3,_=>rfl
  | 4,_=>rfl
  | 5,_=>rfl
  | 6,_=>rfl
  | 7,_=>rfl
theorem enc_set (k:IntKind) (a:A8) {i:Nat} (v:Int) (h:i < 8):Xx (a.enc k) i [.int k v]=(a.set i v).enc k:=by
  match i,h with
  | 0,_=>rfl
  | 1,_=>rfl
  | 2,_=>rfl
  | 3,_=>rfl
  | 4,_=>rfl
  | 5,_=>rfl
  | 6,_=>rfl
  | 7,_=>rfl
end A8
theorem i64_in (x:Int) (h:-9223372036854775808≤x∧x≤9223372036854775807):ZA7.wrap x=x:=IntWalk.i64_in x h
theorem Yh {i n:Nat} (h:i < n) (hn:n≤9223372036854775807):ZA7.wrap ((i:Int)+1)=((i+1:Nat):Int):=by
  rw [i64_in _ (by omega)]
  omega
@[reducible] def joinP {S:Type} (F:(S→Prop)→Prop) (T:S→Prop):Prop:=F T
theorem Zjy {S:Type} {F:(S→Prop)→Prop} {T:S→Prop} (h:joinP F T):∃ J:S→Prop,(∀ s,J s→T s)∧F J:=⟨T,fun _ h=>h,h⟩
end Vc
namespace Vc
open Go Go.RowKit
def Zeb (P:Program) (n:Nat) (e:Env) (w:World):ResultVar→Value→Prop
  | .tmp t,v=>ev n e (.tmp t)=v
  | .cell t ty,v=>∃ a,ev n e (.tmp t)=.pointer (some a)∧(loadVar ty a).run P w=.ok v w
section
variable {P:Program} {n:Nat} {e:Env} {w:World} {fn:Func} {R:Ending→World→Prop}
theorem Zml (t:Nat):(actOf n e).tmps.getD t undef=ev n e (.tmp t):=by
  have:=congrFun (Zbt n e) (.tmp t)
  exact this
def Zhy (tmps:Array Value):ResultVar→Sem Value:=fun
  | .tmp t=>pure (tmps.getD t undef)
  | .cell a t=>do loadVar t (← asAddr (tmps.getD a undef))
theorem Zmm (tmps:Array Value):results fn tmps=(do
  let vs ← fn.results.mapM (Zhy tmps)
  pure (if h:vs.size=1 then vs[0] else .tuple vs)):=by
  unfold results
  congr 1
theorem Zhz {r:ResultVar} {v:Value} (h:Zeb P n e w r v):(Zhy (actOf n e).tmps r).run P w=.ok v w:=by
  cases r with
  | tmp t=>simp only [Zhy,Zml]; rw [show ev n e (.tmp t)=v from h]; rfl
  | cell t ty =>
    obtain ⟨a,h1,h2⟩:=h
    simp only [Zhy,Zml,h1,asAddr,Zyu,Zyw,Zyv,h2]
theorem Zcj (hr:fn.results=#[]) (h:R (.returned (.tuple #[])) w) {x:Exit} (hx:x=.ret∨x=.normal):bodyPost P fn R x (actOf n e) w:=by
  have:(results fn (actOf n e).tmps).run P w=.ok (.tuple #[]) w:=by simp [results,hr]
  rcases hx with rfl | rfl <;> exact⟨rfl,_,this,h⟩
theorem Zp {r:ResultVar} {v:Value} (hr:fn.results=#[r]) (h1:Zeb P n e w r v) (h:R (.returned v) w) {x:Exit} (hx:x=.ret∨x=.normal):bodyPost P fn R x (actOf n e) w:=by
  have:(results fn (actOf n e).tmps).run P w=.ok v w:=by
    have:=Zhz h1
    rw [Zmm,hr]
    simp only [List.mapM_toArray,List.mapM_cons,List.mapM_nil,Zyu,Sem.run_map,Zhz h1,Zyv,Zyw]
    rfl
  rcases hx with rfl | rfl <;> exact⟨rfl,_,this,h⟩
theorem Jo {r s:ResultVar} {v u:Value} (hr:fn.results=#[r,s]) (h1:Zeb P n e w r v) (h2:Zeb P n e w s u) (h:R (.returned (.tuple #[v,u])) w) {x:Exit} (hx:x=.ret∨x=.normal) :
    bodyPost P fn R x (actOf n e) w:=by
  have:(results fn (actOf n e).tmps).run P w=.ok (.tuple #[v,u]) w:=by
    rw [Zmm,hr]
    simp only [List.mapM_toArray,List.mapM_cons,List.mapM_nil,Zyu,Sem.run_map,Zhz h1,Zhz h2,Zyv,Zyw]
    rfl
  rcases hx with rfl | rfl <;> exact⟨rfl,_,this,h⟩
theorem Zi {t:Nat} {v:Value} (h:ev n e (.tmp t)=v):Zeb P n e w (.tmp t) v:=h
section
variable {X:Nat→Prop} {w0:World} {M Ps:List Item}
theorem Zag (hC:Ctx X w0 w M Ps) (k:Nat) {b ty t sz:Nat} {tt:Nat} {cs:List Value} (hk:M[k]?=some (blk b ty cs)) (hT:AggT P tt sz) (hx:ev n e (.tmp t)=.pointer (some ⟨b,0,none⟩)) (hl:cs.length=sz) :
    Zeb P n e w (.cell t tt) (.agg cs.toArray) :=
  ⟨_,hx,Zd7 hT (Zdg (sz:=cs.length) (hC.getM k hk) (by simp)) hl⟩
end
end
section
variable {P:Program} {c:Code} {Q:Exit→Act→World→Prop} {n:Nat} {e:Env} {w:World}
theorem Z9 {id:Nat} {a:Act} (h:Q .normal a w):ZAm id Q (.exit id) a w:=by simp [ZAm,h]
theorem Zj {K:Act→World→Prop} {id:Nat} {a:Act} (h:Q (.exit id) a w):Exit.then K Q (.exit id) a w:=h
theorem Zo {K:Act→World→Prop} {a:Act} (h:Q .ret a w):Exit.then K Q .ret a w:=h
theorem Zd {K:Act→World→Prop} {a:Act} (h:K a w):Exit.then K Q .normal a w:=h
theorem Yd {id:Nat} {a:Act} (h:Q .ret a w):ZAm id Q .ret a w:=h
theorem Zs {id:Nat} {a:Act} (h:Q .normal a w):ZAm id Q .normal a w:=h
theorem Y9 {S:Type} (B:Nat→S→(S→Prop)→Prop) (E:S→Prop) (I:Nat→S→Env→World→Prop) (N:Nat)
    (body:∀ i s e w (next:S→Prop) (K:Act→World→Prop),i < N→I i s e w→B i s next→(∀ s' e' w',I (i+1) s' e' w'→next s'→K (actOf n e') w')→c.wp P (Exit.then K Q) (actOf n e) w)
    (last:∀ s e w (K:Act→World→Prop),I N s e w→E s→c.wp P (Exit.then K Q) (actOf n e) w)
    {s0:S} (h0:I 0 s0 e w) (hF:Yt B E N 0 s0):(Code.loop c).wp P Q (actOf n e) w:=by
  have L:∀ r i s e w,i+r=N→I i s e w→Yt B E r i s→Code.rounds P c Q (r+1) (actOf n e) w:=by
    intro r
    induction r with
    | zero =>
      intro i s e w hi hI h
      obtain rfl:i=N:=by omega
      exact last s e w _ hI h
    | succ r ih =>
      intro i s e w hi hI h
      exact body i s e w _ _ (by omega) hI h (fun s' e' w' hI' h'=>ih (i+1) s' e' w' (by omega) hI' h')
  exact wp_loop_rounds (N+1) (L N 0 s0 e w (by omega) h0 hF)
theorem X1 {S:Type} (B:S→(S→Prop)→Prop) (I:S→Env→World→Prop)
    (body:∀ s e w (next:S→Prop) (K:Act→World→Prop),I s e w→B s next→(∀ s' e' w',I s' e' w'→next s'→K (actOf n e') w')→c.wp P (Exit.then K Q) (actOf n e) w)
    {s0:S} (h0:I s0 e w) (hF:Xj B s0):(Code.loop c).wp P Q (actOf n e) w:=by
  obtain ⟨k,hF⟩:=hF
  have L:∀ k s e w,I s e w→Zhx B k s→Code.rounds P c Q k (actOf n e) w:=by
    intro k
    induction k with
    | zero=>intro s e w hI h; exact h.elim
    | succ k ih =>
      intro s e w hI h
      exact body s e w _ _ hI h (fun s' e' w' hI' h'=>ih s' e' w' hI' h')
  exact wp_loop_rounds k (L k s0 e w h0 hF)
end
end Vc
namespace Vc
open Go Go.RowKit
structure Ty (α:Type) where
  sz:Nat
  rep:α→List Value→List Nat→World→Prop
  keep:∀ {x cs fp} {w w':World}, (∀ b,b∈fp→w'.heap[b]?=w.heap[b]?)→rep x cs fp w→rep x cs fp w'
  low:∀ {x cs fp w}, rep x cs fp w→∀ b,b∈fp→b < w.heap.size
  len:∀ {x cs fp w}, rep x cs fp w→cs.length=sz
  one:∀ {x cs fp w}, rep x cs fp w→∀ u,u∈cs→u.oneCell'=true
  more:∀ {x cs fp fp' w}, rep x cs fp w→(∀ b,b∈fp→b∈fp')→(∀ b,b∈fp'→b < w.heap.size)→rep x cs fp' w
theorem Zfc {w w':World} {fp:List Nat} (h:∀ b,b∈fp→w'.heap[b]?=w.heap[b]?) (hl:∀ b,b∈fp→b < w.heap.size):∀ b,b∈fp→b < w'.heap.size:=by
  intro b hb
  have:=hl b hb
  have e:=h b hb
  rcases Zzt b w'.heap.size with hl | hl
  · exact hl
  · rw [Array.getElem?_eq_none hl,Array.getElem?_eq_getElem this] at e; cases e
def Ty.item {α:Type} (t:Ty α) (x:α) (cs:List Value) (fp:List Nat):Item where
  fp:=fp
  holds w:=t.rep x cs fp w
  keep _ _ h hw:=t.keep h hw
  low _ hw:=t.low hw
structure Enc (α:Type) where
  sz:Nat
  pos:0 < sz
  enc:α→List Value
  len:∀ x,(enc x).length=sz
  one:∀ x u,u∈enc x→u.oneCell'=true
def Enc.ty {α:Type} (E:Enc α):Ty α where
  sz:=E.sz
  rep x cs fp w:=(∀ b,b∈fp→b < w.heap.size)∧cs=E.enc x
  keep h hw:=⟨Zfc h hw.1,hw.2⟩
  low hw:=hw.1
  len hw:=hw.2 ▸ E.len _
  one hw u hu:=E.one _ u (hw.2 ▸ hu)
  more hw _ h':=⟨h',hw.2⟩
def Enc.encs {α:Type} (E:Enc α) (xs:List α):List Value:=xs.flatMap E.enc
theorem Enc.encs_len {α:Type} (E:Enc α) (xs:List α):(E.encs xs).length=xs.length * E.sz:=by
  induction xs with
  | nil=>simp [Enc.encs]
  | cons x xs ih=>simp [Enc.encs] at ih ⊢; rw [E.len,ih,Zzl]; omega
theorem Enc.encs_seg {α:Type} [Inhabited α] (E:Enc α) (xs:List α) (i:Nat) (h:i < xs.length):((E.encs xs).drop (i * E.sz)).take E.sz=E.enc (xs.getD i Zyt):=by
  induction xs generalizing i with
  | nil=>simp at h
  | cons x xs ih =>
    cases i with
    | zero =>
      simp only [Enc.encs,Zz6,ZBa,ZAn]
      rw [List.take_append_of_le_length (by rw [E.len]; exact Zy1 _),Zzz (by rw [E.len]; exact Zy1 _)]
      rfl
    | succ i =>
      simp only [Enc.encs,Zz6]
      rw [Zzl,Zzw,Zz7 (i * E.sz),← ZAo,ZAp (E.len x)]
      exact ih i (by simpa using h)
theorem Enc.encs_append {α:Type} (E:Enc α) (xs ys:List α):E.encs (xs++ys)=E.encs xs++E.encs ys:=by simp [Enc.encs]
theorem Enc.encs_one' {α:Type} (E:Enc α) (xs:List α) (u:Value) (h:u∈E.encs xs):u.oneCell'=true:=by
  simp only [Enc.encs,List.mem_flatMap] at h
  obtain ⟨x,_,hu⟩:=h
  exact E.one x u hu
def Ty.all {α:Type} (t:Ty α) (xs:List α) (cs:List Value) (fp:List Nat) (w:World):Prop :=
  (∀ b,b∈fp→b < w.heap.size)∧cs.length=xs.length * t.sz∧(∀ u,u∈cs→u.oneCell'=true)∧∀ i (h:i < xs.length),t.rep xs[i] ((cs.drop (i * t.sz)).take t.sz) fp w
def Ty.allItem {α:Type} (t:Ty α) (xs:List α) (cs:List Value) (fp:List Nat):Item where
  fp:=fp
  holds w:=t.all xs cs fp w
  keep _ _ h hw:=⟨Zfc h hw.1,hw.2.1,hw.2.2.1,fun i hi=>t.keep h (hw.2.2.2 i hi)⟩
  low _ hw:=hw.1
def Ty.sl {α : Type} (t : Ty α) : Ty (List α) where
  sz:=1
  rep xs cs fp w:=∃ v ecs,cs=[v]∧(rdr t.sz v xs.length ecs fp).holds w∧t.all xs ecs fp w
  keep h hw:=by
    obtain ⟨v,ecs,rfl,h1,h2⟩:=hw
    exact⟨v,ecs,rfl,Item.keep _ _ _ h h1,(t.allItem _ ecs _).keep _ _ h h2⟩
  low hw:=by
    obtain ⟨v,ecs,rfl,h1,h2⟩:=hw
    exact h2.1
  len hw:=by obtain ⟨v,ecs,rfl,h1,h2⟩:=hw; rfl
  one hw u hu:=by
    obtain ⟨v,ecs,rfl,⟨_,_,_,A,c,rfl,_⟩,h2⟩:=hw
    obtain rfl:u=_:=by simpa using hu
    rfl
  more:=by
    intro xs cs fp fp' w hw h h'
    obtain ⟨v,ecs,rfl,⟨a0,a1,a2,A,c,rfl,a3⟩,h2⟩:=hw
    refine⟨_,ecs,rfl,⟨h',a1,a2,A,c,rfl,fun hn=>?_⟩,h',h2.2.1,h2.2.2.1,fun i hi=>t.more (h2.2.2.2 i hi) h h'⟩
    obtain ⟨a,rfl,ha,hc⟩:=a3 hn
    exact⟨a,rfl,h _ ha,hc⟩
section
variable {α:Type} {t:Ty α} {xs:List α} {v:Value} {fp:List Nat} {w:World}
theorem Zh0 (h:t.sl.rep xs [v] fp w) (i:Nat) (hi:i < xs.length):∃ A c,v=.slice (some A) xs.length c∧∃ cs,cs.length=t.sz∧J8 w (A.add (i * t.sz)) cs∧t.rep xs[i] cs fp w:=by
  obtain ⟨v',ecs,e,⟨a0,a1,a2,A,c,rfl,a3⟩,h2⟩:=h
  obtain rfl:v=_:=by simpa using e
  obtain ⟨a,rfl,ha,hc⟩:=a3 (by omega)
  refine⟨a,c,rfl,(ecs.drop (i * t.sz)).take t.sz,t.len (h2.2.2.2 i hi),?_,h2.2.2.2 i hi⟩
  intro j u hj
  rw [Zdf]
  refine hc _ u ?_
  rw [List.getElem?_take] at hj
  split at hj
  · simpa using hj
  · cases hj
theorem Z1 (h:t.sl.rep xs [v] fp w):∃ A c,v=.slice A xs.length c:=by
  obtain ⟨v',ecs,e,⟨a0,a1,a2,A,c,rfl,a3⟩,h2⟩:=h
  obtain rfl:v=_:=by simpa using e
  exact⟨A,c,rfl⟩
theorem Xp (h:t.sl.rep xs [v] fp w):xs.length≤9223372036854775807:=by
  obtain ⟨v',ecs,e,⟨a0,a1,a2,A,c,rfl,a3⟩,h2⟩:=h
  simpa [maxLen] using a2
end
theorem Zqe {α:Type} [Inhabited α] {E:Enc α} {xs:List α} {v:Value} {fp:List Nat} {w:World} (h:E.ty.sl.rep xs [v] fp w) (i:Nat) (hi:i < xs.length) :
    ∃ A c,v=.slice (some A) xs.length c∧J8 w (A.add (i * E.sz)) (E.enc (xs.getD i Zyt)):=by
  obtain ⟨A,c,hv,cs,hl,hc,hr⟩:=Zh0 h i hi
  refine⟨A,c,hv,?_⟩
  have:xs.getD i Zyt=xs[i]:=by simp [Zzm,hi]
  rw [this]
  rwa [hr.2] at hc
theorem Zqf {w:World} {a:Addr} {seg sub:List Value} {o k:Nat} (h:J8 w a seg) (hs:(seg.drop o).take k=sub):J8 w (a.add o) sub:=by
  intro j u hj
  rw [Zdf]
  refine h _ u ?_
  rw [← hs,List.getElem?_take] at hj
  split at hj
  · simpa using hj
  · cases hj
section
variable {sz n:Nat} {ty:Nat} {v:Value} {cs:List Value} {w:World}
theorem Zfd (h:(own ty sz v n cs).holds w):cs.length=n * sz:=h.1
theorem J1 (h:(own ty sz v n cs).holds w):∃ A c,v=.slice A n c:=by
  rcases h.2 with ⟨rfl,rfl⟩ | ⟨g,cap,cur,rfl,_⟩
  · exact⟨none,0,rfl⟩
  · exact⟨_,cap,rfl⟩
theorem Zjz (h:(own ty sz v n cs).holds w) (hn:0 < n):∃ g cap,v=.slice (some ⟨g,0,none⟩) n cap∧J8 w ⟨g,0,none⟩ cs:=by
  rcases h.2 with ⟨rfl,rfl⟩ | ⟨g,cap,cur,rfl,_,hh,hc,_,hz,ht⟩
  · omega
  · refine⟨g,cap,rfl,fun j u hj=>?_⟩
    rw [Zch,cell_of_row w g _ cur ty (0,0) hh]
    rw [← ht,List.getElem?_take] at hj
    split at hj
    · simpa using hj
    · cases hj
theorem Za9 (h:(own ty sz v n cs).holds w):(rdr sz v n cs v.ownBlock.toList).holds w:=by
  refine⟨Item.low _ _ h,h.1,?_,?_⟩
  · rcases h.2 with ⟨rfl,rfl⟩ | ⟨g,cap,cur,rfl,_,hh,hc,hm,hz,ht⟩
    · simp [maxLen]
    · omega
  · obtain ⟨A,c,rfl⟩:=J1 h
    refine⟨A,c,rfl,fun hn=>?_⟩
    obtain ⟨g,cap,e,hc⟩:=Zjz h hn
    injection e with e1 e2 e3
    subst e1
    exact⟨_,rfl,by simp [Zzn],hc⟩
theorem Y2 {α:Type} {E:Enc α} {xs:List α} (h:(own ty E.sz v xs.length (E.encs xs)).holds w):E.ty.sl.rep xs [v] v.ownBlock.toList w:=by
  refine⟨v,E.encs xs,rfl,Za9 h,Item.low _ _ h,E.encs_len xs,fun u hu=>E.encs_one' xs u hu,fun i hi=>⟨Item.low _ _ h,?_⟩⟩
  have:Inhabited α:=⟨xs[i]⟩
  have e:=E.encs_seg xs i hi
  have e2:xs.getD i Zyt=xs[i]:=by simp [Zzm,hi]
  rw [e2] at e
  exact e
theorem Zcx {α:Type} {t:Ty α} {xs:List α} {fp:List Nat} (h:(own ty t.sz v xs.length cs).holds w) (ha:t.all xs cs fp w):t.sl.rep xs [v] (v.ownBlock.toList++fp) w:=by
  have hl:∀ b,b∈v.ownBlock.toList++fp→b < w.heap.size:=by
    intro b hb
    rcases Zzu.1 hb with hb | hb
    · exact Item.low _ _ h b hb
    · exact ha.1 b hb
  obtain ⟨a0,a1,a2,A,c,rfl,a3⟩:=Za9 h
  refine⟨_,cs,rfl,⟨hl,a1,a2,A,c,rfl,fun hn=>?_⟩,hl,ha.2.1,ha.2.2.1,fun i hi=>t.more (ha.2.2.2 i hi) (fun b hb=>ZA2 _ hb) hl⟩
  obtain ⟨a,rfl,hm,hc⟩:=a3 hn
  exact⟨a,rfl,ZA1 _ hm,hc⟩
theorem Zqg {α:Type} (t:Ty α) (w:World):t.all [] [] [] w:=⟨by simp,by simp,by simp,fun i hi=>absurd hi (by simp)⟩
end
end Vc
namespace Vc
open Go Go.RowKit
def Zab (P:Program) (e:Nat) (z:Value) (sz bytes:Nat):Prop:=(P.info? e).map (fun i=>(i.zero,i.size,i.bytes))=some (some z,sz,bytes)
section
variable {P:Program} {ops:Array Oper} {Q:Exit→Act→World→Prop} {n:Nat} {e:Env} {w w':World} {rest:List Oper}
variable {X:Nat→Prop} {w0:World} {M Ps:List Item}
variable {d ty:Nat} {pos:String} {af:Array Edge} {gd:Option (Nat×Bool)}
theorem X4 {a:Addr} {sz ty':Nat} {x:Operand} (seg:List Value) (hc:J8 w a seg) (hT:AggT P ty' sz) (hx:ev n e x=.pointer (some a)) (hl:seg.length=sz)
    : (execOp (ev n e) ⟨some d,.load ty' x,ty,pos,af,gd⟩).run P w=.ok (.value (.agg seg.toArray)) w :=
  (by simp [execOp,hx,Zzi,Zy4,Zd7 hT hc hl])
theorem Zav {a:Addr} {sz ty':Nat} {x:Operand} (seg:List Value) (hc:J8 w a seg) (hT:AggT P ty' sz) (hx:ev n e x=.pointer (some a)) (hl:seg.length=sz)
    (h:W P ops Q rest n (upd e d (.agg seg.toArray)) w):W P ops Q (⟨some d,.load ty' x,ty,pos,af,none⟩::rest) n e w :=
  Xd _ rfl rfl (by simp [execOp,hx,Zzi,Zy4,Zd7 hT hc hl]) h
theorem Xc {a:Addr} {ty':Nat} {x:Operand} (v:Value) (hc:J8 w a [v]) (hT:ScaT P ty') (hx:ev n e x=.pointer (some a))
    : (execOp (ev n e) ⟨some d,.load ty' x,ty,pos,af,gd⟩).run P w=.ok (.value v) w :=
  (by simp [execOp,hx,Zzi,Zy4,Ze9 hT hc])
theorem Xm {a:Addr} {ty':Nat} {x:Operand} (v:Value) (hc:J8 w a [v]) (hT:ScaT P ty') (hx:ev n e x=.pointer (some a))
    (h:W P ops Q rest n (upd e d v) w):W P ops Q (⟨some d,.load ty' x,ty,pos,af,none⟩::rest) n e w :=
  Xd _ rfl rfl (by simp [execOp,hx,Zzi,Zy4,Ze9 hT hc]) h
theorem Zb5 {t el m c:Nat} {x:Operand} {A:Option Addr} (ht:P.underlying t=some (.slice el)) (hx:ev n e x=.slice A m c)
    : (execOp (ev n e) ⟨some d,.call { callee:=.builtin .len,args:=#[x],argTypes:=#[t] }, ty,pos,af,gd⟩).run P w=.ok (.value (.int .i64 (m:Int))) w :=
  (by
    simp [execOp,resolve,invoke,builtin,hx,ZBb,Zyu,run_underlying ht,goInt])
theorem Zx {t el m c:Nat} {x:Operand} {A:Option Addr} (ht:P.underlying t=some (.slice el)) (hx:ev n e x=.slice A m c)
    (h:W P ops Q rest n (upd e d (.int .i64 (m:Int))) w):W P ops Q (⟨some d,.call { callee:=.builtin .len,args:=#[x],argTypes:=#[t] }, ty,pos,af,none⟩::rest) n e w :=
  Xd _ rfl rfl (by
    simp [execOp,resolve,invoke,builtin,hx,ZBb,Zyu,run_underlying ht,goInt]) h
theorem Xr (hC:Ctx X w0 w M Ps) {t el len sz:Nat} {l:List (Nat×Operand)} (vs:List (Nat×Value)) (cs:List Value) (hp:l.map (fun p=>(p.1,ev n e p.2))=vs)
    (hr:∀ w:World,(Instr.buildSlice t len vs.toArray).run P w=.ok (.slice (some ⟨w.heap.size,0,none⟩) len len) (w.alloc (.cells cs.toArray el))) (hl:cs.length=len * sz) (hm:len≤maxLen)
    (h:∀ b w',Bel w w'→Ctx X w0 w' (own el sz (.slice (some ⟨b,0,none⟩) len len) len cs::M) Ps→W P ops Q rest n (upd e d (.slice (some ⟨b,0,none⟩) len len)) w') :
    W P ops Q (⟨some d,.buildSlice t len l.toArray,ty,pos,af,none⟩::rest) n e w:=by
  have hB:Bel w (w.alloc (.cells cs.toArray el)):=Bel.alloc _ _
  refine Xd _ rfl rfl ?_ (h w.heap.size (w.alloc (.cells cs.toArray el)) hB (hC.push hB _ ?_ ?_))
  · have:(l.toArray.map fun (x:Nat×Operand)=>match x with | (i,x)=>(i,ev n e x))=vs.toArray:=by
      rw [← hp]; simp
    simp only [execOp,Zyu,this,hr,Zyv,Zyw]
  · exact World.ownsRow_lit w cs.toArray len (ZAq _) hm (by simpa using hl)
  · simp [own,Zzn]
theorem Zck (hC:Ctx X w0 w M Ps) {t el sz bytes:Nat} {z:Value} {x y:Operand} {kx ky:IntKind} {m:Nat} (cs:List Value) (ht:P.underlying t=some (.slice el)) (hE:Zab P el z sz bytes)
    (hx:ev n e x=.int kx (m:Int)) (hy:ev n e y=.int ky (m:Int)) (hb:m * bytes≤281474976710656) (hm:m≤281474976710656) (hcs:(madeCells z.cells (m * sz)).toList=cs)
    (h:∀ v w',Bel w w'→Ctx X w0 w' (own el sz v m cs::M) Ps→W P ops Q rest n (upd e d v) w') :
    W P ops Q (⟨some d,.makeSlice t x y,ty,pos,af,none⟩::rest) n e w:=by
  obtain ⟨i,hi,hzz⟩:=ZCa.1 hE
  simp only [Zz8] at hzz
  obtain ⟨w',hrun,r1,r2⟩:=run_make_full (P:=P) w 0 t el i z sz ht hi hzz.1 hzz.2.1 kx ky m (by rw [hzz.2.2,ZAr]; exact hb) (by unfold maxLen; omega) (ZAq _)
  have hB:Bel w w':=⟨⟨r2.os,r2.tape,r2.output,r2.size,fun k hk=>r2.block k hk (by simp)⟩,Zcf _ _ _ _ hrun⟩
  refine Xd _ rfl rfl ?_ (h _ w' hB (hC.push hB _ (hcs ▸ r1) ?_))
  · simp [execOp,hx,hy,hrun]
  · simp [own,Zzn]
theorem Zaw (hC:Ctx X w0 w M Ps) (k:Nat) {t el sz bytes nv m:Nat} {z:Value} {x y:Operand} {v u:Value} {cs cs2:List Value} {fp:List Nat}
    (ht:P.underlying t=some (.slice el)) (hE:Zab P el z sz bytes) (hzs:z.cells.size=sz) (hsz:0 < sz) (hby:0 < bytes)
    (hk:M[k]?=some (own el sz v nv cs)) (hu:(rdr sz u m cs2 fp).holds w) (h1:∀ q,q∈cs2→q.oneCell'=true) (hx:ev n e x=v) (hy:ev n e y=u) (hb:(nv+m) * bytes≤140737488355328)
    (h:∀ v' w',Ctx X w0 w' (M.set k (own el sz v' (nv+m) (cs++cs2))) Ps→W P ops Q rest n (upd e d v') w') :
    W P ops Q (⟨some d,.call { callee:=.builtin .append,args:=#[x,y],argTypes:=#[t,t] }, ty,pos,af,none⟩::rest) n e w:=by
  obtain ⟨i0,hi,hzz⟩:=ZCa.1 hE
  simp only [Zz8] at hzz
  have HO:w.ownsRow 0 el sz v nv cs:=hC.getM k hk
  obtain ⟨hu0,hu1,hu2,A,c,rfl,hu3⟩:=hu
  have hlen:nv+m≤140737488355328:=Zy6 (Nat.le_mul_of_pos_right _ hby) hb
  have hrun:∃ v1 w1,(ZBc #[t,t] ty #[v,.slice A m c]).run P w=.ok v1 w1∧w1.ownsRow 0 el sz v1 (nv+m) (cs++cs2)∧w.grownBy w1 v.ownBlock∧(v1.ownBlock=v.ownBlock∨v1.ownBlock=some w.heap.size):=by
    rcases ZBd m with h0 | h0
    · subst h0
      obtain rfl:cs2=[]:=List.eq_nil_of_length_eq_zero (by simpa using hu1)
      refine⟨v,w,?_,by simpa using HO,World.grownBy.refl w _,.inl rfl⟩
      rcases HO.2 with ⟨rfl,hn⟩ | ⟨g,cap,cur,rfl,_,_,hnc,_⟩
      · cases A <;> simp [ZBc,run_underlying ht,Go.sizeOf,typeInfo,hi,Builtin.lenOf,ZCc,loadCells,loadCellsFrom]
      · cases A <;> simp [ZBc,run_underlying ht,Go.sizeOf,typeInfo,hi,Builtin.lenOf,ZCc,hnc,storeCells,loadCells,loadCellsFrom]
    · obtain ⟨a,rfl,_,hcells⟩:=hu3 h0
      obtain ⟨v1,w1,hr,h2,h3,_,h5⟩:=run_append_own_at (P:=P) w 0 t ty el i0 z sz bytes ht hi hzz.1 hzz.2.1 hzz.2.2 hzs hsz v nv cs HO a m c cs2 hu1 hcells h1 (by unfold maxLen; omega) hb (ZAq _)
      exact⟨v1,w1,hr,h2,h3,h5⟩
  obtain ⟨v1,w1,hr,hown,hg,hat⟩:=hrun
  refine Xd v1 rfl rfl ?_ (h v1 w1 (hC.turn k hk hg.os hg.tape hg.output hg.size (Zcf _ _ _ _ hr) (fun b hb' hnb=>hg.block b hb' ?_) hown ?_))
  · simp only [execOp,resolve,invoke,builtin,Zyu,Zyw,Zyv,List.map_toArray,Zy8,List.map_nil,hx,hy,hr]
  · intro e
    exact hnb (by simp [own,← e])
  · intro b hbm
    simp only [own] at hbm ⊢
    rcases hat with hat | hat
    · rw [hat] at hbm; exact .inl hbm
    · rw [hat] at hbm
      have:b=w.heap.size:=by simpa using hbm
      omega
theorem Zh1 {P : Program} {w : World} {t2 sz nv ty' ksz j g cap : Nat} {cs vc : List Value} {v : Value} (hT : X8 P ty' ksz) (h : (own t2 sz (.slice (some ⟨g, 0, none⟩) nv cap) nv cs).holds w)
    (hv:v.cells.toList=vc) (hl:vc.length=ksz) (h1:vc.all (·.oneCell')=true) (ho:j+ksz≤cs.length) :
    ∃ w', (storeVar ty' ⟨g, j, none⟩ v).run P w = .ok () w' ∧ (own t2 sz (.slice (some ⟨g, 0, none⟩) nv cap) nv (Xx cs j vc)).holds w' ∧ w'.os = w.os ∧ w'.tape = w.tape ∧ w'.output = w.output ∧ w'.heap.size = w.heap.size ∧
      ∀ k,k≠g→w'.heap[k]?=w.heap[k]?:=by
  have hs:v.cells.size=ksz:=by rw [← ZAh,hv,hl]
  have hlen:cs.length=nv * sz:=Zfd h
  rcases h.2 with ⟨e,_⟩ | ⟨g',cap',cur,e,_,hh,hc,hm,hz,ht⟩
  · cases e
  · injection e with e1 e2 e3
    injection e1 with e1
    injection e1 with e1
    subst e1 e3
    have hcl:nv * sz≤cur.size:=by rw [hz]; exact Nat.mul_le_mul_right _ hc
    have hr:=run_storeCells_at (P:=P) g j t2 vc 0 cur w hh (by simp; omega) (by simpa using h1)
    refine⟨w.setRow g (cur.toList.take j++vc++cur.toList.drop (j+vc.length)).toArray,?_,?_,rfl,rfl,rfl,?_,?_⟩
    · unfold storeVar
      simp only [Zyu,Za1 hT,Zyv,hs,ne_eq,not_true_eq_false,if_false,hv]
      simpa using hr
    · refine⟨?_,.inr ⟨g,cap,_,rfl,ZAq _,setRow_heap w g cur _ t2 _ hh,hc,hm,?_,?_⟩⟩
      · simp [Xx]; omega
      · simp; omega
      · rw [← ht]
        simp only [Xx,List.toList_toArray]
        apply List.ext_getElem?
        intro q
        simp only [List.getElem?_take,List.getElem?_append,ZBe,List.length_take,List.getElem?_drop,ZAh]
        have hmin1:min j cur.size=j:=by omega
        have hmin2:min j (min (nv * sz) cur.size)=j:=by omega
        simp only [hmin1,hmin2]
        by_cases h1:q < j
        · simp [h1,show q < j+vc.length by omega,show q < nv * sz by omega]
        · by_cases h2:q < j+vc.length
          · simp [h1,h2,show q < nv * sz by omega]
          · by_cases h3:q < nv * sz
            · simp [h1,h2,h3]
              omega
            · simp [h1,h2,h3]
              omega
    · simp
    · intro k hk
      exact setRow_other w g k _ hk
theorem Zec (hC:Ctx X w0 w M Ps) (k:Nat) {t2 sz nv ty' ksz j g cap:Nat} {x y:Operand} {cs:List Value} {v u:Value} (vc cs':List Value) (hk:M[k]?=some (own t2 sz u nv cs)) (hu:u=.slice (some ⟨g,0,none⟩) nv cap) (hT:X8 P ty' ksz)
    (hx:ev n e x=.pointer (some ⟨g,j,none⟩)) (hy:ev n e y=v) (hv:v.cells.toList=vc) (hl:vc.length=ksz) (h1:vc.all (·.oneCell')=true) (ho:j+ksz≤cs.length) (hcs:Xx cs j vc=cs')
    (h:∀ w',Ctx X w0 w' (M.set k (own t2 sz u nv cs')) Ps→W P ops Q rest n e w') :
    W P ops Q (⟨none,.store ty' x y,ty,pos,af,none⟩::rest) n e w:=by
  subst hu
  obtain ⟨w',hr,hb,hos,hta,hou,hsz,hother⟩:=Zh1 (P:=P) hT (hC.getM k hk) hv hl h1 ho
  refine Zcv rfl rfl ?_ (h w' (hC.turn k hk hos hta hou (by omega) (Zcf _ _ _ _ hr) (fun c _ hc=>hother c (by simpa [own,Zzn] using hc)) (hcs ▸ hb) (fun c hc=>.inl hc)))
  simp [execOp,hx,hy,Instr.storeAt,Zy4,hr]
end
theorem Zed {α:Type} {E:Enc α} (xs:List α) (i:Nat) (x:α) (h:i < xs.length):Xx (E.encs xs) (i * E.sz) (E.enc x)=E.encs (xs.set i x):=by
  induction xs generalizing i with
  | nil=>simp at h
  | cons y xs ih =>
    cases i with
    | zero =>
      simp only [Xx,Enc.encs,Zz6,ZBa,List.take_zero,List.nil_append,ZBf,List.set_cons_zero]
      rw [E.len,ZAp (E.len y)]
    | succ i =>
      have:=ih i (by simpa using h)
      simp only [Xx,Enc.encs,Zz6,List.set_cons_succ,E.len] at this ⊢
      rw [← this]
      have e1:(i+1) * E.sz=E.sz+i * E.sz:=by rw [Zzl,Zzw,Zz7]
      rw [e1]
      rw [List.take_append,Zzz (by rw [E.len]; omega),E.len,Nat.add_sub_cancel_left]
      rw [Nat.add_assoc,← ZAo,ZAp (E.len y)]
      simp
theorem Zcl {α:Type} {E:Enc α} (x:α) (m:Nat):(madeCells (E.enc x).toArray (m * E.sz)).toList=E.encs (Zy0 m x):=by
  apply ZBg
  · simp [madeCells,E.encs_len]
  · intro i h1 h2
    have hpos:=E.pos
    have hi:i < m * E.sz:=by simpa [madeCells] using h1
    have hdm:i / E.sz < m:=by rw [Nat.div_lt_iff_lt_mul hpos]; exact hi
    have:Inhabited α:=⟨x⟩
    have hs:=E.encs_seg (Zy0 m x) (i / E.sz) (by simpa using hdm)
    have hx:(Zy0 m x).getD (i / E.sz) Zyt=x:=by simp [Zzm,hdm]
    rw [hx] at hs
    have hmod:i % E.sz < E.sz:=Nat.mod_lt _ hpos
    have h3:(E.enc x)[i % E.sz]?=(E.encs (Zy0 m x))[i]?:=by
      rw [← hs,List.getElem?_take,if_pos hmod,List.getElem?_drop]
      congr 1
      rw [ZAr]; exact Nat.div_add_mod i E.sz
    rw [List.getElem?_eq_getElem h2,List.getElem?_eq_getElem (by rw [E.len]; exact hmod)] at h3
    injection h3 with h3
    rw [← h3]
    simp [madeCells,E.len,hmod]
end Vc
namespace Vc
open Go Go.RowKit
def Yo (n bytes:Nat):Prop:=n * bytes≤140737488355328
theorem tr {α:Sort _} {a b c:α} (h:a=b) (k:b=c):a=c:=h.trans k
theorem Jp {b:Bool} (h:(!b)=true):b=false:=by simpa using h
theorem Jq {b:Bool} (h:(!b)=false):b=true:=by simpa using h
theorem Xz {b:Bool} (h:b=false):¬ b=true:=by simp [h]
theorem ct {p:Prop} [Decidable p] (h:decide p=true):p:=of_decide_eq_true h
theorem cf {p:Prop} [Decidable p] (h:decide p=false):¬ p:=of_decide_eq_false h
theorem ift {p:Prop} [Decidable p] {A B:Prop} (h:if p then A else B) (hp:p):A:=by rw [if_pos hp] at h; exact h
theorem Zk {p:Prop} [Decidable p] {A B:Prop} (h:if p then A else B) (hp:¬ p):B:=by rw [if_neg hp] at h; exact h
theorem Xh (b:Bool) {G:Prop} (t:b=true→G) (f:b=false→G):G:=by cases b; exact f rfl; exact t rfl
theorem Zh2 {M:List Item} {idx:List Nat} {M':List Item} (h:idx.map (M[·]?)=M'.map some):∀ j (hj:j < M'.length),∃ k,idx[j]?=some k∧M[k]?=some M'[j]:=by
  intro j hj
  have hlen:idx.length=M'.length:=by have:=congrArg Zzx h; simpa using this
  have hj':j < idx.length:=by omega
  refine⟨idx[j],List.getElem?_eq_getElem hj',?_⟩
  have:=congrArg (·[j]?) h
  simpa [hj,hj'] using this
namespace Ctx
variable {X:Nat→Prop} {w0 w w':World} {M Ps:List Item}
theorem sel (h:Ctx X w0 w M Ps) (idx jdx:List Nat) {M' Ps':List Item} (hn:idx.Nodup) (hm:idx.map (M[·]?)=M'.map some) (hp:jdx.map (Ps[·]?)=Ps'.map some):Ctx X w0 w M' Ps':=by
  have hlen:idx.length=M'.length:=by have:=congrArg Zzx hm; simpa using this
  have memM:∀ it,it∈M'→it∈M:=by
    intro it hi
    obtain ⟨j,hj,rfl⟩:=Zzo hi
    obtain ⟨k,_,hk⟩:=Zh2 hm j hj
    exact List.mem_of_getElem? hk
  have memP:∀ it,it∈Ps'→it∈Ps:=by
    intro it hi
    obtain ⟨j,hj,rfl⟩:=Zzo hi
    obtain ⟨k,_,hk⟩:=Zh2 hp j hj
    exact List.mem_of_getElem? hk
  refine { h with m:=fun it hi=>h.m it (memM it hi),p:=fun it hi=>h.p it (memP it hi),mfp:=fun it hi=>h.mfp it (memM it hi),dis:=?_,pd:=fun it hi b hb m hm'=>h.pd it (memP it hi) b hb m (memM m hm') }
  rw [Zza]
  intro i j hi hj hij x hx hx'
  obtain ⟨k,hk1,hk2⟩:=Zh2 hm i hi
  obtain ⟨l,hl1,hl2⟩:=Zh2 hm j hj
  have hne:k≠l:=by
    intro e
    subst e
    have hi':i < idx.length:=by omega
    have hj':j < idx.length:=by omega
    rw [List.getElem?_eq_getElem hi'] at hk1
    rw [List.getElem?_eq_getElem hj'] at hl1
    injection hk1 with hk1
    injection hl1 with hl1
    have:=(Zza.1 hn) i j hi' hj' hij
    exact this (hk1.trans hl1.symm)
  have hkl:k < M.length:=(List.getElem?_eq_some_iff.1 hk2).1
  have hll:l < M.length:=(List.getElem?_eq_some_iff.1 hl2).1
  have ek:M[k]=M'[i]:=(List.getElem?_eq_some_iff.1 hk2).2
  have el:M[l]=M'[j]:=(List.getElem?_eq_some_iff.1 hl2).2
  rcases ZA3 hne with hlt | hlt
  · exact(Zza.1 h.dis k l hkl hll hlt) x (ek ▸ hx) (el ▸ hx')
  · exact(Zza.1 h.dis l k hll hkl hlt) x (el ▸ hx') (ek ▸ hx)
theorem pushNil (h:Ctx X w0 w M Ps) (t sz:Nat):Ctx X w0 w (own t sz (.slice none 0 0) 0 []::M) Ps :=
  h.push (Bel.refl _) _ ⟨by simp,.inl ⟨rfl,rfl⟩⟩ (by simp [own,Zzn])
theorem pushR (h:Ctx X w0 w M Ps) (hb:Bel w w') (it:Item) (hi:it.holds w') (hf:∀ b,b∈it.fp→w.heap.size≤b∨∃ jt,jt∈Ps∧b∈jt.fp):Ctx X w0 w' M (it::Ps) :=
  (h.grow hb).pushP it hi (fun b hbi m hm hbm=>by
    rcases hf b hbi with h' | ⟨jt,hj,hbj⟩
    · exact absurd (m.low w (h.m m hm) b hbm) (Zzf.2 h')
    · exact h.pd jt hj b hbj m hm hbm)
theorem pushE (h:Ctx X w0 w M Ps) (it:Item) (hi:it.holds w) (hf:it.fp=[]):Ctx X w0 w M (it::Ps):=h.pushP it hi (by simp [hf])
theorem sM (h:Ctx X w0 w M Ps) (idx:List Nat) {M':List Item} (hn:idx.Nodup) (hm:idx.map (M[·]?)=M'.map some):Ctx X w0 w M' Ps :=
  h.sel idx (Zzj Ps.length) hn hm (by apply ZBg <;> simp)
theorem sP (h:Ctx X w0 w M Ps) (jdx:List Nat) {Ps':List Item} (hp:jdx.map (Ps[·]?)=Ps'.map some):Ctx X w0 w M Ps' :=
  h.sel (Zzj M.length) jdx List.nodup_range (by apply ZBg <;> simp) hp
end Ctx
theorem Zh3 {ty sz n:Nat} {v:Value} {cs:List Value} {w:World} (h:(own ty sz v n cs).holds w):n≤9223372036854775807:=by
  have:=(Za9 h).2.2.1
  simpa [maxLen] using this
theorem Yf {α:Type} [Inhabited α] {E:Enc α} {xs:List α} {v:Value} {fp:List Nat} {w:World} {A:Addr} {n c:Nat} (h:E.ty.sl.rep xs [v] fp w) (hv:v=.slice (some A) n c) (i:Nat) (hi:i < xs.length) :
    J8 w (A.add (i * E.sz)) (E.enc (xs.getD i Zyt)):=by
  obtain ⟨A',c',hv',hc⟩:=Zqe h i hi
  rw [hv'] at hv
  injection hv with e1 e2 e3
  injection e1 with e1
  exact e1 ▸ hc
theorem Z0 {α:Type} {t:Ty α} {xs:List α} {v:Value} {fp:List Nat} {w:World} (h:t.sl.rep xs [v] fp w) (i:Nat) (hi:i < xs.length):∃ A c,v=.slice (some A) xs.length c:=by
  obtain ⟨A,c,hv,_⟩:=Zh0 h i hi
  exact⟨A,c,hv⟩
theorem Xs {α:Type} {t:Ty α} {xs:List α} {v:Value} {fp:List Nat} {w:World} {A:Addr} {n c:Nat} (h:t.sl.rep xs [v] fp w) (hv:v=.slice (some A) n c) (i:Nat) (hi:i < xs.length) :
    ∃ cs,cs.length=t.sz∧J8 w (A.add (i * t.sz)) cs∧t.rep xs[i] cs fp w:=by
  obtain ⟨A',c',hv',cs,hl,hc,hr⟩:=Zh0 h i hi
  rw [hv'] at hv
  injection hv with e1 e2 e3
  injection e1 with e1
  exact⟨cs,hl,e1 ▸ hc,hr⟩
theorem Zai {ty sz n:Nat} {v:Value} {cs:List Value} {w:World} (h:(own ty sz v n cs).holds w) (hn:0 < n):∃ g cap,v=.slice (some ⟨g,0,none⟩) n cap:=by
  obtain ⟨g,cap,hv,_⟩:=Zjz h hn
  exact⟨g,cap,hv⟩
theorem Zb6 {α:Type} [Inhabited α] {E:Enc α} {xs:List α} {ty g n c:Nat} {v:Value} {w:World} (h:(own ty E.sz v xs.length (E.encs xs)).holds w) (hv:v=.slice (some ⟨g,0,none⟩) n c) (i:Nat) (hi:i < xs.length) :
    J8 w ⟨g,i * E.sz,none⟩ (E.enc (xs.getD i Zyt)):=by
  have:=Yf (Y2 h) hv i hi
  rwa [Zch,ZBf] at this
theorem Zmn {α:Type} (t:Ty α) (w:World):t.sl.rep [] [.slice none 0 0] [] w :=
  ⟨_,[],rfl,⟨by simp,by simp,by simp,none,0,rfl,fun h=>absurd h (by simp)⟩,Zqg t w⟩
end Vc
namespace Vc
open Go Go.RowKit
def EI (k:IntKind):Enc Int:=⟨1,by decide,fun x=>[.int k x],fun _=>rfl,fun x u hu=>by obtain rfl:u=_:=ZAs.1 hu; rfl⟩
def EA (k:IntKind):Enc A8:=⟨8,by decide,A8.enc k,fun _=>rfl,fun x u hu=>by
  simp only [A8.enc,Zyz,ZAt,or_false] at hu
  rcases hu with rfl | rfl | rfl | rfl | rfl | rfl | rfl | rfl <;> rfl⟩
structure Term where
  mono:A8
  factor:Int
  deriving DecidableEq,Inhabited
def Term.enc (t:Term):List Value:=A8.enc .u8 t.mono++[.int .i64 t.factor]
def ETerm:Enc Term:=⟨9,by decide,Term.enc,fun _=>rfl,fun x u hu=>by
  simp only [Term.enc,Zzu] at hu
  rcases hu with hu | hu
  · exact(EA .u8).one _ u hu
  · obtain rfl:u=_:=ZAs.1 hu; rfl⟩
structure Form where
  terms:List Term
  deriving DecidableEq,Inhabited
structure Alg where
  degrees:List Int
  images:List Form
  deriving DecidableEq,Inhabited
structure Der where
  drop:Int
  images:List Form
  deriving DecidableEq,Inhabited
structure Desk where
  first:Alg
  second:Alg
  form:Form
  deriving DecidableEq,Inhabited
def Ty.iso {α β:Type} (f:β→α) (t:Ty α):Ty β where
  sz:=t.sz
  rep x cs fp w:=t.rep (f x) cs fp w
  keep h hw:=t.keep h hw
  low hw:=t.low hw
  len hw:=t.len hw
  one hw:=t.one hw
  more hw:=t.more hw
def Ty.pair {α β : Type} (s : Ty α) (t : Ty β) : Ty (α × β) where
  sz:=s.sz+t.sz
  rep x cs fp w:=∃ c1 c2,cs=c1++c2∧s.rep x.1 c1 fp w∧t.rep x.2 c2 fp w
  keep h hw:=by obtain ⟨c1,c2,e,h1,h2⟩:=hw; exact⟨c1,c2,e,s.keep h h1,t.keep h h2⟩
  low hw:=by obtain ⟨c1,c2,e,h1,h2⟩:=hw; exact s.low h1
  len hw:=by obtain ⟨c1,c2,rfl,h1,h2⟩:=hw; rw [ZBe,s.len h1,t.len h2]
  one hw u hu:=by
    obtain ⟨c1,c2,rfl,h1,h2⟩:=hw
    rcases Zzu.1 hu with hu | hu
    · exact s.one h1 u hu
    · exact t.one h2 u hu
  more hw h h':=by obtain ⟨c1,c2,e,h1,h2⟩:=hw; exact⟨c1,c2,e,s.more h1 h h',t.more h2 h h'⟩
theorem Zmo {α β:Type} {s:Ty α} {t:Ty β} {x:α×β} {c1 c2:List Value} {fp:List Nat} {w:World} (h:(Ty.pair s t).rep x (c1++c2) fp w) (hl:c1.length=s.sz):s.rep x.1 c1 fp w∧t.rep x.2 c2 fp w:=by
  obtain ⟨d1,d2,e,h1,h2⟩:=h
  have:=s.len h1
  obtain ⟨rfl,rfl⟩:=List.append_inj e (by omega)
  exact⟨h1,h2⟩
theorem Zj0 {α β:Type} {s:Ty α} {t:Ty β} {x:α×β} {c1 c2:List Value} {f1 f2:List Nat} {w:World} (h1:s.rep x.1 c1 f1 w) (h2:t.rep x.2 c2 f2 w):(Ty.pair s t).rep x (c1++c2) (f1++f2) w:=by
  have hl:∀ b,b∈f1++f2→b < w.heap.size:=by
    intro b hb
    rcases Zzu.1 hb with hb | hb
    · exact s.low h1 b hb
    · exact t.low h2 b hb
  exact⟨c1,c2,rfl,s.more h1 (fun b hb=>ZA1 _ hb) hl,t.more h2 (fun b hb=>ZA2 _ hb) hl⟩
abbrev TInts:Ty (List Int):=(EI .i64).ty.sl
abbrev TTerms:Ty (List Term):=ETerm.ty.sl
def TForm:Ty Form:=.iso Form.terms TTerms
abbrev TForms:Ty (List Form):=TForm.sl
def TAlg:Ty Alg:=.iso (fun a=>(a.degrees,a.images)) (.pair TInts TForms)
def TDer:Ty Der:=.iso (fun a=>(a.drop,a.images)) (.pair (EI .i64).ty TForms)
theorem Xi {x:Form} {v:Value} {fp:List Nat} {w:World} (h:TForm.rep x [v] fp w):TTerms.rep x.terms [v] fp w:=h
theorem Yq {ts:List Term} {v:Value} {fp:List Nat} {w:World} (h:TTerms.rep ts [v] fp w):TForm.rep ⟨ts⟩ [v] fp w:=h
theorem Yw {x:Alg} {v u:Value} {fp:List Nat} {w:World} (h:TAlg.rep x [v,u] fp w):TInts.rep x.degrees [v] fp w∧TForms.rep x.images [u] fp w:=Zmo (c1:=[v]) (c2:=[u]) h rfl
theorem Xy {a:List Int} {b:List Form} {v u:Value} {f1 f2:List Nat} {w:World} (h1:TInts.rep a [v] f1 w) (h2:TForms.rep b [u] f2 w):TAlg.rep ⟨a,b⟩ [v,u] (f1++f2) w:=Zj0 (c1:=[v]) (c2:=[u]) h1 h2
theorem Zb7 {x:Der} {v u:Value} {fp:List Nat} {w:World} (h:TDer.rep x [v,u] fp w):v=.int .i64 x.drop∧TForms.rep x.images [u] fp w:=by
  have:=Zmo (c1:=[v]) (c2:=[u]) h rfl
  exact⟨by have:=this.1.2; simpa [EI] using this,this.2⟩
theorem Zh4 {d:Int} {b:List Form} {u:Value} {f2:List Nat} {w:World} (h2:TForms.rep b [u] f2 w):TDer.rep ⟨d,b⟩ [.int .i64 d,u] f2 w :=
  Zj0 (s:=(EI .i64).ty) (t:=TForms) (x:=(d,b)) (c1:=[.int .i64 d]) (c2:=[u]) (f1:=[]) ⟨by simp,rfl⟩ h2
end Vc
namespace Vc
open Go Go.RowKit
structure PreW (R:World→World→Prop):Prop where
  refl:∀ w,R w w
  trans:∀ {a b c}, R a b→R b c→R a c
theorem Z2:PreW Bel:=⟨Bel.refl,Bel.trans⟩
structure BelN (N:Nat) (w w':World):Prop where
  os:w'.os=w.os
  tape:w'.tape=w.tape
  output:w'.output=w.output
  size:w.heap.size≤w'.heap.size
  drawn:w.drawn≤w'.drawn
  old:∀ c,c < N→w'.heap[c]?=w.heap[c]?
theorem Yb (N:Nat):PreW (BelN N):=⟨fun w=>⟨rfl,rfl,rfl,Zy1 _,Zy1 _,fun _ _=>rfl⟩,fun h k=>⟨k.os.trans h.os,k.tape.trans h.tape,k.output.trans h.output,Zy6 h.size k.size,Zy6 h.drawn k.drawn,fun c hc=>(k.old c hc).trans (h.old c hc)⟩⟩
def Qf:Exit→Act→World→Prop:=fun _ _ _=>False
section
variable {R:World→World→Prop} {P:Program} {ops:Array Oper} {n:Nat} {md:Zz0}
def AEd (R : World → World → Prop) (P : Program) (md : Zz0) (ops : Array Oper) (Q : Exit → Act → World → Prop) (m : Nat) : Nat → Array Bool → Act → World → Prop
  | 0,listed,a,w=>Zy5 md ops listed=[]∧Q .normal a w
  | f + 1, listed, a, w => (Zy5 md ops listed = [] → Q .normal a w) ∧
    ∀ i∈Zy5 md ops listed,wpOp P ops Qf i (fun a' w'=>(i < m→R w w')∧AEd R P md ops Q m f (listed.setIfInBounds i true) a' w') a w
theorem Zqh {o:Oper} {a:Act} {w:World} {K:Act→World→Prop} {Q:Exit→Act→World→Prop} (h:o.wp P a w K Qf):o.wp P a w K Q:=by
  unfold Zzg at *
  generalize (execOp a.eval o).run P w=r at *
  cases r with
  | ok x w' =>
    cases x <;> simp only [Zzq] at h ⊢ <;> first
      | exact h
      | exact h.elim
      | exact h.mono (fun e w'' he=>by cases e <;> first | exact he | exact he.elim | (obtain ⟨_,_,he⟩:=he; exact he.elim))
  | halt x w'=>cases x <;> simp only [Zzq] at h ⊢ <;> first | exact h.elim | exact h
theorem Zqi {i:Nat} {a:Act} {w:World} {K:Act→World→Prop} {Q:Exit→Act→World→Prop} (h:wpOp P ops Qf i K a w):wpOp P ops Q i K a w:=by
  unfold wpOp at *
  split
  · rename_i ho; simpa [ho] using h
  · rename_i o ho
    simp only [ho] at h
    split
    · rename_i hw
      simp only [hw,if_true] at h
      rcases h with h | ⟨_,_,_,h⟩
      · exact .inl (Zqh h)
      · exact h.elim
    · rename_i hw
      simpa [hw] using h
theorem Zmp {Q:Exit→Act→World→Prop} {m:Nat}:∀ f listed a w,AEd R P md ops Q m f listed a w→wpAny P md ops Q f listed a w:=by
  intro f
  induction f with
  | zero=>intro listed a w h; exact h
  | succ f ih =>
    intro listed a w h
    exact⟨h.1,fun i hi=>Zqi (wpOp_mono (fun a' w' hA=>ih _ _ _ hA.2) (h.2 i hi))⟩
theorem ready_mem {listed:Array Bool} {i:Nat}:i∈Zy5 md ops listed↔i < ops.size∧listed.getD i true=false∧∃ o,ops[i]?=some o∧∀ x∈o.after,Zzc md x=true→listed.getD x.on false=true:=by
  unfold Zy5
  simp only [List.mem_filter,Zz9,Zzd,ZBi]
  constructor
  · rintro ⟨h1,h2,h3⟩
    refine⟨h1,h2,?_⟩
    rw [Array.getElem?_eq_getElem h1] at h3 ⊢
    refine⟨_,rfl,fun x hx hb=>?_⟩
    simp only [ZAa,ZAu] at h3
    have:=(ZAv.1 h3) x hx
    simpa [hb] using this
  · rintro ⟨h1,h2,o,ho,h3⟩
    refine⟨h1,h2,?_⟩
    rw [ho]
    simp only [ZAa,ZAu]
    refine ZAv.2 fun x hx=>?_
    cases hb:Zzc md x with
    | false=>rfl
    | true=>simpa using h3 x hx hb
theorem Zh5 {l:Array Bool} {i j:Nat} {d:Bool}:(l.setIfInBounds i true).getD j d=if i=j∧j < l.size then true else l.getD j d:=by
  simp only [Array.getD_eq_getD_getElem?,Array.getElem?_setIfInBounds]
  by_cases h:i=j
  · subst h
    by_cases h2:i < l.size
    · simp [h2]
    · simp [h2]
  · simp [h]
theorem Zee {listed:Array Bool} {i j:Nat} (h:j∈Zy5 md ops listed) (hij:i≠j):j∈Zy5 md ops (listed.setIfInBounds i true):=by
  obtain ⟨h1,h2,o,ho,h3⟩:=ready_mem.1 h
  refine ready_mem.2 ⟨h1,?_,o,ho,fun x hx hb=>?_⟩
  · rw [Zh5,if_neg (fun e=>hij e.1)]; exact h2
  · rw [Zh5]; split
    · rfl
    · exact h3 x hx hb
def Steady (R:World→World→Prop) (P:Program) (ops:Array Oper) (o:Oper) (v:Value) (a:Act) (w:World):Prop :=
  ∀ w',R w w'→(Zyx o (yielded ops a.tmps)=true∧(execOp a.eval o).run P w'=.ok (.value v) w')∨(Zyx o (yielded ops a.tmps)=false∧v=undef)
theorem Steady.op (hR:PreW R) {i:Nat} {o:Oper} {v:Value} {a:Act} {w:World} {K:Act→World→Prop} (h:Steady R P ops o v a w) (ho:ops[i]?=some o) (hK:K (a.put o.dst v) w):wpOp P ops Qf i K a w:=by
  unfold wpOp
  simp only [ho]
  rcases h w (hR.refl _) with ⟨hw,hr⟩ | ⟨hw,rfl⟩
  · rw [if_pos hw]
    refine .inl ?_
    unfold Zzg
    rw [hr,ZAe]
    exact hK
  · rw [if_neg (by simp [hw])]
    exact hK
theorem Steady.later (hR:PreW R) {o:Oper} {v:Value} {a:Act} {w w':World} (h:Steady R P ops o v a w) (hb:R w w'):Steady R P ops o v a w' :=
  fun w'' hb'=>h w'' (hR.trans hb hb')
theorem Steady.same {o:Oper} {v:Value} {a a':Act} {w:World} (h:Steady R P ops o v a w) (he:execOp a'.eval o=execOp a.eval o) (hw:Zyx o (yielded ops a'.tmps)=Zyx o (yielded ops a.tmps)):Steady R P ops o v a' w:=by
  intro w' hb
  rw [he,hw]
  exact h w' hb
theorem Zmq {j : Nat} {oi oj : Oper} {v : Value} {a : Act} {w : World} {K : Act → World → Prop} (hj : ops[j]? = some oj) (hap : oi.apart ops oj = true) (hsi : ∀ cs b, oi.op ≠ .select cs b) (hsj : ∀ cs b, oj.op ≠ .select cs b)
    (h:wpOp P ops Qf j K (a.put oi.dst v) w) :
    wpOp P ops Qf j (fun a' w'=>(∀ w1,Steady R P ops oi v a w1→Steady R P ops oi v a' w1)∧K (a'.put oi.dst v) w') a w:=by
  obtain ⟨h1,h2,h3⟩:=Oper.apart_spec hap
  have keep:∀ u w1,Steady R P ops oi v a w1→Steady R P ops oi v (a.put oj.dst u) w1:=fun u w1 hy =>
    hy.same (execOp_put oi hsi a oj.dst u h3) (wanted_put oi a oj.dst u h3)
  have keepD:∀ d u w1,Steady R P ops oi v a w1→Steady R P ops oi v ({ a with defers:=d::a.defers }.put oj.dst u) w1:=fun d u w1 hy =>
    (Steady.same (a':={ a with defers:=d::a.defers }) hy rfl rfl).same (execOp_put oi hsi _ oj.dst u h3) (wanted_put oi _ oj.dst u h3)
  unfold wpOp at *
  simp only [hj] at *
  rw [wanted_put oj a oi.dst v h1] at h
  split
  · rename_i hw
    simp only [hw,if_true] at h
    rcases h with h | ⟨_,_,_,h⟩
    case inr=>exact h.elim
    refine .inl ?_
    unfold Zzg at *
    rw [execOp_put oj hsj a oi.dst v h1] at h
    generalize (execOp a.eval oj).run P w=r at *
    cases r with
    | ok x w' =>
      cases x <;> simp only [Zzq] at h ⊢ <;> first
        | exact h.elim
        | (rw [Act.put_defers] at h; exact⟨fun w1 hy=>keepD _ _ w1 hy,by rw [← ZAb _ _ _ h2]; exact h⟩)
        | exact⟨fun w1 hy=>keep _ w1 hy,by rw [← ZAb a v _ h2]; exact h⟩
        | exact h.mono (fun e w'' he=>by cases e <;> first | exact⟨fun w1 hy=>keep _ w1 hy,by rw [← ZAb a v _ h2]; exact he⟩ | exact he.elim | (obtain ⟨_,_,he⟩:=he; exact he.elim))
        | exact h.mono (fun u w'' he=>⟨fun w1 hy=>keep _ w1 hy,by rw [← ZAb a v _ h2]; exact he⟩)
    | halt x w'=>cases x <;> simp only [Zzq] at h ⊢ <;> first | exact h.elim | exact h
  · rename_i hw
    simp only [hw] at h
    exact⟨fun w1 hy=>keep _ w1 hy,by rw [← ZAb a v _ h2]; simpa using h⟩
def Zcy (o:Oper):Bool:=match o.op with | .select ..=>false | _=>true
theorem Zh6 {o:Oper} (h:Zcy o=true):∀ cs b,o.op≠.select cs b:=by
  intro cs b he
  unfold Zcy at h
  rw [he] at h
  cases h
def Jv (md : Zz0) (ops : Array Oper) (i : Nat) : Nat → Nat → Bool
  | 0,_=>false
  | f + 1, j => match ops[j]? with
    | none=>false
    | some oj=>oj.after.any fun x=>Zzc md x && (x.on == i || Jv md ops i f x.on)
def closed (md : Zz0) (ops : Array Oper) (listed : Array Bool) : Bool :=
  (Zzj ops.size).all fun j=>match ops[j]? with
    | none=>true
    | some oj=>!listed.getD j false || oj.after.all fun x=>!Zzc md x || listed.getD x.on false
structure AE (R:World→World→Prop) (P:Program) (md:Zz0) (ops:Array Oper) (Q:Exit→Act→World→Prop) (m n:Nat) (f:Nat) (listed:Array Bool) (e:Env) (w:World):Prop where
  out:closed md ops listed=true→AEd R P md ops Q m f listed (actOf n e) w
theorem closed_spec {listed:Array Bool}:closed md ops listed=true↔∀ j oj,ops[j]?=some oj→listed.getD j false=true→∀ x∈oj.after,Zzc md x=true→listed.getD x.on false=true:=by
  unfold closed
  rw [Zzr]
  constructor
  · intro h j oj hj hl x hx hb
    have hlt:j < ops.size:=(Array.getElem?_eq_some_iff.1 hj).1
    have:=h j (Zz9.2 hlt)
    rw [hj] at this
    simp only [hl,Bool.not_true,Bool.false_or] at this
    have:=ZAv.1 this x hx
    simpa [hb] using this
  · intro h j hj
    have hlt:=Zz9.1 hj
    rw [Array.getElem?_eq_getElem hlt]
    simp only [Zzs,ZBi]
    by_cases hl:listed.getD j false=true
    · refine .inr (ZAv.2 fun x hx=>?_)
      cases hb:Zzc md x with
      | false=>rfl
      | true=>simpa using h j _ (Array.getElem?_eq_getElem hlt) hl x hx hb
    · exact .inl (by simpa using hl)
theorem Zh7 {listed : Array Bool} (hc : closed md ops listed = true) {i : Nat} : ∀ f j oj, ops[j]? = some oj → (∀ x ∈ oj.after, Zzc md x = true → listed.getD x.on false = true) → Jv md ops i f j = true → listed.getD i false = true := by
  intro f
  induction f with
  | zero=>intro j oj hj h hw; simp [Jv] at hw
  | succ f ih =>
    intro j oj hj h hw
    unfold Jv at hw
    rw [hj] at hw
    simp only [ZBj,Zzd,Zzs,beq_iff_eq] at hw
    obtain ⟨x,hx,hb,hw⟩:=hw
    have hl:=h x hx hb
    rcases hw with hw | hw
    · rw [← hw]; exact hl
    · cases hq:ops[x.on]? with
      | none =>
        cases f with
        | zero=>simp [Jv] at hw
        | succ f=>simp [Jv,hq] at hw
      | some oq=>exact ih x.on oq hq (closed_spec.1 hc x.on oq hq hl) hw
theorem Zef {listed:Array Bool} {j:Nat} (hc:closed md ops listed=true) (hj:j∈Zy5 md ops listed):closed md ops (listed.setIfInBounds j true)=true:=by
  obtain ⟨hjs,hjl,oj,hoj,hja⟩:=ready_mem.1 hj
  refine closed_spec.2 fun q oq hq hl x hx hb=>?_
  rw [Zh5]
  split
  · rfl
  · rw [Zh5] at hl
    split at hl
    · rename_i h1
      obtain ⟨rfl,_⟩:=h1
      rw [hoj] at hq
      injection hq with hq
      subst hq
      exact hja x hx hb
    · exact closed_spec.1 hc q oq hq hl x hx hb
def Za2 (md : Zz0) (ops : Array Oper) (m i : Nat) : Bool :=
  match ops[i]? with
  | none=>false
  | some oi => Zcy oi && (Zzj ops.size).all fun j => match ops[j]? with
    | none=>false
    | some oj=>j == i || Jv md ops i ops.size j || Jv md ops j ops.size i || (decide (j < m) && Zcy oj && oi.apart ops oj)
theorem Zmr {m i:Nat} {oi:Oper} (h:Za2 md ops m i=true) (ho:ops[i]?=some oi):Zcy oi=true∧∀ j oj,ops[j]?=some oj→j≠i→Jv md ops i ops.size j=false→Jv md ops j ops.size i=false→j < m∧Zcy oj=true∧oi.apart ops oj=true:=by
  unfold Za2 at h
  rw [ho] at h
  simp only [Zzd,Zzr,Zz9] at h
  refine⟨h.1,fun j oj hj hne hx hx'=>?_⟩
  have hlt:j < ops.size:=(Array.getElem?_eq_some_iff.1 hj).1
  have h2:=h.2 j hlt
  rw [hj] at h2
  simp only [Zzs,Zzd,beq_iff_eq,decide_eq_true_eq,hx,hx',ZAk,or_false] at h2
  rcases h2 with h2 | ⟨⟨h2,h3⟩,h4⟩
  · exact absurd h2 hne
  · exact⟨h2,h3,h4⟩
theorem Zj1 {i:Nat}:∀ f g j,f≤g→Jv md ops i f j=true→Jv md ops i g j=true:=by
  intro f
  induction f with
  | zero=>intro g j _ h; simp [Jv] at h
  | succ f ih =>
    intro g j hg h
    obtain ⟨g,rfl⟩:∃ g',g=g'+1:=⟨g - 1,by omega⟩
    unfold Jv at h ⊢
    split at h
    · cases h
    · rename_i oj hj
      rw [ZBj] at h ⊢
      obtain ⟨x,hx,hb⟩:=h
      refine⟨x,hx,?_⟩
      rw [Zzd,Zzs] at hb ⊢
      exact⟨hb.1,hb.2.imp id (ih g _ (by omega))⟩
def Zms (rows:List Nat) (j:Nat) (o:Oper):Nat:=o.after.toList.foldr (fun x r=>if Zzc .any x && Zy3 x.on j then 2 ^ x.on ||| (rows.getD x.on 0 ||| r) else r) 0
def Zh8 (l:List Oper) (rows:List Nat):Bool:=(Zzj l.length).all fun j=>match l[j]? with
  | none=>true
  | some o=>rows.getD j 0 == Zms rows j o
theorem Zqj {rows : List Nat} {j i : Nat} {o : Oper} (h : (Zms rows j o).testBit i = true) : ∃ x, x ∈ o.after ∧ Zzc .any x = true ∧ x.on < j ∧ (x.on = i ∨ (rows.getD x.on 0).testBit i = true) := by
  have key:∀ l:List Edge,(l.foldr (fun x r=>if Zzc .any x && Zy3 x.on j then 2 ^ x.on ||| (rows.getD x.on 0 ||| r) else r) 0).testBit i=true→∃ x,x∈l∧Zzc .any x=true∧x.on < j∧(x.on=i∨(rows.getD x.on 0).testBit i=true):=by
    intro l
    induction l with
    | nil=>intro h; simp at h
    | cons a l ih =>
      intro h
      rw [List.foldr_cons] at h
      split at h
      · rename_i hc
        rw [Zzd,Zze] at hc
        rw [Nat.testBit_or,Nat.testBit_or,Zzs,Zzs,Nat.testBit_two_pow,decide_eq_true_eq] at h
        rcases h with h | h | h
        · exact⟨a,by simp,hc.1,hc.2,.inl h⟩
        · exact⟨a,by simp,hc.1,hc.2,.inr h⟩
        · obtain ⟨x,hx,h'⟩:=ih h
          exact⟨x,by simp [hx],h'⟩
      · obtain ⟨x,hx,h'⟩:=ih h
        exact⟨x,by simp [hx],h'⟩
  obtain ⟨x,hx,h'⟩:=key _ h
  exact⟨x,by simpa using hx,h'⟩
theorem Zmt {l:List Oper} {rows:List Nat} (hr:Zh8 l rows=true) {i:Nat}:∀ k j,j < k→j < l.length→(rows.getD j 0).testBit i=true→Jv .any l.toArray i (j+1) j=true:=by
  intro k
  induction k with
  | zero=>intro j hj; omega
  | succ k ih =>
    intro j hj hl h
    have h1:=Zzr.1 hr j (Zz9.2 hl)
    rw [List.getElem?_eq_getElem hl] at h1
    simp only [beq_iff_eq] at h1
    rw [h1] at h
    obtain ⟨x,hx,hb,hlt,h'⟩:=Zqj h
    unfold Jv
    have hj':l.toArray[j]?=some l[j]:=by simp [hl]
    simp only [hj']
    rw [ZBj]
    refine⟨x,hx,?_⟩
    rw [Zzd,Zzs,beq_iff_eq]
    refine⟨hb,h'.imp id fun h'=>?_⟩
    exact Zj1 (x.on+1) j _ (by omega) (ih x.on (by omega) (by omega) h')
def Zeg (rows : List Nat) (l : List Oper) (m i : Nat) : Bool :=
  match l[i]? with
  | none=>false
  | some oi => Zcy oi && (Zzj l.length).all fun j => match l[j]? with
    | none=>false
    | some oj=>j == i || (rows.getD j 0).testBit i || (rows.getD i 0).testBit j || (decide (j < m) && Zcy oj && oi.apart l.toArray oj)
theorem Zh9 {rows:List Nat} {l:List Oper} {m i:Nat} (hr:Zh8 l rows=true) (h:Zeg rows l m i=true):Za2 .any l.toArray m i=true:=by
  unfold Zeg at h
  split at h
  · cases h
  · rename_i oi hi
    have hil:=(List.getElem?_eq_some_iff.1 hi).1
    have hi':l.toArray[i]?=some oi:=by simpa using hi
    unfold Za2
    simp only [hi']
    rw [Zzd,Zzr] at h ⊢
    refine⟨h.1,fun j hj=>?_⟩
    have hjl:j < l.length:=by simpa using hj
    have h2:=h.2 j (by simpa using hjl)
    have hj1:l[j]?=some l[j]:=List.getElem?_eq_getElem hjl
    have hj2:l.toArray[j]?=some l[j]:=by simp [hjl]
    simp only [hj1] at h2
    simp only [hj2]
    simp only [Zzs,List.size_toArray] at h2 ⊢
    rcases h2 with ((h2 | h2) | h2) | h2
    · exact .inl (.inl (.inl h2))
    · exact .inl (.inl (.inr (Zj1 _ _ _ (by omega) (Zmt hr _ j (ZAw j) hjl h2))))
    · exact .inl (.inr (Zj1 _ _ _ (by omega) (Zmt hr _ i (ZAw i) hil h2)))
    · exact .inr h2
theorem Zqk (hR : PreW R) {Q : Exit → Act → World → Prop} {m i : Nat} {oi : Oper} {v : Value} (ho : ops[i]? = some oi) (hm : Za2 md ops m i = true) :
    ∀ f listed a w,closed md ops listed=true→i∈Zy5 md ops listed→Steady R P ops oi v a w→AEd R P md ops Q m f (listed.setIfInBounds i true) (a.put oi.dst v) w→AEd R P md ops Q m (f+1) listed a w:=by
  obtain ⟨hsi,hoth⟩:=Zmr hm ho
  intro f
  induction f with
  | zero =>
    intro listed a w hcl hi hst h
    refine⟨fun hr=>absurd (hr ▸ hi) (by simp),fun j hj=>?_⟩
    by_cases hji:j=i
    · subst hji
      exact hst.op hR ho ⟨fun _=>hR.refl _,h⟩
    · have:=Zee hj (fun e=>hji e.symm)
      rw [h.1] at this
      cases this
  | succ f ih =>
    intro listed a w hcl hi hst h
    refine⟨fun hr=>absurd (hr ▸ hi) (by simp),fun j hj=>?_⟩
    by_cases hji:j=i
    · subst hji
      exact hst.op hR ho ⟨fun _=>hR.refl _,h⟩
    · have hj':=Zee hj (fun e=>hji e.symm)
      obtain ⟨hjs,hjl,oj,hoj,hja⟩:=ready_mem.1 hj
      obtain ⟨his,hil,_⟩:=ready_mem.1 hi
      have hno:Jv md ops i ops.size j=false:=by
        cases hq:Jv md ops i ops.size j with
        | false=>rfl
        | true =>
          have:=Zh7 hcl _ j oj hoj hja hq
          have hlt:i < listed.size:=by
            rcases Zzt i listed.size with h' | h'
            · exact h'
            · simp [Zzb,Zzf.2 h'] at hil
          simp [Zzb,hlt] at this hil
          rw [this] at hil
          cases hil
      have hno2:Jv md ops j ops.size i=false:=by
        cases hq:Jv md ops j ops.size i with
        | false=>rfl
        | true =>
          obtain ⟨_,_,oi',hoi',hia⟩:=ready_mem.1 hi
          have:=Zh7 hcl _ i oi' hoi' hia hq
          have hlt:j < listed.size:=by
            rcases Zzt j listed.size with h' | h'
            · exact h'
            · simp [Zzb,Zzf.2 h'] at hjl
          simp [Zzb,hlt] at this hjl
          rw [this] at hjl
          cases hjl
      obtain ⟨hjm,hsj,hap⟩:=hoth j oj hoj hji hno hno2
      have h2:=Zmq (R:=R) hoj hap (Zh6 hsi) (Zh6 hsj) (h.2 j hj')
      refine wpOp_mono ?_ h2
      rintro a' w' ⟨hk,hb,hA⟩
      refine⟨hb,ih _ a' w' (Zef hcl hj) (Zee hi (fun e=>hji e)) ((hk w hst).later hR (hb hjm)) ?_⟩
      have:(listed.setIfInBounds j true).setIfInBounds i true=(listed.setIfInBounds i true).setIfInBounds j true:=ZCg _ _ hji
      rw [this]
      exact hA
theorem Zql (hR : PreW R) {Q : Exit → Act → World → Prop} {m i : Nat} {oi : Oper} {v : Value} (ho : ops[i]? = some oi) (hm : Za2 md ops ops.size i = true) :
    ∀ f listed a w,closed md ops listed=true→i∈Zy5 md ops listed→(∀ w1,Steady R P ops oi v a w1)→AEd R P md ops Q m f (listed.setIfInBounds i true) (a.put oi.dst v) w→AEd R P md ops Q m (f+1) listed a w:=by
  obtain ⟨hsi,hoth⟩:=Zmr hm ho
  intro f
  induction f with
  | zero =>
    intro listed a w hcl hi hst h
    refine⟨fun hr=>absurd (hr ▸ hi) (by simp),fun j hj=>?_⟩
    by_cases hji:j=i
    · subst hji
      exact(hst w).op hR ho ⟨fun _=>hR.refl _,h⟩
    · have:=Zee hj (fun e=>hji e.symm)
      rw [h.1] at this
      cases this
  | succ f ih =>
    intro listed a w hcl hi hst h
    refine⟨fun hr=>absurd (hr ▸ hi) (by simp),fun j hj=>?_⟩
    by_cases hji:j=i
    · subst hji
      exact(hst w).op hR ho ⟨fun _=>hR.refl _,h⟩
    · have hj':=Zee hj (fun e=>hji e.symm)
      obtain ⟨hjs,hjl,oj,hoj,hja⟩:=ready_mem.1 hj
      obtain ⟨his,hil,_⟩:=ready_mem.1 hi
      have hno:Jv md ops i ops.size j=false:=by
        cases hq:Jv md ops i ops.size j with
        | false=>rfl
        | true =>
          have:=Zh7 hcl _ j oj hoj hja hq
          have hlt:i < listed.size:=by
            rcases Zzt i listed.size with h' | h'
            · exact h'
            · simp [Zzb,Zzf.2 h'] at hil
          simp [Zzb,hlt] at this hil
          rw [this] at hil
          cases hil
      have hno2:Jv md ops j ops.size i=false:=by
        cases hq:Jv md ops j ops.size i with
        | false=>rfl
        | true =>
          obtain ⟨_,_,oi',hoi',hia⟩:=ready_mem.1 hi
          have:=Zh7 hcl _ i oi' hoi' hia hq
          have hlt:j < listed.size:=by
            rcases Zzt j listed.size with h' | h'
            · exact h'
            · simp [Zzb,Zzf.2 h'] at hjl
          simp [Zzb,hlt] at this hjl
          rw [this] at hjl
          cases hjl
      obtain ⟨hjm,hsj,hap⟩:=hoth j oj hoj hji hno hno2
      have h2:=Zmq (R:=R) hoj hap (Zh6 hsi) (Zh6 hsj) (h.2 j hj')
      refine wpOp_mono ?_ h2
      rintro a' w' ⟨hk,hb,hA⟩
      refine⟨hb,ih _ a' w' (Zef hcl hj) (Zee hi (fun e=>hji e)) (fun w1=>hk w1 (hst w1)) ?_⟩
      have:(listed.setIfInBounds j true).setIfInBounds i true=(listed.setIfInBounds i true).setIfInBounds j true:=ZCg _ _ hji
      rw [this]
      exact hA
end
section
variable {R:World→World→Prop} {P:Program} {l:List Oper} {Q:Exit→Act→World→Prop} {n m f:Nat} {e:Env} {w:World} {listed:Array Bool}
theorem Zmu (k:Nat):closed .any l.toArray (Zy0 k false).toArray=true:=by
  refine closed_spec.2 fun j oj _ hl=>?_
  exfalso
  by_cases h:j < k
  · simp [Zzb,h] at hl
  · simp [Zzb,h] at hl
def Zeh (l:List Oper) (listed:Array Bool) (i:Nat):Bool:=!listed.getD i true && match l[i]? with
  | none=>false
  | some o=>o.after.all fun x=>!Zzc .any x || listed.getD x.on false
theorem Zia {i:Nat} (h:Zeh l listed i=true):i∈Zy5 .any l.toArray listed:=by
  unfold Zeh at h
  rw [Zzd,ZBi] at h
  split at h
  · simp at h
  · rename_i o ho
    refine ready_mem.2 ⟨?_,h.1,o,by simpa using ho,fun x hx hb=>?_⟩
    · have:=(List.getElem?_eq_some_iff.1 ho).1
      simpa using this
    · have:=Array.all_eq_true_iff_forall_mem.1 h.2 x hx
      simpa [hb] using this
theorem Yg {id:Nat} (m:Nat) (hm:P.follows .mixedOrders=true) (rows lk lf:List Nat) (hro:Zh8 l rows=true) (hk:lk.all (Zeg rows l m)=true) (hf:lf.all (Zeg rows l l.length)=true)
    (h:(∀ i,lk.contains i=true→Za2 .any l.toArray m i=true)→(∀ i,lf.contains i=true→Za2 .any l.toArray l.toArray.size i=true)→∀ w',Bel w w'→AE Bel P .any l.toArray Q m n l.length (Zy0 l.length false).toArray e w'):(Code.region id l.toArray true).wp P Q (actOf n e) w:=by
  refine wp_region_any hm ?_
  have:=(h (fun i hi=>Zh9 hro (Zzr.1 hk i (by simpa using hi))) (fun i hi=>Zh9 (m:=l.length) hro (Zzr.1 hf i (by simpa using hi))) { w with drawn:=w.drawn+1 } ⟨⟨rfl,rfl,rfl,Zy1 _,fun _ _=>rfl⟩,Zz2 _⟩).out (Zmu _)
  have h2:=Zmp _ _ _ _ this
  simpa using h2
theorem Zei {id:Nat} (m:Nat) (hm:P.follows .mixedOrders=true) (rows lk lf:List Nat) (hro:Zh8 l rows=true) (hk:lk.all (Zeg rows l m)=true) (hf:lf.all (Zeg rows l l.length)=true)
    (h:(∀ i,lk.contains i=true→Za2 .any l.toArray m i=true)→(∀ i,lf.contains i=true→Za2 .any l.toArray l.toArray.size i=true)→∀ w',Bel w w'→AE (BelN w'.heap.size) P .any l.toArray Q m n l.length (Zy0 l.length false).toArray e w'):(Code.region id l.toArray true).wp P Q (actOf n e) w:=by
  refine wp_region_any hm ?_
  have:=(h (fun i hi=>Zh9 hro (Zzr.1 hk i (by simpa using hi))) (fun i hi=>Zh9 (m:=l.length) hro (Zzr.1 hf i (by simpa using hi))) { w with drawn:=w.drawn+1 } ⟨⟨rfl,rfl,rfl,Zy1 _,fun _ _=>rfl⟩,Zz2 _⟩).out (Zmu _)
  have h2:=Zmp _ _ _ _ this
  simpa using h2
theorem Zm (hR:PreW R) {d:Nat} (i:Nat) (v:Value) {oi:Oper} (ho:l[i]?=some oi) (hd:oi.dst=some d) (hr:Zeh l listed i=true) (hm:Za2 .any l.toArray l.toArray.size i=true)
    (hst:∀ w':World,(Zyx oi (J7 l.toArray n e)=true∧(execOp (ev n e) oi).run P w'=.ok (.value v) w')∨(Zyx oi (J7 l.toArray n e)=false∧v=undef))
    {l9:Array Bool} (hl:listed.setIfInBounds i true=l9) (h:AE R P .any l.toArray Q m n f l9 (upd e d v) w):AE R P .any l.toArray Q m n (f+1) listed e w:=by
  refine⟨fun hcl=>Zql hR (oi:=oi) (v:=v) (by simpa using ho) hm f listed _ w hcl (Zia hr) ?_ ?_⟩
  · intro w1 w' hb
    have:=hst w'
    have e1:yielded l.toArray (actOf n e).tmps=J7 l.toArray n e:=by funext g; exact Zde g
    rwa [e1,Zbt]
  · have hcl':=Zef hcl (Zia hr)
    rw [hl] at hcl'
    rw [hd,Zdd,hl]
    exact h.out hcl'
theorem Jy (hR:PreW R) {d:Nat} (i:Nat) (v:Value) {oi:Oper} (ho:l[i]?=some oi) (hd:oi.dst=some d) (hr:Zeh l listed i=true) (hm:Za2 .any l.toArray m i=true)
    (hst:∀ w',R w w'→(Zyx oi (J7 l.toArray n e)=true∧(execOp (ev n e) oi).run P w'=.ok (.value v) w')∨(Zyx oi (J7 l.toArray n e)=false∧v=undef))
    {l9:Array Bool} (hl:listed.setIfInBounds i true=l9) (h:AE R P .any l.toArray Q m n f l9 (upd e d v) w):AE R P .any l.toArray Q m n (f+1) listed e w:=by
  refine⟨fun hcl=>Zqk hR (oi:=oi) (v:=v) (by simpa using ho) hm f listed _ w hcl (Zia hr) ?_ ?_⟩
  · intro w' hb
    have:=hst w' hb
    have e1:yielded l.toArray (actOf n e).tmps=J7 l.toArray n e:=by funext g; exact Zde g
    rwa [e1,Zbt]
  · have hcl':=Zef hcl (Zia hr)
    rw [hl] at hcl'
    rw [hd,Zdd,hl]
    exact h.out hcl'
def AK (R:World→World→Prop) (P:Program) (l:List Oper) (Q:Exit→Act→World→Prop) (m n f i:Nat) (listed:Array Bool) (w:World):Exit→Act→World→Prop
  | .normal,a,w'=>(i < m→R w w')∧(closed .any l.toArray (listed.setIfInBounds i true)=true→AEd R P .any l.toArray Q m f (listed.setIfInBounds i true) a w')
  | _,_,_=>False
theorem Zmv {i:Nat} {w':World} {l9:Array Bool} (hb:R w w') (hl:listed.setIfInBounds i true=l9) (h:AE R P .any l.toArray Q m n f l9 e w'):AK R P l Q m n f i listed w .normal (actOf n e) w':=⟨fun _=>hb,by rw [hl]; exact h.out⟩
theorem Zib {i:Nat} {w':World} {l9:Array Bool} (hi:m≤i) (hl:listed.setIfInBounds i true=l9) (h:AE R P .any l.toArray Q m n f l9 e w'):AK R P l Q m n f i listed w .normal (actOf n e) w':=⟨fun hlt=>absurd hlt (Zzf.2 hi),by rw [hl]; exact h.out⟩
theorem Zj2 {i : Nat} {oi : Oper} (ho : l[i]? = some oi) (h : W P l.toArray (AK R P l Q m n f i listed w) [oi] n e w) :
    wpOp P l.toArray Qf i (fun a' w'=>(i < m→R w w')∧(closed .any l.toArray (listed.setIfInBounds i true)=true→AEd R P .any l.toArray Q m f (listed.setIfInBounds i true) a' w')) (actOf n e) w:=by
  have h':=h.out
  unfold wpOp
  have ho':l.toArray[i]?=some oi:=by simpa using ho
  simp only [ho']
  unfold wpList at h'
  split
  · rename_i hw
    rw [if_pos hw] at h'
    rcases h' with h' | ⟨_,_,_,h'⟩
    case inr=>exact h'.elim
    refine .inl ?_
    unfold Zzg at *
    generalize (execOp (actOf n e).eval oi).run P w=r at *
    cases r with
    | ok x w' =>
      cases x <;> simp only [Zzq] at h' ⊢ <;> first
        | exact h'
        | exact h'.elim
        | exact h'.mono (fun e w'' he=>by cases e <;> first | exact he | exact he.elim | (obtain ⟨_,_,he⟩:=he; exact he.elim))
    | halt x w'=>cases x <;> simp only [Zzq] at h' ⊢ <;> first | exact h'.elim | exact h'
  · rename_i hw
    rw [if_neg hw] at h'
    exact h'
theorem Zqm (i:Nat) {oi:Oper} (ho:l[i]?=some oi) (hr:Zy5 .any l.toArray listed=[i]) (h:W P l.toArray (AK R P l Q m n f i listed w) [oi] n e w):AE R P .any l.toArray Q m n (f+1) listed e w :=
  ⟨fun hcl=>⟨fun h0=>absurd (hr.symm.trans h0) (by simp),fun j hj=>by
    have hc:=Zef hcl hj
    rw [hr] at hj
    obtain rfl:j=i:=by simpa using hj
    exact wpOp_mono (fun _ _ hA=>⟨hA.1,hA.2 hc⟩) (Zj2 ho h)⟩⟩
theorem Xg (i j:Nat) {oi oj:Oper} (ho:l[i]?=some oi) (ho2:l[j]?=some oj) (hr:Zy5 .any l.toArray listed=[i,j]) (h:W P l.toArray (AK R P l Q m n f i listed w) [oi] n e w)
    (h2:W P l.toArray (AK R P l Q m n f j listed w) [oj] n e w):AE R P .any l.toArray Q m n (f+1) listed e w :=
  ⟨fun hcl=>⟨fun h0=>absurd (hr.symm.trans h0) (by simp),fun q hq=>by
    have hc:=Zef hcl hq
    rw [hr] at hq
    rcases Zyz.1 hq with rfl | hq
    · exact wpOp_mono (fun _ _ hA=>⟨hA.1,hA.2 hc⟩) (Zj2 ho h)
    · obtain rfl:q=j:=by simpa using hq
      exact wpOp_mono (fun _ _ hA=>⟨hA.1,hA.2 hc⟩) (Zj2 ho2 h2)⟩⟩
def Zfe (l:List Oper):Nat→Nat→Bool
  | 0,k=>k == l.length && (Zy5 .any l.toArray (Zy0 l.length true).toArray).isEmpty
  | f+1,k=>Zy5 .any l.toArray (Zy0 k true++Zy0 (l.length - k) false).toArray == [k] && Zfe l f (k+1)
def QN (Q:Exit→Act→World→Prop):Exit→Act→World→Prop
  | .normal,a,w=>Q .normal a w
  | _,_,_=>False
theorem Zqn : ∀ f k, m ≤ k → k + f = l.length → Zfe l f k = true → ∀ a w, wpList P l.toArray (QN Q) (l.drop k) a w →
    AEd R P .any l.toArray Q m f (Zy0 k true++Zy0 (l.length - k) false).toArray a w:=by
  intro f
  induction f with
  | zero =>
    intro k hk hl ht a w h
    obtain rfl:k=l.length:=by omega
    simp only [Zfe,Zzd,List.isEmpty_iff] at ht
    rw [List.drop_length] at h
    refine⟨?_,h⟩
    simpa using ht.2
  | succ f ih =>
    intro k hk hl ht a w h
    simp only [Zfe,Zzd,beq_iff_eq] at ht
    refine⟨fun h0=>absurd (ht.1.symm.trans h0) (by simp),fun j hj=>?_⟩
    rw [ht.1] at hj
    obtain rfl:j=k:=by simpa using hj
    have hlt:j < l.length:=by omega
    rw [List.drop_eq_getElem_cons hlt] at h
    have hset:(Zy0 j true++Zy0 (l.length - j) false).toArray.setIfInBounds j true=(Zy0 (j+1) true++Zy0 (l.length - (j+1)) false).toArray:=by
      have e1:l.length - j=(l.length - (j+1))+1:=by omega
      rw [List.setIfInBounds_toArray,e1,List.replicate_succ,List.replicate_succ',List.set_append_right _ _ (by simp)]
      simp
    unfold wpOp
    have ho':l.toArray[j]?=some l[j]:=by simp [hlt]
    simp only [ho']
    unfold wpList at h
    have fin:∀ a' w',wpList P l.toArray (QN Q) (l.drop (j+1)) a' w'→(j < m→R w w')∧AEd R P .any l.toArray Q m f ((Zy0 j true++Zy0 (l.length - j) false).toArray.setIfInBounds j true) a' w':=by
      intro a' w' h'
      refine⟨fun hjm=>absurd hjm (by omega),?_⟩
      rw [hset]
      exact ih (j+1) (by omega) (by omega) ht.2 a' w' h'
    split
    · rename_i hw
      rw [if_pos hw] at h
      rcases h with h | ⟨_,_,_,h⟩
      case inr=>exact h.elim
      refine .inl ?_
      unfold Zzg at *
      generalize (execOp a.eval l[j]).run P w=r at *
      cases r with
      | ok x w' =>
        cases x <;> simp only [Zzq] at h ⊢ <;> first
          | exact fin _ _ h
          | exact h.elim
          | exact h.mono (fun e w'' he=>by cases e <;> first | exact fin _ _ he | exact he.elim | (obtain ⟨_,_,he⟩:=he; exact he.elim))
          | exact h.mono (fun u w'' he=>fin _ _ he)
      | halt x w'=>cases x <;> simp only [Zzq] at h ⊢ <;> first | exact h.elim | exact h
    · rename_i hw
      rw [if_neg hw] at h
      exact fin _ _ h
theorem Zu (k:Nat) {f:Nat} {rest:List Oper} (hk:m≤k) (hl:k+f=l.length) (ht:Zfe l f k=true) (hlist:(Zy0 k true++Zy0 (l.length - k) false).toArray=listed) (hd:l.drop k=rest)
    (h:W P l.toArray (QN Q) rest n e w):AE R P .any l.toArray Q m n f listed e w:=⟨fun _=>hlist ▸ Zqn f k hk hl ht _ w (hd ▸ h.out)⟩
theorem Zv {a:Act} (h:Q .normal a w):QN Q .normal a w:=h
theorem Zqo {Q':Exit→Act→World→Prop} (k:∀ a w,Q' .normal a w→Q .normal a w):∀ f (listed:Array Bool) a w,AEd R P .any l.toArray Q' m f listed a w→AEd R P .any l.toArray Q m f listed a w:=by
  intro f
  induction f with
  | zero=>intro listed a w h; exact⟨h.1,k _ _ h.2⟩
  | succ f ih =>
    intro listed a w h
    exact⟨fun h0=>k _ _ (h.1 h0),fun i hi=>wpOp_mono (fun a' w' hA=>⟨hA.1,ih _ _ _ hA.2⟩) (h.2 i hi)⟩
def QJ (n:Nat) (J:Env→World→Prop):Exit→Act→World→Prop:=fun x a w=>x=.normal∧∃ e,a=actOf n e∧J e w
theorem Zbj (J:Env→World→Prop) (k:∀ e' w',J e' w'→Q .normal (actOf n e') w') (h:AE R P .any l.toArray (QJ n J) m n f listed e w):AE R P .any l.toArray Q m n f listed e w :=
  ⟨fun hc=>Zqo (fun a w h=>by obtain ⟨_,e',rfl,hJ⟩:=h; exact k e' w hJ) _ _ _ _ (h.out hc)⟩
end
section
variable {P:Program} {l:List Oper} {Q:Exit→Act→World→Prop} {n m f:Nat} {e:Env} {w:World} {listed:Array Bool}
theorem aF {d:Nat} (i:Nat) (v:Value) {oi:Oper} (ho:l[i]?=some oi) (hd:oi.dst=some d) (hm:Za2 .any l.toArray l.toArray.size i=true) (hw:Zyx oi (J7 l.toArray n e)=true)
    (hst:∀ w':World,(execOp (ev n e) oi).run P w'=.ok (.value v) w') (l9:Array Bool) (h:AE Bel P .any l.toArray Q m n f l9 (upd e d v) w)
    (hr:Zeh l listed i=true:=by kernel_rfl) (hl:listed.setIfInBounds i true=l9:=by kernel_rfl):AE Bel P .any l.toArray Q m n (f+1) listed e w :=
  Zm Z2 i v ho hd hr hm (fun w'=>.inl ⟨hw,hst w'⟩) hl h
theorem aL {d:Nat} (i:Nat) (v:Value) {oi:Oper} (ho:l[i]?=some oi) (hd:oi.dst=some d) (hm:Za2 .any l.toArray m i=true) (hw:Zyx oi (J7 l.toArray n e)=true)
    (hst:∀ w':World,Bel w w'→(execOp (ev n e) oi).run P w'=.ok (.value v) w') (l9:Array Bool) (h:AE Bel P .any l.toArray Q m n f l9 (upd e d v) w)
    (hr:Zeh l listed i=true:=by kernel_rfl) (hl:listed.setIfInBounds i true=l9:=by kernel_rfl):AE Bel P .any l.toArray Q m n (f+1) listed e w :=
  Jy Z2 i v ho hd hr hm (fun w' hB=>.inl ⟨hw,hst w' hB⟩) hl h
theorem aK {R:World→World→Prop} {i:Nat} {w':World} (hb:R w w') (l9:Array Bool) (h:AE R P .any l.toArray Q m n f l9 e w') (hl:listed.setIfInBounds i true=l9:=by kernel_rfl):AK R P l Q m n f i listed w .normal (actOf n e) w':=Zmv hb hl h
theorem aO {R:World→World→Prop} (i:Nat) {oi:Oper} (ho:l[i]?=some oi) (h:W P l.toArray (AK R P l Q m n f i listed w) [oi] n e w) (hr:Zy5 .any l.toArray listed=[i]:=by kernel_rfl):AE R P .any l.toArray Q m n (f+1) listed e w:=Zqm i ho hr h
end
theorem Zj3 {P:Program} {Q:Exit→Act→World→Prop} {n:Nat} {e:Env} {w:World} {c:Code} (J:Env→World→Prop) (h1:c.wp P (fun x a w=>x=.normal∧∃ e',a=actOf n e'∧J e' w) (actOf n e) w) (h2:∀ e' w',J e' w'→Q .normal (actOf n e') w'):c.wp P Q (actOf n e) w :=
  Code.wp_mono (fun x a w h=>by obtain ⟨rfl,e',rfl,hJ⟩:=h; exact h2 e' w hJ) h1
end Vc
namespace Vc
open Go Go.RowKit
section
variable {P:Program} {ops:Array Oper} {Q:Exit→Act→World→Prop} {n:Nat} {e:Env} {w w':World} {rest:List Oper}
variable {X:Nat→Prop} {w0:World} {M Ps:List Item}
variable {d ty:Nat} {pos:String} {af:Array Edge} {gd:Option (Nat×Bool)}
theorem Zba {t el len c sz g:Nat} {x y:Operand} {k:IntKind} {i:Int} (j:Nat) (ht:P.underlying t=some (.slice el)) (hz:X8 P el sz) (hx:ev n e x=.slice (some ⟨g,0,none⟩) len c) (hy:ev n e y=.int k i)
    (h0:0≤i) (h1:i < len) (ho:i.toNat * sz=j):(execOp (ev n e) ⟨some d,.indexAddr t x y,ty,pos,af,gd⟩).run P w=.ok (.value (.pointer (some ⟨g,j,none⟩))) w:=by
  have:=Yp (P:=P) (w:=w) (d:=d) (ty:=ty) (pos:=pos) (af:=af) (gd:=gd) ht hz hx hy h0 h1
  rwa [Zch,ZBf,ho] at this
theorem Zao {t el len c sz g:Nat} {x y:Operand} {k:IntKind} {i:Int} (j:Nat) (ht:P.underlying t=some (.slice el)) (hz:X8 P el sz) (hx:ev n e x=.slice (some ⟨g,0,none⟩) len c) (hy:ev n e y=.int k i)
    (h0:0≤i) (h1:i < len) (ho:i.toNat * sz=j) (h:W P ops Q rest n (upd e d (.pointer (some ⟨g,j,none⟩))) w):W P ops Q (⟨some d,.indexAddr t x y,ty,pos,af,none⟩::rest) n e w :=
  Xd _ rfl rfl (Zba j ht hz hx hy h0 h1 ho) h
theorem Yn {l:List Oper} {op:Op} {dst:Option Nat} (g:Nat) {want:Bool} (dg:Nat) (hd:(l[g]?).bind (·.dst)=some dg) {b:Bool} (hv:ev n e (.tmp dg)=.bool b) (hb:b=want) :
    Zyx ⟨dst,op,ty,pos,af,some (g,want)⟩ (J7 l.toArray n e)=true:=by
  simp only [Zyx,J7]
  rw [List.getElem?_toArray,hd]
  simp only [ev] at hv
  by_cases hdn:dg < n
  · have hbt:Zy3 dg n=true:=by rw [Zze]; exact hdn
    rw [hbt] at hv
    simp only [cond_true] at hv
    simp [hdn,hv,hb]
  · have hbt:Zy3 dg n=false:=by
      cases hq:Zy3 dg n with
      | false=>rfl
      | true=>rw [Zze] at hq; exact absurd hq hdn
    rw [hbt] at hv
    simp [undef] at hv
theorem Yk {l:List Oper} {op:Op} {dst:Option Nat} (g:Nat) {want:Bool} (dg:Nat) (hd:(l[g]?).bind (·.dst)=some dg) {b:Bool} (hv:ev n e (.tmp dg)=.bool b) (hb:b≠want) :
    Zyx ⟨dst,op,ty,pos,af,some (g,want)⟩ (J7 l.toArray n e)=false:=by
  have:=Yn (n:=n) (e:=e) (op:=op) (dst:=dst) (ty:=ty) (pos:=pos) (af:=af) g (want:=b) dg hd hv rfl
  simp only [Zyx,beq_iff_eq] at this ⊢
  rw [this]
  simpa using hb
theorem X6 {l:List Oper} {op:Op} {dst:Option Nat} (g:Nat) {want:Bool} (dg:Nat) (hd:(l[g]?).bind (·.dst)=some dg) (hv:ev n e (.tmp dg)=undef) :
    Zyx ⟨dst,op,ty,pos,af,some (g,want)⟩ (J7 l.toArray n e)=false:=by
  simp only [Zyx,J7]
  rw [List.getElem?_toArray,hd]
  simp only [ev] at hv
  by_cases hdn:dg < n
  · have hbt:Zy3 dg n=true:=by rw [Zze]; exact hdn
    rw [hbt] at hv
    simp only [cond_true] at hv
    simp [hdn,hv,undef]
  · simp [hdn]
theorem Zqp {b t off sz ty':Nat} {x:Operand} {cs:List Value} (seg:List Value) (hh:(blk b t cs).holds w) (hT:AggT P ty' sz) (hx:ev n e x=.pointer (some ⟨b,off,none⟩))
    (hs:(cs.drop off).take sz=seg) (hl:seg.length=sz):(execOp (ev n e) ⟨some d,.load ty' x,ty,pos,af,gd⟩).run P w=.ok (.value (.agg seg.toArray)) w:=by
  simp [execOp,hx,Zzi,Zy4,Zd7 hT (Zdg hh hs) hl]
theorem Zqq {b t off sz ty':Nat} {x:Operand} {cs:List Value} (seg:List Value) (hh:(blk b t cs).holds w) (hT:AggT P ty' sz) (hx:ev n e x=.pointer (some ⟨b,off,none⟩))
    (hs:(cs.drop off).take sz=seg) (hl:seg.length=sz) (h:W P ops Q rest n (upd e d (.agg seg.toArray)) w):W P ops Q (⟨some d,.load ty' x,ty,pos,af,none⟩::rest) n e w :=
  Xd _ rfl rfl (Zqp seg hh hT hx hs hl) h
theorem Zaz {b t off ty':Nat} {x:Operand} {cs:List Value} (v:Value) (hh:(blk b t cs).holds w) (hT:ScaT P ty') (hx:ev n e x=.pointer (some ⟨b,off,none⟩))
    (hs:cs[off]?=some v):(execOp (ev n e) ⟨some d,.load ty' x,ty,pos,af,gd⟩).run P w=.ok (.value v) w:=by
  have h1:(cs.drop off).take 1=[v]:=by rw [ZAl]; simp [hs]
  simp [execOp,hx,Zzi,Zy4,Ze9 hT (Zdg hh h1)]
theorem Zbv {b t off ty':Nat} {x:Operand} {cs:List Value} (v:Value) (hh:(blk b t cs).holds w) (hT:ScaT P ty') (hx:ev n e x=.pointer (some ⟨b,off,none⟩))
    (hs:cs[off]?=some v) (h:W P ops Q rest n (upd e d v) w):W P ops Q (⟨some d,.load ty' x,ty,pos,af,none⟩::rest) n e w :=
  Xd _ rfl rfl (Zaz v hh hT hx hs) h
theorem Zj4 {f:Operand} {g:FuncId} {cap:List Value} {l:List Operand} {fn:Func} {at_:Array Nat} (vs:List Value) (R:Ending→World→Prop) (hx:ev n e f=.func (.func g) #[] cap.toArray) (hf:P.funcs[g]?=some fn) (hb:fn.body.isNone=false)
    (hne:(fn.name == "runtime.NumGoroutine")=false) (hp:l.map (ev n e)=vs) (hc:Calls P g (vs++cap).toArray w R)
    (h:∀ ret w'',R ret w''→∃ v,ret=.returned v∧W P ops Q rest n (upd e d v) w'') :
    W P ops Q (⟨some d,.call { callee:=.value f,args:=l.toArray,argTypes:=at_ }, ty,pos,af,none⟩::rest) n e w:=by
  refine Zma (d:=d) g (vs++cap).toArray R (fun g b hg=>by cases hg) rfl ?_ hc h
  have:l.toArray.map (ev n e)=vs.toArray:=by rw [← hp]; simp
  simp only [execOp,resolve,this,hx,ZB2,Zyu,Zyw,Zyv,invoke,callFunc]
  simp only [run_program,Zyu,Zyv,hf,hne,hb,ZAk,if_false,Zyw,Array.append_empty,Array.empty_append]
  simp
theorem Zj5 {α β:Type} {f:α→β} {x:α} {v:β} {l:List α} {vs:List β} (h:f x=v) (k:l.map f=vs):(x::l).map f=v::vs:=by rw [Zy8,h,k]
theorem Zj6 {g:FuncId} {cap:List Operand} (vs:List Value) (hc:cap.map (ev n e)=vs) (h:W P ops Q rest n (upd e d (.func (.func g) #[] vs.toArray)) w) :
    W P ops Q (⟨some d,.makeFunc (.func g) #[] cap.toArray,ty,pos,af,none⟩::rest) n e w:=by
  refine Xd (.func (.func g) #[] vs.toArray) rfl rfl ?_ h
  have:cap.toArray.map (ev n e)=vs.toArray:=by rw [← hc]; simp
  simp [execOp,Instr.makeFunc,← hc]
theorem Jg (hC:Ctx X w0 w M Ps) (k:Nat) {t sz nn:Nat} {v:Value} {cs:List Value} (n':Nat) (cs':List Value) (hk:M[k]?=some (own t sz v nn cs)) (hn:nn=n') (hcs:cs=cs'):Ctx X w0 w (M.set k (own t sz v n' cs')) Ps:=by
  subst hn hcs
  obtain ⟨hlt,he⟩:=List.getElem?_eq_some_iff.1 hk
  rw [← he,List.set_getElem_self]
  exact hC
end
theorem Zmw {w0 w w':World} (h:Bel w0 w) (k:Bel w w'):Bel w0 w':=h.trans k
theorem Zqr {w0 w:World} {fp:List Nat} (h:w0.heap.size≤w.heap.size) (hf:∀ b,b∈fp→w.heap.size≤b):∀ b,b∈fp→w0.heap.size≤b:=fun b hb=>Zy6 h (hf b hb)
theorem X5 {w0 w:World} {M Ps:List Item} (hC:Ctx Nox w0 w M Ps) (k:Nat) {t sz nn:Nat} {v:Value} {cs:List Value} (hk:M[k]?=some (own t sz v nn cs)):∀ b,b∈v.ownBlock.toList→w0.heap.size≤b :=
  fun b hb=>(hC.mfp _ (List.mem_of_getElem? hk) b hb).elim id (fun x=>x.elim)
theorem Xn {ty sz n:Nat} {v:Value} {cs:List Value} {w:World} (h:(own ty sz v n cs).holds w):v.oneCell'=true:=by
  obtain ⟨A,c,rfl⟩:=J1 h
  rfl
theorem Zbw {α:Type} {t:Ty α} {xs:List α} {v:Value} {fp:List Nat} {w:World} (h:t.sl.rep xs [v] fp w):v.oneCell'=true:=t.sl.one h v (by simp)
theorem Zcm {ty sz n:Nat} {v:Value} {cs:List Value} {w:World} (h:(own ty sz v n cs).holds w):v.cells.toList=[v]:=by
  obtain ⟨A,c,rfl⟩:=J1 h
  rfl
theorem Zff {α:Type} {t:Ty α} {xs:List α} {v:Value} {fp:List Nat} {w:World} (h:t.sl.rep xs [v] fp w):v.cells.toList=[v]:=by
  obtain ⟨A,c,rfl⟩:=Z1 h
  rfl
theorem J2 {w:World} {A:Addr} {j o k:Nat} {cs seg:List Value} (h:J8 w (A.add j) cs) (hs:(cs.drop o).take k=seg):J8 w (A.add (j+o)) seg:=by
  have:=Zqf h hs
  rwa [Zdf] at this
theorem Jz {w w':World} {a:Addr} {cs:List Value} (hB:Bel w w') (h:J8 w a cs):J8 w' a cs:=by
  intro j u hj
  have h1:=h j u hj
  refine(World.cell?_of_block (hB.block _ ?_)).trans h1
  unfold World.cell? at h1
  split at h1
  · rename_i e; exact Zcg e
  · cases h1
theorem Y6 {v:Value} {vs:List Value} (h:v.oneCell'=true) (k:vs.all (·.oneCell')=true):(v::vs).all (·.oneCell')=true:=by simp [h,k]
theorem Zmx {α:Type} {l:List α} (h:l.length=2):∃ a b,l=[a,b]:=by
  match l,h with
  | [a,b],_=>exact⟨a,b,rfl⟩
theorem Zbk {i n sz:Nat} (h:i < n):i * sz+sz≤n * sz:=by
  have:(i+1) * sz≤n * sz:=Nat.mul_le_mul_right _ h
  rwa [Zzl,Zzw] at this
theorem Xt {α:Type} [Inhabited α] (xs:List α) (i:Nat) (h:i < xs.length):xs[i]=xs.getD i Zyt:=by simp [Zzm,h]
theorem Zmy {α:Type} {E:Enc α} {xs:List α} {cs:List Value} {fp:List Nat} {w:World} (h:E.ty.all xs cs fp w):cs=E.encs xs:=by
  have hl:cs.length=xs.length * E.sz:=h.2.1
  have hs:∀ i (hi:i < xs.length),(cs.drop (i * E.sz)).take E.sz=E.enc xs[i]:=fun i hi=>(h.2.2.2 i hi).2
  clear h
  induction xs generalizing cs with
  | nil=>simpa [Enc.encs] using hl
  | cons x xs ih =>
    have h0:=hs 0 (by simp)
    simp only [ZBa,ZAn,List.getElem_cons_zero] at h0
    have ht:=ih (cs:=cs.drop E.sz) (by rw [List.length_drop,hl,List.length_cons,Zzl,Zzw]; omega) (fun i hi=>by
      have:=hs (i+1) (by simpa using hi)
      simp only [ZCj] at this
      rw [← this,ZAo]
      congr 2
      rw [Zzl,Zzw,Zz7])
    simp only [Enc.encs,Zz6]
    rw [← h0]
    show cs=_++E.encs xs
    rw [← ht,ZCk]
theorem Zqs {α:Type} {E:Enc α} {xs:List α} {v:Value} {fp:List Nat} {w:World} (h:E.ty.sl.rep xs [v] fp w):(rdr E.sz v xs.length (E.encs xs) fp).holds w:=by
  obtain ⟨v',ecs,e,h1,h2⟩:=h
  obtain rfl:v=v':=by simpa using e
  rw [← Zmy h2]
  exact h1
end Vc
namespace Vc
open Go Go.RowKit
open Go.ChangeMaps (setBlock)
abbrev kvA (k:IntKind) (a:A8):Value:=.agg (List.toArray (a.enc k))
abbrev vvI (k:IntKind) (a:Int):Value:=.int k a
structure KeyT (P:Program) (k:TypeId) {α:Type} [DecidableEq α] (kv:α→Value):Prop where
  under:∃ d,P.underlying k=some d∧((∀ x u,ZBk d (kv x) u=none)∨∀ x y,ZBk d (kv x) (kv y)=some (decide (x=y)))
  check:∀ em w x,(ZAc em 10000 k (kv x)).run P w=.ok () w
  equal:∀ w x y,(Op.equal k (kv x) (kv y)).run P w=.ok (decide (x=y)) w
  stays:∀ x,Instr.sameBits 10000 (kv x) (kv x)=true
section pure
variable {α β:Type} [DecidableEq α]
def Za3:List (α×β)→α→Nat→Option (Nat×β)
  | [],_,_=>none
  | p::l,x,i=>if x=p.1 then some (i,p.2) else Za3 l x (i+1)
def Xu:List (α×β)→α→Option β
  | [],_=>none
  | p::l,x=>if x=p.1 then some p.2 else Xu l x
def Zz:List (α×β)→α→β→List (α×β)
  | [],x,v=>[(x,v)]
  | p::l,x,v=>if x=p.1 then(x,v)::l else p::Zz l x v
def Jw:List (α×β)→α→List (α×β)
  | [],_=>[]
  | p::l,x=>if x=p.1 then l else p::Jw l x
theorem Zic {l:List (α×β)} {x:α} {i:Nat} (h:Za3 l x i=none):Xu l x=none∧(∀ v,Zz l x v=l++[(x,v)])∧Jw l x=l∧x∉l.map Zy9:=by
  induction l generalizing i with
  | nil=>exact⟨rfl,fun _=>rfl,rfl,by simp⟩
  | cons p l ih =>
    unfold Za3 at h
    split at h
    · cases h
    · rename_i hne
      obtain ⟨h1,h2,h3,h4⟩:=ih h
      refine⟨by simp [Xu,hne,h1],fun v=>by simp [Zz,hne,h2],by simp [Jw,hne,h3],?_⟩
      simp only [Zy8,Zyz,not_or]
      exact⟨hne,h4⟩
theorem Zid {l:List (α×β)} {x:α} {i j:Nat} {v:β} (h:Za3 l x i=some (j,v)):i≤j∧l[j - i]?=some (x,v)∧Xu l x=some v∧(∀ u,Zz l x u=l.set (j - i) (x,u))∧Jw l x=l.eraseIdx (j - i):=by
  induction l generalizing i with
  | nil=>cases h
  | cons p l ih =>
    unfold Za3 at h
    split at h
    · rename_i he
      obtain ⟨rfl,rfl⟩:i=j∧p.2=v:=by simpa using h
      subst he
      simp [Xu,Zz,Jw]
    · rename_i hne
      obtain ⟨h0,h1,h2,h3,h4⟩:=ih h
      have e:j - i=(j - (i+1))+1:=by omega
      rw [e]
      exact⟨by omega,by simpa using h1,by simp [Xu,hne,h2],fun u=>by simp [Zz,hne,h3],by simp [Jw,hne,h4]⟩
def Zdi (l:List (α×β)) (p:α×β) (l':List (α×β)):Prop:=∃ i,∃ h:i < l.length,l[i]=p∧l'=l.eraseIdx i
end pure
def Ze {α β:Type} (kv:α→Value) (vv:β→Value) (b:Nat) (l:List (α×β)):Item where
  fp:=[b]
  holds w:=∃ es clock,w.heap[b]?=some (.map es clock)∧es.toList.map (fun e=>(e.key,e.val))=l.map (fun p=>(kv p.1,vv p.2))∧(es.toList.map (·.born)).Nodup∧(∀ e∈es.toList,e.born < clock)∧(l.map Zy9).Nodup
  keep _ _ h hw:=by obtain ⟨es,c,h1,h2⟩:=hw; exact⟨es,c,(h b (by simp)).trans h1,h2⟩
  low _ hw c hc := by obtain ⟨es, _, h1, _⟩ := hw; obtain rfl : c = b := by simpa using hc
                      exact Zcg h1
def Y3 (b:Nat) (es:Array MapEntry) (clock:Nat):Item where
  fp:=[b]
  holds w:=w.heap[b]?=some (.map es clock)
  keep _ _ h hw:=(h b (by simp)).trans hw
  low _ hw c hc := by obtain rfl : c = b := by simpa using hc
                      exact Zcg hw
def itI {α β : Type} (kv : α → Value) (vv : β → Value) (r b : Nat) (es : Array MapEntry) (clock : Nat) (last : Option MapEntry) (l : List (α × β)) : Item where
  fp:=[r]
  holds w:=∃ seen c0,w.heap[r]?=some (.mapIter (some b) clock seen c0)∧clock≤c0∧(leftOf es seen).toList.map (fun e=>(e.key,e.val))=l.map (fun p=>(kv p.1,vv p.2)) ∧
    (∀ e,last=some e→(∃ s:Array Nat,seen=s.push e.born)∧c0=clock∧e∈es.toList)
  keep _ _ h hw:=by obtain ⟨s,c,h1,h2⟩:=hw; exact⟨s,c,(h r (by simp)).trans h1,h2⟩
  low _ hw c hc := by obtain ⟨_, _, h1, _⟩ := hw; obtain rfl : c = r := by simpa using hc
                      exact Zcg h1
section
variable {P:Program} {α β:Type} [DecidableEq α] {kv:α→Value} {vv:β→Value}
theorem Zmz {k:TypeId} (K:KeyT P k kv) (w:World) (x:α):∀ (es:List MapEntry) (l:List (α×β)) (i:Nat),es.map (fun e=>(e.key,e.val))=l.map (fun p=>(kv p.1,vv p.2)) →
    (Instr.findAsking k (kv x) es i).run P w=.ok ((Za3 l x i).map (fun q=>(q.1,vv q.2))) w
  | [],[],i,_=>rfl
  | [],_::_,_,h=>by simp at h
  | _::_,[],_,h=>by simp at h
  | e :: es, p :: l, i, h => by
    simp only [Zy8,ZCo,Zz8] at h
    unfold Instr.findAsking Za3
    simp only [Zyu,h.1.1,K.equal,Zyv]
    by_cases hx:x=p.1
    · simp [hx,h.1.2]
    · simp only [hx,decide_false,ZAk,if_false]
      exact Zmz K w x es l (i+1) h.2
theorem Zm0 {d:TypeDesc} (hs:∀ x y,ZBk d (kv x) (kv y)=some (decide (x=y))) (x:α):∀ (es:List MapEntry) (l:List (α×β)) (i:Nat),es.map (fun e=>(e.key,e.val))=l.map (fun p=>(kv p.1,vv p.2)) →
    ZBl d (kv x) es i=some ((Za3 l x i).map (fun q=>(q.1,vv q.2)))
  | [],[],i,_=>rfl
  | [],_::_,_,h=>by simp at h
  | _::_,[],_,h=>by simp at h
  | e :: es, p :: l, i, h => by
    simp only [Zy8,ZCo,Zz8] at h
    unfold ZBl Za3
    rw [h.1.1,hs]
    by_cases hx:x=p.1
    · simp [hx,h.1.2]
    · simp only [hx,decide_false,if_false]
      exact Zm0 hs x es l (i+1) h.2
theorem Zfg {k:TypeId} (K:KeyT P k kv) (w:World) (x:α) (es:List MapEntry) (l:List (α×β)) (h:es.map (fun e=>(e.key,e.val))=l.map (fun p=>(kv p.1,vv p.2))) :
    (Instr.findKey k (kv x) es).run P w=.ok ((Za3 l x 0).map (fun q=>(q.1,vv q.2))) w:=by
  obtain ⟨d,hd,hs⟩:=K.under
  unfold Instr.findKey
  simp only [Zyu,run_underlying hd,Zyv]
  rcases hs with hs | hs
  · cases es with
    | nil =>
      cases l with
      | nil=>rfl
      | cons=>simp at h
    | cons e es=>simp only [ZBl,hs]; exact Zmz K w x (e::es) l 0 h
  · rw [Zm0 hs x es l 0 h]; rfl
theorem Zqt {t k el:TypeId} (K:KeyT P k kv) (ht:P.underlying t=some (.map k el)) {w:World} {b:Nat} {l:List (α×β)} (h:(Ze kv vv b l).holds w) (x:α) {z:β} (hz:Je P el (vv z)) :
    (Instr.lookup t (.map (some b)) (kv x) false).run P w=.ok (vv ((Xu l x).getD z)) w:=by
  obtain ⟨es,clock,h1,h2,h3⟩:=h
  have hg:(getObj b).run P w=.ok (.map es clock) w:=by simp [getObj,Zy7,h1]
  simp only [Instr.lookup,Zyu,run_underlying ht,Zyv,hg,Zyw,K.check,Zfg K w x es.toList l h2]
  cases hf:Za3 l x 0 with
  | none=>simp [(Zic hf).1,Zju hz]
  | some q=>obtain ⟨j,v⟩:=q; simp [(Zid hf).2.2.1]
theorem Zie {w:World} {r:Nat} {es:Array MapEntry} {c:Nat} (hr:w.heap[r]?=some (.map es c)) (o':Obj):(setObj r o').run P w=.ok () (setBlock w r o'):=by
  simp [setObj,Zy7,hr,setBlock]
structure BelB (b:Nat) (w w':World):Prop where
  os:w'.os=w.os
  tape:w'.tape=w.tape
  output:w'.output=w.output
  size:w.heap.size≤w'.heap.size
  drawn:w.drawn≤w'.drawn
  old:∀ c,c < w.heap.size→c≠b→w'.heap[c]?=w.heap[c]?
theorem BelB.set (w:World) (b:Nat) (o:Obj):BelB b w (setBlock w b o) where
  os:=rfl
  tape:=rfl
  output:=rfl
  size:=by simp [setBlock]
  drawn:=Zy1 _
  old c _ hc:=by simp [setBlock,Array.getElem?_setIfInBounds_ne hc.symm]
theorem Zfh {w:World} {b:Nat} {o:Obj} (h:b < w.heap.size):(setBlock w b o).heap[b]?=some o:=by simp [setBlock,h]
theorem Zj7 {l : List (α × β)} {x : α} {v : β} (h : (l.map Zy9).Nodup) : ((Zz l x v).map Zy9).Nodup := by
  cases hf:Za3 l x 0 with
  | none =>
    obtain ⟨_,h2,_,h4⟩:=Zic hf
    rw [h2,List.map_append,List.nodup_append]
    refine⟨h,by simp,fun a ha b hb=>?_⟩
    obtain rfl:b=x:=by simpa using hb
    exact fun e=>h4 (e ▸ ha)
  | some q =>
    obtain ⟨j,u⟩:=q
    obtain ⟨_,h1,_,h3,_⟩:=Zid hf
    rw [h3]
    have:(l.set (j - 0) (x,v)).map Zy9=l.map Zy9:=by
      rw [List.map_set]
      apply List.ext_getElem?
      intro i
      by_cases hij:j - 0=i
      · subst hij
        have hj:=(List.getElem?_eq_some_iff.1 h1).1
        rw [List.getElem?_set_self (by simpa using hj),List.getElem?_map,h1]; rfl
      · rw [List.getElem?_set_ne hij]
    rw [this]; exact h
theorem Zm1 {t k el : TypeId} (K : KeyT P k kv) (ht : P.underlying t = some (.map k el)) {w : World} {b : Nat} {l : List (α × β)} (h : (Ze kv vv b l).holds w) (x : α) (v : β) :
    ∃ w',(ZBm t (.map (some b)) (kv x) (vv v)).run P w=.ok () w'∧(Ze kv vv b (Zz l x v)).holds w'∧BelB b w w':=by
  obtain ⟨es,clock,h1,h2,h3,h4,h5⟩:=h
  have hlt:=Zcg h1
  have hg:(getObj b).run P w=.ok (.map es clock) w:=by simp [getObj,Zy7,h1]
  have hlen:es.size=l.length:=by have:=congrArg Zzx h2; simpa using this
  cases hf:Za3 l x 0 with
  | none =>
    obtain ⟨_,q2,_,_⟩:=Zic hf
    refine⟨setBlock w b (.map (es.push ⟨kv x,vv v,clock⟩) (clock+1)),?_,⟨_,_,Zfh hlt,?_,?_,?_,Zj7 h5⟩,BelB.set _ _ _⟩
    · simp only [ZBm,Zyu,run_underlying ht,Zyv,hg,Zyw,K.check,Zfg K w x es.toList l h2,hf,Option.map_none,Zie h1]
    · rw [q2]; simp [h2]
    · simp only [Array.toList_push,List.map_append,Zy8,List.map_nil]
      rw [List.nodup_append]
      refine⟨h3,by simp,fun a ha b hb e=>?_⟩
      obtain ⟨e0,he0,rfl⟩:=Zy2.1 ha
      have:=h4 e0 he0
      simp at hb; omega
    · intro e he
      simp only [Array.toList_push,Zzu,ZAs] at he
      rcases he with he | rfl
      · exact Nat.lt_succ_of_lt (h4 e he)
      · exact ZAw _
  | some q =>
    obtain ⟨j,u⟩:=q
    obtain ⟨_,q1,_,q3,_⟩:=Zid hf
    rw [Nat.sub_zero] at q1 q3
    have hj:j < l.length:=(List.getElem?_eq_some_iff.1 q1).1
    have hjs:j < es.size:=by omega
    have hkey:es[j].key=kv x:=by
      have:=congrArg (·[j]?) h2
      simp only [List.getElem?_map,q1,ZAa,Array.getElem?_toList,Array.getElem?_eq_getElem hjs] at this
      simpa using (congrArg Zy9 (Option.some.inj this))
    refine⟨setBlock w b (.map (es.modify j fun e=>{ e with key:=kv x,val:=vv v }) clock),?_,⟨_,_,Zfh hlt,?_,?_,?_,Zj7 h5⟩,BelB.set _ _ _⟩
    · simp only [ZBm,Zyu,run_underlying ht,Zyv,hg,Zyw,K.check,Zfg K w x es.toList l h2,hf,ZAa,Array.getElem?_eq_getElem hjs,ZAu,hkey,Instr.keyThatStays,K.stays,if_true,Zie h1]
    · rw [q3]
      apply List.ext_getElem?
      intro i
      have h2i:=congrArg (·[i]?) h2
      simp only [List.getElem?_map,Array.getElem?_toList,Array.getElem?_modify] at h2i ⊢
      by_cases hij:j=i
      · subst hij
        simp [hjs,hj]
      · simp [hij,List.getElem?_set_ne hij] at h2i ⊢
        exact h2i
    · have:(es.modify j fun e=>{ e with key:=kv x,val:=vv v }).toList.map (·.born)=es.toList.map (·.born):=by
        apply List.ext_getElem?
        intro i
        simp only [List.getElem?_map,Array.getElem?_toList,Array.getElem?_modify]
        by_cases hij:j=i
        · subst hij; simp [hjs]
        · simp [hij]
      rw [this]; exact h3
    · intro e he
      obtain ⟨i,hi,rfl⟩:=Zzo he
      simp only [Array.getElem_toList,Array.getElem_modify]
      have hi':i < es.size:=by simpa using hi
      split
      · exact h4 es[i] (by simp)
      · exact h4 es[i] (by simp)
theorem Zqu {t k el:TypeId} {ats:Array TypeId} {ty:TypeId} (K:KeyT P k kv) (ht:P.underlying t=some (.map k el)) (ha:ats[0]?=some t) {w:World} {b:Nat} {l:List (α×β)} (h:(Ze kv vv b l).holds w) (x:α) :
    ∃ w',(ZBn ats ty #[.map (some b),kv x]).run P w=.ok (.tuple #[]) w'∧(Ze kv vv b (Jw l x)).holds w'∧BelB b w w':=by
  obtain ⟨es,clock,h1,h2,h3,h4,h5⟩:=h
  have hlt:=Zcg h1
  have hg:(getObj b).run P w=.ok (.map es clock) w:=by simp [getObj,Zy7,h1]
  have hlen:es.size=l.length:=by have:=congrArg Zzx h2; simpa using this
  cases hf:Za3 l x 0 with
  | none =>
    obtain ⟨_,_,q3,_⟩:=Zic hf
    refine⟨setBlock w b (.map es clock),?_,⟨_,_,Zfh hlt,by rw [q3]; exact h2,h3,h4,by rw [q3]; exact h5⟩,BelB.set _ _ _⟩
    simp [ZBn,ha,Zyu,run_underlying ht,Zyv,hg,Zyw,K.check,Zfg K w x es.toList l h2,hf,Zie h1]
  | some q =>
    obtain ⟨j,u⟩:=q
    obtain ⟨_,q1,_,_,q4⟩:=Zid hf
    rw [Nat.sub_zero] at q1 q4
    have hj:j < l.length:=(List.getElem?_eq_some_iff.1 q1).1
    have hjs:j < es.size:=by omega
    have hE:(es.eraseIdxIfInBounds j).toList=es.toList.eraseIdx j:=by
      simp [Array.eraseIdxIfInBounds,hjs]
    refine⟨setBlock w b (.map (es.eraseIdxIfInBounds j) clock),?_,⟨_,_,Zfh hlt,?_,?_,?_,?_⟩,BelB.set _ _ _⟩
    · simp [ZBn,ha,Zyu,run_underlying ht,Zyv,hg,Zyw,K.check,Zfg K w x es.toList l h2,hf,Zie h1]
    · rw [q4,hE,Zz1,Zz1,h2]
    · rw [hE,Zz1]; exact h3.sublist (ZA4 ..)
    · rw [hE]; exact fun e he=>h4 e (List.mem_of_mem_eraseIdx he)
    · rw [q4,Zz1]; exact h5.sublist (ZA4 ..)
theorem Zqv {w:World} {b:Nat} {l:List (α×β)} (h:(Ze kv vv b l).holds w):∃ es clock,w.heap[b]?=some (.map es clock)∧es.size=l.length:=by
  obtain ⟨es,clock,h1,h2,_⟩:=h
  exact⟨es,clock,h1,by have:=congrArg Zzx h2; simpa using this⟩
end
section
variable {P:Program} {ops:Array Oper} {Q:Exit→Act→World→Prop} {n:Nat} {e:Env} {w w':World} {rest:List Oper}
variable {X:Nat→Prop} {w0:World} {M Ps:List Item}
variable {d ty:Nat} {pos:String} {af:Array Edge} {gd:Option (Nat×Bool)}
variable {α β:Type} [DecidableEq α] {kv:α→Value} {vv:β→Value}
theorem Ctx.turnB (h:Ctx X w0 w M Ps) (k:Nat) {it jt:Item} {b:Nat} (hk:M[k]?=some it) (hb:BelB b w w') (hi:it.fp=[b]) (hj:jt.fp=[b]) (hh:jt.holds w'):Ctx X w0 w' (M.set k jt) Ps :=
  h.turn k hk hb.os hb.tape hb.output hb.size hb.drawn (fun c hc hc'=>hb.old c hc (by simpa [hi] using hc')) hh (fun c hc=>.inl (by rw [hi]; rwa [hj] at hc))
theorem Zqw {o:Oper} {v:Value} (hg:o.guard=none) (hd:o.dst=none) (hr:(execOp (ev n e) o).run P w=.ok (.value v) w')
    (h:W P ops Q rest n e w'):W P ops Q (o::rest) n e w:=by
  refine⟨?_⟩
  unfold wpList
  rw [if_pos (by simp [Zyx,hg])]
  refine .inl ?_
  unfold Zzg
  rw [Zbt,hr,ZAe,hd]
  exact h.out
theorem Ctx.start1 (w:World) (b:Nat) {it:Item} (hfp:it.fp=[b]) (Ps:List Item) (hi:it.holds w) (hp:∀ jt,jt∈Ps→jt.holds w) (hd:∀ jt,jt∈Ps→∀ c,c∈jt.fp→c≠b):Ctx (fun c=>c=b) w w [it] Ps :=
  ⟨rfl,rfl,rfl,Zy1 _,Zy1 _,fun _ _ _=>rfl,by simpa using hi,hp,by simp [hfp],by simp,fun jt hj c hc m hm hcm=>by
    obtain rfl:m=it:=by simpa using hm
    rw [hfp] at hcm
    exact hd jt hj c hc (ZAs.1 hcm)⟩
theorem Ctx.belB {b:Nat} (h:Ctx (fun c=>c=b) w0 w M Ps):BelB b w0 w:=⟨h.os,h.tape,h.output,h.size,h.drawn,fun c hc hne=>h.old c hc hne⟩
theorem Ctx.mm (h:Ctx X w0 w M Ps) (i j:Nat) {a c:Item} (hi:M[i]?=some a) (hj:M[j]?=some c) (hne:i≠j):∀ x,x∈a.fp→x∉c.fp:=by
  obtain ⟨h1,e1⟩:=List.getElem?_eq_some_iff.1 hi
  obtain ⟨h2,e2⟩:=List.getElem?_eq_some_iff.1 hj
  subst e1 e2
  rcases ZA3 hne with hl | hl
  · exact Zza.1 h.dis i j h1 h2 hl
  · exact fun x hx hx'=>Zza.1 h.dis j i h2 h1 hl x hx' hx
theorem Zfi (h:Ctx Nox w0 w M Ps) (k:Nat) {b:Nat} {l:List (α×β)} (hk:M[k]?=some (Ze kv vv b l)):w0.heap.size≤b :=
  (h.mfp _ (List.mem_of_getElem? hk) b (by simp [Ze])).elim id (fun x=>x.elim)
theorem Zfj (hC:Ctx X w0 w M Ps) {t:Nat} (kv:α→Value) (vv:β→Value) (h:∀ b w',Bel w w'→Ctx X w0 w' (Ze kv vv b []::M) Ps→W P ops Q rest n (upd e d (.map (some b))) w') :
    W P ops Q (⟨some d,.makeMap t none,ty,pos,af,none⟩::rest) n e w:=by
  have hB:Bel w (w.alloc (.map #[] 0)):=Bel.alloc _ _
  refine Xd (.map (some w.heap.size)) rfl rfl ?_ (h w.heap.size _ hB (hC.push hB _ ⟨#[],0,heap_alloc_new _ _,rfl,by simp,by simp,by simp⟩ (by simp [Ze])))
  simp [execOp,Instr.makeMap,newObj,Zy7,Result.andThen]
theorem Zj8 (hC:Ctx X w0 w M Ps) (j:Nat) {t k el b:Nat} {l:List (α×β)} {x y z:Operand} (kx:α) (v:β) (hk:M[j]?=some (Ze kv vv b l)) (K:KeyT P k kv) (ht:P.underlying t=some (.map k el))
    (hx:ev n e x=.map (some b)) (hy:ev n e y=kv kx) (hz:ev n e z=vv v) (h:∀ w',Ctx X w0 w' (M.set j (Ze kv vv b (Zz l kx v))) Ps→W P ops Q rest n e w') {op:Op} (hop:op=.mapUpdate t x y z∨op=.insert t x y z) :
    W P ops Q (⟨none,op,ty,pos,af,none⟩::rest) n e w:=by
  obtain ⟨w',hr,hh,hb⟩:=Zm1 K ht (hC.getM j hk) kx v
  refine Zcv rfl rfl ?_ (h w' (hC.turnB j hk hb rfl rfl hh))
  rcases hop with rfl | rfl <;> simp [execOp,hx,hy,hz,hr]
theorem Zqx (hC:Ctx X w0 w M Ps) (j:Nat) {t k el b:Nat} {l:List (α×β)} {x y:Operand} (kx:α) (hk:M[j]?=some (Ze kv vv b l)) (K:KeyT P k kv) (ht:P.underlying t=some (.map k el))
    (hx:ev n e x=.map (some b)) (hy:ev n e y=kv kx) {ats:Array TypeId} (ha:ats[0]?=some t) (h:∀ w',Ctx X w0 w' (M.set j (Ze kv vv b (Jw l kx))) Ps→W P ops Q rest n e w') :
    W P ops Q (⟨none,.call { callee:=.builtin .delete,args:=#[x,y],argTypes:=ats }, ty,pos,af,none⟩::rest) n e w:=by
  obtain ⟨w',hr,hh,hb⟩:=Zqu (ty:=ty) K ht ha (hC.getM j hk) kx
  refine Zqw (v:=.tuple #[]) rfl rfl ?_ (h w' (hC.turnB j hk hb rfl rfl hh))
  simp [execOp,resolve,invoke,builtin,hx,hy,hr]
theorem Zm2 {t k el b:Nat} {l:List (α×β)} {x y:Operand} (kx:α) (z:β) (hh:(Ze kv vv b l).holds w) (K:KeyT P k kv) (ht:P.underlying t=some (.map k el)) (hz:Je P el (vv z))
    (hx:ev n e x=.map (some b)) (hy:ev n e y=kv kx):(execOp (ev n e) ⟨some d,.lookup t x y false,ty,pos,af,gd⟩).run P w=.ok (.value (vv ((Xu l kx).getD z))) w:=by
  simp [execOp,hx,hy,Zqt K ht hh kx hz]
theorem Zqy {t k el b:Nat} {l:List (α×β)} {x y:Operand} (kx:α) (z:β) (hh:(Ze kv vv b l).holds w) (K:KeyT P k kv) (ht:P.underlying t=some (.map k el)) (hz:Je P el (vv z))
    (hx:ev n e x=.map (some b)) (hy:ev n e y=kv kx) (h:W P ops Q rest n (upd e d (vv ((Xu l kx).getD z))) w):W P ops Q (⟨some d,.lookup t x y false,ty,pos,af,none⟩::rest) n e w :=
  Xd _ rfl rfl (Zm2 kx z hh K ht hz hx hy) h
theorem Zqz {t k el b:Nat} {l:List (α×β)} {x:Operand} (hh:(Ze kv vv b l).holds w) (ht:P.underlying t=some (.map k el)) (hx:ev n e x=.map (some b)) {ats:Array TypeId} (ha:ats=#[t]) :
    (execOp (ev n e) ⟨some d,.call { callee:=.builtin .len,args:=#[x],argTypes:=ats }, ty,pos,af,gd⟩).run P w=.ok (.value (.int .i64 l.length)) w:=by
  obtain ⟨es,clock,h1,h2⟩:=Zqv hh
  have hg:(getObj b).run P w=.ok (.map es clock) w:=by simp [getObj,Zy7,h1]
  subst ha
  simp [execOp,resolve,invoke,hx,builtin,ZBb,run_underlying ht,hg,goInt,h2]
theorem Zq0 {t k el b:Nat} {l:List (α×β)} {x:Operand} (hh:(Ze kv vv b l).holds w) (ht:P.underlying t=some (.map k el)) (hx:ev n e x=.map (some b)) {ats:Array TypeId} (ha:ats=#[t])
    (h:W P ops Q rest n (upd e d (.int .i64 l.length)) w):W P ops Q (⟨some d,.call { callee:=.builtin .len,args:=#[x],argTypes:=ats }, ty,pos,af,none⟩::rest) n e w :=
  Xd _ rfl rfl (Zqz hh ht hx ha) h
theorem Zq1 (es:Array MapEntry):leftOf es #[]=es:=by simp [leftOf]
theorem Zfk (hC:Ctx X w0 w M Ps) (j:Nat) {t k el b:Nat} {l:List (α×β)} {x:Operand} (hk:Ps[j]?=some (Ze kv vv b l)) (ht:P.underlying t=some (.map k el)) (hx:ev n e x=.map (some b))
    (h:∀ r es clock w',Bel w w'→(es.toList.map (·.born)).Nodup→(∀ e∈es.toList,e.born < clock)→Ctx X w0 w' (itI kv vv r b es clock none l::M) (Y3 b es clock::Ps)→W P ops Q rest n (upd e d (.pointer (some ⟨r,0,none⟩))) w') :
    W P ops Q (⟨some d,.range t x,ty,pos,af,none⟩::rest) n e w:=by
  obtain ⟨es,clock,h1,h2,h3,h4,h5⟩:=hC.getP j hk
  have hg:(getObj b).run P w=.ok (.map es clock) w:=by simp [getObj,Zy7,h1]
  have hC2:=hC.derive j hk (Y3 b es clock) (fun _=>h1) (fun _ h=>h)
  have hB:Bel w (w.alloc (.mapIter (some b) clock #[] clock)):=Bel.alloc _ _
  refine Xd _ rfl rfl ?_ (h w.heap.size es clock _ hB h3 h4 (hC2.push hB _ ⟨#[],clock,heap_alloc_new _ _,Zy1 _,by rw [Zq1]; exact h2,by simp⟩ (by simp [itI])))
  simp [execOp,Instr.range,hx,run_underlying ht,hg,newObj,Zy7,Result.andThen]
theorem Zq2 {es : Array MapEntry} {seen : Array Nat} (hn : (es.toList.map (·.born)).Nodup) {i : Nat} (hi : i < (leftOf es seen).toList.length) :
    (leftOf es (seen.push ((leftOf es seen).toList[i]).born)).toList=(leftOf es seen).toList.eraseIdx i:=by
  have hN:((leftOf es seen).toList.map (·.born)).Nodup:=by
    unfold leftOf; rw [ZCw]
    exact hn.sublist (List.filter_sublist.map _)
  have h1:leftOf es (seen.push ((leftOf es seen).toList[i]).born)=(leftOf es seen).filter (fun e=>e.born != ((leftOf es seen).toList[i]).born):=by
    generalize ((leftOf es seen).toList[i]).born=q
    unfold leftOf
    rw [Array.filter_filter]
    congr 1
    funext e
    simp [Array.contains_push,bne,Bool.not_or]
    cases hq:decide (e.born=q) <;> simp_all
  rw [h1,ZCw]
  clear h1
  generalize (leftOf es seen).toList=L at hN hi ⊢
  induction L generalizing i with
  | nil=>simp at hi
  | cons a L ih =>
    rw [Zy8,Zzk] at hN
    cases i with
    | zero =>
      have:L.filter (fun e=>e.born != a.born)=L:=by
        rw [List.filter_eq_self]
        intro x hx
        have:x.born≠a.born:=fun e=>hN.1 (e ▸ Zy2.2 ⟨x,hx,rfl⟩)
        simpa using this
      simp [this]
    | succ i =>
      have hi':i < L.length:=by simpa using hi
      have hne:a.born≠(L[i]).born:=fun e=>hN.1 (e ▸ Zy2.2 ⟨L[i],Zzv hi',rfl⟩)
      have:=ih hN.2 hi'
      simp [hne,this]
theorem Zfl (hC : Ctx X w0 w M Ps) (j p : Nat) {r b : Nat} {es : Array MapEntry} {clock : Nat} {last : Option MapEntry} {l : List (α × β)} {x : Operand} (hk : M[j]? = some (itI kv vv r b es clock last l)) (hp : Ps[p]? = some (Y3 b es clock))
    (hn:(es.toList.map (·.born)).Nodup) (hb:∀ e∈es.toList,e.born < clock) (hx:ev n e x=.pointer (some ⟨r,0,none⟩))
    (h0:l=[]→W P ops Q rest n (upd e d (.tuple #[.bool false])) w)
    (h1:∀ q l' ent w',Zdi l q l'→ent.key=kv q.1→ent.val=vv q.2→Ctx X w0 w' (M.set j (itI kv vv r b es clock (some ent) l')) Ps→W P ops Q rest n (upd e d (.tuple #[.bool true,kv q.1,vv q.2])) w') :
    W P ops Q (⟨some d,.next x false,ty,pos,af,none⟩::rest) n e w:=by
  obtain ⟨seen,c0,g1,g2,g3,g4⟩:=hC.getM j hk
  have g0:w.heap[b]?=some (.map es clock):=hC.getP p hp
  rcases run_next_at (P:=P) w ty r b clock c0 seen es clock g1 g0 hb g2 with ⟨hs,hr⟩ | ⟨ent,hent,w1,hw1,hr⟩
  · have:l=[]:=by
      have:=congrArg Zzx g3
      simp only [List.length_map,ZAh,hs] at this
      exact ZCy.1 this.symm
    exact Xd _ rfl rfl (by simp [execOp,hx,hr]) (h0 this)
  · obtain ⟨i,hi,hie⟩:=Zzo hent
    have hlen:i < l.length:=by have:=congrArg Zzx g3; simp only [List.length_map] at this; omega
    have hq:=congrArg (·[i]?) g3
    simp only [List.getElem?_map,List.getElem?_eq_getElem hi,List.getElem?_eq_getElem hlen,ZAa,Option.some.injEq,Zz8,hie] at hq
    have hlt:r < w1.heap.size:=by rcases hw1 with rfl | rfl <;> exact Zcg g1
    have hB:BelB r w (setBlock w1 r (.mapIter (some b) clock (seen.push ent.born) clock)):=by
      rcases hw1 with rfl | rfl
      · exact BelB.set _ _ _
      · have:=BelB.set w.drew r (.mapIter (some b) clock (seen.push ent.born) clock)
        exact⟨this.os,this.tape,this.output,this.size,Zy6 (Zz2 _) this.drawn,this.old⟩
    refine Xd _ rfl rfl (by simp [execOp,hx,hr,hq.1,hq.2]) (h1 l[i] (l.eraseIdx i) ent _ ⟨i,hlen,rfl,rfl⟩ hq.1 hq.2 (hC.turnB j hk hB rfl rfl ⟨seen.push ent.born,clock,Zfh hlt,Zy1 _,?_,?_⟩))
    · subst hie
      rw [Zq2 hn hi,Zz1,g3,← Zz1]
    · intro e2 he2
      obtain rfl:ent=e2:=by simpa using he2
      exact⟨⟨seen,rfl⟩,rfl,(mem_left hent).1⟩
theorem Zfm (hC:Ctx X w0 w M Ps) (j p:Nat) {r b:Nat} {es:Array MapEntry} {clock:Nat} {ent:MapEntry} {l:List (α×β)} {x:Operand} (q:α×β) (hk:M[j]?=some (itI kv vv r b es clock (some ent) l)) (hp:Ps[p]?=some (Y3 b es clock))
    (hn:(es.toList.map (·.born)).Nodup) (hx:ev n e x=.pointer (some ⟨r,0,none⟩)) (hkq:ent.key=kv q.1) (hvq:ent.val=vv q.2)
    (h:W P ops Q rest n (upd e d (.tuple #[kv q.1,vv q.2])) w) :
    W P ops Q (⟨some d,.entry x,ty,pos,af,none⟩::rest) n e w:=by
  obtain ⟨seen,c0,g1,g2,g3,g4⟩:=hC.getM j hk
  obtain ⟨⟨s,rfl⟩,rfl,hm⟩:=g4 ent rfl
  have g0:w.heap[b]?=some (.map es c0):=hC.getP p hp
  exact Xd _ rfl rfl (by simp [execOp,hx,run_entry_at (P:=P) w r b c0 s es c0 ent g1 g0 hm hn,hkq,hvq]) h
end
def Zbx {α β S:Type} [DecidableEq α] (body:α×β→S→(S→Prop)→Prop) (exit:S→Prop):Nat→List (α×β)→S→Prop
  | 0,_,s=>exit s
  | k+1,l,s=>∀ p l',Zdi l p l'→body p s (Zbx body exit k l')
section
variable {P:Program} {c:Code} {Q:Exit→Act→World→Prop} {n:Nat} {e:Env} {w:World}
theorem Zfn {α β:Type} [DecidableEq α] {l l':List (α×β)} {p:α×β} (h:Zdi l p l'):l.length=l'.length+1:=by
  obtain ⟨i,hi,_,rfl⟩:=h
  rw [ZBw hi]; omega
theorem Zfo {α β S:Type} [DecidableEq α] (B:α×β→S→(S→Prop)→Prop) (E:S→Prop) (I:List (α×β)→S→Env→World→Prop)
    (body:∀ l s e w (next:List (α×β)→S→Prop) (K:Act→World→Prop),I l s e w→(l=[]→E s)∧(∀ p l',Zdi l p l'→B p s (next l'))→(∀ p l' s' e' w',Zdi l p l'→I l' s' e' w'→next l' s'→K (actOf n e') w')→c.wp P (Exit.then K Q) (actOf n e) w)
    {l0:List (α×β)} {s0:S} (h0:I l0 s0 e w) (hF:Zbx B E l0.length l0 s0):(Code.loop c).wp P Q (actOf n e) w:=by
  have L:∀ k l s e w,l.length=k→I l s e w→Zbx B E k l s→Code.rounds P c Q (k+1) (actOf n e) w:=by
    intro k
    induction k with
    | zero =>
      intro l s e w hl hI h
      refine body l s e w (fun _ _=>True) _ hI ⟨fun _=>h,fun p l' hp=>?_⟩ (fun p l' s' e' w' hp _ _=>?_)
      · have:=Zfn hp; omega
      · have:=Zfn hp; omega
    | succ k ih =>
      intro l s e w hl hI h
      refine body l s e w (Zbx B E k) _ hI ⟨fun hn=>by subst hn; simp at hl,fun p l' hp=>h p l' hp⟩ (fun p l' s' e' w' hp hI' h'=>?_)
      have:=Zfn hp
      exact ih l' s' e' w' (by omega) hI' h'
  exact wp_loop_rounds (l0.length+1) (L l0.length l0 s0 e w rfl h0 hF)
end
end Vc
namespace Vc
open Go Go.RowKit
section
variable {P:Program} {k el len:Nat} {ik:IntKind}
theorem Zq3 {d:Nat} (he:P.underlying el=some (.int ik)) (w:World) (a b:Int):(ZAx (d+1) el (.int ik a) (.int ik b)).run P w=.ok (decide (a=b)) w:=by
  unfold ZAx
  simp [Zyu,run_underlying he,ZA6]
theorem Zm3 (hk:P.underlying k=some (.array 8 el)) (he:P.underlying el=some (.int ik)) (hs:ScaT P el):KeyT P k (kvA ik) where
  under:=⟨_,hk,.inl fun x u=>by cases u <;> rfl⟩
  check em w x:=by
    have hi:∀ m y,(ZAc em (m+1) el (.int ik y)).run P w=.ok () w:=by
      intro m y; unfold ZAc; simp [Zyu,run_underlying he]
    show (ZAc em (9999+1) k _).run P w=_
    unfold ZAc
    simp only [Zyu,run_underlying hk,Zyv]
    simp [ZCz,List.range',Za1 hs.size,part,Ze8 hs,A8.enc,Zyu,hi 9998]
  equal w x y:=by
    show (ZAx (9999+1) k _ _).run P w=_
    unfold ZAx
    simp only [Zyu,run_underlying hk,Zyv]
    simp [ZCz,List.range',Za1 hs.size,part,Ze8 hs,A8.enc,Zyu,Zq3 (d:=9998) he]
    have e:(x=y)↔(x.x0=y.x0∧x.x1=y.x1∧x.x2=y.x2∧x.x3=y.x3∧x.x4=y.x4∧x.x5=y.x5∧x.x6=y.x6∧x.x7=y.x7):=by cases x; cases y; simp
    simp only [e]
    (repeat' split) <;> simp_all
  stays x:=by simp [Instr.sameBits,A8.enc]
end
end Vc
namespace Vc
open Go Go.RowKit
open Go.Proofs (CmpLays sortWorldK ltOf)
open Go.Sort (grow putRowK flatK HoldsK SWO PermIn SortedIn mapBlock onCells putCells putRow)
structure BelO (fp:List Nat) (w w':World):Prop where
  os:w'.os=w.os
  tape:w'.tape=w.tape
  output:w'.output=w.output
  size:w.heap.size≤w'.heap.size
  drawn:w.drawn≤w'.drawn
  old:∀ c,c < w.heap.size→c∉fp→w'.heap[c]?=w.heap[c]?
section
variable {P:Program} {ops:Array Oper} {Q:Exit→Act→World→Prop} {n:Nat} {e:Env} {w w':World} {rest:List Oper}
variable {X:Nat→Prop} {w0:World} {M Ps:List Item}
variable {d ty:Nat} {pos:String} {af:Array Edge}
structure Cmp (P:Program) (ρ:Go.Shelf.Ren) {α:Type} [Inhabited α] (E:Enc α) (Ok:α→Prop) (cf:α→α→Int) (g:Nat):Prop where
  lays:Go.Proofs.SlLaysF0.n6 P ρ
  one:∃ x0,Ok x0
  agg:AggT P (ρ.t 24) E.sz
  swo:SWO (ltOf (fun a b:{a // Ok a}=>cf a.1 b.1))
  fn:∃ fn:Func,P.funcs[g]?=some fn∧fn.body.isNone=false∧(fn.name == "runtime.NumGoroutine")=false
  call:∀ a b,Ok a→Ok b→∀ w,Calls P g #[.agg (E.enc a).toArray,.agg (E.enc b).toArray] w fun e w'=>e=.returned (.int .i64 (cf a b))∧Bel w w'
end
end Vc
namespace Vc
open Go Go.RowKit
open Go.Proofs (ltOf)
open Go.Sort (SWO)
def A8.list (a:A8):List Int:=[a.x0,a.x1,a.x2,a.x3,a.x4,a.x5,a.x6,a.x7]
def J3:List Int→List Int→Int
  | x::xs,y::ys=>if x≠y then y - x else J3 xs ys
  | _,_=>0
def pcmp (a b:A8):Int:=J3 a.list b.list
def OkP (a:A8):Prop:=∀ x,x∈a.list→0≤x∧x≤1099511627776
theorem Zq4 (xs:List Int):J3 xs xs=0:=by
  induction xs with
  | nil=>rfl
  | cons x xs ih=>simp [J3,ih]
theorem Zm4:∀ (xs ys zs:List Int),xs.length=ys.length→ys.length=zs.length→J3 xs ys < 0→J3 ys zs < 0→J3 xs zs < 0
  | [],[],_,_,_,h,_=>by simp [J3] at h
  | x :: xs, y :: ys, z :: zs, h1, h2, h3, h4 => by
    simp only [J3] at h3 h4 ⊢
    have:=Zm4 xs ys zs (by simpa using h1) (by simpa using h2)
    split at h3 <;> split at h4 <;> split <;> first | omega | exact this h3 h4
  | x::xs,y::ys,[],_,h,_,_=>by simp at h
theorem OkP.zero:OkP A8.zero:=by simp [OkP,A8.list,A8.zero]
theorem OkP.sub {a b:A8} (ha:OkP a) (hb:OkP b):(0≤a.x0∧a.x0≤1099511627776∧0≤b.x0∧b.x0≤1099511627776)∧(0≤a.x1∧a.x1≤1099511627776∧0≤b.x1∧b.x1≤1099511627776)∧(0≤a.x2∧a.x2≤1099511627776∧0≤b.x2∧b.x2≤1099511627776)∧(0≤a.x3∧a.x3≤1099511627776∧0≤b.x3∧b.x3≤1099511627776) ∧
    (0≤a.x4∧a.x4≤1099511627776∧0≤b.x4∧b.x4≤1099511627776)∧(0≤a.x5∧a.x5≤1099511627776∧0≤b.x5∧b.x5≤1099511627776)∧(0≤a.x6∧a.x6≤1099511627776∧0≤b.x6∧b.x6≤1099511627776)∧(0≤a.x7∧a.x7≤1099511627776∧0≤b.x7∧b.x7≤1099511627776):=by
  simp only [OkP,A8.list,Zyz,ZAt,or_false,forall_eq_or_imp,forall_eq] at ha hb
  omega
def Zm5 (a0 a1:A8) (K:Int→Prop):Prop:=Yt (fun i (s:Unit) next=>(if a0.get i≠a1.get i then K (ZA7.wrap ((a1.get i) - (a0.get i))) else next ())) (fun (s:Unit)=>K 0) 8 0 ()
theorem Zq5 {a b:A8} {K:Int→Prop} (ha:OkP a) (hb:OkP b) (h:K (pcmp a b)):Zm5 a b K:=by
  obtain ⟨h0,h1,h2,h3,h4,h5,h6,h7⟩:=ha.sub hb
  simp only [Zm5,Yt,A8.get]
  simp only [pcmp,A8.list,J3] at h
  repeat' split
  all_goals (first | (rw [i64_in _ (by omega)]; simp_all; done) | simp_all)
end Vc
namespace Vc
open Go Go.RowKit Go.ChangeShapes Go.WideShapes Go.ChangeAt
section
variable {H:Type} {enc:TypeId×Value→H} {P:Program} {W:World}
abbrev allB (W:World):List Nat:=Zzj W.heap.size
def Opens (enc:TypeId×Value→H) (P:Program) (W:World) (t:TypeId) {α:Type} (T:Ty α) (G:α→Prop):Prop :=
  ∀ fuel cs x,DataW.trod enc P W 0 (fun _=>true) true fuel t cs=some x→∃ a,T.rep a cs (allB W) W∧G a
theorem Zej:∀ b,b∈allB W→b < W.heap.size:=by simp
def Fit (k:IntKind) (n:Int):Prop:=(Lit.int k n).wf=true
def Za0 (k:IntKind) (a:A8):Prop:=∀ x,x∈a.list→Fit k x
theorem Zq6 {t:TypeId} {k:IntKind} (ht:P.underlying t=some (.int k)):Opens enc P W t (EI k).ty (Fit k):=by
  intro fuel cs x h
  obtain ⟨n,rfl,_,hw⟩:=DataW.trod_int ht h
  exact⟨n,⟨Zej,rfl⟩,hw⟩
theorem Zq7 {t e:TypeId} {k:IntKind} (ht:P.underlying t=some (.array 8 e)) (he:P.underlying e=some (.int k)) (hc:P.cellsOf e=1) (hc8:P.cellsOf t=8):Opens enc P W t (EA k).ty (Za0 k):=by
  intro fuel cs x h
  obtain ⟨xs,m,rfl,_,hl,hxl,hx⟩:=DataW.trod_array ht h
  rw [hc8] at hl
  have key:∀ i,i < 8→∃ n,cs[i]?=some (.int k n)∧Fit k n:=by
    intro i hi
    have h1:=hx i hi
    rw [List.getElem?_eq_getElem (by omega)] at h1
    obtain ⟨n,h2,_,hw⟩:=DataW.trod_int he h1
    rw [hc,Nat.mul_one,ZAl,List.head?_drop] at h2
    refine⟨n,?_,hw⟩
    cases hq:cs[i]? with
    | none=>rw [hq] at h2; cases h2
    | some v=>rw [hq] at h2; simpa using h2
  obtain ⟨n0,e0,w0⟩:=key 0 (by omega)
  obtain ⟨n1,e1,w1⟩:=key 1 (by omega)
  obtain ⟨n2,e2,w2⟩:=key 2 (by omega)
  obtain ⟨n3,e3,w3⟩:=key 3 (by omega)
  obtain ⟨n4,e4,w4⟩:=key 4 (by omega)
  obtain ⟨n5,e5,w5⟩:=key 5 (by omega)
  obtain ⟨n6,e6,w6⟩:=key 6 (by omega)
  obtain ⟨n7,e7,w7⟩:=key 7 (by omega)
  refine⟨⟨n0,n1,n2,n3,n4,n5,n6,n7⟩,⟨Zej,?_⟩,?_⟩
  · show cs=[.int k n0,.int k n1,.int k n2,.int k n3,.int k n4,.int k n5,.int k n6,.int k n7]
    apply List.ext_getElem?
    intro i
    by_cases hi:i < 8
    · match i,hi with
      | 0,_=>exact e0
      | 1,_=>exact e1
      | 2,_=>exact e2
      | 3,_=>exact e3
      | 4,_=>exact e4
      | 5,_=>exact e5
      | 6,_=>exact e6
      | 7,_=>exact e7
    · rw [List.getElem?_eq_none (by omega),List.getElem?_eq_none (by simp; omega)]
  · intro x hx
    simp only [A8.list,Zyz,ZAt,or_false] at hx
    rcases hx with rfl | rfl | rfl | rfl | rfl | rfl | rfl | rfl <;> assumption
theorem Zq8 {sz:Nat} (L:List (List Value)) (hL:∀ c,c∈L→c.length=sz) (i:Nat) (hi:i < L.length):(L.flatten.drop (i * sz)).take sz=L[i]:=by
  induction L generalizing i with
  | nil=>simp at hi
  | cons c L ih =>
    have hc:=hL c (by simp)
    cases i with
    | zero=>simp [ZBo,← hc]
    | succ i =>
      rw [ZBo,Zzl,Zzw,Zz7 (i * sz),← ZAo,ZAp hc]
      exact ih (fun c' h'=>hL c' (by simp [h'])) i (by simpa using hi)
theorem Zj9 {sz:Nat} (L:List (List Value)) (hL:∀ c,c∈L→c.length=sz):L.flatten.length=L.length * sz:=by
  induction L with
  | nil=>simp
  | cons c L ih=>rw [ZBo,ZBe,hL c (by simp),ih (fun c' h'=>hL c' (by simp [h'])),List.length_cons,Zzl,Zzw,Zz7]
theorem Zka {α : Type} [Inhabited α] {T : Ty α} {G : α → Prop} {t e : TypeId} (ht : P.underlying t = some (.slice e)) (hc : P.cellsOf e = T.sz) (hpos : 0 < T.sz) (ho : Opens enc P W e T G) : Opens enc P W t T.sl (fun xs => ∀ x, x ∈ xs → G x) := by
  intro fuel cs x h
  rcases Go.Deep.open_slice ht h with ⟨rfl,rfl⟩ | ⟨a,len,cap,m,n,D,Pl,rfl,_,hl,hm,hmm,rfl,hx⟩
  · exact⟨[],T.sl.more (Zmn T W) (by simp) Zej,by simp⟩
  · have hlm:len≤m:=by rw [hmm]; simp [hl]
    obtain ⟨f,hf⟩:=Go.Deep.choose_lt (n:=len) (p:=fun i (q:α×List Value)=>W.cells? 0 (a.add (i * P.cellsOf e)) (P.cellsOf e)=some q.2∧T.rep q.1 q.2 (allB W) W∧G q.1) (fun i hi=>by
      obtain ⟨cs',h1,h2⟩:=hx i (by omega)
      obtain ⟨x0,hr,hg⟩:=ho _ _ _ h2
      exact⟨(x0,cs'),h1,hr,hg⟩)
    let L:=(Zzj len).map (fun i=>(f i).2)
    have hLs:∀ c,c∈L→c.length=T.sz:=by
      intro c hcm
      obtain ⟨i,hi,rfl⟩:=Zy2.1 hcm
      exact T.len (hf i (by simpa using hi)).2.1
    have hLl:L.length=len:=by simp [L]
    have hxl:((Zzj len).map (fun i=>(f i).1)).length=len:=by simp
    have hseg:∀ i (hi:i < len),(L.flatten.drop (i * T.sz)).take T.sz=(f i).2:=by
      intro i hi
      rw [Zq8 L hLs i (by omega)]
      simp [L]
    refine⟨(Zzj len).map (fun i=>(f i).1),⟨_,L.flatten,rfl,⟨Zej,?_,?_,some a,cap,by rw [hxl],fun hn=>⟨a,rfl,?_,?_⟩⟩,Zej,?_,?_,?_⟩,?_⟩
    · rw [Zj9 L hLs,hLl,hxl]
    · rw [hxl]; omega
    · rw [hxl] at hn
      have:=World.cells?_block (hf 0 hn).1 (by rw [hc]; exact hpos)
      simpa [Zz4] using this
    · intro j u hj
      have hjl:j < len * T.sz:=by
        have:=(List.getElem?_eq_some_iff.1 hj).1
        rwa [Zj9 L hLs,hLl] at this
      have hi:j / T.sz < len:=Nat.div_lt_of_lt_mul (by rw [ZAr]; exact hjl)
      have hj2:=congrArg (fun l:List Value=>l[j % T.sz]?) (hseg _ hi)
      simp only [List.getElem?_take,List.getElem?_drop,Nat.mod_lt _ hpos,if_true,Nat.div_add_mod'] at hj2
      rw [hj] at hj2
      obtain ⟨_,_,h3⟩:=World.cells?_some (hf _ hi).1
      have h4:=h3 (j % T.sz) (by rw [hc]; exact Nat.mod_lt _ hpos)
      rw [hc,Zdf,Nat.div_add_mod'] at h4
      rw [h4]; exact hj2.symm
    · rw [Zj9 L hLs,hLl,hxl]
    · intro u hu
      obtain ⟨c,hcm,huc⟩:=List.mem_flatten.1 hu
      obtain ⟨i,hi,rfl⟩:=Zy2.1 hcm
      exact T.one (hf i (by simpa using hi)).2.1 u huc
    · intro i hi
      rw [hxl] at hi
      rw [hseg i hi]
      simpa using (hf i hi).2.1
    · intro x hx'
      obtain ⟨i,hi,rfl⟩:=Zy2.1 hx'
      exact(hf i (by simpa using hi)).2.2
theorem Opens.arg {α:Type} {T:Ty α} {G:α→Prop} {t:TypeId} (ho:Opens enc P W t T G) {v:Value} {d:DataW H} {ps:List MemPlace} (h:DataW.Trod enc P W 0 (fun _=>true) true t v d ps):∃ a,T.rep a v.cells.toList (allB W) W∧G a:=by
  obtain ⟨fuel,hf⟩:=h
  exact ho _ _ _ hf
theorem Zm6 {t:TypeId} {v:Value} {d:DataW H} {ps:List MemPlace} (h:DataW.Trod enc P W 0 (fun _=>true) true t v d ps):∀ x∈ps,x.block < W.heap.size:=by
  obtain ⟨m,hm⟩:=h
  exact DataW.trod_lt m _ _ _ hm
end
end Vc
namespace Vc
open Go
theorem Zq9 {P:Program} {w:World} {r:Reach} {base:Nat} {t:TypeId} {v:Value} (h:Value.okWide P w r base t v) (hu:∃ d,P.underlying t=some d∧(match d with | .struct _ | .array _ _=>true | _=>false)=true):∃ cs,v=.agg cs:=by
  obtain ⟨d,hu,hd⟩:=hu
  cases d <;> first
    | (simp only [Value.okWide,hu] at h; obtain ⟨cs,h1,_⟩:=h; exact⟨cs,h1⟩)
    | cases hd
theorem Zra {c:Array Value} (h:(Value.agg c).cells.toList.length=2):∃ u v,c=#[u,v]:=by
  obtain ⟨u,v,hu⟩:=Zmx h
  exact⟨u,v,by simpa [Value.cells] using congrArg List.toArray hu⟩
end Vc
namespace Vc
open Go Go.RowKit Go.ChangeShapes Go.WideShapes Go.ChangeAt
section
variable {H:Type} {enc:TypeId×Value→H} {P:Program} {W:World}
theorem Zrb {α β:Type} {T:Ty α} {G:α→Prop} (f:β→α) (g:α→β) (hg:∀ x,f (g x)=x) {t:TypeId} {f0:Field} (ht:P.underlying t=some (.struct #[f0])) (h0:f0.offset=0) (hc:P.cellsOf f0.type=P.cellsOf t)
    (h:Opens enc P W f0.type T G):Opens enc P W t (Ty.iso f T) (fun b=>G (f b)):=by
  intro fuel cs x hx
  obtain ⟨y0,n,_,hl,hy⟩:=trod_struct1 ht hx
  rw [h0,ZAn,Zzz (by omega)] at hy
  obtain ⟨a,hr,hga⟩:=h _ _ _ hy
  refine⟨g a,?_,?_⟩
  · show T.rep (f (g a)) cs (allB W) W
    rw [hg]; exact hr
  · show G (f (g a))
    rw [hg]; exact hga
theorem Zm7 {α γ β:Type} {T:Ty α} {S:Ty γ} {G:α→Prop} {D:γ→Prop} (f:β→α×γ) (g:α×γ→β) (hg:∀ x,f (g x)=x) {t:TypeId} {f0 f1:Field} (ht:P.underlying t=some (.struct #[f0,f1])) (h0:f0.offset=0)
    (h1:f1.offset=P.cellsOf f0.type) (hc:P.cellsOf f0.type+P.cellsOf f1.type=P.cellsOf t) (h:Opens enc P W f0.type T G) (k:Opens enc P W f1.type S D):Opens enc P W t (Ty.iso f (Ty.pair T S)) (fun b=>G (f b).1∧D (f b).2):=by
  intro fuel cs x hx
  obtain ⟨y0,y1,n,_,hl,hy,hz⟩:=trod_struct2 ht hx
  rw [h0,ZAn] at hy
  rw [h1,Zzz (by rw [List.length_drop]; omega)] at hz
  obtain ⟨a,hr,hga⟩:=h _ _ _ hy
  obtain ⟨c,hs,hgc⟩:=k _ _ _ hz
  refine⟨g (a,c),?_,?_⟩
  · show ∃ c1 c2,cs=c1++c2∧T.rep (f (g (a,c))).1 c1 (allB W) W∧S.rep (f (g (a,c))).2 c2 (allB W) W
    rw [hg]
    exact⟨_,_,(ZCk _ _).symm,hr,hs⟩
  · show G (f (g (a,c))).1∧D (f (g (a,c))).2
    rw [hg]; exact⟨hga,hgc⟩
theorem Zrc {t:TypeId} {f0 f1:Field} (ht:P.underlying t=some (.struct #[f0,f1])) (h0:f0.offset=0) (h1:f1.offset=P.cellsOf f0.type) (hc:P.cellsOf f0.type+P.cellsOf f1.type=P.cellsOf t)
    (h:Opens enc P W f0.type (EA .u8).ty (Za0 .u8)) (k:Opens enc P W f1.type (EI .i64).ty (Fit .i64)):Opens enc P W t ETerm.ty (fun x=>Za0 .u8 x.mono∧Fit .i64 x.factor):=by
  intro fuel cs x hx
  obtain ⟨a,⟨c1,c2,rfl,hr,hs⟩,hg⟩:=Zm7 (fun x:Term=>(x.mono,x.factor)) (fun p=>⟨p.1,p.2⟩) (fun _=>rfl) ht h0 h1 hc h k fuel cs x hx
  refine⟨a,⟨Zej,?_⟩,hg⟩
  rw [hr.2,hs.2]; rfl
end
end Vc
namespace Vc
open Go
theorem Xe {S:Type} {body:Nat→S→(S→Prop)→Prop} {exit:S→Prop} (I:Nat→S→Prop) (N:Nat)
    (step:∀ i s next,i < N→I i s→(∀ s',I (i+1) s'→next s')→body i s next) (fin:∀ s,I N s→exit s):∀ r i s,i+r=N→I i s→Yt body exit r i s:=by
  intro r
  induction r with
  | zero => intro i s hi h; obtain rfl : i = N := by omega
            exact fin s h
  | succ r ih=>intro i s hi h; exact step i s _ (by omega) h (fun s' h'=>ih (i+1) s' (by omega) h')
theorem X9 {S:Type} {body:S→(S→Prop)→Prop} (I:S→Prop) (μ:S→Nat) (step:∀ s next,I s→(∀ s',I s'→μ s' < μ s→next s')→body s next) {s:S} (h:I s):Xj body s:=by
  have L:∀ k s,I s→μ s < k→Zhx body k s:=by
    intro k
    induction k with
    | zero=>intro s _ hk; omega
    | succ k ih=>intro s hs hk; exact step s _ hs (fun s' h' hm=>ih s' h' (by omega))
  exact⟨μ s+1,L _ s h (ZAw _)⟩
theorem Zfp {α β S:Type} [DecidableEq α] {body:α×β→S→(S→Prop)→Prop} {exit:S→Prop} (I:List (α×β)→S→Prop)
    (step:∀ l p l' s next,Zdi l p l'→I l s→(∀ s',I l' s'→next s')→body p s next) (fin:∀ s,I [] s→exit s):∀ l s,I l s→Zbx body exit l.length l s:=by
  have L:∀ k l s,l.length=k→I l s→Zbx body exit k l s:=by
    intro k
    induction k with
    | zero=>intro l s hl h; obtain rfl:=ZCy.1 hl; exact fin s h
    | succ k ih =>
      intro l s hl h p l' hp
      exact step l p l' s _ hp h (fun s' h'=>ih l' s' (by have:=Zfn hp; omega) h')
  exact fun l s h=>L _ l s rfl h
theorem Zfq {α β:Type} [DecidableEq α] {l l':List (α×β)} {p:α×β} (h:Zdi l p l'):l.Perm (p::l'):=by
  obtain ⟨i,hi,rfl,rfl⟩:=h
  induction l generalizing i with
  | nil=>simp at hi
  | cons a l ih =>
    cases i with
    | zero=>simp
    | succ i =>
      have:=ih i (by simpa using hi)
      simp only [ZCj,List.eraseIdx_cons_succ]
      exact(this.cons a).trans (List.Perm.swap _ _ _)
namespace A8
theorem ext_get {a b:A8} (h:∀ i,i < 8→a.get i=b.get i):a=b:=by
  have h0:=h 0 (by omega); have h1:=h 1 (by omega); have h2:=h 2 (by omega); have h3:=h 3 (by omega)
  have h4:=h 4 (by omega); have h5:=h 5 (by omega); have h6:=h 6 (by omega); have h7:=h 7 (by omega)
  cases a; cases b
  simp only [get] at *
  simp only [A8.mk.injEq]
  exact⟨h0,h1,h2,h3,h4,h5,h6,h7⟩
theorem get_set {a:A8} {i j:Nat} {v:Int} (hi:i < 8):(a.set i v).get j=if j=i then v else a.get j:=by
  match i,hi with
  | 0, _ => match j with
    | 0 | 1 | 2 | 3 | 4 | 5 | 6 | 7=>rfl
    | j+8=>simp [set,get]
  | 1, _ => match j with
    | 0 | 1 | 2 | 3 | 4 | 5 | 6 | 7=>rfl
    | j+8=>simp [set,get]
  | 2, _ => match j with
    | 0 | 1 | 2 | 3 | 4 | 5 | 6 | 7=>rfl
    | j+8=>simp [set,get]
  | 3, _ => match j with
    | 0 | 1 | 2 | 3 | 4 | 5 | 6 | 7=>rfl
    | j+8=>simp [set,get]
  | 4, _ => match j with
    | 0 | 1 | 2 | 3 | 4 | 5 | 6 | 7=>rfl
    | j+8=>simp [set,get]
  | 5, _ => match j with
    | 0 | 1 | 2 | 3 | 4 | 5 | 6 | 7=>rfl
    | j+8=>simp [set,get]
  | 6, _ => match j with
    | 0 | 1 | 2 | 3 | 4 | 5 | 6 | 7=>rfl
    | j+8=>simp [set,get]
  | 7, _ => match j with
    | 0 | 1 | 2 | 3 | 4 | 5 | 6 | 7=>rfl
    | j+8=>simp [set,get]
theorem get_zero (i:Nat):zero.get i=0:=by
  match i with
  | 0 | 1 | 2 | 3 | 4 | 5 | 6 | 7=>rfl
  | i+8=>rfl
theorem mem_list {a:A8} {x:Int}:x∈a.list↔∃ i,i < 8∧a.get i=x:=by
  constructor
  · intro h
    simp only [list,Zyz,ZAt,or_false] at h
    rcases h with rfl | rfl | rfl | rfl | rfl | rfl | rfl | rfl
    · exact⟨0,by omega,rfl⟩
    · exact⟨1,by omega,rfl⟩
    · exact⟨2,by omega,rfl⟩
    · exact⟨3,by omega,rfl⟩
    · exact⟨4,by omega,rfl⟩
    · exact⟨5,by omega,rfl⟩
    · exact⟨6,by omega,rfl⟩
    · exact⟨7,by omega,rfl⟩
  · rintro ⟨i,hi,rfl⟩
    match i,hi with
    | 0,_=>simp [list,get]
    | 1,_=>simp [list,get]
    | 2,_=>simp [list,get]
    | 3,_=>simp [list,get]
    | 4,_=>simp [list,get]
    | 5,_=>simp [list,get]
    | 6,_=>simp [list,get]
    | 7,_=>simp [list,get]
def add (a b:A8):A8:=⟨a.x0+b.x0,a.x1+b.x1,a.x2+b.x2,a.x3+b.x3,a.x4+b.x4,a.x5+b.x5,a.x6+b.x6,a.x7+b.x7⟩
theorem get_add (a b:A8) (i:Nat):(a.add b).get i=a.get i+b.get i:=by
  match i with
  | 0 | 1 | 2 | 3 | 4 | 5 | 6 | 7=>rfl
  | i+8=>rfl
end A8
theorem Zkb {x:Int} (h:Fit .u8 x):0≤x∧x≤255:=by
  simp only [Fit,Lit.wf,Zzd,decide_eq_true_eq] at h
  simp [IntKind.min,IntKind.max,IntKind.signed,IntKind.bits] at h
  omega
theorem Zkc {k:IntKind} {a:A8} (h:Za0 k a) {i:Nat} (hi:i < 8):Fit k (a.get i):=h _ (A8.mem_list.2 ⟨i,hi,rfl⟩)
theorem Zif (x:Int) (h:0≤x∧x≤255):IntKind.u8.wrap x=x:=by
  simp [IntKind.wrap,IntKind.bits,IntKind.signed]; omega
def OkDeg (ds:List Int):Prop:=ds.length≤8∧∀ i,i < ds.length→1≤ds.getD i Zyt∧ds.getD i Zyt≤12
instance (ds:List Int):Decidable (OkDeg ds):=inferInstanceAs (Decidable (_∧∀ i,i < ds.length→_))
def OkMono (ds:List Int) (a:A8):Prop:=∀ i,i < 8→(i < ds.length→a.get i≤20∧(Zyy (ds.getD i Zyt) 2≠0→a.get i≤1))∧(ds.length≤i→a.get i=0)
instance (ds:List Int) (a:A8):Decidable (OkMono ds a):=inferInstanceAs (Decidable (∀ i,i < 8→_))
def X2 (ds:List Int) (a:A8):Prop:=∀ i,i < 8→(i < ds.length→a.get i≤100∧(Zyy (ds.getD i Zyt) 2≠0→a.get i≤1))∧(ds.length≤i→a.get i=0)
theorem OkMono.wk {ds:List Int} {a:A8} (h:OkMono ds a):X2 ds a:=fun i hi=>⟨fun hl=>⟨by have:=((h i hi).1 hl).1; omega,((h i hi).1 hl).2⟩,(h i hi).2⟩
theorem Zrd {d:Int} (h:1≤d∧d≤12):Zyy d 2=0∨Zyy d 2=1:=by
  rw [ZAy (by omega)]; omega
theorem OkDeg.odd {ds:List Int} (h:OkDeg ds) {i:Nat} (hi:i < ds.length):Zyy (ds.getD i Zyt) 2=0∨Zyy (ds.getD i Zyt) 2=1:=Zrd (h.2 i hi)
def Clash (ds:List Int) (a b:A8):Prop:=∃ i,i < ds.length∧Zyy (ds.getD i Zyt) 2≠0∧0 < a.get i∧0 < b.get i
instance (ds:List Int) (a b:A8):Decidable (Clash ds a b):=decidable_of_iff (∃ i,i < ds.length∧(Zyy (ds.getD i Zyt) 2≠0∧0 < a.get i∧0 < b.get i)) (by simp [Clash])
def Zbb (ds:List Int) (a:A8):Nat→Nat→Int
  | 0,_=>0
  | r+1,j=>Zyy (ds.getD j Zyt) 2 * a.get j+Zbb ds a r (j+1)
def Zap (ds:List Int) (a b:A8):Nat→Nat→Int
  | 0,_=>0
  | r+1,i=>(if Zyy (ds.getD i Zyt) 2=0∨b.get i≤0 then 0 else Zbb ds a r (i+1))+Zap ds a b r (i+1)
def sg (c:Int):Int:=if c % 2=0 then 1 else -1
def Y1 (ds:List Int) (a b:A8):A8×Int:=if Clash ds a b then(A8.zero,0) else(a.add b,sg (Zap ds a b ds.length 0))
theorem Zig (a b:Int):sg (a+b)=sg a * sg b:=by
  unfold sg; split <;> split <;> split <;> omega
theorem Zre (s:Int):sg (s+1)=- sg s:=by unfold sg; split <;> split <;> omega
theorem Zkd (s:Int):sg s=1∨sg s=-1:=by unfold sg; split <;> simp
end Vc
namespace Vc
open Go
theorem Zm8:∀ (xs ys:List Int),xs.length=ys.length→J3 xs ys=0→xs=ys
  | [],[],_,_=>rfl
  | x :: xs, y :: ys, h, h0 => by
    simp only [J3] at h0
    split at h0
    · omega
    · rename_i he
      have he:x=y:=Decidable.not_not.1 he
      rw [he,Zm8 xs ys (by simpa using h) h0]
  | [],_::_,h,_=>by simp at h
  | _::_,[],h,_=>by simp at h
theorem Zm9:∀ (xs ys:List Int),J3 xs ys=- J3 ys xs
  | [],[]=>rfl
  | x :: xs, y :: ys => by
    simp only [J3]
    have:=Zm9 xs ys
    split <;> split <;> omega
  | [],_::_=>rfl
  | _::_,[]=>rfl
theorem A8.list_inj {a b:A8} (h:a.list=b.list):a=b:=by
  cases a; cases b
  simpa [A8.list] using h
theorem Zrf (a:A8):pcmp a a=0:=Zq4 _
theorem Zna (a b:A8):pcmp a b=- pcmp b a:=Zm9 _ _
theorem Zby {a b c:A8} (h1:pcmp a b < 0) (h2:pcmp b c < 0):pcmp a c < 0:=Zm4 a.list b.list c.list rfl rfl h1 h2
theorem Zih {a b:A8} (h1:¬ pcmp a b < 0) (h2:¬ pcmp b a < 0):a=b :=
  A8.list_inj (Zm8 _ _ rfl (by have:=Zna a b; unfold pcmp at *; omega))
theorem Zcn {a b:A8} (h:pcmp a b < 0):a≠b:=by rintro rfl; rw [Zrf] at h; omega
theorem Zfr {a b:A8} (h:pcmp a b < 0):b≠a:=fun e=>Zcn h e.symm
theorem Zke {a b:A8} (h:pcmp a b < 0):¬ pcmp b a < 0:=by have:=Zna a b; omega
def tot {α:Type} (f:α→Int):List α→Int
  | []=>0
  | a::l=>f a+tot f l
theorem Zfs {α:Type} (f:α→Int) (l k:List α):tot f (l++k)=tot f l+tot f k:=by
  induction l with
  | nil=>simp [tot]
  | cons a l ih=>simp only [List.cons_append,tot,ih]; omega
theorem Zdj {α:Type} (f:α→Int) {l k:List α} (h:l.Perm k):tot f l=tot f k:=by
  induction h with
  | nil=>rfl
  | cons x _ ih=>simp only [tot,ih]
  | swap x y l=>simp only [tot]; omega
  | trans _ _ h1 h2=>exact h1.trans h2
theorem Zco {α β:Type} (f:β→Int) (g:α→β) (l:List α):tot f (l.map g)=tot (fun a=>f (g a)) l:=by
  induction l with
  | nil=>rfl
  | cons a l ih=>simp only [Zy8,tot,ih]
theorem Zcz {α:Type} {f g:α→Int} {l:List α} (h:∀ a,a∈l→f a=g a):tot f l=tot g l:=by
  induction l with
  | nil=>rfl
  | cons a l ih=>simp only [tot]; rw [h a (by simp),ih fun b hb=>h b (by simp [hb])]
theorem Zrg {α:Type} (k:Int) (f:α→Int) (l:List α):tot (fun a=>k * f a) l=k * tot f l:=by
  induction l with
  | nil=>simp [tot]
  | cons a l ih=>simp only [tot,ih,Int.mul_add]
theorem Zrh {α:Type} (f g:α→Int) (l:List α):tot (fun a=>f a+g a) l=tot f l+tot g l:=by
  induction l with
  | nil=>simp [tot]
  | cons a l ih=>simp only [tot,ih]; omega
theorem Zii {α:Type} {f:α→Int} {l:List α} (h:∀ a,a∈l→f a=0):tot f l=0:=by
  induction l with
  | nil=>rfl
  | cons a l ih=>simp only [tot]; rw [h a (by simp),ih fun b hb=>h b (by simp [hb])]; rfl
theorem Zri {α:Type} {f g:α→Int} {l:List α} (h:∀ a,a∈l→f a % 10007=g a % 10007):tot f l % 10007=tot g l % 10007:=by
  induction l with
  | nil=>rfl
  | cons a l ih =>
    have h1:=h a (by simp)
    have h2:=ih fun b hb=>h b (by simp [hb])
    simp only [tot]; omega
def co (l:List (A8×Int)) (m:A8):Int:=tot (fun p=>if p.1=m then p.2 else 0) l
def coT (l:List Term) (m:A8):Int:=tot (fun t=>if t.mono=m then t.factor else 0) l
theorem Zbc (p:A8×Int) (l:List (A8×Int)) (m:A8):co (p::l) m=(if p.1=m then p.2 else 0)+co l m:=rfl
theorem Zdk (t:Term) (l:List Term) (m:A8):coT (t::l) m=(if t.mono=m then t.factor else 0)+coT l m:=rfl
theorem Zft (m:A8):coT [] m=0:=rfl
theorem Zdl (m:A8):co [] m=0:=rfl
theorem Zcp (l:List Term) (t:Term) (m:A8):coT (l++[t]) m=coT l m+(if t.mono=m then t.factor else 0):=by
  rw [coT,Zfs]; simp [tot,coT]
theorem Zdm {l:List Term} {m:A8} (h:∀ t,t∈l→t.mono≠m):coT l m=0:=Zii fun t ht=>if_neg (h t ht)
theorem Zc0 {l:List (A8×Int)} {m:A8} (h:∀ t,t∈l→t.1≠m):co l m=0:=Zii fun t ht=>if_neg (h t ht)
def Canon (l:List Term):Prop:=l.Pairwise (fun a b=>pcmp a.mono b.mono < 0)∧∀ t,t∈l→1≤t.factor∧t.factor≤10006
theorem Canon.nil:Canon []:=⟨ZC9,by simp⟩
theorem Canon.tail {t:Term} {l:List Term} (h:Canon (t::l)):Canon l:=⟨(Zzy.1 h.1).2,fun s hs=>h.2 s (by simp [hs])⟩
theorem Canon.head {t:Term} {l:List Term} (h:Canon (t::l)):∀ s,s∈l→pcmp t.mono s.mono < 0:=(Zzy.1 h.1).1
theorem Canon.snoc {l:List Term} {t:Term} (h:Canon l) (hl:∀ s,s∈l→pcmp s.mono t.mono < 0) (hf:1≤t.factor∧t.factor≤10006):Canon (l++[t]):=by
  refine⟨ZDa.2 ⟨h.1,by simp,fun a ha b hb=>?_⟩,fun s hs=>?_⟩
  · obtain rfl:b=t:=by simpa using hb
    exact hl a ha
  · rcases Zzu.1 hs with q | q
    · exact h.2 s q
    · obtain rfl:s=t:=by simpa using q
      exact hf
theorem Canon.at_head {t:Term} {l:List Term} (h:Canon (t::l)):coT (t::l) t.mono=t.factor:=by
  rw [Zdk,if_pos rfl,Zdm fun s hs=>Zfr (h.head s hs),Int.add_zero]
theorem Canon.range {l:List Term} (h:Canon l) (m:A8):0≤coT l m∧coT l m≤10006:=by
  induction l with
  | nil=>simp [Zft]
  | cons t l ih =>
    by_cases hm:t.mono=m
    · subst hm
      rw [h.at_head]
      have:=h.2 t (by simp)
      omega
    · rw [Zdk,if_neg hm,ZAd]
      exact ih h.tail
theorem Znb : ∀ (A B : List Term), Canon A → Canon B → (∀ m, coT A m = coT B m) → A = B
  | [],[],_,_,_=>rfl
  | [], b :: B, _, hB, h => by
    have:=h b.mono
    rw [hB.at_head,Zft] at this
    have:=hB.2 b (by simp)
    omega
  | a :: A, [], hA, _, h => by
    have:=h a.mono
    rw [hA.at_head,Zft] at this
    have:=hA.2 a (by simp)
    omega
  | a :: A, b :: B, hA, hB, h => by
    have ha:=hA.2 a (by simp)
    have hb:=hB.2 b (by simp)
    by_cases h1:pcmp a.mono b.mono < 0
    · exfalso
      have:=h a.mono
      rw [hA.at_head,Zdm (l:=b::B)] at this
      · omega
      · intro t ht
        rcases Zyz.1 ht with rfl | ht
        · exact Zfr h1
        · exact Zfr (Zby h1 (hB.head t ht))
    · by_cases h2:pcmp b.mono a.mono < 0
      · exfalso
        have:=h b.mono
        rw [hB.at_head,Zdm (l:=a::A)] at this
        · omega
        · intro t ht
          rcases Zyz.1 ht with rfl | ht
          · exact Zfr h2
          · exact Zfr (Zby h2 (hA.head t ht))
      · have hm:a.mono=b.mono:=Zih h1 h2
        have hf:a.factor=b.factor:=by
          have:=h a.mono
          rw [hA.at_head,hm,hB.at_head] at this; exact this
        have hab:a=b:=by cases a; cases b; simp only at hm hf; rw [hm,hf]
        subst hab
        rw [Znb A B hA.tail hB.tail fun m=>?_]
        have:=h m
        rw [Zdk,Zdk] at this
        omega
theorem Zrj {A B:List Term} (hA:Canon A) (hB:Canon B) (h:∀ m,coT A m % 10007=coT B m % 10007):A=B :=
  Znb A B hA hB fun m=>by have:=h m; have:=hA.range m; have:=hB.range m; omega
theorem Zfu (x:Int):-10007 < Zyy x 10007∧Zyy x 10007 < 10007:=by
  rcases Int.le_total 0 x with h | h
  · rw [ZAy h]; omega
  · have e:Zyy x 10007=- Zyy (-x) 10007:=by rw [Int.neg_tmod]; omega
    rw [e,ZAy (by omega)]; omega
theorem Znc (x:Int):Zyy (Zyy x 10007+10007) 10007=x % 10007:=by
  have h1:=Zfu x
  rw [ZAy (by omega)]
  have h2:x=10007 * Int.tdiv x 10007+Zyy x 10007:=(ZDd x 10007).symm
  omega
theorem Znd (x:Int):Zyy x 10007 % 10007=x % 10007:=by
  have h2:x=10007 * Int.tdiv x 10007+Zyy x 10007:=(ZDd x 10007).symm
  omega
theorem Zrk {d e:Nat} (h:d * e=10007):d=1∨e=1:=by
  have key:∀ k,k < 101→k ∣ 10007→k≤1:=by decide
  by_cases hd:d < 101
  · left
    have:=key d hd ⟨e,h.symm⟩
    rcases ZBd d with rfl | q
    · simp at h
    · omega
  · by_cases he:e < 101
    · right
      have:=key e he ⟨d,by rw [ZAr]; exact h.symm⟩
      rcases ZBd e with rfl | q
      · simp at h
      · omega
    · exfalso
      have:101 * 101≤d * e:=Nat.mul_le_mul (by omega) (by omega)
      omega
theorem Zrl {a:Nat} (h1:1≤a) (h2:a≤10006):Nat.Coprime 10007 a:=by
  obtain ⟨e,he⟩:=Nat.gcd_dvd_left 10007 a
  rcases Zrk he.symm with q | q
  · exact q
  · exfalso
    rw [q,Nat.mul_one] at he
    have:=Nat.le_of_dvd (by omega) (Nat.gcd_dvd_right 10007 a)
    omega
theorem Zrm {a b:Int} (ha:1≤a∧a≤10006) (hb:1≤b∧b≤10006):(a * b) % 10007≠0:=by
  obtain ⟨x,rfl⟩:=ZDf (show 0≤a by omega)
  obtain ⟨y,rfl⟩:=ZDf (show 0≤b by omega)
  intro h
  have h:(x * y) % 10007=0:=by
    have e:((x:Int) * (y:Int))=((x * y:Nat):Int):=(Int.natCast_mul x y).symm
    rw [e] at h; omega
  have:=(Zrl (a:=x) (by omega) (by omega)).dvd_of_dvd_mul_left (Nat.dvd_of_mod_eq_zero h)
  have:=Nat.le_of_dvd (by omega) this
  omega
theorem Zrn {s a b:Int} (hs:s=1∨s=-1) (ha:1≤a∧a≤10006) (hb:1≤b∧b≤10006):1≤(s * (a * b)) % 10007∧(s * (a * b)) % 10007≤10006:=by
  have:=Zrm ha hb
  rcases hs with rfl | rfl <;> omega
theorem Zne:∀ (a x y:List Int),a.length=x.length→x.length=y.length→J3 (List.zipWith (·+·) a x) (List.zipWith (·+·) a y)=J3 x y
  | [],[],[],_,_=>rfl
  | a :: ar, x :: xs, y :: ys, h1, h2 => by
    simp only [List.zipWith_cons_cons,J3]
    have:=Zne ar xs ys (by simpa using h1) (by simpa using h2)
    by_cases h:x=y
    · subst h; simpa using this
    · rw [if_pos (by omega),if_pos h]; omega
  | [],_::_,_,h,_=>by simp at h
  | _::_,[],_,h,_=>by simp at h
  | _::_,_::_,[],_,h=>by simp at h
  | [],[],_::_,_,h=>by simp at h
theorem Zro (a x y:A8):pcmp (a.add x) (a.add y)=pcmp x y:=Zne a.list x.list y.list rfl rfl
theorem J4 {α:Type} [Inhabited α] {l:List α} {i:Nat} (h:i < l.length):l.take (i+1)=l.take i++[l.getD i Zyt]:=by
  rw [List.take_add_one]; simp [Zzm,h]
theorem Canon.at_lt {l:List Term} (h:Canon l) {i j:Nat} (hij:i < j) (hj:j < l.length):pcmp (l.getD i Zyt).mono (l.getD j Zyt).mono < 0:=by
  have:=(Zza.1 h.1) i j (by omega) hj hij
  simpa [Zzm,hj,show i < l.length by omega] using this
theorem Canon.at_range {l:List Term} (h:Canon l) {i:Nat} (hi:i < l.length):1≤(l.getD i Zyt).factor∧(l.getD i Zyt).factor≤10006:=h.2 _ (by simp [Zzm,hi])
theorem Ja {α:Type} [Inhabited α] {l:List α} {i:Nat} (h:i < l.length):l.getD i Zyt∈l:=by simp [Zzm,h]
structure AddI (f g:List Term) (k:Int) (out:List Term) (i j:Nat):Prop where
  hi:i≤f.length
  hj:j≤g.length
  can:Canon out
  cf:∀ m,coT out m % 10007=(coT (f.take i) m+k * coT (g.take j) m) % 10007
  bf:∀ x,x∈out→i < f.length→pcmp x.mono (f.getD i Zyt).mono < 0
  bg:∀ x,x∈out→j < g.length→pcmp x.mono (g.getD j Zyt).mono < 0
  mo:∀ x,x∈out→∃ y,(y∈f∨y∈g)∧y.mono=x.mono
  ln:out.length≤i+j
theorem AddI.zero (f g:List Term) (k:Int):AddI f g k [] 0 0 :=
  ⟨by omega,by omega,Canon.nil,by intro m; simp [Zft],by simp,by simp,by simp,by simp⟩
theorem Zb8 {α:Type} {l:List α} {t x:α} (h:x∈l++[t]):x∈l∨x=t:=by simpa using h
theorem AddI.stepF {f g:List Term} {k:Int} {out:List Term} {i j:Nat} (h:AddI f g k out i j) (cf:Canon f) (cg:Canon g) (hi:i < f.length) (hb:j < g.length→pcmp (f.getD i Zyt).mono (g.getD j Zyt).mono < 0) :
    AddI f g k (out++[f.getD i Zyt]) (i+1) j where
  hi:=hi
  hj:=h.hj
  can:=h.can.snoc (fun s hs=>h.bf s hs hi) (cf.at_range hi)
  cf m:=by
    have:=h.cf m
    rw [Zcp,J4 hi,Zcp]
    omega
  bf x hx hl:=by
    rcases Zb8 hx with q | rfl
    · exact Zby (h.bf x q hi) (cf.at_lt (by omega) hl)
    · exact cf.at_lt (by omega) hl
  bg x hx hl:=by
    rcases Zb8 hx with q | rfl
    · exact h.bg x q hl
    · exact hb hl
  mo x hx:=by
    rcases Zb8 hx with q | rfl
    · exact h.mo x q
    · exact⟨_,.inl (Ja hi),rfl⟩
  ln:=by have:=h.ln; simp; omega
theorem AddI.cfG {f g:List Term} {k:Int} {out:List Term} {i j:Nat} (h:AddI f g k out i j) (hj:j < g.length) (m:A8) :
    k * coT (g.take (j+1)) m=k * coT (g.take j) m+(if(g.getD j Zyt).mono=m then k * (g.getD j Zyt).factor else 0):=by
  rw [J4 hj,Zcp,Int.mul_add]
  split <;> simp
theorem AddI.stepG0 {f g:List Term} {k:Int} {out:List Term} {i j:Nat} (h:AddI f g k out i j) (cf:Canon f) (cg:Canon g) (hj:j < g.length)
    (hz:(k * (g.getD j Zyt).factor) % 10007=0):AddI f g k out i (j+1) where
  hi:=h.hi
  hj:=hj
  can:=h.can
  cf m:=by
    have:=h.cf m
    rw [h.cfG hj m]
    split <;> omega
  bf:=h.bf
  bg x hx hl:=Zby (h.bg x hx hj) (cg.at_lt (by omega) hl)
  mo:=h.mo
  ln:=by have:=h.ln; omega
theorem AddI.stepG1 {f g:List Term} {k:Int} {out:List Term} {i j:Nat} (h:AddI f g k out i j) (cf:Canon f) (cg:Canon g) (hj:j < g.length) (hb:i < f.length→pcmp (g.getD j Zyt).mono (f.getD i Zyt).mono < 0)
    {v:Int} (hv:v=(k * (g.getD j Zyt).factor) % 10007) (hz:v≠0):AddI f g k (out++[⟨(g.getD j Zyt).mono,v⟩]) i (j+1) where
  hi:=h.hi
  hj:=hj
  can:=h.can.snoc (fun s hs=>h.bg s hs hj) (by dsimp only; omega)
  cf m:=by
    have:=h.cf m
    rw [h.cfG hj m,Zcp]
    dsimp only
    split <;> omega
  bf x hx hl:=by
    rcases Zb8 hx with q | rfl
    · exact h.bf x q hl
    · exact hb hl
  bg x hx hl:=by
    rcases Zb8 hx with q | rfl
    · exact Zby (h.bg x q hj) (cg.at_lt (by omega) hl)
    · exact cg.at_lt (by omega) hl
  mo x hx:=by
    rcases Zb8 hx with q | rfl
    · exact h.mo x q
    · exact⟨_,.inr (Ja hj),rfl⟩
  ln:=by have:=h.ln; simp; omega
theorem AddI.stepB0 {f g:List Term} {k:Int} {out:List Term} {i j:Nat} (h:AddI f g k out i j) (cf:Canon f) (cg:Canon g) (hi:i < f.length) (hj:j < g.length) (he:(f.getD i Zyt).mono=(g.getD j Zyt).mono)
    (hz:((f.getD i Zyt).factor+k * (g.getD j Zyt).factor) % 10007=0):AddI f g k out (i+1) (j+1) where
  hi:=hi
  hj:=hj
  can:=h.can
  cf m:=by
    have:=h.cf m
    rw [h.cfG hj m,J4 hi,Zcp,he]
    split <;> omega
  bf x hx hl:=Zby (h.bf x hx hi) (cf.at_lt (by omega) hl)
  bg x hx hl:=Zby (h.bg x hx hj) (cg.at_lt (by omega) hl)
  mo:=h.mo
  ln:=by have:=h.ln; omega
theorem AddI.stepB1 {f g:List Term} {k:Int} {out:List Term} {i j:Nat} (h:AddI f g k out i j) (cf:Canon f) (cg:Canon g) (hi:i < f.length) (hj:j < g.length) (he:(f.getD i Zyt).mono=(g.getD j Zyt).mono)
    {v:Int} (hv:v=((f.getD i Zyt).factor+k * (g.getD j Zyt).factor) % 10007) (hz:v≠0):AddI f g k (out++[⟨(f.getD i Zyt).mono,v⟩]) (i+1) (j+1) where
  hi:=hi
  hj:=hj
  can:=h.can.snoc (fun s hs=>h.bf s hs hi) (by dsimp only; omega)
  cf m:=by
    have:=h.cf m
    rw [h.cfG hj m,J4 hi,Zcp,Zcp,he]
    dsimp only
    split <;> omega
  bf x hx hl:=by
    rcases Zb8 hx with q | rfl
    · exact Zby (h.bf x q hi) (cf.at_lt (by omega) hl)
    · exact cf.at_lt (by omega) hl
  bg x hx hl:=by
    rcases Zb8 hx with q | rfl
    · exact Zby (h.bg x q hj) (cg.at_lt (by omega) hl)
    · dsimp only; rw [he]; exact cg.at_lt (by omega) hl
  mo x hx:=by
    rcases Zb8 hx with q | rfl
    · exact h.mo x q
    · exact⟨_,.inl (Ja hi),rfl⟩
  ln:=by have:=h.ln; simp; omega
structure IsAdd (f g:List Term) (k:Int) (out:List Term):Prop where
  can:Canon out
  cf:∀ m,coT out m % 10007=(coT f m+k * coT g m) % 10007
  mo:∀ x,x∈out→∃ y,(y∈f∨y∈g)∧y.mono=x.mono
  ln:out.length≤f.length+g.length
theorem AddI.done {f g:List Term} {k:Int} {out:List Term} {i j:Nat} (h:AddI f g k out i j) (hi:¬ i < f.length) (hj:¬ j < g.length):IsAdd f g k out where
  can:=h.can
  cf m:=by have:=h.cf m; rwa [Zzz (by omega),Zzz (by omega)] at this
  mo:=h.mo
  ln:=by have:=h.ln; have:=h.hi; have:=h.hj; omega
def pr1 (ds:List Int) (a:A8) (n:Int) (b:A8) (m':Int) (m:A8):Int:=if(Y1 ds a b).1=m then(Y1 ds a b).2 * (n * m') else 0
def shC (ds:List Int) (t:Term) (g:List Term) (m:A8):Int:=tot (fun u=>pr1 ds t.mono t.factor u.mono u.factor m) g
def prC (ds:List Int) (f g:List Term) (m:A8):Int:=tot (fun t=>shC ds t g m) f
structure IsShift (ds:List Int) (t:Term) (g out:List Term):Prop where
  can:Canon out
  cf:∀ m,coT out m % 10007=shC ds t g m % 10007
  mo:∀ x,x∈out→∃ u,u∈g∧x.mono=t.mono.add u.mono∧¬ Clash ds t.mono u.mono
  ln:out.length≤g.length
theorem IsShift.nil (ds:List Int) (t:Term):IsShift ds t [] []:=⟨Canon.nil,by intro m; rfl,by simp,by simp⟩
theorem Znf (ds:List Int) (t:Term) (g:List Term) (u:Term) (m:A8):shC ds t (g++[u]) m=shC ds t g m+pr1 ds t.mono t.factor u.mono u.factor m:=by
  rw [shC,Zfs]; simp [tot,shC]
theorem Canon.init {l:List Term} {u:Term} (h:Canon (l++[u])):Canon l∧∀ s,s∈l→pcmp s.mono u.mono < 0:=by
  have:=ZDa.1 h.1
  exact⟨⟨this.1,fun s hs=>h.2 s (by simp [hs])⟩,fun s hs=>this.2.2 s hs u (by simp)⟩
theorem IsShift.skip {ds:List Int} {t:Term} {g out:List Term} {u:Term} (h:IsShift ds t g out) (hs:(Y1 ds t.mono u.mono).2=0):IsShift ds t (g++[u]) out where
  can:=h.can
  cf m:=by
    have:=h.cf m
    rw [Znf,pr1,hs]
    split <;> simp [this]
  mo x hx:=by
    obtain ⟨u',hu,he⟩:=h.mo x hx
    exact⟨u',by simp [hu],he⟩
  ln:=by have:=h.ln; simp; omega
theorem Zfv {ds:List Int} {a b:A8} (h:(Y1 ds a b).2≠0):¬ Clash ds a b∧(Y1 ds a b).1=a.add b∧((Y1 ds a b).2=1∨(Y1 ds a b).2=-1):=by
  have hc:¬ Clash ds a b:=fun q=>h (by simp [Y1,q])
  refine⟨hc,by simp [Y1,hc],?_⟩
  simp only [Y1,hc,if_false]
  exact Zkd _
theorem IsShift.put {ds:List Int} {t:Term} {g out:List Term} {u:Term} (h:IsShift ds t g out) (cg:Canon (g++[u])) (ht:1≤t.factor∧t.factor≤10006) (hs:(Y1 ds t.mono u.mono).2≠0) {v:Int} (hv:v=((Y1 ds t.mono u.mono).2 * (t.factor * u.factor)) % 10007) :
    IsShift ds t (g++[u]) (out++[⟨(Y1 ds t.mono u.mono).1,v⟩]):=by
  obtain ⟨hc,he,hsg⟩:=Zfv hs
  have hu:=cg.2 u (by simp)
  have hnz:=Zrn hsg ht hu
  refine⟨h.can.snoc (fun s hs'=>?_) (by dsimp only; omega),fun m=>?_,fun x hx=>?_,by have:=h.ln; simp; omega⟩
  · obtain ⟨u',hu',he',_⟩:=h.mo s hs'
    dsimp only
    rw [he,he',Zro]
    exact cg.init.2 u' hu'
  · have:=h.cf m
    rw [Zcp,Znf,pr1]
    dsimp only
    split <;> omega
  · rcases Zb8 hx with q | rfl
    · obtain ⟨u',hu',he'⟩:=h.mo x q
      exact⟨u',by simp [hu'],he'⟩
    · exact⟨u,by simp,he,hc⟩
structure IsProd (ds:List Int) (f g out:List Term):Prop where
  can:Canon out
  cf:∀ m,coT out m % 10007=prC ds f g m % 10007
  mo:∀ x,x∈out→∃ t u,t∈f∧u∈g∧x.mono=t.mono.add u.mono∧¬ Clash ds t.mono u.mono
  ln:out.length≤f.length * g.length
theorem IsProd.nil (ds:List Int) (g:List Term):IsProd ds [] g []:=⟨Canon.nil,by intro m; rfl,by simp,by simp⟩
theorem IsProd.step {ds:List Int} {f g out sh out':List Term} {t:Term} (h:IsProd ds f g out) (hs:IsShift ds t g sh) (ha:IsAdd out sh 1 out'):IsProd ds (f++[t]) g out' where
  can:=ha.can
  cf m:=by
    have h1:=h.cf m
    have h2:=hs.cf m
    have h3:=ha.cf m
    rw [prC,Zfs]
    simp only [tot]
    unfold prC at h1
    omega
  mo x hx:=by
    obtain ⟨y,hy | hy,he⟩:=ha.mo x hx
    · obtain ⟨a,u,h1,h2,h3,h4⟩:=h.mo y hy
      exact⟨a,u,by simp [h1],h2,he ▸ h3,h4⟩
    · obtain ⟨u,h2,h3,h4⟩:=hs.mo y hy
      exact⟨t,u,by simp,h2,he ▸ h3,h4⟩
  ln:=by
    have h1:=h.ln
    have h2:=hs.ln
    have h3:=ha.ln
    have:(f++[t]).length * g.length=f.length * g.length+g.length:=by simp [Zzl]
    omega
def MapOk (l:List (A8×Int)):Prop:=(l.map Zy9).Nodup∧∀ p,p∈l→1≤p.2∧p.2≤10006
theorem MapOk.nil:MapOk []:=⟨by simp,by simp⟩
theorem Zdn {l : List (A8 × Int)} (h : (l.map Zy9).Nodup) (m : A8) : (Xu l m).getD 0 = co l m := by
  induction l with
  | nil=>rfl
  | cons p l ih =>
    simp only [Zy8,Zzk] at h
    simp only [Xu,Zbc]
    by_cases hm:m=p.1
    · subst hm
      rw [if_pos rfl,if_pos rfl,Zc0]
      · simp
      · intro t ht e
        exact h.1 (Zy2.2 ⟨t,ht,e⟩)
    · rw [if_neg hm,if_neg (fun e=>hm e.symm),ih h.2,ZAd]
theorem Zng {l : List (A8 × Int)} (h : (l.map Zy9).Nodup) (x : A8) (v : Int) (m : A8) : co (Zz l x v) m = if m = x then v else co l m := by
  induction l with
  | nil => simp only [Zz, Zbc, Zdl]; by_cases hm : m = x
           · subst hm; simp
           · rw [if_neg (fun e=>hm e.symm),if_neg hm]; rfl
  | cons p l ih =>
    simp only [Zy8,Zzk] at h
    simp only [Zz]
    split
    · rename_i hx
      rw [Zbc,Zbc]
      dsimp only
      by_cases hm:m=x
      · subst hm
        rw [if_pos rfl,if_pos rfl,Zc0]
        · simp
        · intro t ht e
          exact h.1 (Zy2.2 ⟨t,ht,by rw [e,hx]⟩)
      · rw [if_neg (fun e=>hm e.symm),if_neg hm,if_neg (fun e=>hm (by rw [hx,e]))]
    · rename_i hx
      rw [Zbc,Zbc,ih h.2]
      by_cases hm:m=x
      · subst hm; rw [if_pos rfl,if_pos rfl,if_neg (fun e=>hx e.symm)]; simp
      · rw [if_neg hm,if_neg hm]
theorem Zrp {l : List (A8 × Int)} (h : (l.map Zy9).Nodup) (x : A8) (m : A8) : co (Jw l x) m = if m = x then 0 else co l m := by
  induction l with
  | nil=>simp [Jw,Zdl]
  | cons p l ih =>
    simp only [Zy8,Zzk] at h
    simp only [Jw]
    split
    · rename_i hx
      rw [Zbc]
      by_cases hm:m=x
      · subst hm
        rw [if_pos rfl,Zc0]
        intro t ht e
        exact h.1 (Zy2.2 ⟨t,ht,by rw [e,hx]⟩)
      · rw [if_neg hm,if_neg (fun e=>hm (by rw [hx,e]))]; simp
    · rename_i hx
      rw [Zbc,Zbc,ih h.2]
      by_cases hm:m=x
      · subst hm; rw [if_pos rfl,if_pos rfl,if_neg (fun e=>hx e.symm)]; rfl
      · rw [if_neg hm,if_neg hm]
theorem Zkf {l:List (A8×Int)} {x:A8} {p:A8×Int} (h:p∈Jw l x):p∈l:=by
  induction l with
  | nil=>simp [Jw] at h
  | cons q l ih =>
    simp only [Jw] at h
    split at h
    · simp [h]
    · rcases Zyz.1 h with rfl | h
      · simp
      · simp [ih h]
theorem Zrq {l:List (A8×Int)} (x:A8) (h:(l.map Zy9).Nodup):((Jw l x).map Zy9).Nodup:=by
  induction l with
  | nil=>simp [Jw]
  | cons q l ih =>
    simp only [Zy8,Zzk] at h
    simp only [Jw]
    split
    · exact h.2
    · simp only [Zy8,Zzk]
      refine⟨fun hq=>h.1 ?_,ih h.2⟩
      obtain ⟨p,hp,he⟩:=Zy2.1 hq
      exact Zy2.2 ⟨p,Zkf hp,he⟩
theorem Zkg {l : List (A8 × Int)} {x : A8} {v : Int} {p : A8 × Int} (h : p ∈ Zz l x v) : p = (x, v) ∨ p ∈ l := by
  induction l with
  | nil=>left; simpa [Zz] using h
  | cons q l ih =>
    simp only [Zz] at h
    split at h
    · rcases Zyz.1 h with rfl | h
      · exact .inl rfl
      · exact .inr (by simp [h])
    · rcases Zyz.1 h with rfl | h
      · exact .inr (by simp)
      · rcases ih h with e | e
        · exact .inl e
        · exact .inr (by simp [e])
theorem Zrr (l:List (A8×Int)) (x:A8) (v:Int):(Zz l x v).length≤l.length+1:=by
  induction l with
  | nil=>simp [Zz]
  | cons q l ih=>simp only [Zz]; split <;> simp; omega
theorem Zrs (l:List (A8×Int)) (x:A8):(Jw l x).length≤l.length:=by
  induction l with
  | nil=>simp [Jw]
  | cons q l ih=>simp only [Jw]; split <;> simp; omega
theorem MapOk.put {l:List (A8×Int)} (h:MapOk l) {x:A8} {v:Int} (hv:1≤v∧v≤10006):MapOk (Zz l x v) :=
  ⟨Zj7 h.1,fun p hp=>by rcases Zkg hp with rfl | q; exact hv; exact h.2 p q⟩
theorem MapOk.del {l:List (A8×Int)} (h:MapOk l) (x:A8):MapOk (Jw l x):=⟨Zrq x h.1,fun p hp=>h.2 p (Zkf hp)⟩
theorem MapOk.range {l : List (A8 × Int)} (h : MapOk l) (m : A8) : 0 ≤ co l m ∧ co l m ≤ 10006 := by
  rw [← Zdn h.1]
  cases hg:Xu l m with
  | none=>simp
  | some v =>
    have:(m,v)∈l:=by
      clear h
      induction l with
      | nil=>simp [Xu] at hg
      | cons p l ih =>
        simp only [Xu] at hg
        split at hg
        · rename_i e; injection hg with e2; subst e2; subst e; simp
        · simp [ih hg]
    have:=h.2 _ this
    simp only [ZAu]
    dsimp only at this
    omega
structure IsPut (l:List (A8×Int)) (x:A8) (c:Int) (l':List (A8×Int)):Prop where
  ok:MapOk l'
  cf:∀ m,co l' m % 10007=(co l m+if x=m then c else 0) % 10007
  ks:∀ p,p∈l'→p.1=x∨∃ q,q∈l∧q.1=p.1
  ln:l'.length≤l.length+1
theorem IsPut.put {l:List (A8×Int)} (h:MapOk l) {x:A8} {c v:Int} (hv:v=(co l x+c) % 10007) (hz:v≠0):IsPut l x c (Zz l x v) where
  ok:=h.put (by omega)
  cf m:=by
    rw [Zng h.1]
    by_cases hm:m=x
    · subst hm; rw [if_pos rfl,if_pos rfl]; omega
    · rw [if_neg hm,if_neg (fun e=>hm e.symm)]; simp
  ks p hp:=by
    rcases Zkg hp with rfl | q
    · exact .inl rfl
    · exact .inr ⟨p,q,rfl⟩
  ln:=Zrr _ _ _
theorem IsPut.del {l:List (A8×Int)} (h:MapOk l) {x:A8} {c:Int} (hz:(co l x+c) % 10007=0):IsPut l x c (Jw l x) where
  ok:=h.del x
  cf m:=by
    rw [Zrp h.1]
    by_cases hm:m=x
    · subst hm; rw [if_pos rfl,if_pos rfl]; omega
    · rw [if_neg hm,if_neg (fun e=>hm e.symm)]; simp
  ks p hp:=.inr ⟨p,Zkf hp,rfl⟩
  ln:=by have:=Zrs l x; omega
theorem Zrt {l : List (A8 × Int)} (h : MapOk l) {xs : List A8} (hp : xs.Perm (l.map Zy9)) (hw : xs.Pairwise (fun a b => ¬ pcmp b a < 0)) : Canon (xs.map fun x => ⟨x, (Xu l x).getD 0⟩) ∧ ∀ m, coT (xs.map fun x => ⟨x, (Xu l x).getD 0⟩) m = co l m := by
  have hnd:xs.Nodup:=hp.nodup_iff.2 h.1
  have hmem:∀ x,x∈xs→∃ v,(x,v)∈l∧(Xu l x).getD 0=v:=by
    intro x hx
    obtain ⟨p,hpl,rfl⟩:=Zy2.1 (hp.mem_iff.1 hx)
    refine⟨p.2,hpl,?_⟩
    rw [Zdn h.1]
    have h1:=h.1
    clear hp hx h
    induction l with
    | nil=>simp at hpl
    | cons q l ih =>
      simp only [Zy8,Zzk] at h1
      rw [Zbc]
      rcases Zyz.1 hpl with rfl | hpl
      · rw [if_pos rfl,Zc0]
        · simp
        · intro t ht e; exact h1.1 (Zy2.2 ⟨t,ht,e⟩)
      · rw [if_neg (fun e=>h1.1 (Zy2.2 ⟨p,hpl,e.symm⟩)),ih hpl h1.2,ZAd]
  refine⟨⟨?_,fun t ht=>?_⟩,fun m=>?_⟩
  · rw [List.pairwise_map]
    have:xs.Pairwise (fun a b=>a≠b):=hnd
    refine(hw.and this).imp fun {a b} hab=>?_
    by_cases q:pcmp a b < 0
    · exact q
    · exact absurd (Zih q hab.1) hab.2
  · obtain ⟨x,hx,rfl⟩:=Zy2.1 ht
    obtain ⟨v,hv,he⟩:=hmem x hx
    dsimp only
    rw [he]
    exact h.2 _ hv
  · rw [coT,Zco]
    dsimp only
    rw [Zdj _ hp,Zco]
    refine Zcz fun p hpl=>?_
    obtain ⟨v,hv,he⟩:=hmem p.1 (hp.mem_iff.2 (Zy2.2 ⟨p,hpl,rfl⟩))
    have:v=p.2:=by
      rw [← he,Zdn h.1]
      have h1:=h.1
      clear hp h hmem he hv
      induction l with
      | nil=>simp at hpl
      | cons q l ih =>
        simp only [Zy8,Zzk] at h1
        rw [Zbc]
        rcases Zyz.1 hpl with rfl | hpl
        · rw [if_pos rfl,Zc0]
          · simp
          · intro t ht e; exact h1.1 (Zy2.2 ⟨t,ht,e⟩)
        · rw [if_neg (fun e=>h1.1 (Zy2.2 ⟨p,hpl,e.symm⟩)),ih hpl h1.2,ZAd]
    rw [he,this]
def Zdo (a:A8):List A8→List A8
  | []=>[a]
  | b::l=>if pcmp a b < 0 then a::b::l else b::Zdo a l
theorem Znh (a:A8) (l:List A8):(Zdo a l).Perm (a::l):=by
  induction l with
  | nil=>exact ZBq _
  | cons b l ih =>
    simp only [Zdo]
    split
    · exact ZBq _
    · exact(ih.cons b).trans (List.Perm.swap _ _ _)
theorem Zru {a b c:A8} (h1:¬ pcmp b a < 0) (h2:¬ pcmp c b < 0):¬ pcmp c a < 0:=fun h=>by
  by_cases q:pcmp a b < 0
  · exact h2 (Zby h q)
  · have:=Zih q h1
    subst this
    exact h2 h
theorem Zrv {a:A8} {l:List A8} (h:l.Pairwise (fun a b=>¬ pcmp b a < 0)):(Zdo a l).Pairwise (fun a b=>¬ pcmp b a < 0):=by
  induction l with
  | nil=>simp [Zdo]
  | cons b l ih =>
    simp only [Zdo]
    have hb:=Zzy.1 h
    split
    · rename_i q
      refine Zzy.2 ⟨fun x hx=>?_,h⟩
      rcases Zyz.1 hx with rfl | hx
      · exact Zke q
      · exact Zru (Zke q) (hb.1 x hx)
    · rename_i q
      refine Zzy.2 ⟨fun x hx=>?_,ih hb.2⟩
      rcases Zyz.1 ((Znh a l).mem_iff.1 hx) with rfl | hx
      · exact q
      · exact hb.1 x hx
theorem Zni:∀ l:List A8,∃ xs:List A8,xs.Perm l∧xs.Pairwise (fun a b=>¬ pcmp b a < 0)
  | []=>⟨[],ZBq _,ZC9⟩
  | a :: l => by
    obtain ⟨xs,h1,h2⟩:=Zni l
    exact⟨Zdo a xs,(Znh a xs).trans (h1.cons a),Zrv h2⟩
end Vc
namespace Vc
open Go
def A8.mkf (f:Nat→Int):A8:=⟨f 0,f 1,f 2,f 3,f 4,f 5,f 6,f 7⟩
theorem A8.get_mkf (f:Nat→Int) {i:Nat} (hi:i < 8):(A8.mkf f).get i=f i:=by
  match i,hi with
  | 0,_ | 1,_ | 2,_ | 3,_ | 4,_ | 5,_ | 6,_ | 7,_=>rfl
def frontA (m:A8) (i:Nat):A8:=A8.mkf fun j=>if j < i then m.get j else 0
def leftA (m:A8) (i:Nat):A8:=A8.mkf fun j=>if j < i then m.get j else if j=i then m.get i - 1 else 0
def backA (m:A8) (i:Nat):A8:=A8.mkf fun j=>if i < j then m.get j else 0
def wtU (ds:List Int) (m:A8):Nat→Int
  | 0=>0
  | i+1=>wtU ds m i+ds.getD i Zyt * m.get i
theorem Znj (F : A8 → Int) (S : List A8) (hS : S.Nodup) : ∀ l : List Term, (∀ t, t ∈ l → t.mono ∈ S) → tot (fun t => F t.mono * t.factor) l = tot (fun x => F x * coT l x) S := by
  intro l
  induction l with
  | nil=>intro _; simp only [tot]; rw [Zii]; intro x _; rw [Zft,Int.mul_zero]
  | cons t l ih =>
    intro h
    simp only [tot]
    rw [ih fun s hs=>h s (by simp [hs])]
    have e:∀ x,F x * coT (t::l) x=(if t.mono=x then F x * t.factor else 0)+F x * coT l x:=fun x=>by
      rw [Zdk,Int.mul_add]
      congr 1
      split
      · rfl
      · rw [Int.mul_zero]
    rw [Zcz (fun x _=>e x),Zrh]
    congr 1
    have ht:=h t (by simp)
    clear ih h e
    induction S with
    | nil=>cases ht
    | cons s S ihS =>
      simp only [tot]
      have hn:=Zzk.1 hS
      by_cases hs:t.mono=s
      · subst hs
        rw [if_pos rfl,Zii]
        · omega
        · intro x hx
          rw [if_neg]
          rintro rfl
          exact hn.1 hx
      · rw [if_neg hs,ZAd]
        refine ihS hn.2 ?_
        rcases Zyz.1 ht with q | q
        · exact absurd q hs
        · exact q
def Zb9:List A8→List A8
  | []=>[]
  | a::l=>if a∈Zb9 l then Zb9 l else a::Zb9 l
theorem Zkh {a:A8}:∀ l,a∈l→a∈Zb9 l
  | b :: l, h => by
    simp only [Zb9]
    rcases Zyz.1 h with rfl | h
    · split
      · assumption
      · simp
    · have:=Zkh l h
      split
      · exact this
      · simp [this]
theorem Zij:∀ l,(Zb9 l).Nodup
  | []=>List.nodup_nil
  | a :: l => by
    simp only [Zb9]
    split
    · exact Zij l
    · exact Zzk.2 ⟨by assumption,Zij l⟩
theorem lin (F:A8→Int) {l k:List Term} (h:∀ x,coT l x % 10007=coT k x % 10007):tot (fun t=>F t.mono * t.factor) l % 10007=tot (fun t=>F t.mono * t.factor) k % 10007:=by
  have S:=Zb9 (l.map Term.mono++k.map Term.mono)
  rw [Znj F (Zb9 (l.map Term.mono++k.map Term.mono)) (Zij _) l fun t ht=>Zkh _ (by simp; exact .inl ⟨t,ht,rfl⟩),
    Znj F (Zb9 (l.map Term.mono++k.map Term.mono)) (Zij _) k fun t ht=>Zkh _ (by simp; exact .inr ⟨t,ht,rfl⟩)]
  refine Zri fun x _=>?_
  rw [Int.mul_emod,h x,← Int.mul_emod]
def tri (ds:List Int) (l b u:A8) (n:Int) (x:A8):Int:=if(Y1 ds (Y1 ds l u).1 b).1=x then(Y1 ds (Y1 ds l u).1 b).2 * ((Y1 ds l u).2 * n) else 0
def triC (ds:List Int) (l b:A8) (img:List Term) (x:A8):Int:=tot (fun u=>tri ds l b u.mono u.factor x) img
theorem Zki {ds:List Int} {l b:A8} {img own prod:List Term} (h1:∀ y,coT own y % 10007=shC ds ⟨l,1⟩ img y % 10007) (h2:∀ x,coT prod x % 10007=prC ds own [⟨b,1⟩] x % 10007) (x:A8):coT prod x % 10007=triC ds l b img x % 10007:=by
  rw [h2]
  have e1:prC ds own [⟨b,1⟩] x=tot (fun t=>(if(Y1 ds t.mono b).1=x then(Y1 ds t.mono b).2 else 0) * t.factor) own:=by
    refine Zcz fun t _=>?_
    unfold shC pr1
    simp only [tot,Int.mul_one,Int.add_zero]
    split <;> simp
  have hL:∀ y,coT own y % 10007=coT (img.map fun u=>(⟨(Y1 ds l u.mono).1,(Y1 ds l u.mono).2 * u.factor⟩:Term)) y % 10007:=fun y=>by
    rw [h1 y,shC,coT,Zco]
    congr 1
    refine Zcz fun u _=>?_
    unfold pr1
    simp only [Int.one_mul]
  rw [e1,lin (fun y=>if(Y1 ds y b).1=x then(Y1 ds y b).2 else 0) hL,Zco]
  congr 1
  refine Zcz fun u _=>?_
  unfold tri
  dsimp only
  split <;> simp
def dK (ds:List Int) (m:A8) (n:Int) (i:Nat):Int:=(sg (wtU ds m i) * (n * m.get i)) % 10007
def dS (ds:List Int) (imgs:List (List Term)) (m:A8) (n:Int) (x:A8):Nat→Nat→Int
  | 0,_=>0
  | r+1,i=>(if m.get i > 0 then dK ds m n i * triC ds (leftA m i) (backA m i) (imgs.getD i Zyt) x else 0)+dS ds imgs m n x r (i+1)
def dT (ds:List Int) (imgs:List (List Term)) (m:A8) (n:Int) (x:A8):Int:=dS ds imgs m n x 8 0
theorem Zrw (ds:List Int) (m:A8) (i:Nat):dK ds m 0 i=0:=by simp [dK]
theorem Zkj (ds:List Int) (imgs:List (List Term)) (m x:A8):dT ds imgs m 0 x=0:=by
  have:∀ r i,dS ds imgs m 0 x r i=0:=by
    intro r
    induction r with
    | zero=>intro i; rfl
    | succ r ih=>intro i; simp only [dS,ih,Zrw]; split <;> simp
  exact this 8 0
theorem Zrx {ds:List Int} {imgs:List (List Term)} {m:A8} {n:Int} {x:A8}:∀ r i,(∀ j,i≤j→j < i+r→m.get j=0)→dS ds imgs m n x r i=0:=by
  intro r
  induction r with
  | zero=>intro i _; rfl
  | succ r ih=>intro i h; simp only [dS]; rw [h i (by omega) (by omega),if_neg (by omega),ih (i+1) fun j h1 h2=>h j (by omega) (by omega)]; rfl
def DMono (ds:List Int) (imgs:List (List Term)) (x m:A8):Prop:=∃ i u,i < 8∧0 < m.get i∧u∈imgs.getD i Zyt∧x=((leftA m i).add u.mono).add (backA m i)∧¬ Clash ds (leftA m i) u.mono∧¬ Clash ds ((leftA m i).add u.mono) (backA m i)
structure IsD (ds:List Int) (imgs:List (List Term)) (f out:List Term):Prop where
  can:Canon out
  cf:∀ x,coT out x % 10007=tot (fun t=>dT ds imgs t.mono t.factor x) f % 10007
  mo:∀ y,y∈out→∃ t,t∈f∧DMono ds imgs y.mono t.mono
theorem Zik {ds : List Int} {m : A8} {i : Nat} (h : OkMono ds m) (hi : i < 8) (hp : 0 < m.get i) : X2 ds (leftA m i) ∧ X2 ds (backA m i) := by
  constructor
  · intro j hj
    rw [leftA,A8.get_mkf _ hj]
    have hm:=h j hj
    refine⟨fun hl=>?_,fun hl=>?_⟩
    · have h1:=hm.1 hl
      split
      · exact⟨by omega,h1.2⟩
      · split
        · rename_i e; subst e; exact⟨by omega,fun q=>by have:=h1.2 q; omega⟩
        · exact⟨by omega,fun _=>by omega⟩
    · have h1:=hm.2 hl
      split
      · exact h1
      · split
        · rename_i e; subst e; omega
        · rfl
  · intro j hj
    rw [backA,A8.get_mkf _ hj]
    have hm:=h j hj
    refine⟨fun hl=>?_,fun hl=>?_⟩
    · have h1:=hm.1 hl
      split
      · exact⟨by omega,h1.2⟩
      · exact⟨by omega,fun _=>by omega⟩
    · have h1:=hm.2 hl
      split
      · exact h1
      · rfl
theorem Zc1 {ds:List Int} {a b:A8} (ha:X2 ds a) (hb:X2 ds b) (pa:∀ i,i < 8→0≤a.get i) (pb:∀ i,i < 8→0≤b.get i) (hs:∀ i,i < 8→a.get i+b.get i≤100) (hc:¬ Clash ds a b):X2 ds (a.add b):=by
  intro j hj
  rw [A8.get_add]
  have h1:=ha j hj
  have h2:=hb j hj
  refine⟨fun hl=>⟨hs j hj,fun ho=>?_⟩,fun hl=>by rw [h1.2 hl,h2.2 hl]; rfl⟩
  have g1:=(h1.1 hl).2 ho
  have g2:=(h2.1 hl).2 ho
  have:=pa j hj
  have:=pb j hj
  have:¬ (0 < a.get j∧0 < b.get j):=fun q=>hc ⟨j,hl,ho,q⟩
  omega
end Vc
namespace Vc
open Go
def restA (m:A8) (i:Nat):A8:=A8.mkf fun j=>if i < j then m.get j else if j=i then m.get i - 1 else 0
def OddEq (ds:List Int) (a b:A8):Prop:=∀ i,Zyy (ds.getD i Zyt) 2≠0→a.get i=b.get i
theorem OddEq.refl (ds:List Int) (a:A8):OddEq ds a a:=fun _ _=>rfl
theorem OddEq.add {ds:List Int} {a b c d:A8} (h:OddEq ds a b) (k:OddEq ds c d):OddEq ds (a.add c) (b.add d):=fun i hi=>by
  rw [A8.get_add,A8.get_add,h i hi,k i hi]
theorem Znk {ds:List Int} {a a' b b':A8} (h:OddEq ds a a') (k:OddEq ds b b'):Clash ds a b↔Clash ds a' b':=by
  constructor
  · rintro ⟨i,h1,h2,h3⟩; exact⟨i,h1,h2,by rwa [← h i h2,← k i h2]⟩
  · rintro ⟨i,h1,h2,h3⟩; exact⟨i,h1,h2,by rwa [h i h2,k i h2]⟩
theorem Zry {ds:List Int} {a a':A8} (h:OddEq ds a a'):∀ r j,Zbb ds a r j=Zbb ds a' r j:=by
  intro r
  induction r with
  | zero=>intro j; rfl
  | succ r ih =>
    intro j
    simp only [Zbb,ih]
    congr 1
    by_cases hj:Zyy (ds.getD j Zyt) 2=0
    · rw [hj,Int.zero_mul,Int.zero_mul]
    · rw [h j hj]
theorem Znl {ds:List Int} {a a' b b':A8} (h:OddEq ds a a') (k:OddEq ds b b'):∀ r j,Zap ds a b r j=Zap ds a' b' r j:=by
  intro r
  induction r with
  | zero=>intro j; rfl
  | succ r ih =>
    intro j
    simp only [Zap,ih,Zry h]
    congr 1
    by_cases hj:Zyy (ds.getD j Zyt) 2=0
    · rw [if_pos (.inl hj),if_pos (.inl hj)]
    · rw [k j hj]
theorem Zrz {ds:List Int} {l l' b b':A8} (h:OddEq ds l l') (k:OddEq ds b b') (e:l.add b=l'.add b') (u:A8) (n:Int) (x:A8):tri ds l b u n x=tri ds l' b' u n x:=by
  have hu:=OddEq.refl ds u
  have c1:=Znk h hu
  unfold tri
  by_cases hc:Clash ds l u
  · have hc':=c1.1 hc
    rw [show Y1 ds l u=(A8.zero,0) by simp [Y1,hc],show Y1 ds l' u=(A8.zero,0) by simp [Y1,hc']]
    simp
  · have hc':¬ Clash ds l' u:=fun q=>hc (c1.2 q)
    rw [show Y1 ds l u=(l.add u,sg (Zap ds l u ds.length 0)) by simp [Y1,hc],show Y1 ds l' u=(l'.add u,sg (Zap ds l' u ds.length 0)) by simp [Y1,hc'],Znl h hu]
    dsimp only
    have hl:=h.add hu
    have c2:=Znk hl k
    have ee:(l.add u).add b=(l'.add u).add b':=by
      refine A8.ext_get fun i hi=>?_
      have:=congrArg (fun z=>A8.get z i) e
      simp only [A8.get_add] at this ⊢
      omega
    by_cases hd:Clash ds (l.add u) b
    · have hd':=c2.1 hd
      rw [show Y1 ds (l.add u) b=(A8.zero,0) by simp [Y1,hd],show Y1 ds (l'.add u) b'=(A8.zero,0) by simp [Y1,hd']]
    · have hd':¬ Clash ds (l'.add u) b':=fun q=>hd (c2.2 q)
      rw [show Y1 ds (l.add u) b=((l.add u).add b,sg (Zap ds (l.add u) b ds.length 0)) by simp [Y1,hd],show Y1 ds (l'.add u) b'=((l'.add u).add b',sg (Zap ds (l'.add u) b' ds.length 0)) by simp [Y1,hd'],Znl hl k,ee]
theorem Zr0 {ds:List Int} {l l' b b':A8} (h:OddEq ds l l') (k:OddEq ds b b') (e:l.add b=l'.add b') (img:List Term) (x:A8):triC ds l b img x=triC ds l' b' img x :=
  Zcz fun u _=>Zrz h k e u.mono u.factor x
theorem Zr1 {ds:List Int} {m:A8} {i:Nat} (hm:OkMono ds m) (hi:i < ds.length) (h8:ds.length≤8) (hp:0 < m.get i):OddEq ds (frontA m i) (leftA m i)∧OddEq ds (restA m i) (backA m i)∧(frontA m i).add (restA m i)=(leftA m i).add (backA m i):=by
  have hodd:∀ j,Zyy (ds.getD j Zyt) 2≠0→j < 8:=fun j hj=>by
    rcases Zzt j ds.length with q | q
    · omega
    · exfalso; apply hj; simp only [Zzm,List.getElem?_eq_none q]; decide
  refine⟨fun j hj=>?_,fun j hj=>?_,A8.ext_get fun j hj=>?_⟩
  · have h:=hodd j hj
    rw [frontA,leftA,A8.get_mkf _ h,A8.get_mkf _ h]
    by_cases hji:j=i
    · subst hji
      have:=((hm j h).1 hi).2 hj
      rw [if_neg (by omega),if_neg (by omega),if_pos rfl]; omega
    · rw [if_neg hji]
  · have h:=hodd j hj
    rw [restA,backA,A8.get_mkf _ h,A8.get_mkf _ h]
    by_cases hji:j=i
    · subst hji
      have:=((hm j h).1 hi).2 hj
      simp only [Nat.lt_irrefl,if_false,if_true]; omega
    · rw [if_neg hji]
  · rw [A8.get_add,A8.get_add,frontA,restA,leftA,backA,A8.get_mkf _ hj,A8.get_mkf _ hj,A8.get_mkf _ hj,A8.get_mkf _ hj]
    by_cases h1:j < i
    · simp [h1,show ¬ i < j by omega,show ¬ j=i by omega]
    · by_cases h2:j=i
      · subst h2; simp
      · simp [h1,h2,show i < j by omega]
def vK (ds:List Int) (dr:Int) (m:A8) (n:Int) (i:Nat):Int:=(sg (dr * wtU ds m i) * (n * m.get i)) % 10007
def vS (ds:List Int) (dr:Int) (imgs:List (List Term)) (m:A8) (n:Int) (x:A8):Nat→Nat→Int
  | 0,_=>0
  | r+1,i=>(if m.get i > 0 then vK ds dr m n i * triC ds (leftA m i) (backA m i) (imgs.getD i Zyt) x else 0)+vS ds dr imgs m n x r (i+1)
def vT (ds:List Int) (dr:Int) (imgs:List (List Term)) (m:A8) (n:Int) (x:A8):Int:=vS ds dr imgs m n x ds.length 0
structure IsA (ds:List Int) (dr:Int) (imgs:List (List Term)) (f out:List Term):Prop where
  can:Canon out
  cf:∀ x,coT out x % 10007=tot (fun t=>vT ds dr imgs t.mono t.factor x) f % 10007
  mo:∀ y,y∈out→∃ t,t∈f∧DMono ds imgs y.mono t.mono
theorem Zr2 (ds:List Int) (l b u:A8) (v n x:_):tri ds l b u (v * n) x=v * tri ds l b u n x:=by
  unfold tri
  split
  · rw [Int.mul_left_comm v,Int.mul_left_comm v]
  · simp
theorem Zr3 (ds:List Int) (l b:A8) (v:Int) (img:List Term) (x:A8):triC ds l b (img.map fun u=>⟨u.mono,v * u.factor⟩) x=v * triC ds l b img x:=by
  unfold triC
  rw [Zco,← Zrg]
  exact Zcz fun u _=>Zr2 ds l b u.mono v u.factor x
theorem Zr4 {ds:List Int} {l b:A8} {v:Int} {img own prod:List Term} (h1:∀ y,coT own y % 10007=shC ds ⟨l,v⟩ img y % 10007) (h2:∀ x,coT prod x % 10007=prC ds own [⟨b,1⟩] x % 10007) (x:A8):coT prod x % 10007=(v * triC ds l b img x) % 10007:=by
  rw [← Zr3]
  refine Zki (fun y=>?_) h2 x
  rw [h1]
  congr 1
  unfold shC
  rw [Zco]
  refine Zcz fun u _=>?_
  unfold pr1
  simp only [Int.one_mul]
end Vc
