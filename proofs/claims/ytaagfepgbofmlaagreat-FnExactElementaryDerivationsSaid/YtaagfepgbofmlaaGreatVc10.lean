/- More words of the printed walks. -/
import Derived.Test.YtaagfepgbofmlaaGreatVc9
set_option linter.unusedVariables false
set_option linter.unusedSimpArgs false
namespace Vc
open Go Go.RowKit
section
variable {P : Program} {ops : Array Oper} {Q : Exit → Act → World → Prop} {n : Nat} {e : Env} {w w' : World} {rest : List Oper}
variable {X : Nat → Prop} {w0 : World} {M Ps : List Item}
variable {d ty : Nat} {pos : String} {af : Array Edge} {gd : Option (Nat × Bool)}
theorem r_iaddrO {t el len c sz g : Nat} {x y : Operand} {k : IntKind} {i : Int} (j : Nat) (ht : P.underlying t = some (.slice el)) (hz : SizeT P el sz) (hx : ev n e x = .slice (some ⟨g, 0, none⟩) len c) (hy : ev n e y = .int k i)
    (h0 : 0 ≤ i) (h1 : i < len) (ho : i.toNat * sz = j) : (execOp (ev n e) ⟨some d, .indexAddr t x y, ty, pos, af, gd⟩).run P w = .ok (.value (.pointer (some ⟨g, j, none⟩))) w := by
  have := r_iaddrS (P := P) (w := w) (d := d) (ty := ty) (pos := pos) (af := af) (gd := gd) ht hz hx hy h0 h1
  rwa [add_none, Nat.zero_add, ho] at this
theorem s_iaddrO {t el len c sz g : Nat} {x y : Operand} {k : IntKind} {i : Int} (j : Nat) (ht : P.underlying t = some (.slice el)) (hz : SizeT P el sz) (hx : ev n e x = .slice (some ⟨g, 0, none⟩) len c) (hy : ev n e y = .int k i)
    (h0 : 0 ≤ i) (h1 : i < len) (ho : i.toNat * sz = j) (h : W P ops Q rest n (upd e d (.pointer (some ⟨g, j, none⟩))) w) : W P ops Q (⟨some d, .indexAddr t x y, ty, pos, af, none⟩ :: rest) n e w :=
  stepV _ rfl rfl (r_iaddrO j ht hz hx hy h0 h1 ho) h
theorem wanted_on {l : List Oper} {op : Op} {dst : Option Nat} (g : Nat) {want : Bool} (dg : Nat) (hd : (l[g]?).bind (·.dst) = some dg) {b : Bool} (hv : ev n e (.tmp dg) = .bool b) (hb : b = want) :
    Region.wanted ⟨dst, op, ty, pos, af, some (g, want)⟩ (gval l.toArray n e) = true := by
  simp only [Region.wanted, gval]
  rw [List.getElem?_toArray, hd]
  simp only [ev] at hv
  by_cases hdn : dg < n
  · have hbt : Nat.blt dg n = true := by rw [Nat.blt_eq]; exact hdn
    rw [hbt] at hv
    simp only [cond_true] at hv
    simp [hdn, hv, hb]
  · have hbt : Nat.blt dg n = false := by
      cases hq : Nat.blt dg n with
      | false => rfl
      | true => rw [Nat.blt_eq] at hq; exact absurd hq hdn
    rw [hbt] at hv
    simp [undef] at hv
theorem wanted_off {l : List Oper} {op : Op} {dst : Option Nat} (g : Nat) {want : Bool} (dg : Nat) (hd : (l[g]?).bind (·.dst) = some dg) {b : Bool} (hv : ev n e (.tmp dg) = .bool b) (hb : b ≠ want) :
    Region.wanted ⟨dst, op, ty, pos, af, some (g, want)⟩ (gval l.toArray n e) = false := by
  have := wanted_on (n := n) (e := e) (op := op) (dst := dst) (ty := ty) (pos := pos) (af := af) g (want := b) dg hd hv rfl
  simp only [Region.wanted, beq_iff_eq] at this ⊢
  rw [this]
  simpa using hb
theorem wanted_offU {l : List Oper} {op : Op} {dst : Option Nat} (g : Nat) {want : Bool} (dg : Nat) (hd : (l[g]?).bind (·.dst) = some dg) (hv : ev n e (.tmp dg) = undef) :
    Region.wanted ⟨dst, op, ty, pos, af, some (g, want)⟩ (gval l.toArray n e) = false := by
  simp only [Region.wanted, gval]
  rw [List.getElem?_toArray, hd]
  simp only [ev] at hv
  by_cases hdn : dg < n
  · have hbt : Nat.blt dg n = true := by rw [Nat.blt_eq]; exact hdn
    rw [hbt] at hv
    simp only [cond_true] at hv
    simp [hdn, hv, undef]
  · simp [hdn]
theorem r_loadAh {b t off sz ty' : Nat} {x : Operand} {cs : List Value} (seg : List Value) (hh : (blk b t cs).holds w) (hT : AggT P ty' sz) (hx : ev n e x = .pointer (some ⟨b, off, none⟩))
    (hs : (cs.drop off).take sz = seg) (hl : seg.length = sz) : (execOp (ev n e) ⟨some d, .load ty' x, ty, pos, af, gd⟩).run P w = .ok (.value (.agg seg.toArray)) w := by
  simp [execOp, hx, Instr.loadAt, Instr.sureAddr, run_loadVar_agg hT (cellsAt_blk hh hs) hl]
theorem s_loadAh {b t off sz ty' : Nat} {x : Operand} {cs : List Value} (seg : List Value) (hh : (blk b t cs).holds w) (hT : AggT P ty' sz) (hx : ev n e x = .pointer (some ⟨b, off, none⟩))
    (hs : (cs.drop off).take sz = seg) (hl : seg.length = sz) (h : W P ops Q rest n (upd e d (.agg seg.toArray)) w) : W P ops Q (⟨some d, .load ty' x, ty, pos, af, none⟩ :: rest) n e w :=
  stepV _ rfl rfl (r_loadAh seg hh hT hx hs hl) h
theorem r_loadSh {b t off ty' : Nat} {x : Operand} {cs : List Value} (v : Value) (hh : (blk b t cs).holds w) (hT : ScaT P ty') (hx : ev n e x = .pointer (some ⟨b, off, none⟩))
    (hs : cs[off]? = some v) : (execOp (ev n e) ⟨some d, .load ty' x, ty, pos, af, gd⟩).run P w = .ok (.value v) w := by
  have h1 : (cs.drop off).take 1 = [v] := by rw [List.take_one]; simp [hs]
  simp [execOp, hx, Instr.loadAt, Instr.sureAddr, run_loadVar_sca hT (cellsAt_blk hh h1)]
theorem s_loadSh {b t off ty' : Nat} {x : Operand} {cs : List Value} (v : Value) (hh : (blk b t cs).holds w) (hT : ScaT P ty') (hx : ev n e x = .pointer (some ⟨b, off, none⟩))
    (hs : cs[off]? = some v) (h : W P ops Q rest n (upd e d v) w) : W P ops Q (⟨some d, .load ty' x, ty, pos, af, none⟩ :: rest) n e w :=
  stepV _ rfl rfl (r_loadSh v hh hT hx hs) h
/-- A call of a function value. -/
theorem s_callv {f : Operand} {g : FuncId} {cap : List Value} {l : List Operand} {fn : Func} {at_ : Array Nat} (vs : List Value) (R : Ending → World → Prop) (hx : ev n e f = .func (.func g) #[] cap.toArray) (hf : P.funcs[g]? = some fn) (hb : fn.body.isNone = false)
    (hne : (fn.name == "runtime.NumGoroutine") = false) (hp : l.map (ev n e) = vs) (hc : Calls P g (vs ++ cap).toArray w R)
    (h : ∀ ret w'', R ret w'' → ∃ v, ret = .returned v ∧ W P ops Q rest n (upd e d v) w'') :
    W P ops Q (⟨some d, .call { callee := .value f, args := l.toArray, argTypes := at_ }, ty, pos, af, none⟩ :: rest) n e w := by
  refine stepC (d := d) g (vs ++ cap).toArray R (fun g b hg => by cases hg) rfl ?_ hc h
  have : l.toArray.map (ev n e) = vs.toArray := by rw [← hp]; simp
  simp only [execOp, resolve, this, hx, Deferred.ofValue, Sem.run_bind, Sem.run_pure, Result.andThen_ok, invoke, callFunc]
  simp only [run_program, Sem.run_bind, Result.andThen_ok, hf, hne, hb, Bool.false_eq_true, if_false, Sem.run_pure, Array.append_empty, Array.empty_append]
  simp
/-- A function value with what it captures. -/
theorem map_c {α β : Type} {f : α → β} {x : α} {v : β} {l : List α} {vs : List β} (h : f x = v) (k : l.map f = vs) : (x :: l).map f = v :: vs := by rw [List.map_cons, h, k]
theorem s_mkfunc {g : FuncId} {cap : List Operand} (vs : List Value) (hc : cap.map (ev n e) = vs) (h : W P ops Q rest n (upd e d (.func (.func g) #[] vs.toArray)) w) :
    W P ops Q (⟨some d, .makeFunc (.func g) #[] cap.toArray, ty, pos, af, none⟩ :: rest) n e w := by
  refine stepV (.func (.func g) #[] vs.toArray) rfl rfl ?_ h
  have : cap.toArray.map (ev n e) = vs.toArray := by rw [← hc]; simp
  simp [execOp, Instr.makeFunc, ← hc]
/-- An own row under other names. -/
theorem own_re (hC : Ctx X w0 w M Ps) (k : Nat) {t sz nn : Nat} {v : Value} {cs : List Value} (n' : Nat) (cs' : List Value) (hk : M[k]? = some (own t sz v nn cs)) (hn : nn = n') (hcs : cs = cs') : Ctx X w0 w (M.set k (own t sz v n' cs')) Ps := by
  subst hn hcs
  obtain ⟨hlt, he⟩ := List.getElem?_eq_some_iff.1 hk
  rw [← he, List.set_getElem_self]
  exact hC
end
theorem below_on {w0 w w' : World} (h : Bel w0 w) (k : Bel w w') : Bel w0 w' := h.trans k
theorem fresh_on {w0 w : World} {fp : List Nat} (h : w0.heap.size ≤ w.heap.size) (hf : ∀ b, b ∈ fp → w.heap.size ≤ b) : ∀ b, b ∈ fp → w0.heap.size ≤ b := fun b hb => Nat.le_trans h (hf b hb)
theorem own_fresh {w0 w : World} {M Ps : List Item} (hC : Ctx Nox w0 w M Ps) (k : Nat) {t sz nn : Nat} {v : Value} {cs : List Value} (hk : M[k]? = some (own t sz v nn cs)) : ∀ b, b ∈ v.ownBlock.toList → w0.heap.size ≤ b :=
  fun b hb => (hC.mfp _ (List.mem_of_getElem? hk) b hb).elim id (fun x => x.elim)
theorem own_oneC {ty sz n : Nat} {v : Value} {cs : List Value} {w : World} (h : (own ty sz v n cs).holds w) : v.oneCell' = true := by
  obtain ⟨A, c, rfl⟩ := own_form h
  rfl
theorem rep_oneC {α : Type} {t : Ty α} {xs : List α} {v : Value} {fp : List Nat} {w : World} (h : t.sl.rep xs [v] fp w) : v.oneCell' = true := t.sl.one h v (by simp)
theorem own_cellsV {ty sz n : Nat} {v : Value} {cs : List Value} {w : World} (h : (own ty sz v n cs).holds w) : v.cells.toList = [v] := by
  obtain ⟨A, c, rfl⟩ := own_form h
  rfl
theorem rep_cellsV {α : Type} {t : Ty α} {xs : List α} {v : Value} {fp : List Nat} {w : World} (h : t.sl.rep xs [v] fp w) : v.cells.toList = [v] := by
  obtain ⟨A, c, rfl⟩ := sl_len h
  rfl
theorem cells_subS {w : World} {A : Addr} {j o k : Nat} {cs seg : List Value} (h : cellsAt w (A.add j) cs) (hs : (cs.drop o).take k = seg) : cellsAt w (A.add (j + o)) seg := by
  have := cellsAt_sub h hs
  rwa [add_add] at this
theorem cells_subO {w : World} {g j o k : Nat} {cs seg : List Value} (h : cellsAt w ⟨g, j, none⟩ cs) (hs : (cs.drop o).take k = seg) : cellsAt w ⟨g, j + o, none⟩ seg := by
  have := cellsAt_sub h hs
  rwa [add_none] at this
theorem cellsAt_bel {w w' : World} {a : Addr} {cs : List Value} (hB : Bel w w') (h : cellsAt w a cs) : cellsAt w' a cs := by
  intro j u hj
  have h1 := h j u hj
  refine (World.cell?_of_block (hB.block _ ?_)).trans h1
  unfold World.cell? at h1
  split at h1
  · rename_i e; exact lt_of_block e
  · cases h1
theorem all_c {v : Value} {vs : List Value} (h : v.oneCell' = true) (k : vs.all (·.oneCell') = true) : (v :: vs).all (·.oneCell') = true := by simp [h, k]
theorem len_two {α : Type} {l : List α} (h : l.length = 2) : ∃ a b, l = [a, b] := by
  match l, h with
  | [a, b], _ => exact ⟨a, b, rfl⟩
theorem seg_le {i n sz : Nat} (h : i < n) : i * sz + sz ≤ n * sz := by
  have : (i + 1) * sz ≤ n * sz := Nat.mul_le_mul_right _ h
  rwa [Nat.add_mul, Nat.one_mul] at this
theorem getD_eq {α : Type} [Inhabited α] (xs : List α) (i : Nat) (h : i < xs.length) : xs[i] = xs.getD i default := by simp [List.getD, h]
theorem all_encs {α : Type} {E : Enc α} {xs : List α} {cs : List Value} {fp : List Nat} {w : World} (h : E.ty.all xs cs fp w) : cs = E.encs xs := by
  have hl : cs.length = xs.length * E.sz := h.2.1
  have hs : ∀ i (hi : i < xs.length), (cs.drop (i * E.sz)).take E.sz = E.enc xs[i] := fun i hi => (h.2.2.2 i hi).2
  clear h
  induction xs generalizing cs with
  | nil => simpa [Enc.encs] using hl
  | cons x xs ih =>
    have h0 := hs 0 (by simp)
    simp only [Nat.zero_mul, List.drop_zero, List.getElem_cons_zero] at h0
    have ht := ih (cs := cs.drop E.sz) (by rw [List.length_drop, hl, List.length_cons, Nat.add_mul, Nat.one_mul]; omega) (fun i hi => by
      have := hs (i + 1) (by simpa using hi)
      simp only [List.getElem_cons_succ] at this
      rw [← this, List.drop_drop]
      congr 2
      rw [Nat.add_mul, Nat.one_mul, Nat.add_comm])
    simp only [Enc.encs, List.flatMap_cons]
    rw [← h0]
    show cs = _ ++ E.encs xs
    rw [← ht, List.take_append_drop]
end Vc
