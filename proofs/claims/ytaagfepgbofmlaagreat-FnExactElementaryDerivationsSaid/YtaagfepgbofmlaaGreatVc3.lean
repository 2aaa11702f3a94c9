/- One law for each kind of operation. -/
import Derived.Test.YtaagfepgbofmlaaGreatVc2
set_option linter.unusedVariables false
set_option linter.unusedSimpArgs false
namespace Vc
open Go Go.RowKit
/-- What a type is to a load or a store: made of cells, or one cell; how many. -/
def AggT (P : Program) (t sz : Nat) : Prop := (∃ d, P.underlying t = some d ∧ (match d with | .struct _ | .array _ _ => true | _ => false) = true) ∧ (P.info? t).map (·.size) = some sz
def ScaT (P : Program) (t : Nat) : Prop := (∃ d, P.underlying t = some d ∧ (match d with | .struct _ | .array _ _ => true | _ => false) = false) ∧ (P.info? t).map (·.size) = some 1
def ZeroT (P : Program) (t : Nat) (z : Value) : Prop := (P.info? t).map (·.zero) = some (some z)
def SizeT (P : Program) (t sz : Nat) : Prop := (P.info? t).map (·.size) = some sz
theorem AggT.size {P : Program} {t sz : Nat} (h : AggT P t sz) : SizeT P t sz := h.2
theorem ScaT.size {P : Program} {t : Nat} (h : ScaT P t) : SizeT P t 1 := h.2
theorem run_isAgg_t {P : Program} {t sz : Nat} (h : AggT P t sz) (w : World) : (isAgg t).run P w = .ok true w := by
  obtain ⟨⟨d, hu, hd⟩, _⟩ := h
  unfold isAgg
  rw [Sem.run_bind, run_underlying hu w]
  cases d <;> simp_all
theorem run_isAgg_f {P : Program} {t : Nat} (h : ScaT P t) (w : World) : (isAgg t).run P w = .ok false w := by
  obtain ⟨⟨d, hu, hd⟩, _⟩ := h
  unfold isAgg
  rw [Sem.run_bind, run_underlying hu w]
  cases d <;> simp_all
theorem run_szOf {P : Program} {t sz : Nat} (h : SizeT P t sz) (w : World) : (Go.sizeOf t).run P w = .ok sz w := by
  unfold SizeT at h
  cases hq : P.info? t with
  | none => simp [hq] at h
  | some i =>
    have hs : i.size = sz := by simpa [hq] using h
    simp [Go.sizeOf, typeInfo, hq, hs]
theorem run_zero {P : Program} {t : Nat} {z : Value} (h : ZeroT P t z) (w : World) : (zeroValue t).run P w = .ok z w := by
  unfold ZeroT at h
  cases hq : P.info? t with
  | none => simp [hq] at h
  | some i =>
    have hs : i.zero = some z := by simpa [hq] using h
    simp [zeroValue, typeInfo, hq, hs]
/-- Cells at an address. -/
def cellsAt (w : World) (a : Addr) (seg : List Value) : Prop := ∀ j u, seg[j]? = some u → w.cell? (a.add j) = some u
theorem add_none (g o j : Nat) : (⟨g, o, none⟩ : Addr).add j = ⟨g, o + j, none⟩ := by unfold Addr.add; split <;> simp_all
theorem add_add {a : Addr} (i j : Nat) : (a.add i).add j = a.add (i + j) := by
  unfold Addr.add
  by_cases hi : i = 0
  · subst hi; simp
  · by_cases hj : j = 0
    · subst hj; simp [hi]
    · rw [if_neg hi, if_neg hj, if_neg (by omega)]
      simp [Nat.add_assoc]
theorem cellsAt_blk {w : World} {b t off sz : Nat} {cs seg : List Value} (h : (blk b t cs).holds w) (hs : (cs.drop off).take sz = seg) : cellsAt w ⟨b, off, none⟩ seg := by
  intro j u hj
  rw [add_none, cell_of_row w b _ cs.toArray t (0, 0) h]
  rw [← hs] at hj
  simp only [List.getElem?_take] at hj
  split at hj
  · simpa using hj
  · cases hj
theorem run_loadVar_agg {P : Program} {w : World} {t sz : Nat} {a : Addr} {seg : List Value} (hT : AggT P t sz) (hc : cellsAt w a seg) (hl : seg.length = sz) :
    (loadVar t a).run P w = .ok (.agg seg.toArray) w := by
  have h1 : (loadCells a sz).run P w = .ok seg.toArray w := by
    rw [← hl]; exact run_loadCells_list (P := P) w a seg hc
  unfold loadVar
  simp only [Sem.run_bind, run_isAgg_t hT, Result.andThen_ok, if_true, run_szOf hT.size, h1, Sem.run_pure]
theorem run_loadVar_sca {P : Program} {w : World} {t : Nat} {a : Addr} {v : Value} (hT : ScaT P t) (hc : cellsAt w a [v]) :
    (loadVar t a).run P w = .ok v w := by
  have h0 : w.cell? a = some v := by have := hc 0 v rfl; simpa [Addr.add] using this
  unfold loadVar
  simp only [Sem.run_bind, run_isAgg_f hT, Result.andThen_ok]
  simp [h0]
def splice (cs : List Value) (off : Nat) (vc : List Value) : List Value := cs.take off ++ vc ++ cs.drop (off + vc.length)
theorem run_storeVar_blk {P : Program} {w : World} {b t ty off sz : Nat} {cs vc : List Value} {v : Value} (hT : SizeT P ty sz) (h : (blk b t cs).holds w)
    (hv : v.cells.toList = vc) (hl : vc.length = sz) (h1 : vc.all (·.oneCell') = true) (ho : off + sz ≤ cs.length) :
    ∃ w', (storeVar ty ⟨b, off, none⟩ v).run P w = .ok () w' ∧ (blk b t (splice cs off vc)).holds w' ∧ w'.os = w.os ∧ w'.tape = w.tape ∧ w'.output = w.output ∧ w'.heap.size = w.heap.size ∧
      ∀ k, k ≠ b → w'.heap[k]? = w.heap[k]? := by
  have hs : v.cells.size = sz := by rw [← Array.length_toList, hv, hl]
  have hr := run_storeCells_at (P := P) b off t vc 0 cs.toArray w h (by simp; omega) (by simpa using h1)
  refine ⟨w.setRow b (cs.take off ++ vc ++ cs.drop (off + vc.length)).toArray, ?_, ?_, rfl, rfl, rfl, ?_, ?_⟩
  · unfold storeVar
    simp only [Sem.run_bind, run_szOf hT, Result.andThen_ok, hs, ne_eq, not_true_eq_false, if_false, hv]
    simpa using hr
  · show (World.setRow _ _ _).heap[b]? = _
    rw [setRow_heap w b _ _ t _ h]
    simp [splice]
  · simp
  · intro k hk
    exact setRow_other w b k _ hk
section
variable {P : Program} {ops : Array Oper} {Q : Exit → Act → World → Prop} {n : Nat} {e : Env} {w w' : World} {rest : List Oper}
variable {X : Nat → Prop} {w0 : World} {M Ps : List Item}
variable {d ty : Nat} {pos : String} {af : Array Edge} {gd : Option (Nat × Bool)}
theorem guardOn {l : List Oper} {op : Op} {dst : Option Nat} (g : Nat) {want : Bool} (dg : Nat) (hd : (l[g]?).bind (·.dst) = some dg) {b : Bool} (hv : ev n e (.tmp dg) = .bool b) (hb : b = want)
    (h : W P l.toArray Q (⟨dst, op, ty, pos, af, none⟩ :: rest) n e w) : W P l.toArray Q (⟨dst, op, ty, pos, af, some (g, want)⟩ :: rest) n e w := by
  have hy : yielded l.toArray (actOf n e).tmps g = some want := by
    rw [yielded_actOf]
    unfold gval
    rw [List.getElem?_toArray, hd]
    simp only [ev] at hv
    by_cases hdn : dg < n
    · have hbt : Nat.blt dg n = true := by rw [Nat.blt_eq]; exact hdn
      rw [hbt] at hv
      simp only [cond_true] at hv
      simp [hdn, hv, hb]
    · have hbt : Nat.blt dg n = false := by
        cases hq : Nat.blt dg n with
        | false => rfl
        | true => rw [Nat.blt_eq] at hq; exact absurd hq hdn
      rw [hbt] at hv
      simp [undef] at hv
  obtain ⟨h⟩ := h
  refine ⟨?_⟩
  unfold wpList at h ⊢
  rw [if_pos (by simp [Region.wanted])] at h
  rw [if_pos (by simp [Region.wanted, hy])]
  exact h
theorem guardOff {l : List Oper} {op : Op} (g : Nat) {want : Bool} (dg : Nat) (hd : (l[g]?).bind (·.dst) = some dg) {b : Bool} (hv : ev n e (.tmp dg) = .bool b) (hb : b ≠ want)
    (h : W P l.toArray Q rest n (upd e d undef) w) : W P l.toArray Q (⟨some d, op, ty, pos, af, some (g, want)⟩ :: rest) n e w := by
  refine stepG0 (g := g) (want := want) (b := b) (d := d) rfl rfl ?_ hb h
  unfold gval
  rw [List.getElem?_toArray, hd]
  simp only [ev] at hv
  by_cases hdn : dg < n
  · have hbt : Nat.blt dg n = true := by rw [Nat.blt_eq]; exact hdn
    rw [hbt] at hv
    simp only [cond_true] at hv
    simp [hdn, hv]
  · have hbt : Nat.blt dg n = false := by
      cases hq : Nat.blt dg n with
      | false => rfl
      | true => rw [Nat.blt_eq] at hq; exact absurd hq hdn
    rw [hbt] at hv
    simp [undef] at hv
theorem guardOffU {l : List Oper} {op : Op} (g : Nat) {want : Bool} (dg : Nat) (hd : (l[g]?).bind (·.dst) = some dg) (hv : ev n e (.tmp dg) = undef)
    (h : W P l.toArray Q rest n (upd e d undef) w) : W P l.toArray Q (⟨some d, op, ty, pos, af, some (g, want)⟩ :: rest) n e w := by
  have hy : yielded l.toArray (actOf n e).tmps g = none := by
    rw [yielded_actOf]
    unfold gval
    rw [List.getElem?_toArray, hd]
    simp only [ev] at hv
    by_cases hdn : dg < n
    · have hbt : Nat.blt dg n = true := by rw [Nat.blt_eq]; exact hdn
      rw [hbt] at hv
      simp only [cond_true] at hv
      simp [hdn, hv, undef]
    · simp [hdn]
  refine ⟨?_⟩
  unfold wpList
  rw [if_neg (by simp [Region.wanted, hy]), put_actOf]
  exact h.out
theorem done (h : Q .normal (actOf n e) w) : W P ops Q [] n e w := ⟨h⟩
/-! ### Values alone -/
theorem r_mv {x : Operand} {v : Value} (hx : ev n e x = v) : (execOp (ev n e) ⟨some d, .move x, ty, pos, af, gd⟩).run P w = .ok (.value v) w :=
  (by simp [execOp, hx])
theorem s_mv {x : Operand} {v : Value} (hx : ev n e x = v) (h : W P ops Q rest n (upd e d v) w) : W P ops Q (⟨some d, .move x, ty, pos, af, none⟩ :: rest) n e w :=
  stepV v rfl rfl (by simp [execOp, hx]) h
theorem r_as {x : Operand} {v : Value} (hx : ev n e x = v) : (execOp (ev n e) ⟨some d, .assign x, ty, pos, af, gd⟩).run P w = .ok (.value v) w :=
  (by simp [execOp, hx])
theorem s_as {x : Operand} {v : Value} (hx : ev n e x = v) (h : W P ops Q rest n (upd e d v) w) : W P ops Q (⟨some d, .assign x, ty, pos, af, none⟩ :: rest) n e w :=
  stepV v rfl rfl (by simp [execOp, hx]) h
theorem r_pick {c x y : Operand} {b : Bool} {v : Value} (hc : ev n e c = .bool b) (hv : (bif b then ev n e x else ev n e y) = v) : (execOp (ev n e) ⟨some d, .pick c x y, ty, pos, af, gd⟩).run P w = .ok (.value v) w :=
  (by cases b <;> simp [execOp, hc, asBool] at hv ⊢ <;> exact hv)
theorem s_pick {c x y : Operand} {b : Bool} {v : Value} (hc : ev n e c = .bool b) (hv : (bif b then ev n e x else ev n e y) = v) (h : W P ops Q rest n (upd e d v) w) :
    W P ops Q (⟨some d, .pick c x y, ty, pos, af, none⟩ :: rest) n e w :=
  stepV v rfl rfl (by cases b <;> simp [execOp, hc, asBool] at hv ⊢ <;> exact hv) h
theorem r_arith {op : BinOp} {t t' : Nat} {x y : Operand} {k : IntKind} {a b : Int} {r : Value} (hx : ev n e x = .int k a) (hy : ev n e y = .int k b) (hr : (binOp op t (.int k a) (.int k b)).run P w = .ok r w) :
    (execOp (ev n e) ⟨some d, .binOp op t x y t', ty, pos, af, gd⟩).run P w = .ok (.value r) w := by
  have hq : (eqGuard op t x y (.int k a) (.int k b)).run P w = .ok () w := by
    unfold eqGuard
    cases op <;> simp
  simp only [execOp, hx, hy, Sem.run_bind, hq, Result.andThen_ok, hr, Sem.run_pure]
theorem s_arith {op : BinOp} {t t' : Nat} {x y : Operand} {k : IntKind} {a b : Int} (r : Value) (hx : ev n e x = .int k a) (hy : ev n e y = .int k b) (hr : (binOp op t (.int k a) (.int k b)).run P w = .ok r w)
    (h : W P ops Q rest n (upd e d r) w) : W P ops Q (⟨some d, .binOp op t x y t', ty, pos, af, none⟩ :: rest) n e w := by
  refine stepV r rfl rfl ?_ h
  have hq : (eqGuard op t x y (.int k a) (.int k b)).run P w = .ok () w := by
    unfold eqGuard
    cases op <;> simp
  simp only [execOp, hx, hy, Sem.run_bind, hq, Result.andThen_ok, hr, Sem.run_pure]
theorem r_add {t t' : Nat} {x y : Operand} {k : IntKind} {a b : Int} (hx : ev n e x = .int k a) (hy : ev n e y = .int k b)
    : (execOp (ev n e) ⟨some d, .binOp .add t x y t', ty, pos, af, gd⟩).run P w = .ok (.value (.int k (k.wrap (a + b)))) w :=
  r_arith hx hy (by simp [binOp, Op.intArith])
theorem s_add {t t' : Nat} {x y : Operand} {k : IntKind} {a b : Int} (hx : ev n e x = .int k a) (hy : ev n e y = .int k b)
    (h : W P ops Q rest n (upd e d (.int k (k.wrap (a + b)))) w) : W P ops Q (⟨some d, .binOp .add t x y t', ty, pos, af, none⟩ :: rest) n e w :=
  s_arith _ hx hy (by simp [binOp, Op.intArith]) h
theorem r_sub {t t' : Nat} {x y : Operand} {k : IntKind} {a b : Int} (hx : ev n e x = .int k a) (hy : ev n e y = .int k b)
    : (execOp (ev n e) ⟨some d, .binOp .sub t x y t', ty, pos, af, gd⟩).run P w = .ok (.value (.int k (k.wrap (a - b)))) w :=
  r_arith hx hy (by simp [binOp, Op.intArith])
theorem s_sub {t t' : Nat} {x y : Operand} {k : IntKind} {a b : Int} (hx : ev n e x = .int k a) (hy : ev n e y = .int k b)
    (h : W P ops Q rest n (upd e d (.int k (k.wrap (a - b)))) w) : W P ops Q (⟨some d, .binOp .sub t x y t', ty, pos, af, none⟩ :: rest) n e w :=
  s_arith _ hx hy (by simp [binOp, Op.intArith]) h
theorem r_mul {t t' : Nat} {x y : Operand} {k : IntKind} {a b : Int} (hx : ev n e x = .int k a) (hy : ev n e y = .int k b)
    : (execOp (ev n e) ⟨some d, .binOp .mul t x y t', ty, pos, af, gd⟩).run P w = .ok (.value (.int k (k.wrap (a * b)))) w :=
  r_arith hx hy (by simp [binOp, Op.intArith])
theorem s_mul {t t' : Nat} {x y : Operand} {k : IntKind} {a b : Int} (hx : ev n e x = .int k a) (hy : ev n e y = .int k b)
    (h : W P ops Q rest n (upd e d (.int k (k.wrap (a * b)))) w) : W P ops Q (⟨some d, .binOp .mul t x y t', ty, pos, af, none⟩ :: rest) n e w :=
  s_arith _ hx hy (by simp [binOp, Op.intArith]) h
theorem r_rem {t t' : Nat} {x y : Operand} {k : IntKind} {a b : Int} (hx : ev n e x = .int k a) (hy : ev n e y = .int k b) (h0 : b ≠ 0)
    : (execOp (ev n e) ⟨some d, .binOp .rem t x y t', ty, pos, af, gd⟩).run P w = .ok (.value (.int k (a.tmod b))) w :=
  r_arith hx hy (by simp [binOp, Op.intDiv, h0])
theorem s_rem {t t' : Nat} {x y : Operand} {k : IntKind} {a b : Int} (hx : ev n e x = .int k a) (hy : ev n e y = .int k b) (h0 : b ≠ 0)
    (h : W P ops Q rest n (upd e d (.int k (a.tmod b))) w) : W P ops Q (⟨some d, .binOp .rem t x y t', ty, pos, af, none⟩ :: rest) n e w :=
  s_arith _ hx hy (by simp [binOp, Op.intDiv, h0]) h
theorem s_quo {t t' : Nat} {x y : Operand} {k : IntKind} {a b : Int} (hx : ev n e x = .int k a) (hy : ev n e y = .int k b) (h0 : b ≠ 0)
    (h : W P ops Q rest n (upd e d (.int k (k.wrap (a.tdiv b)))) w) : W P ops Q (⟨some d, .binOp .quo t x y t', ty, pos, af, none⟩ :: rest) n e w :=
  s_arith _ hx hy (by simp [binOp, Op.intDiv, h0]) h
theorem r_eql {t t' : Nat} {x y : Operand} {k : IntKind} {a b : Int} (hx : ev n e x = .int k a) (hy : ev n e y = .int k b)
    : (execOp (ev n e) ⟨some d, .binOp .eql t x y t', ty, pos, af, gd⟩).run P w = .ok (.value (.bool (decide (a = b)))) w :=
  r_arith hx hy (by simp [binOp, Op.intCmp, Bool.beq_eq_decide_eq])
theorem s_eql {t t' : Nat} {x y : Operand} {k : IntKind} {a b : Int} (hx : ev n e x = .int k a) (hy : ev n e y = .int k b)
    (h : W P ops Q rest n (upd e d (.bool (decide (a = b)))) w) : W P ops Q (⟨some d, .binOp .eql t x y t', ty, pos, af, none⟩ :: rest) n e w :=
  s_arith _ hx hy (by simp [binOp, Op.intCmp, Bool.beq_eq_decide_eq]) h
theorem s_neq {t t' : Nat} {x y : Operand} {k : IntKind} {a b : Int} (hx : ev n e x = .int k a) (hy : ev n e y = .int k b)
    (h : W P ops Q rest n (upd e d (.bool (decide (a ≠ b)))) w) : W P ops Q (⟨some d, .binOp .neq t x y t', ty, pos, af, none⟩ :: rest) n e w :=
  s_arith _ hx hy (by simp [binOp, Op.intCmp, bne]; rfl) h
theorem r_lss {t t' : Nat} {x y : Operand} {k : IntKind} {a b : Int} (hx : ev n e x = .int k a) (hy : ev n e y = .int k b)
    : (execOp (ev n e) ⟨some d, .binOp .lss t x y t', ty, pos, af, gd⟩).run P w = .ok (.value (.bool (decide (a < b)))) w :=
  r_arith hx hy (by simp [binOp, Op.intCmp])
theorem s_lss {t t' : Nat} {x y : Operand} {k : IntKind} {a b : Int} (hx : ev n e x = .int k a) (hy : ev n e y = .int k b)
    (h : W P ops Q rest n (upd e d (.bool (decide (a < b)))) w) : W P ops Q (⟨some d, .binOp .lss t x y t', ty, pos, af, none⟩ :: rest) n e w :=
  s_arith _ hx hy (by simp [binOp, Op.intCmp]) h
theorem r_leq {t t' : Nat} {x y : Operand} {k : IntKind} {a b : Int} (hx : ev n e x = .int k a) (hy : ev n e y = .int k b)
    : (execOp (ev n e) ⟨some d, .binOp .leq t x y t', ty, pos, af, gd⟩).run P w = .ok (.value (.bool (decide (a ≤ b)))) w :=
  r_arith hx hy (by simp [binOp, Op.intCmp])
theorem s_leq {t t' : Nat} {x y : Operand} {k : IntKind} {a b : Int} (hx : ev n e x = .int k a) (hy : ev n e y = .int k b)
    (h : W P ops Q rest n (upd e d (.bool (decide (a ≤ b)))) w) : W P ops Q (⟨some d, .binOp .leq t x y t', ty, pos, af, none⟩ :: rest) n e w :=
  s_arith _ hx hy (by simp [binOp, Op.intCmp]) h
theorem r_gtr {t t' : Nat} {x y : Operand} {k : IntKind} {a b : Int} (hx : ev n e x = .int k a) (hy : ev n e y = .int k b)
    : (execOp (ev n e) ⟨some d, .binOp .gtr t x y t', ty, pos, af, gd⟩).run P w = .ok (.value (.bool (decide (a > b)))) w :=
  r_arith hx hy (by simp [binOp, Op.intCmp])
theorem s_gtr {t t' : Nat} {x y : Operand} {k : IntKind} {a b : Int} (hx : ev n e x = .int k a) (hy : ev n e y = .int k b)
    (h : W P ops Q rest n (upd e d (.bool (decide (a > b)))) w) : W P ops Q (⟨some d, .binOp .gtr t x y t', ty, pos, af, none⟩ :: rest) n e w :=
  s_arith _ hx hy (by simp [binOp, Op.intCmp]) h
theorem s_geq {t t' : Nat} {x y : Operand} {k : IntKind} {a b : Int} (hx : ev n e x = .int k a) (hy : ev n e y = .int k b)
    (h : W P ops Q rest n (upd e d (.bool (decide (a ≥ b)))) w) : W P ops Q (⟨some d, .binOp .geq t x y t', ty, pos, af, none⟩ :: rest) n e w :=
  s_arith _ hx hy (by simp [binOp, Op.intCmp]) h
theorem r_not {t : Nat} {x : Operand} {b : Bool} (hx : ev n e x = .bool b) : (execOp (ev n e) ⟨some d, .unOp .not t x, ty, pos, af, gd⟩).run P w = .ok (.value (.bool (!b))) w :=
  (by simp [execOp, hx, Op.unary])
theorem s_not {t : Nat} {x : Operand} {b : Bool} (hx : ev n e x = .bool b) (h : W P ops Q rest n (upd e d (.bool (!b))) w) :
    W P ops Q (⟨some d, .unOp .not t x, ty, pos, af, none⟩ :: rest) n e w :=
  stepV _ rfl rfl (by simp [execOp, hx, Op.unary]) h
theorem s_neg {t : Nat} {x : Operand} {k : IntKind} {a : Int} (hx : ev n e x = .int k a) (h : W P ops Q rest n (upd e d (.int k (k.wrap (0 - a)))) w) :
    W P ops Q (⟨some d, .unOp .neg t x, ty, pos, af, none⟩ :: rest) n e w :=
  stepV _ rfl rfl (by simp [execOp, hx, Op.unary, Op.intArith]) h
theorem r_conv {src dst : Nat} {x : Operand} {k k' : IntKind} {a : Int} {sd : TypeDesc} (hs : P.underlying src = some sd) (hd : P.underlying dst = some (.int k')) (hx : ev n e x = .int k a)
    : (execOp (ev n e) ⟨some d, .convert src dst x, ty, pos, af, gd⟩).run P w = .ok (.value (.int k' (k'.wrap a))) w :=
  (by
    simp only [execOp, hx, convert, Sem.run_bind, run_underlying hs, run_underlying hd, Result.andThen_ok]
    cases sd <;> simp [Conv.intToInt])
theorem s_conv {src dst : Nat} {x : Operand} {k k' : IntKind} {a : Int} {sd : TypeDesc} (hs : P.underlying src = some sd) (hd : P.underlying dst = some (.int k')) (hx : ev n e x = .int k a)
    (h : W P ops Q rest n (upd e d (.int k' (k'.wrap a))) w) : W P ops Q (⟨some d, .convert src dst x, ty, pos, af, none⟩ :: rest) n e w :=
  stepV _ rfl rfl (by
    simp only [execOp, hx, convert, Sem.run_bind, run_underlying hs, run_underlying hd, Result.andThen_ok]
    cases sd <;> simp [Conv.intToInt]) h
theorem r_ext {x : Operand} {i : Nat} {vs : Array Value} {v : Value} (hx : ev n e x = .tuple vs) (hv : vs[i]? = some v) : (execOp (ev n e) ⟨some d, .extract x i, ty, pos, af, gd⟩).run P w = .ok (.value v) w :=
  (by simp [execOp, hx, Instr.extract, hv])
theorem s_ext {x : Operand} {i : Nat} {vs : Array Value} {v : Value} (hx : ev n e x = .tuple vs) (hv : vs[i]? = some v) (h : W P ops Q rest n (upd e d v) w) :
    W P ops Q (⟨some d, .extract x i, ty, pos, af, none⟩ :: rest) n e w :=
  stepV v rfl rfl (by simp [execOp, hx, Instr.extract, hv]) h
theorem r_nilchk {x : Operand} {a : Addr} (hx : ev n e x = .pointer (some a)) : (execOp (ev n e) ⟨some d, .nilCheck x, ty, pos, af, gd⟩).run P w = .ok (.value (.pointer (some a))) w :=
  (by simp [execOp, hx])
theorem s_nilchk {x : Operand} {a : Addr} (hx : ev n e x = .pointer (some a)) (h : W P ops Q rest n (upd e d (.pointer (some a))) w) :
    W P ops Q (⟨some d, .nilCheck x, ty, pos, af, none⟩ :: rest) n e w :=
  stepV _ rfl rfl (by simp [execOp, hx]) h
/-! ### Addresses -/
theorem r_faddr {s : Nat} {x : Operand} {i : Nat} {a : Addr} {fs : Array Field} {f : Field} (hs : P.underlying s = some (.struct fs)) (hf : fs[i]? = some f) {sz : Nat} (hz : SizeT P f.type (sz + 1)) (hx : ev n e x = .pointer (some a))
    : (execOp (ev n e) ⟨some d, .fieldAddr s x i, ty, pos, af, gd⟩).run P w = .ok (.value (.pointer (some (a.add f.offset)))) w :=
  (by
    simp only [execOp, hx, Instr.fieldAt, Sem.run_bind, run_underlying hs, Result.andThen_ok, hf, Instr.sureAddr, fieldPlace, run_szOf hz, Sem.run_pure]
    simp)
theorem s_faddr {s : Nat} {x : Operand} {i : Nat} {a : Addr} {fs : Array Field} {f : Field} (hs : P.underlying s = some (.struct fs)) (hf : fs[i]? = some f) {sz : Nat} (hz : SizeT P f.type (sz + 1)) (hx : ev n e x = .pointer (some a))
    (h : W P ops Q rest n (upd e d (.pointer (some (a.add f.offset)))) w) : W P ops Q (⟨some d, .fieldAddr s x i, ty, pos, af, none⟩ :: rest) n e w :=
  stepV _ rfl rfl (by
    simp only [execOp, hx, Instr.fieldAt, Sem.run_bind, run_underlying hs, Result.andThen_ok, hf, Instr.sureAddr, fieldPlace, run_szOf hz, Sem.run_pure]
    simp) h
theorem r_iaddrA {t el len sz : Nat} {x y : Operand} {a : Addr} {k : IntKind} {i : Int} (ht : P.underlying t = some (.array len el)) (hz : SizeT P el sz) (hx : ev n e x = .pointer (some a)) (hy : ev n e y = .int k i)
    (h0 : 0 ≤ i) (h1 : i < len) : (execOp (ev n e) ⟨some d, .indexAddr t x y, ty, pos, af, gd⟩).run P w = .ok (.value (.pointer (some (a.add (i.toNat * sz))))) w :=
  (by
    simp only [execOp, hx, hy, Instr.indexAt, asIntOf, Sem.run_bind, Sem.run_pure, Result.andThen_ok, run_underlying ht, Instr.sureAddr]
    simp [h0, h1, run_szOf hz])
theorem s_iaddrA {t el len sz : Nat} {x y : Operand} {a : Addr} {k : IntKind} {i : Int} (ht : P.underlying t = some (.array len el)) (hz : SizeT P el sz) (hx : ev n e x = .pointer (some a)) (hy : ev n e y = .int k i)
    (h0 : 0 ≤ i) (h1 : i < len) (h : W P ops Q rest n (upd e d (.pointer (some (a.add (i.toNat * sz))))) w) :
    W P ops Q (⟨some d, .indexAddr t x y, ty, pos, af, none⟩ :: rest) n e w :=
  stepV _ rfl rfl (by
    simp only [execOp, hx, hy, Instr.indexAt, asIntOf, Sem.run_bind, Sem.run_pure, Result.andThen_ok, run_underlying ht, Instr.sureAddr]
    simp [h0, h1, run_szOf hz]) h
theorem r_iaddrB {t el len sz b off : Nat} {x y : Operand} {k : IntKind} {i : Int} (off' : Nat) (ht : P.underlying t = some (.array len el)) (hz : SizeT P el sz) (hx : ev n e x = .pointer (some ⟨b, off, none⟩)) (hy : ev n e y = .int k i)
    (h0 : 0 ≤ i) (h1 : i < len) (ho : off + i.toNat * sz = off') : (execOp (ev n e) ⟨some d, .indexAddr t x y, ty, pos, af, gd⟩).run P w = .ok (.value (.pointer (some ⟨b, off', none⟩))) w :=
  by have := r_iaddrA (P := P) (w := w) (d := d) (ty := ty) (pos := pos) (af := af) (gd := gd) ht hz hx hy h0 h1; rwa [add_none, ho] at this
theorem s_iaddrB {t el len sz b off : Nat} {x y : Operand} {k : IntKind} {i : Int} (off' : Nat) (ht : P.underlying t = some (.array len el)) (hz : SizeT P el sz) (hx : ev n e x = .pointer (some ⟨b, off, none⟩)) (hy : ev n e y = .int k i)
    (h0 : 0 ≤ i) (h1 : i < len) (ho : off + i.toNat * sz = off') (h : W P ops Q rest n (upd e d (.pointer (some ⟨b, off', none⟩))) w) :
    W P ops Q (⟨some d, .indexAddr t x y, ty, pos, af, none⟩ :: rest) n e w :=
  s_iaddrA ht hz hx hy h0 h1 (by rw [add_none, ho]; exact h)
theorem r_faddrB {s b off : Nat} {x : Operand} {i : Nat} {fs : Array Field} {f : Field} (off' : Nat) (hs : P.underlying s = some (.struct fs)) (hf : fs[i]? = some f) {sz : Nat} (hz : SizeT P f.type (sz + 1)) (hx : ev n e x = .pointer (some ⟨b, off, none⟩))
    (ho : off + f.offset = off') : (execOp (ev n e) ⟨some d, .fieldAddr s x i, ty, pos, af, gd⟩).run P w = .ok (.value (.pointer (some ⟨b, off', none⟩))) w :=
  by have := r_faddr (P := P) (w := w) (d := d) (ty := ty) (pos := pos) (af := af) (gd := gd) hs hf hz hx; rwa [add_none, ho] at this
theorem s_faddrB {s b off : Nat} {x : Operand} {i : Nat} {fs : Array Field} {f : Field} (off' : Nat) (hs : P.underlying s = some (.struct fs)) (hf : fs[i]? = some f) {sz : Nat} (hz : SizeT P f.type (sz + 1)) (hx : ev n e x = .pointer (some ⟨b, off, none⟩))
    (ho : off + f.offset = off') (h : W P ops Q rest n (upd e d (.pointer (some ⟨b, off', none⟩))) w) : W P ops Q (⟨some d, .fieldAddr s x i, ty, pos, af, none⟩ :: rest) n e w :=
  s_faddr hs hf hz hx (by rw [add_none, ho]; exact h)
theorem r_faddrS {s : Nat} {A : Addr} {j : Nat} {x : Operand} {i : Nat} {fs : Array Field} {f : Field} (j' : Nat) (hs : P.underlying s = some (.struct fs)) (hf : fs[i]? = some f) {sz : Nat} (hz : SizeT P f.type (sz + 1)) (hx : ev n e x = .pointer (some (A.add j)))
    (ho : j + f.offset = j') : (execOp (ev n e) ⟨some d, .fieldAddr s x i, ty, pos, af, gd⟩).run P w = .ok (.value (.pointer (some (A.add j')))) w :=
  by have := r_faddr (P := P) (w := w) (d := d) (ty := ty) (pos := pos) (af := af) (gd := gd) hs hf hz hx; rwa [add_add, ho] at this
theorem s_faddrS {s : Nat} {A : Addr} {j : Nat} {x : Operand} {i : Nat} {fs : Array Field} {f : Field} (j' : Nat) (hs : P.underlying s = some (.struct fs)) (hf : fs[i]? = some f) {sz : Nat} (hz : SizeT P f.type (sz + 1)) (hx : ev n e x = .pointer (some (A.add j)))
    (ho : j + f.offset = j') (h : W P ops Q rest n (upd e d (.pointer (some (A.add j')))) w) : W P ops Q (⟨some d, .fieldAddr s x i, ty, pos, af, none⟩ :: rest) n e w :=
  s_faddr hs hf hz hx (by rw [add_add, ho]; exact h)
theorem r_iaddrS {t el len c sz : Nat} {x y : Operand} {A : Addr} {k : IntKind} {i : Int} (ht : P.underlying t = some (.slice el)) (hz : SizeT P el sz) (hx : ev n e x = .slice (some A) len c) (hy : ev n e y = .int k i)
    (h0 : 0 ≤ i) (h1 : i < len) : (execOp (ev n e) ⟨some d, .indexAddr t x y, ty, pos, af, gd⟩).run P w = .ok (.value (.pointer (some (A.add (i.toNat * sz))))) w :=
  (by
    simp only [execOp, hx, hy, Instr.indexAt, asIntOf, Sem.run_bind, Sem.run_pure, Result.andThen_ok, run_underlying ht]
    simp [h0, h1, run_szOf hz])
theorem s_iaddrS {t el len c sz : Nat} {x y : Operand} {A : Addr} {k : IntKind} {i : Int} (ht : P.underlying t = some (.slice el)) (hz : SizeT P el sz) (hx : ev n e x = .slice (some A) len c) (hy : ev n e y = .int k i)
    (h0 : 0 ≤ i) (h1 : i < len) (h : W P ops Q rest n (upd e d (.pointer (some (A.add (i.toNat * sz))))) w) :
    W P ops Q (⟨some d, .indexAddr t x y, ty, pos, af, none⟩ :: rest) n e w :=
  stepV _ rfl rfl (by
    simp only [execOp, hx, hy, Instr.indexAt, asIntOf, Sem.run_bind, Sem.run_pure, Result.andThen_ok, run_underlying ht]
    simp [h0, h1, run_szOf hz]) h
theorem s_index {t el len : Nat} {x y : Operand} {cs : List Value} {k : IntKind} {i : Int} (v : Value) (ht : P.underlying t = some (.array len el)) (hx : ev n e x = .agg cs.toArray) (hy : ev n e y = .int k i)
    (h0 : 0 ≤ i) (h1 : i < len) (hS : ScaT P el) (hv : cs[i.toNat]? = some v) (h : W P ops Q rest n (upd e d v) w) :
    W P ops Q (⟨some d, .index t x y, ty, pos, af, none⟩ :: rest) n e w :=
  stepV v rfl rfl (by
    simp only [execOp, hx, hy, Instr.index, asIntOf, Sem.run_bind, Sem.run_pure, Result.andThen_ok, run_underlying ht]
    rw [if_pos ⟨h0, h1⟩]
    simp [run_szOf hS.size, part, run_isAgg_f hS, hv]) h
theorem r_build {t : Nat} {l : List (Nat × Operand)} (vs : List (Nat × Value)) {v : Value} (hp : l.map (fun p => (p.1, ev n e p.2)) = vs) (hr : (Instr.build t vs.toArray).run P w = .ok v w) : (execOp (ev n e) ⟨some d, .build t l.toArray, ty, pos, af, gd⟩).run P w = .ok (.value v) w :=
  (by
    have : (l.toArray.map fun (x : Nat × Operand) => match x with | (i, x) => (i, ev n e x)) = vs.toArray := by
      rw [← hp]; simp
    simp only [execOp, Sem.run_bind, this, hr, Result.andThen_ok, Sem.run_pure])
theorem s_build {t : Nat} {l : List (Nat × Operand)} (vs : List (Nat × Value)) {v : Value} (hp : l.map (fun p => (p.1, ev n e p.2)) = vs) (hr : (Instr.build t vs.toArray).run P w = .ok v w) (h : W P ops Q rest n (upd e d v) w) :
    W P ops Q (⟨some d, .build t l.toArray, ty, pos, af, none⟩ :: rest) n e w :=
  stepV v rfl rfl (by
    have : (l.toArray.map fun (x : Nat × Operand) => match x with | (i, x) => (i, ev n e x)) = vs.toArray := by
      rw [← hp]; simp
    simp only [execOp, Sem.run_bind, this, hr, Result.andThen_ok, Sem.run_pure]) h
/-! ### Memory -/
/-- A call of a Go function, by what it does. -/
theorem s_call {f : FuncId} {l : List Operand} {fn : Func} {at_ : Array Nat} (vs : List Value) (R : Ending → World → Prop) (hf : P.funcs[f]? = some fn) (hb : fn.body.isNone = false) (hne : (fn.name == "runtime.NumGoroutine") = false)
    (hp : l.map (ev n e) = vs) (hc : Calls P f vs.toArray w R)
    (h : ∀ ret w'', R ret w'' → ∃ v, ret = .returned v ∧ W P ops Q rest n (upd e d v) w'') :
    W P ops Q (⟨some d, .call { callee := .value (.func f), args := l.toArray, argTypes := at_ }, ty, pos, af, none⟩ :: rest) n e w := by
  refine stepC (d := d) f vs.toArray R (fun g b hg => by cases hg) rfl ?_ hc h
  have : l.toArray.map (ev n e) = vs.toArray := by rw [← hp]; simp
  simp only [execOp, resolve, this, ev, Deferred.ofValue, Sem.run_bind, Sem.run_pure, Result.andThen_ok, invoke, callFunc]
  simp only [run_program, Sem.run_bind, Result.andThen_ok, hf, hne, hb, Bool.false_eq_true, if_false, Sem.run_pure, Array.append_empty, Array.empty_append]
theorem s_alloc (hC : Ctx X w0 w M Ps) {t : Nat} {z : Value} (cs : List Value) (hz : ZeroT P t z) (hcs : z.cells.toList = cs)
    (h : ∀ b w', Bel w w' → Ctx X w0 w' (blk b t cs :: M) Ps → W P ops Q rest n (upd e d (.pointer (some ⟨b, 0, none⟩))) w') :
    W P ops Q (⟨some d, .alloc t, ty, pos, af, none⟩ :: rest) n e w := by
  have hB : Bel w (w.alloc (.cells z.cells t)) := Bel.alloc _ _
  refine stepV (.pointer (some ⟨w.heap.size, 0, none⟩)) rfl rfl ?_ (h w.heap.size (w.alloc (.cells z.cells t)) hB (hC.push hB _ ?_ ?_))
  · simp [execOp, Instr.alloc, run_zero hz, newVar, newRow]
  · show (w.alloc _).heap[w.heap.size]? = _
    rw [heap_alloc_new, ← hcs]
  · simp [blk]
theorem s_box (hC : Ctx X w0 w M Ps) {t : Nat} {x : Operand} {v : Value} (cs : List Value) (hx : ev n e x = v) (hcs : v.cells.toList = cs)
    (h : ∀ b w', Bel w w' → Ctx X w0 w' (blk b t cs :: M) Ps → W P ops Q rest n (upd e d (.pointer (some ⟨b, 0, none⟩))) w') :
    W P ops Q (⟨some d, .box t x, ty, pos, af, none⟩ :: rest) n e w := by
  have hB : Bel w (w.alloc (.cells v.cells t)) := Bel.alloc _ _
  refine stepV (.pointer (some ⟨w.heap.size, 0, none⟩)) rfl rfl ?_ (h w.heap.size (w.alloc (.cells v.cells t)) hB (hC.push hB _ ?_ ?_))
  · simp [execOp, Instr.box, hx, newVar, newRow]
  · show (w.alloc _).heap[w.heap.size]? = _
    rw [heap_alloc_new, ← hcs]
  · simp [blk]
theorem r_loadA (hC : Ctx X w0 w M Ps) (k : Nat) {b t off sz ty' : Nat} {x : Operand} {cs : List Value} (seg : List Value) (hk : M[k]? = some (blk b t cs)) (hT : AggT P ty' sz) (hx : ev n e x = .pointer (some ⟨b, off, none⟩))
    (hs : (cs.drop off).take sz = seg) (hl : seg.length = sz) : (execOp (ev n e) ⟨some d, .load ty' x, ty, pos, af, gd⟩).run P w = .ok (.value (.agg seg.toArray)) w :=
  (by simp [execOp, hx, Instr.loadAt, Instr.sureAddr, run_loadVar_agg hT (cellsAt_blk (hC.getM k hk) hs) hl])
theorem s_loadA (hC : Ctx X w0 w M Ps) (k : Nat) {b t off sz ty' : Nat} {x : Operand} {cs : List Value} (seg : List Value) (hk : M[k]? = some (blk b t cs)) (hT : AggT P ty' sz) (hx : ev n e x = .pointer (some ⟨b, off, none⟩))
    (hs : (cs.drop off).take sz = seg) (hl : seg.length = sz) (h : W P ops Q rest n (upd e d (.agg seg.toArray)) w) :
    W P ops Q (⟨some d, .load ty' x, ty, pos, af, none⟩ :: rest) n e w :=
  stepV _ rfl rfl (by simp [execOp, hx, Instr.loadAt, Instr.sureAddr, run_loadVar_agg hT (cellsAt_blk (hC.getM k hk) hs) hl]) h
theorem r_loadS (hC : Ctx X w0 w M Ps) (k : Nat) {b t off ty' : Nat} {x : Operand} {cs : List Value} (v : Value) (hk : M[k]? = some (blk b t cs)) (hT : ScaT P ty') (hx : ev n e x = .pointer (some ⟨b, off, none⟩))
    (hs : cs[off]? = some v) : (execOp (ev n e) ⟨some d, .load ty' x, ty, pos, af, gd⟩).run P w = .ok (.value v) w :=
  (by
    have h1 : (cs.drop off).take 1 = [v] := by
      rw [List.take_one]
      simp [hs]
    simp [execOp, hx, Instr.loadAt, Instr.sureAddr, run_loadVar_sca hT (cellsAt_blk (hC.getM k hk) h1)])
theorem s_loadS (hC : Ctx X w0 w M Ps) (k : Nat) {b t off ty' : Nat} {x : Operand} {cs : List Value} (v : Value) (hk : M[k]? = some (blk b t cs)) (hT : ScaT P ty') (hx : ev n e x = .pointer (some ⟨b, off, none⟩))
    (hs : cs[off]? = some v) (h : W P ops Q rest n (upd e d v) w) :
    W P ops Q (⟨some d, .load ty' x, ty, pos, af, none⟩ :: rest) n e w :=
  stepV _ rfl rfl (by
    have h1 : (cs.drop off).take 1 = [v] := by
      rw [List.take_one]
      simp [hs]
    simp [execOp, hx, Instr.loadAt, Instr.sureAddr, run_loadVar_sca hT (cellsAt_blk (hC.getM k hk) h1)]) h
theorem s_store (hC : Ctx X w0 w M Ps) (k : Nat) {b t off sz ty' : Nat} {x y : Operand} {cs : List Value} {v : Value} (vc : List Value) (cs' : List Value) (hk : M[k]? = some (blk b t cs)) (hT : SizeT P ty' sz) (hx : ev n e x = .pointer (some ⟨b, off, none⟩))
    (hy : ev n e y = v) (hv : v.cells.toList = vc) (hl : vc.length = sz) (h1 : vc.all (·.oneCell') = true) (ho : off + sz ≤ cs.length) (hcs : splice cs off vc = cs')
    (h : ∀ w', Ctx X w0 w' (M.set k (blk b t cs')) Ps → W P ops Q rest n e w') :
    W P ops Q (⟨none, .store ty' x y, ty, pos, af, none⟩ :: rest) n e w := by
  obtain ⟨w', hr, hb, hos, hta, hou, hsz, hother⟩ := run_storeVar_blk (P := P) hT (hC.getM k hk) hv hl h1 ho
  refine stepU rfl rfl ?_ (h w' (hC.turn k hk hos hta hou (by omega) (run_drawn _ _ _ _ hr) (fun c _ hc => hother c (by simpa [blk] using hc)) (hcs ▸ hb) (fun c hc => .inl hc)))
  simp [execOp, hx, hy, Instr.storeAt, Instr.sureAddr, hr]
end
end Vc
