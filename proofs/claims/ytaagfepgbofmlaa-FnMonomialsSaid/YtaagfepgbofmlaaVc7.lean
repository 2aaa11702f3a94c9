/- Operations on rows. -/
import Derived.Test.YtaagfepgbofmlaaVc6
import Derived.OwnWalk
import Derived.Laws.OwnMore
import Derived.Laws.MakeOwn
set_option linter.unusedVariables false
set_option linter.unusedSimpArgs false
namespace Vc
open Go Go.RowKit
/-- An element type's zero value, its cells, its bytes. -/
def ElemT (P : Program) (e : Nat) (z : Value) (sz bytes : Nat) : Prop := (P.info? e).map (fun i => (i.zero, i.size, i.bytes)) = some (some z, sz, bytes)
section
variable {P : Program} {ops : Array Oper} {Q : Exit → Act → World → Prop} {n : Nat} {e : Env} {w w' : World} {rest : List Oper}
variable {X : Nat → Prop} {w0 : World} {M Ps : List Item}
variable {d ty : Nat} {pos : String} {af : Array Edge} {gd : Option (Nat × Bool)}
theorem r_loadCA {a : Addr} {sz ty' : Nat} {x : Operand} (seg : List Value) (hc : cellsAt w a seg) (hT : AggT P ty' sz) (hx : ev n e x = .pointer (some a)) (hl : seg.length = sz)
    : (execOp (ev n e) ⟨some d, .load ty' x, ty, pos, af, gd⟩).run P w = .ok (.value (.agg seg.toArray)) w :=
  (by simp [execOp, hx, Instr.loadAt, Instr.sureAddr, run_loadVar_agg hT hc hl])
theorem s_loadCA {a : Addr} {sz ty' : Nat} {x : Operand} (seg : List Value) (hc : cellsAt w a seg) (hT : AggT P ty' sz) (hx : ev n e x = .pointer (some a)) (hl : seg.length = sz)
    (h : W P ops Q rest n (upd e d (.agg seg.toArray)) w) : W P ops Q (⟨some d, .load ty' x, ty, pos, af, none⟩ :: rest) n e w :=
  stepV _ rfl rfl (by simp [execOp, hx, Instr.loadAt, Instr.sureAddr, run_loadVar_agg hT hc hl]) h
theorem r_loadCS {a : Addr} {ty' : Nat} {x : Operand} (v : Value) (hc : cellsAt w a [v]) (hT : ScaT P ty') (hx : ev n e x = .pointer (some a))
    : (execOp (ev n e) ⟨some d, .load ty' x, ty, pos, af, gd⟩).run P w = .ok (.value v) w :=
  (by simp [execOp, hx, Instr.loadAt, Instr.sureAddr, run_loadVar_sca hT hc])
theorem s_loadCS {a : Addr} {ty' : Nat} {x : Operand} (v : Value) (hc : cellsAt w a [v]) (hT : ScaT P ty') (hx : ev n e x = .pointer (some a))
    (h : W P ops Q rest n (upd e d v) w) : W P ops Q (⟨some d, .load ty' x, ty, pos, af, none⟩ :: rest) n e w :=
  stepV _ rfl rfl (by simp [execOp, hx, Instr.loadAt, Instr.sureAddr, run_loadVar_sca hT hc]) h
theorem r_len {t el m c : Nat} {x : Operand} {A : Option Addr} (ht : P.underlying t = some (.slice el)) (hx : ev n e x = .slice A m c)
    : (execOp (ev n e) ⟨some d, .call { callee := .builtin .len, args := #[x], argTypes := #[t] }, ty, pos, af, gd⟩).run P w = .ok (.value (.int .i64 (m : Int))) w :=
  (by
    simp [execOp, resolve, invoke, builtin, hx, Builtin.len_, Sem.run_bind, run_underlying ht, goInt])
theorem s_len {t el m c : Nat} {x : Operand} {A : Option Addr} (ht : P.underlying t = some (.slice el)) (hx : ev n e x = .slice A m c)
    (h : W P ops Q rest n (upd e d (.int .i64 (m : Int))) w) : W P ops Q (⟨some d, .call { callee := .builtin .len, args := #[x], argTypes := #[t] }, ty, pos, af, none⟩ :: rest) n e w :=
  stepV _ rfl rfl (by
    simp [execOp, resolve, invoke, builtin, hx, Builtin.len_, Sem.run_bind, run_underlying ht, goInt]) h
/-- A row that the operation lays: its elements written out. -/
theorem s_bslice (hC : Ctx X w0 w M Ps) {t el len sz : Nat} {l : List (Nat × Operand)} (vs : List (Nat × Value)) (cs : List Value) (hp : l.map (fun p => (p.1, ev n e p.2)) = vs)
    (hr : ∀ w : World, (Instr.buildSlice t len vs.toArray).run P w = .ok (.slice (some ⟨w.heap.size, 0, none⟩) len len) (w.alloc (.cells cs.toArray el))) (hl : cs.length = len * sz) (hm : len ≤ maxLen)
    (h : ∀ b w', Bel w w' → Ctx X w0 w' (own el sz (.slice (some ⟨b, 0, none⟩) len len) len cs :: M) Ps → W P ops Q rest n (upd e d (.slice (some ⟨b, 0, none⟩) len len)) w') :
    W P ops Q (⟨some d, .buildSlice t len l.toArray, ty, pos, af, none⟩ :: rest) n e w := by
  have hB : Bel w (w.alloc (.cells cs.toArray el)) := Bel.alloc _ _
  refine stepV _ rfl rfl ?_ (h w.heap.size (w.alloc (.cells cs.toArray el)) hB (hC.push hB _ ?_ ?_))
  · have : (l.toArray.map fun (x : Nat × Operand) => match x with | (i, x) => (i, ev n e x)) = vs.toArray := by
      rw [← hp]; simp
    simp only [execOp, Sem.run_bind, this, hr, Result.andThen_ok, Sem.run_pure]
  · exact World.ownsRow_lit w cs.toArray len (Nat.zero_le _) hm (by simpa using hl)
  · simp [own, Value.ownBlock]
/-- 'append(v, u...)', v the call's own. -/
theorem s_app (hC : Ctx X w0 w M Ps) (k : Nat) {t el sz bytes nv m : Nat} {z : Value} {x y : Operand} {v u : Value} {cs cs2 : List Value} {fp : List Nat}
    (ht : P.underlying t = some (.slice el)) (hE : ElemT P el z sz bytes) (hzs : z.cells.size = sz) (hsz : 0 < sz) (hby : 0 < bytes)
    (hk : M[k]? = some (own el sz v nv cs)) (hu : (rdr sz u m cs2 fp).holds w) (h1 : ∀ q, q ∈ cs2 → q.oneCell' = true) (hx : ev n e x = v) (hy : ev n e y = u) (hb : (nv + m) * bytes ≤ 140737488355328)
    (h : ∀ v' w', Ctx X w0 w' (M.set k (own el sz v' (nv + m) (cs ++ cs2))) Ps → W P ops Q rest n (upd e d v') w') :
    W P ops Q (⟨some d, .call { callee := .builtin .append, args := #[x, y], argTypes := #[t, t] }, ty, pos, af, none⟩ :: rest) n e w := by
  obtain ⟨i0, hi, hzz⟩ := Option.map_eq_some_iff.1 hE
  simp only [Prod.mk.injEq] at hzz
  have HO : w.ownsRow 0 el sz v nv cs := hC.getM k hk
  obtain ⟨hu0, hu1, hu2, A, c, rfl, hu3⟩ := hu
  have hlen : nv + m ≤ 140737488355328 := Nat.le_trans (Nat.le_mul_of_pos_right _ hby) hb
  have hrun : ∃ v1 w1, (Builtin.append_ #[t, t] ty #[v, .slice A m c]).run P w = .ok v1 w1 ∧ w1.ownsRow 0 el sz v1 (nv + m) (cs ++ cs2) ∧ w.grownBy w1 v.ownBlock ∧ (v1.ownBlock = v.ownBlock ∨ v1.ownBlock = some w.heap.size) := by
    rcases Nat.eq_zero_or_pos m with h0 | h0
    · subst h0
      obtain rfl : cs2 = [] := List.eq_nil_of_length_eq_zero (by simpa using hu1)
      refine ⟨v, w, ?_, by simpa using HO, World.grownBy.refl w _, .inl rfl⟩
      rcases HO.2 with ⟨rfl, hn⟩ | ⟨g, cap, cur, rfl, _, _, hnc, _⟩
      · cases A <;> simp [Builtin.append_, run_underlying ht, Go.sizeOf, typeInfo, hi, Builtin.lenOf, Builtin.firstCells, loadCells, loadCellsFrom]
      · cases A <;> simp [Builtin.append_, run_underlying ht, Go.sizeOf, typeInfo, hi, Builtin.lenOf, Builtin.firstCells, hnc, storeCells, loadCells, loadCellsFrom]
    · obtain ⟨a, rfl, _, hcells⟩ := hu3 h0
      obtain ⟨v1, w1, hr, h2, h3, _, h5⟩ := run_append_own_at (P := P) w 0 t ty el i0 z sz bytes ht hi hzz.1 hzz.2.1 hzz.2.2 hzs hsz v nv cs HO a m c cs2 hu1 hcells h1 (by unfold maxLen; omega) hb (Nat.zero_le _)
      exact ⟨v1, w1, hr, h2, h3, h5⟩
  obtain ⟨v1, w1, hr, hown, hg, hat⟩ := hrun
  refine stepV v1 rfl rfl ?_ (h v1 w1 (hC.turn k hk hg.os hg.tape hg.output hg.size (run_drawn _ _ _ _ hr) (fun b hb' hnb => hg.block b hb' ?_) hown ?_))
  · simp only [execOp, resolve, invoke, builtin, Sem.run_bind, Sem.run_pure, Result.andThen_ok, List.map_toArray, List.map_cons, List.map_nil, hx, hy, hr]
  · intro e
    exact hnb (by simp [own, ← e])
  · intro b hbm
    simp only [own] at hbm ⊢
    rcases hat with hat | hat
    · rw [hat] at hbm; exact .inl hbm
    · rw [hat] at hbm
      have : b = w.heap.size := by simpa using hbm
      omega
end
end Vc
