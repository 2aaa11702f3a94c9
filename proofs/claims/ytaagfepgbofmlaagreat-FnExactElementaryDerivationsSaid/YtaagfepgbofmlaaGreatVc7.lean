/- Operations on rows. -/
import Derived.Test.YtaagfepgbofmlaaGreatVc6
import Derived.OwnWalk
import Derived.Laws.OwnMore
import Derived.Laws.MakeOwn
set_option linter.unusedVariables false
set_option linter.unusedSimpArgs false
namespace Vc
open Go Go.RowKit
/-- An element type's zero value, its cells, its bytes. -/
def ElemT (P : Program) (e : Nat) (z : Value) (sz bytes : Nat) : Prop := (P.info? e).map (fun i => (i.zero, i.size, i.bytes)) = some (some z, sz, bytes)
section
variable {P : Program} {ops : Array Oper} {Q : Exit → Act → World → Prop} {n : Nat} {e : Env} {w w' : World} {rest : List Oper}
variable {X : Nat → Prop} {w0 : World} {M Ps : List Item}
variable {d ty : Nat} {pos : String} {af : Array Edge} {gd : Option (Nat × Bool)}
theorem r_loadCA {a : Addr} {sz ty' : Nat} {x : Operand} (seg : List Value) (hc : cellsAt w a seg) (hT : AggT P ty' sz) (hx : ev n e x = .pointer (some a)) (hl : seg.length = sz)
    : (execOp (ev n e) ⟨some d, .load ty' x, ty, pos, af, gd⟩).run P w = .ok (.value (.agg seg.toArray)) w :=
  (by simp [execOp, hx, Instr.loadAt, Instr.sureAddr, run_loadVar_agg hT hc hl])
theorem s_loadCA {a : Addr} {sz ty' : Nat} {x : Operand} (seg : List Value) (hc : cellsAt w a seg) (hT : AggT P ty' sz) (hx : ev n e x = .pointer (some a)) (hl : seg.length = sz)
    (h : W P ops Q rest n (upd e d (.agg seg.toArray)) w) : W P ops Q (⟨some d, .load ty' x, ty, pos, af, none⟩ :: rest) n e w :=
  stepV _ rfl rfl (by simp [execOp, hx, Instr.loadAt, Instr.sureAddr, run_loadVar_agg hT hc hl]) h
theorem r_loadCS {a : Addr} {ty' : Nat} {x : Operand} (v : Value) (hc : cellsAt w a [v]) (hT : ScaT P ty') (hx : ev n e x = .pointer (some a))
    : (execOp (ev n e) ⟨some d, .load ty' x, ty, pos, af, gd⟩).run P w = .ok (.value v) w :=
  (by simp [execOp, hx, Instr.loadAt, Instr.sureAddr, run_loadVar_sca hT hc])
theorem s_loadCS {a : Addr} {ty' : Nat} {x : Operand} (v : Value) (hc : cellsAt w a [v]) (hT : ScaT P ty') (hx : ev n e x = .pointer (some a))
    (h : W P ops Q rest n (upd e d v) w) : W P ops Q (⟨some d, .load ty' x, ty, pos, af, none⟩ :: rest) n e w :=
  stepV _ rfl rfl (by simp [execOp, hx, Instr.loadAt, Instr.sureAddr, run_loadVar_sca hT hc]) h
theorem r_len {t el m c : Nat} {x : Operand} {A : Option Addr} (ht : P.underlying t = some (.slice el)) (hx : ev n e x = .slice A m c)
    : (execOp (ev n e) ⟨some d, .call { callee := .builtin .len, args := #[x], argTypes := #[t] }, ty, pos, af, gd⟩).run P w = .ok (.value (.int .i64 (m : Int))) w :=
  (by
    simp [execOp, resolve, invoke, builtin, hx, Builtin.len_, Sem.run_bind, run_underlying ht, goInt])
theorem s_len {t el m c : Nat} {x : Operand} {A : Option Addr} (ht : P.underlying t = some (.slice el)) (hx : ev n e x = .slice A m c)
    (h : W P ops Q rest n (upd e d (.int .i64 (m : Int))) w) : W P ops Q (⟨some d, .call { callee := .builtin .len, args := #[x], argTypes := #[t] }, ty, pos, af, none⟩ :: rest) n e w :=
  stepV _ rfl rfl (by
    simp [execOp, resolve, invoke, builtin, hx, Builtin.len_, Sem.run_bind, run_underlying ht, goInt]) h
/-- A row that the operation lays: its elements written out. -/
theorem s_bslice (hC : Ctx X w0 w M Ps) {t el len sz : Nat} {l : List (Nat × Operand)} (vs : List (Nat × Value)) (cs : List Value) (hp : l.map (fun p => (p.1, ev n e p.2)) = vs)
    (hr : ∀ w : World, (Instr.buildSlice t len vs.toArray).run P w = .ok (.slice (some ⟨w.heap.size, 0, none⟩) len len) (w.alloc (.cells cs.toArray el))) (hl : cs.length = len * sz) (hm : len ≤ maxLen)
    (h : ∀ b w', Bel w w' → Ctx X w0 w' (own el sz (.slice (some ⟨b, 0, none⟩) len len) len cs :: M) Ps → W P ops Q rest n (upd e d (.slice (some ⟨b, 0, none⟩) len len)) w') :
    W P ops Q (⟨some d, .buildSlice t len l.toArray, ty, pos, af, none⟩ :: rest) n e w := by
  have hB : Bel w (w.alloc (.cells cs.toArray el)) := Bel.alloc _ _
  refine stepV _ rfl rfl ?_ (h w.heap.size (w.alloc (.cells cs.toArray el)) hB (hC.push hB _ ?_ ?_))
  · have : (l.toArray.map fun (x : Nat × Operand) => match x with | (i, x) => (i, ev n e x)) = vs.toArray := by
      rw [← hp]; simp
    simp only [execOp, Sem.run_bind, this, hr, Result.andThen_ok, Sem.run_pure]
  · exact World.ownsRow_lit w cs.toArray len (Nat.zero_le _) hm (by simpa using hl)
  · simp [own, Value.ownBlock]
/-- 'make([]T, n)'. -/
theorem s_make (hC : Ctx X w0 w M Ps) {t el sz bytes : Nat} {z : Value} {x y : Operand} {kx ky : IntKind} {m : Nat} (cs : List Value) (ht : P.underlying t = some (.slice el)) (hE : ElemT P el z sz bytes)
    (hx : ev n e x = .int kx (m : Int)) (hy : ev n e y = .int ky (m : Int)) (hb : m * bytes ≤ 281474976710656) (hm : m ≤ 281474976710656) (hcs : (madeCells z.cells (m * sz)).toList = cs)
    (h : ∀ v w', Bel w w' → Ctx X w0 w' (own el sz v m cs :: M) Ps → W P ops Q rest n (upd e d v) w') :
    W P ops Q (⟨some d, .makeSlice t x y, ty, pos, af, none⟩ :: rest) n e w := by
  obtain ⟨i, hi, hzz⟩ := Option.map_eq_some_iff.1 hE
  simp only [Prod.mk.injEq] at hzz
  obtain ⟨w', hrun, r1, r2⟩ := run_make_full (P := P) w 0 t el i z sz ht hi hzz.1 hzz.2.1 kx ky m (by rw [hzz.2.2, Nat.mul_comm]; exact hb) (by unfold maxLen; omega) (Nat.zero_le _)
  have hB : Bel w w' := ⟨⟨r2.os, r2.tape, r2.output, r2.size, fun k hk => r2.block k hk (by simp)⟩, run_drawn _ _ _ _ hrun⟩
  refine stepV _ rfl rfl ?_ (h _ w' hB (hC.push hB _ (hcs ▸ r1) ?_))
  · simp [execOp, hx, hy, hrun]
  · simp [own, Value.ownBlock]
/-- 'append(v, u...)', v the call's own. -/
theorem s_app (hC : Ctx X w0 w M Ps) (k : Nat) {t el sz bytes nv m : Nat} {z : Value} {x y : Operand} {v u : Value} {cs cs2 : List Value} {fp : List Nat}
    (ht : P.underlying t = some (.slice el)) (hE : ElemT P el z sz bytes) (hzs : z.cells.size = sz) (hsz : 0 < sz) (hby : 0 < bytes)
    (hk : M[k]? = some (own el sz v nv cs)) (hu : (rdr sz u m cs2 fp).holds w) (h1 : ∀ q, q ∈ cs2 → q.oneCell' = true) (hx : ev n e x = v) (hy : ev n e y = u) (hb : (nv + m) * bytes ≤ 140737488355328)
    (h : ∀ v' w', Ctx X w0 w' (M.set k (own el sz v' (nv + m) (cs ++ cs2))) Ps → W P ops Q rest n (upd e d v') w') :
    W P ops Q (⟨some d, .call { callee := .builtin .append, args := #[x, y], argTypes := #[t, t] }, ty, pos, af, none⟩ :: rest) n e w := by
  obtain ⟨i0, hi, hzz⟩ := Option.map_eq_some_iff.1 hE
  simp only [Prod.mk.injEq] at hzz
  have HO : w.ownsRow 0 el sz v nv cs := hC.getM k hk
  obtain ⟨hu0, hu1, hu2, A, c, rfl, hu3⟩ := hu
  have hlen : nv + m ≤ 140737488355328 := Nat.le_trans (Nat.le_mul_of_pos_right _ hby) hb
  have hrun : ∃ v1 w1, (Builtin.append_ #[t, t] ty #[v, .slice A m c]).run P w = .ok v1 w1 ∧ w1.ownsRow 0 el sz v1 (nv + m) (cs ++ cs2) ∧ w.grownBy w1 v.ownBlock ∧ (v1.ownBlock = v.ownBlock ∨ v1.ownBlock = some w.heap.size) := by
    rcases Nat.eq_zero_or_pos m with h0 | h0
    · subst h0
      obtain rfl : cs2 = [] := List.eq_nil_of_length_eq_zero (by simpa using hu1)
      refine ⟨v, w, ?_, by simpa using HO, World.grownBy.refl w _, .inl rfl⟩
      rcases HO.2 with ⟨rfl, hn⟩ | ⟨g, cap, cur, rfl, _, _, hnc, _⟩
      · cases A <;> simp [Builtin.append_, run_underlying ht, Go.sizeOf, typeInfo, hi, Builtin.lenOf, Builtin.firstCells, loadCells, loadCellsFrom]
      · cases A <;> simp [Builtin.append_, run_underlying ht, Go.sizeOf, typeInfo, hi, Builtin.lenOf, Builtin.firstCells, hnc, storeCells, loadCells, loadCellsFrom]
    · obtain ⟨a, rfl, _, hcells⟩ := hu3 h0
      obtain ⟨v1, w1, hr, h2, h3, _, h5⟩ := run_append_own_at (P := P) w 0 t ty el i0 z sz bytes ht hi hzz.1 hzz.2.1 hzz.2.2 hzs hsz v nv cs HO a m c cs2 hu1 hcells h1 (by unfold maxLen; omega) hb (Nat.zero_le _)
      exact ⟨v1, w1, hr, h2, h3, h5⟩
  obtain ⟨v1, w1, hr, hown, hg, hat⟩ := hrun
  refine stepV v1 rfl rfl ?_ (h v1 w1 (hC.turn k hk hg.os hg.tape hg.output hg.size (run_drawn _ _ _ _ hr) (fun b hb' hnb => hg.block b hb' ?_) hown ?_))
  · simp only [execOp, resolve, invoke, builtin, Sem.run_bind, Sem.run_pure, Result.andThen_ok, List.map_toArray, List.map_cons, List.map_nil, hx, hy, hr]
  · intro e
    exact hnb (by simp [own, ← e])
  · intro b hbm
    simp only [own] at hbm ⊢
    rcases hat with hat | hat
    · rw [hat] at hbm; exact .inl hbm
    · rw [hat] at hbm
      have : b = w.heap.size := by simpa using hbm
      omega
/-- A store of a value of the element's own cells into the call's own row. -/
theorem run_storeVar_own {P : Program} {w : World} {t2 sz nv ty' ksz j g cap : Nat} {cs vc : List Value} {v : Value} (hT : SizeT P ty' ksz) (h : (own t2 sz (.slice (some ⟨g, 0, none⟩) nv cap) nv cs).holds w)
    (hv : v.cells.toList = vc) (hl : vc.length = ksz) (h1 : vc.all (·.oneCell') = true) (ho : j + ksz ≤ cs.length) :
    ∃ w', (storeVar ty' ⟨g, j, none⟩ v).run P w = .ok () w' ∧ (own t2 sz (.slice (some ⟨g, 0, none⟩) nv cap) nv (splice cs j vc)).holds w' ∧ w'.os = w.os ∧ w'.tape = w.tape ∧ w'.output = w.output ∧ w'.heap.size = w.heap.size ∧
      ∀ k, k ≠ g → w'.heap[k]? = w.heap[k]? := by
  have hs : v.cells.size = ksz := by rw [← Array.length_toList, hv, hl]
  have hlen : cs.length = nv * sz := own_len h
  rcases h.2 with ⟨e, _⟩ | ⟨g', cap', cur, e, _, hh, hc, hm, hz, ht⟩
  · cases e
  · injection e with e1 e2 e3
    injection e1 with e1
    injection e1 with e1
    subst e1 e3
    have hcl : nv * sz ≤ cur.size := by rw [hz]; exact Nat.mul_le_mul_right _ hc
    have hr := run_storeCells_at (P := P) g j t2 vc 0 cur w hh (by simp; omega) (by simpa using h1)
    refine ⟨w.setRow g (cur.toList.take j ++ vc ++ cur.toList.drop (j + vc.length)).toArray, ?_, ?_, rfl, rfl, rfl, ?_, ?_⟩
    · unfold storeVar
      simp only [Sem.run_bind, run_szOf hT, Result.andThen_ok, hs, ne_eq, not_true_eq_false, if_false, hv]
      simpa using hr
    · refine ⟨?_, .inr ⟨g, cap, _, rfl, Nat.zero_le _, setRow_heap w g cur _ t2 _ hh, hc, hm, ?_, ?_⟩⟩
      · simp [splice]; omega
      · simp; omega
      · rw [← ht]
        simp only [splice, List.toList_toArray]
        apply List.ext_getElem?
        intro q
        simp only [List.getElem?_take, List.getElem?_append, List.length_append, List.length_take, List.getElem?_drop, Array.length_toList]
        have hmin1 : min j cur.size = j := by omega
        have hmin2 : min j (min (nv * sz) cur.size) = j := by omega
        simp only [hmin1, hmin2]
        by_cases h1 : q < j
        · simp [h1, show q < j + vc.length by omega, show q < nv * sz by omega]
        · by_cases h2 : q < j + vc.length
          · simp [h1, h2, show q < nv * sz by omega]
          · by_cases h3 : q < nv * sz
            · simp [h1, h2, h3]
              omega
            · simp [h1, h2, h3]
              omega
    · simp
    · intro k hk
      exact setRow_other w g k _ hk
theorem s_storeO (hC : Ctx X w0 w M Ps) (k : Nat) {t2 sz nv ty' ksz j g cap : Nat} {x y : Operand} {cs : List Value} {v u : Value} (vc cs' : List Value) (hk : M[k]? = some (own t2 sz u nv cs)) (hu : u = .slice (some ⟨g, 0, none⟩) nv cap) (hT : SizeT P ty' ksz)
    (hx : ev n e x = .pointer (some ⟨g, j, none⟩)) (hy : ev n e y = v) (hv : v.cells.toList = vc) (hl : vc.length = ksz) (h1 : vc.all (·.oneCell') = true) (ho : j + ksz ≤ cs.length) (hcs : splice cs j vc = cs')
    (h : ∀ w', Ctx X w0 w' (M.set k (own t2 sz u nv cs')) Ps → W P ops Q rest n e w') :
    W P ops Q (⟨none, .store ty' x y, ty, pos, af, none⟩ :: rest) n e w := by
  subst hu
  obtain ⟨w', hr, hb, hos, hta, hou, hsz, hother⟩ := run_storeVar_own (P := P) hT (hC.getM k hk) hv hl h1 ho
  refine stepU rfl rfl ?_ (h w' (hC.turn k hk hos hta hou (by omega) (run_drawn _ _ _ _ hr) (fun c _ hc => hother c (by simpa [own, Value.ownBlock] using hc)) (hcs ▸ hb) (fun c hc => .inl hc)))
  simp [execOp, hx, hy, Instr.storeAt, Instr.sureAddr, hr]
end
theorem encs_set {α : Type} {E : Enc α} (xs : List α) (i : Nat) (x : α) (h : i < xs.length) : splice (E.encs xs) (i * E.sz) (E.enc x) = E.encs (xs.set i x) := by
  induction xs generalizing i with
  | nil => simp at h
  | cons y xs ih =>
    cases i with
    | zero =>
      simp only [splice, Enc.encs, List.flatMap_cons, Nat.zero_mul, List.take_zero, List.nil_append, Nat.zero_add, List.set_cons_zero]
      rw [E.len, List.drop_left' (E.len y)]
    | succ i =>
      have := ih i (by simpa using h)
      simp only [splice, Enc.encs, List.flatMap_cons, List.set_cons_succ, E.len] at this ⊢
      rw [← this]
      have e1 : (i + 1) * E.sz = E.sz + i * E.sz := by rw [Nat.add_mul, Nat.one_mul, Nat.add_comm]
      rw [e1]
      rw [List.take_append, List.take_of_length_le (by rw [E.len]; omega), E.len, Nat.add_sub_cancel_left]
      rw [Nat.add_assoc, ← List.drop_drop, List.drop_left' (E.len y)]
      simp
theorem made_encs {α : Type} {E : Enc α} (x : α) (m : Nat) : (madeCells (E.enc x).toArray (m * E.sz)).toList = E.encs (List.replicate m x) := by
  apply List.ext_getElem
  · simp [madeCells, E.encs_len]
  · intro i h1 h2
    have hpos := E.pos
    have hi : i < m * E.sz := by simpa [madeCells] using h1
    have hdm : i / E.sz < m := by rw [Nat.div_lt_iff_lt_mul hpos]; exact hi
    have : Inhabited α := ⟨x⟩
    have hs := E.encs_seg (List.replicate m x) (i / E.sz) (by simpa using hdm)
    have hx : (List.replicate m x).getD (i / E.sz) default = x := by simp [List.getD, hdm]
    rw [hx] at hs
    have hmod : i % E.sz < E.sz := Nat.mod_lt _ hpos
    have h3 : (E.enc x)[i % E.sz]? = (E.encs (List.replicate m x))[i]? := by
      rw [← hs, List.getElem?_take, if_pos hmod, List.getElem?_drop]
      congr 1
      rw [Nat.mul_comm]; exact Nat.div_add_mod i E.sz
    rw [List.getElem?_eq_getElem h2, List.getElem?_eq_getElem (by rw [E.len]; exact hmod)] at h3
    injection h3 with h3
    rw [← h3]
    simp [madeCells, E.len, hmod]
end Vc
