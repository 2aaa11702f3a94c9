/- Parts of a row of the call's own; copies between arrays; arrays compared; items that a callee's writing does not meet. -/
import Derived.Test.YtgmldfmfpodgiaaVr
import Derived.Laws.Slices
import Derived.Laws.StructEq
import Derived.Laws.CopyRow
set_option linter.unusedVariables false
set_option linter.unusedSimpArgs false
namespace Vc
open Go Go.RowKit
section
variable {X : Nat → Prop} {w0 w w' : World} {M Ps : List Item}
end
/-! ### Parts of a row of the call's own -/
theorem own_cut {el sz n : Nat} {v : Value} {cs : List Value} {w : World} (h : (own el sz v n cs).holds w) (m : Nat) (hm : m ≤ n) :
    ∃ A c, v = .slice A n c ∧ n ≤ c ∧ (own el sz (.slice A m c) m (cs.take (m * sz))).holds w ∧ (A = none ∨ ∃ g, A = some ⟨g, 0, none⟩) ∧ (Value.slice A m c).ownBlock = v.ownBlock := by
  obtain ⟨h1, h2⟩ := h
  have hl : (cs.take (m * sz)).length = m * sz := by
    rw [List.length_take, h1]
    have := Nat.mul_le_mul_right sz hm
    omega
  rcases h2 with ⟨rfl, rfl⟩ | ⟨g, cap, cur, rfl, hbg, hg, hnc, hcm, hcs, ht⟩
  · obtain rfl : m = 0 := by omega
    exact ⟨none, 0, rfl, Nat.le_refl _, ⟨hl, .inl ⟨rfl, rfl⟩⟩, .inl rfl, rfl⟩
  · refine ⟨_, cap, rfl, hnc, ⟨hl, .inr ⟨g, cap, cur, rfl, hbg, hg, by omega, hcm, hcs, ?_⟩⟩, .inr ⟨g, rfl⟩, rfl⟩
    rw [← ht, List.take_take, Nat.min_eq_left (Nat.mul_le_mul_right sz hm)]
theorem sliced_zero (A : Option Addr) (h c s : Nat) (hA : A = none ∨ ∃ g, A = some ⟨g, 0, none⟩) : sliced A 0 h c s = .slice A h c := by
  unfold sliced
  rcases hA with rfl | ⟨g, rfl⟩
  · simp
  · simp [Addr.add_lit]
section
variable {P : Program} {ops : Array Oper} {Q : Exit → Act → World → Prop} {n : Nat} {e : Env} {w w' : World} {rest : List Oper}
variable {X : Nat → Prop} {w0 : World} {M Ps : List Item}
variable {d ty : Nat} {pos : String} {af : Array Edge}
theorem elem_of {P : Program} {t el : Nat} (ht : P.underlying t = some (.slice el)) : P.underlying t = some (.slice (P.elem t)) := by
  have : P.elem t = el := by simp [Program.elem, ht]
  rw [this]; exact ht
theorem s_sliceH (hC : Ctx X w0 w M Ps) (k : Nat) {t el sz nv : Nat} {kq : IntKind} {hi : Int} {x y : Operand} {v : Value} {cs : List Value} (hk : M[k]? = some (own el sz v nv cs)) (ht : P.underlying t = some (.slice el)) (hz : SizeT P el sz)
    (hx : ev n e x = v) (hy : ev n e y = .int kq hi) (h0 : 0 ≤ hi) (h1 : hi ≤ nv)
    (h : ∀ v', Ctx X w0 w (M.set k (own el sz v' hi.toNat (cs.take (hi.toNat * sz)))) Ps → W P ops Q rest n (upd e d v') w) :
    W P ops Q (⟨some d, .slice t x none (some y) none, ty, pos, af, none⟩ :: rest) n e w := by
  have hown : (own el sz v nv cs).holds w := hC.getM k hk
  obtain ⟨A, c, rfl, hnc, ho, hA, hb⟩ := own_cut hown hi.toNat (by omega)
  have hel : P.elem t = el := by simp [Program.elem, ht]
  have hr := run_slice_h (P := P) w t A nv c (elem_of ht) kq hi h0 (by omega)
  rw [hel, run_szOf hz, Result.andThen_ok, sliced_zero A _ _ _ hA] at hr
  refine stepV (.slice A hi.toNat c) rfl rfl ?_ (h _ (hC.turn k hk rfl rfl rfl (Nat.le_refl _) (Nat.le_refl _) (fun _ _ _ => rfl) ho (fun b hb' => .inl ?_)))
  · simp only [execOp, hx, hy, Option.map_some, Option.map_none, Sem.run_bind, run_sliceAt_slice w t _ _ _ _ (elem_of ht), hr, Result.andThen_ok, Sem.run_pure]
  · show b ∈ (Value.slice A nv c).ownBlock.toList
    rw [← hb]; exact hb'
theorem s_sliceN {t el sz : Nat} {kq : IntKind} {x y : Operand} (ht : P.underlying t = some (.slice el)) (hz : SizeT P el sz) (hx : ev n e x = .slice none 0 0) (hy : ev n e y = .int kq 0)
    (h : W P ops Q rest n (upd e d (.slice none 0 0)) w) : W P ops Q (⟨some d, .slice t x none (some y) none, ty, pos, af, none⟩ :: rest) n e w := by
  have hel : P.elem t = el := by simp [Program.elem, ht]
  have hr := run_slice_h (P := P) w t none 0 0 (elem_of ht) kq 0 (by omega) (by omega)
  rw [hel, run_szOf hz, Result.andThen_ok, sliced_zero none _ _ _ (.inl rfl)] at hr
  refine stepV (.slice none 0 0) rfl rfl ?_ h
  simp only [execOp, hx, hy, Option.map_some, Option.map_none, Sem.run_bind, run_sliceAt_slice w t _ _ _ _ (elem_of ht), hr, Result.andThen_ok, Sem.run_pure]
  rfl
theorem s_cap {t el : Nat} {x : Operand} {A : Option Addr} {m c : Nat} (ht : P.underlying t = some (.slice el)) (hx : ev n e x = .slice A m c)
    (h : W P ops Q rest n (upd e d (.int .i64 c)) w) : W P ops Q (⟨some d, .call { callee := .builtin .cap, args := #[x], argTypes := #[t] }, ty, pos, af, none⟩ :: rest) n e w := by
  refine stepV _ rfl rfl ?_ h
  have hr := run_cap_slice (P := P) w t ty A m c (elem_of ht)
  simp only [execOp, resolve, invoke, builtin, Sem.run_bind, Sem.run_pure, Result.andThen_ok, List.map_toArray, List.map_cons, List.map_nil, hx, hr]
  rfl
end
theorem _root_.Vc.Enc.encs_take {α : Type} (E : Enc α) (xs : List α) (m : Nat) : (E.encs xs).take (m * E.sz) = E.encs (xs.take m) := by
  induction xs generalizing m with
  | nil => simp [Enc.encs]
  | cons x xs ih =>
    cases m with
    | zero => simp [Enc.encs]
    | succ m =>
      have e : E.encs (x :: xs) = E.enc x ++ E.encs xs := by simp [Enc.encs]
      have hl := E.len x
      rw [e, List.take_succ_cons, show E.encs (x :: xs.take m) = E.enc x ++ E.encs (xs.take m) by simp [Enc.encs], Nat.add_mul, Nat.one_mul, Nat.add_comm, ← hl, List.take_length_add_append, hl, ih]
section
variable {P : Program} {ops : Array Oper} {Q : Exit → Act → World → Prop} {n : Nat} {e : Env} {w w' : World} {rest : List Oper}
variable {d ty : Nat} {pos : String} {af : Array Edge}
end
/-! ### Copies between arrays of eight -/
def A8.pasted (a c : A8) (lo : Nat) : A8 :=
  let f := fun j : Nat => if j < lo then a.get j else c.get (j - lo)
  ⟨f 0, f 1, f 2, f 3, f 4, f 5, f 6, f 7⟩
theorem A8.get_pasted (a c : A8) (lo : Nat) {j : Nat} (hj : j < 8) : (A8.pasted a c lo).get j = if j < lo then a.get j else c.get (j - lo) := by
  match j, hj with
  | 0, _ | 1, _ | 2, _ | 3, _ | 4, _ | 5, _ | 6, _ | 7, _ => rfl
theorem pasted_enc (a c : A8) (ik : IntKind) {lo : Nat} (hl : lo ≤ 8) : (a.enc ik).take lo ++ (c.enc ik).take (8 - lo) = (A8.pasted a c lo).enc ik := by
  match lo, hl with
  | 0, _ | 1, _ | 2, _ | 3, _ | 4, _ | 5, _ | 6, _ | 7, _ | 8, _ => rfl
theorem blk_cells {b t o : Nat} {cs ds : List Value} {w : World} (h : (blk b t cs).holds w) (hd : (cs.drop o).take ds.length = ds) : cellsAt w ⟨b, o, none⟩ ds := by
  intro j u hj
  have h' : w.heap[b]? = some (.cells cs.toArray t (0, 0)) := h
  have hj' : cs[o + j]? = some u := by
    rw [← hd, List.getElem?_take] at hj
    split at hj
    · rwa [List.getElem?_drop] at hj
    · cases hj
  rw [Addr.add_lit]
  simp [World.cell?, h', hj']
section
variable {P : Program} {ops : Array Oper} {Q : Exit → Act → World → Prop} {n : Nat} {e : Env} {w w' : World} {rest : List Oper}
variable {X : Nat → Prop} {w0 : World} {M Ps : List Item}
variable {d ty : Nat} {pos : String} {af : Array Edge} {gd : Option (Nat × Bool)}
theorem arr_of {P : Program} {t el m : Nat} (ht : P.underlying t = some (.array m el)) : P.underlying t = some (.array (P.arrayLen t) (P.elem t)) ∧ P.arrayLen t = m ∧ P.elem t = el := by
  have h1 : P.elem t = el := by simp [Program.elem, ht]
  have h2 : P.arrayLen t = m := by simp [Program.arrayLen, ht]
  rw [h1, h2]; exact ⟨ht, rfl, rfl⟩
theorem r_slA0 {t el : Nat} {x : Operand} {b o : Nat} (ht : P.underlying t = some (.array 8 el)) (hz : SizeT P el 1) (hx : ev n e x = .pointer (some ⟨b, o, none⟩)) :
    (execOp (ev n e) ⟨some d, .slice t x none none none, ty, pos, af, gd⟩).run P w = .ok (.value (.slice (some ⟨b, o, none⟩) 8 8)) w := by
  obtain ⟨h1, h2, h3⟩ := arr_of ht
  have hr := run_sliceAt_array_all (P := P) w t ⟨b, o, none⟩ h1
  rw [h2, h3, run_szOf hz, Result.andThen_ok] at hr
  simp only [execOp, hx, Option.map_none, Sem.run_bind, hr, Result.andThen_ok, Sem.run_pure]
  simp [slicedAt, Addr.add_lit]
theorem r_slA {t el : Nat} {x y : Operand} {b : Nat} {kq : IntKind} {lo : Int} (ht : P.underlying t = some (.array 8 el)) (hz : SizeT P el 1) (hx : ev n e x = .pointer (some ⟨b, 0, none⟩)) (hy : ev n e y = .int kq lo) (h0 : 0 ≤ lo) (h1 : lo ≤ 8) :
    (execOp (ev n e) ⟨some d, .slice t x (some y) none none, ty, pos, af, gd⟩).run P w = .ok (.value (slicedAt ⟨b, 0, none⟩ lo.toNat 8 8 1)) w := by
  obtain ⟨q1, q2, q3⟩ := arr_of ht
  have hr := run_sliceAt_array_l (P := P) w t ⟨b, 0, none⟩ q1 kq lo h0 (by rw [q2]; exact h1)
  rw [q2, q3, run_szOf hz, Result.andThen_ok] at hr
  simp only [execOp, hx, hy, Option.map_none, Option.map_some, Sem.run_bind, hr, Result.andThen_ok, Sem.run_pure]
theorem s_copyA (hC : Ctx X w0 w M Ps) (k : Nat) {b b2 o ta t el lo bytes : Nat} {z : Value} {ik : IntKind} {a c : A8} {x y : Operand} (hk : M[k]? = some (blk b ta (a.enc ik))) (ht : P.underlying t = some (.slice el)) (hE : ElemT P el z 1 bytes)
    (hx : ev n e x = slicedAt ⟨b, 0, none⟩ lo 8 8 1) (hy : ev n e y = .slice (some ⟨b2, o, none⟩) 8 8) (hl : lo ≤ 8) (hs : cellsAt w ⟨b2, o, none⟩ (c.enc ik))
    (h : ∀ w', Ctx X w0 w' (M.set k (blk b ta ((A8.pasted a c lo).enc ik))) Ps → W P ops Q rest n (upd e d (.int .i64 ((8 - lo : Nat) : Int))) w') :
    W P ops Q (⟨some d, .call { callee := .builtin .copy, args := #[x, y], argTypes := #[t, t] }, ty, pos, af, none⟩ :: rest) n e w := by
  obtain ⟨i0, hi, hzz⟩ := Option.map_eq_some_iff.1 hE
  simp only [Prod.mk.injEq] at hzz
  have hb : w.heap[b]? = some (.cells (a.enc ik).toArray ta (0, 0)) := hC.getM k hk
  have hlen : ∀ q : A8, (q.enc ik).length = 8 := fun _ => rfl
  have hf := run_firstCells_some (P := P) w i0.size (8 - lo) ⟨b2, o, none⟩ 8 8 ((c.enc ik).take (8 - lo)) (by rw [hzz.2.1, List.length_take, hlen]; omega) (fun j u hj => hs j u (by
    rw [List.getElem?_take] at hj
    split at hj
    · exact hj
    · cases hj))
  have hadd : (if 8 = lo then (⟨b, 0, none⟩ : Addr) else (⟨b, 0, none⟩ : Addr).add (lo * 1)) = ⟨b, if 8 = lo then 0 else lo, none⟩ := by
    split
    · rfl
    · simp [Addr.add_lit]
  have hst := run_storeCells_at P b (if 8 = lo then 0 else lo) ta ((c.enc ik).take (8 - lo)) 0 (a.enc ik).toArray w hb (by
    rw [List.length_take, hlen]; simp only [List.size_toArray, hlen]; split <;> omega) (fun q hq => by
    have hq' := List.mem_of_mem_take hq
    simp only [A8.enc, List.mem_cons, List.not_mem_nil, or_false] at hq'
    rcases hq' with rfl | rfl | rfl | rfl | rfl | rfl | rfl | rfl <;> rfl)
  refine stepV (w' := w.setRow b (((a.enc ik).toArray.toList.take ((if 8 = lo then 0 else lo) + 0) ++ (c.enc ik).take (8 - lo) ++ (a.enc ik).toArray.toList.drop ((if 8 = lo then 0 else lo) + 0 + ((c.enc ik).take (8 - lo)).length)).toArray)) _ rfl rfl ?_ (h _ (hC.turn k hk rfl rfl rfl (by simp) (Nat.le_refl _) (fun q hq hnq => setRow_other w b q _ (fun r => hnq (by show q ∈ [b]; simp [r]))) ?_ (fun q hq => .inl hq)))
  · simp only [execOp, resolve, invoke, builtin, Sem.run_bind, Sem.run_pure, Result.andThen_ok, List.map_toArray, List.map_cons, List.map_nil, hx, hy]
    unfold Builtin.copy_ slicedAt
    simp only [hadd]
    have hmin : Nat.min 8 (8 - lo) = 8 - lo := Nat.min_eq_right (by omega)
    simp [run_underlying ht, Builtin.lenOf, hmin, Go.sizeOf, typeInfo, hi, hf, Sem.run_bind] at hst ⊢
    rw [hst]
    simp [goInt]
  · refine (setRow_heap w b (a.enc ik).toArray _ ta _ hb).trans ?_
    congr 3
    rw [← pasted_enc a c ik hl]
    simp only [Nat.add_zero]
    by_cases h8 : 8 = lo
    · subst h8; simp [hlen]; rfl
    · rw [if_neg h8, List.length_take, hlen, Nat.min_eq_left (by omega), List.drop_of_length_le (by simp [hlen]; omega), List.append_nil]
end
/-! ### Rows of the call's own cells whose elements are shared -/
theorem sl_open {α : Type} {t : Ty α} {xs : List α} {v : Value} {fp : List Nat} {w : World} (h : t.sl.rep xs [v] fp w) : ∃ ds, (rdr t.sz v xs.length ds fp).holds w ∧ t.all xs ds fp w := by
  obtain ⟨v', ecs, e, h1, h2⟩ := h
  obtain rfl : v = v' := by simpa using e
  exact ⟨ecs, h1, h2⟩
theorem tr_empty {α : Type} {e : Nat} {T : Tr α} {v : Value} {f : List Nat} {w : World} (h : ((Tr.sl e T).item [] [v] f).holds w) : (own e T.ty.sz v 0 []).holds w ∧ ∀ b, b ∈ v.ownBlock.toList → b ∈ f := by
  obtain ⟨ecs, fps, a1, a2, rfl, a4⟩ := tr_split h
  have : ecs = [] := List.eq_nil_of_length_eq_zero (by have := a1.1; simpa using this)
  subst this
  exact ⟨a1, fun b hb => List.mem_append_left _ hb⟩
theorem own_nil (e sz : Nat) (w : World) : (own e sz (.slice none 0 0) ([] : List Unit).length []).holds w := ⟨by simp, .inl ⟨rfl, rfl⟩⟩
theorem all_nilI {α : Type} (t : Ty α) (w : World) : (t.allItem ([] : List α) [] []).holds w := ⟨by simp, by simp, by simp, fun i hi => absurd hi (by simp)⟩
theorem encsI_zeros (k : IntKind) (xs : List Int) (m : Nat) : (EI k).encs xs ++ List.replicate m (.int k 0) = (EI k).encs (xs ++ List.replicate m 0) := by
  rw [Enc.encs_append]
  congr 1
  induction m with
  | zero => rfl
  | succ m ih => rw [List.replicate_succ, List.replicate_succ, ih]; simp [Enc.encs, EI]
theorem all_join {α : Type} {t : Ty α} {xs ys : List α} {cs ds : List Value} {f g : List Nat} {w : World} (h : (t.allItem xs cs f).holds w) (k : (t.allItem ys ds g).holds w) : (t.allItem (xs ++ ys) (cs ++ ds) (f ++ g)).holds w := by
  have hl : ∀ b, b ∈ f ++ g → b < w.heap.size := fun b hb => (List.mem_append.1 hb).elim (h.1 b) (k.1 b)
  refine ⟨hl, by rw [List.length_append, h.2.1, k.2.1, List.length_append, Nat.add_mul], fun u hu => (List.mem_append.1 hu).elim (h.2.2.1 u) (k.2.2.1 u), fun i hi => ?_⟩
  by_cases hx : i < xs.length
  · have e1 : (xs ++ ys)[i] = xs[i] := List.getElem_append_left hx
    have hle : i * t.sz + t.sz ≤ cs.length := by rw [h.2.1]; exact seg_le hx
    rw [e1, List.drop_append_of_le_length (by omega), List.take_append_of_le_length (by rw [List.length_drop]; omega)]
    exact t.more (h.2.2.2 i hx) (fun b hb => List.mem_append_left _ hb) hl
  · have hy : i - xs.length < ys.length := by rw [List.length_append] at hi; omega
    have e1 : (xs ++ ys)[i] = ys[i - xs.length] := List.getElem_append_right (by omega)
    have hm : i * t.sz = cs.length + (i - xs.length) * t.sz := by rw [h.2.1, ← Nat.add_mul]; congr 1; omega
    rw [e1, hm, ← List.drop_drop, List.drop_left' rfl]
    exact t.more (k.2.2.2 _ hy) (fun b hb => List.mem_append_right _ hb) hl
end Vc
