/- Parts of a row of the call's own; copies between arrays; arrays compared; items that a callee's writing does not meet. -/
import Derived.Test.YtgmldfmfpodgiaaVr
import Derived.Laws.Slices
import Derived.Laws.StructEq
import Derived.Laws.CopyRow
set_option linter.unusedVariables false
set_option linter.unusedSimpArgs false
namespace Vc
open Go Go.RowKit
section
variable {X : Nat → Prop} {w0 w w' : World} {M Ps : List Item}
theorem Ctx.stayM (h : Ctx X w0 w M Ps) (j k : Nat) {it ot : Item} (hj : M[j]? = some it) (hk : M[k]? = some ot) (hne : j ≠ k) (hB : BelO ot.fp w w') : it.holds w' :=
  h.stay j hj hB (fun x hx hx' => h.mm j k hj hk hne x hx hx')
theorem Ctx.stayP (h : Ctx X w0 w M Ps) (j k : Nat) {it ot : Item} (hj : Ps[j]? = some it) (hk : M[k]? = some ot) (hB : BelO ot.fp w w') : it.holds w' :=
  it.keep w w' (fun b hb => hB.old b (it.low w (h.getP j hj) b hb) (fun q => h.pd it (List.mem_of_getElem? hj) b hb ot (List.mem_of_getElem? hk) q)) (h.getP j hj)
theorem Ctx.belowO (h : Ctx Nox w0 w M Ps) (k : Nat) {ot : Item} (hk : M[k]? = some ot) (hB : BelO ot.fp w w') : Bel w0 w' :=
  ⟨⟨hB.os.trans h.os, hB.tape.trans h.tape, hB.output.trans h.output, Nat.le_trans h.size hB.size, fun b hb => (hB.old b (Nat.lt_of_lt_of_le hb h.size) (fun q => (h.mfp ot (List.mem_of_getElem? hk) b q).elim (fun z => absurd hb (Nat.not_lt.2 z)) (fun z => z))).trans (h.old b hb (fun x => x))⟩, Nat.le_trans h.drawn hB.drawn⟩
theorem belO_bel {F : List Nat} {a b c : World} (h : BelO F a b) (k : Bel b c) : BelO F a c :=
  ⟨k.os.trans h.os, k.tape.trans h.tape, k.output.trans h.output, Nat.le_trans h.size k.size, Nat.le_trans h.drawn k.drawn, fun x hx hn => (k.block x (Nat.lt_of_lt_of_le hx h.size)).trans (h.old x hx hn)⟩
end
/-! ### Parts of a row of the call's own -/
theorem own_cut {el sz n : Nat} {v : Value} {cs : List Value} {w : World} (h : (own el sz v n cs).holds w) (m : Nat) (hm : m ≤ n) :
    ∃ A c, v = .slice A n c ∧ n ≤ c ∧ (own el sz (.slice A m c) m (cs.take (m * sz))).holds w ∧ (A = none ∨ ∃ g, A = some ⟨g, 0, none⟩) ∧ (Value.slice A m c).ownBlock = v.ownBlock := by
  obtain ⟨h1, h2⟩ := h
  have hl : (cs.take (m * sz)).length = m * sz := by
    rw [List.length_take, h1]
    have := Nat.mul_le_mul_right sz hm
    omega
  rcases h2 with ⟨rfl, rfl⟩ | ⟨g, cap, cur, rfl, hbg, hg, hnc, hcm, hcs, ht⟩
  · obtain rfl : m = 0 := by omega
    exact ⟨none, 0, rfl, Nat.le_refl _, ⟨hl, .inl ⟨rfl, rfl⟩⟩, .inl rfl, rfl⟩
  · refine ⟨_, cap, rfl, hnc, ⟨hl, .inr ⟨g, cap, cur, rfl, hbg, hg, by omega, hcm, hcs, ?_⟩⟩, .inr ⟨g, rfl⟩, rfl⟩
    rw [← ht, List.take_take, Nat.min_eq_left (Nat.mul_le_mul_right sz hm)]
theorem sliced_zero (A : Option Addr) (h c s : Nat) (hA : A = none ∨ ∃ g, A = some ⟨g, 0, none⟩) : sliced A 0 h c s = .slice A h c := by
  unfold sliced
  rcases hA with rfl | ⟨g, rfl⟩
  · simp
  · simp [Addr.add_lit]
def TailOf (sz : Nat) (v u : Value) (l n : Nat) : Prop := ∃ A c, v = .slice A n c ∧ n ≤ c ∧ u = sliced A l n c sz
section
variable {P : Program} {ops : Array Oper} {Q : Exit → Act → World → Prop} {n : Nat} {e : Env} {w w' : World} {rest : List Oper}
variable {X : Nat → Prop} {w0 : World} {M Ps : List Item}
variable {d ty : Nat} {pos : String} {af : Array Edge}
theorem elem_of {P : Program} {t el : Nat} (ht : P.underlying t = some (.slice el)) : P.underlying t = some (.slice (P.elem t)) := by
  have : P.elem t = el := by simp [Program.elem, ht]
  rw [this]; exact ht
theorem s_sliceH (hC : Ctx X w0 w M Ps) (k : Nat) {t el sz nv : Nat} {kq : IntKind} {hi : Int} {x y : Operand} {v : Value} {cs : List Value} (hk : M[k]? = some (own el sz v nv cs)) (ht : P.underlying t = some (.slice el)) (hz : SizeT P el sz)
    (hx : ev n e x = v) (hy : ev n e y = .int kq hi) (h0 : 0 ≤ hi) (h1 : hi ≤ nv)
    (h : ∀ v', Ctx X w0 w (M.set k (own el sz v' hi.toNat (cs.take (hi.toNat * sz)))) Ps → W P ops Q rest n (upd e d v') w) :
    W P ops Q (⟨some d, .slice t x none (some y) none, ty, pos, af, none⟩ :: rest) n e w := by
  have hown : (own el sz v nv cs).holds w := hC.getM k hk
  obtain ⟨A, c, rfl, hnc, ho, hA, hb⟩ := own_cut hown hi.toNat (by omega)
  have hel : P.elem t = el := by simp [Program.elem, ht]
  have hr := run_slice_h (P := P) w t A nv c (elem_of ht) kq hi h0 (by omega)
  rw [hel, run_szOf hz, Result.andThen_ok, sliced_zero A _ _ _ hA] at hr
  refine stepV (.slice A hi.toNat c) rfl rfl ?_ (h _ (hC.turn k hk rfl rfl rfl (Nat.le_refl _) (Nat.le_refl _) (fun _ _ _ => rfl) ho (fun b hb' => .inl ?_)))
  · simp only [execOp, hx, hy, Option.map_some, Option.map_none, Sem.run_bind, run_sliceAt_slice w t _ _ _ _ (elem_of ht), hr, Result.andThen_ok, Sem.run_pure]
  · show b ∈ (Value.slice A nv c).ownBlock.toList
    rw [← hb]; exact hb'
theorem s_sliceN {t el sz : Nat} {kq : IntKind} {x y : Operand} (ht : P.underlying t = some (.slice el)) (hz : SizeT P el sz) (hx : ev n e x = .slice none 0 0) (hy : ev n e y = .int kq 0)
    (h : W P ops Q rest n (upd e d (.slice none 0 0)) w) : W P ops Q (⟨some d, .slice t x none (some y) none, ty, pos, af, none⟩ :: rest) n e w := by
  have hel : P.elem t = el := by simp [Program.elem, ht]
  have hr := run_slice_h (P := P) w t none 0 0 (elem_of ht) kq 0 (by omega) (by omega)
  rw [hel, run_szOf hz, Result.andThen_ok, sliced_zero none _ _ _ (.inl rfl)] at hr
  refine stepV (.slice none 0 0) rfl rfl ?_ h
  simp only [execOp, hx, hy, Option.map_some, Option.map_none, Sem.run_bind, run_sliceAt_slice w t _ _ _ _ (elem_of ht), hr, Result.andThen_ok, Sem.run_pure]
  rfl
theorem s_sliceL (hC : Ctx X w0 w M Ps) (k : Nat) {t el sz nv : Nat} {kq : IntKind} {lo : Int} {x y : Operand} {v : Value} {cs : List Value} (hk : M[k]? = some (own el sz v nv cs)) (ht : P.underlying t = some (.slice el)) (hz : SizeT P el sz)
    (hx : ev n e x = v) (hy : ev n e y = .int kq lo) (h0 : 0 ≤ lo) (h1 : lo ≤ nv)
    (h : ∀ u, TailOf sz v u lo.toNat nv → W P ops Q rest n (upd e d u) w) :
    W P ops Q (⟨some d, .slice t x (some y) none none, ty, pos, af, none⟩ :: rest) n e w := by
  have hown : (own el sz v nv cs).holds w := hC.getM k hk
  obtain ⟨A, c, rfl, hnc, _, hA, hb⟩ := own_cut hown nv (Nat.le_refl _)
  have hel : P.elem t = el := by simp [Program.elem, ht]
  have hr := run_slice_l (P := P) w t A nv c (elem_of ht) kq lo h0 h1
  rw [hel, run_szOf hz, Result.andThen_ok] at hr
  refine stepV _ rfl rfl ?_ (h _ ⟨A, c, rfl, hnc, rfl⟩)
  simp only [execOp, hx, hy, Option.map_some, Option.map_none, Sem.run_bind, run_sliceAt_slice w t _ _ _ _ (elem_of ht), hr, Result.andThen_ok, Sem.run_pure]
theorem s_clearT (hC : Ctx X w0 w M Ps) (k : Nat) {t el sz nv l bytes : Nat} {x : Operand} {v u z : Value} {cs : List Value} (hk : M[k]? = some (own el sz v nv cs)) (ht : P.underlying t = some (.slice el)) (hE : ElemT P el z sz bytes)
    (hx : ev n e x = u) (hu : TailOf sz v u l nv) (hl : l ≤ nv) {zs : List Value} (hzs : (Builtin.zeroCells z.cells (nv - l)).toList = zs) (hzl : zs.length = (nv - l) * sz) (hz1 : ∀ q, q ∈ zs → q.oneCell' = true)
    (h : ∀ w', Ctx X w0 w' (M.set k (own el sz v nv (cs.take (l * sz) ++ zs))) Ps → W P ops Q rest n e w') :
    W P ops Q (⟨none, .call { callee := .builtin .clear, args := #[x], argTypes := #[t] }, ty, pos, af, none⟩ :: rest) n e w := by
  obtain ⟨A, c, rfl, hnc, rfl⟩ := hu
  obtain ⟨i0, hi, hzz⟩ := Option.map_eq_some_iff.1 hE
  simp only [Prod.mk.injEq] at hzz
  have hown : (own el sz (.slice A nv c) nv cs).holds w := hC.getM k hk
  obtain ⟨h1, h2⟩ := hown
  have hmul : l * sz + (nv - l) * sz = nv * sz := by rw [← Nat.add_mul]; congr 1; omega
  have hlen : (cs.take (l * sz) ++ zs).length = nv * sz := by rw [List.length_append, List.length_take, h1, hzl]; omega
  by_cases h0 : nv - l = 0
  · have hz0 : zs = [] := List.eq_nil_of_length_eq_zero (by rw [hzl, h0, Nat.zero_mul])
    have e1 : cs.take (l * sz) ++ zs = cs := by
      rw [hz0, List.append_nil, List.take_of_length_le]
      rw [h1]
      exact Nat.mul_le_mul_right _ (by omega)
    rw [e1] at h
    have hset : M.set k (own el sz (.slice A nv c) nv cs) = M := by
      obtain ⟨hlt, hget⟩ := List.getElem?_eq_some_iff.1 hk
      rw [← hget, List.set_getElem_self]
    rw [hset] at h
    refine stepVN (v := .tuple #[]) rfl rfl ?_ (h w hC)
    have : sliced A l nv c sz = .slice (if c = l then A else A.map (·.add (l * sz))) 0 (c - l) := by unfold sliced; rw [h0]
    have key : ∀ (B : Option Addr) (cc : Nat), (Builtin.clear_ #[t] ty #[.slice B 0 cc]).run P w = .ok (.tuple #[]) w := fun B cc => by
      unfold Builtin.clear_
      cases B <;> simp [run_underlying ht]
    simp only [execOp, resolve, invoke, builtin, Sem.run_bind, Sem.run_pure, Result.andThen_ok, List.map_toArray, List.map_cons, List.map_nil, hx, this, key]
  · rcases h2 with ⟨hv, rfl⟩ | ⟨g, cap, cur, hv, hbg, hg, hncap, hcm, hcs, htk⟩
    · omega
    · injection hv with hA hn hc
      subst hA hc
      have hne : c ≠ l := by omega
      have hu : sliced (some ⟨g, 0, none⟩) l nv c sz = .slice (some ⟨g, l * sz, none⟩) (nv - l) (c - l) := by
        unfold sliced; rw [if_neg hne]; simp [Addr.add_lit]
      have hfit : l * sz + zs.length ≤ cur.size := by
        rw [hzl, hmul, hcs]; exact Nat.mul_le_mul_right _ hncap
      have hst := run_storeCells_at P g (l * sz) el zs 0 cur w hg (by simpa using hfit) hz1
      simp only [Nat.add_zero] at hst
      refine stepVN (v := .tuple #[]) (w' := w.setRow g (cur.toList.take (l * sz) ++ zs ++ cur.toList.drop (l * sz + zs.length)).toArray) rfl rfl ?_ (h _ (hC.turn k hk rfl rfl rfl (by simp) (Nat.le_refl _) (fun b hb hnb => setRow_other w g b _ (fun q => hnb (by show b ∈ (Value.slice (some ⟨g, 0, none⟩) nv c).ownBlock.toList; simp [Value.ownBlock, q]))) ⟨hlen, .inr ⟨g, c, _, rfl, hbg, setRow_heap w g cur _ el _ hg, hncap, hcm, ?_, ?_⟩⟩ (fun b hb => .inl hb)))
      · simp only [execOp, resolve, invoke, builtin, Sem.run_bind, Sem.run_pure, Result.andThen_ok, List.map_toArray, List.map_cons, List.map_nil, hx, hu]
        unfold Builtin.clear_
        have hn0 : nv - l ≠ 0 := h0
        obtain ⟨q, hq⟩ : ∃ q, nv - l = q + 1 := ⟨nv - l - 1, by omega⟩
        rw [hq] at hzs ⊢
        simp [run_underlying ht, zeroValue, typeInfo, hi, hzz.1, hzs, Sem.run_bind] at hst ⊢
        rw [hst]
        rfl
      · simp only [List.size_toArray, List.length_append, List.length_take, List.length_drop, Array.length_toList]
        omega
      · have e2 : cs.take (l * sz) = cur.toList.take (l * sz) := by rw [← htk, List.take_take, Nat.min_eq_left (by omega)]
        rw [e2]
        have e3 : (cur.toList.take (l * sz) ++ zs).length = nv * sz := by rw [← e2]; exact hlen
        rw [← e3]
        exact List.take_left
theorem s_cap {t el : Nat} {x : Operand} {A : Option Addr} {m c : Nat} (ht : P.underlying t = some (.slice el)) (hx : ev n e x = .slice A m c)
    (h : W P ops Q rest n (upd e d (.int .i64 c)) w) : W P ops Q (⟨some d, .call { callee := .builtin .cap, args := #[x], argTypes := #[t] }, ty, pos, af, none⟩ :: rest) n e w := by
  refine stepV _ rfl rfl ?_ h
  have hr := run_cap_slice (P := P) w t ty A m c (elem_of ht)
  simp only [execOp, resolve, invoke, builtin, Sem.run_bind, Sem.run_pure, Result.andThen_ok, List.map_toArray, List.map_cons, List.map_nil, hx, hr]
  rfl
end
theorem _root_.Vc.Enc.encs_take {α : Type} (E : Enc α) (xs : List α) (m : Nat) : (E.encs xs).take (m * E.sz) = E.encs (xs.take m) := by
  induction xs generalizing m with
  | nil => simp [Enc.encs]
  | cons x xs ih =>
    cases m with
    | zero => simp [Enc.encs]
    | succ m =>
      have e : E.encs (x :: xs) = E.enc x ++ E.encs xs := by simp [Enc.encs]
      have hl := E.len x
      rw [e, List.take_succ_cons, show E.encs (x :: xs.take m) = E.enc x ++ E.encs (xs.take m) by simp [Enc.encs], Nat.add_mul, Nat.one_mul, Nat.add_comm, ← hl, List.take_length_add_append, hl, ih]
theorem clear_len {α : Type} {xs : List α} {l : Nat} {z : α} (h : l ≤ xs.length) : xs.length = (xs.take l ++ List.replicate (xs.length - l) z).length := by simp; omega
section
variable {P : Program} {ops : Array Oper} {Q : Exit → Act → World → Prop} {n : Nat} {e : Env} {w w' : World} {rest : List Oper}
variable {d ty : Nat} {pos : String} {af : Array Edge}
theorem r_eqlA {t t' : Nat} {ik : IntKind} {x y : Operand} {a b : A8} {gd : Option (Nat × Bool)} (K : KeyT P t (kvA ik)) (hm : P.eqGuardType P.depth t = false) (hx : ev n e x = .agg (List.toArray (a.enc ik))) (hy : ev n e y = .agg (List.toArray (b.enc ik))) :
    (execOp (ev n e) ⟨some d, .binOp .eql t x y t', ty, pos, af, gd⟩).run P w = .ok (.value (.bool (decide (a = b)))) w := by
  have hq := run_eqGuard_agg (P := P) w .eql t x y (List.toArray (a.enc ik)) (List.toArray (b.enc ik)) hm
  have hr : (Op.equalIn 10000 t (.agg (List.toArray (a.enc ik))) (.agg (List.toArray (b.enc ik)))).run P w = .ok (decide (a = b)) w := K.equal w a b
  simp only [execOp, hx, hy, Sem.run_bind, hq, Result.andThen_ok, run_eql_struct, hr, Sem.run_pure]
theorem s_eqlA {t t' : Nat} {ik : IntKind} {x y : Operand} {a b : A8} (K : KeyT P t (kvA ik)) (hm : P.eqGuardType P.depth t = false) (hx : ev n e x = .agg (List.toArray (a.enc ik))) (hy : ev n e y = .agg (List.toArray (b.enc ik)))
    (h : W P ops Q rest n (upd e d (.bool (decide (a = b)))) w) : W P ops Q (⟨some d, .binOp .eql t x y t', ty, pos, af, none⟩ :: rest) n e w :=
  stepV _ rfl rfl (r_eqlA K hm hx hy) h
theorem r_neqA {t t' : Nat} {ik : IntKind} {x y : Operand} {a b : A8} {gd : Option (Nat × Bool)} (K : KeyT P t (kvA ik)) (hm : P.eqGuardType P.depth t = false) (hx : ev n e x = .agg (List.toArray (a.enc ik))) (hy : ev n e y = .agg (List.toArray (b.enc ik))) :
    (execOp (ev n e) ⟨some d, .binOp .neq t x y t', ty, pos, af, gd⟩).run P w = .ok (.value (.bool (decide (a ≠ b)))) w := by
  have hq := run_eqGuard_agg (P := P) w .neq t x y (List.toArray (a.enc ik)) (List.toArray (b.enc ik)) hm
  have hr : (Op.equalIn 10000 t (.agg (List.toArray (a.enc ik))) (.agg (List.toArray (b.enc ik)))).run P w = .ok (decide (a = b)) w := K.equal w a b
  simp only [execOp, hx, hy, Sem.run_bind, hq, Result.andThen_ok, run_neq_struct, hr, Sem.run_pure]
  simp
theorem s_neqA {t t' : Nat} {ik : IntKind} {x y : Operand} {a b : A8} (K : KeyT P t (kvA ik)) (hm : P.eqGuardType P.depth t = false) (hx : ev n e x = .agg (List.toArray (a.enc ik))) (hy : ev n e y = .agg (List.toArray (b.enc ik)))
    (h : W P ops Q rest n (upd e d (.bool (decide (a ≠ b)))) w) : W P ops Q (⟨some d, .binOp .neq t x y t', ty, pos, af, none⟩ :: rest) n e w :=
  stepV _ rfl rfl (r_neqA K hm hx hy) h
end
theorem zero_encs {α : Type} {E : Enc α} (x : α) (m : Nat) : (Builtin.zeroCells (E.enc x).toArray m).toList = E.encs (List.replicate m x) := by
  have := made_encs (E := E) x m
  unfold madeCells at this
  unfold Builtin.zeroCells
  have hs : (E.enc x).toArray.size = E.sz := by simp [E.len]
  rw [hs]; rw [hs] at this; exact this
theorem clear_encs {α : Type} {E : Enc α} (xs : List α) (l : Nat) (r : List α) : (E.encs xs).take (l * E.sz) ++ E.encs r = E.encs (xs.take l ++ r) := by
  rw [E.encs_take, Enc.encs_append]
/-! ### Copies between arrays of eight -/
def A8.pasted (a c : A8) (lo : Nat) : A8 :=
  let f := fun j : Nat => if j < lo then a.get j else c.get (j - lo)
  ⟨f 0, f 1, f 2, f 3, f 4, f 5, f 6, f 7⟩
theorem A8.get_pasted (a c : A8) (lo : Nat) {j : Nat} (hj : j < 8) : (A8.pasted a c lo).get j = if j < lo then a.get j else c.get (j - lo) := by
  match j, hj with
  | 0, _ | 1, _ | 2, _ | 3, _ | 4, _ | 5, _ | 6, _ | 7, _ => rfl
theorem pasted_enc (a c : A8) (ik : IntKind) {lo : Nat} (hl : lo ≤ 8) : (a.enc ik).take lo ++ (c.enc ik).take (8 - lo) = (A8.pasted a c lo).enc ik := by
  match lo, hl with
  | 0, _ | 1, _ | 2, _ | 3, _ | 4, _ | 5, _ | 6, _ | 7, _ | 8, _ => rfl
theorem blk_cells {b t o : Nat} {cs ds : List Value} {w : World} (h : (blk b t cs).holds w) (hd : (cs.drop o).take ds.length = ds) : cellsAt w ⟨b, o, none⟩ ds := by
  intro j u hj
  have h' : w.heap[b]? = some (.cells cs.toArray t (0, 0)) := h
  have hj' : cs[o + j]? = some u := by
    rw [← hd, List.getElem?_take] at hj
    split at hj
    · rwa [List.getElem?_drop] at hj
    · cases hj
  rw [Addr.add_lit]
  simp [World.cell?, h', hj']
section
variable {P : Program} {ops : Array Oper} {Q : Exit → Act → World → Prop} {n : Nat} {e : Env} {w w' : World} {rest : List Oper}
variable {X : Nat → Prop} {w0 : World} {M Ps : List Item}
variable {d ty : Nat} {pos : String} {af : Array Edge} {gd : Option (Nat × Bool)}
theorem arr_of {P : Program} {t el m : Nat} (ht : P.underlying t = some (.array m el)) : P.underlying t = some (.array (P.arrayLen t) (P.elem t)) ∧ P.arrayLen t = m ∧ P.elem t = el := by
  have h1 : P.elem t = el := by simp [Program.elem, ht]
  have h2 : P.arrayLen t = m := by simp [Program.arrayLen, ht]
  rw [h1, h2]; exact ⟨ht, rfl, rfl⟩
theorem r_slA0 {t el : Nat} {x : Operand} {b o : Nat} (ht : P.underlying t = some (.array 8 el)) (hz : SizeT P el 1) (hx : ev n e x = .pointer (some ⟨b, o, none⟩)) :
    (execOp (ev n e) ⟨some d, .slice t x none none none, ty, pos, af, gd⟩).run P w = .ok (.value (.slice (some ⟨b, o, none⟩) 8 8)) w := by
  obtain ⟨h1, h2, h3⟩ := arr_of ht
  have hr := run_sliceAt_array_all (P := P) w t ⟨b, o, none⟩ h1
  rw [h2, h3, run_szOf hz, Result.andThen_ok] at hr
  simp only [execOp, hx, Option.map_none, Sem.run_bind, hr, Result.andThen_ok, Sem.run_pure]
  simp [slicedAt, Addr.add_lit]
theorem s_slA0 {t el : Nat} {x : Operand} {b o : Nat} (ht : P.underlying t = some (.array 8 el)) (hz : SizeT P el 1) (hx : ev n e x = .pointer (some ⟨b, o, none⟩))
    (h : W P ops Q rest n (upd e d (.slice (some ⟨b, o, none⟩) 8 8)) w) : W P ops Q (⟨some d, .slice t x none none none, ty, pos, af, none⟩ :: rest) n e w :=
  stepV _ rfl rfl (r_slA0 ht hz hx) h
theorem r_slA {t el : Nat} {x y : Operand} {b : Nat} {kq : IntKind} {lo : Int} (ht : P.underlying t = some (.array 8 el)) (hz : SizeT P el 1) (hx : ev n e x = .pointer (some ⟨b, 0, none⟩)) (hy : ev n e y = .int kq lo) (h0 : 0 ≤ lo) (h1 : lo ≤ 8) :
    (execOp (ev n e) ⟨some d, .slice t x (some y) none none, ty, pos, af, gd⟩).run P w = .ok (.value (slicedAt ⟨b, 0, none⟩ lo.toNat 8 8 1)) w := by
  obtain ⟨q1, q2, q3⟩ := arr_of ht
  have hr := run_sliceAt_array_l (P := P) w t ⟨b, 0, none⟩ q1 kq lo h0 (by rw [q2]; exact h1)
  rw [q2, q3, run_szOf hz, Result.andThen_ok] at hr
  simp only [execOp, hx, hy, Option.map_none, Option.map_some, Sem.run_bind, hr, Result.andThen_ok, Sem.run_pure]
theorem s_slA {t el : Nat} {x y : Operand} {b : Nat} {kq : IntKind} {lo : Int} (ht : P.underlying t = some (.array 8 el)) (hz : SizeT P el 1) (hx : ev n e x = .pointer (some ⟨b, 0, none⟩)) (hy : ev n e y = .int kq lo) (h0 : 0 ≤ lo) (h1 : lo ≤ 8)
    (h : W P ops Q rest n (upd e d (slicedAt ⟨b, 0, none⟩ lo.toNat 8 8 1)) w) : W P ops Q (⟨some d, .slice t x (some y) none none, ty, pos, af, none⟩ :: rest) n e w :=
  stepV _ rfl rfl (r_slA ht hz hx hy h0 h1) h
theorem s_copyA (hC : Ctx X w0 w M Ps) (k : Nat) {b b2 o ta t el lo bytes : Nat} {z : Value} {ik : IntKind} {a c : A8} {x y : Operand} (hk : M[k]? = some (blk b ta (a.enc ik))) (ht : P.underlying t = some (.slice el)) (hE : ElemT P el z 1 bytes)
    (hx : ev n e x = slicedAt ⟨b, 0, none⟩ lo 8 8 1) (hy : ev n e y = .slice (some ⟨b2, o, none⟩) 8 8) (hl : lo ≤ 8) (hs : cellsAt w ⟨b2, o, none⟩ (c.enc ik))
    (h : ∀ w', Ctx X w0 w' (M.set k (blk b ta ((A8.pasted a c lo).enc ik))) Ps → W P ops Q rest n (upd e d (.int .i64 ((8 - lo : Nat) : Int))) w') :
    W P ops Q (⟨some d, .call { callee := .builtin .copy, args := #[x, y], argTypes := #[t, t] }, ty, pos, af, none⟩ :: rest) n e w := by
  obtain ⟨i0, hi, hzz⟩ := Option.map_eq_some_iff.1 hE
  simp only [Prod.mk.injEq] at hzz
  have hb : w.heap[b]? = some (.cells (a.enc ik).toArray ta (0, 0)) := hC.getM k hk
  have hlen : ∀ q : A8, (q.enc ik).length = 8 := fun _ => rfl
  have hf := run_firstCells_some (P := P) w i0.size (8 - lo) ⟨b2, o, none⟩ 8 8 ((c.enc ik).take (8 - lo)) (by rw [hzz.2.1, List.length_take, hlen]; omega) (fun j u hj => hs j u (by
    rw [List.getElem?_take] at hj
    split at hj
    · exact hj
    · cases hj))
  have hadd : (if 8 = lo then (⟨b, 0, none⟩ : Addr) else (⟨b, 0, none⟩ : Addr).add (lo * 1)) = ⟨b, if 8 = lo then 0 else lo, none⟩ := by
    split
    · rfl
    · simp [Addr.add_lit]
  have hst := run_storeCells_at P b (if 8 = lo then 0 else lo) ta ((c.enc ik).take (8 - lo)) 0 (a.enc ik).toArray w hb (by
    rw [List.length_take, hlen]; simp only [List.size_toArray, hlen]; split <;> omega) (fun q hq => by
    have hq' := List.mem_of_mem_take hq
    simp only [A8.enc, List.mem_cons, List.not_mem_nil, or_false] at hq'
    rcases hq' with rfl | rfl | rfl | rfl | rfl | rfl | rfl | rfl <;> rfl)
  refine stepV (w' := w.setRow b (((a.enc ik).toArray.toList.take ((if 8 = lo then 0 else lo) + 0) ++ (c.enc ik).take (8 - lo) ++ (a.enc ik).toArray.toList.drop ((if 8 = lo then 0 else lo) + 0 + ((c.enc ik).take (8 - lo)).length)).toArray)) _ rfl rfl ?_ (h _ (hC.turn k hk rfl rfl rfl (by simp) (Nat.le_refl _) (fun q hq hnq => setRow_other w b q _ (fun r => hnq (by show q ∈ [b]; simp [r]))) ?_ (fun q hq => .inl hq)))
  · simp only [execOp, resolve, invoke, builtin, Sem.run_bind, Sem.run_pure, Result.andThen_ok, List.map_toArray, List.map_cons, List.map_nil, hx, hy]
    unfold Builtin.copy_ slicedAt
    simp only [hadd]
    have hmin : Nat.min 8 (8 - lo) = 8 - lo := Nat.min_eq_right (by omega)
    simp [run_underlying ht, Builtin.lenOf, hmin, Go.sizeOf, typeInfo, hi, hf, Sem.run_bind] at hst ⊢
    rw [hst]
    simp [goInt]
  · refine (setRow_heap w b (a.enc ik).toArray _ ta _ hb).trans ?_
    congr 3
    rw [← pasted_enc a c ik hl]
    simp only [Nat.add_zero]
    by_cases h8 : 8 = lo
    · subst h8; simp [hlen]; rfl
    · rw [if_neg h8, List.length_take, hlen, Nat.min_eq_left (by omega), List.drop_of_length_le (by simp [hlen]; omega), List.append_nil]
end
end Vc
