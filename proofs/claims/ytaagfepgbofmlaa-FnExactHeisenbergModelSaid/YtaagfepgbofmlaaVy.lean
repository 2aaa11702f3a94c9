/- Copies into a row of the call's own; bits of numbers. -/
import Derived.Test.YtaagfepgbofmlaaVx
set_option linter.unusedVariables false
set_option linter.unusedSimpArgs false
namespace Vc
open Go Go.RowKit
def bAnd (k : IntKind) (a b : Int) : Int := k.wrap ((BitVec.ofInt k.bits a &&& BitVec.ofInt k.bits b).toNat : Nat)
def bShr (a : Int) (m : Nat) : Int := a.fdiv (2 ^ m)
/-- a row whose cells can be read -/
def Src (P : Program) (w : World) (sz : Nat) (s : Value) (m : Nat) (ss : List Value) : Prop :=
  ss.length = m * sz ∧ ∃ A c, s = .slice A m c ∧ ∀ q, q ≤ m → (Builtin.firstCells sz q s).run P w = .ok (ss.take (q * sz)).toArray w
theorem src_at {P : Program} {w : World} {sz m c : Nat} {A : Option Addr} {ss : List Value} (hl : ss.length = m * sz) (h : 0 < m → ∃ a, A = some a ∧ ∀ j u, ss[j]? = some u → w.cell? (a.add j) = some u) (h0 : m = 0 → A = none ∨ ∃ a, A = some a) :
    Src P w sz (.slice A m c) m ss := by
  refine ⟨hl, A, c, rfl, fun q hq => ?_⟩
  rcases Nat.eq_zero_or_pos m with hm | hm
  · obtain rfl : q = 0 := by omega
    subst hm
    have hs : ss = [] := List.eq_nil_of_length_eq_zero (by simpa using hl)
    subst hs
    rcases h0 rfl with rfl | ⟨a, rfl⟩
    · simp [Builtin.firstCells]
    · have := run_firstCells_some (P := P) w sz 0 a 0 c [] (by simp) (by simp)
      simpa using this
  · obtain ⟨a, rfl, ha⟩ := h hm
    refine run_firstCells_some (P := P) w sz q a m c (ss.take (q * sz)) ?_ ?_
    · rw [List.length_take, hl, Nat.min_eq_left (Nat.mul_le_mul_right sz hq)]
    · intro j u hj
      rw [List.getElem?_take] at hj
      split at hj
      · exact ha j u hj
      · cases hj
theorem own_src {P : Program} {el sz m : Nat} {v : Value} {cs : List Value} {w : World} (h : (own el sz v m cs).holds w) : Src P w sz v m cs := by
  obtain ⟨h1, h2⟩ := h
  rcases h2 with ⟨rfl, rfl⟩ | ⟨g, cap, cur, rfl, hbg, hg, hnc, hcm, hcs, ht⟩
  · exact src_at h1 (fun q => absurd q (Nat.lt_irrefl 0)) (fun _ => .inl rfl)
  · refine src_at h1 (fun _ => ⟨_, rfl, fun j u hj => ?_⟩) (fun _ => .inr ⟨_, rfl⟩)
    rw [Addr.add_lit]
    have : cur.toList[j]? = some u := by
      rw [← ht, List.getElem?_take] at hj
      split at hj
      · exact hj
      · cases hj
    simpa [World.cell?, hg] using this
theorem own_head {P : Program} {el sz nv : Nat} {v : Value} {cs : List Value} {w : World} (h : (own el sz v nv cs).holds w) {m : Nat} (hm : m ≤ nv) {u : Value} (hu : ∃ A c, v = .slice A nv c ∧ u = .slice A m c) : Src P w sz u m (cs.take (m * sz)) := by
  obtain ⟨A, c, rfl, hnc, ho, hA, hb⟩ := own_cut h m hm
  obtain ⟨A', c', e, rfl⟩ := hu
  injection e with e1 _ e2
  subst e1; subst e2
  exact own_src ho
theorem rdr_src {P : Program} {sz m : Nat} {v : Value} {cs : List Value} {fp : List Nat} {w : World} (h : (rdr sz v m cs fp).holds w) : Src P w sz v m cs := by
  obtain ⟨_, h1, _, A, c, rfl, h3⟩ := h
  refine src_at h1 (fun q => ?_) (fun _ => ?_)
  · obtain ⟨a, rfl, _, hc⟩ := h3 q
    exact ⟨a, rfl, hc⟩
  · rcases A with _ | a
    · exact .inl rfl
    · exact .inr ⟨a, rfl⟩
def pasteL {α : Type} (xs : List α) (l : Nat) (ys : List α) : List α := xs.take l ++ ys.take (xs.length - l) ++ xs.drop (l + (ys.take (xs.length - l)).length)
theorem pasteL_len {α : Type} (xs : List α) (l : Nat) (ys : List α) (h : l ≤ xs.length) : xs.length = (pasteL xs l ys).length := by
  simp only [pasteL, List.length_append, List.length_take, List.length_drop]; omega
theorem encs_drop {α : Type} (E : Enc α) (xs : List α) (m : Nat) : (E.encs xs).drop (m * E.sz) = E.encs (xs.drop m) := by
  by_cases h : m ≤ xs.length
  · have e : E.encs xs = E.encs (xs.take m) ++ E.encs (xs.drop m) := by rw [← Enc.encs_append, List.take_append_drop]
    rw [e, List.drop_left']
    rw [Enc.encs_len, List.length_take, Nat.min_eq_left h]
  · rw [List.drop_of_length_le, List.drop_of_length_le (by omega)]
    · rfl
    · rw [Enc.encs_len]; exact Nat.mul_le_mul_right _ (by omega)
theorem paste_encs {α : Type} (E : Enc α) (xs ys : List α) (l : Nat) :
    (E.encs xs).take (l * E.sz) ++ (E.encs ys).take ((xs.length - l) * E.sz) ++ (E.encs xs).drop (l * E.sz + ((E.encs ys).take ((xs.length - l) * E.sz)).length) = E.encs (pasteL xs l ys) := by
  unfold pasteL
  rw [Enc.encs_append, Enc.encs_append, E.encs_take, E.encs_take, E.encs_len, ← Nat.add_mul, encs_drop]
theorem src_eq {P : Program} {w : World} {sz m : Nat} {s : Value} {a b : List Value} (e : a = b) (h : Src P w sz s m a) : Src P w sz s m b := e ▸ h
theorem own_tail {el sz m : Nat} {v : Value} {cs : List Value} {w : World} (h : (own el sz v m cs).holds w) : TailOf sz v v 0 m := by
  obtain ⟨A, c, rfl, hnc, ho, hA, hb⟩ := own_cut h m (Nat.le_refl _)
  exact ⟨A, c, rfl, hnc, (sliced_zero A _ _ _ hA).symm⟩
section
variable {P : Program} {ops : Array Oper} {Q : Exit → Act → World → Prop} {n : Nat} {e : Env} {w w' : World} {rest : List Oper}
variable {X : Nat → Prop} {w0 : World} {M Ps : List Item}
variable {d ty : Nat} {pos : String} {af : Array Edge}
theorem s_and {t t' : Nat} {x y : Operand} {k : IntKind} {a b : Int} (hx : ev n e x = .int k a) (hy : ev n e y = .int k b)
    (h : W P ops Q rest n (upd e d (.int k (bAnd k a b))) w) : W P ops Q (⟨some d, .binOp .and t x y t', ty, pos, af, none⟩ :: rest) n e w :=
  s_arith _ hx hy (by simp [binOp, Op.intBits, bAnd]) h
theorem s_shr {t t' : Nat} {x y : Operand} {k k' : IntKind} {a b : Int} (hx : ev n e x = .int k a) (hy : ev n e y = .int k' b) (m : Nat) (h0 : 0 ≤ b) (hm : min b.toNat k.bits = m)
    (h : W P ops Q rest n (upd e d (.int k (bShr a m))) w) : W P ops Q (⟨some d, .binOp .shr t x y t', ty, pos, af, none⟩ :: rest) n e w := by
  refine stepV _ rfl rfl ?_ h
  have hq : (eqGuard .shr t x y (.int k a) (.int k' b)).run P w = .ok () w := by
    unfold eqGuard
    simp
  have hb : ¬ b < 0 := by omega
  have hr : (binOp .shr t (.int k a) (.int k' b)).run P w = .ok (.int k (bShr a m)) w := by
    subst hm
    simp [binOp, Op.shift, bShr, hb]
  simp only [execOp, hx, hy, Sem.run_bind, hq, Result.andThen_ok, hr, Sem.run_pure]
theorem own_sl {el sz nv : Nat} {v : Value} {cs : List Value} {w : World} (h : (own el sz v nv cs).holds w) : ∃ A c, v = .slice A nv c ∧ nv ≤ c ∧ (A = none ∨ ∃ g, A = some ⟨g, 0, none⟩) := by
  obtain ⟨A, c, e, hnc, _, hA, _⟩ := own_cut h nv (Nat.le_refl _)
  exact ⟨A, c, e, hnc, hA⟩
theorem r_slL {gd : Option (Nat × Bool)} {t el sz nv c : Nat} {kq : IntKind} {lo : Int} {x y : Operand} {v : Value} {A : Option Addr} (hv : v = .slice A nv c) (ht : P.underlying t = some (.slice el)) (hz : SizeT P el sz)
    (hx : ev n e x = v) (hy : ev n e y = .int kq lo) (h0 : 0 ≤ lo) (h1 : lo ≤ nv) :
    (execOp (ev n e) ⟨some d, .slice t x (some y) none none, ty, pos, af, gd⟩).run P w = .ok (.value (sliced A lo.toNat nv c sz)) w := by
  subst hv
  have hel : P.elem t = el := by simp [Program.elem, ht]
  have hr := run_slice_l (P := P) w t A nv c (elem_of ht) kq lo h0 h1
  rw [hel, run_szOf hz, Result.andThen_ok] at hr
  simp only [execOp, hx, hy, Option.map_some, Option.map_none, Sem.run_bind, run_sliceAt_slice w t _ _ _ _ (elem_of ht), hr, Result.andThen_ok, Sem.run_pure]
theorem r_slH {gd : Option (Nat × Bool)} {t el sz nv c : Nat} {kq : IntKind} {hi : Int} {x y : Operand} {v : Value} {A : Option Addr} (hv : v = .slice A nv c) (hnc : nv ≤ c) (hA : A = none ∨ ∃ g, A = some ⟨g, 0, none⟩) (ht : P.underlying t = some (.slice el)) (hz : SizeT P el sz)
    (hx : ev n e x = v) (hy : ev n e y = .int kq hi) (h0 : 0 ≤ hi) (h1 : hi ≤ nv) :
    (execOp (ev n e) ⟨some d, .slice t x none (some y) none, ty, pos, af, gd⟩).run P w = .ok (.value (.slice A hi.toNat c)) w := by
  subst hv
  have hel : P.elem t = el := by simp [Program.elem, ht]
  have hr := run_slice_h (P := P) w t A nv c (elem_of ht) kq hi h0 (by omega)
  rw [hel, run_szOf hz, Result.andThen_ok, sliced_zero A _ _ _ hA] at hr
  simp only [execOp, hx, hy, Option.map_some, Option.map_none, Sem.run_bind, run_sliceAt_slice w t _ _ _ _ (elem_of ht), hr, Result.andThen_ok, Sem.run_pure]
theorem s_copyO (hC : Ctx X w0 w M Ps) (k : Nat) {t el sz nv l bytes m : Nat} {x y : Operand} {v u s z : Value} {cs ss : List Value} (hk : M[k]? = some (own el sz v nv cs)) (ht : P.underlying t = some (.slice el)) (hE : ElemT P el z sz bytes)
    (hx : ev n e x = u) (hy : ev n e y = s) (hu : TailOf sz v u l nv) (hl : l ≤ nv) (hs : Src P w sz s m ss) (hz1 : ∀ q, q ∈ ss → q.oneCell' = true)
    (h : ∀ w', Ctx X w0 w' (M.set k (own el sz v nv (cs.take (l * sz) ++ ss.take ((nv - l) * sz) ++ cs.drop (l * sz + (ss.take ((nv - l) * sz)).length)))) Ps → W P ops Q rest n (upd e d (.int .i64 ((min m (nv - l) : Nat) : Int))) w') :
    W P ops Q (⟨some d, .call { callee := .builtin .copy, args := #[x, y], argTypes := #[t, t] }, ty, pos, af, none⟩ :: rest) n e w := by
  obtain ⟨A, c, rfl, hnc, rfl⟩ := hu
  obtain ⟨i0, hi, hzz⟩ := Option.map_eq_some_iff.1 hE
  simp only [Prod.mk.injEq] at hzz
  obtain ⟨hsl, B, cB, rfl, hfc⟩ := hs
  have hown : (own el sz (.slice A nv c) nv cs).holds w := hC.getM k hk
  obtain ⟨h1, h2⟩ := hown
  have htk : ss.take ((nv - l) * sz) = ss.take (min m (nv - l) * sz) := by
    by_cases hq : m ≤ nv - l
    · rw [Nat.min_eq_left hq, List.take_of_length_le (by rw [hsl]; exact Nat.mul_le_mul_right _ hq), List.take_of_length_le (by rw [hsl]; exact Nat.le_refl _)]
    · rw [Nat.min_eq_right (by omega)]
  have htl : (ss.take ((nv - l) * sz)).length = min m (nv - l) * sz := by
    rw [htk, List.length_take, hsl, Nat.min_eq_left (Nat.mul_le_mul_right sz (Nat.min_le_left _ _))]
  have hmul : l * sz + (nv - l) * sz = nv * sz := by rw [← Nat.add_mul]; congr 1; omega
  have hmq : min m (nv - l) * sz ≤ (nv - l) * sz := Nat.mul_le_mul_right sz (Nat.min_le_right _ _)
  have hlen : (cs.take (l * sz) ++ ss.take ((nv - l) * sz) ++ cs.drop (l * sz + (ss.take ((nv - l) * sz)).length)).length = nv * sz := by
    rw [List.length_append, List.length_append, List.length_take, List.length_drop, htl, h1]; omega
  have hf := hfc (min m (nv - l)) (Nat.min_le_left _ _)
  rw [← htk] at hf
  by_cases h0 : min m (nv - l) = 0
  · have hz0 : ss.take ((nv - l) * sz) = [] := List.eq_nil_of_length_eq_zero (by rw [htl, h0, Nat.zero_mul])
    rw [hz0] at h hf
    rw [List.append_nil, List.length_nil, Nat.add_zero, List.take_append_drop] at h
    have hset : M.set k (own el sz (.slice A nv c) nv cs) = M := by
      obtain ⟨hlt, hget⟩ := List.getElem?_eq_some_iff.1 hk
      rw [← hget, List.set_getElem_self]
    rw [hset] at h
    refine stepV _ rfl rfl ?_ (h w hC)
    have hr : (Builtin.copy_ #[t, t] ty #[sliced A l nv c sz, .slice B m cB]).run P w = .ok (.int .i64 ((min m (nv - l) : Nat) : Int)) w := by
      unfold Builtin.copy_ sliced
      have hm' : Nat.min m (nv - l) = 0 := h0
      rw [h0] at hf ⊢
      generalize (if c = l then A else A.map (·.add (l * sz))) = D
      cases D <;> simp [run_underlying ht, Builtin.lenOf, hm', Go.sizeOf, typeInfo, hi, hzz, hf, Sem.run_bind, goInt, storeCells]
    simp only [execOp, resolve, invoke, builtin, Sem.run_bind, Sem.run_pure, Result.andThen_ok, List.map_toArray, List.map_cons, List.map_nil, hx, hy, hr]
  · rcases h2 with ⟨hv, rfl⟩ | ⟨g, cap, cur, hv, hbg, hg, hncap, hcm, hcs, htq⟩
    · omega
    · injection hv with hA hn hc
      subst hA hc
      have hne : c ≠ l := by omega
      have hu : sliced (some ⟨g, 0, none⟩) l nv c sz = .slice (some ⟨g, l * sz, none⟩) (nv - l) (c - l) := by
        unfold sliced; rw [if_neg hne]; simp [Addr.add_lit]
      have hnn : nv * sz ≤ c * sz := Nat.mul_le_mul_right _ hncap
      have hfit : l * sz + (ss.take ((nv - l) * sz)).length ≤ cur.size := by
        rw [htl, hcs]; omega
      have hst := run_storeCells_at P g (l * sz) el (ss.take ((nv - l) * sz)) 0 cur w hg (by simpa using hfit) (fun q hq => hz1 q (List.mem_of_mem_take hq))
      simp only [Nat.add_zero] at hst
      refine stepV (w' := w.setRow g (cur.toList.take (l * sz) ++ ss.take ((nv - l) * sz) ++ cur.toList.drop (l * sz + (ss.take ((nv - l) * sz)).length)).toArray) _ rfl rfl ?_ (h _ (hC.turn k hk rfl rfl rfl (by simp) (Nat.le_refl _) (fun b hb hnb => setRow_other w g b _ (fun q => hnb (by show b ∈ (Value.slice (some ⟨g, 0, none⟩) nv c).ownBlock.toList; simp [Value.ownBlock, q]))) ⟨hlen, .inr ⟨g, c, _, rfl, hbg, setRow_heap w g cur _ el _ hg, hncap, hcm, ?_, ?_⟩⟩ (fun b hb => .inl hb)))
      · have hr : (Builtin.copy_ #[t, t] ty #[sliced (some ⟨g, 0, none⟩) l nv c sz, .slice B m cB]).run P w = .ok (.int .i64 ((min m (nv - l) : Nat) : Int)) (w.setRow g (cur.toList.take (l * sz) ++ ss.take ((nv - l) * sz) ++ cur.toList.drop (l * sz + (ss.take ((nv - l) * sz)).length)).toArray) := by
          rw [hu]
          unfold Builtin.copy_
          have hm' : Nat.min m (nv - l) = min m (nv - l) := rfl
          simp [run_underlying ht, Builtin.lenOf, hm', Go.sizeOf, typeInfo, hi, hzz, hf, Sem.run_bind] at hst ⊢
          rw [hst]
          simp [goInt]
        simp only [execOp, resolve, invoke, builtin, Sem.run_bind, Sem.run_pure, Result.andThen_ok, List.map_toArray, List.map_cons, List.map_nil, hx, hy, hr]
      · simp only [List.size_toArray, List.length_append, List.length_take, List.length_drop, Array.length_toList]
        omega
      · have e2 : cs.take (l * sz) = cur.toList.take (l * sz) := by rw [← htq, List.take_take, Nat.min_eq_left (by omega)]
        have e3 : cs.drop (l * sz + (ss.take ((nv - l) * sz)).length) = (cur.toList.drop (l * sz + (ss.take ((nv - l) * sz)).length)).take (nv * sz - (l * sz + (ss.take ((nv - l) * sz)).length)) := by
          rw [← htq, List.drop_take]
        rw [e3, e2]
        have e4 : (cur.toList.take (l * sz) ++ ss.take ((nv - l) * sz)).length = l * sz + (ss.take ((nv - l) * sz)).length := by
          rw [List.length_append, List.length_take, Nat.min_eq_left (by rw [Array.length_toList, hcs]; omega)]
        simp only [List.toList_toArray]
        rw [List.take_append, e4, List.take_of_length_le (by rw [e4]; omega)]
end
end Vc
