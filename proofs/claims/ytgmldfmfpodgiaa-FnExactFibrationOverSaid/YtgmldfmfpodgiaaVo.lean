/- Rows: a number of zero values put behind a row of the call's own. -/
import Derived.Test.YtgmldfmfpodgiaaVn
import Derived.Lib.AppendZeros
import Derived.Lib.AppendZerosOnto
import Derived.Maps.AppendAt
set_option linter.unusedVariables false
set_option linter.unusedSimpArgs false
namespace Vc
open Go Go.RowKit
theorem zero_one (zc : Value) (m : Nat) : Builtin.zeroCells #[zc] m = (List.replicate m zc).toArray := by
  unfold Builtin.zeroCells
  apply Array.ext
  · simp
  · intro i h1 h2
    simp [Nat.mod_one]
theorem run_append_own_zeros {P : Program} {w : World} (t tn ty e : TypeId) (i : TypeInfo) (z zc : Value) (kq kn : IntKind) (ht : P.underlying t = some (.slice e)) (htn : P.underlying tn = some (.int kn)) (hi : P.info? e = some i) (hz : i.zero = some z) (hzc : z.cells = #[zc]) (h1 : zc.oneCell' = true)
    (bytes : Nat) (hsize : i.size = 1) (hby : i.bytes = bytes) (v : Value) (n : Nat) (xs : List Value) (hown : w.ownsRow 0 e 1 v n xs) (m : Nat) (h63 : n + m ≤ maxLen) (hbytes : (n + m) * bytes ≤ 140737488355328) :
    ∃ v' w', (Builtin.append_ #[t, tn] ty #[v, .int kq m]).run P w = .ok v' w' ∧ w'.ownsRow 0 e 1 v' (n + m) (xs ++ List.replicate m zc) ∧ w.grownBy w' v.ownBlock ∧ (v'.ownBlock = v.ownBlock ∨ v'.ownBlock = some w.heap.size) := by
  subst hby
  have hsmall : n + m ≤ 9223372036854775807 := by simp only [maxLen] at h63; omega
  have hlen : (xs ++ List.replicate m zc).length = (n + m) * 1 := by rw [List.length_append, hown.1, List.length_replicate]; omega
  have hmb : m * i.bytes ≤ 140737488355328 := Nat.le_trans (Nat.mul_le_mul_right _ (Nat.le_add_left _ _)) hbytes
  have grown : ∀ (old : Nat), old < n + m → ∀ (row : Option Nat),
      (w.drew.alloc (.cells (xs.toArray ++ Builtin.zeroCells z.cells m ++ Builtin.zeroCells z.cells (grownCap w (n + m) old e - (n + m))) e)).ownsRow 0 e 1
        (.slice (some ⟨w.heap.size, 0, none⟩) (n + m) (grownCap w (n + m) old e)) (n + m) (xs ++ List.replicate m zc) ∧
      w.grownBy (w.drew.alloc (.cells (xs.toArray ++ Builtin.zeroCells z.cells m ++ Builtin.zeroCells z.cells (grownCap w (n + m) old e - (n + m))) e)) row := by
    intro old ho row
    have hge := grownCap_ge w (n + m) old e
    have hcm : grownCap w (n + m) old e ≤ maxLen := grownCap_le_maxLen w (n + m) old e h63
    have hx := hown.1
    refine ⟨⟨hlen, .inr ⟨w.heap.size, _, _, rfl, Nat.zero_le _, heap_alloc_new w.drew _, hge, hcm, ?_, ?_⟩⟩, ⟨rfl, rfl, rfl, by simp, fun k hk _ => heap_alloc_old w.drew _ hk⟩⟩
    · rw [hzc, zero_one, zero_one]
      simp only [Array.size_append, List.size_toArray, List.length_replicate]
      omega
    · rw [hzc, zero_one, zero_one]
      simp only [Array.toList_append, List.append_assoc]
      rw [← List.append_assoc, ← hlen]
      exact List.take_left
  have hw : IntKind.i64.wrap (m : Int) = m := by rw [IntKind.wrap_i64]; omega
  have h48i : ¬ (281474976710656 < (m : Int) * (i.bytes : Int)) := by rw [← Int.natCast_mul]; omega
  have hneg : ¬ ((m : Int) < 0) := by omega
  rcases hown.2 with ⟨rfl, rfl⟩ | ⟨g, cap, cur, rfl, hbg, hg, hnc, hcm, hcs, htake⟩
  · have hx : xs = [] := List.eq_nil_of_length_eq_zero (by simpa using hown.1)
    subst hx
    by_cases hm : m = 0
    · subst hm
      refine ⟨.slice none 0 0, w, ?_, World.ownsRow_nil w 0 e 1, ⟨rfl, rfl, rfl, Nat.le_refl _, fun _ _ _ => rfl⟩, Or.inl rfl⟩
      simp [Builtin.append_, run_underlying ht, run_underlying htn, Go.sizeOf, typeInfo, hi, asInt, asIntOf, IntKind.wrap_i64]
    · have hr := Lib.run_append_nil_zeros (P := P) w t tn ty e i z kq kn ht htn hi hz m (by omega) (by omega) (by omega) (by omega)
      have hgr := grown 0 (by omega) (Value.ownBlock (.slice none 0 0))
      simp only [Nat.zero_add, List.nil_append, Array.empty_append] at hgr ⊢
      exact ⟨_, _, hr, hgr.1, hgr.2, Or.inr rfl⟩
  · by_cases hroom : n + m ≤ cap
    · have hfit : n * 1 + (List.replicate m zc).length ≤ cur.size := by rw [hcs, List.length_replicate]; omega
      have hst := run_storeCells_at P g (n * 1) e (List.replicate m zc) 0 cur w hg (by simpa using hfit) (fun u hu => by rw [(List.mem_replicate.1 hu).2]; exact h1)
      simp only [Nat.add_zero] at hst
      have hr : (Builtin.append_ #[t, tn] ty #[.slice (some ⟨g, 0, none⟩) n cap, .int kq m]).run P w = .ok (.slice (some ⟨g, 0, none⟩) (n + m) cap) (w.setRow g (cur.toList.take (n * 1) ++ List.replicate m zc ++ cur.toList.drop (n * 1 + (List.replicate m zc).length)).toArray) := by
        by_cases hm : m = 0
        · subst hm
          simp only [List.replicate_zero] at hst
          simp [Builtin.append_, run_underlying ht, run_underlying htn, Go.sizeOf, typeInfo, hi, hsize, asInt, asIntOf, IntKind.wrap_i64, hnc, Addr.add_lit] at hst ⊢
          rw [hst]
          rfl
        · have hns : ¬ (m * 1 = 0) := by omega
          simp [Builtin.append_, run_underlying ht, run_underlying htn, Go.sizeOf, typeInfo, zeroValue, hi, hz, hsize, hzc, zero_one, asInt, asIntOf, hw, hneg, h48i, hm, hroom, Addr.add_lit] at hst ⊢
          rw [hst]
          rfl
      refine ⟨_, _, hr, ⟨hlen, .inr ⟨g, cap, _, rfl, hbg, setRow_heap w g cur _ e _ hg, hroom, hcm, ?_, ?_⟩⟩, ⟨rfl, rfl, rfl, by simp, fun k _ hk => setRow_other w g k _ (fun e => hk (by simp [Value.ownBlock, e]))⟩, Or.inl rfl⟩
      · simp only [List.size_toArray, List.length_append, List.length_take, List.length_drop, Array.length_toList, List.length_replicate]
        omega
      · rw [htake, ← hlen]
        exact List.take_left
    · have holds : ∀ j u, xs[j]? = some u → w.cell? ((⟨g, 0, none⟩ : Addr).add j) = some u := hown.cells (g := g) rfl
      have hold : (Builtin.firstCells i.size n (.slice (some ⟨g, 0, none⟩) n cap)).run P w.drew = .ok xs.toArray w.drew := run_firstCells_some (P := P) w.drew i.size n ⟨g, 0, none⟩ n cap xs (by rw [hown.1, hsize]) holds
      have hr := Lib.run_append_grow_zeros (P := P) w t tn ty e i z kq kn ht htn hi hz (some ⟨g, 0, none⟩) n cap xs hold m (by omega) (by omega) (by omega) (by omega) (by omega) (growslice_fits (by omega) hbytes)
      have hgr := grown cap (by omega) (Value.ownBlock (.slice (some ⟨g, 0, none⟩) n cap))
      exact ⟨_, _, hr, hgr.1, hgr.2, Or.inr rfl⟩
section
variable {P : Program} {ops : Array Oper} {Q : Exit → Act → World → Prop} {n : Nat} {e : Env} {w w' : World} {rest : List Oper}
variable {X : Nat → Prop} {w0 : World} {M Ps : List Item}
variable {d ty : Nat} {pos : String} {af : Array Edge}
theorem s_appZ0 (hC : Ctx X w0 w M Ps) (k : Nat) {t tn el bytes nv m : Nat} {kq kn : IntKind} {z zc : Value} {x y : Operand} {v : Value} {cs : List Value} (ht : P.underlying t = some (.slice el)) (htn : P.underlying tn = some (.int kn)) (hE : ElemT P el z 1 bytes) (hzc : z.cells = #[zc]) (h1 : zc.oneCell' = true) (hby : 0 < bytes)
    (hk : M[k]? = some (own el 1 v nv cs)) (hx : ev n e x = v) (hy : ev n e y = .int kq m) (hb : (nv + m) * bytes ≤ 140737488355328)
    (h : ∀ v' w', Ctx X w0 w' (M.set k (own el 1 v' (nv + m) (cs ++ List.replicate m zc))) Ps → W P ops Q rest n (upd e d v') w') :
    W P ops Q (⟨some d, .call { callee := .builtin .append, args := #[x, y], argTypes := #[t, tn] }, ty, pos, af, none⟩ :: rest) n e w := by
  obtain ⟨i0, hi, hzz⟩ := Option.map_eq_some_iff.1 hE
  simp only [Prod.mk.injEq] at hzz
  have HO : w.ownsRow 0 el 1 v nv cs := hC.getM k hk
  have hlen : nv + m ≤ 140737488355328 := Nat.le_trans (Nat.le_mul_of_pos_right _ hby) hb
  obtain ⟨v1, w1, hr, hown, hg, hat⟩ := run_append_own_zeros (P := P) t tn ty el i0 z zc kq kn ht htn hi hzz.1 hzc h1 bytes hzz.2.1 hzz.2.2 v nv cs HO m (by unfold maxLen; omega) hb
  refine stepV v1 rfl rfl ?_ (h v1 w1 (hC.turn k hk hg.os hg.tape hg.output hg.size (run_drawn _ _ _ _ hr) (fun b hb' hnb => hg.block b hb' ?_) hown ?_))
  · simp only [execOp, resolve, invoke, builtin, Sem.run_bind, Sem.run_pure, Result.andThen_ok, List.map_toArray, List.map_cons, List.map_nil, hx, hy, hr]
  · intro e
    exact hnb (by simp [own, ← e])
  · intro b hbm
    simp only [own] at hbm ⊢
    rcases hat with hat | hat
    · rw [hat] at hbm; exact .inl hbm
    · rw [hat] at hbm
      have : b = w.heap.size := by simpa using hbm
      omega
end
section
variable {X : Nat → Prop} {w0 w w' : World} {M Ps : List Item}
end
theorem run_eqnil {P : Program} {w : World} {t el : Nat} {A : Option Addr} {m c : Nat} (ht : P.underlying t = some (.slice el)) : (Op.equal t (.slice A m c) (.slice none 0 0)).run P w = .ok A.isNone w := by
  unfold Op.equal Op.maxDepth
  rw [show (10000 : Nat) = 9999 + 1 from rfl]
  unfold Op.equalIn
  cases A <;> simp [run_underlying ht]
section
variable {P : Program} {ops : Array Oper} {Q : Exit → Act → World → Prop} {n : Nat} {e : Env} {w w' : World} {rest : List Oper}
variable {d ty : Nat} {pos : String} {af : Array Edge}
theorem r_eqnil {t t' el : Nat} {x y : Operand} {A : Option Addr} {m c : Nat} {b : Bool} {gd : Option (Nat × Bool)} (ht : P.underlying t = some (.slice el)) (hx : ev n e x = .slice A m c) (hy : ev n e y = .slice none 0 0) (hb : A.isNone = b) :
    (execOp (ev n e) ⟨some d, .binOp .eql t x y t', ty, pos, af, gd⟩).run P w = .ok (.value (.bool b)) w := by
  subst hb
  have hq : (eqGuard .eql t x y (.slice A m c) (.slice none 0 0)).run P w = .ok () w := by unfold eqGuard; simp
  have hr : (binOp .eql t (.slice A m c) (.slice none 0 0)).run P w = .ok (.bool A.isNone) w := by
    simp [binOp, run_eqnil ht]
  simp only [execOp, hx, hy, Sem.run_bind, hq, Result.andThen_ok, hr, Sem.run_pure]
theorem s_eqnil {t t' el : Nat} {x y : Operand} {A : Option Addr} {m c : Nat} (b : Bool) (ht : P.underlying t = some (.slice el)) (hx : ev n e x = .slice A m c) (hy : ev n e y = .slice none 0 0) (hb : A.isNone = b)
    (h : W P ops Q rest n (upd e d (.bool b)) w) : W P ops Q (⟨some d, .binOp .eql t x y t', ty, pos, af, none⟩ :: rest) n e w :=
  stepV _ rfl rfl (r_eqnil ht hx hy hb) h
end
theorem nil_or {α : Type} {t : Ty α} {xs : List α} {v : Value} {fp : List Nat} {w : World} (h : t.sl.rep xs [v] fp w) : (∃ m c, v = .slice none m c ∧ xs = []) ∨ ∃ A m c, v = .slice (some A) m c := by
  obtain ⟨v', ecs, e, ⟨a0, a1, a2, A, c, rfl, a3⟩, h2⟩ := h
  obtain rfl : v = _ := by simpa using e
  cases A with
  | none =>
    refine .inl ⟨_, _, rfl, ?_⟩
    rcases Nat.eq_zero_or_pos xs.length with h0 | h0
    · exact List.eq_nil_of_length_eq_zero h0
    · obtain ⟨a, ha, _⟩ := a3 h0
      cases ha
  | some A => exact .inr ⟨A, _, _, rfl⟩
end Vc
