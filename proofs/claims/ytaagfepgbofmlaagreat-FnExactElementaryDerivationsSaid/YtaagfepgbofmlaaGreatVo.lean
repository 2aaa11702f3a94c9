/- Rows: a number of zero values put behind a row of the call's own. -/
import Derived.Test.YtaagfepgbofmlaaGreatVn
import Derived.Lib.AppendZeros
import Derived.Lib.AppendZerosOnto
import Derived.Maps.AppendAt
set_option linter.unusedVariables false
set_option linter.unusedSimpArgs false
namespace Vc
open Go Go.RowKit
section
variable {P : Program} {ops : Array Oper} {Q : Exit → Act → World → Prop} {n : Nat} {e : Env} {w w' : World} {rest : List Oper}
variable {X : Nat → Prop} {w0 : World} {M Ps : List Item}
variable {d ty : Nat} {pos : String} {af : Array Edge}
theorem r_min {t t' : Nat} {x y : Operand} {k : IntKind} {a b : Int} {gd : Option (Nat × Bool)} (hx : ev n e x = .int k a) (hy : ev n e y = .int k b) :
    (execOp (ev n e) ⟨some d, .call { callee := .builtin .min, args := #[x, y], argTypes := #[t, t'] }, ty, pos, af, gd⟩).run P w = .ok (.value (.int k (if b < a then b else a))) w := by
  simp [execOp, resolve, invoke, builtin, hx, hy, Builtin.min_, Builtin.min2, Sem.run_bind]
theorem s_min {t t' : Nat} {x y : Operand} {k : IntKind} {a b : Int} (hx : ev n e x = .int k a) (hy : ev n e y = .int k b)
    (h : W P ops Q rest n (upd e d (.int k (if b < a then b else a))) w) : W P ops Q (⟨some d, .call { callee := .builtin .min, args := #[x, y], argTypes := #[t, t'] }, ty, pos, af, none⟩ :: rest) n e w :=
  stepV _ rfl rfl (r_min hx hy) h
end
section
variable {X : Nat → Prop} {w0 w w' : World} {M Ps : List Item}
/-- A row that was handed over comes back. -/
theorem Ctx.turnO {el sz n m : Nat} {v z : Value} {cs ds : List Value} (hC : Ctx X w0 w M Ps) (k : Nat) (hk : M[k]? = some (own el sz v n cs)) (hB : BelO v.ownBlock.toList w w') (ho : (own el sz z m ds).holds w') (hf : ∀ b, b ∈ z.ownBlock.toList → b ∈ v.ownBlock.toList ∨ w.heap.size ≤ b) :
    Ctx X w0 w' (M.set k (own el sz z m ds)) Ps :=
  hC.turn k hk hB.os hB.tape hB.output hB.size hB.drawn (fun b hb hn => hB.old b hb hn) ho hf
/-- A struct behind a pointer and its row come back. -/
theorem Ctx.turnS {b t el sz n m : Nat} {v z : Value} {qs bs cs ds : List Value} (hC : Ctx X w0 w (blk b t qs :: own el sz v n cs :: M) Ps) (hB : BelO (b :: v.ownBlock.toList) w w') (g1 : (blk b t bs).holds w') (g2 : (own el sz z m ds).holds w') (hf : ∀ x, x ∈ z.ownBlock.toList → x ∈ v.ownBlock.toList ∨ w.heap.size ≤ x) :
    Ctx X w0 w' (blk b t bs :: own el sz z m ds :: M) Ps := by
  have hb0 := hC.m (blk b t qs) (by simp)
  have ho0 := hC.m (own el sz v n cs) (by simp)
  have hd := hC.dis
  obtain ⟨d1, d2⟩ := List.pairwise_cons.1 hd
  obtain ⟨d3, d4⟩ := List.pairwise_cons.1 d2
  have hX1 := hC.mfp (blk b t qs) (by simp)
  have hX2 := hC.mfp (own el sz v n cs) (by simp)
  have hbs : b < w.heap.size := Item.low _ w hb0 b (List.mem_singleton_self _)
  have hnot : ∀ j, j ∈ M → ∀ x, x ∈ j.fp → x ∉ b :: v.ownBlock.toList := fun j hj x hx hx' => by
    rcases List.mem_cons.1 hx' with rfl | hx'
    · exact d1 j (by simp [hj]) x (List.mem_singleton_self _) hx
    · exact d3 j hj x hx' hx
  exact {
    os := hB.os.trans hC.os
    tape := hB.tape.trans hC.tape
    output := hB.output.trans hC.output
    size := Nat.le_trans hC.size hB.size
    drawn := Nat.le_trans hC.drawn hB.drawn
    old := fun c hc hx => by
      rw [hB.old c (Nat.lt_of_lt_of_le hc hC.size) (fun q => ?_)]
      · exact hC.old c hc hx
      · rcases List.mem_cons.1 q with rfl | q
        · rcases hX1 c (List.mem_singleton_self _) with r | r
          · omega
          · exact hx r
        · rcases hX2 c q with r | r
          · omega
          · exact hx r
    m := fun j hj => by
      rcases List.mem_cons.1 hj with rfl | hj
      · exact g1
      · rcases List.mem_cons.1 hj with rfl | hj
        · exact g2
        · exact Item.keep _ w w' (fun x hx => hB.old x (Item.low _ w (hC.m j (by simp [hj])) x hx) (hnot j hj x hx)) (hC.m j (by simp [hj]))
    p := fun j hj => Item.keep _ w w' (fun x hx => hB.old x (Item.low _ w (hC.p j hj) x hx) (fun q => by
      rcases List.mem_cons.1 q with rfl | q
      · exact hC.pd j hj x hx (blk x t qs) (by simp) (List.mem_singleton_self _)
      · exact hC.pd j hj x hx (own el sz v n cs) (by simp) q)) (hC.p j hj)
    mfp := fun j hj x hx => by
      rcases List.mem_cons.1 hj with rfl | hj
      · exact hX1 x hx
      · rcases List.mem_cons.1 hj with rfl | hj
        · rcases hf x hx with r | r
          · exact hX2 x r
          · exact .inl (Nat.le_trans hC.size r)
        · exact hC.mfp j (by simp [hj]) x hx
    dis := by
      refine List.pairwise_cons.2 ⟨fun j hj x hx hxj => ?_, List.pairwise_cons.2 ⟨fun j hj x hx hxj => ?_, d4⟩⟩
      · obtain rfl : x = b := List.mem_singleton.1 hx
        rcases List.mem_cons.1 hj with rfl | hj
        · rcases hf x hxj with r | r
          · exact d1 (own el sz v n cs) (by simp) x (List.mem_singleton_self _) r
          · omega
        · exact d1 j (by simp [hj]) x (List.mem_singleton_self _) hxj
      · rcases hf x hx with r | r
        · exact d3 j hj x r hxj
        · have := Item.low _ w (hC.m j (by simp [hj])) x hxj
          omega
    pd := fun j hj x hx q hq hxq => by
      rcases List.mem_cons.1 hq with rfl | hq
      · exact hC.pd j hj x hx (blk b t qs) (by simp) hxq
      · rcases List.mem_cons.1 hq with rfl | hq
        · rcases hf x hxq with r | r
          · exact hC.pd j hj x hx (own el sz v n cs) (by simp) r
          · have := Item.low _ w (hC.p j hj) x hx
            omega
        · exact hC.pd j hj x hx q (by simp [hq]) hxq }
end
section
variable {P : Program} {ops : Array Oper} {Q : Exit → Act → World → Prop} {n : Nat} {e : Env} {w w' : World} {rest : List Oper}
variable {d ty : Nat} {pos : String} {af : Array Edge}
end
/-! ### Derivations of the call's own -/
def TrDer (e f : Nat) : Tr Der := .iso (fun a => (a.drop, a.images)) (.pair (EI .i64).tr (Tr.sl f (TrForm e)))
theorem der_split {e f : Nat} {x : Der} {p q : Value} {fp : List Nat} {w : World} (h : ((TrDer e f).item x [p, q] fp).holds w) : p = .int .i64 x.drop ∧ ((Tr.sl f (TrForm e)).item x.images [q] fp).holds w := by
  obtain ⟨⟨c1, c2, f1, f2, hcs, rfl, h1, h2⟩, hn⟩ := h
  obtain ⟨rfl, rfl⟩ := h1
  obtain ⟨rfl, rfl⟩ : p = .int .i64 x.drop ∧ c2 = [q] := by
    have hcs' : [p, q] = .int .i64 x.drop :: c2 := hcs
    simp only [List.cons.injEq] at hcs'
    exact ⟨hcs'.1, hcs'.2.symm⟩
  exact ⟨rfl, h2, hn⟩
theorem der_join {e f : Nat} {d : Int} {b : List Form} {u : Value} {f2 : List Nat} {w : World} (h2 : ((Tr.sl f (TrForm e)).item b [u] f2).holds w) : ((TrDer e f).item ⟨d, b⟩ [.int .i64 d, u] f2).holds w :=
  ⟨⟨[.int .i64 d], [u], [], f2, rfl, rfl, ⟨rfl, rfl⟩, h2.1⟩, h2.2⟩
end Vc
