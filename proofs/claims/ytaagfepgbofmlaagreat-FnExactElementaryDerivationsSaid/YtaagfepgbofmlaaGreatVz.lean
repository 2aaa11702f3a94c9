/- Calls walked in the caller's own state; maps of pointers; rows of truths; max. -/
import Derived.Test.YtaagfepgbofmlaaGreatVy
set_option linter.unusedVariables false
set_option linter.unusedSimpArgs false
namespace Vc
open Go Go.RowKit
structure Elem where
  gen : Int
  mono : A8
  deriving DecidableEq, Inhabited
def Elem.enc (t : Elem) : List Value := .int .i64 t.gen :: A8.enc .i64 t.mono
def EElem : Enc Elem := ⟨9, by decide, Elem.enc, fun _ => rfl, fun x u hu => by
  rcases List.mem_cons.1 hu with rfl | hu
  · rfl
  · exact (EA .i64).one _ u hu⟩
section
variable {P : Program} {k : Nat} {ik : IntKind}
end
section
variable {P : Program} {ops : Array Oper} {Q : Exit → Act → World → Prop} {n : Nat} {e : Env} {w w' : World} {rest : List Oper}
variable {X : Nat → Prop} {w0 : World} {M Ps : List Item}
variable {d ty : Nat} {pos : String} {af : Array Edge}
theorem r_max {t t' : Nat} {x y : Operand} {k : IntKind} {a b : Int} {gd : Option (Nat × Bool)} (hx : ev n e x = .int k a) (hy : ev n e y = .int k b) :
    (execOp (ev n e) ⟨some d, .call { callee := .builtin .max, args := #[x, y], argTypes := #[t, t'] }, ty, pos, af, gd⟩).run P w = .ok (.value (.int k (if a < b then b else a))) w := by
  simp [execOp, resolve, invoke, builtin, hx, hy, Builtin.max_, Builtin.max2, Sem.run_bind]
theorem s_max {t t' : Nat} {x y : Operand} {k : IntKind} {a b : Int} (hx : ev n e x = .int k a) (hy : ev n e y = .int k b)
    (h : W P ops Q rest n (upd e d (.int k (if a < b then b else a))) w) : W P ops Q (⟨some d, .call { callee := .builtin .max, args := #[x, y], argTypes := #[t, t'] }, ty, pos, af, none⟩ :: rest) n e w :=
  stepV _ rfl rfl (r_max hx hy) h
/-- A call that is walked where it stands: the callee's code in the caller's world, then the rest. -/
theorem s_inline {f : FuncId} {l : List Operand} {fn : Func} {c : Code} {at_ : Array Nat} (vs : List Value) (hf : P.funcs[f]? = some fn) (hb : fn.body = some c) (hne : (fn.name == "runtime.NumGoroutine") = false) (m : Nat) (hm : fn.ntmps = m) (hl : vs.length ≤ m)
    (hp : l.map (ev n e) = vs) (h : c.wp P (bodyPost P fn (fun ret w'' => ∃ v, ret = .returned v ∧ W P ops Q rest n (upd e d v) w'')) (actOf m (argEnv vs)) w) :
    W P ops Q (⟨some d, .call { callee := .value (.func f), args := l.toArray, argTypes := at_ }, ty, pos, af, none⟩ :: rest) n e w :=
  s_call vs _ hf (by rw [hb]; rfl) hne hp (calls_of hf hb m hm hl h) (fun ret w'' h => h)
end
/-! ### Rows of derivations that are written -/
theorem trees_drop {e f : Nat} {xs : List Der} {cs : List Value} {fps : List (List Nat)} {w : World} {i : Nat} {d' : Int} (h : (TrDer e f).trees xs cs fps w) (hi : i < xs.length) :
    (TrDer e f).trees (xs.set i ⟨d', (xs.getD i default).images⟩) (splice cs (i * 2) [.int .i64 d']) fps w := by
  have hsz : (TrDer e f).ty.sz = 2 := rfl
  obtain ⟨h1, h2, h3⟩ := h
  rw [hsz] at h1 h3
  have hle : i * 2 + ([.int .i64 d'] : List Value).length ≤ cs.length := by rw [h1]; simp; omega
  have hseg : ∀ j k : Nat, (((splice cs (i * 2) [.int .i64 d']).drop (j * 2)).take 2)[k]? = if j = i ∧ k = 0 then some (.int .i64 d') else ((cs.drop (j * 2)).take 2)[k]? := by
    intro j k
    rw [List.getElem?_take, List.getElem?_take]
    by_cases hk : k < 2
    · rw [if_pos hk, if_pos hk, List.getElem?_drop, List.getElem?_drop, splice_get hle]
      simp only [List.length_singleton]
      by_cases a : j * 2 + k < i * 2
      · rw [if_pos a, if_neg (by omega)]
      · rw [if_neg a]
        by_cases b : j * 2 + k < i * 2 + 1
        · have hj : j = i := by omega
          have hk0 : k = 0 := by omega
          subst hj; subst hk0
          rw [if_pos b, if_pos ⟨rfl, rfl⟩]; simp
        · rw [if_neg b, if_neg (by omega)]
    · rw [if_neg hk, if_neg hk, if_neg (by omega)]
  refine ⟨by rw [splice_len hle, h1, List.length_set, hsz], by rw [List.length_set, h2], fun j hj => ?_⟩
  have hj' : j < xs.length := by simpa using hj
  rw [hsz, List.getElem_set]
  have old := h3 j hj'
  by_cases e1 : i = j
  · subst e1
    rw [if_pos rfl]
    obtain ⟨c1, c2, f1, f2, hcs, hf, q1, q2⟩ := old
    obtain ⟨rfl, rfl⟩ := q1
    have hx : (xs.getD i default) = xs[i] := by simp [List.getD, hi]
    have e2 : ((splice cs (i * 2) [.int .i64 d']).drop (i * 2)).take 2 = [.int .i64 d'] ++ c2 := by
      refine List.ext_getElem? fun k => ?_
      rw [hseg]
      match k with
      | 0 => rw [if_pos ⟨rfl, rfl⟩]; rfl
      | k + 1 => rw [if_neg (by omega), hcs]; rfl
    rw [e2, hx]
    exact ⟨[.int .i64 d'], c2, [], f2, rfl, hf, ⟨rfl, rfl⟩, q2⟩
  · rw [if_neg e1]
    have e2 : ((splice cs (i * 2) [.int .i64 d']).drop (j * 2)).take 2 = (cs.drop (j * 2)).take 2 := List.ext_getElem? fun k => by rw [hseg, if_neg (fun z => e1 z.1.symm)]
    rw [e2]; exact old
section
variable {P : Program} {ops : Array Oper} {Q : Exit → Act → World → Prop} {n : Nat} {e : Env} {w w' : World} {rest : List Oper}
variable {X : Nat → Prop} {w0 : World} {M Ps : List Item}
variable {d ty : Nat} {pos : String} {af : Array Edge}
theorem s_storeDrop {el a f ty' i g cap j : Nat} {x y : Operand} {v : Value} {xs : List Der} {d' : Int} {f1 : List Nat} (hC : Ctx X w0 w ((Tr.sl el (TrDer a f)).item xs [v] f1 :: M) Ps)
    (hi : i < xs.length) (hv : v = .slice (some ⟨g, 0, none⟩) xs.length cap) (hT : SizeT P ty' 1) (hx : ev n e x = .pointer (some ⟨g, j, none⟩)) (hj : j = i * 2) (hy : ev n e y = .int .i64 d')
    (h : ∀ w', Ctx X w0 w' ((Tr.sl el (TrDer a f)).item (xs.set i ⟨d', (xs.getD i default).images⟩) [v] f1 :: M) Ps → W P ops Q rest n e w') :
    W P ops Q (⟨none, .store ty' x y, ty, pos, af, none⟩ :: rest) n e w := by
  obtain ⟨ecs, fps, a1, a2, rfl, a4⟩ := tr_split (hC.getM 0 rfl)
  have h1 := hC.split (a := own el (TrDer a f).ty.sz v xs.length ecs) (b := forest (TrDer a f) xs ecs fps) (fun b hb => List.mem_append_left _ hb) (fun b hb => List.mem_append_right _ hb) ⟨a1, a2, a4⟩
  have hle : j + 1 ≤ ecs.length := by rw [hj, a2.1.1, show (TrDer a f).ty.sz = 2 from rfl]; omega
  refine s_storeO (v := .int .i64 d') h1 0 [.int .i64 d'] (splice ecs j [.int .i64 d']) rfl hv hT hx hy rfl rfl rfl hle rfl fun w1 hC1 => ?_
  have h2 := hC1.perm (M' := forest (TrDer a f) xs ecs fps :: own el (TrDer a f).ty.sz v xs.length (splice ecs j [.int .i64 d']) :: M) (List.Perm.swap _ _ _)
  have h3 := h2.recast (c := forest (TrDer a f) (xs.set i ⟨d', (xs.getD i default).images⟩) (splice ecs j [.int .i64 d']) fps) (fun b hb => hb) (fun p => ⟨by rw [hj]; exact trees_drop p.1 hi, p.2⟩)
  have h4 := h3.perm (M' := own el (TrDer a f).ty.sz v xs.length (splice ecs j [.int .i64 d']) :: forest (TrDer a f) (xs.set i ⟨d', (xs.getD i default).images⟩) (splice ecs j [.int .i64 d']) fps :: M) (List.Perm.swap _ _ _)
  exact h w1 (h4.gather (c := (Tr.sl el (TrDer a f)).item (xs.set i ⟨d', (xs.getD i default).images⟩) [v] (v.ownBlock.toList ++ fps.flatten)) (fun b hb => List.mem_append.1 hb) (fun p q r => forest_up (by rw [List.length_set]; exact p) q r))
end
theorem der_focus {el a f i g cap : Nat} {xs : List Der} {v : Value} {fp : List Nat} {w : World} (h : ((Tr.sl el (TrDer a f)).item xs [v] fp).holds w) (hi : i < xs.length) (hv : v = .slice (some ⟨g, 0, none⟩) xs.length cap) :
    ∃ u f2, cellsAt w ⟨g, i * 2 + 1, none⟩ [u] ∧ ((Tr.sl f (TrForm a)).item (xs.getD i default).images [u] f2).holds w ∧ (∀ b, b ∈ f2 → b ∈ fp) ∧
      ∀ (im : List Form) (w' : World), ((Tr.sl f (TrForm a)).item im [u] f2).holds w' → BelO f2 w w' → ((Tr.sl el (TrDer a f)).item (xs.set i ⟨(xs.getD i default).drop, im⟩) [v] fp).holds w' := by
  obtain ⟨cs, f2, ⟨g', cap', e1, hc⟩, hit, hsub, hout⟩ := tr_focus h i hi
  rw [hv] at e1
  injection e1 with e1 _ _
  injection e1 with e1
  injection e1 with e1 _ _
  subst e1
  have hx : (xs.getD i default) = xs[i] := by simp [List.getD, hi]
  rw [hx]
  have hl : cs.length = 2 := (TrDer a f).ty.len ((TrDer a f).trep hit.1)
  obtain ⟨p, u, rfl⟩ : ∃ p u, cs = [p, u] := by
    match cs, hl with
    | [p, u], _ => exact ⟨p, u, rfl⟩
  obtain ⟨rfl, h2⟩ := der_split hit
  refine ⟨u, f2, ?_, h2, hsub, fun im w' q hB => hout ⟨xs[i].drop, im⟩ w' (der_join q).1 hB⟩
  intro j y hj
  match j with
  | 0 =>
    have := hc 1 y (by simpa using hj)
    rw [Addr.add_lit] at this ⊢
    exact this
  | j + 1 => simp at hj
end Vc
