/- Returns; loops. -/
import Derived.Test.YtaagfepgbofmlaaGreatVc4
set_option linter.unusedVariables false
set_option linter.unusedSimpArgs false
namespace Vc
open Go Go.RowKit
def resV (P : Program) (n : Nat) (e : Env) (w : World) : ResultVar → Value → Prop
  | .tmp t, v => ev n e (.tmp t) = v
  | .cell t ty, v => ∃ a, ev n e (.tmp t) = .pointer (some a) ∧ (loadVar ty a).run P w = .ok v w
section
variable {P : Program} {n : Nat} {e : Env} {w : World} {fn : Func} {R : Ending → World → Prop}
theorem getD_actOf (t : Nat) : (actOf n e).tmps.getD t undef = ev n e (.tmp t) := by
  have := congrFun (eval_actOf n e) (.tmp t)
  exact this
def resG (tmps : Array Value) : ResultVar → Sem Value := fun
  | .tmp t => pure (tmps.getD t undef)
  | .cell a t => do loadVar t (← asAddr (tmps.getD a undef))
theorem results_eq (tmps : Array Value) : results fn tmps = (do
  let vs ← fn.results.mapM (resG tmps)
  pure (if h : vs.size = 1 then vs[0] else .tuple vs)) := by
  unfold results
  congr 1
theorem resV_run {r : ResultVar} {v : Value} (h : resV P n e w r v) : (resG (actOf n e).tmps r).run P w = .ok v w := by
  cases r with
  | tmp t => simp only [resG, getD_actOf]; rw [show ev n e (.tmp t) = v from h]; rfl
  | cell t ty =>
    obtain ⟨a, h1, h2⟩ := h
    simp only [resG, getD_actOf, h1, asAddr, Sem.run_bind, Sem.run_pure, Result.andThen_ok, h2]
theorem ret0 (hr : fn.results = #[]) (h : R (.returned (.tuple #[])) w) {x : Exit} (hx : x = .ret ∨ x = .normal) : bodyPost P fn R x (actOf n e) w := by
  have : (results fn (actOf n e).tmps).run P w = .ok (.tuple #[]) w := by simp [results, hr]
  rcases hx with rfl | rfl <;> exact ⟨rfl, _, this, h⟩
theorem ret1 {r : ResultVar} {v : Value} (hr : fn.results = #[r]) (h1 : resV P n e w r v) (h : R (.returned v) w) {x : Exit} (hx : x = .ret ∨ x = .normal) : bodyPost P fn R x (actOf n e) w := by
  have : (results fn (actOf n e).tmps).run P w = .ok v w := by
    have := resV_run h1
    rw [results_eq, hr]
    simp only [List.mapM_toArray, List.mapM_cons, List.mapM_nil, Sem.run_bind, Sem.run_map, resV_run h1, Result.andThen_ok, Sem.run_pure]
    rfl
  rcases hx with rfl | rfl <;> exact ⟨rfl, _, this, h⟩
theorem ret2 {r s : ResultVar} {v u : Value} (hr : fn.results = #[r, s]) (h1 : resV P n e w r v) (h2 : resV P n e w s u) (h : R (.returned (.tuple #[v, u])) w) {x : Exit} (hx : x = .ret ∨ x = .normal) :
    bodyPost P fn R x (actOf n e) w := by
  have : (results fn (actOf n e).tmps).run P w = .ok (.tuple #[v, u]) w := by
    rw [results_eq, hr]
    simp only [List.mapM_toArray, List.mapM_cons, List.mapM_nil, Sem.run_bind, Sem.run_map, resV_run h1, resV_run h2, Result.andThen_ok, Sem.run_pure]
    rfl
  rcases hx with rfl | rfl <;> exact ⟨rfl, _, this, h⟩
theorem ret3 {r s t : ResultVar} {v u z : Value} (hr : fn.results = #[r, s, t]) (h1 : resV P n e w r v) (h2 : resV P n e w s u) (h3 : resV P n e w t z) (h : R (.returned (.tuple #[v, u, z])) w) {x : Exit} (hx : x = .ret ∨ x = .normal) :
    bodyPost P fn R x (actOf n e) w := by
  have : (results fn (actOf n e).tmps).run P w = .ok (.tuple #[v, u, z]) w := by
    rw [results_eq, hr]
    simp only [List.mapM_toArray, List.mapM_cons, List.mapM_nil, Sem.run_bind, Sem.run_map, resV_run h1, resV_run h2, resV_run h3, Result.andThen_ok, Sem.run_pure]
    rfl
  rcases hx with rfl | rfl <;> exact ⟨rfl, _, this, h⟩
theorem res_tmp {t : Nat} {v : Value} (h : ev n e (.tmp t) = v) : resV P n e w (.tmp t) v := h
section
variable {X : Nat → Prop} {w0 : World} {M Ps : List Item}
theorem res_cellA (hC : Ctx X w0 w M Ps) (k : Nat) {b ty t sz : Nat} {tt : Nat} {cs : List Value} (hk : M[k]? = some (blk b ty cs)) (hT : AggT P tt sz) (hx : ev n e (.tmp t) = .pointer (some ⟨b, 0, none⟩)) (hl : cs.length = sz) :
    resV P n e w (.cell t tt) (.agg cs.toArray) :=
  ⟨_, hx, run_loadVar_agg hT (cellsAt_blk (sz := cs.length) (hC.getM k hk) (by simp)) hl⟩
end
end
section
variable {P : Program} {c : Code} {Q : Exit → Act → World → Prop} {n : Nat} {e : Env} {w : World}
theorem exit_in {id : Nat} {a : Act} (h : Q .normal a w) : Exit.inBlock id Q (.exit id) a w := by simp [Exit.inBlock, h]
theorem then_exit {K : Act → World → Prop} {id : Nat} {a : Act} (h : Q (.exit id) a w) : Exit.then K Q (.exit id) a w := h
theorem then_ret {K : Act → World → Prop} {a : Act} (h : Q .ret a w) : Exit.then K Q .ret a w := h
theorem then_norm {K : Act → World → Prop} {a : Act} (h : K a w) : Exit.then K Q .normal a w := h
theorem blk_ret {id : Nat} {a : Act} (h : Q .ret a w) : Exit.inBlock id Q .ret a w := h
theorem blk_norm {id : Nat} {a : Act} (h : Q .normal a w) : Exit.inBlock id Q .normal a w := h
/-- So many rounds. -/
theorem loopN {S : Type} (B : Nat → S → (S → Prop) → Prop) (E : S → Prop) (I : Nat → S → Env → World → Prop) (N : Nat)
    (body : ∀ i s e w (next : S → Prop) (K : Act → World → Prop), i < N → I i s e w → B i s next → (∀ s' e' w', I (i + 1) s' e' w' → next s' → K (actOf n e') w') → c.wp P (Exit.then K Q) (actOf n e) w)
    (last : ∀ s e w (K : Act → World → Prop), I N s e w → E s → c.wp P (Exit.then K Q) (actOf n e) w)
    {s0 : S} (h0 : I 0 s0 e w) (hF : forN B E N 0 s0) : (Code.loop c).wp P Q (actOf n e) w := by
  have L : ∀ r i s e w, i + r = N → I i s e w → forN B E r i s → Code.rounds P c Q (r + 1) (actOf n e) w := by
    intro r
    induction r with
    | zero =>
      intro i s e w hi hI h
      obtain rfl : i = N := by omega
      exact last s e w _ hI h
    | succ r ih =>
      intro i s e w hi hI h
      exact body i s e w _ _ (by omega) hI h (fun s' e' w' hI' h' => ih (i + 1) s' e' w' (by omega) hI' h')
  exact wp_loop_rounds (N + 1) (L N 0 s0 e w (by omega) h0 hF)
/-- Rounds till one doesn't go on. -/
theorem loopW {S : Type} (B : S → (S → Prop) → Prop) (I : S → Env → World → Prop)
    (body : ∀ s e w (next : S → Prop) (K : Act → World → Prop), I s e w → B s next → (∀ s' e' w', I s' e' w' → next s' → K (actOf n e') w') → c.wp P (Exit.then K Q) (actOf n e) w)
    {s0 : S} (h0 : I s0 e w) (hF : whileP B s0) : (Code.loop c).wp P Q (actOf n e) w := by
  obtain ⟨k, hF⟩ := hF
  have L : ∀ k s e w, I s e w → whileK B k s → Code.rounds P c Q k (actOf n e) w := by
    intro k
    induction k with
    | zero => intro s e w hI h; exact h.elim
    | succ k ih =>
      intro s e w hI h
      exact body s e w _ _ hI h (fun s' e' w' hI' h' => ih s' e' w' hI' h')
  exact wp_loop_rounds k (L k s0 e w h0 hF)
end
end Vc
