/- The tape is never turned back. -/
import Derived.Calls
import Derived.WalkKit
set_option linter.unusedVariables false
set_option linter.unusedSimpArgs false
namespace Vc
open Go
theorem ask_drawn {α : Type} (q : Ask α) : ∀ w : World, w.drawn ≤ (w.ask q).2.drawn := by
  induction q with
  | done a => intro w; exact Nat.le_refl _
  | ask what range k ih =>
    intro w
    simp only [World.ask]
    split
    · exact ih _ _
    · exact Nat.le_trans (Nat.le_succ _) (ih _ { w with drawn := w.drawn + 1 })
theorem sys_drawn (w : World) (c : Sys) : w.drawn ≤ (w.sys c).2.drawn := by
  unfold World.sys
  have := ask_drawn (Kernel.perform c w.os) w
  split
  · exact Nat.le_refl _
  · rename_i r os w1 _ h
    rw [h] at this
    exact this
theorem far_drawn {P : Program} {w w1 : World} {a : Addr} {v : Value} {b : Bool} {l : List Addr} (h : w.farStore P a v b = .ok (w1, l)) : w1.drawn = w.drawn := by
  unfold World.farStore at h
  split at h
  · split at h
    · rename_i r hr
      injection h with h
      subst h
      unfold World.viewStore at hr
      simp only [bind, Except.bind, pure, Except.pure] at hr
      repeat' (first | (cases hr; done) | split at hr)
      all_goals (injection hr with hr; injection hr with hr; rw [← hr])
    · cases h
  · cases h
theorem run_drawn {α : Type} {P : Program} (s : Sem α) : ∀ (w : World) (v : α) (w' : World), s.run P w = .ok v w' → w.drawn ≤ w'.drawn := by
  induction s with
  | pure a => intro w v w' h; simp [Sem.run] at h; obtain ⟨_, rfl⟩ := h; exact Nat.le_refl _
  | load m a k ih =>
    intro w v w' h
    simp only [Sem.run] at h
    split at h
    · exact ih _ _ _ _ h
    · split at h
      · exact ih _ _ _ _ h
      · cases h
  | store m a v k ih =>
    intro w u w' h
    have key : ∀ w1, k.run P w1 = .ok u w' → w1.drawn = w.drawn → w.drawn ≤ w'.drawn := fun w1 h1 h2 => h2 ▸ ih _ _ _ h1
    have hs : (match w.cell? a with
      | some _ => if w.frozen? a then (.halt (.unsupported (.unsafePointer "a write to bytes that a string shares")) w : Result α) else k.run P (w.setCell a v)
      | none => match w.farStore P a v (m == Go.Mode.atomic) with
        | .ok (w, _) => k.run P w
        | .error h => .halt h w) = .ok u w' := by
      cases v <;> first | exact h | (simp [Sem.run] at h)
    split at hs
    · split at hs
      · cases hs
      · exact key _ hs rfl
    · split at hs
      · rename_i hf
        exact key _ hs (far_drawn hf)
      · cases hs
  | new o k ih => intro w v w' h; have := ih w.heap.size { w with heap := w.heap.push o } v w' h; exact this
  | shape r k ih => intro w v w' h; exact ih _ _ _ _ h
  | freeze a n k ih =>
    intro w v w' h
    have := ih _ _ _ h
    unfold World.freeze at this
    split at this <;> exact this
  | frozen a k ih => intro w v w' h; exact ih _ _ _ _ h
  | getObj r k ih =>
    intro w v w' h
    simp only [Sem.run] at h
    split at h
    · cases h
    · exact ih _ _ _ _ h
    · cases h
  | setObj r o k ih =>
    intro w v w' h
    simp only [Sem.run] at h
    split at h
    · cases h
    · have := ih { w with heap := w.heap.setIfInBounds r o } v w' h
      exact this
    · cases h
  | choose q k ih =>
    intro w v w' h
    simp only [Sem.run] at h
    split at h
    · exact ih _ _ _ _ h
    · exact Nat.le_trans (Nat.le_succ _) (ih _ _ _ _ h)
  | sys c k ih =>
    intro w v w' h
    exact Nat.le_trans (sys_drawn w c) (ih _ _ _ _ h)
  | program k ih => intro w v w' h; exact ih _ _ _ _ h
  | mark m k ih => intro w v w' h; exact ih _ _ _ h
  | halt h => intro w v w' hh; simp [Sem.run] at hh
end Vc
