/- What a value with rows in it reads as; rows of the call's own. -/
import Derived.Test.YtaagfepgbofmlaaGreatVc5
import Derived.Laws.MakeOwn
set_option linter.unusedVariables false
set_option linter.unusedSimpArgs false
namespace Vc
open Go Go.RowKit
/-- How data of a type lies in cells. -/
structure Ty (α : Type) where
  sz : Nat
  rep : α → List Value → List Nat → World → Prop
  keep : ∀ {x cs fp} {w w' : World}, (∀ b, b ∈ fp → w'.heap[b]? = w.heap[b]?) → rep x cs fp w → rep x cs fp w'
  low : ∀ {x cs fp w}, rep x cs fp w → ∀ b, b ∈ fp → b < w.heap.size
  len : ∀ {x cs fp w}, rep x cs fp w → cs.length = sz
  one : ∀ {x cs fp w}, rep x cs fp w → ∀ u, u ∈ cs → u.oneCell' = true
  more : ∀ {x cs fp fp' w}, rep x cs fp w → (∀ b, b ∈ fp → b ∈ fp') → (∀ b, b ∈ fp' → b < w.heap.size) → rep x cs fp' w
theorem low_keep {w w' : World} {fp : List Nat} (h : ∀ b, b ∈ fp → w'.heap[b]? = w.heap[b]?) (hl : ∀ b, b ∈ fp → b < w.heap.size) : ∀ b, b ∈ fp → b < w'.heap.size := by
  intro b hb
  have := hl b hb
  have e := h b hb
  rcases Nat.lt_or_ge b w'.heap.size with hl | hl
  · exact hl
  · rw [Array.getElem?_eq_none hl, Array.getElem?_eq_getElem this] at e; cases e
def Ty.item {α : Type} (t : Ty α) (x : α) (cs : List Value) (fp : List Nat) : Item where
  fp := fp
  holds w := t.rep x cs fp w
  keep _ _ h hw := t.keep h hw
  low _ hw := t.low hw
/-- Cells alone. -/
structure Enc (α : Type) where
  sz : Nat
  pos : 0 < sz
  enc : α → List Value
  len : ∀ x, (enc x).length = sz
  one : ∀ x u, u ∈ enc x → u.oneCell' = true
def Enc.ty {α : Type} (E : Enc α) : Ty α where
  sz := E.sz
  rep x cs fp w := (∀ b, b ∈ fp → b < w.heap.size) ∧ cs = E.enc x
  keep h hw := ⟨low_keep h hw.1, hw.2⟩
  low hw := hw.1
  len hw := hw.2 ▸ E.len _
  one hw u hu := E.one _ u (hw.2 ▸ hu)
  more hw _ h' := ⟨h', hw.2⟩
def Enc.encs {α : Type} (E : Enc α) (xs : List α) : List Value := xs.flatMap E.enc
theorem Enc.encs_len {α : Type} (E : Enc α) (xs : List α) : (E.encs xs).length = xs.length * E.sz := by
  induction xs with
  | nil => simp [Enc.encs]
  | cons x xs ih => simp [Enc.encs] at ih ⊢; rw [E.len, ih, Nat.add_mul]; omega
theorem Enc.encs_seg {α : Type} [Inhabited α] (E : Enc α) (xs : List α) (i : Nat) (h : i < xs.length) : ((E.encs xs).drop (i * E.sz)).take E.sz = E.enc (xs.getD i default) := by
  induction xs generalizing i with
  | nil => simp at h
  | cons x xs ih =>
    cases i with
    | zero =>
      simp only [Enc.encs, List.flatMap_cons, Nat.zero_mul, List.drop_zero]
      rw [List.take_append_of_le_length (by rw [E.len]; exact Nat.le_refl _), List.take_of_length_le (by rw [E.len]; exact Nat.le_refl _)]
      rfl
    | succ i =>
      simp only [Enc.encs, List.flatMap_cons]
      rw [Nat.add_mul, Nat.one_mul, Nat.add_comm (i * E.sz), ← List.drop_drop, List.drop_left' (E.len x)]
      exact ih i (by simpa using h)
theorem Enc.encs_append {α : Type} (E : Enc α) (xs ys : List α) : E.encs (xs ++ ys) = E.encs xs ++ E.encs ys := by simp [Enc.encs]
theorem Enc.encs_one' {α : Type} (E : Enc α) (xs : List α) (u : Value) (h : u ∈ E.encs xs) : u.oneCell' = true := by
  simp only [Enc.encs, List.mem_flatMap] at h
  obtain ⟨x, _, hu⟩ := h
  exact E.one x u hu
/-- All elements of a row. -/
def Ty.all {α : Type} (t : Ty α) (xs : List α) (cs : List Value) (fp : List Nat) (w : World) : Prop :=
  (∀ b, b ∈ fp → b < w.heap.size) ∧ cs.length = xs.length * t.sz ∧ (∀ u, u ∈ cs → u.oneCell' = true) ∧ ∀ i (h : i < xs.length), t.rep xs[i] ((cs.drop (i * t.sz)).take t.sz) fp w
def Ty.allItem {α : Type} (t : Ty α) (xs : List α) (cs : List Value) (fp : List Nat) : Item where
  fp := fp
  holds w := t.all xs cs fp w
  keep _ _ h hw := ⟨low_keep h hw.1, hw.2.1, hw.2.2.1, fun i hi => t.keep h (hw.2.2.2 i hi)⟩
  low _ hw := hw.1
/-- A row. -/
def Ty.sl {α : Type} (t : Ty α) : Ty (List α) where
  sz := 1
  rep xs cs fp w := ∃ v ecs, cs = [v] ∧ (rdr t.sz v xs.length ecs fp).holds w ∧ t.all xs ecs fp w
  keep h hw := by
    obtain ⟨v, ecs, rfl, h1, h2⟩ := hw
    exact ⟨v, ecs, rfl, Item.keep _ _ _ h h1, (t.allItem _ ecs _).keep _ _ h h2⟩
  low hw := by
    obtain ⟨v, ecs, rfl, h1, h2⟩ := hw
    exact h2.1
  len hw := by obtain ⟨v, ecs, rfl, h1, h2⟩ := hw; rfl
  one hw u hu := by
    obtain ⟨v, ecs, rfl, ⟨_, _, _, A, c, rfl, _⟩, h2⟩ := hw
    obtain rfl : u = _ := by simpa using hu
    rfl
  more := by
    intro xs cs fp fp' w hw h h'
    obtain ⟨v, ecs, rfl, ⟨a0, a1, a2, A, c, rfl, a3⟩, h2⟩ := hw
    refine ⟨_, ecs, rfl, ⟨h', a1, a2, A, c, rfl, fun hn => ?_⟩, h', h2.2.1, h2.2.2.1, fun i hi => t.more (h2.2.2.2 i hi) h h'⟩
    obtain ⟨a, rfl, ha, hc⟩ := a3 hn
    exact ⟨a, rfl, h _ ha, hc⟩
section
variable {α : Type} {t : Ty α} {xs : List α} {v : Value} {fp : List Nat} {w : World}
/-- An element that is read: its cells, and what they read as. -/
theorem sl_at (h : t.sl.rep xs [v] fp w) (i : Nat) (hi : i < xs.length) : ∃ A c, v = .slice (some A) xs.length c ∧ ∃ cs, cs.length = t.sz ∧ cellsAt w (A.add (i * t.sz)) cs ∧ t.rep xs[i] cs fp w := by
  obtain ⟨v', ecs, e, ⟨a0, a1, a2, A, c, rfl, a3⟩, h2⟩ := h
  obtain rfl : v = _ := by simpa using e
  obtain ⟨a, rfl, ha, hc⟩ := a3 (by omega)
  refine ⟨a, c, rfl, (ecs.drop (i * t.sz)).take t.sz, t.len (h2.2.2.2 i hi), ?_, h2.2.2.2 i hi⟩
  intro j u hj
  rw [add_add]
  refine hc _ u ?_
  rw [List.getElem?_take] at hj
  split at hj
  · simpa using hj
  · cases hj
theorem sl_len (h : t.sl.rep xs [v] fp w) : ∃ A c, v = .slice A xs.length c := by
  obtain ⟨v', ecs, e, ⟨a0, a1, a2, A, c, rfl, a3⟩, h2⟩ := h
  obtain rfl : v = _ := by simpa using e
  exact ⟨A, c, rfl⟩
theorem sl_max (h : t.sl.rep xs [v] fp w) : xs.length ≤ 9223372036854775807 := by
  obtain ⟨v', ecs, e, ⟨a0, a1, a2, A, c, rfl, a3⟩, h2⟩ := h
  simpa [maxLen] using a2
end
/-- A row of cells alone: an element that is read. -/
theorem sl_atE {α : Type} [Inhabited α] {E : Enc α} {xs : List α} {v : Value} {fp : List Nat} {w : World} (h : E.ty.sl.rep xs [v] fp w) (i : Nat) (hi : i < xs.length) :
    ∃ A c, v = .slice (some A) xs.length c ∧ cellsAt w (A.add (i * E.sz)) (E.enc (xs.getD i default)) := by
  obtain ⟨A, c, hv, cs, hl, hc, hr⟩ := sl_at h i hi
  refine ⟨A, c, hv, ?_⟩
  have : xs.getD i default = xs[i] := by simp [List.getD, hi]
  rw [this]
  rwa [hr.2] at hc
theorem cellsAt_sub {w : World} {a : Addr} {seg sub : List Value} {o k : Nat} (h : cellsAt w a seg) (hs : (seg.drop o).take k = sub) : cellsAt w (a.add o) sub := by
  intro j u hj
  rw [add_add]
  refine h _ u ?_
  rw [← hs, List.getElem?_take] at hj
  split at hj
  · simpa using hj
  · cases hj
/-! ### Rows of the call's own -/
section
variable {sz n : Nat} {ty : Nat} {v : Value} {cs : List Value} {w : World}
theorem own_len (h : (own ty sz v n cs).holds w) : cs.length = n * sz := h.1
theorem own_form (h : (own ty sz v n cs).holds w) : ∃ A c, v = .slice A n c := by
  rcases h.2 with ⟨rfl, rfl⟩ | ⟨g, cap, cur, rfl, _⟩
  · exact ⟨none, 0, rfl⟩
  · exact ⟨_, cap, rfl⟩
theorem own_pos (h : (own ty sz v n cs).holds w) (hn : 0 < n) : ∃ g cap, v = .slice (some ⟨g, 0, none⟩) n cap ∧ cellsAt w ⟨g, 0, none⟩ cs := by
  rcases h.2 with ⟨rfl, rfl⟩ | ⟨g, cap, cur, rfl, _, hh, hc, _, hz, ht⟩
  · omega
  · refine ⟨g, cap, rfl, fun j u hj => ?_⟩
    rw [add_none, cell_of_row w g _ cur ty (0, 0) hh]
    rw [← ht, List.getElem?_take] at hj
    split at hj
    · simpa using hj
    · cases hj
theorem own_rdr (h : (own ty sz v n cs).holds w) : (rdr sz v n cs v.ownBlock.toList).holds w := by
  refine ⟨Item.low _ _ h, h.1, ?_, ?_⟩
  · rcases h.2 with ⟨rfl, rfl⟩ | ⟨g, cap, cur, rfl, _, hh, hc, hm, hz, ht⟩
    · simp [maxLen]
    · omega
  · obtain ⟨A, c, rfl⟩ := own_form h
    refine ⟨A, c, rfl, fun hn => ?_⟩
    obtain ⟨g, cap, e, hc⟩ := own_pos h hn
    injection e with e1 e2 e3
    subst e1
    exact ⟨_, rfl, by simp [Value.ownBlock], hc⟩
theorem own_repE {α : Type} {E : Enc α} {xs : List α} (h : (own ty E.sz v xs.length (E.encs xs)).holds w) : E.ty.sl.rep xs [v] v.ownBlock.toList w := by
  refine ⟨v, E.encs xs, rfl, own_rdr h, Item.low _ _ h, E.encs_len xs, fun u hu => E.encs_one' xs u hu, fun i hi => ⟨Item.low _ _ h, ?_⟩⟩
  have : Inhabited α := ⟨xs[i]⟩
  have e := E.encs_seg xs i hi
  have e2 : xs.getD i default = xs[i] := by simp [List.getD, hi]
  rw [e2] at e
  exact e
theorem own_rep {α : Type} {t : Ty α} {xs : List α} {fp : List Nat} (h : (own ty t.sz v xs.length cs).holds w) (ha : t.all xs cs fp w) : t.sl.rep xs [v] (v.ownBlock.toList ++ fp) w := by
  have hl : ∀ b, b ∈ v.ownBlock.toList ++ fp → b < w.heap.size := by
    intro b hb
    rcases List.mem_append.1 hb with hb | hb
    · exact Item.low _ _ h b hb
    · exact ha.1 b hb
  obtain ⟨a0, a1, a2, A, c, rfl, a3⟩ := own_rdr h
  refine ⟨_, cs, rfl, ⟨hl, a1, a2, A, c, rfl, fun hn => ?_⟩, hl, ha.2.1, ha.2.2.1, fun i hi => t.more (ha.2.2.2 i hi) (fun b hb => List.mem_append_right _ hb) hl⟩
  obtain ⟨a, rfl, hm, hc⟩ := a3 hn
  exact ⟨a, rfl, List.mem_append_left _ hm, hc⟩
theorem all_nil {α : Type} (t : Ty α) (w : World) : t.all [] [] [] w := ⟨by simp, by simp, by simp, fun i hi => absurd hi (by simp)⟩
end
end Vc
