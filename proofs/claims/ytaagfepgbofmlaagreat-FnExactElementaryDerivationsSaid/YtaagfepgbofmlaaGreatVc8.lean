/- Small words of the printed walks. -/
import Derived.Test.YtaagfepgbofmlaaGreatVc7
set_option linter.unusedVariables false
set_option linter.unusedSimpArgs false
namespace Vc
open Go Go.RowKit
/-- So much fits into one row. -/
def Room (n bytes : Nat) : Prop := n * bytes ≤ 140737488355328
theorem tr {α : Sort _} {a b c : α} (h : a = b) (k : b = c) : a = c := h.trans k
theorem not_t {b : Bool} (h : (!b) = true) : b = false := by simpa using h
theorem not_f {b : Bool} (h : (!b) = false) : b = true := by simpa using h
theorem ne_t {b : Bool} (h : b = false) : ¬ b = true := by simp [h]
theorem ct {p : Prop} [Decidable p] (h : decide p = true) : p := of_decide_eq_true h
theorem cf {p : Prop} [Decidable p] (h : decide p = false) : ¬ p := of_decide_eq_false h
theorem ift {p : Prop} [Decidable p] {A B : Prop} (h : if p then A else B) (hp : p) : A := by rw [if_pos hp] at h; exact h
theorem iff_ {p : Prop} [Decidable p] {A B : Prop} (h : if p then A else B) (hp : ¬ p) : B := by rw [if_neg hp] at h; exact h
theorem bsplit (b : Bool) {G : Prop} (t : b = true → G) (f : b = false → G) : G := by cases b; exact f rfl; exact t rfl
theorem selM {M : List Item} {idx : List Nat} {M' : List Item} (h : idx.map (M[·]?) = M'.map some) : ∀ j (hj : j < M'.length), ∃ k, idx[j]? = some k ∧ M[k]? = some M'[j] := by
  intro j hj
  have hlen : idx.length = M'.length := by have := congrArg List.length h; simpa using this
  have hj' : j < idx.length := by omega
  refine ⟨idx[j], List.getElem?_eq_getElem hj', ?_⟩
  have := congrArg (·[j]?) h
  simpa [hj, hj'] using this
namespace Ctx
variable {X : Nat → Prop} {w0 w w' : World} {M Ps : List Item}
/-- The items that go on, in their order. -/
theorem sel (h : Ctx X w0 w M Ps) (idx jdx : List Nat) {M' Ps' : List Item} (hn : idx.Nodup) (hm : idx.map (M[·]?) = M'.map some) (hp : jdx.map (Ps[·]?) = Ps'.map some) : Ctx X w0 w M' Ps' := by
  have hlen : idx.length = M'.length := by have := congrArg List.length hm; simpa using this
  have memM : ∀ it, it ∈ M' → it ∈ M := by
    intro it hi
    obtain ⟨j, hj, rfl⟩ := List.getElem_of_mem hi
    obtain ⟨k, _, hk⟩ := selM hm j hj
    exact List.mem_of_getElem? hk
  have memP : ∀ it, it ∈ Ps' → it ∈ Ps := by
    intro it hi
    obtain ⟨j, hj, rfl⟩ := List.getElem_of_mem hi
    obtain ⟨k, _, hk⟩ := selM hp j hj
    exact List.mem_of_getElem? hk
  refine { h with m := fun it hi => h.m it (memM it hi), p := fun it hi => h.p it (memP it hi), mfp := fun it hi => h.mfp it (memM it hi), dis := ?_, pd := fun it hi b hb m hm' => h.pd it (memP it hi) b hb m (memM m hm') }
  rw [List.pairwise_iff_getElem]
  intro i j hi hj hij x hx hx'
  obtain ⟨k, hk1, hk2⟩ := selM hm i hi
  obtain ⟨l, hl1, hl2⟩ := selM hm j hj
  have hne : k ≠ l := by
    intro e
    subst e
    have hi' : i < idx.length := by omega
    have hj' : j < idx.length := by omega
    rw [List.getElem?_eq_getElem hi'] at hk1
    rw [List.getElem?_eq_getElem hj'] at hl1
    injection hk1 with hk1
    injection hl1 with hl1
    have := (List.pairwise_iff_getElem.1 hn) i j hi' hj' hij
    exact this (hk1.trans hl1.symm)
  have hkl : k < M.length := (List.getElem?_eq_some_iff.1 hk2).1
  have hll : l < M.length := (List.getElem?_eq_some_iff.1 hl2).1
  have ek : M[k] = M'[i] := (List.getElem?_eq_some_iff.1 hk2).2
  have el : M[l] = M'[j] := (List.getElem?_eq_some_iff.1 hl2).2
  rcases Nat.lt_or_gt_of_ne hne with hlt | hlt
  · exact (List.pairwise_iff_getElem.1 h.dis k l hkl hll hlt) x (ek ▸ hx) (el ▸ hx')
  · exact (List.pairwise_iff_getElem.1 h.dis l k hll hkl hlt) x (el ▸ hx') (ek ▸ hx)
theorem pushNil (h : Ctx X w0 w M Ps) (t sz : Nat) : Ctx X w0 w (own t sz (.slice none 0 0) 0 [] :: M) Ps :=
  h.push (Bel.refl _) _ ⟨by simp, .inl ⟨rfl, rfl⟩⟩ (by simp [own, Value.ownBlock])
/-- What a call gives back: new memory, or memory of what is read. -/
theorem pushR (h : Ctx X w0 w M Ps) (hb : Bel w w') (it : Item) (hi : it.holds w') (hf : ∀ b, b ∈ it.fp → w.heap.size ≤ b ∨ ∃ jt, jt ∈ Ps ∧ b ∈ jt.fp) : Ctx X w0 w' M (it :: Ps) :=
  (h.grow hb).pushP it hi (fun b hbi m hm hbm => by
    rcases hf b hbi with h' | ⟨jt, hj, hbj⟩
    · exact absurd (m.low w (h.m m hm) b hbm) (Nat.not_lt.2 h')
    · exact h.pd jt hj b hbj m hm hbm)
theorem pushE (h : Ctx X w0 w M Ps) (it : Item) (hi : it.holds w) (hf : it.fp = []) : Ctx X w0 w M (it :: Ps) := h.pushP it hi (by simp [hf])
theorem sM (h : Ctx X w0 w M Ps) (idx : List Nat) {M' : List Item} (hn : idx.Nodup) (hm : idx.map (M[·]?) = M'.map some) : Ctx X w0 w M' Ps :=
  h.sel idx (List.range Ps.length) hn hm (by apply List.ext_getElem <;> simp)
theorem sP (h : Ctx X w0 w M Ps) (jdx : List Nat) {Ps' : List Item} (hp : jdx.map (Ps[·]?) = Ps'.map some) : Ctx X w0 w M Ps' :=
  h.sel (List.range M.length) jdx List.nodup_range (by apply List.ext_getElem <;> simp) hp
end Ctx
theorem own_max {ty sz n : Nat} {v : Value} {cs : List Value} {w : World} (h : (own ty sz v n cs).holds w) : n ≤ 9223372036854775807 := by
  have := (own_rdr h).2.2.1
  simpa [maxLen] using this
theorem sl_cellsE {α : Type} [Inhabited α] {E : Enc α} {xs : List α} {v : Value} {fp : List Nat} {w : World} {A : Addr} {n c : Nat} (h : E.ty.sl.rep xs [v] fp w) (hv : v = .slice (some A) n c) (i : Nat) (hi : i < xs.length) :
    cellsAt w (A.add (i * E.sz)) (E.enc (xs.getD i default)) := by
  obtain ⟨A', c', hv', hc⟩ := sl_atE h i hi
  rw [hv'] at hv
  injection hv with e1 e2 e3
  injection e1 with e1
  exact e1 ▸ hc
theorem sl_form {α : Type} {t : Ty α} {xs : List α} {v : Value} {fp : List Nat} {w : World} (h : t.sl.rep xs [v] fp w) (i : Nat) (hi : i < xs.length) : ∃ A c, v = .slice (some A) xs.length c := by
  obtain ⟨A, c, hv, _⟩ := sl_at h i hi
  exact ⟨A, c, hv⟩
theorem sl_cells {α : Type} {t : Ty α} {xs : List α} {v : Value} {fp : List Nat} {w : World} {A : Addr} {n c : Nat} (h : t.sl.rep xs [v] fp w) (hv : v = .slice (some A) n c) (i : Nat) (hi : i < xs.length) :
    ∃ cs, cs.length = t.sz ∧ cellsAt w (A.add (i * t.sz)) cs ∧ t.rep xs[i] cs fp w := by
  obtain ⟨A', c', hv', cs, hl, hc, hr⟩ := sl_at h i hi
  rw [hv'] at hv
  injection hv with e1 e2 e3
  injection e1 with e1
  exact ⟨cs, hl, e1 ▸ hc, hr⟩
theorem own_formE {ty sz n : Nat} {v : Value} {cs : List Value} {w : World} (h : (own ty sz v n cs).holds w) (hn : 0 < n) : ∃ g cap, v = .slice (some ⟨g, 0, none⟩) n cap := by
  obtain ⟨g, cap, hv, _⟩ := own_pos h hn
  exact ⟨g, cap, hv⟩
theorem own_cellsE {α : Type} [Inhabited α] {E : Enc α} {xs : List α} {ty g n c : Nat} {v : Value} {w : World} (h : (own ty E.sz v xs.length (E.encs xs)).holds w) (hv : v = .slice (some ⟨g, 0, none⟩) n c) (i : Nat) (hi : i < xs.length) :
    cellsAt w ⟨g, i * E.sz, none⟩ (E.enc (xs.getD i default)) := by
  have := sl_cellsE (own_repE h) hv i hi
  rwa [add_none, Nat.zero_add] at this
theorem rep_nil {α : Type} (t : Ty α) (w : World) : t.sl.rep [] [.slice none 0 0] [] w :=
  ⟨_, [], rfl, ⟨by simp, by simp, by simp, none, 0, rfl, fun h => absurd h (by simp)⟩, all_nil t w⟩
end Vc
