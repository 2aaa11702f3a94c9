/- A region that draws its order: what only looks goes first; the rest is met in each order. -/
import Derived.Test.YtaagfepgbofmlaaGreatVcT
import Derived.KernelRfl
set_option linter.unusedVariables false
set_option linter.unusedSimpArgs false
namespace Vc
open Go Go.RowKit
/-- What the worlds on the way have in common with the first one. -/
structure PreW (R : World → World → Prop) : Prop where
  refl : ∀ w, R w w
  trans : ∀ {a b c}, R a b → R b c → R a c
theorem belPre : PreW Bel := ⟨Bel.refl, Bel.trans⟩
/-- The first N blocks stand. -/
structure BelN (N : Nat) (w w' : World) : Prop where
  os : w'.os = w.os
  tape : w'.tape = w.tape
  output : w'.output = w.output
  size : w.heap.size ≤ w'.heap.size
  drawn : w.drawn ≤ w'.drawn
  old : ∀ c, c < N → w'.heap[c]? = w.heap[c]?
theorem belNPre (N : Nat) : PreW (BelN N) := ⟨fun w => ⟨rfl, rfl, rfl, Nat.le_refl _, Nat.le_refl _, fun _ _ => rfl⟩, fun h k => ⟨k.os.trans h.os, k.tape.trans h.tape, k.output.trans h.output, Nat.le_trans h.size k.size, Nat.le_trans h.drawn k.drawn, fun c hc => (k.old c hc).trans (h.old c hc)⟩⟩
def Qf : Exit → Act → World → Prop := fun _ _ _ => False
section
variable {R : World → World → Prop} {P : Program} {ops : Array Oper} {n : Nat} {md : Region.Mode}
def AEd (R : World → World → Prop) (P : Program) (md : Region.Mode) (ops : Array Oper) (Q : Exit → Act → World → Prop) (m : Nat) : Nat → Array Bool → Act → World → Prop
  | 0, listed, a, w => Region.ready md ops listed = [] ∧ Q .normal a w
  | f + 1, listed, a, w => (Region.ready md ops listed = [] → Q .normal a w) ∧
    ∀ i ∈ Region.ready md ops listed, wpOp P ops Qf i (fun a' w' => (i < m → R w w') ∧ AEd R P md ops Q m f (listed.setIfInBounds i true) a' w') a w
theorem wp_of_f {o : Oper} {a : Act} {w : World} {K : Act → World → Prop} {Q : Exit → Act → World → Prop} (h : o.wp P a w K Qf) : o.wp P a w K Q := by
  unfold Oper.wp at *
  generalize (execOp a.eval o).run P w = r at *
  cases r with
  | ok x w' =>
    cases x <;> simp only [Oper.upon] at h ⊢ <;> first
      | exact h
      | exact h.elim
      | exact h.mono (fun e w'' he => by cases e <;> first | exact he | exact he.elim | (obtain ⟨_, _, he⟩ := he; exact he.elim))
  | halt x w' => cases x <;> simp only [Oper.upon] at h ⊢ <;> first | exact h.elim | exact h
theorem wpOp_of_f {i : Nat} {a : Act} {w : World} {K : Act → World → Prop} {Q : Exit → Act → World → Prop} (h : wpOp P ops Qf i K a w) : wpOp P ops Q i K a w := by
  unfold wpOp at *
  split
  · rename_i ho; simpa [ho] using h
  · rename_i o ho
    simp only [ho] at h
    split
    · rename_i hw
      simp only [hw, if_true] at h
      rcases h with h | ⟨_, _, _, h⟩
      · exact .inl (wp_of_f h)
      · exact h.elim
    · rename_i hw
      simpa [hw] using h
theorem AEd_any {Q : Exit → Act → World → Prop} {m : Nat} : ∀ f listed a w, AEd R P md ops Q m f listed a w → wpAny P md ops Q f listed a w := by
  intro f
  induction f with
  | zero => intro listed a w h; exact h
  | succ f ih =>
    intro listed a w h
    exact ⟨h.1, fun i hi => wpOp_of_f (wpOp_mono (fun a' w' hA => ih _ _ _ hA.2) (h.2 i hi))⟩
theorem ready_mem {listed : Array Bool} {i : Nat} : i ∈ Region.ready md ops listed ↔ i < ops.size ∧ listed.getD i true = false ∧ ∃ o, ops[i]? = some o ∧ ∀ x ∈ o.after, Region.binds md x = true → listed.getD x.on false = true := by
  unfold Region.ready
  simp only [List.mem_filter, List.mem_range, Bool.and_eq_true, Bool.not_eq_true']
  constructor
  · rintro ⟨h1, h2, h3⟩
    refine ⟨h1, h2, ?_⟩
    rw [Array.getElem?_eq_getElem h1] at h3 ⊢
    refine ⟨_, rfl, fun x hx hb => ?_⟩
    simp only [Option.map_some, Option.getD_some] at h3
    have := (Array.all_eq_true'.1 h3) x hx
    simpa [hb] using this
  · rintro ⟨h1, h2, o, ho, h3⟩
    refine ⟨h1, h2, ?_⟩
    rw [ho]
    simp only [Option.map_some, Option.getD_some]
    refine Array.all_eq_true'.2 fun x hx => ?_
    cases hb : Region.binds md x with
    | false => rfl
    | true => simpa using h3 x hx hb
theorem getD_set {l : Array Bool} {i j : Nat} {d : Bool} : (l.setIfInBounds i true).getD j d = if i = j ∧ j < l.size then true else l.getD j d := by
  simp only [Array.getD_eq_getD_getElem?, Array.getElem?_setIfInBounds]
  by_cases h : i = j
  · subst h
    by_cases h2 : i < l.size
    · simp [h2]
    · simp [h2]
  · simp [h]
theorem ready_set {listed : Array Bool} {i j : Nat} (h : j ∈ Region.ready md ops listed) (hij : i ≠ j) : j ∈ Region.ready md ops (listed.setIfInBounds i true) := by
  obtain ⟨h1, h2, o, ho, h3⟩ := ready_mem.1 h
  refine ready_mem.2 ⟨h1, ?_, o, ho, fun x hx hb => ?_⟩
  · rw [getD_set, if_neg (fun e => hij e.1)]; exact h2
  · rw [getD_set]; split
    · rfl
    · exact h3 x hx hb
/-- It looks alone, and gives v in whatever world lies beyond. -/
def Steady (R : World → World → Prop) (P : Program) (ops : Array Oper) (o : Oper) (v : Value) (a : Act) (w : World) : Prop :=
  ∀ w', R w w' → (Region.wanted o (yielded ops a.tmps) = true ∧ (execOp a.eval o).run P w' = .ok (.value v) w') ∨ (Region.wanted o (yielded ops a.tmps) = false ∧ v = undef)
theorem Steady.op (hR : PreW R) {i : Nat} {o : Oper} {v : Value} {a : Act} {w : World} {K : Act → World → Prop} (h : Steady R P ops o v a w) (ho : ops[i]? = some o) (hK : K (a.put o.dst v) w) : wpOp P ops Qf i K a w := by
  unfold wpOp
  simp only [ho]
  rcases h w (hR.refl _) with ⟨hw, hr⟩ | ⟨hw, rfl⟩
  · rw [if_pos hw]
    refine .inl ?_
    unfold Oper.wp
    rw [hr, Oper.upon_value]
    exact hK
  · rw [if_neg (by simp [hw])]
    exact hK
theorem Steady.later (hR : PreW R) {o : Oper} {v : Value} {a : Act} {w w' : World} (h : Steady R P ops o v a w) (hb : R w w') : Steady R P ops o v a w' :=
  fun w'' hb' => h w'' (hR.trans hb hb')
theorem Steady.same {o : Oper} {v : Value} {a a' : Act} {w : World} (h : Steady R P ops o v a w) (he : execOp a'.eval o = execOp a.eval o) (hw : Region.wanted o (yielded ops a'.tmps) = Region.wanted o (yielded ops a.tmps)) : Steady R P ops o v a' w := by
  intro w' hb
  rw [he, hw]
  exact h w' hb
/-- What another operation does, the first one's slot being filled before or behind it. -/
theorem op_comm {j : Nat} {oi oj : Oper} {v : Value} {a : Act} {w : World} {K : Act → World → Prop} (hj : ops[j]? = some oj) (hap : oi.apart ops oj = true) (hsi : ∀ cs b, oi.op ≠ .select cs b) (hsj : ∀ cs b, oj.op ≠ .select cs b)
    (h : wpOp P ops Qf j K (a.put oi.dst v) w) :
    wpOp P ops Qf j (fun a' w' => (∀ w1, Steady R P ops oi v a w1 → Steady R P ops oi v a' w1) ∧ K (a'.put oi.dst v) w') a w := by
  obtain ⟨h1, h2, h3⟩ := Oper.apart_spec hap
  have keep : ∀ u w1, Steady R P ops oi v a w1 → Steady R P ops oi v (a.put oj.dst u) w1 := fun u w1 hy =>
    hy.same (execOp_put oi hsi a oj.dst u h3) (wanted_put oi a oj.dst u h3)
  have keepD : ∀ d u w1, Steady R P ops oi v a w1 → Steady R P ops oi v ({ a with defers := d :: a.defers }.put oj.dst u) w1 := fun d u w1 hy =>
    (Steady.same (a' := { a with defers := d :: a.defers }) hy rfl rfl).same (execOp_put oi hsi _ oj.dst u h3) (wanted_put oi _ oj.dst u h3)
  unfold wpOp at *
  simp only [hj] at *
  rw [wanted_put oj a oi.dst v h1] at h
  split
  · rename_i hw
    simp only [hw, if_true] at h
    rcases h with h | ⟨_, _, _, h⟩
    case inr => exact h.elim
    refine .inl ?_
    unfold Oper.wp at *
    rw [execOp_put oj hsj a oi.dst v h1] at h
    generalize (execOp a.eval oj).run P w = r at *
    cases r with
    | ok x w' =>
      cases x <;> simp only [Oper.upon] at h ⊢ <;> first
        | exact h.elim
        | (rw [Act.put_defers] at h; exact ⟨fun w1 hy => keepD _ _ w1 hy, by rw [← Act.put_comm _ _ _ h2]; exact h⟩)
        | exact ⟨fun w1 hy => keep _ w1 hy, by rw [← Act.put_comm a v _ h2]; exact h⟩
        | exact h.mono (fun e w'' he => by cases e <;> first | exact ⟨fun w1 hy => keep _ w1 hy, by rw [← Act.put_comm a v _ h2]; exact he⟩ | exact he.elim | (obtain ⟨_, _, he⟩ := he; exact he.elim))
        | exact h.mono (fun u w'' he => ⟨fun w1 hy => keep _ w1 hy, by rw [← Act.put_comm a v _ h2]; exact he⟩)
    | halt x w' => cases x <;> simp only [Oper.upon] at h ⊢ <;> first | exact h.elim | exact h
  · rename_i hw
    simp only [hw] at h
    exact ⟨fun w1 hy => keep _ w1 hy, by rw [← Act.put_comm a v _ h2]; simpa using h⟩
def noSel (o : Oper) : Bool := match o.op with | .select .. => false | _ => true
theorem noSel_spec {o : Oper} (h : noSel o = true) : ∀ cs b, o.op ≠ .select cs b := by
  intro cs b he
  unfold noSel at h
  rw [he] at h
  cases h
/-- Does j wait for i, at once or by others? -/
def waits (md : Region.Mode) (ops : Array Oper) (i : Nat) : Nat → Nat → Bool
  | 0, _ => false
  | f + 1, j => match ops[j]? with
    | none => false
    | some oj => oj.after.any fun x => Region.binds md x && (x.on == i || waits md ops i f x.on)
/-- What is listed waits for nothing. -/
def closed (md : Region.Mode) (ops : Array Oper) (listed : Array Bool) : Bool :=
  (List.range ops.size).all fun j => match ops[j]? with
    | none => true
    | some oj => !listed.getD j false || oj.after.all fun x => !Region.binds md x || listed.getD x.on false
structure AE (R : World → World → Prop) (P : Program) (md : Region.Mode) (ops : Array Oper) (Q : Exit → Act → World → Prop) (m n : Nat) (f : Nat) (listed : Array Bool) (e : Env) (w : World) : Prop where
  out : closed md ops listed = true → AEd R P md ops Q m f listed (actOf n e) w
theorem closed_spec {listed : Array Bool} : closed md ops listed = true ↔ ∀ j oj, ops[j]? = some oj → listed.getD j false = true → ∀ x ∈ oj.after, Region.binds md x = true → listed.getD x.on false = true := by
  unfold closed
  rw [List.all_eq_true]
  constructor
  · intro h j oj hj hl x hx hb
    have hlt : j < ops.size := (Array.getElem?_eq_some_iff.1 hj).1
    have := h j (List.mem_range.2 hlt)
    rw [hj] at this
    simp only [hl, Bool.not_true, Bool.false_or] at this
    have := Array.all_eq_true'.1 this x hx
    simpa [hb] using this
  · intro h j hj
    have hlt := List.mem_range.1 hj
    rw [Array.getElem?_eq_getElem hlt]
    simp only [Bool.or_eq_true, Bool.not_eq_true']
    by_cases hl : listed.getD j false = true
    · refine .inr (Array.all_eq_true'.2 fun x hx => ?_)
      cases hb : Region.binds md x with
      | false => rfl
      | true => simpa using h j _ (Array.getElem?_eq_getElem hlt) hl x hx hb
    · exact .inl (by simpa using hl)
theorem waits_spec {listed : Array Bool} (hc : closed md ops listed = true) {i : Nat} : ∀ f j oj, ops[j]? = some oj → (∀ x ∈ oj.after, Region.binds md x = true → listed.getD x.on false = true) → waits md ops i f j = true → listed.getD i false = true := by
  intro f
  induction f with
  | zero => intro j oj hj h hw; simp [waits] at hw
  | succ f ih =>
    intro j oj hj h hw
    unfold waits at hw
    rw [hj] at hw
    simp only [Array.any_eq_true', Bool.and_eq_true, Bool.or_eq_true, beq_iff_eq] at hw
    obtain ⟨x, hx, hb, hw⟩ := hw
    have hl := h x hx hb
    rcases hw with hw | hw
    · rw [← hw]; exact hl
    · cases hq : ops[x.on]? with
      | none =>
        cases f with
        | zero => simp [waits] at hw
        | succ f => simp [waits, hq] at hw
      | some oq => exact ih x.on oq hq (closed_spec.1 hc x.on oq hq hl) hw
theorem closed_set {listed : Array Bool} {j : Nat} (hc : closed md ops listed = true) (hj : j ∈ Region.ready md ops listed) : closed md ops (listed.setIfInBounds j true) = true := by
  obtain ⟨hjs, hjl, oj, hoj, hja⟩ := ready_mem.1 hj
  refine closed_spec.2 fun q oq hq hl x hx hb => ?_
  rw [getD_set]
  split
  · rfl
  · rw [getD_set] at hl
    split at hl
    · rename_i h1
      obtain ⟨rfl, _⟩ := h1
      rw [hoj] at hq
      injection hq with hq
      subst hq
      exact hja x hx hb
    · exact closed_spec.1 hc q oq hq hl x hx hb
/-- May operation i go ahead of all that doesn't wait for it? -/
def mayGo (md : Region.Mode) (ops : Array Oper) (m i : Nat) : Bool :=
  match ops[i]? with
  | none => false
  | some oi => noSel oi && (List.range ops.size).all fun j => match ops[j]? with
    | none => false
    | some oj => j == i || waits md ops i ops.size j || waits md ops j ops.size i || (decide (j < m) && noSel oj && oi.apart ops oj)
theorem mayGo_spec {m i : Nat} {oi : Oper} (h : mayGo md ops m i = true) (ho : ops[i]? = some oi) : noSel oi = true ∧ ∀ j oj, ops[j]? = some oj → j ≠ i → waits md ops i ops.size j = false → waits md ops j ops.size i = false → j < m ∧ noSel oj = true ∧ oi.apart ops oj = true := by
  unfold mayGo at h
  rw [ho] at h
  simp only [Bool.and_eq_true, List.all_eq_true, List.mem_range] at h
  refine ⟨h.1, fun j oj hj hne hx hx' => ?_⟩
  have hlt : j < ops.size := (Array.getElem?_eq_some_iff.1 hj).1
  have h2 := h.2 j hlt
  rw [hj] at h2
  simp only [Bool.or_eq_true, Bool.and_eq_true, beq_iff_eq, decide_eq_true_eq, hx, hx', Bool.false_eq_true, or_false] at h2
  rcases h2 with h2 | ⟨⟨h2, h3⟩, h4⟩
  · exact absurd h2 hne
  · exact ⟨h2, h3, h4⟩
theorem waits_mono {i : Nat} : ∀ f g j, f ≤ g → waits md ops i f j = true → waits md ops i g j = true := by
  intro f
  induction f with
  | zero => intro g j _ h; simp [waits] at h
  | succ f ih =>
    intro g j hg h
    obtain ⟨g, rfl⟩ : ∃ g', g = g' + 1 := ⟨g - 1, by omega⟩
    unfold waits at h ⊢
    split at h
    · cases h
    · rename_i oj hj
      rw [Array.any_eq_true'] at h ⊢
      obtain ⟨x, hx, hb⟩ := h
      refine ⟨x, hx, ?_⟩
      rw [Bool.and_eq_true, Bool.or_eq_true] at hb ⊢
      exact ⟨hb.1, hb.2.imp id (ih g _ (by omega))⟩
/-- Whom an operation waits for, as bits. -/
def rowOf (rows : List Nat) (j : Nat) (o : Oper) : Nat := o.after.toList.foldr (fun x r => if Region.binds .any x && Nat.blt x.on j then 2 ^ x.on ||| (rows.getD x.on 0 ||| r) else r) 0
def rowsOk (l : List Oper) (rows : List Nat) : Bool := (List.range l.length).all fun j => match l[j]? with
  | none => true
  | some o => rows.getD j 0 == rowOf rows j o
theorem rowOf_spec {rows : List Nat} {j i : Nat} {o : Oper} (h : (rowOf rows j o).testBit i = true) : ∃ x, x ∈ o.after ∧ Region.binds .any x = true ∧ x.on < j ∧ (x.on = i ∨ (rows.getD x.on 0).testBit i = true) := by
  have key : ∀ l : List Edge, (l.foldr (fun x r => if Region.binds .any x && Nat.blt x.on j then 2 ^ x.on ||| (rows.getD x.on 0 ||| r) else r) 0).testBit i = true → ∃ x, x ∈ l ∧ Region.binds .any x = true ∧ x.on < j ∧ (x.on = i ∨ (rows.getD x.on 0).testBit i = true) := by
    intro l
    induction l with
    | nil => intro h; simp at h
    | cons a l ih =>
      intro h
      rw [List.foldr_cons] at h
      split at h
      · rename_i hc
        rw [Bool.and_eq_true, Nat.blt_eq] at hc
        rw [Nat.testBit_or, Nat.testBit_or, Bool.or_eq_true, Bool.or_eq_true, Nat.testBit_two_pow, decide_eq_true_eq] at h
        rcases h with h | h | h
        · exact ⟨a, by simp, hc.1, hc.2, .inl h⟩
        · exact ⟨a, by simp, hc.1, hc.2, .inr h⟩
        · obtain ⟨x, hx, h'⟩ := ih h
          exact ⟨x, by simp [hx], h'⟩
      · obtain ⟨x, hx, h'⟩ := ih h
        exact ⟨x, by simp [hx], h'⟩
  obtain ⟨x, hx, h'⟩ := key _ h
  exact ⟨x, by simpa using hx, h'⟩
theorem rows_waits {l : List Oper} {rows : List Nat} (hr : rowsOk l rows = true) {i : Nat} : ∀ k j, j < k → j < l.length → (rows.getD j 0).testBit i = true → waits .any l.toArray i (j + 1) j = true := by
  intro k
  induction k with
  | zero => intro j hj; omega
  | succ k ih =>
    intro j hj hl h
    have h1 := List.all_eq_true.1 hr j (List.mem_range.2 hl)
    rw [List.getElem?_eq_getElem hl] at h1
    simp only [beq_iff_eq] at h1
    rw [h1] at h
    obtain ⟨x, hx, hb, hlt, h'⟩ := rowOf_spec h
    unfold waits
    have hj' : l.toArray[j]? = some l[j] := by simp [hl]
    simp only [hj']
    rw [Array.any_eq_true']
    refine ⟨x, hx, ?_⟩
    rw [Bool.and_eq_true, Bool.or_eq_true, beq_iff_eq]
    refine ⟨hb, h'.imp id fun h' => ?_⟩
    exact waits_mono (x.on + 1) j _ (by omega) (ih x.on (by omega) (by omega) h')
def mayGoR (rows : List Nat) (l : List Oper) (m i : Nat) : Bool :=
  match l[i]? with
  | none => false
  | some oi => noSel oi && (List.range l.length).all fun j => match l[j]? with
    | none => false
    | some oj => j == i || (rows.getD j 0).testBit i || (rows.getD i 0).testBit j || (decide (j < m) && noSel oj && oi.apart l.toArray oj)
theorem mayGoR_ok {rows : List Nat} {l : List Oper} {m i : Nat} (hr : rowsOk l rows = true) (h : mayGoR rows l m i = true) : mayGo .any l.toArray m i = true := by
  unfold mayGoR at h
  split at h
  · cases h
  · rename_i oi hi
    have hil := (List.getElem?_eq_some_iff.1 hi).1
    have hi' : l.toArray[i]? = some oi := by simpa using hi
    unfold mayGo
    simp only [hi']
    rw [Bool.and_eq_true, List.all_eq_true] at h ⊢
    refine ⟨h.1, fun j hj => ?_⟩
    have hjl : j < l.length := by simpa using hj
    have h2 := h.2 j (by simpa using hjl)
    have hj1 : l[j]? = some l[j] := List.getElem?_eq_getElem hjl
    have hj2 : l.toArray[j]? = some l[j] := by simp [hjl]
    simp only [hj1] at h2
    simp only [hj2]
    simp only [Bool.or_eq_true, List.size_toArray] at h2 ⊢
    rcases h2 with ((h2 | h2) | h2) | h2
    · exact .inl (.inl (.inl h2))
    · exact .inl (.inl (.inr (waits_mono _ _ _ (by omega) (rows_waits hr _ j (Nat.lt_succ_self j) hjl h2))))
    · exact .inl (.inr (waits_mono _ _ _ (by omega) (rows_waits hr _ i (Nat.lt_succ_self i) hil h2)))
    · exact .inr h2
theorem hoistD (hR : PreW R) {Q : Exit → Act → World → Prop} {m i : Nat} {oi : Oper} {v : Value} (ho : ops[i]? = some oi) (hm : mayGo md ops m i = true) :
    ∀ f listed a w, closed md ops listed = true → i ∈ Region.ready md ops listed → Steady R P ops oi v a w → AEd R P md ops Q m f (listed.setIfInBounds i true) (a.put oi.dst v) w → AEd R P md ops Q m (f + 1) listed a w := by
  obtain ⟨hsi, hoth⟩ := mayGo_spec hm ho
  intro f
  induction f with
  | zero =>
    intro listed a w hcl hi hst h
    refine ⟨fun hr => absurd (hr ▸ hi) (by simp), fun j hj => ?_⟩
    by_cases hji : j = i
    · subst hji
      exact hst.op hR ho ⟨fun _ => hR.refl _, h⟩
    · have := ready_set hj (fun e => hji e.symm)
      rw [h.1] at this
      cases this
  | succ f ih =>
    intro listed a w hcl hi hst h
    refine ⟨fun hr => absurd (hr ▸ hi) (by simp), fun j hj => ?_⟩
    by_cases hji : j = i
    · subst hji
      exact hst.op hR ho ⟨fun _ => hR.refl _, h⟩
    · have hj' := ready_set hj (fun e => hji e.symm)
      obtain ⟨hjs, hjl, oj, hoj, hja⟩ := ready_mem.1 hj
      obtain ⟨his, hil, _⟩ := ready_mem.1 hi
      have hno : waits md ops i ops.size j = false := by
        cases hq : waits md ops i ops.size j with
        | false => rfl
        | true =>
          have := waits_spec hcl _ j oj hoj hja hq
          have hlt : i < listed.size := by
            rcases Nat.lt_or_ge i listed.size with h' | h'
            · exact h'
            · simp [Array.getD, Nat.not_lt.2 h'] at hil
          simp [Array.getD, hlt] at this hil
          rw [this] at hil
          cases hil
      have hno2 : waits md ops j ops.size i = false := by
        cases hq : waits md ops j ops.size i with
        | false => rfl
        | true =>
          obtain ⟨_, _, oi', hoi', hia⟩ := ready_mem.1 hi
          have := waits_spec hcl _ i oi' hoi' hia hq
          have hlt : j < listed.size := by
            rcases Nat.lt_or_ge j listed.size with h' | h'
            · exact h'
            · simp [Array.getD, Nat.not_lt.2 h'] at hjl
          simp [Array.getD, hlt] at this hjl
          rw [this] at hjl
          cases hjl
      obtain ⟨hjm, hsj, hap⟩ := hoth j oj hoj hji hno hno2
      have h2 := op_comm (R := R) hoj hap (noSel_spec hsi) (noSel_spec hsj) (h.2 j hj')
      refine wpOp_mono ?_ h2
      rintro a' w' ⟨hk, hb, hA⟩
      refine ⟨hb, ih _ a' w' (closed_set hcl hj) (ready_set hi (fun e => hji e)) ((hk w hst).later hR (hb hjm)) ?_⟩
      have : (listed.setIfInBounds j true).setIfInBounds i true = (listed.setIfInBounds i true).setIfInBounds j true := Array.setIfInBounds_comm _ _ hji
      rw [this]
      exact hA
theorem hoistF (hR : PreW R) {Q : Exit → Act → World → Prop} {m i : Nat} {oi : Oper} {v : Value} (ho : ops[i]? = some oi) (hm : mayGo md ops ops.size i = true) :
    ∀ f listed a w, closed md ops listed = true → i ∈ Region.ready md ops listed → (∀ w1, Steady R P ops oi v a w1) → AEd R P md ops Q m f (listed.setIfInBounds i true) (a.put oi.dst v) w → AEd R P md ops Q m (f + 1) listed a w := by
  obtain ⟨hsi, hoth⟩ := mayGo_spec hm ho
  intro f
  induction f with
  | zero =>
    intro listed a w hcl hi hst h
    refine ⟨fun hr => absurd (hr ▸ hi) (by simp), fun j hj => ?_⟩
    by_cases hji : j = i
    · subst hji
      exact (hst w).op hR ho ⟨fun _ => hR.refl _, h⟩
    · have := ready_set hj (fun e => hji e.symm)
      rw [h.1] at this
      cases this
  | succ f ih =>
    intro listed a w hcl hi hst h
    refine ⟨fun hr => absurd (hr ▸ hi) (by simp), fun j hj => ?_⟩
    by_cases hji : j = i
    · subst hji
      exact (hst w).op hR ho ⟨fun _ => hR.refl _, h⟩
    · have hj' := ready_set hj (fun e => hji e.symm)
      obtain ⟨hjs, hjl, oj, hoj, hja⟩ := ready_mem.1 hj
      obtain ⟨his, hil, _⟩ := ready_mem.1 hi
      have hno : waits md ops i ops.size j = false := by
        cases hq : waits md ops i ops.size j with
        | false => rfl
        | true =>
          have := waits_spec hcl _ j oj hoj hja hq
          have hlt : i < listed.size := by
            rcases Nat.lt_or_ge i listed.size with h' | h'
            · exact h'
            · simp [Array.getD, Nat.not_lt.2 h'] at hil
          simp [Array.getD, hlt] at this hil
          rw [this] at hil
          cases hil
      have hno2 : waits md ops j ops.size i = false := by
        cases hq : waits md ops j ops.size i with
        | false => rfl
        | true =>
          obtain ⟨_, _, oi', hoi', hia⟩ := ready_mem.1 hi
          have := waits_spec hcl _ i oi' hoi' hia hq
          have hlt : j < listed.size := by
            rcases Nat.lt_or_ge j listed.size with h' | h'
            · exact h'
            · simp [Array.getD, Nat.not_lt.2 h'] at hjl
          simp [Array.getD, hlt] at this hjl
          rw [this] at hjl
          cases hjl
      obtain ⟨hjm, hsj, hap⟩ := hoth j oj hoj hji hno hno2
      have h2 := op_comm (R := R) hoj hap (noSel_spec hsi) (noSel_spec hsj) (h.2 j hj')
      refine wpOp_mono ?_ h2
      rintro a' w' ⟨hk, hb, hA⟩
      refine ⟨hb, ih _ a' w' (closed_set hcl hj) (ready_set hi (fun e => hji e)) (fun w1 => hk w1 (hst w1)) ?_⟩
      have : (listed.setIfInBounds j true).setIfInBounds i true = (listed.setIfInBounds i true).setIfInBounds j true := Array.setIfInBounds_comm _ _ hji
      rw [this]
      exact hA
end
section
variable {R : World → World → Prop} {P : Program} {l : List Oper} {Q : Exit → Act → World → Prop} {n m f : Nat} {e : Env} {w : World} {listed : Array Bool}
theorem closed_none (k : Nat) : closed .any l.toArray (List.replicate k false).toArray = true := by
  refine closed_spec.2 fun j oj _ hl => ?_
  exfalso
  by_cases h : j < k
  · simp [Array.getD, h] at hl
  · simp [Array.getD, h] at hl
def readyAt (l : List Oper) (listed : Array Bool) (i : Nat) : Bool := !listed.getD i true && match l[i]? with
  | none => false
  | some o => o.after.all fun x => !Region.binds .any x || listed.getD x.on false
theorem readyAt_mem {i : Nat} (h : readyAt l listed i = true) : i ∈ Region.ready .any l.toArray listed := by
  unfold readyAt at h
  rw [Bool.and_eq_true, Bool.not_eq_true'] at h
  split at h
  · simp at h
  · rename_i o ho
    refine ready_mem.2 ⟨?_, h.1, o, by simpa using ho, fun x hx hb => ?_⟩
    · have := (List.getElem?_eq_some_iff.1 ho).1
      simpa using this
    · have := Array.all_eq_true_iff_forall_mem.1 h.2 x hx
      simpa [hb] using this
theorem cw_draw {id : Nat} (m : Nat) (hm : P.follows .mixedOrders = true) (rows lk lf : List Nat) (hro : rowsOk l rows = true) (hk : lk.all (mayGoR rows l m) = true) (hf : lf.all (mayGoR rows l l.length) = true)
    (h : (∀ i, lk.contains i = true → mayGo .any l.toArray m i = true) → (∀ i, lf.contains i = true → mayGo .any l.toArray l.toArray.size i = true) → ∀ w', Bel w w' → AE Bel P .any l.toArray Q m n l.length (List.replicate l.length false).toArray e w') : (Code.region id l.toArray true).wp P Q (actOf n e) w := by
  refine wp_region_any hm ?_
  have := (h (fun i hi => mayGoR_ok hro (List.all_eq_true.1 hk i (by simpa using hi))) (fun i hi => mayGoR_ok (m := l.length) hro (List.all_eq_true.1 hf i (by simpa using hi))) { w with drawn := w.drawn + 1 } ⟨⟨rfl, rfl, rfl, Nat.le_refl _, fun _ _ => rfl⟩, Nat.le_succ _⟩).out (closed_none _)
  have h2 := AEd_any _ _ _ _ this
  simpa using h2
theorem cw_drawN {id : Nat} (m : Nat) (hm : P.follows .mixedOrders = true) (rows lk lf : List Nat) (hro : rowsOk l rows = true) (hk : lk.all (mayGoR rows l m) = true) (hf : lf.all (mayGoR rows l l.length) = true)
    (h : (∀ i, lk.contains i = true → mayGo .any l.toArray m i = true) → (∀ i, lf.contains i = true → mayGo .any l.toArray l.toArray.size i = true) → ∀ w', Bel w w' → AE (BelN w'.heap.size) P .any l.toArray Q m n l.length (List.replicate l.length false).toArray e w') : (Code.region id l.toArray true).wp P Q (actOf n e) w := by
  refine wp_region_any hm ?_
  have := (h (fun i hi => mayGoR_ok hro (List.all_eq_true.1 hk i (by simpa using hi))) (fun i hi => mayGoR_ok (m := l.length) hro (List.all_eq_true.1 hf i (by simpa using hi))) { w with drawn := w.drawn + 1 } ⟨⟨rfl, rfl, rfl, Nat.le_refl _, fun _ _ => rfl⟩, Nat.le_succ _⟩).out (closed_none _)
  have h2 := AEd_any _ _ _ _ this
  simpa using h2
/-- What looks at the frame alone goes first. -/
theorem ae_lookF (hR : PreW R) {d : Nat} (i : Nat) (v : Value) {oi : Oper} (ho : l[i]? = some oi) (hd : oi.dst = some d) (hr : readyAt l listed i = true) (hm : mayGo .any l.toArray l.toArray.size i = true)
    (hst : ∀ w' : World, (Region.wanted oi (gval l.toArray n e) = true ∧ (execOp (ev n e) oi).run P w' = .ok (.value v) w') ∨ (Region.wanted oi (gval l.toArray n e) = false ∧ v = undef))
    {l9 : Array Bool} (hl : listed.setIfInBounds i true = l9) (h : AE R P .any l.toArray Q m n f l9 (upd e d v) w) : AE R P .any l.toArray Q m n (f + 1) listed e w := by
  refine ⟨fun hcl => hoistF hR (oi := oi) (v := v) (by simpa using ho) hm f listed _ w hcl (readyAt_mem hr) ?_ ?_⟩
  · intro w1 w' hb
    have := hst w'
    have e1 : yielded l.toArray (actOf n e).tmps = gval l.toArray n e := by funext g; exact yielded_actOf g
    rwa [e1, eval_actOf]
  · have hcl' := closed_set hcl (readyAt_mem hr)
    rw [hl] at hcl'
    rw [hd, put_actOf, hl]
    exact h.out hcl'
/-- What looks alone goes first. -/
theorem ae_look (hR : PreW R) {d : Nat} (i : Nat) (v : Value) {oi : Oper} (ho : l[i]? = some oi) (hd : oi.dst = some d) (hr : readyAt l listed i = true) (hm : mayGo .any l.toArray m i = true)
    (hst : ∀ w', R w w' → (Region.wanted oi (gval l.toArray n e) = true ∧ (execOp (ev n e) oi).run P w' = .ok (.value v) w') ∨ (Region.wanted oi (gval l.toArray n e) = false ∧ v = undef))
    {l9 : Array Bool} (hl : listed.setIfInBounds i true = l9) (h : AE R P .any l.toArray Q m n f l9 (upd e d v) w) : AE R P .any l.toArray Q m n (f + 1) listed e w := by
  refine ⟨fun hcl => hoistD hR (oi := oi) (v := v) (by simpa using ho) hm f listed _ w hcl (readyAt_mem hr) ?_ ?_⟩
  · intro w' hb
    have := hst w' hb
    have e1 : yielded l.toArray (actOf n e).tmps = gval l.toArray n e := by funext g; exact yielded_actOf g
    rwa [e1, eval_actOf]
  · have hcl' := closed_set hcl (readyAt_mem hr)
    rw [hl] at hcl'
    rw [hd, put_actOf, hl]
    exact h.out hcl'
/-- What is met when an operation is done. -/
def AK (R : World → World → Prop) (P : Program) (l : List Oper) (Q : Exit → Act → World → Prop) (m n f i : Nat) (listed : Array Bool) (w : World) : Exit → Act → World → Prop
  | .normal, a, w' => (i < m → R w w') ∧ (closed .any l.toArray (listed.setIfInBounds i true) = true → AEd R P .any l.toArray Q m f (listed.setIfInBounds i true) a w')
  | _, _, _ => False
theorem ak_intro {i : Nat} {w' : World} {l9 : Array Bool} (hb : R w w') (hl : listed.setIfInBounds i true = l9) (h : AE R P .any l.toArray Q m n f l9 e w') : AK R P l Q m n f i listed w .normal (actOf n e) w' := ⟨fun _ => hb, by rw [hl]; exact h.out⟩
theorem ak_introN {i : Nat} {w' : World} {l9 : Array Bool} (hi : m ≤ i) (hl : listed.setIfInBounds i true = l9) (h : AE R P .any l.toArray Q m n f l9 e w') : AK R P l Q m n f i listed w .normal (actOf n e) w' := ⟨fun hlt => absurd hlt (Nat.not_lt.2 hi), by rw [hl]; exact h.out⟩
theorem one_of_W {i : Nat} {oi : Oper} (ho : l[i]? = some oi) (h : W P l.toArray (AK R P l Q m n f i listed w) [oi] n e w) :
    wpOp P l.toArray Qf i (fun a' w' => (i < m → R w w') ∧ (closed .any l.toArray (listed.setIfInBounds i true) = true → AEd R P .any l.toArray Q m f (listed.setIfInBounds i true) a' w')) (actOf n e) w := by
  have h' := h.out
  unfold wpOp
  have ho' : l.toArray[i]? = some oi := by simpa using ho
  simp only [ho']
  unfold wpList at h'
  split
  · rename_i hw
    rw [if_pos hw] at h'
    rcases h' with h' | ⟨_, _, _, h'⟩
    case inr => exact h'.elim
    refine .inl ?_
    unfold Oper.wp at *
    generalize (execOp (actOf n e).eval oi).run P w = r at *
    cases r with
    | ok x w' =>
      cases x <;> simp only [Oper.upon] at h' ⊢ <;> first
        | exact h'
        | exact h'.elim
        | exact h'.mono (fun e w'' he => by cases e <;> first | exact he | exact he.elim | (obtain ⟨_, _, he⟩ := he; exact he.elim))
    | halt x w' => cases x <;> simp only [Oper.upon] at h' ⊢ <;> first | exact h'.elim | exact h'
  · rename_i hw
    rw [if_neg hw] at h'
    exact h'
theorem ae_one (i : Nat) {oi : Oper} (ho : l[i]? = some oi) (hr : Region.ready .any l.toArray listed = [i]) (h : W P l.toArray (AK R P l Q m n f i listed w) [oi] n e w) : AE R P .any l.toArray Q m n (f + 1) listed e w :=
  ⟨fun hcl => ⟨fun h0 => absurd (hr.symm.trans h0) (by simp), fun j hj => by
    have hc := closed_set hcl hj
    rw [hr] at hj
    obtain rfl : j = i := by simpa using hj
    exact wpOp_mono (fun _ _ hA => ⟨hA.1, hA.2 hc⟩) (one_of_W ho h)⟩⟩
theorem ae_two (i j : Nat) {oi oj : Oper} (ho : l[i]? = some oi) (ho2 : l[j]? = some oj) (hr : Region.ready .any l.toArray listed = [i, j]) (h : W P l.toArray (AK R P l Q m n f i listed w) [oi] n e w)
    (h2 : W P l.toArray (AK R P l Q m n f j listed w) [oj] n e w) : AE R P .any l.toArray Q m n (f + 1) listed e w :=
  ⟨fun hcl => ⟨fun h0 => absurd (hr.symm.trans h0) (by simp), fun q hq => by
    have hc := closed_set hcl hq
    rw [hr] at hq
    rcases List.mem_cons.1 hq with rfl | hq
    · exact wpOp_mono (fun _ _ hA => ⟨hA.1, hA.2 hc⟩) (one_of_W ho h)
    · obtain rfl : q = j := by simpa using hq
      exact wpOp_mono (fun _ _ hA => ⟨hA.1, hA.2 hc⟩) (one_of_W ho2 h2)⟩⟩
/-- What is left has one order. -/
def tailOk (l : List Oper) : Nat → Nat → Bool
  | 0, k => k == l.length && (Region.ready .any l.toArray (List.replicate l.length true).toArray).isEmpty
  | f + 1, k => Region.ready .any l.toArray (List.replicate k true ++ List.replicate (l.length - k) false).toArray == [k] && tailOk l f (k + 1)
def QN (Q : Exit → Act → World → Prop) : Exit → Act → World → Prop
  | .normal, a, w => Q .normal a w
  | _, _, _ => False
theorem tailD : ∀ f k, m ≤ k → k + f = l.length → tailOk l f k = true → ∀ a w, wpList P l.toArray (QN Q) (l.drop k) a w →
    AEd R P .any l.toArray Q m f (List.replicate k true ++ List.replicate (l.length - k) false).toArray a w := by
  intro f
  induction f with
  | zero =>
    intro k hk hl ht a w h
    obtain rfl : k = l.length := by omega
    simp only [tailOk, Bool.and_eq_true, List.isEmpty_iff] at ht
    rw [List.drop_length] at h
    refine ⟨?_, h⟩
    simpa using ht.2
  | succ f ih =>
    intro k hk hl ht a w h
    simp only [tailOk, Bool.and_eq_true, beq_iff_eq] at ht
    refine ⟨fun h0 => absurd (ht.1.symm.trans h0) (by simp), fun j hj => ?_⟩
    rw [ht.1] at hj
    obtain rfl : j = k := by simpa using hj
    have hlt : j < l.length := by omega
    rw [List.drop_eq_getElem_cons hlt] at h
    have hset : (List.replicate j true ++ List.replicate (l.length - j) false).toArray.setIfInBounds j true = (List.replicate (j + 1) true ++ List.replicate (l.length - (j + 1)) false).toArray := by
      have e1 : l.length - j = (l.length - (j + 1)) + 1 := by omega
      rw [List.setIfInBounds_toArray, e1, List.replicate_succ, List.replicate_succ', List.set_append_right _ _ (by simp)]
      simp
    unfold wpOp
    have ho' : l.toArray[j]? = some l[j] := by simp [hlt]
    simp only [ho']
    unfold wpList at h
    have fin : ∀ a' w', wpList P l.toArray (QN Q) (l.drop (j + 1)) a' w' → (j < m → R w w') ∧ AEd R P .any l.toArray Q m f ((List.replicate j true ++ List.replicate (l.length - j) false).toArray.setIfInBounds j true) a' w' := by
      intro a' w' h'
      refine ⟨fun hjm => absurd hjm (by omega), ?_⟩
      rw [hset]
      exact ih (j + 1) (by omega) (by omega) ht.2 a' w' h'
    split
    · rename_i hw
      rw [if_pos hw] at h
      rcases h with h | ⟨_, _, _, h⟩
      case inr => exact h.elim
      refine .inl ?_
      unfold Oper.wp at *
      generalize (execOp a.eval l[j]).run P w = r at *
      cases r with
      | ok x w' =>
        cases x <;> simp only [Oper.upon] at h ⊢ <;> first
          | exact fin _ _ h
          | exact h.elim
          | exact h.mono (fun e w'' he => by cases e <;> first | exact fin _ _ he | exact he.elim | (obtain ⟨_, _, he⟩ := he; exact he.elim))
          | exact h.mono (fun u w'' he => fin _ _ he)
      | halt x w' => cases x <;> simp only [Oper.upon] at h ⊢ <;> first | exact h.elim | exact h
    · rename_i hw
      rw [if_neg hw] at h
      exact fin _ _ h
theorem ae_tail (k : Nat) {f : Nat} {rest : List Oper} (hk : m ≤ k) (hl : k + f = l.length) (ht : tailOk l f k = true) (hlist : (List.replicate k true ++ List.replicate (l.length - k) false).toArray = listed) (hd : l.drop k = rest)
    (h : W P l.toArray (QN Q) rest n e w) : AE R P .any l.toArray Q m n f listed e w := ⟨fun _ => hlist ▸ tailD f k hk hl ht _ w (hd ▸ h.out)⟩
theorem qn_norm {a : Act} (h : Q .normal a w) : QN Q .normal a w := h
theorem AEd_post {Q' : Exit → Act → World → Prop} (k : ∀ a w, Q' .normal a w → Q .normal a w) : ∀ f (listed : Array Bool) a w, AEd R P .any l.toArray Q' m f listed a w → AEd R P .any l.toArray Q m f listed a w := by
  intro f
  induction f with
  | zero => intro listed a w h; exact ⟨h.1, k _ _ h.2⟩
  | succ f ih =>
    intro listed a w h
    exact ⟨fun h0 => k _ _ (h.1 h0), fun i hi => wpOp_mono (fun a' w' hA => ⟨hA.1, ih _ _ _ hA.2⟩) (h.2 i hi)⟩
/-- Where all orders meet. -/
def QJ (n : Nat) (J : Env → World → Prop) : Exit → Act → World → Prop := fun x a w => x = .normal ∧ ∃ e, a = actOf n e ∧ J e w
theorem ae_join (J : Env → World → Prop) (k : ∀ e' w', J e' w' → Q .normal (actOf n e') w') (h : AE R P .any l.toArray (QJ n J) m n f listed e w) : AE R P .any l.toArray Q m n f listed e w :=
  ⟨fun hc => AEd_post (fun a w h => by obtain ⟨_, e', rfl, hJ⟩ := h; exact k e' w hJ) _ _ _ _ (h.out hc)⟩
end
/-! ### Shorter forms -/
section
variable {P : Program} {l : List Oper} {Q : Exit → Act → World → Prop} {n m f : Nat} {e : Env} {w : World} {listed : Array Bool}
theorem aF {d : Nat} (i : Nat) (v : Value) {oi : Oper} (ho : l[i]? = some oi) (hd : oi.dst = some d) (hm : mayGo .any l.toArray l.toArray.size i = true) (hw : Region.wanted oi (gval l.toArray n e) = true)
    (hst : ∀ w' : World, (execOp (ev n e) oi).run P w' = .ok (.value v) w') (l9 : Array Bool) (h : AE Bel P .any l.toArray Q m n f l9 (upd e d v) w)
    (hr : readyAt l listed i = true := by kernel_rfl) (hl : listed.setIfInBounds i true = l9 := by kernel_rfl) : AE Bel P .any l.toArray Q m n (f + 1) listed e w :=
  ae_lookF belPre i v ho hd hr hm (fun w' => .inl ⟨hw, hst w'⟩) hl h
theorem aL {d : Nat} (i : Nat) (v : Value) {oi : Oper} (ho : l[i]? = some oi) (hd : oi.dst = some d) (hm : mayGo .any l.toArray m i = true) (hw : Region.wanted oi (gval l.toArray n e) = true)
    (hst : ∀ w' : World, Bel w w' → (execOp (ev n e) oi).run P w' = .ok (.value v) w') (l9 : Array Bool) (h : AE Bel P .any l.toArray Q m n f l9 (upd e d v) w)
    (hr : readyAt l listed i = true := by kernel_rfl) (hl : listed.setIfInBounds i true = l9 := by kernel_rfl) : AE Bel P .any l.toArray Q m n (f + 1) listed e w :=
  ae_look belPre i v ho hd hr hm (fun w' hB => .inl ⟨hw, hst w' hB⟩) hl h
theorem aK {R : World → World → Prop} {i : Nat} {w' : World} (hb : R w w') (l9 : Array Bool) (h : AE R P .any l.toArray Q m n f l9 e w') (hl : listed.setIfInBounds i true = l9 := by kernel_rfl) : AK R P l Q m n f i listed w .normal (actOf n e) w' := ak_intro hb hl h
theorem aO {R : World → World → Prop} (i : Nat) {oi : Oper} (ho : l[i]? = some oi) (h : W P l.toArray (AK R P l Q m n f i listed w) [oi] n e w) (hr : Region.ready .any l.toArray listed = [i] := by kernel_rfl) : AE R P .any l.toArray Q m n (f + 1) listed e w := ae_one i ho hr h
end
/-- What all ways through a code come to. -/
theorem reg_join {P : Program} {Q : Exit → Act → World → Prop} {n : Nat} {e : Env} {w : World} {c : Code} (J : Env → World → Prop) (h1 : c.wp P (fun x a w => x = .normal ∧ ∃ e', a = actOf n e' ∧ J e' w) (actOf n e) w) (h2 : ∀ e' w', J e' w' → Q .normal (actOf n e') w') : c.wp P Q (actOf n e) w :=
  Code.wp_mono (fun x a w h => by obtain ⟨rfl, e', rfl, hJ⟩ := h; exact h2 e' w hJ) h1
end Vc
