/- Maps: what is known of them; their operations; loops over them, in whichever order. -/
import Derived.Test.YtaagfepgbofmlaaGreatVc10
import Derived.Maps.RangeRun
import Derived.IntWalk
set_option linter.unusedVariables false
set_option linter.unusedSimpArgs false
set_option linter.unusedSectionVars false
namespace Vc
open Go Go.RowKit
open Go.ChangeMaps (setBlock)
abbrev kvA (k : IntKind) (a : A8) : Value := .agg (List.toArray (a.enc k))
abbrev vvI (k : IntKind) (a : Int) : Value := .int k a
structure KeyT (P : Program) (k : TypeId) {α : Type} [DecidableEq α] (kv : α → Value) : Prop where
  under : ∃ d, P.underlying k = some d ∧ ((∀ x u, Instr.sameNow d (kv x) u = none) ∨ ∀ x y, Instr.sameNow d (kv x) (kv y) = some (decide (x = y)))
  check : ∀ em w x, (Instr.checkKey em 10000 k (kv x)).run P w = .ok () w
  equal : ∀ w x y, (Op.equal k (kv x) (kv y)).run P w = .ok (decide (x = y)) w
  stays : ∀ x, Instr.sameBits 10000 (kv x) (kv x) = true
section pure
variable {α β : Type} [DecidableEq α]
def mfind : List (α × β) → α → Nat → Option (Nat × β)
  | [], _, _ => none
  | p :: l, x, i => if x = p.1 then some (i, p.2) else mfind l x (i + 1)
def mget : List (α × β) → α → Option β
  | [], _ => none
  | p :: l, x => if x = p.1 then some p.2 else mget l x
def mset : List (α × β) → α → β → List (α × β)
  | [], x, v => [(x, v)]
  | p :: l, x, v => if x = p.1 then (x, v) :: l else p :: mset l x v
def mdel : List (α × β) → α → List (α × β)
  | [], _ => []
  | p :: l, x => if x = p.1 then l else p :: mdel l x
theorem mfind_none {l : List (α × β)} {x : α} {i : Nat} (h : mfind l x i = none) : mget l x = none ∧ (∀ v, mset l x v = l ++ [(x, v)]) ∧ mdel l x = l ∧ x ∉ l.map Prod.fst := by
  induction l generalizing i with
  | nil => exact ⟨rfl, fun _ => rfl, rfl, by simp⟩
  | cons p l ih =>
    unfold mfind at h
    split at h
    · cases h
    · rename_i hne
      obtain ⟨h1, h2, h3, h4⟩ := ih h
      refine ⟨by simp [mget, hne, h1], fun v => by simp [mset, hne, h2], by simp [mdel, hne, h3], ?_⟩
      simp only [List.map_cons, List.mem_cons, not_or]
      exact ⟨hne, h4⟩
theorem mfind_some {l : List (α × β)} {x : α} {i j : Nat} {v : β} (h : mfind l x i = some (j, v)) : i ≤ j ∧ l[j - i]? = some (x, v) ∧ mget l x = some v ∧ (∀ u, mset l x u = l.set (j - i) (x, u)) ∧ mdel l x = l.eraseIdx (j - i) := by
  induction l generalizing i with
  | nil => cases h
  | cons p l ih =>
    unfold mfind at h
    split at h
    · rename_i he
      obtain ⟨rfl, rfl⟩ : i = j ∧ p.2 = v := by simpa using h
      subst he
      simp [mget, mset, mdel]
    · rename_i hne
      obtain ⟨h0, h1, h2, h3, h4⟩ := ih h
      have e : j - i = (j - (i + 1)) + 1 := by omega
      rw [e]
      exact ⟨by omega, by simpa using h1, by simp [mget, hne, h2], fun u => by simp [mset, hne, h3], by simp [mdel, hne, h4]⟩
/-- The next entry of those that are left, and the others. -/
def Pick (l : List (α × β)) (p : α × β) (l' : List (α × β)) : Prop := ∃ i, ∃ h : i < l.length, l[i] = p ∧ l' = l.eraseIdx i
end pure
/-- A map's block. -/
def mapI {α β : Type} (kv : α → Value) (vv : β → Value) (b : Nat) (l : List (α × β)) : Item where
  fp := [b]
  holds w := ∃ es clock, w.heap[b]? = some (.map es clock) ∧ es.toList.map (fun e => (e.key, e.val)) = l.map (fun p => (kv p.1, vv p.2)) ∧ (es.toList.map (·.born)).Nodup ∧ (∀ e ∈ es.toList, e.born < clock) ∧ (l.map Prod.fst).Nodup
  keep _ _ h hw := by obtain ⟨es, c, h1, h2⟩ := hw; exact ⟨es, c, (h b (by simp)).trans h1, h2⟩
  low _ hw c hc := by obtain ⟨es, _, h1, _⟩ := hw; obtain rfl : c = b := by simpa using hc
                      exact lt_of_block h1
/-- Its entries said. -/
def mapE (b : Nat) (es : Array MapEntry) (clock : Nat) : Item where
  fp := [b]
  holds w := w.heap[b]? = some (.map es clock)
  keep _ _ h hw := (h b (by simp)).trans hw
  low _ hw c hc := by obtain rfl : c = b := by simpa using hc
                      exact lt_of_block hw
/-- A walk over the map: what is left. -/
def itI {α β : Type} (kv : α → Value) (vv : β → Value) (r b : Nat) (es : Array MapEntry) (clock : Nat) (last : Option MapEntry) (l : List (α × β)) : Item where
  fp := [r]
  holds w := ∃ seen c0, w.heap[r]? = some (.mapIter (some b) clock seen c0) ∧ clock ≤ c0 ∧ (leftOf es seen).toList.map (fun e => (e.key, e.val)) = l.map (fun p => (kv p.1, vv p.2)) ∧
    (∀ e, last = some e → (∃ s : Array Nat, seen = s.push e.born) ∧ c0 = clock ∧ e ∈ es.toList)
  keep _ _ h hw := by obtain ⟨s, c, h1, h2⟩ := hw; exact ⟨s, c, (h r (by simp)).trans h1, h2⟩
  low _ hw c hc := by obtain ⟨_, _, h1, _⟩ := hw; obtain rfl : c = r := by simpa using hc
                      exact lt_of_block h1
section
variable {P : Program} {α β : Type} [DecidableEq α] {kv : α → Value} {vv : β → Value}
theorem run_findAsking {k : TypeId} (K : KeyT P k kv) (w : World) (x : α) : ∀ (es : List MapEntry) (l : List (α × β)) (i : Nat), es.map (fun e => (e.key, e.val)) = l.map (fun p => (kv p.1, vv p.2)) →
    (Instr.findAsking k (kv x) es i).run P w = .ok ((mfind l x i).map (fun q => (q.1, vv q.2))) w
  | [], [], i, _ => rfl
  | [], _ :: _, _, h => by simp at h
  | _ :: _, [], _, h => by simp at h
  | e :: es, p :: l, i, h => by
    simp only [List.map_cons, List.cons.injEq, Prod.mk.injEq] at h
    unfold Instr.findAsking mfind
    simp only [Sem.run_bind, h.1.1, K.equal, Result.andThen_ok]
    by_cases hx : x = p.1
    · simp [hx, h.1.2]
    · simp only [hx, decide_false, Bool.false_eq_true, if_false]
      exact run_findAsking K w x es l (i + 1) h.2
theorem find_now {d : TypeDesc} (hs : ∀ x y, Instr.sameNow d (kv x) (kv y) = some (decide (x = y))) (x : α) : ∀ (es : List MapEntry) (l : List (α × β)) (i : Nat), es.map (fun e => (e.key, e.val)) = l.map (fun p => (kv p.1, vv p.2)) →
    Instr.findNow d (kv x) es i = some ((mfind l x i).map (fun q => (q.1, vv q.2)))
  | [], [], i, _ => rfl
  | [], _ :: _, _, h => by simp at h
  | _ :: _, [], _, h => by simp at h
  | e :: es, p :: l, i, h => by
    simp only [List.map_cons, List.cons.injEq, Prod.mk.injEq] at h
    unfold Instr.findNow mfind
    rw [h.1.1, hs]
    by_cases hx : x = p.1
    · simp [hx, h.1.2]
    · simp only [hx, decide_false, if_false]
      exact find_now hs x es l (i + 1) h.2
theorem run_findKey {k : TypeId} (K : KeyT P k kv) (w : World) (x : α) (es : List MapEntry) (l : List (α × β)) (h : es.map (fun e => (e.key, e.val)) = l.map (fun p => (kv p.1, vv p.2))) :
    (Instr.findKey k (kv x) es).run P w = .ok ((mfind l x 0).map (fun q => (q.1, vv q.2))) w := by
  obtain ⟨d, hd, hs⟩ := K.under
  unfold Instr.findKey
  simp only [Sem.run_bind, run_underlying hd, Result.andThen_ok]
  rcases hs with hs | hs
  · cases es with
    | nil =>
      cases l with
      | nil => rfl
      | cons => simp at h
    | cons e es => simp only [Instr.findNow, hs]; exact run_findAsking K w x (e :: es) l 0 h
  · rw [find_now hs x es l 0 h]; rfl
theorem run_lookup {t k el : TypeId} (K : KeyT P k kv) (ht : P.underlying t = some (.map k el)) {w : World} {b : Nat} {l : List (α × β)} (h : (mapI kv vv b l).holds w) (x : α) {z : β} (hz : ZeroT P el (vv z)) :
    (Instr.lookup t (.map (some b)) (kv x) false).run P w = .ok (vv ((mget l x).getD z)) w := by
  obtain ⟨es, clock, h1, h2, h3⟩ := h
  have hg : (getObj b).run P w = .ok (.map es clock) w := by simp [getObj, Sem.run, h1]
  simp only [Instr.lookup, Sem.run_bind, run_underlying ht, Result.andThen_ok, hg, Sem.run_pure, K.check, run_findKey K w x es.toList l h2]
  cases hf : mfind l x 0 with
  | none => simp [(mfind_none hf).1, run_zero hz]
  | some q => obtain ⟨j, v⟩ := q; simp [(mfind_some hf).2.2.1]
theorem run_setObj {w : World} {r : Nat} {es : Array MapEntry} {c : Nat} (hr : w.heap[r]? = some (.map es c)) (o' : Obj) : (setObj r o').run P w = .ok () (setBlock w r o') := by
  simp [setObj, Sem.run, hr, setBlock]
/-- One block is another one's. -/
structure BelB (b : Nat) (w w' : World) : Prop where
  os : w'.os = w.os
  tape : w'.tape = w.tape
  output : w'.output = w.output
  size : w.heap.size ≤ w'.heap.size
  drawn : w.drawn ≤ w'.drawn
  old : ∀ c, c < w.heap.size → c ≠ b → w'.heap[c]? = w.heap[c]?
theorem BelB.set (w : World) (b : Nat) (o : Obj) : BelB b w (setBlock w b o) where
  os := rfl
  tape := rfl
  output := rfl
  size := by simp [setBlock]
  drawn := Nat.le_refl _
  old c _ hc := by simp [setBlock, Array.getElem?_setIfInBounds_ne hc.symm]
theorem heap_set {w : World} {b : Nat} {o : Obj} (h : b < w.heap.size) : (setBlock w b o).heap[b]? = some o := by simp [setBlock, h]
theorem mset_fst {l : List (α × β)} {x : α} {v : β} (h : (l.map Prod.fst).Nodup) : ((mset l x v).map Prod.fst).Nodup := by
  cases hf : mfind l x 0 with
  | none =>
    obtain ⟨_, h2, _, h4⟩ := mfind_none hf
    rw [h2, List.map_append, List.nodup_append]
    refine ⟨h, by simp, fun a ha b hb => ?_⟩
    obtain rfl : b = x := by simpa using hb
    exact fun e => h4 (e ▸ ha)
  | some q =>
    obtain ⟨j, u⟩ := q
    obtain ⟨_, h1, _, h3, _⟩ := mfind_some hf
    rw [h3]
    have : (l.set (j - 0) (x, v)).map Prod.fst = l.map Prod.fst := by
      rw [List.map_set]
      apply List.ext_getElem?
      intro i
      by_cases hij : j - 0 = i
      · subst hij
        have hj := (List.getElem?_eq_some_iff.1 h1).1
        rw [List.getElem?_set_self (by simpa using hj), List.getElem?_map, h1]; rfl
      · rw [List.getElem?_set_ne hij]
    rw [this]; exact h
theorem run_mapUpdate {t k el : TypeId} (K : KeyT P k kv) (ht : P.underlying t = some (.map k el)) {w : World} {b : Nat} {l : List (α × β)} (h : (mapI kv vv b l).holds w) (x : α) (v : β) :
    ∃ w', (Instr.mapUpdate t (.map (some b)) (kv x) (vv v)).run P w = .ok () w' ∧ (mapI kv vv b (mset l x v)).holds w' ∧ BelB b w w' := by
  obtain ⟨es, clock, h1, h2, h3, h4, h5⟩ := h
  have hlt := lt_of_block h1
  have hg : (getObj b).run P w = .ok (.map es clock) w := by simp [getObj, Sem.run, h1]
  have hlen : es.size = l.length := by have := congrArg List.length h2; simpa using this
  cases hf : mfind l x 0 with
  | none =>
    obtain ⟨_, q2, _, _⟩ := mfind_none hf
    refine ⟨setBlock w b (.map (es.push ⟨kv x, vv v, clock⟩) (clock + 1)), ?_, ⟨_, _, heap_set hlt, ?_, ?_, ?_, mset_fst h5⟩, BelB.set _ _ _⟩
    · simp only [Instr.mapUpdate, Sem.run_bind, run_underlying ht, Result.andThen_ok, hg, Sem.run_pure, K.check, run_findKey K w x es.toList l h2, hf, Option.map_none, run_setObj h1]
    · rw [q2]; simp [h2]
    · simp only [Array.toList_push, List.map_append, List.map_cons, List.map_nil]
      rw [List.nodup_append]
      refine ⟨h3, by simp, fun a ha b hb e => ?_⟩
      obtain ⟨e0, he0, rfl⟩ := List.mem_map.1 ha
      have := h4 e0 he0
      simp at hb; omega
    · intro e he
      simp only [Array.toList_push, List.mem_append, List.mem_singleton] at he
      rcases he with he | rfl
      · exact Nat.lt_succ_of_lt (h4 e he)
      · exact Nat.lt_succ_self _
  | some q =>
    obtain ⟨j, u⟩ := q
    obtain ⟨_, q1, _, q3, _⟩ := mfind_some hf
    rw [Nat.sub_zero] at q1 q3
    have hj : j < l.length := (List.getElem?_eq_some_iff.1 q1).1
    have hjs : j < es.size := by omega
    have hkey : es[j].key = kv x := by
      have := congrArg (·[j]?) h2
      simp only [List.getElem?_map, q1, Option.map_some, Array.getElem?_toList, Array.getElem?_eq_getElem hjs] at this
      simpa using (congrArg Prod.fst (Option.some.inj this))
    refine ⟨setBlock w b (.map (es.modify j fun e => { e with key := kv x, val := vv v }) clock), ?_, ⟨_, _, heap_set hlt, ?_, ?_, ?_, mset_fst h5⟩, BelB.set _ _ _⟩
    · simp only [Instr.mapUpdate, Sem.run_bind, run_underlying ht, Result.andThen_ok, hg, Sem.run_pure, K.check, run_findKey K w x es.toList l h2, hf, Option.map_some, Array.getElem?_eq_getElem hjs, Option.getD_some, hkey, Instr.keyThatStays, K.stays, if_true, run_setObj h1]
    · rw [q3]
      apply List.ext_getElem?
      intro i
      have h2i := congrArg (·[i]?) h2
      simp only [List.getElem?_map, Array.getElem?_toList, Array.getElem?_modify] at h2i ⊢
      by_cases hij : j = i
      · subst hij
        simp [hjs, hj]
      · simp [hij, List.getElem?_set_ne hij] at h2i ⊢
        exact h2i
    · have : (es.modify j fun e => { e with key := kv x, val := vv v }).toList.map (·.born) = es.toList.map (·.born) := by
        apply List.ext_getElem?
        intro i
        simp only [List.getElem?_map, Array.getElem?_toList, Array.getElem?_modify]
        by_cases hij : j = i
        · subst hij; simp [hjs]
        · simp [hij]
      rw [this]; exact h3
    · intro e he
      obtain ⟨i, hi, rfl⟩ := List.getElem_of_mem he
      simp only [Array.getElem_toList, Array.getElem_modify]
      have hi' : i < es.size := by simpa using hi
      split
      · exact h4 es[i] (by simp)
      · exact h4 es[i] (by simp)
theorem run_delete {t k el : TypeId} {ats : Array TypeId} {ty : TypeId} (K : KeyT P k kv) (ht : P.underlying t = some (.map k el)) (ha : ats[0]? = some t) {w : World} {b : Nat} {l : List (α × β)} (h : (mapI kv vv b l).holds w) (x : α) :
    ∃ w', (Builtin.delete_ ats ty #[.map (some b), kv x]).run P w = .ok (.tuple #[]) w' ∧ (mapI kv vv b (mdel l x)).holds w' ∧ BelB b w w' := by
  obtain ⟨es, clock, h1, h2, h3, h4, h5⟩ := h
  have hlt := lt_of_block h1
  have hg : (getObj b).run P w = .ok (.map es clock) w := by simp [getObj, Sem.run, h1]
  have hlen : es.size = l.length := by have := congrArg List.length h2; simpa using this
  cases hf : mfind l x 0 with
  | none =>
    obtain ⟨_, _, q3, _⟩ := mfind_none hf
    refine ⟨setBlock w b (.map es clock), ?_, ⟨_, _, heap_set hlt, by rw [q3]; exact h2, h3, h4, by rw [q3]; exact h5⟩, BelB.set _ _ _⟩
    simp [Builtin.delete_, ha, Sem.run_bind, run_underlying ht, Result.andThen_ok, hg, Sem.run_pure, K.check, run_findKey K w x es.toList l h2, hf, run_setObj h1]
  | some q =>
    obtain ⟨j, u⟩ := q
    obtain ⟨_, q1, _, _, q4⟩ := mfind_some hf
    rw [Nat.sub_zero] at q1 q4
    have hj : j < l.length := (List.getElem?_eq_some_iff.1 q1).1
    have hjs : j < es.size := by omega
    have hE : (es.eraseIdxIfInBounds j).toList = es.toList.eraseIdx j := by
      simp [Array.eraseIdxIfInBounds, hjs]
    refine ⟨setBlock w b (.map (es.eraseIdxIfInBounds j) clock), ?_, ⟨_, _, heap_set hlt, ?_, ?_, ?_, ?_⟩, BelB.set _ _ _⟩
    · simp [Builtin.delete_, ha, Sem.run_bind, run_underlying ht, Result.andThen_ok, hg, Sem.run_pure, K.check, run_findKey K w x es.toList l h2, hf, run_setObj h1]
    · rw [q4, hE, Go.ChangeMaps.map_eraseIdx, Go.ChangeMaps.map_eraseIdx, h2]
    · rw [hE, Go.ChangeMaps.map_eraseIdx]; exact h3.sublist (List.eraseIdx_sublist ..)
    · rw [hE]; exact fun e he => h4 e (List.mem_of_mem_eraseIdx he)
    · rw [q4, Go.ChangeMaps.map_eraseIdx]; exact h5.sublist (List.eraseIdx_sublist ..)
theorem map_len {w : World} {b : Nat} {l : List (α × β)} (h : (mapI kv vv b l).holds w) : ∃ es clock, w.heap[b]? = some (.map es clock) ∧ es.size = l.length := by
  obtain ⟨es, clock, h1, h2, _⟩ := h
  exact ⟨es, clock, h1, by have := congrArg List.length h2; simpa using this⟩
end
section
variable {P : Program} {ops : Array Oper} {Q : Exit → Act → World → Prop} {n : Nat} {e : Env} {w w' : World} {rest : List Oper}
variable {X : Nat → Prop} {w0 : World} {M Ps : List Item}
variable {d ty : Nat} {pos : String} {af : Array Edge} {gd : Option (Nat × Bool)}
variable {α β : Type} [DecidableEq α] {kv : α → Value} {vv : β → Value}
theorem Ctx.turnB (h : Ctx X w0 w M Ps) (k : Nat) {it jt : Item} {b : Nat} (hk : M[k]? = some it) (hb : BelB b w w') (hi : it.fp = [b]) (hj : jt.fp = [b]) (hh : jt.holds w') : Ctx X w0 w' (M.set k jt) Ps :=
  h.turn k hk hb.os hb.tape hb.output hb.size hb.drawn (fun c hc hc' => hb.old c hc (by simpa [hi] using hc')) hh (fun c hc => .inl (by rw [hi]; rwa [hj] at hc))
theorem stepVN {o : Oper} {v : Value} (hg : o.guard = none) (hd : o.dst = none) (hr : (execOp (ev n e) o).run P w = .ok (.value v) w')
    (h : W P ops Q rest n e w') : W P ops Q (o :: rest) n e w := by
  refine ⟨?_⟩
  unfold wpList
  rw [if_pos (by simp [Region.wanted, hg])]
  refine .inl ?_
  unfold Oper.wp
  rw [eval_actOf, hr, Oper.upon_value, hd]
  exact h.out
theorem Ctx.start1 (w : World) (b : Nat) {it : Item} (hfp : it.fp = [b]) (Ps : List Item) (hi : it.holds w) (hp : ∀ jt, jt ∈ Ps → jt.holds w) (hd : ∀ jt, jt ∈ Ps → ∀ c, c ∈ jt.fp → c ≠ b) : Ctx (fun c => c = b) w w [it] Ps :=
  ⟨rfl, rfl, rfl, Nat.le_refl _, Nat.le_refl _, fun _ _ _ => rfl, by simpa using hi, hp, by simp [hfp], by simp, fun jt hj c hc m hm hcm => by
    obtain rfl : m = it := by simpa using hm
    rw [hfp] at hcm
    exact hd jt hj c hc (List.mem_singleton.1 hcm)⟩
theorem Ctx.belB {b : Nat} (h : Ctx (fun c => c = b) w0 w M Ps) : BelB b w0 w := ⟨h.os, h.tape, h.output, h.size, h.drawn, fun c hc hne => h.old c hc hne⟩
theorem Ctx.mm (h : Ctx X w0 w M Ps) (i j : Nat) {a c : Item} (hi : M[i]? = some a) (hj : M[j]? = some c) (hne : i ≠ j) : ∀ x, x ∈ a.fp → x ∉ c.fp := by
  obtain ⟨h1, e1⟩ := List.getElem?_eq_some_iff.1 hi
  obtain ⟨h2, e2⟩ := List.getElem?_eq_some_iff.1 hj
  subst e1 e2
  rcases Nat.lt_or_gt_of_ne hne with hl | hl
  · exact List.pairwise_iff_getElem.1 h.dis i j h1 h2 hl
  · exact fun x hx hx' => List.pairwise_iff_getElem.1 h.dis j i h2 h1 hl x hx' hx
theorem map_fresh (h : Ctx Nox w0 w M Ps) (k : Nat) {b : Nat} {l : List (α × β)} (hk : M[k]? = some (mapI kv vv b l)) : w0.heap.size ≤ b :=
  (h.mfp _ (List.mem_of_getElem? hk) b (by simp [mapI])).elim id (fun x => x.elim)
theorem s_makeMap (hC : Ctx X w0 w M Ps) {t : Nat} (kv : α → Value) (vv : β → Value) (h : ∀ b w', Bel w w' → Ctx X w0 w' (mapI kv vv b [] :: M) Ps → W P ops Q rest n (upd e d (.map (some b))) w') :
    W P ops Q (⟨some d, .makeMap t none, ty, pos, af, none⟩ :: rest) n e w := by
  have hB : Bel w (w.alloc (.map #[] 0)) := Bel.alloc _ _
  refine stepV (.map (some w.heap.size)) rfl rfl ?_ (h w.heap.size _ hB (hC.push hB _ ⟨#[], 0, heap_alloc_new _ _, rfl, by simp, by simp, by simp⟩ (by simp [mapI])))
  simp [execOp, Instr.makeMap, newObj, Sem.run, Result.andThen]
theorem s_mapset (hC : Ctx X w0 w M Ps) (j : Nat) {t k el b : Nat} {l : List (α × β)} {x y z : Operand} (kx : α) (v : β) (hk : M[j]? = some (mapI kv vv b l)) (K : KeyT P k kv) (ht : P.underlying t = some (.map k el))
    (hx : ev n e x = .map (some b)) (hy : ev n e y = kv kx) (hz : ev n e z = vv v) (h : ∀ w', Ctx X w0 w' (M.set j (mapI kv vv b (mset l kx v))) Ps → W P ops Q rest n e w') {op : Op} (hop : op = .mapUpdate t x y z ∨ op = .insert t x y z) :
    W P ops Q (⟨none, op, ty, pos, af, none⟩ :: rest) n e w := by
  obtain ⟨w', hr, hh, hb⟩ := run_mapUpdate K ht (hC.getM j hk) kx v
  refine stepU rfl rfl ?_ (h w' (hC.turnB j hk hb rfl rfl hh))
  rcases hop with rfl | rfl <;> simp [execOp, hx, hy, hz, hr]
theorem s_mapdel (hC : Ctx X w0 w M Ps) (j : Nat) {t k el b : Nat} {l : List (α × β)} {x y : Operand} (kx : α) (hk : M[j]? = some (mapI kv vv b l)) (K : KeyT P k kv) (ht : P.underlying t = some (.map k el))
    (hx : ev n e x = .map (some b)) (hy : ev n e y = kv kx) {ats : Array TypeId} (ha : ats[0]? = some t) (h : ∀ w', Ctx X w0 w' (M.set j (mapI kv vv b (mdel l kx))) Ps → W P ops Q rest n e w') :
    W P ops Q (⟨none, .call { callee := .builtin .delete, args := #[x, y], argTypes := ats }, ty, pos, af, none⟩ :: rest) n e w := by
  obtain ⟨w', hr, hh, hb⟩ := run_delete (ty := ty) K ht ha (hC.getM j hk) kx
  refine stepVN (v := .tuple #[]) rfl rfl ?_ (h w' (hC.turnB j hk hb rfl rfl hh))
  simp [execOp, resolve, invoke, builtin, hx, hy, hr]
theorem r_lookup {t k el b : Nat} {l : List (α × β)} {x y : Operand} (kx : α) (z : β) (hh : (mapI kv vv b l).holds w) (K : KeyT P k kv) (ht : P.underlying t = some (.map k el)) (hz : ZeroT P el (vv z))
    (hx : ev n e x = .map (some b)) (hy : ev n e y = kv kx) : (execOp (ev n e) ⟨some d, .lookup t x y false, ty, pos, af, gd⟩).run P w = .ok (.value (vv ((mget l kx).getD z))) w := by
  simp [execOp, hx, hy, run_lookup K ht hh kx hz]
theorem s_lookup {t k el b : Nat} {l : List (α × β)} {x y : Operand} (kx : α) (z : β) (hh : (mapI kv vv b l).holds w) (K : KeyT P k kv) (ht : P.underlying t = some (.map k el)) (hz : ZeroT P el (vv z))
    (hx : ev n e x = .map (some b)) (hy : ev n e y = kv kx) (h : W P ops Q rest n (upd e d (vv ((mget l kx).getD z))) w) : W P ops Q (⟨some d, .lookup t x y false, ty, pos, af, none⟩ :: rest) n e w :=
  stepV _ rfl rfl (r_lookup kx z hh K ht hz hx hy) h
theorem r_maplen {t k el b : Nat} {l : List (α × β)} {x : Operand} (hh : (mapI kv vv b l).holds w) (ht : P.underlying t = some (.map k el)) (hx : ev n e x = .map (some b)) {ats : Array TypeId} (ha : ats = #[t]) :
    (execOp (ev n e) ⟨some d, .call { callee := .builtin .len, args := #[x], argTypes := ats }, ty, pos, af, gd⟩).run P w = .ok (.value (.int .i64 l.length)) w := by
  obtain ⟨es, clock, h1, h2⟩ := map_len hh
  have hg : (getObj b).run P w = .ok (.map es clock) w := by simp [getObj, Sem.run, h1]
  subst ha
  simp [execOp, resolve, invoke, hx, builtin, Builtin.len_, run_underlying ht, hg, goInt, h2]
theorem s_maplen {t k el b : Nat} {l : List (α × β)} {x : Operand} (hh : (mapI kv vv b l).holds w) (ht : P.underlying t = some (.map k el)) (hx : ev n e x = .map (some b)) {ats : Array TypeId} (ha : ats = #[t])
    (h : W P ops Q rest n (upd e d (.int .i64 l.length)) w) : W P ops Q (⟨some d, .call { callee := .builtin .len, args := #[x], argTypes := ats }, ty, pos, af, none⟩ :: rest) n e w :=
  stepV _ rfl rfl (r_maplen hh ht hx ha) h
theorem left_nil (es : Array MapEntry) : leftOf es #[] = es := by simp [leftOf]
theorem s_range (hC : Ctx X w0 w M Ps) (j : Nat) {t k el b : Nat} {l : List (α × β)} {x : Operand} (hk : Ps[j]? = some (mapI kv vv b l)) (ht : P.underlying t = some (.map k el)) (hx : ev n e x = .map (some b))
    (h : ∀ r es clock w', Bel w w' → (es.toList.map (·.born)).Nodup → (∀ e ∈ es.toList, e.born < clock) → Ctx X w0 w' (itI kv vv r b es clock none l :: M) (mapE b es clock :: Ps) → W P ops Q rest n (upd e d (.pointer (some ⟨r, 0, none⟩))) w') :
    W P ops Q (⟨some d, .range t x, ty, pos, af, none⟩ :: rest) n e w := by
  obtain ⟨es, clock, h1, h2, h3, h4, h5⟩ := hC.getP j hk
  have hg : (getObj b).run P w = .ok (.map es clock) w := by simp [getObj, Sem.run, h1]
  have hC2 := hC.derive j hk (mapE b es clock) (fun _ => h1) (fun _ h => h)
  have hB : Bel w (w.alloc (.mapIter (some b) clock #[] clock)) := Bel.alloc _ _
  refine stepV _ rfl rfl ?_ (h w.heap.size es clock _ hB h3 h4 (hC2.push hB _ ⟨#[], clock, heap_alloc_new _ _, Nat.le_refl _, by rw [left_nil]; exact h2, by simp⟩ (by simp [itI])))
  simp [execOp, Instr.range, hx, run_underlying ht, hg, newObj, Sem.run, Result.andThen]
theorem left_push {es : Array MapEntry} {seen : Array Nat} (hn : (es.toList.map (·.born)).Nodup) {i : Nat} (hi : i < (leftOf es seen).toList.length) :
    (leftOf es (seen.push ((leftOf es seen).toList[i]).born)).toList = (leftOf es seen).toList.eraseIdx i := by
  have hN : ((leftOf es seen).toList.map (·.born)).Nodup := by
    unfold leftOf; rw [Array.toList_filter]
    exact hn.sublist (List.filter_sublist.map _)
  have h1 : leftOf es (seen.push ((leftOf es seen).toList[i]).born) = (leftOf es seen).filter (fun e => e.born != ((leftOf es seen).toList[i]).born) := by
    generalize ((leftOf es seen).toList[i]).born = q
    unfold leftOf
    rw [Array.filter_filter]
    congr 1
    funext e
    simp [Array.contains_push, bne, Bool.not_or]
    cases hq : decide (e.born = q) <;> simp_all
  rw [h1, Array.toList_filter]
  clear h1
  generalize (leftOf es seen).toList = L at hN hi ⊢
  induction L generalizing i with
  | nil => simp at hi
  | cons a L ih =>
    rw [List.map_cons, List.nodup_cons] at hN
    cases i with
    | zero =>
      have : L.filter (fun e => e.born != a.born) = L := by
        rw [List.filter_eq_self]
        intro x hx
        have : x.born ≠ a.born := fun e => hN.1 (e ▸ List.mem_map.2 ⟨x, hx, rfl⟩)
        simpa using this
      simp [this]
    | succ i =>
      have hi' : i < L.length := by simpa using hi
      have hne : a.born ≠ (L[i]).born := fun e => hN.1 (e ▸ List.mem_map.2 ⟨L[i], List.getElem_mem hi', rfl⟩)
      have := ih hN.2 hi'
      simp [hne, this]
theorem s_next (hC : Ctx X w0 w M Ps) (j p : Nat) {r b : Nat} {es : Array MapEntry} {clock : Nat} {last : Option MapEntry} {l : List (α × β)} {x : Operand} (hk : M[j]? = some (itI kv vv r b es clock last l)) (hp : Ps[p]? = some (mapE b es clock))
    (hn : (es.toList.map (·.born)).Nodup) (hb : ∀ e ∈ es.toList, e.born < clock) (hx : ev n e x = .pointer (some ⟨r, 0, none⟩))
    (h0 : l = [] → W P ops Q rest n (upd e d (.tuple #[.bool false])) w)
    (h1 : ∀ q l' ent w', Pick l q l' → ent.key = kv q.1 → ent.val = vv q.2 → Ctx X w0 w' (M.set j (itI kv vv r b es clock (some ent) l')) Ps → W P ops Q rest n (upd e d (.tuple #[.bool true, kv q.1, vv q.2])) w') :
    W P ops Q (⟨some d, .next x false, ty, pos, af, none⟩ :: rest) n e w := by
  obtain ⟨seen, c0, g1, g2, g3, g4⟩ := hC.getM j hk
  have g0 : w.heap[b]? = some (.map es clock) := hC.getP p hp
  rcases run_next_at (P := P) w ty r b clock c0 seen es clock g1 g0 hb g2 with ⟨hs, hr⟩ | ⟨ent, hent, w1, hw1, hr⟩
  · have : l = [] := by
      have := congrArg List.length g3
      simp only [List.length_map, Array.length_toList, hs] at this
      exact List.length_eq_zero_iff.1 this.symm
    exact stepV _ rfl rfl (by simp [execOp, hx, hr]) (h0 this)
  · obtain ⟨i, hi, hie⟩ := List.getElem_of_mem hent
    have hlen : i < l.length := by have := congrArg List.length g3; simp only [List.length_map] at this; omega
    have hq := congrArg (·[i]?) g3
    simp only [List.getElem?_map, List.getElem?_eq_getElem hi, List.getElem?_eq_getElem hlen, Option.map_some, Option.some.injEq, Prod.mk.injEq, hie] at hq
    have hlt : r < w1.heap.size := by rcases hw1 with rfl | rfl <;> exact lt_of_block g1
    have hB : BelB r w (setBlock w1 r (.mapIter (some b) clock (seen.push ent.born) clock)) := by
      rcases hw1 with rfl | rfl
      · exact BelB.set _ _ _
      · have := BelB.set w.drew r (.mapIter (some b) clock (seen.push ent.born) clock)
        exact ⟨this.os, this.tape, this.output, this.size, Nat.le_trans (Nat.le_succ _) this.drawn, this.old⟩
    refine stepV _ rfl rfl (by simp [execOp, hx, hr, hq.1, hq.2]) (h1 l[i] (l.eraseIdx i) ent _ ⟨i, hlen, rfl, rfl⟩ hq.1 hq.2 (hC.turnB j hk hB rfl rfl ⟨seen.push ent.born, clock, heap_set hlt, Nat.le_refl _, ?_, ?_⟩))
    · subst hie
      rw [left_push hn hi, Go.ChangeMaps.map_eraseIdx, g3, ← Go.ChangeMaps.map_eraseIdx]
    · intro e2 he2
      obtain rfl : ent = e2 := by simpa using he2
      exact ⟨⟨seen, rfl⟩, rfl, (mem_left hent).1⟩
theorem s_entry (hC : Ctx X w0 w M Ps) (j p : Nat) {r b : Nat} {es : Array MapEntry} {clock : Nat} {ent : MapEntry} {l : List (α × β)} {x : Operand} (q : α × β) (hk : M[j]? = some (itI kv vv r b es clock (some ent) l)) (hp : Ps[p]? = some (mapE b es clock))
    (hn : (es.toList.map (·.born)).Nodup) (hx : ev n e x = .pointer (some ⟨r, 0, none⟩)) (hkq : ent.key = kv q.1) (hvq : ent.val = vv q.2)
    (h : W P ops Q rest n (upd e d (.tuple #[kv q.1, vv q.2])) w) :
    W P ops Q (⟨some d, .entry x, ty, pos, af, none⟩ :: rest) n e w := by
  obtain ⟨seen, c0, g1, g2, g3, g4⟩ := hC.getM j hk
  obtain ⟨⟨s, rfl⟩, rfl, hm⟩ := g4 ent rfl
  have g0 : w.heap[b]? = some (.map es c0) := hC.getP p hp
  exact stepV _ rfl rfl (by simp [execOp, hx, run_entry_at (P := P) w r b c0 s es c0 ent g1 g0 hm hn, hkq, hvq]) h
end
/-- A walk over entries, in whichever order. -/
def mapP {α β S : Type} [DecidableEq α] (body : α × β → S → (S → Prop) → Prop) (exit : S → Prop) : Nat → List (α × β) → S → Prop
  | 0, _, s => exit s
  | k + 1, l, s => ∀ p l', Pick l p l' → body p s (mapP body exit k l')
section
variable {P : Program} {c : Code} {Q : Exit → Act → World → Prop} {n : Nat} {e : Env} {w : World}
theorem pick_len {α β : Type} [DecidableEq α] {l l' : List (α × β)} {p : α × β} (h : Pick l p l') : l.length = l'.length + 1 := by
  obtain ⟨i, hi, _, rfl⟩ := h
  rw [List.length_eraseIdx_of_lt hi]; omega
theorem loopM {α β S : Type} [DecidableEq α] (B : α × β → S → (S → Prop) → Prop) (E : S → Prop) (I : List (α × β) → S → Env → World → Prop)
    (body : ∀ l s e w (next : List (α × β) → S → Prop) (K : Act → World → Prop), I l s e w → (l = [] → E s) ∧ (∀ p l', Pick l p l' → B p s (next l')) → (∀ p l' s' e' w', Pick l p l' → I l' s' e' w' → next l' s' → K (actOf n e') w') → c.wp P (Exit.then K Q) (actOf n e) w)
    {l0 : List (α × β)} {s0 : S} (h0 : I l0 s0 e w) (hF : mapP B E l0.length l0 s0) : (Code.loop c).wp P Q (actOf n e) w := by
  have L : ∀ k l s e w, l.length = k → I l s e w → mapP B E k l s → Code.rounds P c Q (k + 1) (actOf n e) w := by
    intro k
    induction k with
    | zero =>
      intro l s e w hl hI h
      refine body l s e w (fun _ _ => True) _ hI ⟨fun _ => h, fun p l' hp => ?_⟩ (fun p l' s' e' w' hp _ _ => ?_)
      · have := pick_len hp; omega
      · have := pick_len hp; omega
    | succ k ih =>
      intro l s e w hl hI h
      refine body l s e w (mapP B E k) _ hI ⟨fun hn => by subst hn; simp at hl, fun p l' hp => h p l' hp⟩ (fun p l' s' e' w' hp hI' h' => ?_)
      have := pick_len hp
      exact ih l' s' e' w' (by omega) hI' h'
  exact wp_loop_rounds (l0.length + 1) (L l0.length l0 s0 e w rfl h0 hF)
end
end Vc
namespace Vc
open Go Go.RowKit
section
variable {P : Program} {k el len : Nat} {ik : IntKind}
theorem run_equal_i {d : Nat} (he : P.underlying el = some (.int ik)) (w : World) (a b : Int) : (Op.equalIn (d + 1) el (.int ik a) (.int ik b)).run P w = .ok (decide (a = b)) w := by
  unfold Op.equalIn
  simp [Sem.run_bind, run_underlying he, Bool.beq_eq_decide_eq]
theorem keyA8 (hk : P.underlying k = some (.array 8 el)) (he : P.underlying el = some (.int ik)) (hs : ScaT P el) : KeyT P k (kvA ik) where
  under := ⟨_, hk, .inl fun x u => by cases u <;> rfl⟩
  check em w x := by
    have hi : ∀ m y, (Instr.checkKey em (m + 1) el (.int ik y)).run P w = .ok () w := by
      intro m y; unfold Instr.checkKey; simp [Sem.run_bind, run_underlying he]
    show (Instr.checkKey em (9999 + 1) k _).run P w = _
    unfold Instr.checkKey
    simp only [Sem.run_bind, run_underlying hk, Result.andThen_ok]
    simp [Std.Legacy.Range.forIn_eq_forIn_range', List.range', run_szOf hs.size, part, run_isAgg_f hs, A8.enc, Sem.run_bind, hi 9998]
  equal w x y := by
    show (Op.equalIn (9999 + 1) k _ _).run P w = _
    unfold Op.equalIn
    simp only [Sem.run_bind, run_underlying hk, Result.andThen_ok]
    simp [Std.Legacy.Range.forIn_eq_forIn_range', List.range', run_szOf hs.size, part, run_isAgg_f hs, A8.enc, Sem.run_bind, run_equal_i (d := 9998) he]
    have e : (x = y) ↔ (x.x0 = y.x0 ∧ x.x1 = y.x1 ∧ x.x2 = y.x2 ∧ x.x3 = y.x3 ∧ x.x4 = y.x4 ∧ x.x5 = y.x5 ∧ x.x6 = y.x6 ∧ x.x7 = y.x7) := by cases x; cases y; simp
    simp only [e]
    (repeat' split) <;> simp_all
  stays x := by simp [Instr.sameBits, A8.enc]
end
end Vc
