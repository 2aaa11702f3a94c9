/- slices.SortFunc over a row of the call's own. -/
import Derived.Test.YtaagfepgbofmlaaGreatVc11
import Derived.Shelf.SlSortCmp.WholeK
import Derived.Shelf.SlSortCmp.NoneTotal
set_option linter.unusedVariables false
set_option linter.unusedSimpArgs false
set_option linter.unusedSectionVars false
namespace Vc
open Go Go.RowKit
open Go.Proofs (CmpLays sortWorldK ltOf)
open Go.Sort (grow putRowK flatK HoldsK SWO PermIn SortedIn mapBlock onCells putCells putRow)
theorem Enc.encs_at {α : Type} [Inhabited α] (E : Enc α) (xs : List α) (j : Nat) (hj : j < xs.length * E.sz) : (E.encs xs)[j]? = (E.enc (xs.getD (j / E.sz) default))[j % E.sz]? := by
  have hi : j / E.sz < xs.length := Nat.div_lt_of_lt_mul (by rw [Nat.mul_comm]; exact hj)
  have h := congrArg (fun l : List Value => l[j % E.sz]?) (E.encs_seg xs (j / E.sz) hi)
  simp only [List.getElem?_take, List.getElem?_drop, Nat.mod_lt _ E.pos, if_true, Nat.div_add_mod'] at h
  exact h
theorem flat_encs {α S : Type} [Inhabited α] [Inhabited S] (E : Enc α) (f : S → α) (d : Array S) : (flatK (fun x => E.enc (f x)) E.sz d).toList = E.encs (d.toList.map f) := by
  apply List.ext_getElem?
  intro j
  by_cases hj : j < d.size * E.sz
  · have hi : j / E.sz < d.size := Nat.div_lt_of_lt_mul (by rw [Nat.mul_comm]; exact hj)
    have hm : j % E.sz < (E.enc (f d[j / E.sz]!)).length := by rw [E.len]; exact Nat.mod_lt _ E.pos
    rw [E.encs_at _ _ (by simpa using hj)]
    have e : (d.toList.map f).getD (j / E.sz) default = f d[j / E.sz]! := by simp [List.getD, hi]
    rw [e, List.getElem?_eq_getElem hm]
    have hs : j < (flatK (fun x => E.enc (f x)) E.sz d).size := by simpa using hj
    rw [Array.getElem?_toList, Array.getElem?_eq_getElem hs]
    have := Go.Sort.get_flatK (fun x => E.enc (f x)) E.sz d j hj
    rw [getElem!_pos (flatK (fun x => E.enc (f x)) E.sz d) j hs] at this
    rw [this, getElem!_pos (E.enc (f d[j / E.sz]!)) (j % E.sz) hm]
  · rw [List.getElem?_eq_none (by simpa using hj), List.getElem?_eq_none (by rw [E.encs_len]; simpa using hj)]
structure BelO (fp : List Nat) (w w' : World) : Prop where
  os : w'.os = w.os
  tape : w'.tape = w.tape
  output : w'.output = w.output
  size : w.heap.size ≤ w'.heap.size
  drawn : w.drawn ≤ w'.drawn
  old : ∀ c, c < w.heap.size → c ∉ fp → w'.heap[c]? = w.heap[c]?
theorem bel_grow {w w' : World} (h : Bel w w') : ∃ q os', w' = grow (w.drewN q) os' := by
  refine ⟨w'.drawn - w.drawn, w'.heap.extract w.heap.size w'.heap.size, ?_⟩
  have hh : w'.heap = w.heap ++ w'.heap.extract w.heap.size w'.heap.size := by
    apply Array.ext_getElem?
    intro i
    rw [Array.getElem?_append]
    split
    · rename_i hi; exact h.block i hi
    · rename_i hi
      rw [Array.getElem?_extract]
      have : w.heap.size + (i - w.heap.size) = i := by omega
      rw [this]
      split
      · rfl
      · rename_i hi2
        exact Array.getElem?_eq_none (by simp at hi2; have := h.size; omega)
  have h1 := h.os; have h2 := h.tape; have h3 := h.output; have h4 := h.drawn
  cases w; cases w'
  simp only [grow, World.drewN] at *
  subst h1 h2 h3
  congr 1
  omega
def SortP {α : Type} (Ok : α → Prop) (cf : α → α → Int) (xs : List α) (K : List α → Prop) : Prop :=
  ((∀ x, x ∈ xs → Ok x) ∧ xs.length < 4611686018427387904) ∧ ∀ xs', xs'.Perm xs → xs'.Pairwise (fun a b => ¬ cf b a < 0) → K xs'
theorem sort_own {P : Program} {ρ : Go.Shelf.Ren} {α : Type} [Inhabited α] (L : Go.Proofs.SlLaysF0.n6 P ρ) (E : Enc α) (Ok : α → Prop) (x0 : α) (hx0 : Ok x0) (cf : α → α → Int) (hA : AggT P (ρ.t 24) E.sz)
    (hO : SWO (ltOf (fun a b : {a // Ok a} => cf a.1 b.1))) {g : Nat} {fn : Func} (hf : P.funcs[g]? = some fn) (hb : fn.body.isNone = false) (hn : (fn.name == "runtime.NumGoroutine") = false)
    (hc : ∀ a b, Ok a → Ok b → ∀ w, Calls P g #[.agg (E.enc a).toArray, .agg (E.enc b).toArray] w fun e w' => e = .returned (.int .i64 (cf a b)) ∧ Bel w w')
    {t : Nat} {v : Value} {xs : List α} {w : World} (hH : (own t E.sz v xs.length (E.encs xs)).holds w) (ho : ∀ x, x ∈ xs → Ok x) (hs : xs.length < 4611686018427387904) :
    Calls P (ρ.f 6) #[v, .func (.func g) #[] #[]] w fun e w' => e = .returned (.tuple #[]) ∧ ∃ xs', xs'.Perm xs ∧ xs'.Pairwise (fun a b => ¬ cf b a < 0) ∧ (own t E.sz v xs'.length (E.encs xs')).holds w' ∧ BelO v.ownBlock.toList w w' := by
  rcases hH.2 with ⟨rfl, hn0⟩ | ⟨blk, cap, cur, rfl, _, hcur, hcap, hmax, hsz, htk⟩
  · obtain rfl : xs = [] := List.eq_nil_of_length_eq_zero hn0
    refine (Go.Proofs.AnyF.slices_SortFunc_none { L with } none 0 _ w).mono ?_
    rintro e w' ⟨rfl, rfl⟩
    exact ⟨rfl, [], .refl _, .nil, hH, ⟨rfl, rfl, rfl, Nat.le_refl _, Nat.le_refl _, fun _ _ _ => rfl⟩⟩
  · haveI : Inhabited {a // Ok a} := ⟨⟨x0, hx0⟩⟩
    let d : Array {a // Ok a} := (xs.attachWith Ok ho).toArray
    have hd : d.toList.map (·.1) = xs := by simp [d]
    have hds : d.size = xs.length := by simp [d]
    have hblk : blk < w.heap.size := lt_of_block hcur
    let enc : {a // Ok a} → List Value := fun x => E.enc x.1
    have hHK : HoldsK enc E.sz w blk 0 d := by
      intro j hj
      have hj' : j < xs.length * E.sz := by rw [← hds]; simpa using hj
      have hfl := flat_encs E (fun x : {a // Ok a} => x.1) d
      rw [hd] at hfl
      have h1 : (flatK enc E.sz d)[j]? = some (flatK enc E.sz d)[j]! := by rw [Array.getElem?_eq_getElem hj, getElem!_pos (flatK enc E.sz d) j hj]
      have h2 : (E.encs xs)[j]? = some (flatK enc E.sz d)[j]! := by rw [← hfl, Array.getElem?_toList]; exact h1
      rw [← htk, List.getElem?_take, if_pos hj', Array.getElem?_toList] at h2
      constructor
      · simp only [World.cell?, hcur, Nat.zero_add]
        simpa using h2
      · simp [World.frozen?, hcur]
    have hcl : CmpLays P g #[] enc E.sz (fun a b => cf a.1 b.1) blk 0 d.size w := by
      intro m os dk hdk x y
      refine (hc x.1 y.1 x.2 y.2 _).mono ?_
      rintro e w' ⟨rfl, hB⟩
      exact ⟨rfl, bel_grow hB⟩
    have eg : ∀ args w, (callFunc g args).run P w = .ok (.enter g args) w := by
      intro args w
      unfold callFunc
      simp only [run_program, Sem.run_bind, Result.andThen_ok, hf, hn, hb, Bool.false_eq_true, if_false, Sem.run_pure]
    have hcon := Go.Proofs.AnyQ.slices_SortFunc L E.sz (run_isAgg_t hA) (run_szOf hA.size) enc (fun x => E.len _) (fun x v hv => E.one _ v hv) (fun a b => cf a.1 b.1) hO g #[] blk 0 cap d w eg hcl hHK hblk (by rw [hds]; exact hs)
    rw [hds] at hcon
    refine hcon.mono ?_
    rintro e w' ⟨rfl, d', n, os, hp, hsorted, rfl⟩
    have hds' : d'.size = xs.length := hp.1.trans hds
    have hl' : (d'.toList.map (·.1)).length = xs.length := by simpa using hds'
    have hperm : d'.toList.Perm d.toList := by
      have := hp.2.2
      rwa [show d'.extract 0 xs.length = d' by rw [← hds']; simp, show d.extract 0 xs.length = d by rw [← hds]; simp] at this
    have hmsz : (putRowK enc E.sz (Go.Sort.ahead w n) blk 0 d').heap.size = w.heap.size := by simp [putRowK, putRow, mapBlock, Go.Sort.ahead]
    refine ⟨rfl, d'.toList.map (·.1), ?_, ?_, ⟨?_, .inr ⟨blk, cap, putCells id 0 (flatK enc E.sz d') cur, by rw [hl'], Nat.zero_le _, ?_, by rw [hl']; exact hcap, hmax, by simp [putCells, hsz], ?_⟩⟩, ?_⟩
    · have := hperm.map (·.1); rwa [hd] at this
    · rw [List.pairwise_map, List.pairwise_iff_getElem]
      intro i j hi hj hij
      have := hsorted i j (Nat.zero_le _) hij (by simpa [hds'] using hj)
      rw [getElem!_pos d' i (by simpa using hi), getElem!_pos d' j (by simpa using hj)] at this
      simpa [ltOf] using this
    · rw [E.encs_len]
    · show (grow (putRowK enc E.sz (Go.Sort.ahead w n) blk 0 d') os).heap[blk]? = _
      rw [Go.Sort.heap_grow_old _ _ (by rw [hmsz]; exact hblk)]
      simp only [putRowK, putRow, mapBlock, Go.Sort.ahead, Array.getElem?_modify, if_true, hcur, Option.map_some, onCells]
    · rw [hl', ← flat_encs E (fun x : {a // Ok a} => x.1) d']
      apply List.ext_getElem?
      intro j
      have hfs : (flatK enc E.sz d').size = xs.length * E.sz := by simp [hds']
      by_cases hj : j < xs.length * E.sz
      · rw [List.getElem?_take, if_pos hj, Array.getElem?_toList, Array.getElem?_toList]
        have hjc : j < cur.size := by rw [hsz]; exact Nat.lt_of_lt_of_le hj (Nat.mul_le_mul_right _ hcap)
        have hjf : j < (flatK enc E.sz d').size := by rw [hfs]; exact hj
        simp only [putCells, Array.getElem?_mapIdx, Array.getElem?_eq_getElem hjc, Option.map_some, Nat.zero_le, true_and, Nat.zero_add, hjf, if_true, Nat.sub_zero, id]
        rw [getElem!_pos (flatK enc E.sz d') j hjf]
        exact (Array.getElem?_eq_getElem hjf).symm
      · rw [List.getElem?_eq_none (by simp; omega), List.getElem?_eq_none (by simp [hds']; omega)]
    · refine ⟨rfl, rfl, rfl, ?_, ?_, fun c hc hne => ?_⟩
      · show w.heap.size ≤ (grow (putRowK enc E.sz (Go.Sort.ahead w n) blk 0 d') os).heap.size
        simp [grow, hmsz]
      · exact Nat.le_add_right _ _
      · show (grow (putRowK enc E.sz (Go.Sort.ahead w n) blk 0 d') os).heap[c]? = _
        rw [Go.Sort.heap_grow_old _ _ (by rw [hmsz]; exact hc)]
        have hne' : blk ≠ c := fun e => hne (by simp [Value.ownBlock, e])
        simp only [putRowK, putRow, mapBlock, Go.Sort.ahead, Array.getElem?_modify, hne', if_false]
section
variable {P : Program} {ops : Array Oper} {Q : Exit → Act → World → Prop} {n : Nat} {e : Env} {w w' : World} {rest : List Oper}
variable {X : Nat → Prop} {w0 : World} {M Ps : List Item}
variable {d ty : Nat} {pos : String} {af : Array Edge}
/-- What is known of a comparing function: it may sort. -/
structure Cmp (P : Program) (ρ : Go.Shelf.Ren) {α : Type} [Inhabited α] (E : Enc α) (Ok : α → Prop) (cf : α → α → Int) (g : Nat) : Prop where
  lays : Go.Proofs.SlLaysF0.n6 P ρ
  one : ∃ x0, Ok x0
  agg : AggT P (ρ.t 24) E.sz
  swo : SWO (ltOf (fun a b : {a // Ok a} => cf a.1 b.1))
  fn : ∃ fn : Func, P.funcs[g]? = some fn ∧ fn.body.isNone = false ∧ (fn.name == "runtime.NumGoroutine") = false
  call : ∀ a b, Ok a → Ok b → ∀ w, Calls P g #[.agg (E.enc a).toArray, .agg (E.enc b).toArray] w fun e w' => e = .returned (.int .i64 (cf a b)) ∧ Bel w w'
theorem s_sort (hC : Ctx X w0 w M Ps) (k : Nat) {ρ : Go.Shelf.Ren} {α : Type} [Inhabited α] {E : Enc α} {Ok : α → Prop} {cf : α → α → Int} {g f : Nat} (K : Cmp P ρ E Ok cf g) (hff : ρ.f 6 = f) {t : Nat} {v : Value} {xs : List α} {x y : Operand} {G : List α → Prop} (hk : M[k]? = some (own t E.sz v xs.length (E.encs xs)))
    {fn : Func} {at_ : Array Nat} (hf : P.funcs[f]? = some fn) (hb : fn.body.isNone = false) (hne : (fn.name == "runtime.NumGoroutine") = false)
    (hx : ev n e x = v) (hy : ev n e y = .func (.func g) #[] #[]) (hs : SortP Ok cf xs G)
    (h : ∀ xs' w', G xs' → Ctx X w0 w' (M.set k (own t E.sz v xs'.length (E.encs xs'))) Ps → W P ops Q rest n (upd e d (.tuple #[])) w') :
    W P ops Q (⟨some d, .call { callee := .value (.func f), args := #[x, y], argTypes := at_ }, ty, pos, af, none⟩ :: rest) n e w := by
  obtain ⟨x0, hx0⟩ := K.one
  obtain ⟨fg, q1, q2, q3⟩ := K.fn
  have hc := sort_own K.lays E Ok x0 hx0 cf K.agg K.swo q1 q2 q3 K.call (hC.getM k hk) hs.1.1 hs.1.2
  rw [hff] at hc
  refine s_call (l := [x, y]) [v, .func (.func g) #[] #[]] _ hf hb hne (by simp [hx, hy]) hc ?_
  rintro ret w'' ⟨rfl, xs', hp, hw, hh, hB⟩
  exact ⟨_, rfl, h xs' w'' (hs.2 xs' hp hw) (hC.turn k hk hB.os hB.tape hB.output hB.size hB.drawn hB.old hh (fun b hb => .inl hb))⟩
end
end Vc
