/- What comes in: data that the statement reads are data that the walks read. -/
import Derived.Test.YtaagfepgbofmlaaVc13
import Derived.ProofKit
import Derived.OpenShut
import Derived.Deep.Slices
set_option linter.unusedVariables false
set_option linter.unusedSimpArgs false
namespace Vc
open Go Go.RowKit Go.ChangeShapes Go.WideShapes Go.ChangeAt
section
variable {H : Type} {enc : TypeId × Value → H} {P : Program} {W : World}
/-- All blocks. -/
abbrev allB (W : World) : List Nat := List.range W.heap.size
def Opens (enc : TypeId × Value → H) (P : Program) (W : World) (t : TypeId) {α : Type} (T : Ty α) (G : α → Prop) : Prop :=
  ∀ fuel cs x, DataW.trod enc P W 0 (fun _ => true) true fuel t cs = some x → ∃ a, T.rep a cs (allB W) W ∧ G a
theorem allB_lt : ∀ b, b ∈ allB W → b < W.heap.size := by simp
def Fit (k : IntKind) (n : Int) : Prop := (Lit.int k n).wf = true
def FitA (k : IntKind) (a : A8) : Prop := ∀ x, x ∈ a.list → Fit k x
theorem opens_int {t : TypeId} {k : IntKind} (ht : P.underlying t = some (.int k)) : Opens enc P W t (EI k).ty (Fit k) := by
  intro fuel cs x h
  obtain ⟨n, rfl, _, hw⟩ := DataW.trod_int ht h
  exact ⟨n, ⟨allB_lt, rfl⟩, hw⟩
theorem flat_seg {sz : Nat} (L : List (List Value)) (hL : ∀ c, c ∈ L → c.length = sz) (i : Nat) (hi : i < L.length) : (L.flatten.drop (i * sz)).take sz = L[i] := by
  induction L generalizing i with
  | nil => simp at hi
  | cons c L ih =>
    have hc := hL c (by simp)
    cases i with
    | zero => simp [List.flatten_cons, ← hc]
    | succ i =>
      rw [List.flatten_cons, Nat.add_mul, Nat.one_mul, Nat.add_comm (i * sz), ← List.drop_drop, List.drop_left' hc]
      exact ih (fun c' h' => hL c' (by simp [h'])) i (by simpa using hi)
theorem flat_len {sz : Nat} (L : List (List Value)) (hL : ∀ c, c ∈ L → c.length = sz) : L.flatten.length = L.length * sz := by
  induction L with
  | nil => simp
  | cons c L ih => rw [List.flatten_cons, List.length_append, hL c (by simp), ih (fun c' h' => hL c' (by simp [h'])), List.length_cons, Nat.add_mul, Nat.one_mul, Nat.add_comm]
theorem opens_slice {α : Type} [Inhabited α] {T : Ty α} {G : α → Prop} {t e : TypeId} (ht : P.underlying t = some (.slice e)) (hc : P.cellsOf e = T.sz) (hpos : 0 < T.sz) (ho : Opens enc P W e T G) : Opens enc P W t T.sl (fun xs => ∀ x, x ∈ xs → G x) := by
  intro fuel cs x h
  rcases Go.Deep.open_slice ht h with ⟨rfl, rfl⟩ | ⟨a, len, cap, m, n, D, Pl, rfl, _, hl, hm, hmm, rfl, hx⟩
  · exact ⟨[], T.sl.more (rep_nil T W) (by simp) allB_lt, by simp⟩
  · have hlm : len ≤ m := by rw [hmm]; simp [hl]
    obtain ⟨f, hf⟩ := Go.Deep.choose_lt (n := len) (p := fun i (q : α × List Value) => W.cells? 0 (a.add (i * P.cellsOf e)) (P.cellsOf e) = some q.2 ∧ T.rep q.1 q.2 (allB W) W ∧ G q.1) (fun i hi => by
      obtain ⟨cs', h1, h2⟩ := hx i (by omega)
      obtain ⟨x0, hr, hg⟩ := ho _ _ _ h2
      exact ⟨(x0, cs'), h1, hr, hg⟩)
    let L := (List.range len).map (fun i => (f i).2)
    have hLs : ∀ c, c ∈ L → c.length = T.sz := by
      intro c hcm
      obtain ⟨i, hi, rfl⟩ := List.mem_map.1 hcm
      exact T.len (hf i (by simpa using hi)).2.1
    have hLl : L.length = len := by simp [L]
    have hxl : ((List.range len).map (fun i => (f i).1)).length = len := by simp
    have hseg : ∀ i (hi : i < len), (L.flatten.drop (i * T.sz)).take T.sz = (f i).2 := by
      intro i hi
      rw [flat_seg L hLs i (by omega)]
      simp [L]
    refine ⟨(List.range len).map (fun i => (f i).1), ⟨_, L.flatten, rfl, ⟨allB_lt, ?_, ?_, some a, cap, by rw [hxl], fun hn => ⟨a, rfl, ?_, ?_⟩⟩, allB_lt, ?_, ?_, ?_⟩, ?_⟩
    · rw [flat_len L hLs, hLl, hxl]
    · rw [hxl]; omega
    · rw [hxl] at hn
      have := World.cells?_block (hf 0 hn).1 (by rw [hc]; exact hpos)
      simpa [Addr.add] using this
    · intro j u hj
      have hjl : j < len * T.sz := by
        have := (List.getElem?_eq_some_iff.1 hj).1
        rwa [flat_len L hLs, hLl] at this
      have hi : j / T.sz < len := Nat.div_lt_of_lt_mul (by rw [Nat.mul_comm]; exact hjl)
      have hj2 := congrArg (fun l : List Value => l[j % T.sz]?) (hseg _ hi)
      simp only [List.getElem?_take, List.getElem?_drop, Nat.mod_lt _ hpos, if_true, Nat.div_add_mod'] at hj2
      rw [hj] at hj2
      obtain ⟨_, _, h3⟩ := World.cells?_some (hf _ hi).1
      have h4 := h3 (j % T.sz) (by rw [hc]; exact Nat.mod_lt _ hpos)
      rw [hc, add_add, Nat.div_add_mod'] at h4
      rw [h4]; exact hj2.symm
    · rw [flat_len L hLs, hLl, hxl]
    · intro u hu
      obtain ⟨c, hcm, huc⟩ := List.mem_flatten.1 hu
      obtain ⟨i, hi, rfl⟩ := List.mem_map.1 hcm
      exact T.one (hf i (by simpa using hi)).2.1 u huc
    · intro i hi
      rw [hxl] at hi
      rw [hseg i hi]
      simpa using (hf i hi).2.1
    · intro x hx'
      obtain ⟨i, hi, rfl⟩ := List.mem_map.1 hx'
      exact (hf i (by simpa using hi)).2.2
/-- An argument that comes in. -/
theorem Opens.arg {α : Type} {T : Ty α} {G : α → Prop} {t : TypeId} (ho : Opens enc P W t T G) {v : Value} {d : DataW H} {ps : List MemPlace} (h : DataW.Trod enc P W 0 (fun _ => true) true t v d ps) : ∃ a, T.rep a v.cells.toList (allB W) W ∧ G a := by
  obtain ⟨fuel, hf⟩ := h
  exact ho _ _ _ hf
theorem lt_of_trod {t : TypeId} {v : Value} {d : DataW H} {ps : List MemPlace} (h : DataW.Trod enc P W 0 (fun _ => true) true t v d ps) : ∀ x ∈ ps, x.block < W.heap.size := by
  obtain ⟨m, hm⟩ := h
  exact DataW.trod_lt m _ _ _ hm
end
end Vc
namespace Vc
open Go
end Vc
namespace Vc
open Go Go.RowKit Go.ChangeShapes Go.WideShapes Go.ChangeAt
section
variable {H : Type} {enc : TypeId × Value → H} {P : Program} {W : World}
end
end Vc
