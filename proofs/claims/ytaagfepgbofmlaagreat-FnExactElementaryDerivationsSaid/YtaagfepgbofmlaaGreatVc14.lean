/- What comes in: data that the statement reads are data that the walks read. -/
import Derived.Test.YtaagfepgbofmlaaGreatVc13
import Derived.ProofKit
import Derived.OpenShut
import Derived.Deep.Slices
set_option linter.unusedVariables false
set_option linter.unusedSimpArgs false
namespace Vc
open Go Go.RowKit Go.ChangeShapes Go.WideShapes Go.ChangeAt
section
variable {H : Type} {enc : TypeId × Value → H} {P : Program} {W : World}
/-- All blocks. -/
abbrev allB (W : World) : List Nat := List.range W.heap.size
def Opens (enc : TypeId × Value → H) (P : Program) (W : World) (t : TypeId) {α : Type} (T : Ty α) (G : α → Prop) : Prop :=
  ∀ fuel cs x, DataW.trod enc P W 0 (fun _ => true) true fuel t cs = some x → ∃ a, T.rep a cs (allB W) W ∧ G a
theorem allB_lt : ∀ b, b ∈ allB W → b < W.heap.size := by simp
def Fit (k : IntKind) (n : Int) : Prop := (Lit.int k n).wf = true
def FitA (k : IntKind) (a : A8) : Prop := ∀ x, x ∈ a.list → Fit k x
theorem opens_int {t : TypeId} {k : IntKind} (ht : P.underlying t = some (.int k)) : Opens enc P W t (EI k).ty (Fit k) := by
  intro fuel cs x h
  obtain ⟨n, rfl, _, hw⟩ := DataW.trod_int ht h
  exact ⟨n, ⟨allB_lt, rfl⟩, hw⟩
theorem opens_arr {t e : TypeId} {k : IntKind} (ht : P.underlying t = some (.array 8 e)) (he : P.underlying e = some (.int k)) (hc : P.cellsOf e = 1) (hc8 : P.cellsOf t = 8) : Opens enc P W t (EA k).ty (FitA k) := by
  intro fuel cs x h
  obtain ⟨xs, m, rfl, _, hl, hxl, hx⟩ := DataW.trod_array ht h
  rw [hc8] at hl
  have key : ∀ i, i < 8 → ∃ n, cs[i]? = some (.int k n) ∧ Fit k n := by
    intro i hi
    have h1 := hx i hi
    rw [List.getElem?_eq_getElem (by omega)] at h1
    obtain ⟨n, h2, _, hw⟩ := DataW.trod_int he h1
    rw [hc, Nat.mul_one, List.take_one, List.head?_drop] at h2
    refine ⟨n, ?_, hw⟩
    cases hq : cs[i]? with
    | none => rw [hq] at h2; cases h2
    | some v => rw [hq] at h2; simpa using h2
  obtain ⟨n0, e0, w0⟩ := key 0 (by omega)
  obtain ⟨n1, e1, w1⟩ := key 1 (by omega)
  obtain ⟨n2, e2, w2⟩ := key 2 (by omega)
  obtain ⟨n3, e3, w3⟩ := key 3 (by omega)
  obtain ⟨n4, e4, w4⟩ := key 4 (by omega)
  obtain ⟨n5, e5, w5⟩ := key 5 (by omega)
  obtain ⟨n6, e6, w6⟩ := key 6 (by omega)
  obtain ⟨n7, e7, w7⟩ := key 7 (by omega)
  refine ⟨⟨n0, n1, n2, n3, n4, n5, n6, n7⟩, ⟨allB_lt, ?_⟩, ?_⟩
  · show cs = [.int k n0, .int k n1, .int k n2, .int k n3, .int k n4, .int k n5, .int k n6, .int k n7]
    apply List.ext_getElem?
    intro i
    by_cases hi : i < 8
    · match i, hi with
      | 0, _ => exact e0
      | 1, _ => exact e1
      | 2, _ => exact e2
      | 3, _ => exact e3
      | 4, _ => exact e4
      | 5, _ => exact e5
      | 6, _ => exact e6
      | 7, _ => exact e7
    · rw [List.getElem?_eq_none (by omega), List.getElem?_eq_none (by simp; omega)]
  · intro x hx
    simp only [A8.list, List.mem_cons, List.not_mem_nil, or_false] at hx
    rcases hx with rfl | rfl | rfl | rfl | rfl | rfl | rfl | rfl <;> assumption
theorem flat_seg {sz : Nat} (L : List (List Value)) (hL : ∀ c, c ∈ L → c.length = sz) (i : Nat) (hi : i < L.length) : (L.flatten.drop (i * sz)).take sz = L[i] := by
  induction L generalizing i with
  | nil => simp at hi
  | cons c L ih =>
    have hc := hL c (by simp)
    cases i with
    | zero => simp [List.flatten_cons, ← hc]
    | succ i =>
      rw [List.flatten_cons, Nat.add_mul, Nat.one_mul, Nat.add_comm (i * sz), ← List.drop_drop, List.drop_left' hc]
      exact ih (fun c' h' => hL c' (by simp [h'])) i (by simpa using hi)
theorem flat_len {sz : Nat} (L : List (List Value)) (hL : ∀ c, c ∈ L → c.length = sz) : L.flatten.length = L.length * sz := by
  induction L with
  | nil => simp
  | cons c L ih => rw [List.flatten_cons, List.length_append, hL c (by simp), ih (fun c' h' => hL c' (by simp [h'])), List.length_cons, Nat.add_mul, Nat.one_mul, Nat.add_comm]
theorem opens_slice {α : Type} [Inhabited α] {T : Ty α} {G : α → Prop} {t e : TypeId} (ht : P.underlying t = some (.slice e)) (hc : P.cellsOf e = T.sz) (hpos : 0 < T.sz) (ho : Opens enc P W e T G) : Opens enc P W t T.sl (fun xs => ∀ x, x ∈ xs → G x) := by
  intro fuel cs x h
  rcases Go.Deep.open_slice ht h with ⟨rfl, rfl⟩ | ⟨a, len, cap, m, n, D, Pl, rfl, _, hl, hm, hmm, rfl, hx⟩
  · exact ⟨[], T.sl.more (rep_nil T W) (by simp) allB_lt, by simp⟩
  · have hlm : len ≤ m := by rw [hmm]; simp [hl]
    obtain ⟨f, hf⟩ := Go.Deep.choose_lt (n := len) (p := fun i (q : α × List Value) => W.cells? 0 (a.add (i * P.cellsOf e)) (P.cellsOf e) = some q.2 ∧ T.rep q.1 q.2 (allB W) W ∧ G q.1) (fun i hi => by
      obtain ⟨cs', h1, h2⟩ := hx i (by omega)
      obtain ⟨x0, hr, hg⟩ := ho _ _ _ h2
      exact ⟨(x0, cs'), h1, hr, hg⟩)
    let L := (List.range len).map (fun i => (f i).2)
    have hLs : ∀ c, c ∈ L → c.length = T.sz := by
      intro c hcm
      obtain ⟨i, hi, rfl⟩ := List.mem_map.1 hcm
      exact T.len (hf i (by simpa using hi)).2.1
    have hLl : L.length = len := by simp [L]
    have hxl : ((List.range len).map (fun i => (f i).1)).length = len := by simp
    have hseg : ∀ i (hi : i < len), (L.flatten.drop (i * T.sz)).take T.sz = (f i).2 := by
      intro i hi
      rw [flat_seg L hLs i (by omega)]
      simp [L]
    refine ⟨(List.range len).map (fun i => (f i).1), ⟨_, L.flatten, rfl, ⟨allB_lt, ?_, ?_, some a, cap, by rw [hxl], fun hn => ⟨a, rfl, ?_, ?_⟩⟩, allB_lt, ?_, ?_, ?_⟩, ?_⟩
    · rw [flat_len L hLs, hLl, hxl]
    · rw [hxl]; omega
    · rw [hxl] at hn
      have := World.cells?_block (hf 0 hn).1 (by rw [hc]; exact hpos)
      simpa [Addr.add] using this
    · intro j u hj
      have hjl : j < len * T.sz := by
        have := (List.getElem?_eq_some_iff.1 hj).1
        rwa [flat_len L hLs, hLl] at this
      have hi : j / T.sz < len := Nat.div_lt_of_lt_mul (by rw [Nat.mul_comm]; exact hjl)
      have hj2 := congrArg (fun l : List Value => l[j % T.sz]?) (hseg _ hi)
      simp only [List.getElem?_take, List.getElem?_drop, Nat.mod_lt _ hpos, if_true, Nat.div_add_mod'] at hj2
      rw [hj] at hj2
      obtain ⟨_, _, h3⟩ := World.cells?_some (hf _ hi).1
      have h4 := h3 (j % T.sz) (by rw [hc]; exact Nat.mod_lt _ hpos)
      rw [hc, add_add, Nat.div_add_mod'] at h4
      rw [h4]; exact hj2.symm
    · rw [flat_len L hLs, hLl, hxl]
    · intro u hu
      obtain ⟨c, hcm, huc⟩ := List.mem_flatten.1 hu
      obtain ⟨i, hi, rfl⟩ := List.mem_map.1 hcm
      exact T.one (hf i (by simpa using hi)).2.1 u huc
    · intro i hi
      rw [hxl] at hi
      rw [hseg i hi]
      simpa using (hf i hi).2.1
    · intro x hx'
      obtain ⟨i, hi, rfl⟩ := List.mem_map.1 hx'
      exact (hf i (by simpa using hi)).2.2
/-- An argument that comes in. -/
theorem Opens.arg {α : Type} {T : Ty α} {G : α → Prop} {t : TypeId} (ho : Opens enc P W t T G) {v : Value} {d : DataW H} {ps : List MemPlace} (h : DataW.Trod enc P W 0 (fun _ => true) true t v d ps) : ∃ a, T.rep a v.cells.toList (allB W) W ∧ G a := by
  obtain ⟨fuel, hf⟩ := h
  exact ho _ _ _ hf
theorem lt_of_trod {t : TypeId} {v : Value} {d : DataW H} {ps : List MemPlace} (h : DataW.Trod enc P W 0 (fun _ => true) true t v d ps) : ∀ x ∈ ps, x.block < W.heap.size := by
  obtain ⟨m, hm⟩ := h
  exact DataW.trod_lt m _ _ _ hm
end
end Vc
namespace Vc
open Go
theorem okWide_agg {P : Program} {w : World} {r : Reach} {base : Nat} {t : TypeId} {v : Value} (h : Value.okWide P w r base t v) (hu : ∃ d, P.underlying t = some d ∧ (match d with | .struct _ | .array _ _ => true | _ => false) = true) : ∃ cs, v = .agg cs := by
  obtain ⟨d, hu, hd⟩ := hu
  cases d <;> first
    | (simp only [Value.okWide, hu] at h; obtain ⟨cs, h1, _⟩ := h; exact ⟨cs, h1⟩)
    | cases hd
theorem agg_parts2 {c : Array Value} (h : (Value.agg c).cells.toList.length = 2) : ∃ u v, c = #[u, v] := by
  obtain ⟨u, v, hu⟩ := len_two h
  exact ⟨u, v, by simpa [Value.cells] using congrArg List.toArray hu⟩
end Vc
namespace Vc
open Go Go.RowKit Go.ChangeShapes Go.WideShapes Go.ChangeAt
section
variable {H : Type} {enc : TypeId × Value → H} {P : Program} {W : World}
theorem opens_s1 {α β : Type} {T : Ty α} {G : α → Prop} (f : β → α) (g : α → β) (hg : ∀ x, f (g x) = x) {t : TypeId} {f0 : Field} (ht : P.underlying t = some (.struct #[f0])) (h0 : f0.offset = 0) (hc : P.cellsOf f0.type = P.cellsOf t)
    (h : Opens enc P W f0.type T G) : Opens enc P W t (Ty.iso f T) (fun b => G (f b)) := by
  intro fuel cs x hx
  obtain ⟨y0, n, _, hl, hy⟩ := trod_struct1 ht hx
  rw [h0, List.drop_zero, List.take_of_length_le (by omega)] at hy
  obtain ⟨a, hr, hga⟩ := h _ _ _ hy
  refine ⟨g a, ?_, ?_⟩
  · show T.rep (f (g a)) cs (allB W) W
    rw [hg]; exact hr
  · show G (f (g a))
    rw [hg]; exact hga
theorem opens_s2 {α γ β : Type} {T : Ty α} {S : Ty γ} {G : α → Prop} {D : γ → Prop} (f : β → α × γ) (g : α × γ → β) (hg : ∀ x, f (g x) = x) {t : TypeId} {f0 f1 : Field} (ht : P.underlying t = some (.struct #[f0, f1])) (h0 : f0.offset = 0)
    (h1 : f1.offset = P.cellsOf f0.type) (hc : P.cellsOf f0.type + P.cellsOf f1.type = P.cellsOf t) (h : Opens enc P W f0.type T G) (k : Opens enc P W f1.type S D) : Opens enc P W t (Ty.iso f (Ty.pair T S)) (fun b => G (f b).1 ∧ D (f b).2) := by
  intro fuel cs x hx
  obtain ⟨y0, y1, n, _, hl, hy, hz⟩ := trod_struct2 ht hx
  rw [h0, List.drop_zero] at hy
  rw [h1, List.take_of_length_le (by rw [List.length_drop]; omega)] at hz
  obtain ⟨a, hr, hga⟩ := h _ _ _ hy
  obtain ⟨c, hs, hgc⟩ := k _ _ _ hz
  refine ⟨g (a, c), ?_, ?_⟩
  · show ∃ c1 c2, cs = c1 ++ c2 ∧ T.rep (f (g (a, c))).1 c1 (allB W) W ∧ S.rep (f (g (a, c))).2 c2 (allB W) W
    rw [hg]
    exact ⟨_, _, (List.take_append_drop _ _).symm, hr, hs⟩
  · show G (f (g (a, c))).1 ∧ D (f (g (a, c))).2
    rw [hg]; exact ⟨hga, hgc⟩
theorem opens_Term {t : TypeId} {f0 f1 : Field} (ht : P.underlying t = some (.struct #[f0, f1])) (h0 : f0.offset = 0) (h1 : f1.offset = P.cellsOf f0.type) (hc : P.cellsOf f0.type + P.cellsOf f1.type = P.cellsOf t)
    (h : Opens enc P W f0.type (EA .u8).ty (FitA .u8)) (k : Opens enc P W f1.type (EI .i64).ty (Fit .i64)) : Opens enc P W t ETerm.ty (fun x => FitA .u8 x.mono ∧ Fit .i64 x.factor) := by
  intro fuel cs x hx
  obtain ⟨a, ⟨c1, c2, rfl, hr, hs⟩, hg⟩ := opens_s2 (fun x : Term => (x.mono, x.factor)) (fun p => ⟨p.1, p.2⟩) (fun _ => rfl) ht h0 h1 hc h k fuel cs x hx
  refine ⟨a, ⟨allB_lt, ?_⟩, hg⟩
  rw [hr.2, hs.2]; rfl
end
end Vc
