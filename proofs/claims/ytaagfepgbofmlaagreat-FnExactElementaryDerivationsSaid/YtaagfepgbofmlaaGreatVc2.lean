/- What is known of memory: items with their blocks; the laws by which operations on memory turn them. -/
import Derived.Test.YtaagfepgbofmlaaGreatVc1
import Derived.Maps.AppendAt
set_option linter.unusedVariables false
set_option linter.unusedSimpArgs false
namespace Vc
open Go Go.RowKit
/-- New memory alone; the tape is not turned back. -/
structure Bel (w w' : World) : Prop extends Below w.heap.size w w' where
  drawn : w.drawn ≤ w'.drawn
theorem Bel.refl (w : World) : Bel w w := ⟨Below.refl _ _, Nat.le_refl _⟩
theorem Bel.trans {a b c : World} (h : Bel a b) (k : Bel b c) : Bel a c := ⟨h.toBelow.trans (k.toBelow.mono h.size), Nat.le_trans h.drawn k.drawn⟩
theorem Bel.alloc (w : World) (o : Obj) : Bel w (w.alloc o) := ⟨(Below.refl _ _).alloc (Nat.le_refl _) _, Nat.le_refl _⟩
structure Item where
  fp : List Nat
  holds : World → Prop
  keep : ∀ w w' : World, (∀ b, b ∈ fp → w'.heap[b]? = w.heap[b]?) → holds w → holds w'
  low : ∀ w : World, holds w → ∀ b, b ∈ fp → b < w.heap.size
theorem lt_of_block {w : World} {b : Nat} {o : Obj} (h : w.heap[b]? = some o) : b < w.heap.size := (Array.getElem?_eq_some_iff.1 h).1
/-- A block of the call's own, its cells written out. -/
def blk (b t : Nat) (cs : List Value) : Item where
  fp := [b]
  holds w := w.heap[b]? = some (.cells cs.toArray t (0, 0))
  keep _ _ h hw := (h b (by simp)).trans hw
  low _ hw c hc := by obtain rfl : c = b := by simpa using hc
                      exact lt_of_block hw
/-- A row of the call's own: it may be appended to. -/
def own (t sz : Nat) (v : Value) (n : Nat) (cs : List Value) : Item where
  fp := v.ownBlock.toList
  holds w := w.ownsRow 0 t sz v n cs
  keep w w' h hw := by
    obtain ⟨h1, h2⟩ := hw
    refine ⟨h1, ?_⟩
    rcases h2 with h2 | ⟨g, cap, cur, rfl, hg, hh, r⟩
    · exact .inl h2
    · exact .inr ⟨g, cap, cur, rfl, hg, (h g (by simp [Value.ownBlock])).trans hh, r⟩
  low w hw b hb := by
    rcases hw.2 with ⟨rfl, _⟩ | ⟨g, cap, cur, rfl, _, hh, _⟩
    · simp [Value.ownBlock] at hb
    · obtain rfl : b = g := by simpa [Value.ownBlock] using hb
      exact lt_of_block hh
/-- A row that is read. -/
def rdr (sz : Nat) (v : Value) (n : Nat) (cs : List Value) (fp : List Nat) : Item where
  fp := fp
  holds w := (∀ b, b ∈ fp → b < w.heap.size) ∧ cs.length = n * sz ∧ n ≤ maxLen ∧
    ∃ A c, v = .slice A n c ∧ (0 < n → ∃ a, A = some a ∧ a.block ∈ fp ∧ ∀ j u, cs[j]? = some u → w.cell? (a.add j) = some u)
  keep w w' h hw := by
    obtain ⟨h0, h1, h2, A, c, rfl, h3⟩ := hw
    refine ⟨fun b hb => ?_, h1, h2, A, c, rfl, fun hn => ?_⟩
    · have := h0 b hb
      have e := h b hb
      rcases Nat.lt_or_ge b w'.heap.size with hl | hl
      · exact hl
      · rw [Array.getElem?_eq_none hl, Array.getElem?_eq_getElem this] at e; cases e
    · obtain ⟨a, rfl, ha, hc⟩ := h3 hn
      refine ⟨a, rfl, ha, fun j u hj => ?_⟩
      have hb : (a.add j).block = a.block := by unfold Addr.add; split <;> rfl
      exact (World.cell?_of_block (by rw [hb]; exact h _ ha)).trans (hc j u hj)
  low _ hw := hw.1
/-- Two items as one. -/
def Item.and (a b : Item) : Item where
  fp := a.fp ++ b.fp
  holds w := a.holds w ∧ b.holds w
  keep w w' h hw := ⟨a.keep w w' (fun x hx => h x (List.mem_append_left _ hx)) hw.1, b.keep w w' (fun x hx => h x (List.mem_append_right _ hx)) hw.2⟩
  low w hw x hx := by
    rcases List.mem_append.1 hx with h | h
    · exact a.low w hw.1 x h
    · exact b.low w hw.2 x h
/-- What is known: `M` may be written, `Ps` is read alone; below the world's first size nothing has turned but in `X`. -/
structure Ctx (X : Nat → Prop) (w0 w : World) (M Ps : List Item) : Prop where
  os : w.os = w0.os
  tape : w.tape = w0.tape
  output : w.output = w0.output
  size : w0.heap.size ≤ w.heap.size
  drawn : w0.drawn ≤ w.drawn
  old : ∀ b, b < w0.heap.size → ¬ X b → w.heap[b]? = w0.heap[b]?
  m : ∀ it, it ∈ M → it.holds w
  p : ∀ it, it ∈ Ps → it.holds w
  mfp : ∀ it, it ∈ M → ∀ b, b ∈ it.fp → w0.heap.size ≤ b ∨ X b
  dis : M.Pairwise (fun a b => ∀ x, x ∈ a.fp → x ∉ b.fp)
  pd : ∀ it, it ∈ Ps → ∀ b, b ∈ it.fp → ∀ m, m ∈ M → b ∉ m.fp
def Nox : Nat → Prop := fun _ => False
namespace Ctx
variable {X : Nat → Prop} {w0 w w' : World} {M Ps : List Item}
theorem getM (h : Ctx X w0 w M Ps) {it : Item} (k : Nat) (hk : M[k]? = some it) : it.holds w := h.m it (List.mem_of_getElem? hk)
theorem getP (h : Ctx X w0 w M Ps) {it : Item} (k : Nat) (hk : Ps[k]? = some it) : it.holds w := h.p it (List.mem_of_getElem? hk)
theorem start (w : World) (Ps : List Item) (h : ∀ it, it ∈ Ps → it.holds w) : Ctx X w w [] Ps :=
  ⟨rfl, rfl, rfl, Nat.le_refl _, Nat.le_refl _, fun _ _ _ => rfl, by simp, h, by simp, .nil, by simp⟩
theorem below (h : Ctx Nox w0 w M Ps) : Bel w0 w := ⟨⟨h.os, h.tape, h.output, h.size, fun k hk => h.old k hk (fun x => x)⟩, h.drawn⟩
/-- New memory alone. -/
theorem grow (h : Ctx X w0 w M Ps) (hb : Bel w w') : Ctx X w0 w' M Ps where
  os := hb.os.trans h.os
  tape := hb.tape.trans h.tape
  output := hb.output.trans h.output
  size := Nat.le_trans h.size hb.size
  drawn := Nat.le_trans h.drawn hb.drawn
  old b hb' hx := (hb.block b (Nat.lt_of_lt_of_le hb' h.size)).trans (h.old b hb' hx)
  m it hi := it.keep w w' (fun b hbf => hb.block b (it.low w (h.m it hi) b hbf)) (h.m it hi)
  p it hi := it.keep w w' (fun b hbf => hb.block b (it.low w (h.p it hi) b hbf)) (h.p it hi)
  mfp := h.mfp
  dis := h.dis
  pd := h.pd
/-- A new item over new memory. -/
theorem push (h : Ctx X w0 w M Ps) (hb : Bel w w') (it : Item) (hi : it.holds w') (hf : ∀ b, b ∈ it.fp → w.heap.size ≤ b) : Ctx X w0 w' (it :: M) Ps :=
  have g := h.grow hb
  { g with
    m := fun j hj => by
      rcases List.mem_cons.1 hj with hj | hj
      · exact hj ▸ hi
      · exact g.m j hj
    mfp := fun j hj b hb => by
      rcases List.mem_cons.1 hj with rfl | hj
      · exact .inl (Nat.le_trans h.size (hf b hb))
      · exact g.mfp j hj b hb
    dis := List.pairwise_cons.2 ⟨fun j hj x hx hx' => absurd (j.low w (h.m j hj) x hx') (Nat.not_lt.2 (hf x hx)), g.dis⟩
    pd := fun j hj b hb m hm hbm => by
      rcases List.mem_cons.1 hm with rfl | hm
      · exact absurd (j.low w (h.p j hj) b hb) (Nat.not_lt.2 (hf b hbm))
      · exact g.pd j hj b hb m hm hbm }
/-- A new item that is read, over new memory or memory of what is read. -/
theorem pushP (h : Ctx X w0 w M Ps) (it : Item) (hi : it.holds w) (hf : ∀ b, b ∈ it.fp → ∀ m, m ∈ M → b ∉ m.fp) : Ctx X w0 w M (it :: Ps) :=
  { h with
    p := fun j hj => by
      rcases List.mem_cons.1 hj with hj | hj
      · exact hj ▸ hi
      · exact h.p j hj
    pd := fun j hj b hb m hm hbm => by
      rcases List.mem_cons.1 hj with rfl | hj
      · exact hf b hb m hm hbm
      · exact h.pd j hj b hb m hm hbm }
/-- What is read of what is read. -/
theorem derive (h : Ctx X w0 w M Ps) (k : Nat) {it : Item} (hk : Ps[k]? = some it) (jt : Item) (hj : it.holds w → jt.holds w) (hf : ∀ b, b ∈ jt.fp → b ∈ it.fp) : Ctx X w0 w M (jt :: Ps) :=
  h.pushP jt (hj (h.getP k hk)) (fun b hb m hm => h.pd it (List.mem_of_getElem? hk) b (hf b hb) m hm)
/-- The item at place k turns, and nothing beside its blocks and new ones. -/
theorem turn (h : Ctx X w0 w M Ps) (k : Nat) {it jt : Item} (hk : M[k]? = some it)
    (hos : w'.os = w.os) (hta : w'.tape = w.tape) (hou : w'.output = w.output) (hsz : w.heap.size ≤ w'.heap.size) (hdr : w.drawn ≤ w'.drawn)
    (hb : ∀ b, b < w.heap.size → b ∉ it.fp → w'.heap[b]? = w.heap[b]?) (hj : jt.holds w') (hf : ∀ b, b ∈ jt.fp → b ∈ it.fp ∨ w.heap.size ≤ b) :
    Ctx X w0 w' (M.set k jt) Ps := by
  have hmem : it ∈ M := List.mem_of_getElem? hk
  have hlt : k < M.length := (List.getElem?_eq_some_iff.1 hk).1
  have hget : M[k] = it := (List.getElem?_eq_some_iff.1 hk).2
  -- the other items
  have sep : ∀ i (hi : i < M.length), i ≠ k → ∀ x, x ∈ (M[i]).fp → x ∉ it.fp := by
    intro i hi hne x hx hx'
    rcases Nat.lt_or_gt_of_ne hne with hl | hl
    · exact (List.pairwise_iff_getElem.1 h.dis i k hi hlt hl) x hx (hget ▸ hx')
    · exact (List.pairwise_iff_getElem.1 h.dis k i hlt hi hl) x (hget ▸ hx') hx
  refine ⟨hos.trans h.os, hta.trans h.tape, hou.trans h.output, Nat.le_trans h.size hsz, Nat.le_trans h.drawn hdr, ?_, ?_, ?_, ?_, ?_, ?_⟩
  · intro b hb0 hx
    rw [hb b (Nat.lt_of_lt_of_le hb0 h.size) (fun hbi => ?_)]
    · exact h.old b hb0 hx
    · rcases h.mfp it hmem b hbi with h' | h'
      · omega
      · exact hx h'
  · intro x hx
    obtain ⟨i, hi, hxi⟩ := List.getElem_of_mem hx
    rw [List.getElem_set] at hxi
    split at hxi
    · subst hxi; exact hj
    · rename_i hne
      have hi' : i < M.length := by simpa using hi
      subst hxi
      exact (M[i]).keep w w' (fun b hbf => hb b ((M[i]).low w (h.m _ (List.getElem_mem hi')) b hbf) (sep i hi' (fun e => hne e.symm) b hbf)) (h.m _ (List.getElem_mem hi'))
  · intro x hx
    exact x.keep w w' (fun b hbf => hb b (x.low w (h.p x hx) b hbf) (h.pd x hx b hbf it hmem)) (h.p x hx)
  · intro x hx b hbx
    obtain ⟨i, hi, hxi⟩ := List.getElem_of_mem hx
    rw [List.getElem_set] at hxi
    split at hxi
    · subst hxi
      rcases hf b hbx with h' | h'
      · exact h.mfp it hmem b h'
      · exact .inl (Nat.le_trans h.size h')
    · have hi' : i < M.length := by simpa using hi
      subst hxi
      exact h.mfp _ (List.getElem_mem hi') b hbx
  · rw [List.pairwise_iff_getElem]
    intro i j hi hj' hij x hx hx'
    have hi' : i < M.length := by simpa using hi
    have hj'' : j < M.length := by simpa using hj'
    rw [List.getElem_set] at hx hx'
    split at hx <;> split at hx'
    · omega
    · rename_i e1 e2
      rcases hf x hx with h' | h'
      · exact sep j hj'' (fun e => e2 e.symm) x hx' h'
      · exact absurd ((M[j]).low w (h.m _ (List.getElem_mem hj'')) x hx') (Nat.not_lt.2 h')
    · rename_i e1 e2
      rcases hf x hx' with h' | h'
      · exact sep i hi' (fun e => e1 e.symm) x hx h'
      · exact absurd ((M[i]).low w (h.m _ (List.getElem_mem hi')) x hx) (Nat.not_lt.2 h')
    · exact (List.pairwise_iff_getElem.1 h.dis i j hi' hj'' hij) x hx hx'
  · intro x hx b hbx m hm hbm
    obtain ⟨i, hi, hmi⟩ := List.getElem_of_mem hm
    rw [List.getElem_set] at hmi
    split at hmi
    · subst hmi
      rcases hf b hbm with h' | h'
      · exact h.pd x hx b hbx it hmem h'
      · exact absurd (x.low w (h.p x hx) b hbx) (Nat.not_lt.2 h')
    · have hi' : i < M.length := by simpa using hi
      subst hmi
      exact h.pd x hx b hbx _ (List.getElem_mem hi') hbm
/-- Fewer items. -/
theorem drop (h : Ctx X w0 w M Ps) (k j : Nat) : Ctx X w0 w (M.drop k) (Ps.drop j) :=
  { h with
    m := fun it hi => h.m it (List.mem_of_mem_drop hi)
    p := fun it hi => h.p it (List.mem_of_mem_drop hi)
    mfp := fun it hi => h.mfp it (List.mem_of_mem_drop hi)
    dis := h.dis.sublist (List.drop_sublist _ _)
    pd := fun it hi b hb m hm => h.pd it (List.mem_of_mem_drop hi) b hb m (List.mem_of_mem_drop hm) }
theorem sub (h : Ctx X w0 w M Ps) {M' Ps' : List Item} (hm : M'.Sublist M) (hp : ∀ it, it ∈ Ps' → it ∈ Ps) : Ctx X w0 w M' Ps' :=
  { h with
    m := fun it hi => h.m it (hm.subset hi)
    p := fun it hi => h.p it (hp it hi)
    mfp := fun it hi => h.mfp it (hm.subset hi)
    dis := h.dis.sublist hm
    pd := fun it hi b hb m hm' => h.pd it (hp it hi) b hb m (hm.subset hm') }
/-- An item that is written no more. -/
theorem thaw (h : Ctx X w0 w M Ps) (k : Nat) {it : Item} (hk : M[k]? = some it) (jt : Item) (hj : it.holds w → jt.holds w) (hf : ∀ b, b ∈ jt.fp → b ∈ it.fp) : Ctx X w0 w (M.eraseIdx k) (jt :: Ps) := by
  have g := h.sub (M' := M.eraseIdx k) (Ps' := Ps) (List.eraseIdx_sublist ..) (fun _ x => x)
  refine g.pushP jt (hj (h.getM k hk)) (fun b hb m hm hbm => ?_)
  have hlt : k < M.length := (List.getElem?_eq_some_iff.1 hk).1
  have hget : M[k] = it := (List.getElem?_eq_some_iff.1 hk).2
  obtain ⟨i, hi, hmi⟩ := List.getElem_of_mem hm
  rw [List.getElem_eraseIdx] at hmi
  split at hmi
  · rename_i hik
    subst hmi
    exact (List.pairwise_iff_getElem.1 h.dis i k (by omega) hlt hik) b hbm (hget ▸ hf b hb)
  · rename_i hik
    have hi2 : i < M.length - 1 := by rw [List.length_eraseIdx_of_lt hlt] at hi; exact hi
    subst hmi
    exact (List.pairwise_iff_getElem.1 h.dis k (i + 1) hlt (by omega) (by omega)) b (hget ▸ hf b hb) hbm
end Ctx
end Vc
