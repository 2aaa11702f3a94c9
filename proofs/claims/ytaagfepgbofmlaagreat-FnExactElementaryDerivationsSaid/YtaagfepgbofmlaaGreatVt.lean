/- Trees of rows of the call's own: rows whose elements are rows, each in a block of its own. -/
import Derived.Test.YtaagfepgbofmlaaGreatVc14
set_option linter.unusedVariables false
set_option linter.unusedSimpArgs false
namespace Vc
open Go Go.RowKit
structure Tr (α : Type) where
  ty : Ty α
  tree : α → List Value → List Nat → World → Prop
  tkeep : ∀ {x cs fp} {w w' : World}, (∀ b, b ∈ fp → w'.heap[b]? = w.heap[b]?) → tree x cs fp w → tree x cs fp w'
  tlow : ∀ {x cs fp w}, tree x cs fp w → ∀ b, b ∈ fp → b < w.heap.size
  trep : ∀ {x cs fp w}, tree x cs fp w → ty.rep x cs fp w
def Tr.item {α : Type} (T : Tr α) (x : α) (cs : List Value) (fp : List Nat) : Item where
  fp := fp
  holds w := T.tree x cs fp w ∧ fp.Nodup
  keep _ _ h hw := ⟨T.tkeep h hw.1, hw.2⟩
  low _ hw := T.tlow hw.1
def Enc.tr {α : Type} (E : Enc α) : Tr α where
  ty := E.ty
  tree x cs fp w := fp = [] ∧ cs = E.enc x
  tkeep _ h := h
  tlow h := by obtain ⟨rfl, _⟩ := h; simp
  trep h := by obtain ⟨rfl, rfl⟩ := h; exact ⟨by simp, rfl⟩
/-- The elements' trees. -/
def Tr.trees {α : Type} (T : Tr α) (xs : List α) (cs : List Value) (fps : List (List Nat)) (w : World) : Prop :=
  cs.length = xs.length * T.ty.sz ∧ fps.length = xs.length ∧ ∀ i (h : i < xs.length), T.tree xs[i] ((cs.drop (i * T.ty.sz)).take T.ty.sz) (fps.getD i []) w
section
variable {α : Type} {T : Tr α} {w w' : World}
theorem mem_flat {fps : List (List Nat)} {b : Nat} : b ∈ fps.flatten ↔ ∃ i, i < fps.length ∧ b ∈ fps.getD i [] := by
  rw [List.mem_flatten]
  constructor
  · rintro ⟨l, hl, hb⟩
    obtain ⟨i, hi, rfl⟩ := List.getElem_of_mem hl
    exact ⟨i, hi, by simpa [List.getD, hi] using hb⟩
  · rintro ⟨i, hi, hb⟩
    refine ⟨fps[i], List.getElem_mem hi, by simpa [List.getD, hi] using hb⟩
theorem trees_keep {xs : List α} {cs : List Value} {fps : List (List Nat)} (h : ∀ b, b ∈ fps.flatten → w'.heap[b]? = w.heap[b]?) (ht : T.trees xs cs fps w) : T.trees xs cs fps w' :=
  ⟨ht.1, ht.2.1, fun i hi => T.tkeep (fun b hb => h b (mem_flat.2 ⟨i, by rw [ht.2.1]; exact hi, hb⟩)) (ht.2.2 i hi)⟩
theorem trees_low {xs : List α} {cs : List Value} {fps : List (List Nat)} (ht : T.trees xs cs fps w) : ∀ b, b ∈ fps.flatten → b < w.heap.size := by
  intro b hb
  obtain ⟨i, hi, hb⟩ := mem_flat.1 hb
  exact T.tlow (ht.2.2 i (by rw [← ht.2.1]; exact hi)) b hb
theorem trees_nil (T : Tr α) (w : World) : T.trees [] [] [] w := ⟨by simp, by simp, fun i hi => absurd hi (by simp)⟩
theorem trees_cons {x : α} {xs : List α} {c cs : List Value} {f : List Nat} {fps : List (List Nat)} (h : T.tree x c f w) (hs : T.trees xs cs fps w) : T.trees (x :: xs) (c ++ cs) (f :: fps) w := by
  have hc := T.ty.len (T.trep h)
  refine ⟨by rw [List.length_append, hc, hs.1, List.length_cons, Nat.add_mul, Nat.one_mul, Nat.add_comm], by simp [hs.2.1], fun i hi => ?_⟩
  cases i with
  | zero =>
    simp only [Nat.zero_mul, List.drop_zero, List.getElem_cons_zero]
    rw [List.take_append_of_le_length (by omega), List.take_of_length_le (by omega)]
    exact h
  | succ i =>
    rw [Nat.add_mul, Nat.one_mul, Nat.add_comm (i * T.ty.sz), ← List.drop_drop, List.drop_left' hc]
    exact hs.2.2 i (by simpa using hi)
theorem trees_append {xs ys : List α} {cs ds : List Value} {fps gps : List (List Nat)} (h : T.trees xs cs fps w) (k : T.trees ys ds gps w) : T.trees (xs ++ ys) (cs ++ ds) (fps ++ gps) w := by
  refine ⟨by rw [List.length_append, h.1, k.1, List.length_append, Nat.add_mul], by simp [h.2.1, k.2.1], fun i hi => ?_⟩
  by_cases hx : i < xs.length
  · have e1 : (xs ++ ys)[i] = xs[i] := List.getElem_append_left hx
    have hle : i * T.ty.sz + T.ty.sz ≤ cs.length := by rw [h.1]; exact seg_le hx
    have e2 : ((cs ++ ds).drop (i * T.ty.sz)).take T.ty.sz = (cs.drop (i * T.ty.sz)).take T.ty.sz := by
      rw [List.drop_append_of_le_length (by omega), List.take_append_of_le_length (by rw [List.length_drop]; omega)]
    have e3 : (fps ++ gps).getD i [] = fps.getD i [] := by simp only [List.getD]; rw [List.getElem?_append_left (by rw [h.2.1]; exact hx)]
    rw [e1, e2, e3]
    exact h.2.2 i hx
  · have hy : i - xs.length < ys.length := by rw [List.length_append] at hi; omega
    have e1 : (xs ++ ys)[i] = ys[i - xs.length] := List.getElem_append_right (by omega)
    have hm : i * T.ty.sz = cs.length + (i - xs.length) * T.ty.sz := by rw [h.1, ← Nat.add_mul]; congr 1; omega
    have e2 : ((cs ++ ds).drop (i * T.ty.sz)) = ds.drop ((i - xs.length) * T.ty.sz) := by rw [hm, ← List.drop_drop, List.drop_left' rfl]
    have e3 : (fps ++ gps).getD i [] = gps.getD (i - xs.length) [] := by simp only [List.getD]; rw [List.getElem?_append_right (by rw [h.2.1]; omega), h.2.1]
    rw [e1, e2, e3]
    exact k.2.2 _ hy
theorem trees_all {xs : List α} {cs : List Value} {fps : List (List Nat)} (h : T.trees xs cs fps w) : T.ty.all xs cs fps.flatten w := by
  have hl := trees_low h
  have hr : ∀ i (hi : i < xs.length), T.ty.rep xs[i] ((cs.drop (i * T.ty.sz)).take T.ty.sz) fps.flatten w := fun i hi => T.ty.more (T.trep (h.2.2 i hi)) (fun b hb => mem_flat.2 ⟨i, by rw [h.2.1]; exact hi, hb⟩) hl
  refine ⟨hl, h.1, fun u hu => ?_, hr⟩
  obtain ⟨j, hj, rfl⟩ := List.getElem_of_mem hu
  rcases Nat.eq_zero_or_pos T.ty.sz with h0 | h0
  · rw [h.1, h0] at hj; omega
  · have hi : j / T.ty.sz < xs.length := Nat.div_lt_of_lt_mul (by rw [Nat.mul_comm, ← h.1]; exact hj)
    refine T.ty.one (hr _ hi) _ ?_
    refine List.mem_of_getElem? (i := j % T.ty.sz) ?_
    rw [List.getElem?_take, if_pos (Nat.mod_lt _ h0), List.getElem?_drop, Nat.div_add_mod']
    exact List.getElem?_eq_getElem hj
end
/-- A row whose elements are trees. -/
def Tr.sl {α : Type} (e : Nat) (T : Tr α) : Tr (List α) where
  ty := T.ty.sl
  tree xs cs fp w := ∃ v ecs fps, cs = [v] ∧ (own e T.ty.sz v xs.length ecs).holds w ∧ T.trees xs ecs fps w ∧ fp = v.ownBlock.toList ++ fps.flatten
  tkeep h ht := by
    obtain ⟨v, ecs, fps, rfl, h1, h2, rfl⟩ := ht
    exact ⟨v, ecs, fps, rfl, Item.keep _ _ _ (fun b hb => h b (List.mem_append_left _ hb)) h1, trees_keep (fun b hb => h b (List.mem_append_right _ hb)) h2, rfl⟩
  tlow ht b hb := by
    obtain ⟨v, ecs, fps, rfl, h1, h2, rfl⟩ := ht
    rcases List.mem_append.1 hb with hb | hb
    · exact Item.low _ _ h1 b hb
    · exact trees_low h2 b hb
  trep ht := by
    obtain ⟨v, ecs, fps, rfl, h1, h2, rfl⟩ := ht
    exact own_rep h1 (trees_all h2)
def Tr.iso {α β : Type} (f : β → α) (T : Tr α) : Tr β where
  ty := T.ty.iso f
  tree x cs fp w := T.tree (f x) cs fp w
  tkeep h ht := T.tkeep h ht
  tlow ht := T.tlow ht
  trep ht := T.trep ht
def Tr.pair {α β : Type} (S : Tr α) (T : Tr β) : Tr (α × β) where
  ty := S.ty.pair T.ty
  tree x cs fp w := ∃ c1 c2 f1 f2, cs = c1 ++ c2 ∧ fp = f1 ++ f2 ∧ S.tree x.1 c1 f1 w ∧ T.tree x.2 c2 f2 w
  tkeep h ht := by
    obtain ⟨c1, c2, f1, f2, rfl, rfl, h1, h2⟩ := ht
    exact ⟨c1, c2, f1, f2, rfl, rfl, S.tkeep (fun b hb => h b (List.mem_append_left _ hb)) h1, T.tkeep (fun b hb => h b (List.mem_append_right _ hb)) h2⟩
  tlow ht b hb := by
    obtain ⟨c1, c2, f1, f2, rfl, rfl, h1, h2⟩ := ht
    rcases List.mem_append.1 hb with hb | hb
    · exact S.tlow h1 b hb
    · exact T.tlow h2 b hb
  trep ht := by
    obtain ⟨c1, c2, f1, f2, rfl, rfl, h1, h2⟩ := ht
    exact pair_mk (S.trep h1) (T.trep h2)
/-- A row of flat data is a tree. -/
theorem tr_flat {α : Type} {E : Enc α} {e : Nat} {xs : List α} {v : Value} {w : World} (h : (own e E.sz v xs.length (E.encs xs)).holds w) : (Tr.sl e E.tr).tree xs [v] v.ownBlock.toList w := by
  refine ⟨v, E.encs xs, List.replicate xs.length [], rfl, h, ⟨E.encs_len xs, by simp, fun i hi => ⟨by simp [List.getD, hi], ?_⟩⟩, by simp⟩
  haveI : Inhabited α := ⟨xs[i]⟩
  have := E.encs_seg xs i hi
  rw [show xs.getD i default = xs[i] by simp [List.getD, hi]] at this
  exact this
theorem flat_tr {α : Type} {E : Enc α} {e : Nat} {xs : List α} {v : Value} {fp : List Nat} {w : World} (h : (Tr.sl e E.tr).tree xs [v] fp w) : (own e E.sz v xs.length (E.encs xs)).holds w ∧ fp = v.ownBlock.toList := by
  obtain ⟨v', ecs, fps, hv, h1, h2, rfl⟩ := h
  obtain rfl : v = v' := by simpa using hv
  have he : ecs = E.encs xs := all_encs (trees_all h2)
  have hf : fps.flatten = [] := by
    rw [List.eq_nil_iff_forall_not_mem]
    intro b hb
    obtain ⟨i, hi, hb⟩ := mem_flat.1 hb
    have := (h2.2.2 i (by rw [← h2.2.1]; exact hi)).1
    rw [this] at hb; cases hb
  rw [hf, List.append_nil]
  exact ⟨he ▸ h1, rfl⟩
theorem tr_nil {α : Type} (e : Nat) (T : Tr α) (w : World) : (Tr.sl e T).tree [] [.slice none 0 0] [] w :=
  ⟨.slice none 0 0, [], [], rfl, ⟨by simp, .inl ⟨rfl, rfl⟩⟩, trees_nil T w, rfl⟩
section
variable {X : Nat → Prop} {w0 w w' : World} {M Ps : List Item}
theorem Ctx.perm {M' : List Item} (h : Ctx X w0 w M Ps) (hp : M.Perm M') : Ctx X w0 w M' Ps :=
  { h with
    m := fun j hj => h.m j (hp.mem_iff.2 hj)
    mfp := fun j hj => h.mfp j (hp.mem_iff.2 hj)
    dis := (hp.pairwise_iff (fun {a b} (hab : ∀ x, x ∈ a.fp → x ∉ b.fp) => fun x hx hx' => hab x hx' hx)).1 h.dis
    pd := fun j hj b hb m hm => h.pd j hj b hb m (hp.mem_iff.2 hm) }
/-- Two items as one, and back. -/
theorem Ctx.gather {a b c : Item} (h : Ctx X w0 w (a :: b :: M) Ps) (hfp : ∀ x, x ∈ c.fp → x ∈ a.fp ∨ x ∈ b.fp) (hc : a.holds w → b.holds w → (∀ x, x ∈ a.fp → x ∉ b.fp) → c.holds w) : Ctx X w0 w (c :: M) Ps := by
  obtain ⟨hd1, hd2⟩ := List.pairwise_cons.1 h.dis
  obtain ⟨hd3, hd4⟩ := List.pairwise_cons.1 hd2
  exact { h with
    m := fun j hj => by
      rcases List.mem_cons.1 hj with rfl | hj
      · exact hc (h.m a (by simp)) (h.m b (by simp)) (hd1 b (by simp))
      · exact h.m j (by simp [hj])
    mfp := fun j hj x hx => by
      rcases List.mem_cons.1 hj with rfl | hj
      · rcases hfp x hx with hx | hx
        · exact h.mfp a (by simp) x hx
        · exact h.mfp b (by simp) x hx
      · exact h.mfp j (by simp [hj]) x hx
    dis := List.pairwise_cons.2 ⟨fun j hj x hx hxj => by
      rcases hfp x hx with hx | hx
      · exact hd1 j (by simp [hj]) x hx hxj
      · exact hd3 j hj x hx hxj, hd4⟩
    pd := fun j hj x hx m hm hxm => by
      rcases List.mem_cons.1 hm with rfl | hm
      · rcases hfp x hxm with hxm | hxm
        · exact h.pd j hj x hx a (by simp) hxm
        · exact h.pd j hj x hx b (by simp) hxm
      · exact h.pd j hj x hx m (by simp [hm]) hxm }
theorem Ctx.split {a b c : Item} (h : Ctx X w0 w (c :: M) Ps) (ha : ∀ x, x ∈ a.fp → x ∈ c.fp) (hb : ∀ x, x ∈ b.fp → x ∈ c.fp) (hc : a.holds w ∧ b.holds w ∧ (∀ x, x ∈ a.fp → x ∉ b.fp)) : Ctx X w0 w (a :: b :: M) Ps := by
  obtain ⟨hd1, hd2⟩ := List.pairwise_cons.1 h.dis
  exact { h with
    m := fun j hj => by
      rcases List.mem_cons.1 hj with rfl | hj
      · exact hc.1
      · rcases List.mem_cons.1 hj with rfl | hj
        · exact hc.2.1
        · exact h.m j (by simp [hj])
    mfp := fun j hj x hx => by
      rcases List.mem_cons.1 hj with rfl | hj
      · exact h.mfp c (by simp) x (ha x hx)
      · rcases List.mem_cons.1 hj with rfl | hj
        · exact h.mfp c (by simp) x (hb x hx)
        · exact h.mfp j (by simp [hj]) x hx
    dis := by
      refine List.pairwise_cons.2 ⟨fun j hj x hx hxj => ?_, List.pairwise_cons.2 ⟨fun j hj x hx hxj => hd1 j hj x (hb x hx) hxj, hd2⟩⟩
      rcases List.mem_cons.1 hj with rfl | hj
      · exact hc.2.2 x hx hxj
      · exact hd1 j hj x (ha x hx) hxj
    pd := fun j hj x hx m hm hxm => by
      rcases List.mem_cons.1 hm with rfl | hm
      · exact h.pd j hj x hx c (by simp) (ha x hxm)
      · rcases List.mem_cons.1 hm with rfl | hm
        · exact h.pd j hj x hx c (by simp) (hb x hxm)
        · exact h.pd j hj x hx m (by simp [hm]) hxm }
/-- One item under another name, at the same blocks or fewer. -/
theorem Ctx.recast {a c : Item} (h : Ctx X w0 w (a :: M) Ps) (hfp : ∀ x, x ∈ c.fp → x ∈ a.fp) (hc : a.holds w → c.holds w) : Ctx X w0 w (c :: M) Ps := by
  obtain ⟨hd1, hd2⟩ := List.pairwise_cons.1 h.dis
  exact { h with
    m := fun j hj => by
      rcases List.mem_cons.1 hj with rfl | hj
      · exact hc (h.m a (by simp))
      · exact h.m j (by simp [hj])
    mfp := fun j hj x hx => by
      rcases List.mem_cons.1 hj with rfl | hj
      · exact h.mfp a (by simp) x (hfp x hx)
      · exact h.mfp j (by simp [hj]) x hx
    dis := List.pairwise_cons.2 ⟨fun j hj x hx hxj => hd1 j hj x (hfp x hx) hxj, hd2⟩
    pd := fun j hj x hx m hm hxm => by
      rcases List.mem_cons.1 hm with rfl | hm
      · exact h.pd j hj x hx a (by simp) (hfp x hxm)
      · exact h.pd j hj x hx m (by simp [hm]) hxm }
/-- An item that a callee's turning doesn't meet. -/
theorem Ctx.stay (h : Ctx X w0 w M Ps) (j : Nat) {it : Item} (hj : M[j]? = some it) {F : List Nat} (hB : BelO F w w') (hF : ∀ x, x ∈ it.fp → x ∉ F) : it.holds w' :=
  it.keep w w' (fun b hb => hB.old b (it.low w (h.getM j hj) b hb) (hF b hb)) (h.getM j hj)
/-- A callee turned what some items hold; each is said anew, at its blocks. -/
theorem Ctx.turnL (h : Ctx X w0 w M Ps) {F : List Nat} (hB : BelO F w w') {M' : List Item} (hfp : M'.map Item.fp = M.map Item.fp) (hF : ∀ x, x ∈ F → ∃ it, it ∈ M ∧ x ∈ it.fp) (hh : ∀ it, it ∈ M' → it.holds w') : Ctx X w0 w' M' Ps := by
  have hlen : M'.length = M.length := by have := congrArg List.length hfp; simpa using this
  have hget : ∀ i (hi : i < M'.length), (M'[i]).fp = (M[i]'(by omega)).fp := by
    intro i hi
    have := congrArg (·[i]?) hfp
    simp only [List.getElem?_map, List.getElem?_eq_getElem hi, List.getElem?_eq_getElem (show i < M.length by omega), Option.map_some] at this
    exact Option.some.inj this
  have back : ∀ it, it ∈ M' → ∃ jt, jt ∈ M ∧ it.fp = jt.fp := by
    intro it hi
    obtain ⟨i, hlt, rfl⟩ := List.getElem_of_mem hi
    exact ⟨_, List.getElem_mem (show i < M.length by omega), hget i (by omega)⟩
  refine ⟨hB.os.trans h.os, hB.tape.trans h.tape, hB.output.trans h.output, Nat.le_trans h.size hB.size, Nat.le_trans h.drawn hB.drawn, ?_, hh, ?_, ?_, ?_, ?_⟩
  · intro b hb hx
    rw [hB.old b (Nat.lt_of_lt_of_le hb h.size) (fun hbF => ?_)]
    · exact h.old b hb hx
    · obtain ⟨it, hi, hbi⟩ := hF b hbF
      rcases h.mfp it hi b hbi with h' | h'
      · omega
      · exact hx h'
  · intro x hx
    refine x.keep w w' (fun b hb => hB.old b (x.low w (h.p x hx) b hb) (fun hbF => ?_)) (h.p x hx)
    obtain ⟨it, hi, hbi⟩ := hF b hbF
    exact h.pd x hx b hb it hi hbi
  · intro it hi b hb
    obtain ⟨jt, hj, he⟩ := back it hi
    exact h.mfp jt hj b (he ▸ hb)
  · rw [List.pairwise_iff_getElem]
    intro i j hi hj hij x hx hx'
    rw [hget i hi] at hx
    rw [hget j hj] at hx'
    exact List.pairwise_iff_getElem.1 h.dis i j (by omega) (by omega) hij x hx hx'
  · intro x hx b hb m hm hbm
    obtain ⟨jt, hj, he⟩ := back m hm
    exact h.pd x hx b hb jt hj (he ▸ hbm)
/-- An element's tree, taken out and put back. -/
theorem tr_focus {α : Type} {e : Nat} {T : Tr α} {xs : List α} {v : Value} {fp : List Nat} (h : (Tr.item (Tr.sl e T) xs [v] fp).holds w) (i : Nat) (hi : i < xs.length) :
    ∃ cs f, (∃ g cap, v = .slice (some ⟨g, 0, none⟩) xs.length cap ∧ cellsAt w ⟨g, i * T.ty.sz, none⟩ cs) ∧ (T.item xs[i] cs f).holds w ∧ (∀ b, b ∈ f → b ∈ fp) ∧
      ∀ (x' : α) (w' : World), T.tree x' cs f w' → BelO f w w' → (Tr.item (Tr.sl e T) (xs.set i x') [v] fp).holds w' := by
  obtain ⟨⟨v', ecs, fps, hv, h1, h2, rfl⟩, hn⟩ := h
  obtain rfl : v = v' := by simpa using hv
  obtain ⟨g, cap, rfl⟩ := own_formE h1 (by omega)
  have hfi : i < fps.length := by rw [h2.2.1]; exact hi
  obtain ⟨hn1, hn2, hn3⟩ := List.nodup_append.1 hn
  have hfe : fps.getD i [] = fps[i] := by simp [List.getD, hfi]
  have hnf : (fps.getD i []).Nodup := by
    rw [hfe]
    exact hn2.sublist (List.sublist_flatten_of_mem (List.getElem_mem hfi))
  refine ⟨(ecs.drop (i * T.ty.sz)).take T.ty.sz, fps.getD i [], ⟨g, cap, rfl, ?_⟩, ⟨h2.2.2 i hi, hnf⟩, fun b hb => List.mem_append_right _ (mem_flat.2 ⟨i, hfi, hb⟩), ?_⟩
  · obtain ⟨_, _, _, A, c, hA, hcell⟩ := own_rdr h1
    obtain ⟨a, ha, _, hcell⟩ := hcell (by omega)
    have hA2 := hA
    injection hA2 with q1 q2 q3
    rw [← q1] at ha
    obtain rfl : (⟨g, 0, none⟩ : Addr) = a := Option.some.inj ha
    intro j u hj
    rw [add_none]
    rw [List.getElem?_take] at hj
    split at hj
    · have := hcell (i * T.ty.sz + j) u (by simpa using hj)
      rwa [add_none, Nat.zero_add] at this
    · cases hj
  · intro x' w' hx' hB
    have hsep : ∀ b, b ∈ (Value.slice (some ⟨g, 0, none⟩) xs.length cap).ownBlock.toList → b ∉ fps.getD i [] := fun b hb hb' => hn3 b hb b (mem_flat.2 ⟨i, hfi, hb'⟩) rfl
    have hdj : ∀ j, j < fps.length → j ≠ i → ∀ b, b ∈ fps.getD j [] → b ∉ fps.getD i [] := by
      intro j hj hne b hb hb'
      have hpw := List.pairwise_flatten.1 hn2
      rw [show fps.getD j [] = fps[j] by simp [List.getD, hj]] at hb
      rw [hfe] at hb'
      rcases Nat.lt_or_gt_of_ne hne with hl | hl
      · exact List.pairwise_iff_getElem.1 hpw.2 j i hj hfi hl b hb b hb' rfl
      · exact List.pairwise_iff_getElem.1 hpw.2 i j hfi hj hl b hb' b hb rfl
    refine ⟨⟨_, ecs, fps, rfl, ?_, ⟨by simpa using h2.1, by simpa using h2.2.1, fun j hj => ?_⟩, rfl⟩, hn⟩
    · rw [List.length_set]
      exact Item.keep _ w w' (fun b hb => hB.old b (Item.low _ w h1 b hb) (hsep b hb)) h1
    · have hj' : j < xs.length := by simpa using hj
      rw [List.getElem_set]
      split
      · rename_i hij; subst hij; exact hx'
      · rename_i hij
        exact T.tkeep (fun b hb => hB.old b (T.tlow (h2.2.2 j hj') b hb) (hdj j (by rw [h2.2.1]; exact hj') (fun e => hij e.symm) b hb)) (h2.2.2 j hj')
def TrForm (e : Nat) : Tr Form := .iso Form.terms (Tr.sl e ETerm.tr)
def TrAlg (i e f : Nat) : Tr Alg := .iso (fun a => (a.degrees, a.images)) (.pair (Tr.sl i (EI .i64).tr) (Tr.sl f (TrForm e)))
theorem nodup_own (v : Value) : v.ownBlock.toList.Nodup := by cases v.ownBlock <;> simp
theorem own_item {α : Type} {E : Enc α} {e : Nat} {xs : List α} {v : Value} {w : World} (h : (own e E.sz v xs.length (E.encs xs)).holds w) : (Tr.item (Tr.sl e E.tr) xs [v] v.ownBlock.toList).holds w := ⟨tr_flat h, nodup_own v⟩
theorem tr_form {α : Type} {e : Nat} {T : Tr α} {xs : List α} {v : Value} {fp : List Nat} (h : (Tr.item (Tr.sl e T) xs [v] fp).holds w) : ∃ A c, v = .slice A xs.length c := sl_len (t := T.ty) ((Tr.sl e T).trep h.1)
theorem tr_fresh {α : Type} {T : Tr α} {x : α} {cs : List Value} {fp : List Nat} (hC : Ctx Nox w0 w M Ps) (k : Nat) (hk : M[k]? = some (T.item x cs fp)) : ∀ b, b ∈ fp → w0.heap.size ≤ b :=
  fun b hb => (hC.mfp _ (List.mem_of_getElem? hk) b hb).elim id (fun x => x.elim)
theorem alg_split {i e f : Nat} {x : Alg} {v u : Value} {fp : List Nat} (h : ((TrAlg i e f).item x [v, u] fp).holds w) : ∃ f2, (own i (EI .i64).sz v x.degrees.length ((EI .i64).encs x.degrees)).holds w ∧ ((Tr.sl f (TrForm e)).item x.images [u] f2).holds w ∧
    (∀ b, b ∈ v.ownBlock.toList → b ∈ fp) ∧ (∀ b, b ∈ f2 → b ∈ fp) ∧ (∀ b, b ∈ v.ownBlock.toList → b ∉ f2) := by
  obtain ⟨⟨c1, c2, f1, f2, hcs, rfl, h1, h2⟩, hn⟩ := h
  have hl := (Tr.sl i (EI .i64).tr).ty.len ((Tr.sl i (EI .i64).tr).trep h1)
  obtain ⟨a, rfl⟩ := List.length_eq_one_iff.1 (show c1.length = 1 from hl)
  obtain ⟨rfl, rfl⟩ : v = a ∧ c2 = [u] := by simp at hcs; exact ⟨hcs.1, hcs.2.symm⟩
  obtain ⟨ho, rfl⟩ := flat_tr h1
  obtain ⟨hn1, hn2, hn3⟩ := List.nodup_append.1 hn
  exact ⟨f2, ho, ⟨h2, hn2⟩, fun b hb => List.mem_append_left _ hb, fun b hb => List.mem_append_right _ hb, fun b hb hb' => hn3 b hb b hb' rfl⟩
theorem alg_join {i e f : Nat} {a : List Int} {b : List Form} {v u : Value} {f1 f2 : List Nat} (h1 : ((Tr.sl i (EI .i64).tr).item a [v] f1).holds w) (h2 : ((Tr.sl f (TrForm e)).item b [u] f2).holds w) (hd : ∀ x, x ∈ f1 → x ∉ f2) : ((TrAlg i e f).item ⟨a, b⟩ [v, u] (f1 ++ f2)).holds w :=
  ⟨⟨[v], [u], f1, f2, rfl, rfl, h1.1, h2.1⟩, List.nodup_append.2 ⟨h1.2, h2.2, fun x hx y hy e => hd x hx (e ▸ hy)⟩⟩
theorem form_split {e : Nat} {x : Form} {v : Value} {fp : List Nat} (h : ((TrForm e).item x [v] fp).holds w) : (own e ETerm.sz v x.terms.length (ETerm.encs x.terms)).holds w ∧ fp = v.ownBlock.toList := flat_tr h.1
theorem form_join {e : Nat} {a : List Term} {v : Value} {f : List Nat} (h : ((Tr.sl e ETerm.tr).item a [v] f).holds w) : ((TrForm e).item ⟨a⟩ [v] f).holds w := h
theorem nil_item {α : Type} (e : Nat) (T : Tr α) (w : World) : ((Tr.sl e T).item [] [.slice none 0 0] []).holds w := ⟨tr_nil e T w, by simp⟩
/-- What elements' trees are, in memory of the call's own; a row's cells and its elements' trees. -/
def forest {α : Type} (T : Tr α) (xs : List α) (cs : List Value) (fps : List (List Nat)) : Item where
  fp := fps.flatten
  holds w := T.trees xs cs fps w ∧ fps.flatten.Nodup
  keep _ _ h hw := ⟨trees_keep h hw.1, hw.2⟩
  low _ hw := trees_low hw.1
theorem forest_nil {α : Type} (T : Tr α) (w : World) : (forest T [] [] []).holds w := ⟨trees_nil T w, by simp⟩
theorem forest_cons {α : Type} {T : Tr α} {x : α} {xs : List α} {c cs : List Value} {f : List Nat} {fps : List (List Nat)} (h : (T.item x c f).holds w) (hs : (forest T xs cs fps).holds w) (hd : ∀ b, b ∈ f → b ∉ fps.flatten) : (forest T (x :: xs) (c ++ cs) (f :: fps)).holds w :=
  ⟨trees_cons h.1 hs.1, by rw [List.flatten_cons]; exact List.nodup_append.2 ⟨h.2, hs.2, fun a ha b hb e => hd a ha (e ▸ hb)⟩⟩
theorem forest_up {α : Type} {T : Tr α} {e : Nat} {xs : List α} {cs : List Value} {fps : List (List Nat)} {v : Value} (h : (own e T.ty.sz v xs.length cs).holds w) (hs : (forest T xs cs fps).holds w) (hd : ∀ b, b ∈ v.ownBlock.toList → b ∉ fps.flatten) : ((Tr.sl e T).item xs [v] (v.ownBlock.toList ++ fps.flatten)).holds w :=
  ⟨⟨v, cs, fps, rfl, h, hs.1, rfl⟩, List.nodup_append.2 ⟨nodup_own v, hs.2, fun a ha b hb e => hd a ha (e ▸ hb)⟩⟩
theorem Ctx.startL (w : World) (F : List Nat) (M Ps : List Item) (hm : ∀ it, it ∈ M → it.holds w) (hp : ∀ it, it ∈ Ps → it.holds w) (hF : ∀ it, it ∈ M → ∀ b, b ∈ it.fp → b ∈ F) (hdis : M.Pairwise (fun a b => ∀ x, x ∈ a.fp → x ∉ b.fp)) (hpd : ∀ it, it ∈ Ps → ∀ b, b ∈ it.fp → b ∉ F) : Ctx (fun c => c ∈ F) w w M Ps :=
  ⟨rfl, rfl, rfl, Nat.le_refl _, Nat.le_refl _, fun _ _ _ => rfl, hm, hp, fun it hi b hb => .inr (hF it hi b hb), hdis, fun it hi b hb m hm hbm => hpd it hi b hb (hF m hm b hbm)⟩
theorem Ctx.belO {F : List Nat} (h : Ctx (fun c => c ∈ F) w0 w M Ps) : BelO F w0 w := ⟨h.os, h.tape, h.output, h.size, h.drawn, fun c hc hne => h.old c hc hne⟩
theorem splice_in {α : Type} {E : Enc α} {xs : List α} {i o : Nat} {vc : List Value} {y : α} [Inhabited α] (hi : i < xs.length) (ho : o + vc.length ≤ E.sz) (h : splice (E.enc (xs.getD i default)) o vc = E.enc y) : splice (E.encs xs) (i * E.sz + o) vc = E.encs (xs.set i y) := by
  rw [← encs_set xs i y hi, ← h]
  have hseg := E.encs_seg xs i hi
  have hle : i * E.sz + E.sz ≤ (E.encs xs).length := by rw [E.encs_len]; exact seg_le hi
  apply List.ext_getElem?
  intro j
  unfold splice
  rw [← hseg]
  simp only [List.getElem?_append, List.length_take, List.length_drop, List.length_append]
  simp only [List.getElem?_take, List.getElem?_drop]
  repeat' split
  all_goals first | rfl | (exfalso; omega) | (congr 1; omega) | (simp only [List.getElem?_append, List.getElem?_take, List.getElem?_drop, List.length_take, List.length_drop]; repeat' split) <;> first | rfl | (exfalso; omega) | (congr 1; omega) | skip
theorem arr_at {k : IntKind} {a : A8} {r : List Value} {q : Nat} (h : q < 8) : ((a.enc k ++ r).drop q).take 1 = [.int k (a.get q)] := by
  match q, h with
  | 0, _ => rfl
  | 1, _ => rfl
  | 2, _ => rfl
  | 3, _ => rfl
  | 4, _ => rfl
  | 5, _ => rfl
  | 6, _ => rfl
  | 7, _ => rfl
theorem arr_set {k : IntKind} {a : A8} {r : List Value} {q : Nat} {v : Int} (h : q < 8) : splice (a.enc k ++ r) q [.int k v] = (a.set q v).enc k ++ r := by
  match q, h with
  | 0, _ => rfl
  | 1, _ => rfl
  | 2, _ => rfl
  | 3, _ => rfl
  | 4, _ => rfl
  | 5, _ => rfl
  | 6, _ => rfl
  | 7, _ => rfl
end
end Vc
namespace Vc
open Go Go.RowKit
section
variable {X : Nat → Prop} {w0 w w' : World} {M Ps : List Item}
end
end Vc
namespace Vc
open Go Go.RowKit
theorem Ctx.pushM0 {X : Nat → Prop} {w0 w : World} {M Ps : List Item} (h : Ctx X w0 w M Ps) (it : Item) (hi : it.holds w) (hf : it.fp = []) : Ctx X w0 w (it :: M) Ps :=
  { h with
    m := fun j hj => by
      rcases List.mem_cons.1 hj with rfl | hj
      · exact hi
      · exact h.m j hj
    mfp := fun j hj b hb => by
      rcases List.mem_cons.1 hj with rfl | hj
      · rw [hf] at hb; cases hb
      · exact h.mfp j hj b hb
    dis := List.pairwise_cons.2 ⟨fun j hj x hx => absurd (hf ▸ hx) (by simp), h.dis⟩
    pd := fun j hj b hb m hm hbm => by
      rcases List.mem_cons.1 hm with rfl | hm
      · rw [hf] at hbm; cases hbm
      · exact h.pd j hj b hb m hm hbm }
def IsSl (v : Value) : Prop := ∃ A n c, v = .slice A n c
theorem own_isSl {ty sz n : Nat} {v : Value} {cs : List Value} {w : World} (h : (own ty sz v n cs).holds w) : IsSl v := by
  obtain ⟨A, c, rfl⟩ := own_form h
  exact ⟨A, n, c, rfl⟩
theorem rep_isSl {α : Type} {t : Ty α} {xs : List α} {v : Value} {fp : List Nat} {w : World} (h : t.sl.rep xs [v] fp w) : IsSl v := by
  obtain ⟨A, c, rfl⟩ := sl_len h
  exact ⟨A, _, c, rfl⟩
section
variable {P : Program} {ops : Array Oper} {Q : Exit → Act → World → Prop} {n : Nat} {e : Env} {w w' : World} {rest : List Oper}
variable {d ty : Nat} {pos : String} {af : Array Edge} {gd : Option (Nat × Bool)}
theorem s_iaddrSa {t el len sz : Nat} {A : Addr} {j : Nat} {x y : Operand} {k : IntKind} {i : Int} (j' : Nat) (ht : P.underlying t = some (.array len el)) (hz : SizeT P el sz) (hx : ev n e x = .pointer (some (A.add j))) (hy : ev n e y = .int k i)
    (h0 : 0 ≤ i) (h1 : i < len) (ho : j + i.toNat * sz = j') (h : W P ops Q rest n (upd e d (.pointer (some (A.add j')))) w) :
    W P ops Q (⟨some d, .indexAddr t x y, ty, pos, af, none⟩ :: rest) n e w :=
  s_iaddrA ht hz hx hy h0 h1 (by rw [add_add, ho]; exact h)
end
end Vc
namespace Vc
open Go Go.RowKit
theorem made_nil (m : Nat) : (madeCells #[.slice none 0 0] (m * 1)).toList = List.replicate m (.slice none 0 0) := by
  let E : Enc Unit := ⟨1, by decide, fun _ => [.slice none 0 0], fun _ => rfl, fun _ u hu => by obtain rfl := List.mem_singleton.1 hu; rfl⟩
  have h := made_encs (E := E) () m
  have e : E.encs (List.replicate m ()) = List.replicate m (.slice none 0 0) := by
    induction m with
    | zero => rfl
    | succ m ih => rw [List.replicate_succ, List.replicate_succ, ← ih (made_encs (E := E) () m)]; rfl
  exact h.trans e
theorem flat_rep (m : Nat) : (List.replicate m ([] : List Nat)).flatten = [] := by induction m <;> simp_all [List.replicate_succ]
theorem forest_rep {α : Type} {T : Tr α} {x : α} {c : Value} {w : World} (h : (T.item x [c] []).holds w) (hs : T.ty.sz = 1) (m : Nat) : (forest T (List.replicate m x) (List.replicate m c) (List.replicate m [])).holds w := by
  induction m with
  | zero => exact forest_nil T w
  | succ m ih => exact forest_cons (c := [c]) (cs := List.replicate m c) h ih (by simp)
theorem forest_append {α : Type} {T : Tr α} {xs ys : List α} {cs ds : List Value} {fps gps : List (List Nat)} {w : World} (h : (forest T xs cs fps).holds w) (k : (forest T ys ds gps).holds w) (hd : ∀ b, b ∈ fps.flatten → b ∉ gps.flatten) : (forest T (xs ++ ys) (cs ++ ds) (fps ++ gps)).holds w :=
  ⟨trees_append h.1 k.1, by rw [List.flatten_append]; exact List.nodup_append.2 ⟨h.2, k.2, fun a ha b hb e => hd a ha (e ▸ hb)⟩⟩
theorem tr_split {α : Type} {e : Nat} {T : Tr α} {xs : List α} {v : Value} {fp : List Nat} {w : World} (h : ((Tr.sl e T).item xs [v] fp).holds w) :
    ∃ ecs fps, (own e T.ty.sz v xs.length ecs).holds w ∧ (forest T xs ecs fps).holds w ∧ fp = v.ownBlock.toList ++ fps.flatten ∧ (∀ b, b ∈ v.ownBlock.toList → b ∉ fps.flatten) := by
  obtain ⟨⟨v', ecs, fps, hv, h1, h2, rfl⟩, hn⟩ := h
  obtain rfl : v = v' := by simpa using hv
  obtain ⟨hn1, hn2, hn3⟩ := List.nodup_append.1 hn
  exact ⟨ecs, fps, h1, ⟨h2, hn2⟩, rfl, fun b hb hb' => hn3 b hb b hb' rfl⟩
section
variable {P : Program} {ops : Array Oper} {Q : Exit → Act → World → Prop} {n : Nat} {e : Env} {w w' : World} {rest : List Oper}
variable {X : Nat → Prop} {w0 : World} {M Ps : List Item}
variable {d ty : Nat} {pos : String} {af : Array Edge}
theorem s_appT {t el bytes : Nat} {α : Type} {T : Tr α} {z : Value} {x y : Operand} {v u : Value} {xs ys : List α} {f1 f2 : List Nat} (hC : Ctx X w0 w ((Tr.sl el T).item xs [v] f1 :: (Tr.sl el T).item ys [u] f2 :: M) Ps)
    (ht : P.underlying t = some (.slice el)) (hE : ElemT P el z T.ty.sz bytes) (hzs : z.cells.size = T.ty.sz) (hsz : 0 < T.ty.sz) (hby : 0 < bytes) (hx : ev n e x = v) (hy : ev n e y = u) (hb : (xs.length + ys.length) * bytes ≤ 140737488355328)
    (h : ∀ v' f w', Ctx X w0 w' ((Tr.sl el T).item (xs ++ ys) [v'] f :: M) Ps → W P ops Q rest n (upd e d v') w') :
    W P ops Q (⟨some d, .call { callee := .builtin .append, args := #[x, y], argTypes := #[t, t] }, ty, pos, af, none⟩ :: rest) n e w := by
  obtain ⟨ecs, fps, a1, a2, rfl, a4⟩ := tr_split (hC.getM 0 rfl)
  obtain ⟨dcs, gps, b1, b2, rfl, b4⟩ := tr_split (hC.getM 1 rfl)
  have h1 := hC.split (a := own el T.ty.sz v xs.length ecs) (b := forest T xs ecs fps) (fun b hb => List.mem_append_left _ hb) (fun b hb => List.mem_append_right _ hb) ⟨a1, a2, a4⟩
  have h2 := h1.perm (M' := (Tr.sl el T).item ys [u] (u.ownBlock.toList ++ gps.flatten) :: own el T.ty.sz v xs.length ecs :: forest T xs ecs fps :: M) (((List.Perm.swap _ _ _).cons _).trans (List.Perm.swap _ _ _))
  have h3 := h2.split (a := own el T.ty.sz u ys.length dcs) (b := forest T ys dcs gps) (fun b hb => List.mem_append_left _ hb) (fun b hb => List.mem_append_right _ hb) ⟨b1, b2, b4⟩
  have hall := trees_all b2.1
  refine s_app h3 2 ht hE hzs hsz hby rfl (own_rdr b1) hall.2.2.1 hx hy hb fun v' w1 hC1 => ?_
  have h4 := hC1.sub (M' := forest T ys dcs gps :: own el T.ty.sz v' (xs.length + ys.length) (ecs ++ dcs) :: forest T xs ecs fps :: M) (List.sublist_cons_self _ _) (fun _ h => h)
  have h5 := h4.perm (M' := forest T xs ecs fps :: forest T ys dcs gps :: own el T.ty.sz v' (xs.length + ys.length) (ecs ++ dcs) :: M) (((List.Perm.swap _ _ _).cons _).trans (List.Perm.swap _ _ _))
  have h6 := h5.gather (c := forest T (xs ++ ys) (ecs ++ dcs) (fps ++ gps)) (fun x hx => List.mem_append.1 (by simpa [forest] using hx)) (fun p q r => forest_append p q r)
  have h7 := h6.perm (M' := own el T.ty.sz v' (xs.length + ys.length) (ecs ++ dcs) :: forest T (xs ++ ys) (ecs ++ dcs) (fps ++ gps) :: M) (List.Perm.swap _ _ _)
  exact h v' _ w1 (h7.gather (c := (Tr.sl el T).item (xs ++ ys) [v'] (v'.ownBlock.toList ++ (fps ++ gps).flatten)) (fun x hx => List.mem_append.1 hx) (fun p q r => forest_up (by rw [List.length_append]; exact p) q r))
end
end Vc
namespace Vc
open Go
theorem forest_mem {α : Type} {T : Tr α} {xs : List α} {cs : List Value} {f : List Nat} {fps : List (List Nat)} {x : Nat} (h : x ∈ (forest T xs cs (f :: fps)).fp) : x ∈ f ∨ x ∈ fps.flatten := by
  have h' : x ∈ (f :: fps).flatten := h
  rw [List.flatten_cons] at h'
  exact List.mem_append.1 h'
end Vc
namespace Vc
open Go Go.RowKit
section
variable {P : Program} {ops : Array Oper} {Q : Exit → Act → World → Prop} {n : Nat} {e : Env} {w w' : World} {rest : List Oper}
variable {d ty : Nat} {pos : String} {af : Array Edge} {gd : Option (Nat × Bool)}
theorem r_fieldS {t i : Nat} {x : Operand} {cs : List Value} {fs : Array Field} {f : Field} (v : Value) (ht : P.underlying t = some (.struct fs)) (hf : fs[i]? = some f) (hS : ScaT P f.type) (hx : ev n e x = .agg cs.toArray) (hv : cs[f.offset]? = some v) :
    (execOp (ev n e) ⟨some d, .field t x i, ty, pos, af, gd⟩).run P w = .ok (.value v) w := by
  simp [execOp, hx, Instr.field, run_underlying ht, hf, asAgg, part, run_isAgg_f hS, hv]
theorem s_fieldS {t i : Nat} {x : Operand} {cs : List Value} {fs : Array Field} {f : Field} (v : Value) (ht : P.underlying t = some (.struct fs)) (hf : fs[i]? = some f) (hS : ScaT P f.type) (hx : ev n e x = .agg cs.toArray) (hv : cs[f.offset]? = some v)
    (h : W P ops Q rest n (upd e d v) w) : W P ops Q (⟨some d, .field t x i, ty, pos, af, none⟩ :: rest) n e w :=
  stepV v rfl rfl (r_fieldS v ht hf hS hx hv) h
end
end Vc
