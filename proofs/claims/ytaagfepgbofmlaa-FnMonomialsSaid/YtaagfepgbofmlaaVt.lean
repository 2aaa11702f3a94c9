/- Trees of rows of the call's own: rows whose elements are rows, each in a block of its own. -/
import Derived.Test.YtaagfepgbofmlaaVc14
set_option linter.unusedVariables false
set_option linter.unusedSimpArgs false
namespace Vc
open Go Go.RowKit
structure Tr (α : Type) where
  ty : Ty α
  tree : α → List Value → List Nat → World → Prop
  tkeep : ∀ {x cs fp} {w w' : World}, (∀ b, b ∈ fp → w'.heap[b]? = w.heap[b]?) → tree x cs fp w → tree x cs fp w'
  tlow : ∀ {x cs fp w}, tree x cs fp w → ∀ b, b ∈ fp → b < w.heap.size
  trep : ∀ {x cs fp w}, tree x cs fp w → ty.rep x cs fp w
def Tr.item {α : Type} (T : Tr α) (x : α) (cs : List Value) (fp : List Nat) : Item where
  fp := fp
  holds w := T.tree x cs fp w ∧ fp.Nodup
  keep _ _ h hw := ⟨T.tkeep h hw.1, hw.2⟩
  low _ hw := T.tlow hw.1
def Enc.tr {α : Type} (E : Enc α) : Tr α where
  ty := E.ty
  tree x cs fp w := fp = [] ∧ cs = E.enc x
  tkeep _ h := h
  tlow h := by obtain ⟨rfl, _⟩ := h; simp
  trep h := by obtain ⟨rfl, rfl⟩ := h; exact ⟨by simp, rfl⟩
/-- The elements' trees. -/
def Tr.trees {α : Type} (T : Tr α) (xs : List α) (cs : List Value) (fps : List (List Nat)) (w : World) : Prop :=
  cs.length = xs.length * T.ty.sz ∧ fps.length = xs.length ∧ ∀ i (h : i < xs.length), T.tree xs[i] ((cs.drop (i * T.ty.sz)).take T.ty.sz) (fps.getD i []) w
section
variable {α : Type} {T : Tr α} {w w' : World}
theorem mem_flat {fps : List (List Nat)} {b : Nat} : b ∈ fps.flatten ↔ ∃ i, i < fps.length ∧ b ∈ fps.getD i [] := by
  rw [List.mem_flatten]
  constructor
  · rintro ⟨l, hl, hb⟩
    obtain ⟨i, hi, rfl⟩ := List.getElem_of_mem hl
    exact ⟨i, hi, by simpa [List.getD, hi] using hb⟩
  · rintro ⟨i, hi, hb⟩
    refine ⟨fps[i], List.getElem_mem hi, by simpa [List.getD, hi] using hb⟩
theorem trees_keep {xs : List α} {cs : List Value} {fps : List (List Nat)} (h : ∀ b, b ∈ fps.flatten → w'.heap[b]? = w.heap[b]?) (ht : T.trees xs cs fps w) : T.trees xs cs fps w' :=
  ⟨ht.1, ht.2.1, fun i hi => T.tkeep (fun b hb => h b (mem_flat.2 ⟨i, by rw [ht.2.1]; exact hi, hb⟩)) (ht.2.2 i hi)⟩
theorem trees_low {xs : List α} {cs : List Value} {fps : List (List Nat)} (ht : T.trees xs cs fps w) : ∀ b, b ∈ fps.flatten → b < w.heap.size := by
  intro b hb
  obtain ⟨i, hi, hb⟩ := mem_flat.1 hb
  exact T.tlow (ht.2.2 i (by rw [← ht.2.1]; exact hi)) b hb
theorem trees_nil (T : Tr α) (w : World) : T.trees [] [] [] w := ⟨by simp, by simp, fun i hi => absurd hi (by simp)⟩
theorem trees_all {xs : List α} {cs : List Value} {fps : List (List Nat)} (h : T.trees xs cs fps w) : T.ty.all xs cs fps.flatten w := by
  have hl := trees_low h
  have hr : ∀ i (hi : i < xs.length), T.ty.rep xs[i] ((cs.drop (i * T.ty.sz)).take T.ty.sz) fps.flatten w := fun i hi => T.ty.more (T.trep (h.2.2 i hi)) (fun b hb => mem_flat.2 ⟨i, by rw [h.2.1]; exact hi, hb⟩) hl
  refine ⟨hl, h.1, fun u hu => ?_, hr⟩
  obtain ⟨j, hj, rfl⟩ := List.getElem_of_mem hu
  rcases Nat.eq_zero_or_pos T.ty.sz with h0 | h0
  · rw [h.1, h0] at hj; omega
  · have hi : j / T.ty.sz < xs.length := Nat.div_lt_of_lt_mul (by rw [Nat.mul_comm, ← h.1]; exact hj)
    refine T.ty.one (hr _ hi) _ ?_
    refine List.mem_of_getElem? (i := j % T.ty.sz) ?_
    rw [List.getElem?_take, if_pos (Nat.mod_lt _ h0), List.getElem?_drop, Nat.div_add_mod']
    exact List.getElem?_eq_getElem hj
end
/-- A row whose elements are trees. -/
def Tr.sl {α : Type} (e : Nat) (T : Tr α) : Tr (List α) where
  ty := T.ty.sl
  tree xs cs fp w := ∃ v ecs fps, cs = [v] ∧ (own e T.ty.sz v xs.length ecs).holds w ∧ T.trees xs ecs fps w ∧ fp = v.ownBlock.toList ++ fps.flatten
  tkeep h ht := by
    obtain ⟨v, ecs, fps, rfl, h1, h2, rfl⟩ := ht
    exact ⟨v, ecs, fps, rfl, Item.keep _ _ _ (fun b hb => h b (List.mem_append_left _ hb)) h1, trees_keep (fun b hb => h b (List.mem_append_right _ hb)) h2, rfl⟩
  tlow ht b hb := by
    obtain ⟨v, ecs, fps, rfl, h1, h2, rfl⟩ := ht
    rcases List.mem_append.1 hb with hb | hb
    · exact Item.low _ _ h1 b hb
    · exact trees_low h2 b hb
  trep ht := by
    obtain ⟨v, ecs, fps, rfl, h1, h2, rfl⟩ := ht
    exact own_rep h1 (trees_all h2)
def Tr.iso {α β : Type} (f : β → α) (T : Tr α) : Tr β where
  ty := T.ty.iso f
  tree x cs fp w := T.tree (f x) cs fp w
  tkeep h ht := T.tkeep h ht
  tlow ht := T.tlow ht
  trep ht := T.trep ht
/-- A row of flat data is a tree. -/
theorem tr_flat {α : Type} {E : Enc α} {e : Nat} {xs : List α} {v : Value} {w : World} (h : (own e E.sz v xs.length (E.encs xs)).holds w) : (Tr.sl e E.tr).tree xs [v] v.ownBlock.toList w := by
  refine ⟨v, E.encs xs, List.replicate xs.length [], rfl, h, ⟨E.encs_len xs, by simp, fun i hi => ⟨by simp [List.getD, hi], ?_⟩⟩, by simp⟩
  haveI : Inhabited α := ⟨xs[i]⟩
  have := E.encs_seg xs i hi
  rw [show xs.getD i default = xs[i] by simp [List.getD, hi]] at this
  exact this
theorem flat_tr {α : Type} {E : Enc α} {e : Nat} {xs : List α} {v : Value} {fp : List Nat} {w : World} (h : (Tr.sl e E.tr).tree xs [v] fp w) : (own e E.sz v xs.length (E.encs xs)).holds w ∧ fp = v.ownBlock.toList := by
  obtain ⟨v', ecs, fps, hv, h1, h2, rfl⟩ := h
  obtain rfl : v = v' := by simpa using hv
  have he : ecs = E.encs xs := all_encs (trees_all h2)
  have hf : fps.flatten = [] := by
    rw [List.eq_nil_iff_forall_not_mem]
    intro b hb
    obtain ⟨i, hi, hb⟩ := mem_flat.1 hb
    have := (h2.2.2 i (by rw [← h2.2.1]; exact hi)).1
    rw [this] at hb; cases hb
  rw [hf, List.append_nil]
  exact ⟨he ▸ h1, rfl⟩
theorem tr_nil {α : Type} (e : Nat) (T : Tr α) (w : World) : (Tr.sl e T).tree [] [.slice none 0 0] [] w :=
  ⟨.slice none 0 0, [], [], rfl, ⟨by simp, .inl ⟨rfl, rfl⟩⟩, trees_nil T w, rfl⟩
section
variable {X : Nat → Prop} {w0 w w' : World} {M Ps : List Item}
theorem Ctx.split {a b c : Item} (h : Ctx X w0 w (c :: M) Ps) (ha : ∀ x, x ∈ a.fp → x ∈ c.fp) (hb : ∀ x, x ∈ b.fp → x ∈ c.fp) (hc : a.holds w ∧ b.holds w ∧ (∀ x, x ∈ a.fp → x ∉ b.fp)) : Ctx X w0 w (a :: b :: M) Ps := by
  obtain ⟨hd1, hd2⟩ := List.pairwise_cons.1 h.dis
  exact { h with
    m := fun j hj => by
      rcases List.mem_cons.1 hj with rfl | hj
      · exact hc.1
      · rcases List.mem_cons.1 hj with rfl | hj
        · exact hc.2.1
        · exact h.m j (by simp [hj])
    mfp := fun j hj x hx => by
      rcases List.mem_cons.1 hj with rfl | hj
      · exact h.mfp c (by simp) x (ha x hx)
      · rcases List.mem_cons.1 hj with rfl | hj
        · exact h.mfp c (by simp) x (hb x hx)
        · exact h.mfp j (by simp [hj]) x hx
    dis := by
      refine List.pairwise_cons.2 ⟨fun j hj x hx hxj => ?_, List.pairwise_cons.2 ⟨fun j hj x hx hxj => hd1 j hj x (hb x hx) hxj, hd2⟩⟩
      rcases List.mem_cons.1 hj with rfl | hj
      · exact hc.2.2 x hx hxj
      · exact hd1 j hj x (ha x hx) hxj
    pd := fun j hj x hx m hm hxm => by
      rcases List.mem_cons.1 hm with rfl | hm
      · exact h.pd j hj x hx c (by simp) (ha x hxm)
      · rcases List.mem_cons.1 hm with rfl | hm
        · exact h.pd j hj x hx c (by simp) (hb x hxm)
        · exact h.pd j hj x hx m (by simp [hm]) hxm }
/-- One item under another name, at the same blocks or fewer. -/
theorem Ctx.recast {a c : Item} (h : Ctx X w0 w (a :: M) Ps) (hfp : ∀ x, x ∈ c.fp → x ∈ a.fp) (hc : a.holds w → c.holds w) : Ctx X w0 w (c :: M) Ps := by
  obtain ⟨hd1, hd2⟩ := List.pairwise_cons.1 h.dis
  exact { h with
    m := fun j hj => by
      rcases List.mem_cons.1 hj with rfl | hj
      · exact hc (h.m a (by simp))
      · exact h.m j (by simp [hj])
    mfp := fun j hj x hx => by
      rcases List.mem_cons.1 hj with rfl | hj
      · exact h.mfp a (by simp) x (hfp x hx)
      · exact h.mfp j (by simp [hj]) x hx
    dis := List.pairwise_cons.2 ⟨fun j hj x hx hxj => hd1 j hj x (hfp x hx) hxj, hd2⟩
    pd := fun j hj x hx m hm hxm => by
      rcases List.mem_cons.1 hm with rfl | hm
      · exact h.pd j hj x hx a (by simp) (hfp x hxm)
      · exact h.pd j hj x hx m (by simp [hm]) hxm }
def TrForm (e : Nat) : Tr Form := .iso Form.terms (Tr.sl e ETerm.tr)
theorem nodup_own (v : Value) : v.ownBlock.toList.Nodup := by cases v.ownBlock <;> simp
theorem own_item {α : Type} {E : Enc α} {e : Nat} {xs : List α} {v : Value} {w : World} (h : (own e E.sz v xs.length (E.encs xs)).holds w) : (Tr.item (Tr.sl e E.tr) xs [v] v.ownBlock.toList).holds w := ⟨tr_flat h, nodup_own v⟩
theorem form_split {e : Nat} {x : Form} {v : Value} {fp : List Nat} (h : ((TrForm e).item x [v] fp).holds w) : (own e ETerm.sz v x.terms.length (ETerm.encs x.terms)).holds w ∧ fp = v.ownBlock.toList := flat_tr h.1
theorem form_join {e : Nat} {a : List Term} {v : Value} {f : List Nat} (h : ((Tr.sl e ETerm.tr).item a [v] f).holds w) : ((TrForm e).item ⟨a⟩ [v] f).holds w := h
theorem nil_item {α : Type} (e : Nat) (T : Tr α) (w : World) : ((Tr.sl e T).item [] [.slice none 0 0] []).holds w := ⟨tr_nil e T w, by simp⟩
theorem Ctx.startL (w : World) (F : List Nat) (M Ps : List Item) (hm : ∀ it, it ∈ M → it.holds w) (hp : ∀ it, it ∈ Ps → it.holds w) (hF : ∀ it, it ∈ M → ∀ b, b ∈ it.fp → b ∈ F) (hdis : M.Pairwise (fun a b => ∀ x, x ∈ a.fp → x ∉ b.fp)) (hpd : ∀ it, it ∈ Ps → ∀ b, b ∈ it.fp → b ∉ F) : Ctx (fun c => c ∈ F) w w M Ps :=
  ⟨rfl, rfl, rfl, Nat.le_refl _, Nat.le_refl _, fun _ _ _ => rfl, hm, hp, fun it hi b hb => .inr (hF it hi b hb), hdis, fun it hi b hb m hm hbm => hpd it hi b hb (hF m hm b hbm)⟩
theorem Ctx.belO {F : List Nat} (h : Ctx (fun c => c ∈ F) w0 w M Ps) : BelO F w0 w := ⟨h.os, h.tape, h.output, h.size, h.drawn, fun c hc hne => h.old c hc hne⟩
end
end Vc
namespace Vc
open Go Go.RowKit
section
variable {X : Nat → Prop} {w0 w w' : World} {M Ps : List Item}
end
end Vc
namespace Vc
open Go Go.RowKit
def IsSl (v : Value) : Prop := ∃ A n c, v = .slice A n c
theorem rep_isSl {α : Type} {t : Ty α} {xs : List α} {v : Value} {fp : List Nat} {w : World} (h : t.sl.rep xs [v] fp w) : IsSl v := by
  obtain ⟨A, c, rfl⟩ := sl_len h
  exact ⟨A, _, c, rfl⟩
section
variable {P : Program} {ops : Array Oper} {Q : Exit → Act → World → Prop} {n : Nat} {e : Env} {w w' : World} {rest : List Oper}
variable {d ty : Nat} {pos : String} {af : Array Edge} {gd : Option (Nat × Bool)}
end
end Vc
namespace Vc
open Go Go.RowKit
section
variable {P : Program} {ops : Array Oper} {Q : Exit → Act → World → Prop} {n : Nat} {e : Env} {w w' : World} {rest : List Oper}
variable {X : Nat → Prop} {w0 : World} {M Ps : List Item}
variable {d ty : Nat} {pos : String} {af : Array Edge}
end
end Vc
namespace Vc
open Go
end Vc
namespace Vc
open Go Go.RowKit
section
variable {P : Program} {ops : Array Oper} {Q : Exit → Act → World → Prop} {n : Nat} {e : Env} {w w' : World} {rest : List Oper}
variable {d ty : Nat} {pos : String} {af : Array Edge} {gd : Option (Nat × Bool)}
end
end Vc
