import Derived.Test.YtaagfepgbofmlaaQ0
import Derived.Shelf.SlSortCmp.WholeK
import Derived.Ground.SlsfProg
import Derived.Test.YtaagfepgbofmlaaProg
set_option linter.unusedVariables false
set_option linter.unusedSimpArgs false
namespace Vc
open Go
def restA (m : A8) (i : Nat) : A8 := A8.mkf fun j => if i < j then m.get j else if j = i then m.get i - 1 else 0
def OddEq (ds : List Int) (a b : A8) : Prop := ∀ i, Int.tmod (ds.getD i default) 2 ≠ 0 → a.get i = b.get i
theorem OddEq.refl (ds : List Int) (a : A8) : OddEq ds a a := fun _ _ => rfl
theorem OddEq.add {ds : List Int} {a b c d : A8} (h : OddEq ds a b) (k : OddEq ds c d) : OddEq ds (a.add c) (b.add d) := fun i hi => by
  rw [A8.get_add, A8.get_add, h i hi, k i hi]
theorem Zlo {ds : List Int} {a a' b b' : A8} (h : OddEq ds a a') (k : OddEq ds b b') : Clash ds a b ↔ Clash ds a' b' := by
  constructor
  · rintro ⟨i, h1, h2, h3⟩; exact ⟨i, h1, h2, by rwa [← h i h2, ← k i h2]⟩
  · rintro ⟨i, h1, h2, h3⟩; exact ⟨i, h1, h2, by rwa [h i h2, k i h2]⟩
theorem Zpl {ds : List Int} {a a' : A8} (h : OddEq ds a a') : ∀ r j, Zax ds a r j = Zax ds a' r j := by
  intro r
  induction r with
  | zero => intro j; rfl
  | succ r ih =>
    intro j
    simp only [Zax, ih]
    congr 1
    by_cases hj : Int.tmod (ds.getD j default) 2 = 0
    · rw [hj, Int.zero_mul, Int.zero_mul]
    · rw [h j hj]
theorem Zlp {ds : List Int} {a a' b b' : A8} (h : OddEq ds a a') (k : OddEq ds b b') : ∀ r j, Zaf ds a b r j = Zaf ds a' b' r j := by
  intro r
  induction r with
  | zero => intro j; rfl
  | succ r ih =>
    intro j
    simp only [Zaf, ih, Zpl h]
    congr 1
    by_cases hj : Int.tmod (ds.getD j default) 2 = 0
    · rw [if_pos (.inl hj), if_pos (.inl hj)]
    · rw [k j hj]
theorem Zpm {ds : List Int} {l l' b b' : A8} (h : OddEq ds l l') (k : OddEq ds b b') (e : l.add b = l'.add b') (u : A8) (n : Int) (x : A8) : tri ds l b u n x = tri ds l' b' u n x := by
  have hu := OddEq.refl ds u
  have c1 := Zlo h hu
  unfold tri
  by_cases hc : Clash ds l u
  · have hc' := c1.1 hc
    rw [show Yz ds l u = (A8.zero, 0) by simp [Yz, hc], show Yz ds l' u = (A8.zero, 0) by simp [Yz, hc']]
    simp
  · have hc' : ¬ Clash ds l' u := fun q => hc (c1.2 q)
    rw [show Yz ds l u = (l.add u, sg (Zaf ds l u ds.length 0)) by simp [Yz, hc], show Yz ds l' u = (l'.add u, sg (Zaf ds l' u ds.length 0)) by simp [Yz, hc'], Zlp h hu]
    dsimp only
    have hl := h.add hu
    have c2 := Zlo hl k
    have ee : (l.add u).add b = (l'.add u).add b' := by
      refine A8.ext_get fun i hi => ?_
      have := congrArg (fun z => A8.get z i) e
      simp only [A8.get_add] at this ⊢
      omega
    by_cases hd : Clash ds (l.add u) b
    · have hd' := c2.1 hd
      rw [show Yz ds (l.add u) b = (A8.zero, 0) by simp [Yz, hd], show Yz ds (l'.add u) b' = (A8.zero, 0) by simp [Yz, hd']]
    · have hd' : ¬ Clash ds (l'.add u) b' := fun q => hd (c2.2 q)
      rw [show Yz ds (l.add u) b = ((l.add u).add b, sg (Zaf ds (l.add u) b ds.length 0)) by simp [Yz, hd], show Yz ds (l'.add u) b' = ((l'.add u).add b', sg (Zaf ds (l'.add u) b' ds.length 0)) by simp [Yz, hd'], Zlp hl k, ee]
theorem Zpn {ds : List Int} {l l' b b' : A8} (h : OddEq ds l l') (k : OddEq ds b b') (e : l.add b = l'.add b') (img : List Term) (x : A8) : triC ds l b img x = triC ds l' b' img x :=
  Zb4 fun u _ => Zpm h k e u.mono u.factor x
theorem Zpo {ds : List Int} {m : A8} {i : Nat} (hm : OkMono ds m) (hi : i < ds.length) (h8 : ds.length ≤ 8) (hp : 0 < m.get i) : OddEq ds (frontA m i) (leftA m i) ∧ OddEq ds (restA m i) (backA m i) ∧ (frontA m i).add (restA m i) = (leftA m i).add (backA m i) := by
  have hodd : ∀ j, Int.tmod (ds.getD j default) 2 ≠ 0 → j < 8 := fun j hj => by
    rcases Nat.lt_or_ge j ds.length with q | q
    · omega
    · exfalso; apply hj; simp only [List.getD, List.getElem?_eq_none q]; decide
  refine ⟨fun j hj => ?_, fun j hj => ?_, A8.ext_get fun j hj => ?_⟩
  · have h := hodd j hj
    rw [frontA, leftA, A8.get_mkf _ h, A8.get_mkf _ h]
    by_cases hji : j = i
    · subst hji
      have := ((hm j h).1 hi).2 hj
      rw [if_neg (by omega), if_neg (by omega), if_pos rfl]; omega
    · rw [if_neg hji]
  · have h := hodd j hj
    rw [restA, backA, A8.get_mkf _ h, A8.get_mkf _ h]
    by_cases hji : j = i
    · subst hji
      have := ((hm j h).1 hi).2 hj
      simp only [Nat.lt_irrefl, if_false, if_true]; omega
    · rw [if_neg hji]
  · rw [A8.get_add, A8.get_add, frontA, restA, leftA, backA, A8.get_mkf _ hj, A8.get_mkf _ hj, A8.get_mkf _ hj, A8.get_mkf _ hj]
    by_cases h1 : j < i
    · simp [h1, show ¬ i < j by omega, show ¬ j = i by omega]
    · by_cases h2 : j = i
      · subst h2; simp
      · simp [h1, h2, show i < j by omega]
def vK (ds : List Int) (dr : Int) (m : A8) (n : Int) (i : Nat) : Int := (sg (dr * wtU ds m i) * (n * m.get i)) % 10007
def vS (ds : List Int) (dr : Int) (imgs : List (List Term)) (m : A8) (n : Int) (x : A8) : Nat → Nat → Int
  | 0, _ => 0
  | r + 1, i => (if m.get i > 0 then vK ds dr m n i * triC ds (leftA m i) (backA m i) (imgs.getD i default) x else 0) + vS ds dr imgs m n x r (i + 1)
def vT (ds : List Int) (dr : Int) (imgs : List (List Term)) (m : A8) (n : Int) (x : A8) : Int := vS ds dr imgs m n x ds.length 0
structure IsA (ds : List Int) (dr : Int) (imgs : List (List Term)) (f out : List Term) : Prop where
  can : Canon out
  cf : ∀ x, coT out x % 10007 = tot (fun t => vT ds dr imgs t.mono t.factor x) f % 10007
  mo : ∀ y, y ∈ out → ∃ t, t ∈ f ∧ DMono ds imgs y.mono t.mono
theorem Zpp (ds : List Int) (l b u : A8) (v n x : _) : tri ds l b u (v * n) x = v * tri ds l b u n x := by
  unfold tri
  split
  · rw [Int.mul_left_comm v, Int.mul_left_comm v]
  · simp
theorem Zpq (ds : List Int) (l b : A8) (v : Int) (img : List Term) (x : A8) : triC ds l b (img.map fun u => ⟨u.mono, v * u.factor⟩) x = v * triC ds l b img x := by
  unfold triC
  rw [Zbv, ← Zo3]
  exact Zb4 fun u _ => Zpp ds l b u.mono v u.factor x
theorem Zpr {ds : List Int} {l b : A8} {v : Int} {img own prod : List Term} (h1 : ∀ y, coT own y % 10007 = shC ds ⟨l, v⟩ img y % 10007) (h2 : ∀ x, coT prod x % 10007 = prC ds own [⟨b, 1⟩] x % 10007) (x : A8) : coT prod x % 10007 = (v * triC ds l b img x) % 10007 := by
  rw [← Zpq]
  refine Zi0 (fun y => ?_) h2 x
  rw [h1]
  congr 1
  unfold shC
  rw [Zbv]
  refine Zb4 fun u _ => ?_
  unfold pr1
  simp only [Int.one_mul]
end Vc
set_option linter.unusedVariables false
set_option linter.unusedSimpArgs false
namespace Vc
open Go Go.RowKit
structure Tr (α : Type) where
  ty : Ty α
  tree : α → List Value → List Nat → World → Prop
  tkeep : ∀ {x cs fp} {w w' : World}, (∀ b, b ∈ fp → w'.heap[b]? = w.heap[b]?) → tree x cs fp w → tree x cs fp w'
  tlow : ∀ {x cs fp w}, tree x cs fp w → ∀ b, b ∈ fp → b < w.heap.size
  trep : ∀ {x cs fp w}, tree x cs fp w → ty.rep x cs fp w
def Tr.item {α : Type} (T : Tr α) (x : α) (cs : List Value) (fp : List Nat) : Item where
  fp := fp
  holds w := T.tree x cs fp w ∧ fp.Nodup
  keep _ _ h hw := ⟨T.tkeep h hw.1, hw.2⟩
  low _ hw := T.tlow hw.1
def Enc.tr {α : Type} (E : Enc α) : Tr α where
  ty := E.ty
  tree x cs fp w := fp = [] ∧ cs = E.enc x
  tkeep _ h := h
  tlow h := by obtain ⟨rfl, _⟩ := h; simp
  trep h := by obtain ⟨rfl, rfl⟩ := h; exact ⟨by simp, rfl⟩
def Tr.trees {α : Type} (T : Tr α) (xs : List α) (cs : List Value) (fps : List (List Nat)) (w : World) : Prop :=
  cs.length = xs.length * T.ty.sz ∧ fps.length = xs.length ∧ ∀ i (h : i < xs.length), T.tree xs[i] ((cs.drop (i * T.ty.sz)).take T.ty.sz) (fps.getD i []) w
section
variable {α : Type} {T : Tr α} {w w' : World}
theorem mem_flat {fps : List (List Nat)} {b : Nat} : b ∈ fps.flatten ↔ ∃ i, i < fps.length ∧ b ∈ fps.getD i [] := by
  rw [List.mem_flatten]
  constructor
  · rintro ⟨l, hl, hb⟩
    obtain ⟨i, hi, rfl⟩ := List.getElem_of_mem hl
    exact ⟨i, hi, by simpa [List.getD, hi] using hb⟩
  · rintro ⟨i, hi, hb⟩
    refine ⟨fps[i], List.getElem_mem hi, by simpa [List.getD, hi] using hb⟩
theorem Zlq {xs : List α} {cs : List Value} {fps : List (List Nat)} (h : ∀ b, b ∈ fps.flatten → w'.heap[b]? = w.heap[b]?) (ht : T.trees xs cs fps w) : T.trees xs cs fps w' :=
  ⟨ht.1, ht.2.1, fun i hi => T.tkeep (fun b hb => h b (mem_flat.2 ⟨i, by rw [ht.2.1]; exact hi, hb⟩)) (ht.2.2 i hi)⟩
theorem Zi2 {xs : List α} {cs : List Value} {fps : List (List Nat)} (ht : T.trees xs cs fps w) : ∀ b, b ∈ fps.flatten → b < w.heap.size := by
  intro b hb
  obtain ⟨i, hi, hb⟩ := mem_flat.1 hb
  exact T.tlow (ht.2.2 i (by rw [← ht.2.1]; exact hi)) b hb
theorem Zlr (T : Tr α) (w : World) : T.trees [] [] [] w := ⟨by simp, by simp, fun i hi => absurd hi (by simp)⟩
theorem Zps {x : α} {xs : List α} {c cs : List Value} {f : List Nat} {fps : List (List Nat)} (h : T.tree x c f w) (hs : T.trees xs cs fps w) : T.trees (x :: xs) (c ++ cs) (f :: fps) w := by
  have hc := T.ty.len (T.trep h)
  refine ⟨by rw [List.length_append, hc, hs.1, List.length_cons, Nat.add_mul, Nat.one_mul, Nat.add_comm], by simp [hs.2.1], fun i hi => ?_⟩
  cases i with
  | zero =>
    simp only [Nat.zero_mul, List.drop_zero, List.getElem_cons_zero]
    rw [List.take_append_of_le_length (by omega), List.take_of_length_le (by omega)]
    exact h
  | succ i =>
    rw [Nat.add_mul, Nat.one_mul, Nat.add_comm (i * T.ty.sz), ← List.drop_drop, List.drop_left' hc]
    exact hs.2.2 i (by simpa using hi)
theorem Zpt {xs ys : List α} {cs ds : List Value} {fps gps : List (List Nat)} (h : T.trees xs cs fps w) (k : T.trees ys ds gps w) : T.trees (xs ++ ys) (cs ++ ds) (fps ++ gps) w := by
  refine ⟨by rw [List.length_append, h.1, k.1, List.length_append, Nat.add_mul], by simp [h.2.1, k.2.1], fun i hi => ?_⟩
  by_cases hx : i < xs.length
  · have e1 : (xs ++ ys)[i] = xs[i] := List.getElem_append_left hx
    have hle : i * T.ty.sz + T.ty.sz ≤ cs.length := by rw [h.1]; exact Za3 hx
    have e2 : ((cs ++ ds).drop (i * T.ty.sz)).take T.ty.sz = (cs.drop (i * T.ty.sz)).take T.ty.sz := by
      rw [List.drop_append_of_le_length (by omega), List.take_append_of_le_length (by rw [List.length_drop]; omega)]
    have e3 : (fps ++ gps).getD i [] = fps.getD i [] := by simp only [List.getD]; rw [List.getElem?_append_left (by rw [h.2.1]; exact hx)]
    rw [e1, e2, e3]
    exact h.2.2 i hx
  · have hy : i - xs.length < ys.length := by rw [List.length_append] at hi; omega
    have e1 : (xs ++ ys)[i] = ys[i - xs.length] := List.getElem_append_right (by omega)
    have hm : i * T.ty.sz = cs.length + (i - xs.length) * T.ty.sz := by rw [h.1, ← Nat.add_mul]; congr 1; omega
    have e2 : ((cs ++ ds).drop (i * T.ty.sz)) = ds.drop ((i - xs.length) * T.ty.sz) := by rw [hm, ← List.drop_drop, List.drop_left' rfl]
    have e3 : (fps ++ gps).getD i [] = gps.getD (i - xs.length) [] := by simp only [List.getD]; rw [List.getElem?_append_right (by rw [h.2.1]; omega), h.2.1]
    rw [e1, e2, e3]
    exact k.2.2 _ hy
theorem Zi3 {xs : List α} {cs : List Value} {fps : List (List Nat)} (h : T.trees xs cs fps w) : T.ty.all xs cs fps.flatten w := by
  have hl := Zi2 h
  have hr : ∀ i (hi : i < xs.length), T.ty.rep xs[i] ((cs.drop (i * T.ty.sz)).take T.ty.sz) fps.flatten w := fun i hi => T.ty.more (T.trep (h.2.2 i hi)) (fun b hb => mem_flat.2 ⟨i, by rw [h.2.1]; exact hi, hb⟩) hl
  refine ⟨hl, h.1, fun u hu => ?_, hr⟩
  obtain ⟨j, hj, rfl⟩ := List.getElem_of_mem hu
  rcases Nat.eq_zero_or_pos T.ty.sz with h0 | h0
  · rw [h.1, h0] at hj; omega
  · have hi : j / T.ty.sz < xs.length := Nat.div_lt_of_lt_mul (by rw [Nat.mul_comm, ← h.1]; exact hj)
    refine T.ty.one (hr _ hi) _ ?_
    refine List.mem_of_getElem? (i := j % T.ty.sz) ?_
    rw [List.getElem?_take, if_pos (Nat.mod_lt _ h0), List.getElem?_drop, Nat.div_add_mod']
    exact List.getElem?_eq_getElem hj
end
def Tr.sl {α : Type} (e : Nat) (T : Tr α) : Tr (List α) where
  ty := T.ty.sl
  tree xs cs fp w := ∃ v ecs fps, cs = [v] ∧ (own e T.ty.sz v xs.length ecs).holds w ∧ T.trees xs ecs fps w ∧ fp = v.ownBlock.toList ++ fps.flatten
  tkeep h ht := by
    obtain ⟨v, ecs, fps, rfl, h1, h2, rfl⟩ := ht
    exact ⟨v, ecs, fps, rfl, Item.keep _ _ _ (fun b hb => h b (List.mem_append_left _ hb)) h1, Zlq (fun b hb => h b (List.mem_append_right _ hb)) h2, rfl⟩
  tlow ht b hb := by
    obtain ⟨v, ecs, fps, rfl, h1, h2, rfl⟩ := ht
    rcases List.mem_append.1 hb with hb | hb
    · exact Item.low _ _ h1 b hb
    · exact Zi2 h2 b hb
  trep ht := by
    obtain ⟨v, ecs, fps, rfl, h1, h2, rfl⟩ := ht
    exact Zn0 h1 (Zi3 h2)
def Tr.iso {α β : Type} (f : β → α) (T : Tr α) : Tr β where
  ty := T.ty.iso f
  tree x cs fp w := T.tree (f x) cs fp w
  tkeep h ht := T.tkeep h ht
  tlow ht := T.tlow ht
  trep ht := T.trep ht
def Tr.pair {α β : Type} (S : Tr α) (T : Tr β) : Tr (α × β) where
  ty := S.ty.pair T.ty
  tree x cs fp w := ∃ c1 c2 f1 f2, cs = c1 ++ c2 ∧ fp = f1 ++ f2 ∧ S.tree x.1 c1 f1 w ∧ T.tree x.2 c2 f2 w
  tkeep h ht := by
    obtain ⟨c1, c2, f1, f2, rfl, rfl, h1, h2⟩ := ht
    exact ⟨c1, c2, f1, f2, rfl, rfl, S.tkeep (fun b hb => h b (List.mem_append_left _ hb)) h1, T.tkeep (fun b hb => h b (List.mem_append_right _ hb)) h2⟩
  tlow ht b hb := by
    obtain ⟨c1, c2, f1, f2, rfl, rfl, h1, h2⟩ := ht
    rcases List.mem_append.1 hb with hb | hb
    · exact S.tlow h1 b hb
    · exact T.tlow h2 b hb
  trep ht := by
    obtain ⟨c1, c2, f1, f2, rfl, rfl, h1, h2⟩ := ht
    exact Zij (S.trep h1) (T.trep h2)
theorem Zi4 {α : Type} {E : Enc α} {e : Nat} {xs : List α} {v : Value} {w : World} (h : (own e E.sz v xs.length (E.encs xs)).holds w) : (Tr.sl e E.tr).tree xs [v] v.ownBlock.toList w := by
  refine ⟨v, E.encs xs, List.replicate xs.length [], rfl, h, ⟨E.encs_len xs, by simp, fun i hi => ⟨by simp [List.getD, hi], ?_⟩⟩, by simp⟩
  haveI : Inhabited α := ⟨xs[i]⟩
  have := E.encs_seg xs i hi
  rw [show xs.getD i default = xs[i] by simp [List.getD, hi]] at this
  exact this
theorem Zat {α : Type} {E : Enc α} {e : Nat} {xs : List α} {v : Value} {fp : List Nat} {w : World} (h : (Tr.sl e E.tr).tree xs [v] fp w) : (own e E.sz v xs.length (E.encs xs)).holds w ∧ fp = v.ownBlock.toList := by
  obtain ⟨v', ecs, fps, hv, h1, h2, rfl⟩ := h
  obtain rfl : v = v' := by simpa using hv
  have he : ecs = E.encs xs := Zof (Zi3 h2)
  have hf : fps.flatten = [] := by
    rw [List.eq_nil_iff_forall_not_mem]
    intro b hb
    obtain ⟨i, hi, hb⟩ := mem_flat.1 hb
    have := (h2.2.2 i (by rw [← h2.2.1]; exact hi)).1
    rw [this] at hb; cases hb
  rw [hf, List.append_nil]
  exact ⟨he ▸ h1, rfl⟩
theorem Zpu {α : Type} (e : Nat) (T : Tr α) (w : World) : (Tr.sl e T).tree [] [.slice none 0 0] [] w :=
  ⟨.slice none 0 0, [], [], rfl, ⟨by simp, .inl ⟨rfl, rfl⟩⟩, Zlr T w, rfl⟩
section
variable {X : Nat → Prop} {w0 w w' : World} {M Ps : List Item}
theorem Ctx.perm {M' : List Item} (h : Ctx X w0 w M Ps) (hp : M.Perm M') : Ctx X w0 w M' Ps :=
  { h with
    m := fun j hj => h.m j (hp.mem_iff.2 hj)
    mfp := fun j hj => h.mfp j (hp.mem_iff.2 hj)
    dis := (hp.pairwise_iff (fun {a b} (hab : ∀ x, x ∈ a.fp → x ∉ b.fp) => fun x hx hx' => hab x hx' hx)).1 h.dis
    pd := fun j hj b hb m hm => h.pd j hj b hb m (hp.mem_iff.2 hm) }
theorem Ctx.gather {a b c : Item} (h : Ctx X w0 w (a :: b :: M) Ps) (hfp : ∀ x, x ∈ c.fp → x ∈ a.fp ∨ x ∈ b.fp) (hc : a.holds w → b.holds w → (∀ x, x ∈ a.fp → x ∉ b.fp) → c.holds w) : Ctx X w0 w (c :: M) Ps := by
  obtain ⟨hd1, hd2⟩ := List.pairwise_cons.1 h.dis
  obtain ⟨hd3, hd4⟩ := List.pairwise_cons.1 hd2
  exact { h with
    m := fun j hj => by
      rcases List.mem_cons.1 hj with rfl | hj
      · exact hc (h.m a (by simp)) (h.m b (by simp)) (hd1 b (by simp))
      · exact h.m j (by simp [hj])
    mfp := fun j hj x hx => by
      rcases List.mem_cons.1 hj with rfl | hj
      · rcases hfp x hx with hx | hx
        · exact h.mfp a (by simp) x hx
        · exact h.mfp b (by simp) x hx
      · exact h.mfp j (by simp [hj]) x hx
    dis := List.pairwise_cons.2 ⟨fun j hj x hx hxj => by
      rcases hfp x hx with hx | hx
      · exact hd1 j (by simp [hj]) x hx hxj
      · exact hd3 j hj x hx hxj, hd4⟩
    pd := fun j hj x hx m hm hxm => by
      rcases List.mem_cons.1 hm with rfl | hm
      · rcases hfp x hxm with hxm | hxm
        · exact h.pd j hj x hx a (by simp) hxm
        · exact h.pd j hj x hx b (by simp) hxm
      · exact h.pd j hj x hx m (by simp [hm]) hxm }
theorem Ctx.split {a b c : Item} (h : Ctx X w0 w (c :: M) Ps) (ha : ∀ x, x ∈ a.fp → x ∈ c.fp) (hb : ∀ x, x ∈ b.fp → x ∈ c.fp) (hc : a.holds w ∧ b.holds w ∧ (∀ x, x ∈ a.fp → x ∉ b.fp)) : Ctx X w0 w (a :: b :: M) Ps := by
  obtain ⟨hd1, hd2⟩ := List.pairwise_cons.1 h.dis
  exact { h with
    m := fun j hj => by
      rcases List.mem_cons.1 hj with rfl | hj
      · exact hc.1
      · rcases List.mem_cons.1 hj with rfl | hj
        · exact hc.2.1
        · exact h.m j (by simp [hj])
    mfp := fun j hj x hx => by
      rcases List.mem_cons.1 hj with rfl | hj
      · exact h.mfp c (by simp) x (ha x hx)
      · rcases List.mem_cons.1 hj with rfl | hj
        · exact h.mfp c (by simp) x (hb x hx)
        · exact h.mfp j (by simp [hj]) x hx
    dis := by
      refine List.pairwise_cons.2 ⟨fun j hj x hx hxj => ?_, List.pairwise_cons.2 ⟨fun j hj x hx hxj => hd1 j hj x (hb x hx) hxj, hd2⟩⟩
      rcases List.mem_cons.1 hj with rfl | hj
      · exact hc.2.2 x hx hxj
      · exact hd1 j hj x (ha x hx) hxj
    pd := fun j hj x hx m hm hxm => by
      rcases List.mem_cons.1 hm with rfl | hm
      · exact h.pd j hj x hx c (by simp) (ha x hxm)
      · rcases List.mem_cons.1 hm with rfl | hm
        · exact h.pd j hj x hx c (by simp) (hb x hxm)
        · exact h.pd j hj x hx m (by simp [hm]) hxm }
theorem Ctx.recast {a c : Item} (h : Ctx X w0 w (a :: M) Ps) (hfp : ∀ x, x ∈ c.fp → x ∈ a.fp) (hc : a.holds w → c.holds w) : Ctx X w0 w (c :: M) Ps := by
  obtain ⟨hd1, hd2⟩ := List.pairwise_cons.1 h.dis
  exact { h with
    m := fun j hj => by
      rcases List.mem_cons.1 hj with rfl | hj
      · exact hc (h.m a (by simp))
      · exact h.m j (by simp [hj])
    mfp := fun j hj x hx => by
      rcases List.mem_cons.1 hj with rfl | hj
      · exact h.mfp a (by simp) x (hfp x hx)
      · exact h.mfp j (by simp [hj]) x hx
    dis := List.pairwise_cons.2 ⟨fun j hj x hx hxj => hd1 j hj x (hfp x hx) hxj, hd2⟩
    pd := fun j hj x hx m hm hxm => by
      rcases List.mem_cons.1 hm with rfl | hm
      · exact h.pd j hj x hx a (by simp) (hfp x hxm)
      · exact h.pd j hj x hx m (by simp [hm]) hxm }
theorem Ctx.stay (h : Ctx X w0 w M Ps) (j : Nat) {it : Item} (hj : M[j]? = some it) {F : List Nat} (hB : BelO F w w') (hF : ∀ x, x ∈ it.fp → x ∉ F) : it.holds w' :=
  it.keep w w' (fun b hb => hB.old b (it.low w (h.getM j hj) b hb) (hF b hb)) (h.getM j hj)
theorem Ctx.turnL (h : Ctx X w0 w M Ps) {F : List Nat} (hB : BelO F w w') {M' : List Item} (hfp : M'.map Item.fp = M.map Item.fp) (hF : ∀ x, x ∈ F → ∃ it, it ∈ M ∧ x ∈ it.fp) (hh : ∀ it, it ∈ M' → it.holds w') : Ctx X w0 w' M' Ps := by
  have hlen : M'.length = M.length := by have := congrArg List.length hfp; simpa using this
  have hget : ∀ i (hi : i < M'.length), (M'[i]).fp = (M[i]'(by omega)).fp := by
    intro i hi
    have := congrArg (·[i]?) hfp
    simp only [List.getElem?_map, List.getElem?_eq_getElem hi, List.getElem?_eq_getElem (show i < M.length by omega), Option.map_some] at this
    exact Option.some.inj this
  have back : ∀ it, it ∈ M' → ∃ jt, jt ∈ M ∧ it.fp = jt.fp := by
    intro it hi
    obtain ⟨i, hlt, rfl⟩ := List.getElem_of_mem hi
    exact ⟨_, List.getElem_mem (show i < M.length by omega), hget i (by omega)⟩
  refine ⟨hB.os.trans h.os, hB.tape.trans h.tape, hB.output.trans h.output, Nat.le_trans h.size hB.size, Nat.le_trans h.drawn hB.drawn, ?_, hh, ?_, ?_, ?_, ?_⟩
  · intro b hb hx
    rw [hB.old b (Nat.lt_of_lt_of_le hb h.size) (fun hbF => ?_)]
    · exact h.old b hb hx
    · obtain ⟨it, hi, hbi⟩ := hF b hbF
      rcases h.mfp it hi b hbi with h' | h'
      · omega
      · exact hx h'
  · intro x hx
    refine x.keep w w' (fun b hb => hB.old b (x.low w (h.p x hx) b hb) (fun hbF => ?_)) (h.p x hx)
    obtain ⟨it, hi, hbi⟩ := hF b hbF
    exact h.pd x hx b hb it hi hbi
  · intro it hi b hb
    obtain ⟨jt, hj, he⟩ := back it hi
    exact h.mfp jt hj b (he ▸ hb)
  · rw [List.pairwise_iff_getElem]
    intro i j hi hj hij x hx hx'
    rw [hget i hi] at hx
    rw [hget j hj] at hx'
    exact List.pairwise_iff_getElem.1 h.dis i j (by omega) (by omega) hij x hx hx'
  · intro x hx b hb m hm hbm
    obtain ⟨jt, hj, he⟩ := back m hm
    exact h.pd x hx b hb jt hj (he ▸ hbm)
theorem Zls {α : Type} {e : Nat} {T : Tr α} {xs : List α} {v : Value} {fp : List Nat} (h : (Tr.item (Tr.sl e T) xs [v] fp).holds w) (i : Nat) (hi : i < xs.length) :
    ∃ cs f, (∃ g cap, v = .slice (some ⟨g, 0, none⟩) xs.length cap ∧ Jj w ⟨g, i * T.ty.sz, none⟩ cs) ∧ (T.item xs[i] cs f).holds w ∧ (∀ b, b ∈ f → b ∈ fp) ∧
      ∀ (x' : α) (w' : World), T.tree x' cs f w' → BelO f w w' → (Tr.item (Tr.sl e T) (xs.set i x') [v] fp).holds w' := by
  obtain ⟨⟨v', ecs, fps, hv, h1, h2, rfl⟩, hn⟩ := h
  obtain rfl : v = v' := by simpa using hv
  obtain ⟨g, cap, rfl⟩ := Zav h1 (by omega)
  have hfi : i < fps.length := by rw [h2.2.1]; exact hi
  obtain ⟨hn1, hn2, hn3⟩ := List.nodup_append.1 hn
  have hfe : fps.getD i [] = fps[i] := by simp [List.getD, hfi]
  have hnf : (fps.getD i []).Nodup := by
    rw [hfe]
    exact hn2.sublist (List.sublist_flatten_of_mem (List.getElem_mem hfi))
  refine ⟨(ecs.drop (i * T.ty.sz)).take T.ty.sz, fps.getD i [], ⟨g, cap, rfl, ?_⟩, ⟨h2.2.2 i hi, hnf⟩, fun b hb => List.mem_append_right _ (mem_flat.2 ⟨i, hfi, hb⟩), ?_⟩
  · obtain ⟨_, _, _, A, c, hA, hcell⟩ := Zaq h1
    obtain ⟨a, ha, _, hcell⟩ := hcell (by omega)
    have hA2 := hA
    injection hA2 with q1 q2 q3
    rw [← q1] at ha
    obtain rfl : (⟨g, 0, none⟩ : Addr) = a := Option.some.inj ha
    intro j u hj
    rw [Za9]
    rw [List.getElem?_take] at hj
    split at hj
    · have := hcell (i * T.ty.sz + j) u (by simpa using hj)
      rwa [Za9, Nat.zero_add] at this
    · cases hj
  · intro x' w' hx' hB
    have hsep : ∀ b, b ∈ (Value.slice (some ⟨g, 0, none⟩) xs.length cap).ownBlock.toList → b ∉ fps.getD i [] := fun b hb hb' => hn3 b hb b (mem_flat.2 ⟨i, hfi, hb'⟩) rfl
    have hdj : ∀ j, j < fps.length → j ≠ i → ∀ b, b ∈ fps.getD j [] → b ∉ fps.getD i [] := by
      intro j hj hne b hb hb'
      have hpw := List.pairwise_flatten.1 hn2
      rw [show fps.getD j [] = fps[j] by simp [List.getD, hj]] at hb
      rw [hfe] at hb'
      rcases Nat.lt_or_gt_of_ne hne with hl | hl
      · exact List.pairwise_iff_getElem.1 hpw.2 j i hj hfi hl b hb b hb' rfl
      · exact List.pairwise_iff_getElem.1 hpw.2 i j hfi hj hl b hb' b hb rfl
    refine ⟨⟨_, ecs, fps, rfl, ?_, ⟨by simpa using h2.1, by simpa using h2.2.1, fun j hj => ?_⟩, rfl⟩, hn⟩
    · rw [List.length_set]
      exact Item.keep _ w w' (fun b hb => hB.old b (Item.low _ w h1 b hb) (hsep b hb)) h1
    · have hj' : j < xs.length := by simpa using hj
      rw [List.getElem_set]
      split
      · rename_i hij; subst hij; exact hx'
      · rename_i hij
        exact T.tkeep (fun b hb => hB.old b (T.tlow (h2.2.2 j hj') b hb) (hdj j (by rw [h2.2.1]; exact hj') (fun e => hij e.symm) b hb)) (h2.2.2 j hj')
def Zz (e : Nat) : Tr Form := .iso Form.terms (Tr.sl e ETerm.tr)
def Zcu (i e f : Nat) : Tr Alg := .iso (fun a => (a.degrees, a.images)) (.pair (Tr.sl i (EI .i64).tr) (Tr.sl f (Zz e)))
theorem Zi5 (v : Value) : v.ownBlock.toList.Nodup := by cases v.ownBlock <;> simp
theorem Js {α : Type} {E : Enc α} {e : Nat} {xs : List α} {v : Value} {w : World} (h : (own e E.sz v xs.length (E.encs xs)).holds w) : (Tr.item (Tr.sl e E.tr) xs [v] v.ownBlock.toList).holds w := ⟨Zi4 h, Zi5 v⟩
theorem Zlt {α : Type} {e : Nat} {T : Tr α} {xs : List α} {v : Value} {fp : List Nat} (h : (Tr.item (Tr.sl e T) xs [v] fp).holds w) : ∃ A c, v = .slice A xs.length c := Z2 (t := T.ty) ((Tr.sl e T).trep h.1)
theorem Zbx {α : Type} {T : Tr α} {x : α} {cs : List Value} {fp : List Nat} (hC : Ctx Nox w0 w M Ps) (k : Nat) (hk : M[k]? = some (T.item x cs fp)) : ∀ b, b ∈ fp → w0.heap.size ≤ b :=
  fun b hb => (hC.mfp _ (List.mem_of_getElem? hk) b hb).elim id (fun x => x.elim)
theorem Zha {i e f : Nat} {x : Alg} {v u : Value} {fp : List Nat} (h : ((Zcu i e f).item x [v, u] fp).holds w) : ∃ f2, (own i (EI .i64).sz v x.degrees.length ((EI .i64).encs x.degrees)).holds w ∧ ((Tr.sl f (Zz e)).item x.images [u] f2).holds w ∧
    (∀ b, b ∈ v.ownBlock.toList → b ∈ fp) ∧ (∀ b, b ∈ f2 → b ∈ fp) ∧ (∀ b, b ∈ v.ownBlock.toList → b ∉ f2) := by
  obtain ⟨⟨c1, c2, f1, f2, hcs, rfl, h1, h2⟩, hn⟩ := h
  have hl := (Tr.sl i (EI .i64).tr).ty.len ((Tr.sl i (EI .i64).tr).trep h1)
  obtain ⟨a, rfl⟩ := List.length_eq_one_iff.1 (show c1.length = 1 from hl)
  obtain ⟨rfl, rfl⟩ : v = a ∧ c2 = [u] := by simp at hcs; exact ⟨hcs.1, hcs.2.symm⟩
  obtain ⟨ho, rfl⟩ := Zat h1
  obtain ⟨hn1, hn2, hn3⟩ := List.nodup_append.1 hn
  exact ⟨f2, ho, ⟨h2, hn2⟩, fun b hb => List.mem_append_left _ hb, fun b hb => List.mem_append_right _ hb, fun b hb hb' => hn3 b hb b hb' rfl⟩
theorem Zpv {i e f : Nat} {a : List Int} {b : List Form} {v u : Value} {f1 f2 : List Nat} (h1 : ((Tr.sl i (EI .i64).tr).item a [v] f1).holds w) (h2 : ((Tr.sl f (Zz e)).item b [u] f2).holds w) (hd : ∀ x, x ∈ f1 → x ∉ f2) : ((Zcu i e f).item ⟨a, b⟩ [v, u] (f1 ++ f2)).holds w :=
  ⟨⟨[v], [u], f1, f2, rfl, rfl, h1.1, h2.1⟩, List.nodup_append.2 ⟨h1.2, h2.2, fun x hx y hy e => hd x hx (e ▸ hy)⟩⟩
theorem Y8 {e : Nat} {x : Form} {v : Value} {fp : List Nat} (h : ((Zz e).item x [v] fp).holds w) : (own e ETerm.sz v x.terms.length (ETerm.encs x.terms)).holds w ∧ fp = v.ownBlock.toList := Zat h.1
theorem Zau {e : Nat} {a : List Term} {v : Value} {f : List Nat} (h : ((Tr.sl e ETerm.tr).item a [v] f).holds w) : ((Zz e).item ⟨a⟩ [v] f).holds w := h
theorem Za4 {α : Type} (e : Nat) (T : Tr α) (w : World) : ((Tr.sl e T).item [] [.slice none 0 0] []).holds w := ⟨Zpu e T w, by simp⟩
def Yo {α : Type} (T : Tr α) (xs : List α) (cs : List Value) (fps : List (List Nat)) : Item where
  fp := fps.flatten
  holds w := T.trees xs cs fps w ∧ fps.flatten.Nodup
  keep _ _ h hw := ⟨Zlq h hw.1, hw.2⟩
  low _ hw := Zi2 hw.1
theorem Zbf {α : Type} (T : Tr α) (w : World) : (Yo T [] [] []).holds w := ⟨Zlr T w, by simp⟩
theorem Zb7 {α : Type} {T : Tr α} {x : α} {xs : List α} {c cs : List Value} {f : List Nat} {fps : List (List Nat)} (h : (T.item x c f).holds w) (hs : (Yo T xs cs fps).holds w) (hd : ∀ b, b ∈ f → b ∉ fps.flatten) : (Yo T (x :: xs) (c ++ cs) (f :: fps)).holds w :=
  ⟨Zps h.1 hs.1, by rw [List.flatten_cons]; exact List.nodup_append.2 ⟨h.2, hs.2, fun a ha b hb e => hd a ha (e ▸ hb)⟩⟩
theorem Zap {α : Type} {T : Tr α} {e : Nat} {xs : List α} {cs : List Value} {fps : List (List Nat)} {v : Value} (h : (own e T.ty.sz v xs.length cs).holds w) (hs : (Yo T xs cs fps).holds w) (hd : ∀ b, b ∈ v.ownBlock.toList → b ∉ fps.flatten) : ((Tr.sl e T).item xs [v] (v.ownBlock.toList ++ fps.flatten)).holds w :=
  ⟨⟨v, cs, fps, rfl, h, hs.1, rfl⟩, List.nodup_append.2 ⟨Zi5 v, hs.2, fun a ha b hb e => hd a ha (e ▸ hb)⟩⟩
theorem Ctx.startL (w : World) (F : List Nat) (M Ps : List Item) (hm : ∀ it, it ∈ M → it.holds w) (hp : ∀ it, it ∈ Ps → it.holds w) (hF : ∀ it, it ∈ M → ∀ b, b ∈ it.fp → b ∈ F) (hdis : M.Pairwise (fun a b => ∀ x, x ∈ a.fp → x ∉ b.fp)) (hpd : ∀ it, it ∈ Ps → ∀ b, b ∈ it.fp → b ∉ F) : Ctx (fun c => c ∈ F) w w M Ps :=
  ⟨rfl, rfl, rfl, Nat.le_refl _, Nat.le_refl _, fun _ _ _ => rfl, hm, hp, fun it hi b hb => .inr (hF it hi b hb), hdis, fun it hi b hb m hm hbm => hpd it hi b hb (hF m hm b hbm)⟩
theorem Ctx.belO {F : List Nat} (h : Ctx (fun c => c ∈ F) w0 w M Ps) : BelO F w0 w := ⟨h.os, h.tape, h.output, h.size, h.drawn, fun c hc hne => h.old c hc hne⟩
theorem Zlu {α : Type} {E : Enc α} {xs : List α} {i o : Nat} {vc : List Value} {y : α} [Inhabited α] (hi : i < xs.length) (ho : o + vc.length ≤ E.sz) (h : Xi (E.enc (xs.getD i default)) o vc = E.enc y) : Xi (E.encs xs) (i * E.sz + o) vc = E.encs (xs.set i y) := by
  rw [← Zef xs i y hi, ← h]
  have hseg := E.encs_seg xs i hi
  have hle : i * E.sz + E.sz ≤ (E.encs xs).length := by rw [E.encs_len]; exact Za3 hi
  apply List.ext_getElem?
  intro j
  unfold Xi
  rw [← hseg]
  simp only [List.getElem?_append, List.length_take, List.length_drop, List.length_append]
  simp only [List.getElem?_take, List.getElem?_drop]
  repeat' split
  all_goals first | rfl | (exfalso; omega) | (congr 1; omega) | (simp only [List.getElem?_append, List.getElem?_take, List.getElem?_drop, List.length_take, List.length_drop]; repeat' split) <;> first | rfl | (exfalso; omega) | (congr 1; omega) | skip
theorem Zpw {k : IntKind} {a : A8} {r : List Value} {q : Nat} {v : Int} (h : q < 8) : Xi (a.enc k ++ r) q [.int k v] = (a.set q v).enc k ++ r := by
  match q, h with
  | 0, _ => rfl
  | 1, _ => rfl
  | 2, _ => rfl
  | 3, _ => rfl
  | 4, _ => rfl
  | 5, _ => rfl
  | 6, _ => rfl
  | 7, _ => rfl
end
end Vc
namespace Vc
open Go Go.RowKit
section
variable {X : Nat → Prop} {w0 w w' : World} {M Ps : List Item}
end
end Vc
namespace Vc
open Go Go.RowKit
theorem Ctx.pushM0 {X : Nat → Prop} {w0 w : World} {M Ps : List Item} (h : Ctx X w0 w M Ps) (it : Item) (hi : it.holds w) (hf : it.fp = []) : Ctx X w0 w (it :: M) Ps :=
  { h with
    m := fun j hj => by
      rcases List.mem_cons.1 hj with rfl | hj
      · exact hi
      · exact h.m j hj
    mfp := fun j hj b hb => by
      rcases List.mem_cons.1 hj with rfl | hj
      · rw [hf] at hb; cases hb
      · exact h.mfp j hj b hb
    dis := List.pairwise_cons.2 ⟨fun j hj x hx => absurd (hf ▸ hx) (by simp), h.dis⟩
    pd := fun j hj b hb m hm hbm => by
      rcases List.mem_cons.1 hm with rfl | hm
      · rw [hf] at hbm; cases hbm
      · exact h.pd j hj b hb m hm hbm }
def Zb8 (v : Value) : Prop := ∃ A n c, v = .slice A n c
theorem Zhb {ty sz n : Nat} {v : Value} {cs : List Value} {w : World} (h : (own ty sz v n cs).holds w) : Zb8 v := by
  obtain ⟨A, c, rfl⟩ := J6 h
  exact ⟨A, n, c, rfl⟩
theorem Zi6 {α : Type} {t : Ty α} {xs : List α} {v : Value} {fp : List Nat} {w : World} (h : t.sl.rep xs [v] fp w) : Zb8 v := by
  obtain ⟨A, c, rfl⟩ := Z2 h
  exact ⟨A, _, c, rfl⟩
section
variable {P : Program} {ops : Array Oper} {Q : Exit → Act → World → Prop} {n : Nat} {e : Env} {w w' : World} {rest : List Oper}
variable {d ty : Nat} {pos : String} {af : Array Edge} {gd : Option (Nat × Bool)}
end
end Vc
namespace Vc
open Go Go.RowKit
theorem Zlv (m : Nat) : (madeCells #[.slice none 0 0] (m * 1)).toList = List.replicate m (.slice none 0 0) := by
  let E : Enc Unit := ⟨1, by decide, fun _ => [.slice none 0 0], fun _ => rfl, fun _ u hu => by obtain rfl := List.mem_singleton.1 hu; rfl⟩
  have h := Zeg (E := E) () m
  have e : E.encs (List.replicate m ()) = List.replicate m (.slice none 0 0) := by
    induction m with
    | zero => rfl
    | succ m ih => rw [List.replicate_succ, List.replicate_succ, ← ih (Zeg (E := E) () m)]; rfl
  exact h.trans e
theorem Zlw (m : Nat) : (List.replicate m ([] : List Nat)).flatten = [] := by induction m <;> simp_all [List.replicate_succ]
theorem Zlx {α : Type} {T : Tr α} {x : α} {c : Value} {w : World} (h : (T.item x [c] []).holds w) (hs : T.ty.sz = 1) (m : Nat) : (Yo T (List.replicate m x) (List.replicate m c) (List.replicate m [])).holds w := by
  induction m with
  | zero => exact Zbf T w
  | succ m ih => exact Zb7 (c := [c]) (cs := List.replicate m c) h ih (by simp)
theorem Zpx {α : Type} {T : Tr α} {xs ys : List α} {cs ds : List Value} {fps gps : List (List Nat)} {w : World} (h : (Yo T xs cs fps).holds w) (k : (Yo T ys ds gps).holds w) (hd : ∀ b, b ∈ fps.flatten → b ∉ gps.flatten) : (Yo T (xs ++ ys) (cs ++ ds) (fps ++ gps)).holds w :=
  ⟨Zpt h.1 k.1, by rw [List.flatten_append]; exact List.nodup_append.2 ⟨h.2, k.2, fun a ha b hb e => hd a ha (e ▸ hb)⟩⟩
theorem Ze0 {α : Type} {e : Nat} {T : Tr α} {xs : List α} {v : Value} {fp : List Nat} {w : World} (h : ((Tr.sl e T).item xs [v] fp).holds w) :
    ∃ ecs fps, (own e T.ty.sz v xs.length ecs).holds w ∧ (Yo T xs ecs fps).holds w ∧ fp = v.ownBlock.toList ++ fps.flatten ∧ (∀ b, b ∈ v.ownBlock.toList → b ∉ fps.flatten) := by
  obtain ⟨⟨v', ecs, fps, hv, h1, h2, rfl⟩, hn⟩ := h
  obtain rfl : v = v' := by simpa using hv
  obtain ⟨hn1, hn2, hn3⟩ := List.nodup_append.1 hn
  exact ⟨ecs, fps, h1, ⟨h2, hn2⟩, rfl, fun b hb hb' => hn3 b hb b hb' rfl⟩
section
variable {P : Program} {ops : Array Oper} {Q : Exit → Act → World → Prop} {n : Nat} {e : Env} {w w' : World} {rest : List Oper}
variable {X : Nat → Prop} {w0 : World} {M Ps : List Item}
variable {d ty : Nat} {pos : String} {af : Array Edge}
theorem Zcv {t el bytes : Nat} {α : Type} {T : Tr α} {z : Value} {x y : Operand} {v u : Value} {xs ys : List α} {f1 f2 : List Nat} (hC : Ctx X w0 w ((Tr.sl el T).item xs [v] f1 :: (Tr.sl el T).item ys [u] f2 :: M) Ps)
    (ht : P.underlying t = some (.slice el)) (hE : Jz P el z T.ty.sz bytes) (hzs : z.cells.size = T.ty.sz) (hsz : 0 < T.ty.sz) (hby : 0 < bytes) (hx : ev n e x = v) (hy : ev n e y = u) (hb : (xs.length + ys.length) * bytes ≤ 140737488355328)
    (h : ∀ v' f w', Ctx X w0 w' ((Tr.sl el T).item (xs ++ ys) [v'] f :: M) Ps → W P ops Q rest n (upd e d v') w') :
    W P ops Q (⟨some d, .call { callee := .builtin .append, args := #[x, y], argTypes := #[t, t] }, ty, pos, af, none⟩ :: rest) n e w := by
  obtain ⟨ecs, fps, a1, a2, rfl, a4⟩ := Ze0 (hC.getM 0 rfl)
  obtain ⟨dcs, gps, b1, b2, rfl, b4⟩ := Ze0 (hC.getM 1 rfl)
  have h1 := hC.split (a := own el T.ty.sz v xs.length ecs) (b := Yo T xs ecs fps) (fun b hb => List.mem_append_left _ hb) (fun b hb => List.mem_append_right _ hb) ⟨a1, a2, a4⟩
  have h2 := h1.perm (M' := (Tr.sl el T).item ys [u] (u.ownBlock.toList ++ gps.flatten) :: own el T.ty.sz v xs.length ecs :: Yo T xs ecs fps :: M) (((List.Perm.swap _ _ _).cons _).trans (List.Perm.swap _ _ _))
  have h3 := h2.split (a := own el T.ty.sz u ys.length dcs) (b := Yo T ys dcs gps) (fun b hb => List.mem_append_left _ hb) (fun b hb => List.mem_append_right _ hb) ⟨b1, b2, b4⟩
  have hall := Zi3 b2.1
  refine Zbj h3 2 ht hE hzs hsz hby rfl (Zaq b1) hall.2.2.1 hx hy hb fun v' w1 hC1 => ?_
  have h4 := hC1.sub (M' := Yo T ys dcs gps :: own el T.ty.sz v' (xs.length + ys.length) (ecs ++ dcs) :: Yo T xs ecs fps :: M) (List.sublist_cons_self _ _) (fun _ h => h)
  have h5 := h4.perm (M' := Yo T xs ecs fps :: Yo T ys dcs gps :: own el T.ty.sz v' (xs.length + ys.length) (ecs ++ dcs) :: M) (((List.Perm.swap _ _ _).cons _).trans (List.Perm.swap _ _ _))
  have h6 := h5.gather (c := Yo T (xs ++ ys) (ecs ++ dcs) (fps ++ gps)) (fun x hx => List.mem_append.1 (by simpa [Yo] using hx)) (fun p q r => Zpx p q r)
  have h7 := h6.perm (M' := own el T.ty.sz v' (xs.length + ys.length) (ecs ++ dcs) :: Yo T (xs ++ ys) (ecs ++ dcs) (fps ++ gps) :: M) (List.Perm.swap _ _ _)
  exact h v' _ w1 (h7.gather (c := (Tr.sl el T).item (xs ++ ys) [v'] (v'.ownBlock.toList ++ (fps ++ gps).flatten)) (fun x hx => List.mem_append.1 hx) (fun p q r => Zap (by rw [List.length_append]; exact p) q r))
end
end Vc
namespace Vc
open Go
theorem Zcw {α : Type} {T : Tr α} {xs : List α} {cs : List Value} {f : List Nat} {fps : List (List Nat)} {x : Nat} (h : x ∈ (Yo T xs cs (f :: fps)).fp) : x ∈ f ∨ x ∈ fps.flatten := by
  have h' : x ∈ (f :: fps).flatten := h
  rw [List.flatten_cons] at h'
  exact List.mem_append.1 h'
end Vc
namespace Vc
open Go Go.RowKit
section
variable {P : Program} {ops : Array Oper} {Q : Exit → Act → World → Prop} {n : Nat} {e : Env} {w w' : World} {rest : List Oper}
variable {d ty : Nat} {pos : String} {af : Array Edge} {gd : Option (Nat × Bool)}
theorem Zpy {t i : Nat} {x : Operand} {cs : List Value} {fs : Array Field} {f : Field} (v : Value) (ht : P.underlying t = some (.struct fs)) (hf : fs[i]? = some f) (hS : ScaT P f.type) (hx : ev n e x = .agg cs.toArray) (hv : cs[f.offset]? = some v) :
    (execOp (ev n e) ⟨some d, .field t x i, ty, pos, af, gd⟩).run P w = .ok (.value v) w := by
  simp [execOp, hx, Instr.field, run_underlying ht, hf, asAgg, part, Zd8 hS, hv]
theorem Zpz {t i : Nat} {x : Operand} {cs : List Value} {fs : Array Field} {f : Field} (v : Value) (ht : P.underlying t = some (.struct fs)) (hf : fs[i]? = some f) (hS : ScaT P f.type) (hx : ev n e x = .agg cs.toArray) (hv : cs[f.offset]? = some v)
    (h : W P ops Q rest n (upd e d v) w) : W P ops Q (⟨some d, .field t x i, ty, pos, af, none⟩ :: rest) n e w :=
  Y9 v rfl rfl (Zpy v ht hf hS hx hv) h
end
end Vc
set_option linter.unusedVariables false
set_option linter.unusedSimpArgs false
namespace Vc
open Go Go.RowKit
def Z4 (e : Env) (l : List (Nat × Value)) : Prop := ∀ p, p ∈ l → e p.1 = p.2
theorem Zp0 {e : Env} : Z4 e [] := by intro p hp; cases hp
theorem Zp1 {e : Env} {t : Nat} {v : Value} {l : List (Nat × Value)} (h : e t = v) (hs : Z4 e l) : Z4 e ((t, v) :: l) := by
  intro p hp
  rcases List.mem_cons.1 hp with rfl | hp
  · exact h
  · exact hs p hp
def Za (n k : Nat) : Array Bool := ((List.range n).map (Nat.testBit k)).toArray
section
variable {α β : Type}
def Zp2 (kv : α → Value) (vv : β → Value) (ls : List (Option (List (α × β)))) (cs : List Value) (fp : List Nat) (w : World) (j : Nat) : Prop :=
  (ls[j]? = some none ∧ cs[j]? = some (.map none)) ∨ ∃ l b, ls[j]? = some (some l) ∧ cs[j]? = some (.map (some b)) ∧ b ∈ fp ∧ (Ze kv vv b l).holds w
theorem Zp3 {kv : α → Value} {vv : β → Value} {b : Nat} {l : List (α × β)} {w w' : World} (h : w'.heap[b]? = w.heap[b]?) (hw : (Ze kv vv b l).holds w) : (Ze kv vv b l).holds w' := by
  obtain ⟨es, c, h1, h2⟩ := hw
  exact ⟨es, c, h.trans h1, h2⟩
def Xt (kv : α → Value) (vv : β → Value) (n : Nat) : Ty (List (Option (List (α × β)))) where
  sz := n
  rep ls cs fp w := cs.length = n ∧ ls.length = n ∧ (∀ b, b ∈ fp → b < w.heap.size) ∧ ∀ j, j < n → Zp2 kv vv ls cs fp w j
  keep h hw := ⟨hw.1, hw.2.1, Zed h hw.2.2.1, fun j hj => by
    rcases hw.2.2.2 j hj with q | ⟨l, b, h1, h2, h3, h4⟩
    · exact .inl q
    · exact .inr ⟨l, b, h1, h2, h3, Zp3 (h b h3) h4⟩⟩
  low hw := hw.2.2.1
  len hw := hw.1
  one hw u hu := by
    obtain ⟨j, hj, rfl⟩ := List.getElem_of_mem hu
    rcases hw.2.2.2 j (by have := hw.1; omega) with ⟨_, q⟩ | ⟨l, b, _, q, _⟩
    · rw [List.getElem?_eq_getElem hj] at q; injection q with q; rw [q]; rfl
    · rw [List.getElem?_eq_getElem hj] at q; injection q with q; rw [q]; rfl
  more hw hs hl := ⟨hw.1, hw.2.1, hl, fun j hj => by
    rcases hw.2.2.2 j hj with q | ⟨l, b, h1, h2, h3, h4⟩
    · exact .inl q
    · exact .inr ⟨l, b, h1, h2, hs _ h3, h4⟩⟩
variable {kv : α → Value} {vv : β → Value} {n : Nat} {ls : List (Option (List (α × β)))} {cs : List Value} {fp : List Nat} {w : World}
theorem Zhc (kv : α → Value) (vv : β → Value) (n : Nat) (w : World) : (Xt kv vv n).rep (List.replicate n none) (List.replicate n (.map none)) [] w :=
  ⟨by simp, by simp, by simp, fun j hj => .inl ⟨by simp [hj], by simp [hj]⟩⟩
theorem Zp4 (h : (Xt kv vv n).rep ls cs fp w) {b i : Nat} {l : List (α × β)} (hm : (Ze kv vv b l).holds w) : (Xt kv vv n).rep (ls.set i (some l)) (cs.set i (.map (some b))) (b :: fp) w := by
  refine ⟨by rw [List.length_set]; exact h.1, by rw [List.length_set]; exact h.2.1, fun c hc => ?_, fun j hj => ?_⟩
  · rcases List.mem_cons.1 hc with rfl | hc
    · exact (Ze kv vv c l).low w hm c (by simp [Ze])
    · exact h.2.2.1 c hc
  · have hl := h.1
    have hl2 := h.2.1
    by_cases e : i = j
    · subst e
      exact .inr ⟨l, b, by rw [List.getElem?_set_self (by omega)], by rw [List.getElem?_set_self (by omega)], by simp, hm⟩
    · rcases h.2.2.2 j hj with ⟨q1, q2⟩ | ⟨l', b', h1, h2, h3, h4⟩
      · exact .inl ⟨by rw [List.getElem?_set_ne e]; exact q1, by rw [List.getElem?_set_ne e]; exact q2⟩
      · exact .inr ⟨l', b', by rw [List.getElem?_set_ne e]; exact h1, by rw [List.getElem?_set_ne e]; exact h2, by simp [h3], h4⟩
theorem Zp5 (h : (Xt kv vv n).rep ls cs fp w) {i : Nat} {l : List (α × β)} (hl : ls[i]? = some (some l)) : ∃ b, cs[i]? = some (.map (some b)) ∧ b ∈ fp ∧ (Ze kv vv b l).holds w := by
  have hi : i < n := by have := (List.getElem?_eq_some_iff.1 hl).1; have := h.2.1; omega
  rcases h.2.2.2 i hi with ⟨q1, q2⟩ | ⟨l', b', h1, h2, h3, h4⟩
  · rw [hl] at q1; cases q1
  · rw [hl] at h1; injection h1 with h1; injection h1 with h1; subst h1; exact ⟨b', h2, h3, h4⟩
theorem Zby (h : (Xt kv vv n).rep ls cs fp w) : cs.length = n := h.1
theorem Zi7 (h : (Xt kv vv n).rep ls cs fp w) : cs.all (·.oneCell') = true := List.all_eq_true.2 fun u hu => (Xt kv vv n).one h u hu
end
theorem Zp6 {cs : List Value} {n : Nat} (h : cs.length = n) : (cs.drop 0).take n = cs := by rw [List.drop_zero, List.take_of_length_le (by omega)]
theorem Zp7 {cs : List Value} {o i : Nat} {v : Value} (h : cs[i]? = some v) (ho : o = i) : cs[o]? = some v := ho ▸ h
theorem Zp8 {cs : List Value} {o i : Nat} {v : Value} (hi : i < cs.length) (ho : o = i) : Xi cs o [v] = cs.set i v := by
  subst ho
  unfold Xi
  rw [List.set_eq_take_append_cons_drop, if_pos hi]
  simp
theorem Zi8 {cs vc : List Value} (h : vc.length = cs.length) : Xi cs 0 vc = vc := by
  unfold Xi
  rw [List.take_zero, List.nil_append, Nat.zero_add, h, List.drop_length, List.append_nil]
namespace Ctx
variable {X : Nat → Prop} {w0 w w' : World} {M Ps : List Item}
theorem joinP (h : Ctx X w0 w M Ps) (j k : Nat) {it jt : Item} (hj : Ps[j]? = some it) (hk : Ps[k]? = some jt) (nt : Item) (hn : it.holds w → jt.holds w → nt.holds w) (hf : ∀ b, b ∈ nt.fp → b ∈ it.fp ∨ b ∈ jt.fp) : Ctx X w0 w M (nt :: Ps) :=
  h.pushP nt (hn (h.getP j hj) (h.getP k hk)) (fun b hb m hm => (hf b hb).elim (fun q => h.pd it (List.mem_of_getElem? hj) b q m hm) (fun q => h.pd jt (List.mem_of_getElem? hk) b q m hm))
end Ctx
theorem J7 {w w' : World} (h : BelN w.heap.size w w') : Bel w w' := ⟨⟨h.os, h.tape, h.output, h.size, h.old⟩, h.drawn⟩
theorem Yp {N : Nat} {w w' : World} (hN : N ≤ w.heap.size) (h : Bel w w') : BelN N w w' := ⟨h.os, h.tape, h.output, h.size, h.drawn, fun c hc => h.block c (by omega)⟩
theorem Yw {N b : Nat} {w w' : World} (hN : N ≤ w.heap.size) (hb : N ≤ b) (h : BelB b w w') : BelN N w w' := ⟨h.os, h.tape, h.output, h.size, h.drawn, fun c hc => h.old c (by omega) (by omega)⟩
section
variable {P : Program} {l : List Oper} {Q : Exit → Act → World → Prop} {n m f : Nat} {e : Env} {w : World} {listed : Array Bool}
theorem Zx {N i : Nat} {w' : World} {l9 : Array Bool} (hb : BelN N w w') (hN : N ≤ w.heap.size) (hl : listed.setIfInBounds i true = l9) (h : N ≤ w'.heap.size → AE (BelN N) P .any l.toArray Q m n f l9 e w') : AK (BelN N) P l Q m n f i listed w .normal (actOf n e) w' :=
  Zkx hb hl (h (Nat.le_trans hN hb.size))
end
section
variable {P : Program} {ops : Array Oper} {Q : Exit → Act → World → Prop} {n : Nat} {e : Env} {w w' : World} {rest : List Oper}
variable {X : Nat → Prop} {w0 : World} {M Ps : List Item}
variable {d ty : Nat} {pos : String} {af : Array Edge} {gd : Option (Nat × Bool)}
theorem Za5 (hC : Ctx X w0 w M Ps) {t : Nat} {z : Value} (cs : List Value) (hz : Jc P t z) (hcs : z.cells.toList = cs)
    (h : ∀ b w', w.heap.size ≤ b → Bel w w' → Ctx X w0 w' (blk b t cs :: M) Ps → W P ops Q rest n (upd e d (.pointer (some ⟨b, 0, none⟩))) w') :
    W P ops Q (⟨some d, .alloc t, ty, pos, af, none⟩ :: rest) n e w := by
  have hB : Bel w (w.alloc (.cells z.cells t)) := Bel.alloc _ _
  refine Y9 (.pointer (some ⟨w.heap.size, 0, none⟩)) rfl rfl ?_ (h w.heap.size (w.alloc (.cells z.cells t)) (Nat.le_refl _) hB (hC.push hB _ ?_ ?_))
  · simp [execOp, Instr.alloc, Zid hz, newVar, newRow]
  · show (w.alloc _).heap[w.heap.size]? = _
    rw [heap_alloc_new, ← hcs]
  · simp [blk]
theorem Zdm (hC : Ctx X w0 w M Ps) (k : Nat) {b t off sz ty' : Nat} {x y : Operand} {cs : List Value} {v : Value} (vc : List Value) (cs' : List Value) (hk : M[k]? = some (blk b t cs)) (hT : Je P ty' sz) (hx : ev n e x = .pointer (some ⟨b, off, none⟩))
    (hy : ev n e y = v) (hv : v.cells.toList = vc) (hl : vc.length = sz) (h1 : vc.all (·.oneCell') = true) (ho : off + sz ≤ cs.length) (hcs : Xi cs off vc = cs')
    (h : ∀ w', BelB b w w' → Ctx X w0 w' (M.set k (blk b t cs')) Ps → W P ops Q rest n e w') :
    W P ops Q (⟨none, .store ty' x y, ty, pos, af, none⟩ :: rest) n e w := by
  obtain ⟨w', hr, hb, hos, hta, hou, hsz, hother⟩ := Zke (P := P) hT (hC.getM k hk) hv hl h1 ho
  refine Zd7 rfl rfl ?_ (h w' ⟨hos, hta, hou, by omega, Zdb _ _ _ _ hr, fun c _ hc => hother c hc⟩ (hC.turn k hk hos hta hou (by omega) (Zdb _ _ _ _ hr) (fun c _ hc => hother c (by simpa [blk] using hc)) (hcs ▸ hb) (fun c hc => .inl hc)))
  simp [execOp, hx, hy, Instr.storeAt, Instr.sureAddr, hr]
variable {α β : Type} {kv : α → Value} {vv : β → Value}
theorem J0 (hC : Ctx X w0 w M Ps) {t : Nat} (kv : α → Value) (vv : β → Value) (h : ∀ b w', w.heap.size ≤ b → Bel w w' → Ctx X w0 w' (Ze kv vv b [] :: M) Ps → W P ops Q rest n (upd e d (.map (some b))) w') :
    W P ops Q (⟨some d, .makeMap t none, ty, pos, af, none⟩ :: rest) n e w := by
  have hB : Bel w (w.alloc (.map #[] 0)) := Bel.alloc _ _
  refine Y9 (.map (some w.heap.size)) rfl rfl ?_ (h w.heap.size _ (Nat.le_refl _) hB (hC.push hB _ ⟨#[], 0, heap_alloc_new _ _, rfl, by simp, by simp, by simp⟩ (by simp [Ze])))
  simp [execOp, Instr.makeMap, newObj, Sem.run, Result.andThen]
variable [DecidableEq α]
theorem Y4 (hC : Ctx X w0 w M Ps) (j : Nat) {t k el b : Nat} {l : List (α × β)} {x y z : Operand} (kx : α) (v : β) (hk : M[j]? = some (Ze kv vv b l)) (K : KeyT P k kv) (ht : P.underlying t = some (.map k el))
    (hx : ev n e x = .map (some b)) (hy : ev n e y = kv kx) (hz : ev n e z = vv v) (h : ∀ w', BelB b w w' → Ctx X w0 w' (M.set j (Ze kv vv b (Zy l kx v))) Ps → W P ops Q rest n e w') {op : Op} (hop : op = .mapUpdate t x y z ∨ op = .insert t x y z) :
    W P ops Q (⟨none, op, ty, pos, af, none⟩ :: rest) n e w := by
  obtain ⟨w', hr, hh, hb⟩ := Zk5 K ht (hC.getM j hk) kx v
  refine Zd7 rfl rfl ?_ (h w' hb (hC.turnB j hk hb rfl rfl hh))
  rcases hop with rfl | rfl <;> simp [execOp, hx, hy, hz, hr]
end
theorem Zp9 {cs vc : List Value} {o : Nat} (ho : o + vc.length ≤ cs.length) (k : Nat) : (Xi cs o vc)[k]? = if k < o then cs[k]? else if k < o + vc.length then vc[k - o]? else cs[k]? := by
  unfold Xi
  have h1 : (cs.take o).length = o := by rw [List.length_take]; omega
  by_cases a : k < o
  · rw [if_pos a, List.append_assoc, List.getElem?_append_left (by omega), List.getElem?_take, if_pos a]
  · rw [if_neg a]
    by_cases b : k < o + vc.length
    · rw [if_pos b, List.append_assoc, List.getElem?_append_right (by omega), h1, List.getElem?_append_left (by omega)]
    · rw [if_neg b, List.getElem?_append_right (by rw [List.length_append]; omega), List.length_append, h1, List.getElem?_drop]
      congr 1
      omega
theorem Zqa {cs vc : List Value} {o : Nat} (ho : o + vc.length ≤ cs.length) : (Xi cs o vc).length = cs.length := by
  unfold Xi; simp; omega
section
variable {α : Type} {T : Tr α} {w : World}
theorem Zqb {fps : List (List Nat)} {i : Nat} {f : List Nat} {b : Nat} (h : b ∈ (fps.set i f).flatten) : b ∈ fps.flatten ∨ b ∈ f := by
  obtain ⟨l, hl, hb⟩ := List.mem_flatten.1 h
  rcases List.mem_or_eq_of_mem_set hl with q | q
  · exact .inl (List.mem_flatten.2 ⟨l, q, hb⟩)
  · exact .inr (q ▸ hb)
theorem Zqc {xs : List α} {cs c2 : List Value} {fps : List (List Nat)} {f2 : List Nat} {i : Nat} {y : α} (h : (Yo T xs cs fps).holds w) (hi : i < xs.length) (hy : (T.item y c2 f2).holds w) (hd : ∀ b, b ∈ fps.flatten → b ∉ f2) :
    (Yo T (xs.set i y) (Xi cs (i * T.ty.sz) c2) (fps.set i f2)).holds w := by
  have hc2 : c2.length = T.ty.sz := T.ty.len (T.trep hy.1)
  have hle : i * T.ty.sz + T.ty.sz ≤ cs.length := by rw [h.1.1]; exact Za3 hi
  have hle2 : i * T.ty.sz + c2.length ≤ cs.length := by rw [hc2]; exact hle
  have hfl := h.1.2.1
  refine ⟨⟨by rw [Zqa hle2, h.1.1, List.length_set], by rw [List.length_set, List.length_set, hfl], fun j hj => ?_⟩, ?_⟩
  · have hj' : j < xs.length := by simpa using hj
    have hseg : ∀ k : Nat, (((Xi cs (i * T.ty.sz) c2).drop (j * T.ty.sz)).take T.ty.sz)[k]? = if j = i then c2[k]? else ((cs.drop (j * T.ty.sz)).take T.ty.sz)[k]? := by
      intro k
      rw [List.getElem?_take]
      by_cases hk : k < T.ty.sz
      · rw [if_pos hk, List.getElem?_drop, Zp9 hle2]
        by_cases hji : j = i
        · subst hji
          rw [if_neg (by omega), if_pos (by omega), if_pos rfl, Nat.add_sub_cancel_left]
        · rw [if_neg hji, List.getElem?_take, if_pos hk, List.getElem?_drop]
          rcases Nat.lt_or_gt_of_ne hji with q | q
          · have := Za3 (sz := T.ty.sz) q
            rw [if_pos (by omega)]
          · have := Za3 (sz := T.ty.sz) q
            rw [if_neg (by omega), if_neg (by omega)]
      · rw [if_neg hk]
        by_cases hji : j = i
        · rw [if_pos hji, List.getElem?_eq_none (by omega)]
        · rw [if_neg hji, List.getElem?_take, if_neg hk]
    have hfj : (fps.set i f2).getD j [] = if j = i then f2 else fps.getD j [] := by
      simp only [List.getD]
      by_cases hji : j = i
      · subst hji; rw [if_pos rfl, List.getElem?_set_self (by omega)]; rfl
      · rw [if_neg hji, List.getElem?_set_ne (fun e => hji e.symm)]
    rw [List.getElem_set, hfj]
    by_cases hji : j = i
    · subst hji
      rw [if_pos rfl, if_pos rfl]
      have e1 : ((Xi cs (j * T.ty.sz) c2).drop (j * T.ty.sz)).take T.ty.sz = c2 := List.ext_getElem? (fun k => (hseg k).trans (if_pos rfl))
      rw [e1]
      exact hy.1
    · rw [if_neg (fun e => hji e.symm), if_neg hji]
      have e1 : ((Xi cs (i * T.ty.sz) c2).drop (j * T.ty.sz)).take T.ty.sz = (cs.drop (j * T.ty.sz)).take T.ty.sz := List.ext_getElem? (fun k => (hseg k).trans (if_neg hji))
      rw [e1]
      exact h.1.2.2 j hj'
  · have hp := List.pairwise_flatten.1 h.2
    refine List.pairwise_flatten.2 ⟨fun l hl => ?_, ?_⟩
    · rcases List.mem_or_eq_of_mem_set hl with q | q
      · exact hp.1 l q
      · rw [q]; exact hy.2
    · rw [List.pairwise_iff_getElem]
      intro a b ha hb hab x hx z hz
      have ha' : a < fps.length := by simpa using ha
      have hb' : b < fps.length := by simpa using hb
      rw [List.getElem_set] at hx hz
      split at hx
      · split at hz
        · omega
        · intro e; subst e; exact hd x (List.mem_flatten.2 ⟨_, List.getElem_mem hb', hz⟩) hx
      · split at hz
        · intro e; subst e; exact hd x (List.mem_flatten.2 ⟨_, List.getElem_mem ha', hx⟩) hz
        · exact List.pairwise_iff_getElem.1 hp.2 a b ha' hb' hab x hx z hz
theorem Zly {e : Nat} {xs : List α} {v : Value} {fp : List Nat} (h : ((Tr.sl e T).item xs [v] fp).holds w) (hn : 0 < xs.length) : ∃ g cap, v = .slice (some ⟨g, 0, none⟩) xs.length cap := by
  obtain ⟨ecs, fps, a1, _⟩ := Ze0 h
  exact Zav a1 hn
end
section
variable {P : Program} {ops : Array Oper} {Q : Exit → Act → World → Prop} {n : Nat} {e : Env} {w w' : World} {rest : List Oper}
variable {X : Nat → Prop} {w0 : World} {M Ps : List Item}
variable {d ty : Nat} {pos : String} {af : Array Edge} {gd : Option (Nat × Bool)}
theorem Zlz {el ty' i g cap j : Nat} {α : Type} {T : Tr α} {x y : Operand} {v u : Value} {xs : List α} {z : α} {c2 : List Value} {f1 f2 : List Nat} (hC : Ctx X w0 w ((Tr.sl el T).item xs [v] f1 :: T.item z c2 f2 :: M) Ps)
    (hi : i < xs.length) (hv : v = .slice (some ⟨g, 0, none⟩) xs.length cap) (hT : Je P ty' T.ty.sz) (hx : ev n e x = .pointer (some ⟨g, j, none⟩)) (hj : j = i * T.ty.sz) (hy : ev n e y = u) (hu : u.cells.toList = c2)
    (h : ∀ f w', Ctx X w0 w' ((Tr.sl el T).item (xs.set i z) [v] f :: M) Ps → W P ops Q rest n e w') :
    W P ops Q (⟨none, .store ty' x y, ty, pos, af, none⟩ :: rest) n e w := by
  obtain ⟨ecs, fps, a1, a2, rfl, a4⟩ := Ze0 (hC.getM 0 rfl)
  have hz : (T.item z c2 f2).holds w := hC.getM 1 rfl
  have hdz : ∀ b, b ∈ v.ownBlock.toList ++ fps.flatten → b ∉ f2 := fun b hb hb' => hC.mm 0 1 rfl rfl (by decide) b hb hb'
  have h1 := hC.split (a := own el T.ty.sz v xs.length ecs) (b := Yo T xs ecs fps) (fun b hb => List.mem_append_left _ hb) (fun b hb => List.mem_append_right _ hb) ⟨a1, a2, a4⟩
  have hc2 : c2.length = T.ty.sz := T.ty.len (T.trep hz.1)
  have hle : j + T.ty.sz ≤ ecs.length := by rw [hj, a2.1.1]; exact Za3 hi
  refine Zcl (v := u) h1 0 c2 (Xi ecs j c2) rfl hv hT hx hy hu hc2 (List.all_eq_true.2 fun q hq => T.ty.one (T.trep hz.1) q hq) hle rfl fun w1 hC1 => ?_
  have h2 := hC1.perm (M' := Yo T xs ecs fps :: T.item z c2 f2 :: own el T.ty.sz v xs.length (Xi ecs j c2) :: M) (by
    have q1 : (own el T.ty.sz v xs.length (Xi ecs j c2) :: Yo T xs ecs fps :: T.item z c2 f2 :: M).Perm (Yo T xs ecs fps :: own el T.ty.sz v xs.length (Xi ecs j c2) :: T.item z c2 f2 :: M) := List.Perm.swap _ _ _
    have q2 : (Yo T xs ecs fps :: own el T.ty.sz v xs.length (Xi ecs j c2) :: T.item z c2 f2 :: M).Perm (Yo T xs ecs fps :: T.item z c2 f2 :: own el T.ty.sz v xs.length (Xi ecs j c2) :: M) := (List.Perm.swap _ _ _).cons _
    exact q1.trans q2)
  have h3 := h2.gather (c := Yo T (xs.set i z) (Xi ecs j c2) (fps.set i f2)) (fun b hb => Zqb hb) (fun p q r => by rw [hj]; exact Zqc p hi q r)
  have h4 := h3.perm (M' := own el T.ty.sz v xs.length (Xi ecs j c2) :: Yo T (xs.set i z) (Xi ecs j c2) (fps.set i f2) :: M) (List.Perm.swap _ _ _)
  exact h _ w1 (h4.gather (c := (Tr.sl el T).item (xs.set i z) [v] (v.ownBlock.toList ++ (fps.set i f2).flatten)) (fun b hb => List.mem_append.1 hb) (fun p q r => Zap (by rw [List.length_set]; exact p) q r))
end
section
variable {P : Program} {ops : Array Oper} {Q : Exit → Act → World → Prop} {n : Nat} {e : Env} {w w' : World} {rest : List Oper}
variable {d ty : Nat} {pos : String} {af : Array Edge} {gd : Option (Nat × Bool)}
end
section
variable {P : Program} {ops : Array Oper} {Q : Exit → Act → World → Prop} {K : Act → World → Prop} {n : Nat} {e : Env} {w : World}
theorem dn (h : K (actOf n e) w) : W P ops (Exit.then K Q) [] n e w := done (Zd h)
theorem sr {id : Nat} {l : List Oper} {y : Code} (h : W P l.toArray (Exit.then (y.wp P Q) Q) l n e w) : (Code.seq (Code.region id l.toArray false) y).wp P Q (actOf n e) w := wp_seq (Zk h)
def Zi9 (e : Env) : List (Nat × Value) → Env
  | [] => e
  | p :: l => upd (Zi9 e l) p.1 p.2
theorem ue {e : Env} : ∀ {l : List (Nat × Value)}, Z4 e l → e = Zi9 e l
  | [], _ => rfl
  | p :: l, h => by
    have h1 := ue (l := l) (fun q hq => h q (List.mem_cons_of_mem _ hq))
    have h2 : e p.1 = p.2 := h p (by simp)
    show e = upd (Zi9 e l) p.1 p.2
    rw [← h1, Znr h2]
def SlR (e : Env) : List (Nat × Value) → Prop
  | [] => True
  | p :: l => e p.1 = p.2 ∧ SlR e l
theorem sl {e : Env} : ∀ {l : List (Nat × Value)}, SlR e l → Z4 e l
  | [], _ => Zp0
  | p :: l, h => Zp1 h.1 (sl h.2)
end
end Vc
namespace Go.Proofs
open Go.Shelf
end Go.Proofs
