/- A map as what a row's element reads as: rows of maps. -/
import Derived.Test.YtgmldfmfpodgiaaVo
set_option linter.unusedVariables false
set_option linter.unusedSimpArgs false
namespace Vc
open Go Go.RowKit
section
variable {α β : Type}
/-- A map behind its block, which lies among the blocks told. -/
def TMap (kv : α → Value) (vv : β → Value) : Ty (List (α × β)) where
  sz := 1
  rep l cs fp w := ∃ b, cs = [.map (some b)] ∧ b ∈ fp ∧ (∀ c, c ∈ fp → c < w.heap.size) ∧ (mapI kv vv b l).holds w
  keep h hw := by
    obtain ⟨b, rfl, hb, hl, hm⟩ := hw
    exact ⟨b, rfl, hb, low_keep h hl, Item.keep _ _ _ (fun c hc => h c (by obtain rfl := List.mem_singleton.1 hc; exact hb)) hm⟩
  low hw := by
    obtain ⟨b, rfl, hb, hl, hm⟩ := hw
    exact hl
  len hw := by obtain ⟨b, rfl, _⟩ := hw; rfl
  one hw u hu := by
    obtain ⟨b, rfl, _⟩ := hw
    obtain rfl := List.mem_singleton.1 hu
    rfl
  more hw h1 h2 := by
    obtain ⟨b, rfl, hb, hl, hm⟩ := hw
    exact ⟨b, rfl, h1 b hb, h2, hm⟩
/-- A map of the call's own. -/
def TrMap (kv : α → Value) (vv : β → Value) : Tr (List (α × β)) where
  ty := TMap kv vv
  tree l cs fp w := ∃ b, cs = [.map (some b)] ∧ fp = [b] ∧ (mapI kv vv b l).holds w
  tkeep h hw := by
    obtain ⟨b, rfl, rfl, hm⟩ := hw
    exact ⟨b, rfl, rfl, Item.keep _ _ _ h hm⟩
  tlow hw := by
    obtain ⟨b, rfl, rfl, hm⟩ := hw
    exact fun c hc => Item.low _ _ hm c hc
  trep hw := by
    obtain ⟨b, rfl, rfl, hm⟩ := hw
    exact ⟨b, rfl, List.mem_singleton_self _, fun c hc => Item.low _ _ hm c hc, hm⟩
theorem map_item {kv : α → Value} {vv : β → Value} {b : Nat} {l : List (α × β)} {w : World} (h : (mapI kv vv b l).holds w) : ((TrMap kv vv).item l [.map (some b)] [b]).holds w :=
  ⟨⟨b, rfl, rfl, h⟩, List.nodup_cons.2 ⟨by simp, List.nodup_nil⟩⟩
theorem map_split {kv : α → Value} {vv : β → Value} {l : List (α × β)} {v : Value} {fp : List Nat} {w : World} (h : ((TrMap kv vv).item l [v] fp).holds w) : ∃ b, v = .map (some b) ∧ fp = [b] ∧ (mapI kv vv b l).holds w := by
  obtain ⟨⟨b, hb, rfl, hm⟩, _⟩ := h
  simp only [List.cons.injEq, and_true] at hb
  exact ⟨b, hb, rfl, hm⟩
/-- A map that a row's element is. -/
theorem map_at {kv : α → Value} {vv : β → Value} {ls : List (List (α × β))} {v : Value} {fp : List Nat} {w : World} (h : (TMap kv vv).sl.rep ls [v] fp w) (i : Nat) (hi : i < ls.length) :
    ∃ A c b, v = .slice (some A) ls.length c ∧ cellsAt w (A.add i) [.map (some b)] ∧ b ∈ fp ∧ (mapI kv vv b ls[i]).holds w := by
  obtain ⟨A, c, hv, cs, hl, hc, b, rfl, hb, _, hm⟩ := sl_at h i hi
  exact ⟨A, c, b, hv, by simpa [TMap] using hc, hb, hm⟩
end
/-! ### A derivation with sums as images: a struct with a pointer to an algebra -/
structure Derive where
  alg : Alg
  drop : Int
  images : List (List (A8 × Int))
  deriving Inhabited
def TSum : Ty (List (A8 × Int)) := TMap (kvA .i64) (vvI .i64)
def TDerive (ta : Nat) : Ty Derive where
  sz := 3
  rep x cs fp w := ∃ b p q u, cs = [.pointer (some ⟨b, 0, none⟩), .int .i64 x.drop, u] ∧ (∀ c, c ∈ fp → c < w.heap.size) ∧ b ∈ fp ∧ (blk b ta [p, q]).holds w ∧ TAlg.rep x.alg [p, q] fp w ∧ TSum.sl.rep x.images [u] fp w
  keep h hw := by
    obtain ⟨b, p, q, u, rfl, hl, hb, h1, h2, h3⟩ := hw
    exact ⟨b, p, q, u, rfl, low_keep h hl, hb, Item.keep _ _ _ (fun c hc => h c (by obtain rfl := List.mem_singleton.1 hc; exact hb)) h1, TAlg.keep h h2, TSum.sl.keep h h3⟩
  low hw := by
    obtain ⟨b, p, q, u, rfl, hl, _⟩ := hw
    exact hl
  len hw := by obtain ⟨b, p, q, u, rfl, _⟩ := hw; rfl
  one hw z hz := by
    obtain ⟨b, p, q, u, rfl, _, _, _, _, h3⟩ := hw
    simp only [List.mem_cons, List.not_mem_nil, or_false] at hz
    rcases hz with rfl | rfl | rfl
    · rfl
    · rfl
    · exact TSum.sl.one h3 _ (List.mem_singleton_self _)
  more hw h1 h2 := by
    obtain ⟨b, p, q, u, rfl, hl, hb, k1, k2, k3⟩ := hw
    exact ⟨b, p, q, u, rfl, h2, h1 b hb, k1, TAlg.more k2 h1 h2, TSum.sl.more k3 h1 h2⟩
theorem derive_parts {ta : Nat} {x : Derive} {u0 u1 u2 : Value} {fp : List Nat} {w : World} (h : (TDerive ta).rep x [u0, u1, u2] fp w) :
    ∃ b p q, u0 = .pointer (some ⟨b, 0, none⟩) ∧ u1 = .int .i64 x.drop ∧ b ∈ fp ∧ (blk b ta [p, q]).holds w ∧ TAlg.rep x.alg [p, q] fp w ∧ TSum.sl.rep x.images [u2] fp w := by
  obtain ⟨b, p, q, u, hc, hl, hb, k1, k2, k3⟩ := h
  simp only [List.cons.injEq, and_true] at hc
  obtain ⟨rfl, rfl, rfl⟩ := hc
  exact ⟨b, p, q, rfl, rfl, hb, k1, k2, k3⟩
theorem derive_mk {ta b : Nat} {a : Alg} {d : Int} {l : List (List (A8 × Int))} {p q u : Value} {f1 f2 : List Nat} {w : World} (hb : (blk b ta [p, q]).holds w) (h1 : TAlg.rep a [p, q] f1 w) (h2 : TSum.sl.rep l [u] f2 w) :
    (TDerive ta).rep ⟨a, d, l⟩ [.pointer (some ⟨b, 0, none⟩), .int .i64 d, u] ((b :: f1) ++ f2) w := by
  have hl : ∀ c, c ∈ (b :: f1) ++ f2 → c < w.heap.size := fun c hc => by
    rcases List.mem_append.1 hc with hc | hc
    · rcases List.mem_cons.1 hc with rfl | hc
      · exact Item.low _ w hb c (List.mem_singleton_self _)
      · exact TAlg.low h1 c hc
    · exact TSum.sl.low h2 c hc
  exact ⟨b, p, q, u, rfl, hl, by simp, hb, TAlg.more h1 (fun c hc => List.mem_append_left _ (List.mem_cons_of_mem _ hc)) hl, TSum.sl.more h2 (fun c hc => List.mem_append_right _ hc) hl⟩
theorem all_two {α : Type} {t : Ty α} {x y : α} {cs ds : List Value} {f g : List Nat} {w : World} (h : t.rep x cs f w) (k : t.rep y ds g w) : t.all [x, y] (cs ++ ds) (f ++ g) w := all_append (all_one h) k
theorem map_parts {α β : Type} {kv : α → Value} {vv : β → Value} {l : List (α × β)} {u : Value} {fp : List Nat} {w : World} (h : (TMap kv vv).rep l [u] fp w) : ∃ b, u = .map (some b) ∧ b ∈ fp ∧ (mapI kv vv b l).holds w := by
  obtain ⟨b, hc, hb, _, hm⟩ := h
  simp only [List.cons.injEq, and_true] at hc
  exact ⟨b, hc, hb, hm⟩
/-- Two items as one. -/
def Item.both (a c : Item) : Item where
  fp := a.fp ++ c.fp
  holds w := a.holds w ∧ c.holds w
  keep w w' h hw := ⟨Item.keep _ _ _ (fun b hb => h b (List.mem_append_left _ hb)) hw.1, Item.keep _ _ _ (fun b hb => h b (List.mem_append_right _ hb)) hw.2⟩
  low w hw b hb := (List.mem_append.1 hb).elim (Item.low _ w hw.1 b) (Item.low _ w hw.2 b)
theorem Ctx.pushD {X : Nat → Prop} {w0 w w' : World} {M Ps : List Item} (hC : Ctx X w0 w M Ps) (hB : Bel w w') (a c : Item) (ha : a.holds w') (hc : c.holds w') (hd : ∀ x, x ∈ a.fp → x ∉ c.fp) (hf : ∀ x, x ∈ a.fp ++ c.fp → w.heap.size ≤ x) : Ctx X w0 w' (a :: c :: M) Ps :=
  Ctx.split (c := Item.both a c) (hC.push hB (Item.both a c) ⟨ha, hc⟩ hf) (fun x hx => List.mem_append_left _ hx) (fun x hx => List.mem_append_right _ hx) ⟨ha, hc, hd⟩
theorem ev_cons {n : Nat} {e : Env} {x : Operand} {xs : List Operand} {v : Value} {vs : List Value} (h : ev n e x = v) (k : xs.map (ev n e) = vs) : (x :: xs).map (ev n e) = v :: vs := by rw [List.map_cons, h, k]
/-! ### A row of the call's own whose elements are maps of the call's own: the maps' blocks are said -/
section
variable {α β : Type} {kv : α → Value} {vv : β → Value}
def mrow (e : Nat) (kv : α → Value) (vv : β → Value) (v : Value) (bs : List Nat) (xs : List (List (α × β))) : Item where
  fp := v.ownBlock.toList ++ bs
  holds w := (own e 1 v xs.length (bs.map fun b => Value.map (some b))).holds w ∧ bs.length = xs.length ∧ (∀ i, i < xs.length → (mapI kv vv (bs.getD i 0) (xs.getD i [])).holds w) ∧ (v.ownBlock.toList ++ bs).Nodup
  keep w w' h hw := by
    refine ⟨Item.keep _ _ _ (fun b hb => h b (List.mem_append_left _ hb)) hw.1, hw.2.1, fun i hi => Item.keep _ w w' (fun b hb => h b (List.mem_append_right _ ?_)) (hw.2.2.1 i hi), hw.2.2.2⟩
    obtain rfl : b = bs.getD i 0 := List.mem_singleton.1 hb
    have : i < bs.length := by rw [hw.2.1]; exact hi
    simp [List.getD, this]
  low w hw b hb := by
    rcases List.mem_append.1 hb with hb | hb
    · exact Item.low _ w hw.1 b hb
    · obtain ⟨i, hi, rfl⟩ := List.getElem_of_mem hb
      have := Item.low _ w (hw.2.2.1 i (by rw [← hw.2.1]; exact hi)) (bs.getD i 0) (List.mem_singleton_self _)
      simpa [List.getD, hi] using this
theorem seg_one {α : Type} {l : List α} {i : Nat} {x : α} (h : (l.drop (i * 1)).take 1 = [x]) : l[i]? = some x := by
  have := congrArg (fun z => z[0]?) h
  simpa using this
theorem mrow_open {e : Nat} {xs : List (List (α × β))} {v : Value} {fp : List Nat} {w : World} (h : ((Tr.sl e (TrMap kv vv)).item xs [v] fp).holds w) : ∃ bs, (mrow e kv vv v bs xs).holds w ∧ fp = v.ownBlock.toList ++ bs := by
  obtain ⟨ecs, fps, a1, ⟨⟨h1, h2, h3⟩, hn⟩, rfl, a4⟩ := tr_split h
  have hz : (TrMap kv vv).ty.sz = 1 := rfl
  rw [hz] at h1 h3 a1
  have key : ∀ i, i < xs.length → ∃ b, ecs[i]? = some (Value.map (some b)) ∧ fps[i]? = some [b] ∧ (mapI kv vv b (xs.getD i [])).holds w := fun i hi => by
    obtain ⟨b, hb, hf, hm⟩ := h3 i hi
    refine ⟨b, seg_one hb, ?_, by simpa [List.getD, hi] using hm⟩
    have hi' : i < fps.length := by omega
    simpa [List.getD, hi'] using hf
  let bs := fps.map fun f => f.headD 0
  have hbs : ∀ i b, i < xs.length → fps[i]? = some [b] → bs[i]? = some b := fun i b hi hf => by simp [bs, hf]
  have hfl : fps.flatten = bs := by
    have : ∀ l : List (List Nat), (∀ f, f ∈ l → ∃ b, f = [b]) → l.flatten = l.map fun f => f.headD 0 := by
      intro l
      induction l with
      | nil => intro _; rfl
      | cons f l ih =>
        intro hl
        obtain ⟨b, rfl⟩ := hl f (by simp)
        simp [ih fun g hg => hl g (by simp [hg])]
    refine this fps fun f hf => ?_
    obtain ⟨i, hi, rfl⟩ := List.getElem_of_mem hf
    obtain ⟨b, _, hb, _⟩ := key i (by omega)
    rw [List.getElem?_eq_getElem hi] at hb
    exact ⟨b, Option.some.inj hb⟩
  have hln : bs.length = xs.length := by simp [bs, h2]
  have hec : ecs = bs.map fun b => Value.map (some b) := by
    apply List.ext_getElem?
    intro i
    rcases Nat.lt_or_ge i xs.length with hi | hi
    · obtain ⟨b, hb1, hb2, _⟩ := key i hi
      rw [hb1, List.getElem?_map, hbs i b hi hb2]; rfl
    · rw [List.getElem?_eq_none (by omega), List.getElem?_eq_none (by simp [hln]; omega)]
  refine ⟨bs, ⟨hec ▸ a1, hln, fun i hi => ?_, ?_⟩, by rw [hfl]⟩
  · obtain ⟨b, _, hb2, hm⟩ := key i hi
    have := hbs i b hi hb2
    rw [List.getD, this]; exact hm
  · rw [← hfl]
    exact List.nodup_append.2 ⟨nodup_own v, hn, fun a ha b hb e => a4 a ha (e ▸ hb)⟩
theorem mrow_close {e : Nat} {xs : List (List (α × β))} {v : Value} {bs : List Nat} {w : World} (h : (mrow e kv vv v bs xs).holds w) : ((Tr.sl e (TrMap kv vv)).item xs [v] (v.ownBlock.toList ++ bs)).holds w := by
  obtain ⟨h1, h2, h3, h4⟩ := h
  have hfl : ∀ l : List Nat, (l.map fun b => [b]).flatten = l := by
    intro l
    induction l with
    | nil => rfl
    | cons b l ih => simp [ih]
  obtain ⟨n1, n2, n3⟩ := List.nodup_append.1 h4
  have ht : (forest (TrMap kv vv) xs (bs.map fun b => Value.map (some b)) (bs.map fun b => [b])).holds w := by
    refine ⟨⟨by rw [List.length_map, h2]; exact (Nat.mul_one _).symm, by simp [h2], fun i hi => ?_⟩, by rw [hfl]; exact n2⟩
    have hi' : i < bs.length := by omega
    refine ⟨bs.getD i 0, ?_, by simp [List.getD, hi'], by have := h3 i hi; simpa [List.getD, hi] using this⟩
    show ((bs.map fun b => Value.map (some b)).drop (i * 1)).take 1 = _
    rw [Nat.mul_one, List.drop_eq_getElem_cons (by simpa using hi')]
    simp [List.getD, hi']
  have := forest_up (e := e) (T := TrMap kv vv) (v := v) h1 ht (fun b hb hb' => n3 b hb b (by rwa [hfl] at hb') rfl)
  rwa [hfl] at this
theorem mrow_at {e g c n i : Nat} {xs : List (List (α × β))} {v : Value} {bs : List Nat} {w : World} (h : (mrow e kv vv v bs xs).holds w) (hv : v = .slice (some ⟨g, 0, none⟩) n c) (hi : i < xs.length) : cellsAt w ⟨g, i * 1, none⟩ [.map (some (bs.getD i 0))] := by
  let E : Enc Nat := ⟨1, by decide, fun b => [.map (some b)], fun _ => rfl, fun _ u hu => by obtain rfl := List.mem_singleton.1 hu; rfl⟩
  have he : ∀ l : List Nat, E.encs l = l.map fun b => Value.map (some b) := by
    intro l
    induction l with
    | nil => rfl
    | cons b l ih => simpa [Enc.encs, E] using ih
  have h0 : (own e E.sz v bs.length (E.encs bs)).holds w := by rw [he, h.2.1]; exact h.1
  exact own_cellsE (E := E) h0 hv i (by rw [h.2.1]; exact hi)
theorem mrow_get {e i : Nat} {xs : List (List (α × β))} {v : Value} {bs : List Nat} {w : World} (h : (mrow e kv vv v bs xs).holds w) (hi : i < xs.length) : (mapI kv vv (bs.getD i 0) (xs.getD i [])).holds w ∧ bs.getD i 0 ∈ (mrow e kv vv v bs xs).fp := by
  refine ⟨h.2.2.1 i hi, List.mem_append_right _ ?_⟩
  have : i < bs.length := by rw [h.2.1]; exact hi
  simp [List.getD, this]
/-- One of the maps was written. -/
theorem Ctx.turnM {e i : Nat} {X : Nat → Prop} {w0 w w' : World} {M Ps : List Item} {xs : List (List (α × β))} {m' : List (α × β)} {v : Value} {bs : List Nat} (hC : Ctx X w0 w M Ps) (k : Nat) (hk : M[k]? = some (mrow e kv vv v bs xs)) (hi : i < xs.length) (hB : BelB (bs.getD i 0) w w') (hm : (mapI kv vv (bs.getD i 0) m').holds w') :
    Ctx X w0 w' (M.set k (mrow e kv vv v bs (xs.set i m'))) Ps := by
  have h := hC.getM k hk
  have hin := (mrow_get h hi).2
  obtain ⟨h1, h2, h3, h4⟩ := h
  obtain ⟨n1, n2, n3⟩ := List.nodup_append.1 h4
  have hib : i < bs.length := by omega
  have eb : ∀ j (hj : j < bs.length), bs.getD j 0 = bs[j] := fun j hj => by simp [List.getD, hj]
  refine hC.turn k hk hB.os hB.tape hB.output hB.size hB.drawn (fun c hc hn => hB.old c hc (fun e => hn (e ▸ hin))) ⟨?_, by simpa using h2, fun j hj => ?_, h4⟩ (fun b hb => .inl hb)
  · rw [List.length_set]
    refine Item.keep _ w w' (fun c hc => hB.old c (Item.low _ w h1 c hc) (fun q => ?_)) h1
    refine n3 c hc (bs.getD i 0) ?_ q
    rw [eb i hib]; exact List.getElem_mem hib
  · rw [List.length_set] at hj
    have hjb : j < bs.length := by omega
    by_cases hji : j = i
    · subst hji
      simpa [List.getD, hj] using hm
    · have e1 : (xs.set i m').getD j [] = xs.getD j [] := by simp [List.getD, List.getElem?_set_ne (fun e => hji e.symm)]
      rw [e1]
      refine Item.keep _ w w' (fun c hc => hB.old c (Item.low _ w (h3 j hj) c hc) (fun q => ?_)) (h3 j hj)
      obtain rfl : c = bs.getD j 0 := List.mem_singleton.1 hc
      rw [eb i hib, eb j hjb] at q
      exact hji ((List.getElem_inj n2).1 q)
/-- A tree that was handed over comes back. -/
theorem Ctx.turnI {X : Nat → Prop} {w0 w w' : World} {M Ps : List Item} {it jt : Item} (hC : Ctx X w0 w M Ps) (k : Nat) (hk : M[k]? = some it) (hB : BelO it.fp w w') (hj : jt.holds w') (hf : ∀ b, b ∈ jt.fp → b ∈ it.fp ∨ w.heap.size ≤ b) : Ctx X w0 w' (M.set k jt) Ps :=
  hC.turn k hk hB.os hB.tape hB.output hB.size hB.drawn (fun b hb hn => hB.old b hb hn) hj hf
end
end Vc
