/- Arrays of maps: those laid so far, read from then on. -/
import Derived.Test.YtaagfepgbofmlaaGreatVt
set_option linter.unusedVariables false
set_option linter.unusedSimpArgs false
namespace Vc
open Go Go.RowKit
/-- What the slots hold. -/
def Slots (e : Env) (l : List (Nat × Value)) : Prop := ∀ p, p ∈ l → e p.1 = p.2
theorem slots_nil {e : Env} : Slots e [] := by intro p hp; cases hp
theorem slots_cons {e : Env} {t : Nat} {v : Value} {l : List (Nat × Value)} (h : e t = v) (hs : Slots e l) : Slots e ((t, v) :: l) := by
  intro p hp
  rcases List.mem_cons.1 hp with rfl | hp
  · exact h
  · exact hs p hp
theorem slot {e : Env} {l : List (Nat × Value)} (hs : Slots e l) (k : Nat) {t : Nat} {v : Value} (h : l[k]? = some (t, v)) : e t = v := hs (t, v) (List.mem_of_getElem? h)
/-- Which operations are done, as bits. -/
def dbits (n k : Nat) : Array Bool := ((List.range n).map (Nat.testBit k)).toArray
section
variable {α β : Type}
def MapAt (kv : α → Value) (vv : β → Value) (ls : List (Option (List (α × β)))) (cs : List Value) (fp : List Nat) (w : World) (j : Nat) : Prop :=
  (ls[j]? = some none ∧ cs[j]? = some (.map none)) ∨ ∃ l b, ls[j]? = some (some l) ∧ cs[j]? = some (.map (some b)) ∧ b ∈ fp ∧ (mapI kv vv b l).holds w
theorem map_keep {kv : α → Value} {vv : β → Value} {b : Nat} {l : List (α × β)} {w w' : World} (h : w'.heap[b]? = w.heap[b]?) (hw : (mapI kv vv b l).holds w) : (mapI kv vv b l).holds w' := by
  obtain ⟨es, c, h1, h2⟩ := hw
  exact ⟨es, c, h.trans h1, h2⟩
def TMaps (kv : α → Value) (vv : β → Value) (n : Nat) : Ty (List (Option (List (α × β)))) where
  sz := n
  rep ls cs fp w := cs.length = n ∧ ls.length = n ∧ (∀ b, b ∈ fp → b < w.heap.size) ∧ ∀ j, j < n → MapAt kv vv ls cs fp w j
  keep h hw := ⟨hw.1, hw.2.1, low_keep h hw.2.2.1, fun j hj => by
    rcases hw.2.2.2 j hj with q | ⟨l, b, h1, h2, h3, h4⟩
    · exact .inl q
    · exact .inr ⟨l, b, h1, h2, h3, map_keep (h b h3) h4⟩⟩
  low hw := hw.2.2.1
  len hw := hw.1
  one hw u hu := by
    obtain ⟨j, hj, rfl⟩ := List.getElem_of_mem hu
    rcases hw.2.2.2 j (by have := hw.1; omega) with ⟨_, q⟩ | ⟨l, b, _, q, _⟩
    · rw [List.getElem?_eq_getElem hj] at q; injection q with q; rw [q]; rfl
    · rw [List.getElem?_eq_getElem hj] at q; injection q with q; rw [q]; rfl
  more hw hs hl := ⟨hw.1, hw.2.1, hl, fun j hj => by
    rcases hw.2.2.2 j hj with q | ⟨l, b, h1, h2, h3, h4⟩
    · exact .inl q
    · exact .inr ⟨l, b, h1, h2, hs _ h3, h4⟩⟩
variable {kv : α → Value} {vv : β → Value} {n : Nat} {ls : List (Option (List (α × β)))} {cs : List Value} {fp : List Nat} {w : World}
theorem maps_zero (kv : α → Value) (vv : β → Value) (n : Nat) (w : World) : (TMaps kv vv n).rep (List.replicate n none) (List.replicate n (.map none)) [] w :=
  ⟨by simp, by simp, by simp, fun j hj => .inl ⟨by simp [hj], by simp [hj]⟩⟩
theorem maps_set (h : (TMaps kv vv n).rep ls cs fp w) {b i : Nat} {l : List (α × β)} (hm : (mapI kv vv b l).holds w) : (TMaps kv vv n).rep (ls.set i (some l)) (cs.set i (.map (some b))) (b :: fp) w := by
  refine ⟨by rw [List.length_set]; exact h.1, by rw [List.length_set]; exact h.2.1, fun c hc => ?_, fun j hj => ?_⟩
  · rcases List.mem_cons.1 hc with rfl | hc
    · exact (mapI kv vv c l).low w hm c (by simp [mapI])
    · exact h.2.2.1 c hc
  · have hl := h.1
    have hl2 := h.2.1
    by_cases e : i = j
    · subst e
      exact .inr ⟨l, b, by rw [List.getElem?_set_self (by omega)], by rw [List.getElem?_set_self (by omega)], by simp, hm⟩
    · rcases h.2.2.2 j hj with ⟨q1, q2⟩ | ⟨l', b', h1, h2, h3, h4⟩
      · exact .inl ⟨by rw [List.getElem?_set_ne e]; exact q1, by rw [List.getElem?_set_ne e]; exact q2⟩
      · exact .inr ⟨l', b', by rw [List.getElem?_set_ne e]; exact h1, by rw [List.getElem?_set_ne e]; exact h2, by simp [h3], h4⟩
theorem maps_get (h : (TMaps kv vv n).rep ls cs fp w) {i : Nat} {l : List (α × β)} (hl : ls[i]? = some (some l)) : ∃ b, cs[i]? = some (.map (some b)) ∧ b ∈ fp ∧ (mapI kv vv b l).holds w := by
  have hi : i < n := by have := (List.getElem?_eq_some_iff.1 hl).1; have := h.2.1; omega
  rcases h.2.2.2 i hi with ⟨q1, q2⟩ | ⟨l', b', h1, h2, h3, h4⟩
  · rw [hl] at q1; cases q1
  · rw [hl] at h1; injection h1 with h1; injection h1 with h1; subst h1; exact ⟨b', h2, h3, h4⟩
theorem maps_len (h : (TMaps kv vv n).rep ls cs fp w) : cs.length = n := h.1
theorem maps_all (h : (TMaps kv vv n).rep ls cs fp w) : cs.all (·.oneCell') = true := List.all_eq_true.2 fun u hu => (TMaps kv vv n).one h u hu
end
theorem drop0_take {cs : List Value} {n : Nat} (h : cs.length = n) : (cs.drop 0).take n = cs := by rw [List.drop_zero, List.take_of_length_le (by omega)]
theorem cell_at {cs : List Value} {o i : Nat} {v : Value} (h : cs[i]? = some v) (ho : o = i) : cs[o]? = some v := ho ▸ h
theorem splice1 {cs : List Value} {o i : Nat} {v : Value} (hi : i < cs.length) (ho : o = i) : splice cs o [v] = cs.set i v := by
  subst ho
  unfold splice
  rw [List.set_eq_take_append_cons_drop, if_pos hi]
  simp
theorem splice_all {cs vc : List Value} (h : vc.length = cs.length) : splice cs 0 vc = vc := by
  unfold splice
  rw [List.take_zero, List.nil_append, Nat.zero_add, h, List.drop_length, List.append_nil]
namespace Ctx
variable {X : Nat → Prop} {w0 w w' : World} {M Ps : List Item}
/-- Two readings as one. -/
theorem joinP (h : Ctx X w0 w M Ps) (j k : Nat) {it jt : Item} (hj : Ps[j]? = some it) (hk : Ps[k]? = some jt) (nt : Item) (hn : it.holds w → jt.holds w → nt.holds w) (hf : ∀ b, b ∈ nt.fp → b ∈ it.fp ∨ b ∈ jt.fp) : Ctx X w0 w M (nt :: Ps) :=
  h.pushP nt (hn (h.getP j hj) (h.getP k hk)) (fun b hb m hm => (hf b hb).elim (fun q => h.pd it (List.mem_of_getElem? hj) b q m hm) (fun q => h.pd jt (List.mem_of_getElem? hk) b q m hm))
end Ctx
/-! ### Regions that draw their order and write into blocks of their own -/
theorem belN_bel {w w' : World} (h : BelN w.heap.size w w') : Bel w w' := ⟨⟨h.os, h.tape, h.output, h.size, h.old⟩, h.drawn⟩
theorem belN_of {N : Nat} {w w' : World} (hN : N ≤ w.heap.size) (h : Bel w w') : BelN N w w' := ⟨h.os, h.tape, h.output, h.size, h.drawn, fun c hc => h.block c (by omega)⟩
theorem belN_belB {N b : Nat} {w w' : World} (hN : N ≤ w.heap.size) (hb : N ≤ b) (h : BelB b w w') : BelN N w w' := ⟨h.os, h.tape, h.output, h.size, h.drawn, fun c hc => h.old c (by omega) (by omega)⟩
section
variable {P : Program} {l : List Oper} {Q : Exit → Act → World → Prop} {n m f : Nat} {e : Env} {w : World} {listed : Array Bool}
theorem ak_introM {N i : Nat} {w' : World} {l9 : Array Bool} (hb : BelN N w w') (hN : N ≤ w.heap.size) (hl : listed.setIfInBounds i true = l9) (h : N ≤ w'.heap.size → AE (BelN N) P .any l.toArray Q m n f l9 e w') : AK (BelN N) P l Q m n f i listed w .normal (actOf n e) w' :=
  ak_intro hb hl (h (Nat.le_trans hN hb.size))
end
section
variable {P : Program} {ops : Array Oper} {Q : Exit → Act → World → Prop} {n : Nat} {e : Env} {w w' : World} {rest : List Oper}
variable {X : Nat → Prop} {w0 : World} {M Ps : List Item}
variable {d ty : Nat} {pos : String} {af : Array Edge} {gd : Option (Nat × Bool)}
theorem s_allocN (hC : Ctx X w0 w M Ps) {t : Nat} {z : Value} (cs : List Value) (hz : ZeroT P t z) (hcs : z.cells.toList = cs)
    (h : ∀ b w', w.heap.size ≤ b → Bel w w' → Ctx X w0 w' (blk b t cs :: M) Ps → W P ops Q rest n (upd e d (.pointer (some ⟨b, 0, none⟩))) w') :
    W P ops Q (⟨some d, .alloc t, ty, pos, af, none⟩ :: rest) n e w := by
  have hB : Bel w (w.alloc (.cells z.cells t)) := Bel.alloc _ _
  refine stepV (.pointer (some ⟨w.heap.size, 0, none⟩)) rfl rfl ?_ (h w.heap.size (w.alloc (.cells z.cells t)) (Nat.le_refl _) hB (hC.push hB _ ?_ ?_))
  · simp [execOp, Instr.alloc, run_zero hz, newVar, newRow]
  · show (w.alloc _).heap[w.heap.size]? = _
    rw [heap_alloc_new, ← hcs]
  · simp [blk]
theorem s_storeN (hC : Ctx X w0 w M Ps) (k : Nat) {b t off sz ty' : Nat} {x y : Operand} {cs : List Value} {v : Value} (vc : List Value) (cs' : List Value) (hk : M[k]? = some (blk b t cs)) (hT : SizeT P ty' sz) (hx : ev n e x = .pointer (some ⟨b, off, none⟩))
    (hy : ev n e y = v) (hv : v.cells.toList = vc) (hl : vc.length = sz) (h1 : vc.all (·.oneCell') = true) (ho : off + sz ≤ cs.length) (hcs : splice cs off vc = cs')
    (h : ∀ w', BelB b w w' → Ctx X w0 w' (M.set k (blk b t cs')) Ps → W P ops Q rest n e w') :
    W P ops Q (⟨none, .store ty' x y, ty, pos, af, none⟩ :: rest) n e w := by
  obtain ⟨w', hr, hb, hos, hta, hou, hsz, hother⟩ := run_storeVar_blk (P := P) hT (hC.getM k hk) hv hl h1 ho
  refine stepU rfl rfl ?_ (h w' ⟨hos, hta, hou, by omega, run_drawn _ _ _ _ hr, fun c _ hc => hother c hc⟩ (hC.turn k hk hos hta hou (by omega) (run_drawn _ _ _ _ hr) (fun c _ hc => hother c (by simpa [blk] using hc)) (hcs ▸ hb) (fun c hc => .inl hc)))
  simp [execOp, hx, hy, Instr.storeAt, Instr.sureAddr, hr]
variable {α β : Type} {kv : α → Value} {vv : β → Value}
theorem s_makeMapN (hC : Ctx X w0 w M Ps) {t : Nat} (kv : α → Value) (vv : β → Value) (h : ∀ b w', w.heap.size ≤ b → Bel w w' → Ctx X w0 w' (mapI kv vv b [] :: M) Ps → W P ops Q rest n (upd e d (.map (some b))) w') :
    W P ops Q (⟨some d, .makeMap t none, ty, pos, af, none⟩ :: rest) n e w := by
  have hB : Bel w (w.alloc (.map #[] 0)) := Bel.alloc _ _
  refine stepV (.map (some w.heap.size)) rfl rfl ?_ (h w.heap.size _ (Nat.le_refl _) hB (hC.push hB _ ⟨#[], 0, heap_alloc_new _ _, rfl, by simp, by simp, by simp⟩ (by simp [mapI])))
  simp [execOp, Instr.makeMap, newObj, Sem.run, Result.andThen]
variable [DecidableEq α]
theorem s_mapsetN (hC : Ctx X w0 w M Ps) (j : Nat) {t k el b : Nat} {l : List (α × β)} {x y z : Operand} (kx : α) (v : β) (hk : M[j]? = some (mapI kv vv b l)) (K : KeyT P k kv) (ht : P.underlying t = some (.map k el))
    (hx : ev n e x = .map (some b)) (hy : ev n e y = kv kx) (hz : ev n e z = vv v) (h : ∀ w', BelB b w w' → Ctx X w0 w' (M.set j (mapI kv vv b (mset l kx v))) Ps → W P ops Q rest n e w') {op : Op} (hop : op = .mapUpdate t x y z ∨ op = .insert t x y z) :
    W P ops Q (⟨none, op, ty, pos, af, none⟩ :: rest) n e w := by
  obtain ⟨w', hr, hh, hb⟩ := run_mapUpdate K ht (hC.getM j hk) kx v
  refine stepU rfl rfl ?_ (h w' hb (hC.turnB j hk hb rfl rfl hh))
  rcases hop with rfl | rfl <;> simp [execOp, hx, hy, hz, hr]
end
/-! ### A tree put into an element of a row of trees -/
theorem splice_get {cs vc : List Value} {o : Nat} (ho : o + vc.length ≤ cs.length) (k : Nat) : (splice cs o vc)[k]? = if k < o then cs[k]? else if k < o + vc.length then vc[k - o]? else cs[k]? := by
  unfold splice
  have h1 : (cs.take o).length = o := by rw [List.length_take]; omega
  by_cases a : k < o
  · rw [if_pos a, List.append_assoc, List.getElem?_append_left (by omega), List.getElem?_take, if_pos a]
  · rw [if_neg a]
    by_cases b : k < o + vc.length
    · rw [if_pos b, List.append_assoc, List.getElem?_append_right (by omega), h1, List.getElem?_append_left (by omega)]
    · rw [if_neg b, List.getElem?_append_right (by rw [List.length_append]; omega), List.length_append, h1, List.getElem?_drop]
      congr 1
      omega
theorem splice_len {cs vc : List Value} {o : Nat} (ho : o + vc.length ≤ cs.length) : (splice cs o vc).length = cs.length := by
  unfold splice; simp; omega
section
variable {α : Type} {T : Tr α} {w : World}
theorem set_flat {fps : List (List Nat)} {i : Nat} {f : List Nat} {b : Nat} (h : b ∈ (fps.set i f).flatten) : b ∈ fps.flatten ∨ b ∈ f := by
  obtain ⟨l, hl, hb⟩ := List.mem_flatten.1 h
  rcases List.mem_or_eq_of_mem_set hl with q | q
  · exact .inl (List.mem_flatten.2 ⟨l, q, hb⟩)
  · exact .inr (q ▸ hb)
theorem forest_set {xs : List α} {cs c2 : List Value} {fps : List (List Nat)} {f2 : List Nat} {i : Nat} {y : α} (h : (forest T xs cs fps).holds w) (hi : i < xs.length) (hy : (T.item y c2 f2).holds w) (hd : ∀ b, b ∈ fps.flatten → b ∉ f2) :
    (forest T (xs.set i y) (splice cs (i * T.ty.sz) c2) (fps.set i f2)).holds w := by
  have hc2 : c2.length = T.ty.sz := T.ty.len (T.trep hy.1)
  have hle : i * T.ty.sz + T.ty.sz ≤ cs.length := by rw [h.1.1]; exact seg_le hi
  have hle2 : i * T.ty.sz + c2.length ≤ cs.length := by rw [hc2]; exact hle
  have hfl := h.1.2.1
  refine ⟨⟨by rw [splice_len hle2, h.1.1, List.length_set], by rw [List.length_set, List.length_set, hfl], fun j hj => ?_⟩, ?_⟩
  · have hj' : j < xs.length := by simpa using hj
    have hseg : ∀ k : Nat, (((splice cs (i * T.ty.sz) c2).drop (j * T.ty.sz)).take T.ty.sz)[k]? = if j = i then c2[k]? else ((cs.drop (j * T.ty.sz)).take T.ty.sz)[k]? := by
      intro k
      rw [List.getElem?_take]
      by_cases hk : k < T.ty.sz
      · rw [if_pos hk, List.getElem?_drop, splice_get hle2]
        by_cases hji : j = i
        · subst hji
          rw [if_neg (by omega), if_pos (by omega), if_pos rfl, Nat.add_sub_cancel_left]
        · rw [if_neg hji, List.getElem?_take, if_pos hk, List.getElem?_drop]
          rcases Nat.lt_or_gt_of_ne hji with q | q
          · have := seg_le (sz := T.ty.sz) q
            rw [if_pos (by omega)]
          · have := seg_le (sz := T.ty.sz) q
            rw [if_neg (by omega), if_neg (by omega)]
      · rw [if_neg hk]
        by_cases hji : j = i
        · rw [if_pos hji, List.getElem?_eq_none (by omega)]
        · rw [if_neg hji, List.getElem?_take, if_neg hk]
    have hfj : (fps.set i f2).getD j [] = if j = i then f2 else fps.getD j [] := by
      simp only [List.getD]
      by_cases hji : j = i
      · subst hji; rw [if_pos rfl, List.getElem?_set_self (by omega)]; rfl
      · rw [if_neg hji, List.getElem?_set_ne (fun e => hji e.symm)]
    rw [List.getElem_set, hfj]
    by_cases hji : j = i
    · subst hji
      rw [if_pos rfl, if_pos rfl]
      have e1 : ((splice cs (j * T.ty.sz) c2).drop (j * T.ty.sz)).take T.ty.sz = c2 := List.ext_getElem? (fun k => (hseg k).trans (if_pos rfl))
      rw [e1]
      exact hy.1
    · rw [if_neg (fun e => hji e.symm), if_neg hji]
      have e1 : ((splice cs (i * T.ty.sz) c2).drop (j * T.ty.sz)).take T.ty.sz = (cs.drop (j * T.ty.sz)).take T.ty.sz := List.ext_getElem? (fun k => (hseg k).trans (if_neg hji))
      rw [e1]
      exact h.1.2.2 j hj'
  · have hp := List.pairwise_flatten.1 h.2
    refine List.pairwise_flatten.2 ⟨fun l hl => ?_, ?_⟩
    · rcases List.mem_or_eq_of_mem_set hl with q | q
      · exact hp.1 l q
      · rw [q]; exact hy.2
    · rw [List.pairwise_iff_getElem]
      intro a b ha hb hab x hx z hz
      have ha' : a < fps.length := by simpa using ha
      have hb' : b < fps.length := by simpa using hb
      rw [List.getElem_set] at hx hz
      split at hx
      · split at hz
        · omega
        · intro e; subst e; exact hd x (List.mem_flatten.2 ⟨_, List.getElem_mem hb', hz⟩) hx
      · split at hz
        · intro e; subst e; exact hd x (List.mem_flatten.2 ⟨_, List.getElem_mem ha', hx⟩) hz
        · exact List.pairwise_iff_getElem.1 hp.2 a b ha' hb' hab x hx z hz
theorem tr_formE {e : Nat} {xs : List α} {v : Value} {fp : List Nat} (h : ((Tr.sl e T).item xs [v] fp).holds w) (hn : 0 < xs.length) : ∃ g cap, v = .slice (some ⟨g, 0, none⟩) xs.length cap := by
  obtain ⟨ecs, fps, a1, _⟩ := tr_split h
  exact own_formE a1 hn
end
section
variable {P : Program} {ops : Array Oper} {Q : Exit → Act → World → Prop} {n : Nat} {e : Env} {w w' : World} {rest : List Oper}
variable {X : Nat → Prop} {w0 : World} {M Ps : List Item}
variable {d ty : Nat} {pos : String} {af : Array Edge} {gd : Option (Nat × Bool)}
theorem s_storeT {el ty' i g cap j : Nat} {α : Type} {T : Tr α} {x y : Operand} {v u : Value} {xs : List α} {z : α} {c2 : List Value} {f1 f2 : List Nat} (hC : Ctx X w0 w ((Tr.sl el T).item xs [v] f1 :: T.item z c2 f2 :: M) Ps)
    (hi : i < xs.length) (hv : v = .slice (some ⟨g, 0, none⟩) xs.length cap) (hT : SizeT P ty' T.ty.sz) (hx : ev n e x = .pointer (some ⟨g, j, none⟩)) (hj : j = i * T.ty.sz) (hy : ev n e y = u) (hu : u.cells.toList = c2)
    (h : ∀ f w', Ctx X w0 w' ((Tr.sl el T).item (xs.set i z) [v] f :: M) Ps → W P ops Q rest n e w') :
    W P ops Q (⟨none, .store ty' x y, ty, pos, af, none⟩ :: rest) n e w := by
  obtain ⟨ecs, fps, a1, a2, rfl, a4⟩ := tr_split (hC.getM 0 rfl)
  have hz : (T.item z c2 f2).holds w := hC.getM 1 rfl
  have hdz : ∀ b, b ∈ v.ownBlock.toList ++ fps.flatten → b ∉ f2 := fun b hb hb' => hC.mm 0 1 rfl rfl (by decide) b hb hb'
  have h1 := hC.split (a := own el T.ty.sz v xs.length ecs) (b := forest T xs ecs fps) (fun b hb => List.mem_append_left _ hb) (fun b hb => List.mem_append_right _ hb) ⟨a1, a2, a4⟩
  have hc2 : c2.length = T.ty.sz := T.ty.len (T.trep hz.1)
  have hle : j + T.ty.sz ≤ ecs.length := by rw [hj, a2.1.1]; exact seg_le hi
  refine s_storeO (v := u) h1 0 c2 (splice ecs j c2) rfl hv hT hx hy hu hc2 (List.all_eq_true.2 fun q hq => T.ty.one (T.trep hz.1) q hq) hle rfl fun w1 hC1 => ?_
  have h2 := hC1.perm (M' := forest T xs ecs fps :: T.item z c2 f2 :: own el T.ty.sz v xs.length (splice ecs j c2) :: M) (by
    have q1 : (own el T.ty.sz v xs.length (splice ecs j c2) :: forest T xs ecs fps :: T.item z c2 f2 :: M).Perm (forest T xs ecs fps :: own el T.ty.sz v xs.length (splice ecs j c2) :: T.item z c2 f2 :: M) := List.Perm.swap _ _ _
    have q2 : (forest T xs ecs fps :: own el T.ty.sz v xs.length (splice ecs j c2) :: T.item z c2 f2 :: M).Perm (forest T xs ecs fps :: T.item z c2 f2 :: own el T.ty.sz v xs.length (splice ecs j c2) :: M) := (List.Perm.swap _ _ _).cons _
    exact q1.trans q2)
  have h3 := h2.gather (c := forest T (xs.set i z) (splice ecs j c2) (fps.set i f2)) (fun b hb => set_flat hb) (fun p q r => by rw [hj]; exact forest_set p hi q r)
  have h4 := h3.perm (M' := own el T.ty.sz v xs.length (splice ecs j c2) :: forest T (xs.set i z) (splice ecs j c2) (fps.set i f2) :: M) (List.Perm.swap _ _ _)
  exact h _ w1 (h4.gather (c := (Tr.sl el T).item (xs.set i z) [v] (v.ownBlock.toList ++ (fps.set i f2).flatten)) (fun b hb => List.mem_append.1 hb) (fun p q r => forest_up (by rw [List.length_set]; exact p) q r))
end
section
variable {P : Program} {ops : Array Oper} {Q : Exit → Act → World → Prop} {n : Nat} {e : Env} {w w' : World} {rest : List Oper}
variable {d ty : Nat} {pos : String} {af : Array Edge} {gd : Option (Nat × Bool)}
end
/-! ### Short words -/
section
variable {P : Program} {ops : Array Oper} {Q : Exit → Act → World → Prop} {K : Act → World → Prop} {n : Nat} {e : Env} {w : World}
theorem dn (h : K (actOf n e) w) : W P ops (Exit.then K Q) [] n e w := done (then_norm h)
theorem sr {id : Nat} {l : List Oper} {y : Code} (h : W P l.toArray (Exit.then (y.wp P Q) Q) l n e w) : (Code.seq (Code.region id l.toArray false) y).wp P Q (actOf n e) w := wp_seq (cw_region h)
theorem sk {t : Nat} {v : Value} {l : List (Nat × Value)} (h : e t = v) (hs : Slots e l) : Slots e ((t, v) :: l) := slots_cons h hs
theorem sn : Slots e [] := slots_nil
theorem sx {l : List (Nat × Value)} (hs : Slots e l) (k : Nat) {t : Nat} {v : Value} (h : l[k]? = some (t, v)) : e t = v := slot hs k h
end
end Vc
