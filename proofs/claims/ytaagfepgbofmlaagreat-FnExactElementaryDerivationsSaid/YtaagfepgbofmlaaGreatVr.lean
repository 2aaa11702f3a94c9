/- A map as what a row's element reads as: rows of maps. -/
import Derived.Test.YtaagfepgbofmlaaGreatVo
set_option linter.unusedVariables false
set_option linter.unusedSimpArgs false
namespace Vc
open Go Go.RowKit
section
variable {α β : Type}
/-- A map behind its block, which lies among the blocks told. -/
def TMap (kv : α → Value) (vv : β → Value) : Ty (List (α × β)) where
  sz := 1
  rep l cs fp w := ∃ b, cs = [.map (some b)] ∧ b ∈ fp ∧ (∀ c, c ∈ fp → c < w.heap.size) ∧ (mapI kv vv b l).holds w
  keep h hw := by
    obtain ⟨b, rfl, hb, hl, hm⟩ := hw
    exact ⟨b, rfl, hb, low_keep h hl, Item.keep _ _ _ (fun c hc => h c (by obtain rfl := List.mem_singleton.1 hc; exact hb)) hm⟩
  low hw := by
    obtain ⟨b, rfl, hb, hl, hm⟩ := hw
    exact hl
  len hw := by obtain ⟨b, rfl, _⟩ := hw; rfl
  one hw u hu := by
    obtain ⟨b, rfl, _⟩ := hw
    obtain rfl := List.mem_singleton.1 hu
    rfl
  more hw h1 h2 := by
    obtain ⟨b, rfl, hb, hl, hm⟩ := hw
    exact ⟨b, rfl, h1 b hb, h2, hm⟩
/-- A map of the call's own. -/
def TrMap (kv : α → Value) (vv : β → Value) : Tr (List (α × β)) where
  ty := TMap kv vv
  tree l cs fp w := ∃ b, cs = [.map (some b)] ∧ fp = [b] ∧ (mapI kv vv b l).holds w
  tkeep h hw := by
    obtain ⟨b, rfl, rfl, hm⟩ := hw
    exact ⟨b, rfl, rfl, Item.keep _ _ _ h hm⟩
  tlow hw := by
    obtain ⟨b, rfl, rfl, hm⟩ := hw
    exact fun c hc => Item.low _ _ hm c hc
  trep hw := by
    obtain ⟨b, rfl, rfl, hm⟩ := hw
    exact ⟨b, rfl, List.mem_singleton_self _, fun c hc => Item.low _ _ hm c hc, hm⟩
theorem map_item {kv : α → Value} {vv : β → Value} {b : Nat} {l : List (α × β)} {w : World} (h : (mapI kv vv b l).holds w) : ((TrMap kv vv).item l [.map (some b)] [b]).holds w :=
  ⟨⟨b, rfl, rfl, h⟩, List.nodup_cons.2 ⟨by simp, List.nodup_nil⟩⟩
end
/-! ### A derivation with sums as images: a struct with a pointer to an algebra -/
structure Derive where
  alg : Alg
  drop : Int
  images : List (List (A8 × Int))
  deriving Inhabited
def TSum : Ty (List (A8 × Int)) := TMap (kvA .i64) (vvI .i64)
def TDerive (ta : Nat) : Ty Derive where
  sz := 3
  rep x cs fp w := ∃ b p q u, cs = [.pointer (some ⟨b, 0, none⟩), .int .i64 x.drop, u] ∧ (∀ c, c ∈ fp → c < w.heap.size) ∧ b ∈ fp ∧ (blk b ta [p, q]).holds w ∧ TAlg.rep x.alg [p, q] fp w ∧ TSum.sl.rep x.images [u] fp w
  keep h hw := by
    obtain ⟨b, p, q, u, rfl, hl, hb, h1, h2, h3⟩ := hw
    exact ⟨b, p, q, u, rfl, low_keep h hl, hb, Item.keep _ _ _ (fun c hc => h c (by obtain rfl := List.mem_singleton.1 hc; exact hb)) h1, TAlg.keep h h2, TSum.sl.keep h h3⟩
  low hw := by
    obtain ⟨b, p, q, u, rfl, hl, _⟩ := hw
    exact hl
  len hw := by obtain ⟨b, p, q, u, rfl, _⟩ := hw; rfl
  one hw z hz := by
    obtain ⟨b, p, q, u, rfl, _, _, _, _, h3⟩ := hw
    simp only [List.mem_cons, List.not_mem_nil, or_false] at hz
    rcases hz with rfl | rfl | rfl
    · rfl
    · rfl
    · exact TSum.sl.one h3 _ (List.mem_singleton_self _)
  more hw h1 h2 := by
    obtain ⟨b, p, q, u, rfl, hl, hb, k1, k2, k3⟩ := hw
    exact ⟨b, p, q, u, rfl, h2, h1 b hb, k1, TAlg.more k2 h1 h2, TSum.sl.more k3 h1 h2⟩
theorem derive_parts {ta : Nat} {x : Derive} {u0 u1 u2 : Value} {fp : List Nat} {w : World} (h : (TDerive ta).rep x [u0, u1, u2] fp w) :
    ∃ b p q, u0 = .pointer (some ⟨b, 0, none⟩) ∧ u1 = .int .i64 x.drop ∧ b ∈ fp ∧ (blk b ta [p, q]).holds w ∧ TAlg.rep x.alg [p, q] fp w ∧ TSum.sl.rep x.images [u2] fp w := by
  obtain ⟨b, p, q, u, hc, hl, hb, k1, k2, k3⟩ := h
  simp only [List.cons.injEq, and_true] at hc
  obtain ⟨rfl, rfl, rfl⟩ := hc
  exact ⟨b, p, q, rfl, rfl, hb, k1, k2, k3⟩
theorem derive_mk {ta b : Nat} {a : Alg} {d : Int} {l : List (List (A8 × Int))} {p q u : Value} {f1 f2 : List Nat} {w : World} (hb : (blk b ta [p, q]).holds w) (h1 : TAlg.rep a [p, q] f1 w) (h2 : TSum.sl.rep l [u] f2 w) :
    (TDerive ta).rep ⟨a, d, l⟩ [.pointer (some ⟨b, 0, none⟩), .int .i64 d, u] ((b :: f1) ++ f2) w := by
  have hl : ∀ c, c ∈ (b :: f1) ++ f2 → c < w.heap.size := fun c hc => by
    rcases List.mem_append.1 hc with hc | hc
    · rcases List.mem_cons.1 hc with rfl | hc
      · exact Item.low _ w hb c (List.mem_singleton_self _)
      · exact TAlg.low h1 c hc
    · exact TSum.sl.low h2 c hc
  exact ⟨b, p, q, u, rfl, hl, by simp, hb, TAlg.more h1 (fun c hc => List.mem_append_left _ (List.mem_cons_of_mem _ hc)) hl, TSum.sl.more h2 (fun c hc => List.mem_append_right _ hc) hl⟩
theorem map_parts {α β : Type} {kv : α → Value} {vv : β → Value} {l : List (α × β)} {u : Value} {fp : List Nat} {w : World} (h : (TMap kv vv).rep l [u] fp w) : ∃ b, u = .map (some b) ∧ b ∈ fp ∧ (mapI kv vv b l).holds w := by
  obtain ⟨b, hc, hb, _, hm⟩ := h
  simp only [List.cons.injEq, and_true] at hc
  exact ⟨b, hc, hb, hm⟩
theorem ev_cons {n : Nat} {e : Env} {x : Operand} {xs : List Operand} {v : Value} {vs : List Value} (h : ev n e x = v) (k : xs.map (ev n e) = vs) : (x :: xs).map (ev n e) = v :: vs := by rw [List.map_cons, h, k]
/-! ### A row of the call's own whose elements are maps of the call's own: the maps' blocks are said -/
section
variable {α β : Type} {kv : α → Value} {vv : β → Value}
end
end Vc
