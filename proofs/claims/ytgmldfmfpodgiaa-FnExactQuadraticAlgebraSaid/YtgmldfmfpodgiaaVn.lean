/- Rows of one element that is read. -/
import Derived.Test.YtgmldfmfpodgiaaVm
set_option linter.unusedVariables false
set_option linter.unusedSimpArgs false
namespace Vc
open Go Go.RowKit Go.ChangeShapes Go.WideShapes Go.ChangeAt
theorem all_one {α : Type} {t : Ty α} {x : α} {cs : List Value} {fp : List Nat} {w : World} (h : t.rep x cs fp w) : t.all [x] cs fp w := by
  have hl := t.len h
  refine ⟨t.low h, by rw [hl]; simp, t.one h, fun i hi => ?_⟩
  obtain rfl : i = 0 := by simpa using hi
  rw [Nat.zero_mul, List.drop_zero, List.take_of_length_le (by omega)]
  exact h
/-! ### A desk from outside -/
section
variable {H : Type} {enc : TypeId × Value → H} {P : Program} {W : World}
theorem opens_desk {G D : Alg → Prop} {E : Form → Prop} {t : TypeId} {f0 f1 f2 : Field} (ht : P.underlying t = some (.struct #[f0, f1, f2])) (h0 : f0.offset = 0) (h1 : f1.offset = P.cellsOf f0.type) (h2 : f2.offset = P.cellsOf f0.type + P.cellsOf f1.type)
    (hc : P.cellsOf f0.type + P.cellsOf f1.type + P.cellsOf f2.type = P.cellsOf t) (h : Opens enc P W f0.type TAlg G) (k : Opens enc P W f1.type TAlg D) (l : Opens enc P W f2.type TForm E) : Opens enc P W t TDesk (fun b => G b.first ∧ D b.second ∧ E b.form) := by
  intro fuel cs x hx
  obtain ⟨xs, n, _, rfl, hl, hlen, hf⟩ := DataW.trod_struct ht hx
  match xs, hlen with
  | [y0, y1, y2], _ =>
    have hy := hf 0 f0 rfl
    have hz := hf 1 f1 rfl
    have hu := hf 2 f2 rfl
    rw [h0, List.drop_zero] at hy
    rw [h1] at hz
    rw [h2, List.take_of_length_le (by rw [List.length_drop]; omega)] at hu
    obtain ⟨a, hr, hga⟩ := h _ _ _ hy
    obtain ⟨b, hs, hgb⟩ := k _ _ _ hz
    obtain ⟨c, hq, hgc⟩ := l _ _ _ hu
    refine ⟨⟨a, b, c⟩, ?_, hga, hgb, hgc⟩
    show ∃ c1 c2, cs = c1 ++ c2 ∧ (∃ d1 d2, c1 = d1 ++ d2 ∧ TAlg.rep a d1 (allB W) W ∧ TAlg.rep b d2 (allB W) W) ∧ TForm.rep c c2 (allB W) W
    refine ⟨cs.take (P.cellsOf f0.type + P.cellsOf f1.type), cs.drop (P.cellsOf f0.type + P.cellsOf f1.type), (List.take_append_drop _ _).symm, ⟨_, _, ?_, hr, hs⟩, hq⟩
    rw [List.take_add]
end
theorem agg_parts5 {c : Array Value} (h : (Value.agg c).cells.toList.length = 5) : ∃ p q r s u, c = #[p, q, r, s, u] := by
  obtain ⟨l⟩ := c
  have h' : l.length = 5 := h
  match l, h' with
  | [p, q, r, s, u], _ => exact ⟨p, q, r, s, u, rfl⟩
theorem open_boolV {H : Type} {enc : TypeId × Value → H} {P : Program} {W : World} {r : Reach} {b0 : Nat} {t : TypeId} {v : Value} {d : DataW H} {ps : List MemPlace} (ht : P.underlying t = some .bool) (hval : Value.okWide P W r b0 t v) (hd : DataW.Trod enc P W 0 (fun _ => true) true t v d ps) :
    ∃ b : Bool, v = .bool b ∧ d = .lit (.bool b) ∧ ps = [] := by
  have hv : ∃ b, v = .bool b := by
    simp only [Value.okWide, ht, Cell.okWide] at hval
    cases v <;> simp_all [Cell.ok]
  obtain ⟨b, rfl⟩ := hv
  obtain ⟨fuel, hf⟩ := hd
  obtain ⟨b', h, hx⟩ := DataW.trod_bool ht hf
  simp [Value.cells] at h
  subst h
  simp only [Prod.mk.injEq] at hx
  exact ⟨b, rfl, hx.1, hx.2⟩
/-! ### Desks of the call's own -/
def TrDesk (i e f : Nat) : Tr Desk := .iso (fun a => ((a.first, a.second), a.form)) (.pair (.pair (TrAlg i e f) (TrAlg i e f)) (TrForm e))
theorem desk_split {i e f : Nat} {x : Desk} {p q r s u : Value} {fp : List Nat} {w : World} (h : ((TrDesk i e f).item x [p, q, r, s, u] fp).holds w) : ∃ f1 f2 f3, ((TrAlg i e f).item x.first [p, q] f1).holds w ∧ ((TrAlg i e f).item x.second [r, s] f2).holds w ∧ ((TrForm e).item x.form [u] f3).holds w ∧
    (∀ b, b ∈ f1 → b ∈ fp) ∧ (∀ b, b ∈ f2 → b ∈ fp) ∧ (∀ b, b ∈ f3 → b ∈ fp) ∧ (∀ b, b ∈ f1 → b ∉ f2) ∧ (∀ b, b ∈ f1 → b ∉ f3) ∧ (∀ b, b ∈ f2 → b ∉ f3) := by
  obtain ⟨⟨c12, c3, g12, f3, hcs, rfl, ⟨c1, c2, f1, f2, rfl, rfl, h1, h2⟩, h3⟩, hn⟩ := h
  have l1 : c1.length = 2 := (TrAlg i e f).ty.len ((TrAlg i e f).trep h1)
  have l2 : c2.length = 2 := (TrAlg i e f).ty.len ((TrAlg i e f).trep h2)
  obtain ⟨p', q', rfl⟩ := len_two l1
  obtain ⟨r', s', rfl⟩ := len_two l2
  simp only [List.cons_append, List.nil_append, List.cons.injEq] at hcs
  obtain ⟨rfl, rfl, rfl, rfl, rfl⟩ := hcs
  obtain ⟨hn1, hn2, hn3⟩ := List.nodup_append.1 hn
  obtain ⟨hm1, hm2, hm3⟩ := List.nodup_append.1 hn1
  exact ⟨f1, f2, f3, ⟨h1, hm1⟩, ⟨h2, hm2⟩, ⟨h3, hn2⟩, fun b hb => by simp [hb], fun b hb => by simp [hb], fun b hb => by simp [hb], fun b hb hb' => hm3 b hb b hb' rfl, fun b hb hb' => hn3 b (by simp [hb]) b hb' rfl, fun b hb hb' => hn3 b (by simp [hb]) b hb' rfl⟩
theorem desk_join {i e f : Nat} {x y : Alg} {z : Form} {p q r s u : Value} {f1 f2 f3 : List Nat} {w : World} (h1 : ((TrAlg i e f).item x [p, q] f1).holds w) (h2 : ((TrAlg i e f).item y [r, s] f2).holds w) (h3 : ((TrForm e).item z [u] f3).holds w)
    (d12 : ∀ b, b ∈ f1 → b ∉ f2) (d13 : ∀ b, b ∈ f1 → b ∉ f3) (d23 : ∀ b, b ∈ f2 → b ∉ f3) : ((TrDesk i e f).item ⟨x, y, z⟩ [p, q, r, s, u] ((f1 ++ f2) ++ f3)).holds w :=
  ⟨⟨[p, q, r, s], [u], f1 ++ f2, f3, rfl, rfl, ⟨[p, q], [r, s], f1, f2, rfl, rfl, h1.1, h2.1⟩, h3.1⟩, List.nodup_append.2 ⟨List.nodup_append.2 ⟨h1.2, h2.2, fun a ha b hb e => d12 a ha (e ▸ hb)⟩, h3.2, fun a ha b hb e => by
    subst e
    rcases List.mem_append.1 ha with q | q
    · exact d13 a q hb
    · exact d23 a q hb⟩⟩
theorem Ctx.split3 {X : Nat → Prop} {w0 w : World} {M Ps : List Item} {a b d c : Item} (h : Ctx X w0 w (c :: M) Ps) (ha : ∀ x, x ∈ a.fp → x ∈ c.fp) (hb : ∀ x, x ∈ b.fp → x ∈ c.fp) (hd : ∀ x, x ∈ d.fp → x ∈ c.fp)
    (hc : a.holds w ∧ b.holds w ∧ d.holds w ∧ (∀ x, x ∈ a.fp → x ∉ b.fp) ∧ (∀ x, x ∈ a.fp → x ∉ d.fp) ∧ (∀ x, x ∈ b.fp → x ∉ d.fp)) : Ctx X w0 w (a :: b :: d :: M) Ps := by
  obtain ⟨h1, h2, h3, e1, e2, e3⟩ := hc
  obtain ⟨hd1, hd2⟩ := List.pairwise_cons.1 h.dis
  refine { h with m := ?_, mfp := ?_, dis := ?_, pd := ?_ }
  · intro j hj
    simp only [List.mem_cons] at hj
    rcases hj with rfl | rfl | rfl | hj
    · exact h1
    · exact h2
    · exact h3
    · exact h.m j (by simp [hj])
  · intro j hj x hx
    simp only [List.mem_cons] at hj
    rcases hj with rfl | rfl | rfl | hj
    · exact h.mfp c (by simp) x (ha x hx)
    · exact h.mfp c (by simp) x (hb x hx)
    · exact h.mfp c (by simp) x (hd x hx)
    · exact h.mfp j (by simp [hj]) x hx
  · refine List.pairwise_cons.2 ⟨fun j hj x hx hxj => ?_, List.pairwise_cons.2 ⟨fun j hj x hx hxj => ?_, List.pairwise_cons.2 ⟨fun j hj x hx hxj => hd1 j hj x (hd x hx) hxj, hd2⟩⟩⟩
    · simp only [List.mem_cons] at hj
      rcases hj with rfl | rfl | hj
      · exact e1 x hx hxj
      · exact e2 x hx hxj
      · exact hd1 j hj x (ha x hx) hxj
    · simp only [List.mem_cons] at hj
      rcases hj with rfl | hj
      · exact e3 x hx hxj
      · exact hd1 j hj x (hb x hx) hxj
  · intro j hj x hx m hm hxm
    simp only [List.mem_cons] at hm
    rcases hm with rfl | rfl | rfl | hm
    · exact h.pd j hj x hx c (by simp) (ha x hxm)
    · exact h.pd j hj x hx c (by simp) (hb x hxm)
    · exact h.pd j hj x hx c (by simp) (hd x hxm)
    · exact h.pd j hj x hx m (by simp [hm]) hxm
theorem Ctx.splitDesk {X : Nat → Prop} {w0 w : World} {M Ps : List Item} {i e f : Nat} {x : Desk} {p q r s u : Value} {fp : List Nat} (h : Ctx X w0 w (Tr.item (TrDesk i e f) x [p, q, r, s, u] fp :: M) Ps) :
    ∃ g1 g2, Ctx X w0 w (own e ETerm.sz u x.form.terms.length (ETerm.encs x.form.terms) :: own i (EI .i64).sz r x.second.degrees.length ((EI .i64).encs x.second.degrees) :: Tr.item (Tr.sl f (TrForm e)) x.second.images [s] g2
      :: own i (EI .i64).sz p x.first.degrees.length ((EI .i64).encs x.first.degrees) :: Tr.item (Tr.sl f (TrForm e)) x.first.images [q] g1 :: M) Ps := by
  obtain ⟨f1, f2, f3, a1, a2, a3, s1, s2, s3, d12, d13, d23⟩ := desk_split (h.m _ (List.mem_cons_self ..))
  have k1 := h.split3 (a := Tr.item (TrAlg i e f) x.first [p, q] f1) (b := Tr.item (TrAlg i e f) x.second [r, s] f2) (d := Tr.item (TrForm e) x.form [u] f3) s1 s2 s3 ⟨a1, a2, a3, d12, d13, d23⟩
  have k2 := k1.perm (List.Perm.swap _ _ _)
  obtain ⟨g2, b1, b2, t1, t2, t3⟩ := alg_split a2
  have k3 := k2.split (a := own i (EI .i64).sz r x.second.degrees.length ((EI .i64).encs x.second.degrees)) (b := Tr.item (Tr.sl f (TrForm e)) x.second.images [s] g2) t1 t2 ⟨b1, b2, t3⟩
  have k4 := k3.perm ((List.perm_append_comm (l₁ := [own i (EI .i64).sz r x.second.degrees.length ((EI .i64).encs x.second.degrees), Tr.item (Tr.sl f (TrForm e)) x.second.images [s] g2]) (l₂ := [Tr.item (TrAlg i e f) x.first [p, q] f1, Tr.item (TrForm e) x.form [u] f3])).append_right M)
  obtain ⟨g1, c1, c2, z1, z2, z3⟩ := alg_split a1
  have k5 := Ctx.split (a := own i (EI .i64).sz p x.first.degrees.length ((EI .i64).encs x.first.degrees)) (b := Tr.item (Tr.sl f (TrForm e)) x.first.images [q] g1) k4 z1 z2 ⟨c1, c2, z3⟩
  have k6 := k5.perm ((List.perm_append_comm (l₁ := [own i (EI .i64).sz p x.first.degrees.length ((EI .i64).encs x.first.degrees), Tr.item (Tr.sl f (TrForm e)) x.first.images [q] g1]) (l₂ := [Tr.item (TrForm e) x.form [u] f3, own i (EI .i64).sz r x.second.degrees.length ((EI .i64).encs x.second.degrees), Tr.item (Tr.sl f (TrForm e)) x.second.images [s] g2])).append_right M)
  obtain ⟨o1, o2⟩ := form_split a3
  subst o2
  exact ⟨g1, g2, Ctx.recast (c := own e ETerm.sz u x.form.terms.length (ETerm.encs x.form.terms)) k6 (fun _ h_ => h_) (fun _ => o1)⟩
end Vc
