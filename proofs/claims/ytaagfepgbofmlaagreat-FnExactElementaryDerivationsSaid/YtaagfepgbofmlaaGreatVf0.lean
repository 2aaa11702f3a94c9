/- Forms as coefficients: two sorted lists of terms without zeros that have the same coefficients are one list. -/
import Derived.Test.YtaagfepgbofmlaaGreatVp0
set_option linter.unusedVariables false
set_option linter.unusedSimpArgs false
namespace Vc
open Go
theorem lcmp_zero : ∀ (xs ys : List Int), xs.length = ys.length → lcmp xs ys = 0 → xs = ys
  | [], [], _, _ => rfl
  | x :: xs, y :: ys, h, h0 => by
    simp only [lcmp] at h0
    split at h0
    · omega
    · rename_i he
      have he : x = y := Decidable.not_not.1 he
      rw [he, lcmp_zero xs ys (by simpa using h) h0]
  | [], _ :: _, h, _ => by simp at h
  | _ :: _, [], h, _ => by simp at h
theorem lcmp_neg : ∀ (xs ys : List Int), lcmp xs ys = - lcmp ys xs
  | [], [] => rfl
  | x :: xs, y :: ys => by
    simp only [lcmp]
    have := lcmp_neg xs ys
    split <;> split <;> omega
  | [], _ :: _ => rfl
  | _ :: _, [] => rfl
theorem A8.list_inj {a b : A8} (h : a.list = b.list) : a = b := by
  cases a; cases b
  simpa [A8.list] using h
theorem pcmp_self (a : A8) : pcmp a a = 0 := lcmp_self _
theorem pcmp_neg (a b : A8) : pcmp a b = - pcmp b a := lcmp_neg _ _
theorem pcmp_trans {a b c : A8} (h1 : pcmp a b < 0) (h2 : pcmp b c < 0) : pcmp a c < 0 := lcmp_trans a.list b.list c.list rfl rfl h1 h2
theorem pcmp_eq {a b : A8} (h1 : ¬ pcmp a b < 0) (h2 : ¬ pcmp b a < 0) : a = b :=
  A8.list_inj (lcmp_zero _ _ rfl (by have := pcmp_neg a b; unfold pcmp at *; omega))
theorem pcmp_ne {a b : A8} (h : pcmp a b < 0) : a ≠ b := by rintro rfl; rw [pcmp_self] at h; omega
theorem pcmp_ne' {a b : A8} (h : pcmp a b < 0) : b ≠ a := fun e => pcmp_ne h e.symm
theorem pcmp_asym {a b : A8} (h : pcmp a b < 0) : ¬ pcmp b a < 0 := by have := pcmp_neg a b; omega
/-! ### Sums over lists -/
def tot {α : Type} (f : α → Int) : List α → Int
  | [] => 0
  | a :: l => f a + tot f l
theorem tot_append {α : Type} (f : α → Int) (l k : List α) : tot f (l ++ k) = tot f l + tot f k := by
  induction l with
  | nil => simp [tot]
  | cons a l ih => simp only [List.cons_append, tot, ih]; omega
theorem tot_perm {α : Type} (f : α → Int) {l k : List α} (h : l.Perm k) : tot f l = tot f k := by
  induction h with
  | nil => rfl
  | cons x _ ih => simp only [tot, ih]
  | swap x y l => simp only [tot]; omega
  | trans _ _ h1 h2 => exact h1.trans h2
theorem tot_map {α β : Type} (f : β → Int) (g : α → β) (l : List α) : tot f (l.map g) = tot (fun a => f (g a)) l := by
  induction l with
  | nil => rfl
  | cons a l ih => simp only [List.map_cons, tot, ih]
theorem tot_congr {α : Type} {f g : α → Int} {l : List α} (h : ∀ a, a ∈ l → f a = g a) : tot f l = tot g l := by
  induction l with
  | nil => rfl
  | cons a l ih => simp only [tot]; rw [h a (by simp), ih fun b hb => h b (by simp [hb])]
theorem tot_add {α : Type} (f g : α → Int) (l : List α) : tot (fun a => f a + g a) l = tot f l + tot g l := by
  induction l with
  | nil => simp [tot]
  | cons a l ih => simp only [tot, ih]; omega
theorem tot_zero {α : Type} {f : α → Int} {l : List α} (h : ∀ a, a ∈ l → f a = 0) : tot f l = 0 := by
  induction l with
  | nil => rfl
  | cons a l ih => simp only [tot]; rw [h a (by simp), ih fun b hb => h b (by simp [hb])]; rfl
theorem tot_emod {α : Type} {f g : α → Int} {l : List α} (h : ∀ a, a ∈ l → f a % 10007 = g a % 10007) : tot f l % 10007 = tot g l % 10007 := by
  induction l with
  | nil => rfl
  | cons a l ih =>
    have h1 := h a (by simp)
    have h2 := ih fun b hb => h b (by simp [hb])
    simp only [tot]; omega
/-- The coefficient at m: of a map, and of terms. -/
def co (l : List (A8 × Int)) (m : A8) : Int := tot (fun p => if p.1 = m then p.2 else 0) l
def coT (l : List Term) (m : A8) : Int := tot (fun t => if t.mono = m then t.factor else 0) l
theorem co_cons (p : A8 × Int) (l : List (A8 × Int)) (m : A8) : co (p :: l) m = (if p.1 = m then p.2 else 0) + co l m := rfl
theorem coT_cons (t : Term) (l : List Term) (m : A8) : coT (t :: l) m = (if t.mono = m then t.factor else 0) + coT l m := rfl
theorem coT_nil (m : A8) : coT [] m = 0 := rfl
theorem co_nil (m : A8) : co [] m = 0 := rfl
theorem coT_snoc (l : List Term) (t : Term) (m : A8) : coT (l ++ [t]) m = coT l m + (if t.mono = m then t.factor else 0) := by
  rw [coT, tot_append]; simp [tot, coT]
theorem coT_zero {l : List Term} {m : A8} (h : ∀ t, t ∈ l → t.mono ≠ m) : coT l m = 0 := tot_zero fun t ht => if_neg (h t ht)
theorem co_zero {l : List (A8 × Int)} {m : A8} (h : ∀ t, t ∈ l → t.1 ≠ m) : co l m = 0 := tot_zero fun t ht => if_neg (h t ht)
/-- Sorted, without zeros. -/
def Canon (l : List Term) : Prop := l.Pairwise (fun a b => pcmp a.mono b.mono < 0) ∧ ∀ t, t ∈ l → 1 ≤ t.factor ∧ t.factor ≤ 10006
theorem Canon.nil : Canon [] := ⟨List.Pairwise.nil, by simp⟩
theorem Canon.tail {t : Term} {l : List Term} (h : Canon (t :: l)) : Canon l := ⟨(List.pairwise_cons.1 h.1).2, fun s hs => h.2 s (by simp [hs])⟩
theorem Canon.head {t : Term} {l : List Term} (h : Canon (t :: l)) : ∀ s, s ∈ l → pcmp t.mono s.mono < 0 := (List.pairwise_cons.1 h.1).1
theorem Canon.snoc {l : List Term} {t : Term} (h : Canon l) (hl : ∀ s, s ∈ l → pcmp s.mono t.mono < 0) (hf : 1 ≤ t.factor ∧ t.factor ≤ 10006) : Canon (l ++ [t]) := by
  refine ⟨List.pairwise_append.2 ⟨h.1, by simp, fun a ha b hb => ?_⟩, fun s hs => ?_⟩
  · obtain rfl : b = t := by simpa using hb
    exact hl a ha
  · rcases List.mem_append.1 hs with q | q
    · exact h.2 s q
    · obtain rfl : s = t := by simpa using q
      exact hf
theorem Canon.at_head {t : Term} {l : List Term} (h : Canon (t :: l)) : coT (t :: l) t.mono = t.factor := by
  rw [coT_cons, if_pos rfl, coT_zero fun s hs => pcmp_ne' (h.head s hs), Int.add_zero]
theorem Canon.range {l : List Term} (h : Canon l) (m : A8) : 0 ≤ coT l m ∧ coT l m ≤ 10006 := by
  induction l with
  | nil => simp [coT_nil]
  | cons t l ih =>
    by_cases hm : t.mono = m
    · subst hm
      rw [h.at_head]
      have := h.2 t (by simp)
      omega
    · rw [coT_cons, if_neg hm, Int.zero_add]
      exact ih h.tail
theorem canon_ext : ∀ (A B : List Term), Canon A → Canon B → (∀ m, coT A m = coT B m) → A = B
  | [], [], _, _, _ => rfl
  | [], b :: B, _, hB, h => by
    have := h b.mono
    rw [hB.at_head, coT_nil] at this
    have := hB.2 b (by simp)
    omega
  | a :: A, [], hA, _, h => by
    have := h a.mono
    rw [hA.at_head, coT_nil] at this
    have := hA.2 a (by simp)
    omega
  | a :: A, b :: B, hA, hB, h => by
    have ha := hA.2 a (by simp)
    have hb := hB.2 b (by simp)
    by_cases h1 : pcmp a.mono b.mono < 0
    · exfalso
      have := h a.mono
      rw [hA.at_head, coT_zero (l := b :: B)] at this
      · omega
      · intro t ht
        rcases List.mem_cons.1 ht with rfl | ht
        · exact pcmp_ne' h1
        · exact pcmp_ne' (pcmp_trans h1 (hB.head t ht))
    · by_cases h2 : pcmp b.mono a.mono < 0
      · exfalso
        have := h b.mono
        rw [hB.at_head, coT_zero (l := a :: A)] at this
        · omega
        · intro t ht
          rcases List.mem_cons.1 ht with rfl | ht
          · exact pcmp_ne' h2
          · exact pcmp_ne' (pcmp_trans h2 (hA.head t ht))
      · have hm : a.mono = b.mono := pcmp_eq h1 h2
        have hf : a.factor = b.factor := by
          have := h a.mono
          rw [hA.at_head, hm, hB.at_head] at this; exact this
        have hab : a = b := by cases a; cases b; simp only at hm hf; rw [hm, hf]
        subst hab
        rw [canon_ext A B hA.tail hB.tail fun m => ?_]
        have := h m
        rw [coT_cons, coT_cons] at this
        omega
theorem canon_mod {A B : List Term} (hA : Canon A) (hB : Canon B) (h : ∀ m, coT A m % 10007 = coT B m % 10007) : A = B :=
  canon_ext A B hA hB fun m => by have := h m; have := hA.range m; have := hB.range m; omega
/-! ### Numbers of the field -/
theorem tmod_bd (x : Int) : -10007 < Int.tmod x 10007 ∧ Int.tmod x 10007 < 10007 := by
  rcases Int.le_total 0 x with h | h
  · rw [Int.tmod_eq_emod_of_nonneg h]; omega
  · have e : Int.tmod x 10007 = - Int.tmod (-x) 10007 := by rw [Int.neg_tmod]; omega
    rw [e, Int.tmod_eq_emod_of_nonneg (by omega)]; omega
theorem field_eq (x : Int) : Int.tmod (Int.tmod x 10007 + 10007) 10007 = x % 10007 := by
  have h1 := tmod_bd x
  rw [Int.tmod_eq_emod_of_nonneg (by omega)]
  have h2 : x = 10007 * Int.tdiv x 10007 + Int.tmod x 10007 := (Int.mul_tdiv_add_tmod x 10007).symm
  omega
theorem tmod_emod (x : Int) : Int.tmod x 10007 % 10007 = x % 10007 := by
  have h2 : x = 10007 * Int.tdiv x 10007 + Int.tmod x 10007 := (Int.mul_tdiv_add_tmod x 10007).symm
  omega
theorem p_prime {d e : Nat} (h : d * e = 10007) : d = 1 ∨ e = 1 := by
  have key : ∀ k, k < 101 → k ∣ 10007 → k ≤ 1 := by decide
  by_cases hd : d < 101
  · left
    have := key d hd ⟨e, h.symm⟩
    rcases Nat.eq_zero_or_pos d with rfl | q
    · simp at h
    · omega
  · by_cases he : e < 101
    · right
      have := key e he ⟨d, by rw [Nat.mul_comm]; exact h.symm⟩
      rcases Nat.eq_zero_or_pos e with rfl | q
      · simp at h
      · omega
    · exfalso
      have : 101 * 101 ≤ d * e := Nat.mul_le_mul (by omega) (by omega)
      omega
theorem p_coprime {a : Nat} (h1 : 1 ≤ a) (h2 : a ≤ 10006) : Nat.Coprime 10007 a := by
  obtain ⟨e, he⟩ := Nat.gcd_dvd_left 10007 a
  rcases p_prime he.symm with q | q
  · exact q
  · exfalso
    rw [q, Nat.mul_one] at he
    have := Nat.le_of_dvd (by omega) (Nat.gcd_dvd_right 10007 a)
    omega
theorem mul_nz {a b : Int} (ha : 1 ≤ a ∧ a ≤ 10006) (hb : 1 ≤ b ∧ b ≤ 10006) : (a * b) % 10007 ≠ 0 := by
  obtain ⟨x, rfl⟩ := Int.eq_ofNat_of_zero_le (show 0 ≤ a by omega)
  obtain ⟨y, rfl⟩ := Int.eq_ofNat_of_zero_le (show 0 ≤ b by omega)
  intro h
  have h : (x * y) % 10007 = 0 := by
    have e : ((x : Int) * (y : Int)) = ((x * y : Nat) : Int) := (Int.natCast_mul x y).symm
    rw [e] at h; omega
  have := (p_coprime (a := x) (by omega) (by omega)).dvd_of_dvd_mul_left (Nat.dvd_of_mod_eq_zero h)
  have := Nat.le_of_dvd (by omega) this
  omega
theorem sgn_nz {s a b : Int} (hs : s = 1 ∨ s = -1) (ha : 1 ≤ a ∧ a ≤ 10006) (hb : 1 ≤ b ∧ b ≤ 10006) : 1 ≤ (s * (a * b)) % 10007 ∧ (s * (a * b)) % 10007 ≤ 10006 := by
  have := mul_nz ha hb
  rcases hs with rfl | rfl <;> omega
/-! ### Products with a monomial keep the order -/
theorem lcmp_shift : ∀ (a x y : List Int), a.length = x.length → x.length = y.length → lcmp (List.zipWith (· + ·) a x) (List.zipWith (· + ·) a y) = lcmp x y
  | [], [], [], _, _ => rfl
  | a :: ar, x :: xs, y :: ys, h1, h2 => by
    simp only [List.zipWith_cons_cons, lcmp]
    have := lcmp_shift ar xs ys (by simpa using h1) (by simpa using h2)
    by_cases h : x = y
    · subst h; simpa using this
    · rw [if_pos (by omega), if_pos h]; omega
  | [], _ :: _, _, h, _ => by simp at h
  | _ :: _, [], _, h, _ => by simp at h
  | _ :: _, _ :: _, [], _, h => by simp at h
  | [], [], _ :: _, _, h => by simp at h
theorem pcmp_add (a x y : A8) : pcmp (a.add x) (a.add y) = pcmp x y := lcmp_shift a.list x.list y.list rfl rfl
theorem take_getD {α : Type} [Inhabited α] {l : List α} {i : Nat} (h : i < l.length) : l.take (i + 1) = l.take i ++ [l.getD i default] := by
  rw [List.take_add_one]; simp [List.getD, h]
theorem Canon.at_lt {l : List Term} (h : Canon l) {i j : Nat} (hij : i < j) (hj : j < l.length) : pcmp (l.getD i default).mono (l.getD j default).mono < 0 := by
  have := (List.pairwise_iff_getElem.1 h.1) i j (by omega) hj hij
  simpa [List.getD, hj, show i < l.length by omega] using this
theorem Canon.at_range {l : List Term} (h : Canon l) {i : Nat} (hi : i < l.length) : 1 ≤ (l.getD i default).factor ∧ (l.getD i default).factor ≤ 10006 := h.2 _ (by simp [List.getD, hi])
theorem getD_mem {α : Type} [Inhabited α] {l : List α} {i : Nat} (h : i < l.length) : l.getD i default ∈ l := by simp [List.getD, h]
/-- f plus k times g, so far. -/
structure AddI (f g : List Term) (k : Int) (out : List Term) (i j : Nat) : Prop where
  hi : i ≤ f.length
  hj : j ≤ g.length
  can : Canon out
  cf : ∀ m, coT out m % 10007 = (coT (f.take i) m + k * coT (g.take j) m) % 10007
  bf : ∀ x, x ∈ out → i < f.length → pcmp x.mono (f.getD i default).mono < 0
  bg : ∀ x, x ∈ out → j < g.length → pcmp x.mono (g.getD j default).mono < 0
  mo : ∀ x, x ∈ out → ∃ y, (y ∈ f ∨ y ∈ g) ∧ y.mono = x.mono
  ln : out.length ≤ i + j
theorem AddI.zero (f g : List Term) (k : Int) : AddI f g k [] 0 0 :=
  ⟨by omega, by omega, Canon.nil, by intro m; simp [coT_nil], by simp, by simp, by simp, by simp⟩
theorem mem_snoc {α : Type} {l : List α} {t x : α} (h : x ∈ l ++ [t]) : x ∈ l ∨ x = t := by simpa using h
theorem AddI.stepF {f g : List Term} {k : Int} {out : List Term} {i j : Nat} (h : AddI f g k out i j) (cf : Canon f) (cg : Canon g) (hi : i < f.length) (hb : j < g.length → pcmp (f.getD i default).mono (g.getD j default).mono < 0) :
    AddI f g k (out ++ [f.getD i default]) (i + 1) j where
  hi := hi
  hj := h.hj
  can := h.can.snoc (fun s hs => h.bf s hs hi) (cf.at_range hi)
  cf m := by
    have := h.cf m
    rw [coT_snoc, take_getD hi, coT_snoc]
    omega
  bf x hx hl := by
    rcases mem_snoc hx with q | rfl
    · exact pcmp_trans (h.bf x q hi) (cf.at_lt (by omega) hl)
    · exact cf.at_lt (by omega) hl
  bg x hx hl := by
    rcases mem_snoc hx with q | rfl
    · exact h.bg x q hl
    · exact hb hl
  mo x hx := by
    rcases mem_snoc hx with q | rfl
    · exact h.mo x q
    · exact ⟨_, .inl (getD_mem hi), rfl⟩
  ln := by have := h.ln; simp; omega
theorem AddI.cfG {f g : List Term} {k : Int} {out : List Term} {i j : Nat} (h : AddI f g k out i j) (hj : j < g.length) (m : A8) :
    k * coT (g.take (j + 1)) m = k * coT (g.take j) m + (if (g.getD j default).mono = m then k * (g.getD j default).factor else 0) := by
  rw [take_getD hj, coT_snoc, Int.mul_add]
  split <;> simp
theorem AddI.stepG0 {f g : List Term} {k : Int} {out : List Term} {i j : Nat} (h : AddI f g k out i j) (cf : Canon f) (cg : Canon g) (hj : j < g.length)
    (hz : (k * (g.getD j default).factor) % 10007 = 0) : AddI f g k out i (j + 1) where
  hi := h.hi
  hj := hj
  can := h.can
  cf m := by
    have := h.cf m
    rw [h.cfG hj m]
    split <;> omega
  bf := h.bf
  bg x hx hl := pcmp_trans (h.bg x hx hj) (cg.at_lt (by omega) hl)
  mo := h.mo
  ln := by have := h.ln; omega
theorem AddI.stepG1 {f g : List Term} {k : Int} {out : List Term} {i j : Nat} (h : AddI f g k out i j) (cf : Canon f) (cg : Canon g) (hj : j < g.length) (hb : i < f.length → pcmp (g.getD j default).mono (f.getD i default).mono < 0)
    {v : Int} (hv : v = (k * (g.getD j default).factor) % 10007) (hz : v ≠ 0) : AddI f g k (out ++ [⟨(g.getD j default).mono, v⟩]) i (j + 1) where
  hi := h.hi
  hj := hj
  can := h.can.snoc (fun s hs => h.bg s hs hj) (by dsimp only; omega)
  cf m := by
    have := h.cf m
    rw [h.cfG hj m, coT_snoc]
    dsimp only
    split <;> omega
  bf x hx hl := by
    rcases mem_snoc hx with q | rfl
    · exact h.bf x q hl
    · exact hb hl
  bg x hx hl := by
    rcases mem_snoc hx with q | rfl
    · exact pcmp_trans (h.bg x q hj) (cg.at_lt (by omega) hl)
    · exact cg.at_lt (by omega) hl
  mo x hx := by
    rcases mem_snoc hx with q | rfl
    · exact h.mo x q
    · exact ⟨_, .inr (getD_mem hj), rfl⟩
  ln := by have := h.ln; simp; omega
theorem AddI.stepB0 {f g : List Term} {k : Int} {out : List Term} {i j : Nat} (h : AddI f g k out i j) (cf : Canon f) (cg : Canon g) (hi : i < f.length) (hj : j < g.length) (he : (f.getD i default).mono = (g.getD j default).mono)
    (hz : ((f.getD i default).factor + k * (g.getD j default).factor) % 10007 = 0) : AddI f g k out (i + 1) (j + 1) where
  hi := hi
  hj := hj
  can := h.can
  cf m := by
    have := h.cf m
    rw [h.cfG hj m, take_getD hi, coT_snoc, he]
    split <;> omega
  bf x hx hl := pcmp_trans (h.bf x hx hi) (cf.at_lt (by omega) hl)
  bg x hx hl := pcmp_trans (h.bg x hx hj) (cg.at_lt (by omega) hl)
  mo := h.mo
  ln := by have := h.ln; omega
theorem AddI.stepB1 {f g : List Term} {k : Int} {out : List Term} {i j : Nat} (h : AddI f g k out i j) (cf : Canon f) (cg : Canon g) (hi : i < f.length) (hj : j < g.length) (he : (f.getD i default).mono = (g.getD j default).mono)
    {v : Int} (hv : v = ((f.getD i default).factor + k * (g.getD j default).factor) % 10007) (hz : v ≠ 0) : AddI f g k (out ++ [⟨(f.getD i default).mono, v⟩]) (i + 1) (j + 1) where
  hi := hi
  hj := hj
  can := h.can.snoc (fun s hs => h.bf s hs hi) (by dsimp only; omega)
  cf m := by
    have := h.cf m
    rw [h.cfG hj m, take_getD hi, coT_snoc, coT_snoc, he]
    dsimp only
    split <;> omega
  bf x hx hl := by
    rcases mem_snoc hx with q | rfl
    · exact pcmp_trans (h.bf x q hi) (cf.at_lt (by omega) hl)
    · exact cf.at_lt (by omega) hl
  bg x hx hl := by
    rcases mem_snoc hx with q | rfl
    · exact pcmp_trans (h.bg x q hj) (cg.at_lt (by omega) hl)
    · dsimp only; rw [he]; exact cg.at_lt (by omega) hl
  mo x hx := by
    rcases mem_snoc hx with q | rfl
    · exact h.mo x q
    · exact ⟨_, .inl (getD_mem hi), rfl⟩
  ln := by have := h.ln; simp; omega
/-- What f plus k times g is. -/
structure IsAdd (f g : List Term) (k : Int) (out : List Term) : Prop where
  can : Canon out
  cf : ∀ m, coT out m % 10007 = (coT f m + k * coT g m) % 10007
  mo : ∀ x, x ∈ out → ∃ y, (y ∈ f ∨ y ∈ g) ∧ y.mono = x.mono
  ln : out.length ≤ f.length + g.length
theorem AddI.done {f g : List Term} {k : Int} {out : List Term} {i j : Nat} (h : AddI f g k out i j) (hi : ¬ i < f.length) (hj : ¬ j < g.length) : IsAdd f g k out where
  can := h.can
  cf m := by have := h.cf m; rwa [List.take_of_length_le (by omega), List.take_of_length_le (by omega)] at this
  mo := h.mo
  ln := by have := h.ln; have := h.hi; have := h.hj; omega
/-- A term times a form. -/
def pr1 (ds : List Int) (a : A8) (n : Int) (b : A8) (m' : Int) (m : A8) : Int := if (joined ds a b).1 = m then (joined ds a b).2 * (n * m') else 0
def shC (ds : List Int) (t : Term) (g : List Term) (m : A8) : Int := tot (fun u => pr1 ds t.mono t.factor u.mono u.factor m) g
def prC (ds : List Int) (f g : List Term) (m : A8) : Int := tot (fun t => shC ds t g m) f
structure IsShift (ds : List Int) (t : Term) (g out : List Term) : Prop where
  can : Canon out
  cf : ∀ m, coT out m % 10007 = shC ds t g m % 10007
  mo : ∀ x, x ∈ out → ∃ u, u ∈ g ∧ x.mono = t.mono.add u.mono ∧ ¬ Clash ds t.mono u.mono
  ln : out.length ≤ g.length
theorem IsShift.nil (ds : List Int) (t : Term) : IsShift ds t [] [] := ⟨Canon.nil, by intro m; rfl, by simp, by simp⟩
theorem shC_snoc (ds : List Int) (t : Term) (g : List Term) (u : Term) (m : A8) : shC ds t (g ++ [u]) m = shC ds t g m + pr1 ds t.mono t.factor u.mono u.factor m := by
  rw [shC, tot_append]; simp [tot, shC]
theorem Canon.init {l : List Term} {u : Term} (h : Canon (l ++ [u])) : Canon l ∧ ∀ s, s ∈ l → pcmp s.mono u.mono < 0 := by
  have := List.pairwise_append.1 h.1
  exact ⟨⟨this.1, fun s hs => h.2 s (by simp [hs])⟩, fun s hs => this.2.2 s hs u (by simp)⟩
theorem IsShift.skip {ds : List Int} {t : Term} {g out : List Term} {u : Term} (h : IsShift ds t g out) (hs : (joined ds t.mono u.mono).2 = 0) : IsShift ds t (g ++ [u]) out where
  can := h.can
  cf m := by
    have := h.cf m
    rw [shC_snoc, pr1, hs]
    split <;> simp [this]
  mo x hx := by
    obtain ⟨u', hu, he⟩ := h.mo x hx
    exact ⟨u', by simp [hu], he⟩
  ln := by have := h.ln; simp; omega
theorem joined_nz {ds : List Int} {a b : A8} (h : (joined ds a b).2 ≠ 0) : ¬ Clash ds a b ∧ (joined ds a b).1 = a.add b ∧ ((joined ds a b).2 = 1 ∨ (joined ds a b).2 = -1) := by
  have hc : ¬ Clash ds a b := fun q => h (by simp [joined, q])
  refine ⟨hc, by simp [joined, hc], ?_⟩
  simp only [joined, hc, if_false]
  exact sg_pm _
theorem IsShift.put {ds : List Int} {t : Term} {g out : List Term} {u : Term} (h : IsShift ds t g out) (cg : Canon (g ++ [u])) (ht : 1 ≤ t.factor ∧ t.factor ≤ 10006) (hs : (joined ds t.mono u.mono).2 ≠ 0) {v : Int} (hv : v = ((joined ds t.mono u.mono).2 * (t.factor * u.factor)) % 10007) :
    IsShift ds t (g ++ [u]) (out ++ [⟨(joined ds t.mono u.mono).1, v⟩]) := by
  obtain ⟨hc, he, hsg⟩ := joined_nz hs
  have hu := cg.2 u (by simp)
  have hnz := sgn_nz hsg ht hu
  refine ⟨h.can.snoc (fun s hs' => ?_) (by dsimp only; omega), fun m => ?_, fun x hx => ?_, by have := h.ln; simp; omega⟩
  · obtain ⟨u', hu', he', _⟩ := h.mo s hs'
    dsimp only
    rw [he, he', pcmp_add]
    exact cg.init.2 u' hu'
  · have := h.cf m
    rw [coT_snoc, shC_snoc, pr1]
    dsimp only
    split <;> omega
  · rcases mem_snoc hx with q | rfl
    · obtain ⟨u', hu', he'⟩ := h.mo x q
      exact ⟨u', by simp [hu'], he'⟩
    · exact ⟨u, by simp, he, hc⟩
/-- A product so far. -/
structure IsProd (ds : List Int) (f g out : List Term) : Prop where
  can : Canon out
  cf : ∀ m, coT out m % 10007 = prC ds f g m % 10007
  mo : ∀ x, x ∈ out → ∃ t u, t ∈ f ∧ u ∈ g ∧ x.mono = t.mono.add u.mono ∧ ¬ Clash ds t.mono u.mono
  ln : out.length ≤ f.length * g.length
theorem IsProd.nil (ds : List Int) (g : List Term) : IsProd ds [] g [] := ⟨Canon.nil, by intro m; rfl, by simp, by simp⟩
theorem IsProd.step {ds : List Int} {f g out sh out' : List Term} {t : Term} (h : IsProd ds f g out) (hs : IsShift ds t g sh) (ha : IsAdd out sh 1 out') : IsProd ds (f ++ [t]) g out' where
  can := ha.can
  cf m := by
    have h1 := h.cf m
    have h2 := hs.cf m
    have h3 := ha.cf m
    rw [prC, tot_append]
    simp only [tot]
    unfold prC at h1
    omega
  mo x hx := by
    obtain ⟨y, hy | hy, he⟩ := ha.mo x hx
    · obtain ⟨a, u, h1, h2, h3, h4⟩ := h.mo y hy
      exact ⟨a, u, by simp [h1], h2, he ▸ h3, h4⟩
    · obtain ⟨u, h2, h3, h4⟩ := hs.mo y hy
      exact ⟨t, u, by simp, h2, he ▸ h3, h4⟩
  ln := by
    have h1 := h.ln
    have h2 := hs.ln
    have h3 := ha.ln
    have : (f ++ [t]).length * g.length = f.length * g.length + g.length := by simp [Nat.add_mul]
    omega
/-! ### Maps -/
def MapOk (l : List (A8 × Int)) : Prop := (l.map Prod.fst).Nodup ∧ ∀ p, p ∈ l → 1 ≤ p.2 ∧ p.2 ≤ 10006
theorem MapOk.nil : MapOk [] := ⟨by simp, by simp⟩
theorem mget_co {l : List (A8 × Int)} (h : (l.map Prod.fst).Nodup) (m : A8) : (mget l m).getD 0 = co l m := by
  induction l with
  | nil => rfl
  | cons p l ih =>
    simp only [List.map_cons, List.nodup_cons] at h
    simp only [mget, co_cons]
    by_cases hm : m = p.1
    · subst hm
      rw [if_pos rfl, if_pos rfl, co_zero]
      · simp
      · intro t ht e
        exact h.1 (List.mem_map.2 ⟨t, ht, e⟩)
    · rw [if_neg hm, if_neg (fun e => hm e.symm), ih h.2, Int.zero_add]
theorem co_mset {l : List (A8 × Int)} (h : (l.map Prod.fst).Nodup) (x : A8) (v : Int) (m : A8) : co (mset l x v) m = if m = x then v else co l m := by
  induction l with
  | nil => simp only [mset, co_cons, co_nil]; by_cases hm : m = x
           · subst hm; simp
           · rw [if_neg (fun e => hm e.symm), if_neg hm]; rfl
  | cons p l ih =>
    simp only [List.map_cons, List.nodup_cons] at h
    simp only [mset]
    split
    · rename_i hx
      rw [co_cons, co_cons]
      dsimp only
      by_cases hm : m = x
      · subst hm
        rw [if_pos rfl, if_pos rfl, co_zero]
        · simp
        · intro t ht e
          exact h.1 (List.mem_map.2 ⟨t, ht, by rw [e, hx]⟩)
      · rw [if_neg (fun e => hm e.symm), if_neg hm, if_neg (fun e => hm (by rw [hx, e]))]
    · rename_i hx
      rw [co_cons, co_cons, ih h.2]
      by_cases hm : m = x
      · subst hm; rw [if_pos rfl, if_pos rfl, if_neg (fun e => hx e.symm)]; simp
      · rw [if_neg hm, if_neg hm]
theorem co_mdel {l : List (A8 × Int)} (h : (l.map Prod.fst).Nodup) (x : A8) (m : A8) : co (mdel l x) m = if m = x then 0 else co l m := by
  induction l with
  | nil => simp [mdel, co_nil]
  | cons p l ih =>
    simp only [List.map_cons, List.nodup_cons] at h
    simp only [mdel]
    split
    · rename_i hx
      rw [co_cons]
      by_cases hm : m = x
      · subst hm
        rw [if_pos rfl, co_zero]
        intro t ht e
        exact h.1 (List.mem_map.2 ⟨t, ht, by rw [e, hx]⟩)
      · rw [if_neg hm, if_neg (fun e => hm (by rw [hx, e]))]; simp
    · rename_i hx
      rw [co_cons, co_cons, ih h.2]
      by_cases hm : m = x
      · subst hm; rw [if_pos rfl, if_pos rfl, if_neg (fun e => hx e.symm)]; rfl
      · rw [if_neg hm, if_neg hm]
theorem mdel_mem {l : List (A8 × Int)} {x : A8} {p : A8 × Int} (h : p ∈ mdel l x) : p ∈ l := by
  induction l with
  | nil => simp [mdel] at h
  | cons q l ih =>
    simp only [mdel] at h
    split at h
    · simp [h]
    · rcases List.mem_cons.1 h with rfl | h
      · simp
      · simp [ih h]
theorem mdel_nodup {l : List (A8 × Int)} (x : A8) (h : (l.map Prod.fst).Nodup) : ((mdel l x).map Prod.fst).Nodup := by
  induction l with
  | nil => simp [mdel]
  | cons q l ih =>
    simp only [List.map_cons, List.nodup_cons] at h
    simp only [mdel]
    split
    · exact h.2
    · simp only [List.map_cons, List.nodup_cons]
      refine ⟨fun hq => h.1 ?_, ih h.2⟩
      obtain ⟨p, hp, he⟩ := List.mem_map.1 hq
      exact List.mem_map.2 ⟨p, mdel_mem hp, he⟩
theorem mset_mem {l : List (A8 × Int)} {x : A8} {v : Int} {p : A8 × Int} (h : p ∈ mset l x v) : p = (x, v) ∨ p ∈ l := by
  induction l with
  | nil => left; simpa [mset] using h
  | cons q l ih =>
    simp only [mset] at h
    split at h
    · rcases List.mem_cons.1 h with rfl | h
      · exact .inl rfl
      · exact .inr (by simp [h])
    · rcases List.mem_cons.1 h with rfl | h
      · exact .inr (by simp)
      · rcases ih h with e | e
        · exact .inl e
        · exact .inr (by simp [e])
theorem mset_len (l : List (A8 × Int)) (x : A8) (v : Int) : (mset l x v).length ≤ l.length + 1 := by
  induction l with
  | nil => simp [mset]
  | cons q l ih => simp only [mset]; split <;> simp; omega
theorem mdel_len (l : List (A8 × Int)) (x : A8) : (mdel l x).length ≤ l.length := by
  induction l with
  | nil => simp [mdel]
  | cons q l ih => simp only [mdel]; split <;> simp; omega
theorem MapOk.put {l : List (A8 × Int)} (h : MapOk l) {x : A8} {v : Int} (hv : 1 ≤ v ∧ v ≤ 10006) : MapOk (mset l x v) :=
  ⟨mset_fst h.1, fun p hp => by rcases mset_mem hp with rfl | q; exact hv; exact h.2 p q⟩
theorem MapOk.del {l : List (A8 × Int)} (h : MapOk l) (x : A8) : MapOk (mdel l x) := ⟨mdel_nodup x h.1, fun p hp => h.2 p (mdel_mem hp)⟩
theorem MapOk.range {l : List (A8 × Int)} (h : MapOk l) (m : A8) : 0 ≤ co l m ∧ co l m ≤ 10006 := by
  rw [← mget_co h.1]
  cases hg : mget l m with
  | none => simp
  | some v =>
    have : (m, v) ∈ l := by
      clear h
      induction l with
      | nil => simp [mget] at hg
      | cons p l ih =>
        simp only [mget] at hg
        split at hg
        · rename_i e; injection hg with e2; subst e2; subst e; simp
        · simp [ih hg]
    have := h.2 _ this
    simp only [Option.getD_some]
    dsimp only at this
    omega
/-- What sum.add leaves. -/
structure IsPut (l : List (A8 × Int)) (x : A8) (c : Int) (l' : List (A8 × Int)) : Prop where
  ok : MapOk l'
  cf : ∀ m, co l' m % 10007 = (co l m + if x = m then c else 0) % 10007
  ks : ∀ p, p ∈ l' → p.1 = x ∨ ∃ q, q ∈ l ∧ q.1 = p.1
  ln : l'.length ≤ l.length + 1
theorem IsPut.put {l : List (A8 × Int)} (h : MapOk l) {x : A8} {c v : Int} (hv : v = (co l x + c) % 10007) (hz : v ≠ 0) : IsPut l x c (mset l x v) where
  ok := h.put (by omega)
  cf m := by
    rw [co_mset h.1]
    by_cases hm : m = x
    · subst hm; rw [if_pos rfl, if_pos rfl]; omega
    · rw [if_neg hm, if_neg (fun e => hm e.symm)]; simp
  ks p hp := by
    rcases mset_mem hp with rfl | q
    · exact .inl rfl
    · exact .inr ⟨p, q, rfl⟩
  ln := mset_len _ _ _
theorem IsPut.del {l : List (A8 × Int)} (h : MapOk l) {x : A8} {c : Int} (hz : (co l x + c) % 10007 = 0) : IsPut l x c (mdel l x) where
  ok := h.del x
  cf m := by
    rw [co_mdel h.1]
    by_cases hm : m = x
    · subst hm; rw [if_pos rfl, if_pos rfl]; omega
    · rw [if_neg hm, if_neg (fun e => hm e.symm)]; simp
  ks p hp := .inr ⟨p, mdel_mem hp, rfl⟩
  ln := by have := mdel_len l x; omega
/-- A sorted reading of a map. -/
theorem canon_of_map {l : List (A8 × Int)} (h : MapOk l) {xs : List A8} (hp : xs.Perm (l.map Prod.fst)) (hw : xs.Pairwise (fun a b => ¬ pcmp b a < 0)) : Canon (xs.map fun x => ⟨x, (mget l x).getD 0⟩) ∧ ∀ m, coT (xs.map fun x => ⟨x, (mget l x).getD 0⟩) m = co l m := by
  have hnd : xs.Nodup := hp.nodup_iff.2 h.1
  have hmem : ∀ x, x ∈ xs → ∃ v, (x, v) ∈ l ∧ (mget l x).getD 0 = v := by
    intro x hx
    obtain ⟨p, hpl, rfl⟩ := List.mem_map.1 (hp.mem_iff.1 hx)
    refine ⟨p.2, hpl, ?_⟩
    rw [mget_co h.1]
    have h1 := h.1
    clear hp hx h
    induction l with
    | nil => simp at hpl
    | cons q l ih =>
      simp only [List.map_cons, List.nodup_cons] at h1
      rw [co_cons]
      rcases List.mem_cons.1 hpl with rfl | hpl
      · rw [if_pos rfl, co_zero]
        · simp
        · intro t ht e; exact h1.1 (List.mem_map.2 ⟨t, ht, e⟩)
      · rw [if_neg (fun e => h1.1 (List.mem_map.2 ⟨p, hpl, e.symm⟩)), ih hpl h1.2, Int.zero_add]
  refine ⟨⟨?_, fun t ht => ?_⟩, fun m => ?_⟩
  · rw [List.pairwise_map]
    have : xs.Pairwise (fun a b => a ≠ b) := hnd
    refine (hw.and this).imp fun {a b} hab => ?_
    by_cases q : pcmp a b < 0
    · exact q
    · exact absurd (pcmp_eq q hab.1) hab.2
  · obtain ⟨x, hx, rfl⟩ := List.mem_map.1 ht
    obtain ⟨v, hv, he⟩ := hmem x hx
    dsimp only
    rw [he]
    exact h.2 _ hv
  · rw [coT, tot_map]
    dsimp only
    rw [tot_perm _ hp, tot_map]
    refine tot_congr fun p hpl => ?_
    obtain ⟨v, hv, he⟩ := hmem p.1 (hp.mem_iff.2 (List.mem_map.2 ⟨p, hpl, rfl⟩))
    have : v = p.2 := by
      rw [← he, mget_co h.1]
      have h1 := h.1
      clear hp h hmem he hv
      induction l with
      | nil => simp at hpl
      | cons q l ih =>
        simp only [List.map_cons, List.nodup_cons] at h1
        rw [co_cons]
        rcases List.mem_cons.1 hpl with rfl | hpl
        · rw [if_pos rfl, co_zero]
          · simp
          · intro t ht e; exact h1.1 (List.mem_map.2 ⟨t, ht, e⟩)
        · rw [if_neg (fun e => h1.1 (List.mem_map.2 ⟨p, hpl, e.symm⟩)), ih hpl h1.2, Int.zero_add]
    rw [he, this]
/-- Every list has a sorted reading. -/
def insA (a : A8) : List A8 → List A8
  | [] => [a]
  | b :: l => if pcmp a b < 0 then a :: b :: l else b :: insA a l
theorem insA_perm (a : A8) (l : List A8) : (insA a l).Perm (a :: l) := by
  induction l with
  | nil => exact List.Perm.refl _
  | cons b l ih =>
    simp only [insA]
    split
    · exact List.Perm.refl _
    · exact (ih.cons b).trans (List.Perm.swap _ _ _)
theorem pcmp_ntrans {a b c : A8} (h1 : ¬ pcmp b a < 0) (h2 : ¬ pcmp c b < 0) : ¬ pcmp c a < 0 := fun h => by
  by_cases q : pcmp a b < 0
  · exact h2 (pcmp_trans h q)
  · have := pcmp_eq q h1
    subst this
    exact h2 h
theorem insA_sorted {a : A8} {l : List A8} (h : l.Pairwise (fun a b => ¬ pcmp b a < 0)) : (insA a l).Pairwise (fun a b => ¬ pcmp b a < 0) := by
  induction l with
  | nil => simp [insA]
  | cons b l ih =>
    simp only [insA]
    have hb := List.pairwise_cons.1 h
    split
    · rename_i q
      refine List.pairwise_cons.2 ⟨fun x hx => ?_, h⟩
      rcases List.mem_cons.1 hx with rfl | hx
      · exact pcmp_asym q
      · exact pcmp_ntrans (pcmp_asym q) (hb.1 x hx)
    · rename_i q
      refine List.pairwise_cons.2 ⟨fun x hx => ?_, ih hb.2⟩
      rcases List.mem_cons.1 ((insA_perm a l).mem_iff.1 hx) with rfl | hx
      · exact q
      · exact hb.1 x hx
theorem sorted_ex : ∀ l : List A8, ∃ xs : List A8, xs.Perm l ∧ xs.Pairwise (fun a b => ¬ pcmp b a < 0)
  | [] => ⟨[], List.Perm.refl _, List.Pairwise.nil⟩
  | a :: l => by
    obtain ⟨xs, h1, h2⟩ := sorted_ex l
    exact ⟨insA a xs, (insA_perm a xs).trans (h1.cons a), insA_sorted h2⟩
end Vc
