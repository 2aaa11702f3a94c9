/- The order of powers. -/
import Derived.Test.YtaagfepgbofmlaaGreatVc12
set_option linter.unusedVariables false
set_option linter.unusedSimpArgs false
namespace Vc
open Go Go.RowKit
open Go.Proofs (ltOf)
open Go.Sort (SWO)
def A8.list (a : A8) : List Int := [a.x0, a.x1, a.x2, a.x3, a.x4, a.x5, a.x6, a.x7]
def lcmp : List Int → List Int → Int
  | x :: xs, y :: ys => if x ≠ y then y - x else lcmp xs ys
  | _, _ => 0
def pcmp (a b : A8) : Int := lcmp a.list b.list
def OkP (a : A8) : Prop := ∀ x, x ∈ a.list → 0 ≤ x ∧ x ≤ 1099511627776
theorem lcmp_self (xs : List Int) : lcmp xs xs = 0 := by
  induction xs with
  | nil => rfl
  | cons x xs ih => simp [lcmp, ih]
theorem lcmp_trans : ∀ (xs ys zs : List Int), xs.length = ys.length → ys.length = zs.length → lcmp xs ys < 0 → lcmp ys zs < 0 → lcmp xs zs < 0
  | [], [], _, _, _, h, _ => by simp [lcmp] at h
  | x :: xs, y :: ys, z :: zs, h1, h2, h3, h4 => by
    simp only [lcmp] at h3 h4 ⊢
    have := lcmp_trans xs ys zs (by simpa using h1) (by simpa using h2)
    split at h3 <;> split at h4 <;> split <;> first | omega | exact this h3 h4
  | x :: xs, y :: ys, [], _, h, _, _ => by simp at h
theorem lcmp_ntrans : ∀ (xs ys zs : List Int), xs.length = ys.length → ys.length = zs.length → ¬ lcmp xs ys < 0 → ¬ lcmp ys zs < 0 → ¬ lcmp xs zs < 0
  | [], _, _, _, _, _, _ => by simp [lcmp]
  | x :: xs, y :: ys, z :: zs, h1, h2, h3, h4 => by
    simp only [lcmp] at h3 h4 ⊢
    have := lcmp_ntrans xs ys zs (by simpa using h1) (by simpa using h2)
    split at h3 <;> split at h4 <;> split <;> first | omega | exact this h3 h4
  | x :: xs, y :: ys, [], _, h, _, _ => by simp at h
  | x :: xs, [], _, h, _, _, _ => by simp at h
theorem pcmp_swo : SWO (ltOf (fun a b : {a : A8 // OkP a} => pcmp a.1 b.1)) where
  irrefl x := by simp [ltOf, pcmp, lcmp_self]
  trans x y z h1 h2 := by
    simp only [ltOf, decide_eq_true_eq] at *
    exact lcmp_trans x.1.list y.1.list z.1.list rfl rfl h1 h2
  ntrans x y z h1 h2 := by
    simp only [ltOf, decide_eq_false_iff_not] at *
    exact lcmp_ntrans x.1.list y.1.list z.1.list rfl rfl h1 h2
theorem OkP.zero : OkP A8.zero := by simp [OkP, A8.list, A8.zero]
theorem OkP.sub {a b : A8} (ha : OkP a) (hb : OkP b) : (0 ≤ a.x0 ∧ a.x0 ≤ 1099511627776 ∧ 0 ≤ b.x0 ∧ b.x0 ≤ 1099511627776) ∧ (0 ≤ a.x1 ∧ a.x1 ≤ 1099511627776 ∧ 0 ≤ b.x1 ∧ b.x1 ≤ 1099511627776) ∧ (0 ≤ a.x2 ∧ a.x2 ≤ 1099511627776 ∧ 0 ≤ b.x2 ∧ b.x2 ≤ 1099511627776) ∧ (0 ≤ a.x3 ∧ a.x3 ≤ 1099511627776 ∧ 0 ≤ b.x3 ∧ b.x3 ≤ 1099511627776) ∧
    (0 ≤ a.x4 ∧ a.x4 ≤ 1099511627776 ∧ 0 ≤ b.x4 ∧ b.x4 ≤ 1099511627776) ∧ (0 ≤ a.x5 ∧ a.x5 ≤ 1099511627776 ∧ 0 ≤ b.x5 ∧ b.x5 ≤ 1099511627776) ∧ (0 ≤ a.x6 ∧ a.x6 ≤ 1099511627776 ∧ 0 ≤ b.x6 ∧ b.x6 ≤ 1099511627776) ∧ (0 ≤ a.x7 ∧ a.x7 ≤ 1099511627776 ∧ 0 ≤ b.x7 ∧ b.x7 ≤ 1099511627776) := by
  simp only [OkP, A8.list, List.mem_cons, List.not_mem_nil, or_false, forall_eq_or_imp, forall_eq] at ha hb
  omega
/-- The comparing function's text, as the printed walks say it. -/
def cmpText (a0 a1 : A8) (K : Int → Prop) : Prop := forN (fun i (s : Unit) next => (if a0.get i ≠ a1.get i then K (IntKind.i64.wrap ((a1.get i) - (a0.get i))) else next ())) (fun (s : Unit) => K 0) 8 0 ()
theorem cmpText_meets {a b : A8} {K : Int → Prop} (ha : OkP a) (hb : OkP b) (h : K (pcmp a b)) : cmpText a b K := by
  obtain ⟨h0, h1, h2, h3, h4, h5, h6, h7⟩ := ha.sub hb
  simp only [cmpText, forN, A8.get]
  simp only [pcmp, A8.list, lcmp] at h
  repeat' split
  all_goals (first | (rw [i64_in _ (by omega)]; simp_all; done) | simp_all)
end Vc
