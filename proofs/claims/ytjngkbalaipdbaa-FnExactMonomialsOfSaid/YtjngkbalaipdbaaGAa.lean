/- Printed by vcgen.py: functions of the program as predicates, and that the machine's calls meet them. -/
import Derived.Test.YtjngkbalaipdbaaVt
import Derived.Test.YtjngkbalaipdbaaVm
import Derived.Test.YtjngkbalaipdbaaVn
import Derived.Test.YtjngkbalaipdbaaVs
import Derived.Test.YtjngkbalaipdbaaProg
import Derived.KernelRfl
set_option linter.unusedVariables false
set_option linter.unusedSimpArgs false
set_option maxRecDepth 4000
set_option maxHeartbeats 4000000
namespace Go.Proofs.Ytjngkbalaipdbaa
open Go Go.RowKit Vc
theorem sc2 : ScaT Try.prog 2 := ⟨⟨_, Try.underlying2, rfl⟩, by kernel_rfl⟩
theorem ag93 : AggT Try.prog 93 9 := ⟨⟨_, Try.underlying93, rfl⟩, by kernel_rfl⟩
theorem ag24 : AggT Try.prog 24 8 := ⟨⟨_, Try.underlying24, rfl⟩, by kernel_rfl⟩
theorem sc5 : ScaT Try.prog 5 := ⟨⟨_, Try.underlying5, rfl⟩, by kernel_rfl⟩
theorem ag51 : AggT Try.prog 51 1 := ⟨⟨_, Try.underlying51, rfl⟩, by kernel_rfl⟩
theorem sc49 : ScaT Try.prog 49 := ⟨⟨_, Try.underlying49, rfl⟩, by kernel_rfl⟩
theorem sc22 : ScaT Try.prog 22 := ⟨⟨_, Try.underlying22, rfl⟩, by kernel_rfl⟩
theorem sc32 : ScaT Try.prog 32 := ⟨⟨_, Try.underlying32, rfl⟩, by kernel_rfl⟩
theorem z51 : ZeroT Try.prog 51 (.agg #[.slice none 0 0]) := by unfold ZeroT; kernel_rfl
theorem bl51  (w : World) : (Instr.build 51 #[]).run Try.prog w = .ok (.agg #[.slice none 0 0]) w := by kernel_rfl
theorem mixed : Try.prog.follows .mixedOrders = true := by kernel_rfl
theorem bl93_0flat_1int (x0 : A8) (x1 : Int) (w : World) : (Instr.build 93 #[(0, .agg (List.toArray (A8.enc .u8 x0))), (1, .int .i64 x1)]).run Try.prog w = .ok (.agg (List.toArray (Term.enc (⟨x0, x1⟩ : Term)))) w := by kernel_rfl
theorem bs49_1 (x0 : Term) (w : World) : (Instr.buildSlice 49 1 #[(0, .agg (List.toArray (Term.enc x0)))]).run Try.prog w = .ok (.slice (some ⟨w.heap.size, 0, none⟩) 1 1) (w.alloc (.cells (List.toArray (ETerm.encs [x0])) 93)) := by kernel_rfl
theorem bl51_0sl (x0 : Value) (hx0 : IsSl x0) (w : World) : (Instr.build 51 #[(0, x0)]).run Try.prog w = .ok (.agg #[x0]) w := by obtain ⟨_, _, _, rfl⟩ := hx0; kernel_rfl
theorem bl24  (w : World) : (Instr.build 24 #[]).run Try.prog w = .ok (.agg (List.toArray (A8.enc .u8 A8.zero))) w := by kernel_rfl
theorem z24 : ZeroT Try.prog 24 (.agg (List.toArray (A8.enc .u8 A8.zero))) := by unfold ZeroT; kernel_rfl
theorem z34 : ZeroT Try.prog 34 (.agg #[.slice none 0 0, .slice none 0 0]) := by unfold ZeroT; kernel_rfl
theorem bl34  (w : World) : (Instr.build 34 #[]).run Try.prog w = .ok (.agg #[.slice none 0 0, .slice none 0 0]) w := by kernel_rfl
theorem ag34 : AggT Try.prog 34 2 := ⟨⟨_, Try.underlying34, rfl⟩, by kernel_rfl⟩
theorem bs22_2 (x0 : Int) (x1 : Int) (w : World) : (Instr.buildSlice 22 2 #[(0, .int .i64 x0), (1, .int .i64 x1)]).run Try.prog w = .ok (.slice (some ⟨w.heap.size, 0, none⟩) 2 2) (w.alloc (.cells (List.toArray ((EI .i64).encs [x0, x1])) 2)) := by kernel_rfl
theorem bsr32_2_n_s (x0 : Value) (x1 : Value) (hx0 : IsSl x0) (hx1 : IsSl x1) (w : World) : (Instr.buildSlice 32 2 #[(0, .agg #[x0]), (1, .agg #[x1])]).run Try.prog w = .ok (.slice (some ⟨w.heap.size, 0, none⟩) 2 2) (w.alloc (.cells (List.toArray [x0, x1]) 51)) := by obtain ⟨_, _, _, rfl⟩ := hx0; obtain ⟨_, _, _, rfl⟩ := hx1; kernel_rfl
theorem bl34_0sl_1sl (x0 : Value) (x1 : Value) (hx0 : IsSl x0) (hx1 : IsSl x1) (w : World) : (Instr.build 34 #[(0, x0), (1, x1)]).run Try.prog w = .ok (.agg #[x0, x1]) w := by obtain ⟨_, _, _, rfl⟩ := hx0; obtain ⟨_, _, _, rfl⟩ := hx1; kernel_rfl
theorem z85 : ZeroT Try.prog 85 (.agg (List.toArray (A8.enc .i64 A8.zero))) := by unfold ZeroT; kernel_rfl
theorem bl85  (w : World) : (Instr.build 85 #[]).run Try.prog w = .ok (.agg (List.toArray (A8.enc .i64 A8.zero))) w := by kernel_rfl
theorem ag85 : AggT Try.prog 85 8 := ⟨⟨_, Try.underlying85, rfl⟩, by kernel_rfl⟩
theorem sc3 : ScaT Try.prog 3 := ⟨⟨_, Try.underlying3, rfl⟩, by kernel_rfl⟩
theorem kt85 : KeyT Try.prog 85 (kvA .i64) := keyA8 Try.underlying85 Try.underlying3 sc3
theorem z2 : ZeroT Try.prog 2 (.int .i64 0) := by unfold ZeroT; kernel_rfl
theorem z93 : ZeroT Try.prog 93 (.agg (List.toArray (Term.enc (⟨A8.zero, 0⟩ : Term)))) := by unfold ZeroT; kernel_rfl
theorem bs102_0  (w : World) : (Instr.buildSlice 102 0 #[]).run Try.prog w = .ok (.slice (some ⟨w.heap.size, 0, none⟩) 0 0) (w.alloc (.cells (List.toArray ((EA .i64).encs [])) 85)) := by kernel_rfl
theorem bs102_1 (x0 : A8) (w : World) : (Instr.buildSlice 102 1 #[(0, .agg (List.toArray (A8.enc .i64 x0)))]).run Try.prog w = .ok (.slice (some ⟨w.heap.size, 0, none⟩) 1 1) (w.alloc (.cells (List.toArray ((EA .i64).encs [x0])) 85)) := by kernel_rfl
theorem el85 : ElemT Try.prog 85 (.agg (List.toArray (A8.enc .i64 A8.zero))) 8 64 := by unfold ElemT; kernel_rfl
theorem el93 : ElemT Try.prog 93 (.agg (List.toArray (Term.enc (⟨A8.zero, 0⟩ : Term)))) 9 16 := by unfold ElemT; kernel_rfl
theorem bs22_0  (w : World) : (Instr.buildSlice 22 0 #[]).run Try.prog w = .ok (.slice (some ⟨w.heap.size, 0, none⟩) 0 0) (w.alloc (.cells (List.toArray ((EI .i64).encs [])) 2)) := by kernel_rfl
theorem el2 : ElemT Try.prog 2 (.int .i64 0) 1 8 := by unfold ElemT; kernel_rfl
theorem el51 : ElemT Try.prog 51 (.agg #[.slice none 0 0]) 1 24 := by unfold ElemT; kernel_rfl
theorem bs22_1 (x0 : Int) (w : World) : (Instr.buildSlice 22 1 #[(0, .int .i64 x0)]).run Try.prog w = .ok (.slice (some ⟨w.heap.size, 0, none⟩) 1 1) (w.alloc (.cells (List.toArray ((EI .i64).encs [x0])) 2)) := by kernel_rfl
def f_laws_markInt64S (a0 : List Int) (a1 : Int) (K : Int → List Int → Prop) : Prop :=
 whileP (fun (s49 : (List Int) × Int × Int) next50 => (if s49.2.2 < (s49.1.length : Int) then ((0 ≤ s49.2.2 ∧ s49.2.2 < (s49.1.length : Int)) ∧ next50 (s49.1.set s49.2.2.toNat s49.2.1, IntKind.i64.wrap (s49.2.1 + 1), IntKind.i64.wrap (s49.2.2 + 1))) else K s49.2.1 s49.1)) (a0, a1, 0)
theorem c_laws_markInt64S (a0 : List Int) (a1 : Int) {u0_0 : Value} {K : Int → List Int → Prop} (h : f_laws_markInt64S a0 a1 K) (w0 : World) (qw0 : (own 2 1 u0_0 a0.length ((EI .i64).encs a0)).holds w0) :
  Calls Try.prog 27 #[u0_0, .int .i64 a1] w0 fun e w' => ∃ (r0 : Int) (mw : List Int), 
   e = .returned (.int .i64 r0) ∧ K r0 mw ∧ (own 2 1 u0_0 mw.length ((EI .i64).encs mw)).holds w' ∧ BelO ((Option.toList (Value.ownBlock u0_0))) w0 w' := by
 unfold f_laws_markInt64S at h
 refine calls_of (args := [u0_0, .int .i64 a1]) Try.func27 rfl 19 Try.ntmps27 (Nat.le_of_ble_eq_true rfl) ?_
 have hC := Ctx.startL w0 ((Option.toList (Value.ownBlock u0_0))) [own 2 1 u0_0 a0.length ((EI .i64).encs a0)] [] (by simp only [List.mem_cons, List.not_mem_nil, or_false, forall_eq_or_imp, forall_eq]; exact qw0) (by simp) (by simp only [List.mem_cons, List.not_mem_nil, or_false, forall_eq_or_imp, forall_eq]; exact fun b hb => hb) (List.pairwise_singleton _ _) (by simp)
 refine sr ?_
 refine s_as (v := .int .i64 0) rfl ?_
 refine dn ?_
 refine wp_seq ?_
 refine sr ?_
 refine s_as (v := .int .i64 0) rfl ?_
 refine dn ?_
 refine wp_block ?_
 refine loopW (S := (List Int) × Int × Int) _ (fun s49 e_ w_ => Slots e_ [(0, u0_0), (1, .int .i64 s49.2.1), (4, .int .i64 0), (5, .int .i64 s49.2.2)] ∧ Ctx (fun c_ => c_ ∈ (Option.toList (Value.ownBlock u0_0))) w0 w_ [own 2 1 u0_0 s49.1.length ((EI .i64).encs s49.1)] []) ?_ (s0 := (a0, a1, 0)) ?_ h
 ·clear hC h
  rintro s49 e_ w53 next50 K51 ⟨hS_, hC⟩ h hK52
  refine wp_seq ?_
  refine sr ?_
  refine s_mv (v := .int .i64 s49.2.2) (sx hS_ 3 rfl) ?_
  refine s_mv (v := u0_0) (sx hS_ 0 rfl) ?_
  obtain ⟨Ad54, c55, hv56⟩ := own_form (hC.getM 0 rfl)
  refine s_len Try.underlying22 (tr rfl hv56) ?_
  refine s_lss rfl rfl ?_
  refine dn ?_
  refine cw_cond rfl (fun hb57 => ?_) (fun hb57 => ?_)
  ·replace h := ift h (ct hb57)
   refine wp_skip ?_
   refine then_norm ?_
   refine wp_seq ?_
   refine wp_block ?_
   refine sr ?_
   refine s_mv (v := u0_0) (sx hS_ 0 rfl) ?_
   refine s_mv (v := .int .i64 s49.2.2) (sx hS_ 3 rfl) ?_
   refine s_mv (v := .int .i64 s49.2.1) (sx hS_ 1 rfl) ?_
   obtain ⟨⟨h0_58, h1_59⟩, h⟩ := h
   obtain ⟨Ad60, c61, hv62⟩ := own_formE (hC.getM 0 rfl) (Nat.lt_of_le_of_lt (Nat.zero_le _) (show s49.2.2.toNat < s49.1.length by omega))
   refine s_iaddrO (s49.2.2.toNat * 1) Try.underlying22 sc2.size (tr rfl hv62) rfl h0_58 h1_59 rfl ?_
   refine s_storeO (v := .int .i64 s49.2.1) hC 0 [.int .i64 s49.2.1] ((EI .i64).encs (s49.1.set s49.2.2.toNat s49.2.1)) rfl hv62 sc2.size rfl rfl rfl rfl rfl (by rw [Enc.encs_len]; exact seg_le (sz := 1) (show s49.2.2.toNat < s49.1.length by omega)) (encs_set _ _ _ (show s49.2.2.toNat < s49.1.length by omega)) fun w63 hC => ?_
   replace hC := own_re hC 0 ((s49.1.set s49.2.2.toNat s49.2.1).length) ((EI .i64).encs (s49.1.set s49.2.2.toNat s49.2.1)) rfl (by simp) rfl
   refine dn ?_
   refine cw_region ?_
   refine s_mv (v := .int .i64 s49.2.1) (sx hS_ 1 rfl) ?_
   refine s_add rfl rfl ?_
   refine s_as (v := .int .i64 (IntKind.i64.wrap (s49.2.1 + 1))) rfl ?_
   refine done ?_
   refine blk_norm ?_
   refine then_norm ?_
   refine cw_region ?_
   refine s_mv (v := .int .i64 s49.2.2) (sx hS_ 3 rfl) ?_
   refine s_add rfl rfl ?_
   refine s_as (v := .int .i64 (IntKind.i64.wrap (s49.2.2 + 1))) rfl ?_
   refine done ?_
   exact hK52 (s49.1.set s49.2.2.toNat s49.2.1, IntKind.i64.wrap (s49.2.1 + 1), IntKind.i64.wrap (s49.2.2 + 1)) _ _ ⟨(sk (sx hS_ 0 rfl) (sk rfl (sk (sx hS_ 2 rfl) (sk rfl sn)))), hC⟩ h
  ·replace h := iff_ h (cf hb57)
   refine wp_exit (then_exit (then_exit (exit_in ?_)))
   refine then_norm ?_
   refine sr ?_
   refine s_mv (v := .int .i64 s49.2.1) (sx hS_ 1 rfl) ?_
   refine s_as (v := .int .i64 s49.2.1) rfl ?_
   refine dn ?_
   refine wp_ret ?_
   refine ret1 (fn := Try.f27) rfl ?_ ⟨s49.2.1, s49.1, rfl, h, (hC.getM 0 rfl), hC.belO⟩ (.inl rfl)
   exact res_tmp rfl
 ·skip
  exact ⟨(sk rfl (sk rfl (sk rfl (sk rfl sn)))), hC⟩
def f_laws_markTermS (a0 : List Term) (a1 : Int) (K : Int → List Term → Prop) : Prop :=
 whileP (fun (s223 : (List Term) × Int × Int) next224 => (if s223.2.2 < (s223.1.length : Int) then forN (fun i262 (s263 : (List Term) × Int) next264 => ((0 ≤ s223.2.2 ∧ s223.2.2 < (s263.1.length : Int)) ∧ next264 (s263.1.set s223.2.2.toNat (⟨((s263.1.getD s223.2.2.toNat default).mono).set i262 (IntKind.u8.wrap s263.2), (s263.1.getD s223.2.2.toNat default).factor⟩ : Term), IntKind.i64.wrap (s263.2 + 1)))) (fun (s263 : (List Term) × Int) => ((0 ≤ s223.2.2 ∧ s223.2.2 < (s263.1.length : Int)) ∧ next224 (s263.1.set s223.2.2.toNat (⟨(s263.1.getD s223.2.2.toNat default).mono, s263.2⟩ : Term), IntKind.i64.wrap (s263.2 + 1), IntKind.i64.wrap (s223.2.2 + 1)))) 8 0 (s223.1, s223.2.1) else K s223.2.1 s223.1)) (a0, a1, 0)
theorem c_laws_markTermS (a0 : List Term) (a1 : Int) {u0_0 : Value} {K : Int → List Term → Prop} (h : f_laws_markTermS a0 a1 K) (w0 : World) (qw0 : (own 93 9 u0_0 a0.length (ETerm.encs a0)).holds w0) :
  Calls Try.prog 94 #[u0_0, .int .i64 a1] w0 fun e w' => ∃ (r0 : Int) (mw : List Term), 
   e = .returned (.int .i64 r0) ∧ K r0 mw ∧ (own 93 9 u0_0 mw.length (ETerm.encs mw)).holds w' ∧ BelO ((Option.toList (Value.ownBlock u0_0))) w0 w' := by
 unfold f_laws_markTermS at h
 refine calls_of (args := [u0_0, .int .i64 a1]) Try.func94 rfl 35 Try.ntmps94 (Nat.le_of_ble_eq_true rfl) ?_
 have hC := Ctx.startL w0 ((Option.toList (Value.ownBlock u0_0))) [own 93 9 u0_0 a0.length (ETerm.encs a0)] [] (by simp only [List.mem_cons, List.not_mem_nil, or_false, forall_eq_or_imp, forall_eq]; exact qw0) (by simp) (by simp only [List.mem_cons, List.not_mem_nil, or_false, forall_eq_or_imp, forall_eq]; exact fun b hb => hb) (List.pairwise_singleton _ _) (by simp)
 refine sr ?_
 refine s_as (v := .int .i64 0) rfl ?_
 refine dn ?_
 refine wp_seq ?_
 refine sr ?_
 refine s_as (v := .int .i64 0) rfl ?_
 refine dn ?_
 refine wp_block ?_
 refine loopW (S := (List Term) × Int × Int) _ (fun s223 e_ w_ => Slots e_ [(0, u0_0), (1, .int .i64 s223.2.1), (4, .int .i64 0), (5, .int .i64 s223.2.2)] ∧ Ctx (fun c_ => c_ ∈ (Option.toList (Value.ownBlock u0_0))) w0 w_ [own 93 9 u0_0 s223.1.length (ETerm.encs s223.1)] []) ?_ (s0 := (a0, a1, 0)) ?_ h
 ·clear hC h
  rintro s223 e_ w227 next224 K225 ⟨hS_, hC⟩ h hK226
  refine wp_seq ?_
  refine sr ?_
  refine s_mv (v := .int .i64 s223.2.2) (sx hS_ 3 rfl) ?_
  refine s_mv (v := u0_0) (sx hS_ 0 rfl) ?_
  obtain ⟨Ad228, c229, hv230⟩ := own_form (hC.getM 0 rfl)
  refine s_len Try.underlying49 (tr rfl hv230) ?_
  refine s_lss rfl rfl ?_
  refine dn ?_
  refine cw_cond rfl (fun hb231 => ?_) (fun hb231 => ?_)
  ·replace h := ift h (ct hb231)
   refine wp_skip ?_
   refine then_norm ?_
   refine wp_seq ?_
   refine wp_block ?_
   refine wp_seq ?_
   refine sr ?_
   refine s_as (v := .int .i64 0) rfl ?_
   refine dn ?_
   refine wp_block ?_
   refine loopN (S := (List Term) × Int) _ _ (fun i262 s263 e_ w_ => Slots e_ [(0, u0_0), (1, .int .i64 s263.2), (4, .int .i64 0), (5, .int .i64 s223.2.2), (6, .int .i64 (i262 : Int)), (7, .int .i64 s223.2.2), (8, u0_0), (9, .int .i64 (s223.1.length : Int)), (10, .bool (decide (s223.2.2 < (s223.1.length : Int))))] ∧ Ctx (fun c_ => c_ ∈ (Option.toList (Value.ownBlock u0_0))) w0 w_ [own 93 9 u0_0 s263.1.length (ETerm.encs s263.1)] []) 8 ?_ ?_ (s0 := (s223.1, s223.2.1)) ?_ h
   ·clear hC h
    rintro i262 s263 e_ w268 next264 K265 hi267 ⟨hS_, hC⟩ h hK266
    refine wp_seq ?_
    refine sr ?_
    refine s_mv (v := .int .i64 (i262 : Int)) (sx hS_ 4 rfl) ?_
    refine s_lss rfl rfl ?_
    refine dn ?_
    refine cw_true rfl (decide_eq_true (by omega)) ?_
    refine wp_skip ?_
    refine then_norm ?_
    refine wp_seq ?_
    refine wp_block ?_
    refine sr ?_
    refine s_mv (v := u0_0) (sx hS_ 0 rfl) ?_
    refine s_mv (v := .int .i64 s223.2.2) (sx hS_ 3 rfl) ?_
    refine s_mv (v := .int .i64 (i262 : Int)) (sx hS_ 4 rfl) ?_
    refine s_mv (v := .int .i64 s263.2) (sx hS_ 1 rfl) ?_
    refine s_conv Try.underlying3 Try.underlying5 rfl ?_
    obtain ⟨⟨h0_269, h1_270⟩, h⟩ := h
    obtain ⟨Ad271, c272, hv273⟩ := own_formE (hC.getM 0 rfl) (Nat.lt_of_le_of_lt (Nat.zero_le _) (show s223.2.2.toNat < s263.1.length by omega))
    refine s_iaddrO (s223.2.2.toNat * 9) Try.underlying49 ag93.size (tr rfl hv273) rfl h0_269 h1_270 rfl ?_
    refine s_faddrB (s223.2.2.toNat * 9 + 0) Try.underlying93 rfl ag24.size rfl rfl ?_
    refine s_iaddrB (s223.2.2.toNat * 9 + 0 + i262) Try.underlying24 sc5.size rfl rfl (Int.natCast_nonneg _) (by omega) (by omega) ?_
    refine s_storeO (v := .int .u8 (IntKind.u8.wrap s263.2)) hC 0 [.int .u8 (IntKind.u8.wrap s263.2)] (ETerm.encs (s263.1.set s223.2.2.toNat (⟨((s263.1.getD s223.2.2.toNat default).mono).set i262 (IntKind.u8.wrap s263.2), (s263.1.getD s223.2.2.toNat default).factor⟩ : Term))) rfl hv273 sc5.size rfl rfl rfl rfl rfl (by rw [Enc.encs_len]; have := seg_le (sz := 9) (show s223.2.2.toNat < s263.1.length by omega); have h9 : i262 + 1 ≤ 9 := (show i262 + 1 ≤ 9 by omega); have e9 : ETerm.sz = 9 := rfl; rw [e9]; omega) (splice_in (E := ETerm) (o := i262) (show s223.2.2.toNat < s263.1.length by omega) (show i262 + 1 ≤ 9 by omega) (arr_set hi267)) fun w274 hC => ?_
    replace hC := own_re hC 0 ((s263.1.set s223.2.2.toNat (⟨((s263.1.getD s223.2.2.toNat default).mono).set i262 (IntKind.u8.wrap s263.2), (s263.1.getD s223.2.2.toNat default).factor⟩ : Term)).length) (ETerm.encs (s263.1.set s223.2.2.toNat (⟨((s263.1.getD s223.2.2.toNat default).mono).set i262 (IntKind.u8.wrap s263.2), (s263.1.getD s223.2.2.toNat default).factor⟩ : Term))) rfl (by simp) rfl
    refine dn ?_
    refine cw_region ?_
    refine s_mv (v := .int .i64 s263.2) (sx hS_ 1 rfl) ?_
    refine s_add rfl rfl ?_
    refine s_as (v := .int .i64 (IntKind.i64.wrap (s263.2 + 1))) rfl ?_
    refine done ?_
    refine blk_norm ?_
    refine then_norm ?_
    refine cw_region ?_
    refine s_mv (v := .int .i64 (i262 : Int)) (sx hS_ 4 rfl) ?_
    refine s_add rfl rfl ?_
    refine s_as (v := .int .i64 (IntKind.i64.wrap ((i262 : Int) + 1))) rfl ?_
    refine done ?_
    exact hK266 (s263.1.set s223.2.2.toNat (⟨((s263.1.getD s223.2.2.toNat default).mono).set i262 (IntKind.u8.wrap s263.2), (s263.1.getD s223.2.2.toNat default).factor⟩ : Term), IntKind.i64.wrap (s263.2 + 1)) _ _ ⟨(sk (sx hS_ 0 rfl) (sk rfl (sk (sx hS_ 2 rfl) (sk (sx hS_ 3 rfl) (sk (tr rfl (congrArg _ (wrap64_nat hi267 (by decide)))) (sk (sx hS_ 5 rfl) (sk (sx hS_ 6 rfl) (sk (sx hS_ 7 rfl) (sk (sx hS_ 8 rfl) sn))))))))), hC⟩ h
   ·clear hC h
    rintro s263 e_ w275 K265 ⟨hS_, hC⟩ h
    refine wp_seq ?_
    refine sr ?_
    refine s_mv (v := .int .i64 8) (sx hS_ 4 rfl) ?_
    refine s_lss rfl rfl ?_
    refine dn ?_
    refine cw_false rfl (decide_eq_false (by omega)) ?_
    refine wp_exit (then_exit (then_exit (exit_in ?_)))
    refine then_norm ?_
    refine sr ?_
    refine s_mv (v := u0_0) (sx hS_ 0 rfl) ?_
    refine s_mv (v := .int .i64 s223.2.2) (sx hS_ 3 rfl) ?_
    refine s_mv (v := .int .i64 s263.2) (sx hS_ 1 rfl) ?_
    obtain ⟨⟨h0_276, h1_277⟩, h⟩ := h
    obtain ⟨Ad278, c279, hv280⟩ := own_formE (hC.getM 0 rfl) (Nat.lt_of_le_of_lt (Nat.zero_le _) (show s223.2.2.toNat < s263.1.length by omega))
    refine s_iaddrO (s223.2.2.toNat * 9) Try.underlying49 ag93.size (tr rfl hv280) rfl h0_276 h1_277 rfl ?_
    refine s_faddrB (s223.2.2.toNat * 9 + 8) Try.underlying93 rfl sc2.size rfl rfl ?_
    refine s_storeO (v := .int .i64 s263.2) hC 0 [.int .i64 s263.2] (ETerm.encs (s263.1.set s223.2.2.toNat (⟨(s263.1.getD s223.2.2.toNat default).mono, s263.2⟩ : Term))) rfl hv280 sc2.size rfl rfl rfl rfl rfl (by rw [Enc.encs_len]; have := seg_le (sz := 9) (show s223.2.2.toNat < s263.1.length by omega); have h9 : 8 + 1 ≤ 9 := (Nat.le_of_ble_eq_true rfl); have e9 : ETerm.sz = 9 := rfl; rw [e9]; omega) (splice_in (E := ETerm) (o := 8) (show s223.2.2.toNat < s263.1.length by omega) (Nat.le_of_ble_eq_true rfl) rfl) fun w281 hC => ?_
    replace hC := own_re hC 0 ((s263.1.set s223.2.2.toNat (⟨(s263.1.getD s223.2.2.toNat default).mono, s263.2⟩ : Term)).length) (ETerm.encs (s263.1.set s223.2.2.toNat (⟨(s263.1.getD s223.2.2.toNat default).mono, s263.2⟩ : Term))) rfl (by simp) rfl
    refine dn ?_
    refine cw_region ?_
    refine s_mv (v := .int .i64 s263.2) (sx hS_ 1 rfl) ?_
    refine s_add rfl rfl ?_
    refine s_as (v := .int .i64 (IntKind.i64.wrap (s263.2 + 1))) rfl ?_
    refine done ?_
    refine blk_norm ?_
    refine then_norm ?_
    refine cw_region ?_
    refine s_mv (v := .int .i64 s223.2.2) (sx hS_ 3 rfl) ?_
    refine s_add rfl rfl ?_
    refine s_as (v := .int .i64 (IntKind.i64.wrap (s223.2.2 + 1))) rfl ?_
    refine done ?_
    exact hK226 (s263.1.set s223.2.2.toNat (⟨(s263.1.getD s223.2.2.toNat default).mono, s263.2⟩ : Term), IntKind.i64.wrap (s263.2 + 1), IntKind.i64.wrap (s223.2.2 + 1)) _ _ ⟨(sk (sx hS_ 0 rfl) (sk rfl (sk (sx hS_ 2 rfl) (sk rfl sn)))), hC⟩ h
   ·skip
    exact ⟨(sk (sx hS_ 0 rfl) (sk (sx hS_ 1 rfl) (sk (sx hS_ 2 rfl) (sk (sx hS_ 3 rfl) (sk rfl (sk rfl (sk rfl (sk rfl (sk rfl sn))))))))), hC⟩
  ·replace h := iff_ h (cf hb231)
   refine wp_exit (then_exit (then_exit (exit_in ?_)))
   refine then_norm ?_
   refine sr ?_
   refine s_mv (v := .int .i64 s223.2.1) (sx hS_ 1 rfl) ?_
   refine s_as (v := .int .i64 s223.2.1) rfl ?_
   refine dn ?_
   refine wp_ret ?_
   refine ret1 (fn := Try.f94) rfl ?_ ⟨s223.2.1, s223.1, rfl, h, (hC.getM 0 rfl), hC.belO⟩ (.inl rfl)
   exact res_tmp rfl
 ·skip
  exact ⟨(sk rfl (sk rfl (sk rfl (sk rfl sn)))), hC⟩
def f_laws_markMonomialS (a0 : List A8) (a1 : Int) (K : Int → List A8 → Prop) : Prop :=
 whileP (fun (s153 : (List A8) × Int × Int) next154 => (if s153.2.2 < (s153.1.length : Int) then forN (fun i180 (s181 : (List A8) × Int) next182 => ((0 ≤ s153.2.2 ∧ s153.2.2 < (s181.1.length : Int)) ∧ next182 (s181.1.set s153.2.2.toNat ((s181.1.getD s153.2.2.toNat default).set i180 (IntKind.u8.wrap s181.2)), IntKind.i64.wrap (s181.2 + 1)))) (fun (s181 : (List A8) × Int) => next154 (s181.1, s181.2, IntKind.i64.wrap (s153.2.2 + 1))) 8 0 (s153.1, s153.2.1) else K s153.2.1 s153.1)) (a0, a1, 0)
theorem c_laws_markMonomialS (a0 : List A8) (a1 : Int) {u0_0 : Value} {K : Int → List A8 → Prop} (h : f_laws_markMonomialS a0 a1 K) (w0 : World) (qw0 : (own 24 8 u0_0 a0.length ((EA .u8).encs a0)).holds w0) :
  Calls Try.prog 28 #[u0_0, .int .i64 a1] w0 fun e w' => ∃ (r0 : Int) (mw : List A8), 
   e = .returned (.int .i64 r0) ∧ K r0 mw ∧ (own 24 8 u0_0 mw.length ((EA .u8).encs mw)).holds w' ∧ BelO ((Option.toList (Value.ownBlock u0_0))) w0 w' := by
 unfold f_laws_markMonomialS at h
 refine calls_of (args := [u0_0, .int .i64 a1]) Try.func28 rfl 27 Try.ntmps28 (Nat.le_of_ble_eq_true rfl) ?_
 have hC := Ctx.startL w0 ((Option.toList (Value.ownBlock u0_0))) [own 24 8 u0_0 a0.length ((EA .u8).encs a0)] [] (by simp only [List.mem_cons, List.not_mem_nil, or_false, forall_eq_or_imp, forall_eq]; exact qw0) (by simp) (by simp only [List.mem_cons, List.not_mem_nil, or_false, forall_eq_or_imp, forall_eq]; exact fun b hb => hb) (List.pairwise_singleton _ _) (by simp)
 refine sr ?_
 refine s_as (v := .int .i64 0) rfl ?_
 refine dn ?_
 refine wp_seq ?_
 refine sr ?_
 refine s_as (v := .int .i64 0) rfl ?_
 refine dn ?_
 refine wp_block ?_
 refine loopW (S := (List A8) × Int × Int) _ (fun s153 e_ w_ => Slots e_ [(0, u0_0), (1, .int .i64 s153.2.1), (4, .int .i64 0), (5, .int .i64 s153.2.2)] ∧ Ctx (fun c_ => c_ ∈ (Option.toList (Value.ownBlock u0_0))) w0 w_ [own 24 8 u0_0 s153.1.length ((EA .u8).encs s153.1)] []) ?_ (s0 := (a0, a1, 0)) ?_ h
 ·clear hC h
  rintro s153 e_ w157 next154 K155 ⟨hS_, hC⟩ h hK156
  refine wp_seq ?_
  refine sr ?_
  refine s_mv (v := .int .i64 s153.2.2) (sx hS_ 3 rfl) ?_
  refine s_mv (v := u0_0) (sx hS_ 0 rfl) ?_
  obtain ⟨Ad158, c159, hv160⟩ := own_form (hC.getM 0 rfl)
  refine s_len Try.underlying40 (tr rfl hv160) ?_
  refine s_lss rfl rfl ?_
  refine dn ?_
  refine cw_cond rfl (fun hb161 => ?_) (fun hb161 => ?_)
  ·replace h := ift h (ct hb161)
   refine wp_skip ?_
   refine then_norm ?_
   refine wp_seq ?_
   refine wp_block ?_
   refine sr ?_
   refine s_as (v := .int .i64 0) rfl ?_
   refine dn ?_
   refine wp_block ?_
   refine loopN (S := (List A8) × Int) _ _ (fun i180 s181 e_ w_ => Slots e_ [(0, u0_0), (1, .int .i64 s181.2), (4, .int .i64 0), (5, .int .i64 s153.2.2), (6, .int .i64 (i180 : Int)), (7, .int .i64 s153.2.2), (8, u0_0), (9, .int .i64 (s153.1.length : Int)), (10, .bool (decide (s153.2.2 < (s153.1.length : Int))))] ∧ Ctx (fun c_ => c_ ∈ (Option.toList (Value.ownBlock u0_0))) w0 w_ [own 24 8 u0_0 s181.1.length ((EA .u8).encs s181.1)] []) 8 ?_ ?_ (s0 := (s153.1, s153.2.1)) ?_ h
   ·clear hC h
    rintro i180 s181 e_ w186 next182 K183 hi185 ⟨hS_, hC⟩ h hK184
    refine wp_seq ?_
    refine sr ?_
    refine s_mv (v := .int .i64 (i180 : Int)) (sx hS_ 4 rfl) ?_
    refine s_lss rfl rfl ?_
    refine dn ?_
    refine cw_true rfl (decide_eq_true (by omega)) ?_
    refine wp_skip ?_
    refine then_norm ?_
    refine wp_seq ?_
    refine wp_block ?_
    refine sr ?_
    refine s_mv (v := u0_0) (sx hS_ 0 rfl) ?_
    refine s_mv (v := .int .i64 s153.2.2) (sx hS_ 3 rfl) ?_
    refine s_mv (v := .int .i64 (i180 : Int)) (sx hS_ 4 rfl) ?_
    refine s_mv (v := .int .i64 s181.2) (sx hS_ 1 rfl) ?_
    refine s_conv Try.underlying3 Try.underlying5 rfl ?_
    obtain ⟨⟨h0_187, h1_188⟩, h⟩ := h
    obtain ⟨Ad189, c190, hv191⟩ := own_formE (hC.getM 0 rfl) (Nat.lt_of_le_of_lt (Nat.zero_le _) (show s153.2.2.toNat < s181.1.length by omega))
    refine s_iaddrO (s153.2.2.toNat * 8) Try.underlying40 ag24.size (tr rfl hv191) rfl h0_187 h1_188 rfl ?_
    refine s_iaddrB (s153.2.2.toNat * 8 + i180) Try.underlying24 sc5.size rfl rfl (Int.natCast_nonneg _) (by omega) (by omega) ?_
    refine s_storeO (v := .int .u8 (IntKind.u8.wrap s181.2)) hC 0 [.int .u8 (IntKind.u8.wrap s181.2)] ((EA .u8).encs (s181.1.set s153.2.2.toNat ((s181.1.getD s153.2.2.toNat default).set i180 (IntKind.u8.wrap s181.2)))) rfl hv191 sc5.size rfl rfl rfl rfl rfl (by rw [Enc.encs_len]; have := seg_le (sz := 8) (show s153.2.2.toNat < s181.1.length by omega); have h9 : i180 + 1 ≤ 8 := (show i180 + 1 ≤ 8 by omega); have e9 : (EA .u8).sz = 8 := rfl; rw [e9]; omega) (splice_in (E := (EA .u8)) (o := i180) (show s153.2.2.toNat < s181.1.length by omega) (show i180 + 1 ≤ 8 by omega) (arr_set0 hi185)) fun w192 hC => ?_
    replace hC := own_re hC 0 ((s181.1.set s153.2.2.toNat ((s181.1.getD s153.2.2.toNat default).set i180 (IntKind.u8.wrap s181.2))).length) ((EA .u8).encs (s181.1.set s153.2.2.toNat ((s181.1.getD s153.2.2.toNat default).set i180 (IntKind.u8.wrap s181.2)))) rfl (by simp) rfl
    refine dn ?_
    refine cw_region ?_
    refine s_mv (v := .int .i64 s181.2) (sx hS_ 1 rfl) ?_
    refine s_add rfl rfl ?_
    refine s_as (v := .int .i64 (IntKind.i64.wrap (s181.2 + 1))) rfl ?_
    refine done ?_
    refine blk_norm ?_
    refine then_norm ?_
    refine cw_region ?_
    refine s_mv (v := .int .i64 (i180 : Int)) (sx hS_ 4 rfl) ?_
    refine s_add rfl rfl ?_
    refine s_as (v := .int .i64 (IntKind.i64.wrap ((i180 : Int) + 1))) rfl ?_
    refine done ?_
    exact hK184 (s181.1.set s153.2.2.toNat ((s181.1.getD s153.2.2.toNat default).set i180 (IntKind.u8.wrap s181.2)), IntKind.i64.wrap (s181.2 + 1)) _ _ ⟨(sk (sx hS_ 0 rfl) (sk rfl (sk (sx hS_ 2 rfl) (sk (sx hS_ 3 rfl) (sk (tr rfl (congrArg _ (wrap64_nat hi185 (by decide)))) (sk (sx hS_ 5 rfl) (sk (sx hS_ 6 rfl) (sk (sx hS_ 7 rfl) (sk (sx hS_ 8 rfl) sn))))))))), hC⟩ h
   ·clear hC h
    rintro s181 e_ w193 K183 ⟨hS_, hC⟩ h
    refine wp_seq ?_
    refine sr ?_
    refine s_mv (v := .int .i64 8) (sx hS_ 4 rfl) ?_
    refine s_lss rfl rfl ?_
    refine dn ?_
    refine cw_false rfl (decide_eq_false (by omega)) ?_
    refine wp_exit (then_exit (then_exit (exit_in ?_)))
    refine blk_norm ?_
    refine then_norm ?_
    refine cw_region ?_
    refine s_mv (v := .int .i64 s153.2.2) (sx hS_ 3 rfl) ?_
    refine s_add rfl rfl ?_
    refine s_as (v := .int .i64 (IntKind.i64.wrap (s153.2.2 + 1))) rfl ?_
    refine done ?_
    exact hK156 (s181.1, s181.2, IntKind.i64.wrap (s153.2.2 + 1)) _ _ ⟨(sk (sx hS_ 0 rfl) (sk (sx hS_ 1 rfl) (sk (sx hS_ 2 rfl) (sk rfl sn)))), hC⟩ h
   ·skip
    exact ⟨(sk (sx hS_ 0 rfl) (sk (sx hS_ 1 rfl) (sk (sx hS_ 2 rfl) (sk (sx hS_ 3 rfl) (sk rfl (sk rfl (sk rfl (sk rfl (sk rfl sn))))))))), hC⟩
  ·replace h := iff_ h (cf hb161)
   refine wp_exit (then_exit (then_exit (exit_in ?_)))
   refine then_norm ?_
   refine sr ?_
   refine s_mv (v := .int .i64 s153.2.1) (sx hS_ 1 rfl) ?_
   refine s_as (v := .int .i64 s153.2.1) rfl ?_
   refine dn ?_
   refine wp_ret ?_
   refine ret1 (fn := Try.f28) rfl ?_ ⟨s153.2.1, s153.1, rfl, h, (hC.getM 0 rfl), hC.belO⟩ (.inl rfl)
   exact res_tmp rfl
 ·skip
  exact ⟨(sk rfl (sk rfl (sk rfl (sk rfl sn)))), hC⟩
def f_laws_markFormS (a0 : List Vc.Form) (a1 : Int) (K : Int → List Vc.Form → Prop) : Prop :=
 whileP (fun (s129 : (List Vc.Form) × Int × Int) next130 => (if s129.2.2 < (s129.1.length : Int) then ((0 ≤ s129.2.2 ∧ s129.2.2 < (s129.1.length : Int)) ∧ f_laws_markTermS ((s129.1.getD s129.2.2.toNat default).terms) s129.2.1 (fun r160 m162 => next130 (s129.1.set s129.2.2.toNat (⟨m162⟩ : Vc.Form), r160, IntKind.i64.wrap (s129.2.2 + 1)))) else K s129.2.1 s129.1)) (a0, a1, 0)
theorem c_laws_markFormS (a0 : List Vc.Form) (a1 : Int) {u0_0 : Value} {fp0_0 : List Nat} {K : Int → List Vc.Form → Prop} (h : f_laws_markFormS a0 a1 K) (w0 : World) (qw0 : (Tr.item (Tr.sl 51 (TrForm 93)) a0 [u0_0] fp0_0).holds w0) :
  Calls Try.prog 72 #[u0_0, .int .i64 a1] w0 fun e w' => ∃ (r0 : Int) (mw : List Vc.Form), 
   e = .returned (.int .i64 r0) ∧ K r0 mw ∧ (Tr.item (Tr.sl 51 (TrForm 93)) mw [u0_0] fp0_0).holds w' ∧ BelO (fp0_0) w0 w' := by
 unfold f_laws_markFormS at h
 refine calls_of (args := [u0_0, .int .i64 a1]) Try.func72 rfl 20 Try.ntmps72 (Nat.le_of_ble_eq_true rfl) ?_
 have hC := Ctx.startL w0 (fp0_0) [Tr.item (Tr.sl 51 (TrForm 93)) a0 [u0_0] fp0_0] [] (by simp only [List.mem_cons, List.not_mem_nil, or_false, forall_eq_or_imp, forall_eq]; exact qw0) (by simp) (by simp only [List.mem_cons, List.not_mem_nil, or_false, forall_eq_or_imp, forall_eq]; exact fun b hb => hb) (List.pairwise_singleton _ _) (by simp)
 refine sr ?_
 refine s_as (v := .int .i64 0) rfl ?_
 refine dn ?_
 refine wp_seq ?_
 refine sr ?_
 refine s_as (v := .int .i64 0) rfl ?_
 refine dn ?_
 refine wp_block ?_
 refine loopW (S := (List Vc.Form) × Int × Int) _ (fun s129 e_ w_ => Slots e_ [(0, u0_0), (1, .int .i64 s129.2.1), (4, .int .i64 0), (5, .int .i64 s129.2.2)] ∧ Ctx (fun c_ => c_ ∈ fp0_0) w0 w_ [Tr.item (Tr.sl 51 (TrForm 93)) s129.1 [u0_0] fp0_0] []) ?_ (s0 := (a0, a1, 0)) ?_ h
 ·clear hC h
  rintro s129 e_ w133 next130 K131 ⟨hS_, hC⟩ h hK132
  refine wp_seq ?_
  refine sr ?_
  refine s_mv (v := .int .i64 s129.2.2) (sx hS_ 3 rfl) ?_
  refine s_mv (v := u0_0) (sx hS_ 0 rfl) ?_
  obtain ⟨Ad134, c135, hv136⟩ := tr_form (hC.getM 0 rfl)
  refine s_len Try.underlying32 (tr rfl hv136) ?_
  refine s_lss rfl rfl ?_
  refine dn ?_
  refine cw_cond rfl (fun hb137 => ?_) (fun hb137 => ?_)
  ·replace h := ift h (ct hb137)
   refine wp_skip ?_
   refine then_norm ?_
   refine wp_seq ?_
   refine wp_block ?_
   refine cw_region ?_
   refine s_mv (v := u0_0) (sx hS_ 0 rfl) ?_
   refine s_mv (v := .int .i64 s129.2.2) (sx hS_ 3 rfl) ?_
   obtain ⟨⟨h0_138, h1_139⟩, h⟩ := h
   obtain ⟨cs143, f144, ⟨g145, cap146, hv147, hcell148⟩, hin149, hsub150, hout151⟩ := tr_focus (hC.getM 0 rfl) s129.2.2.toNat (show s129.2.2.toNat < s129.1.length by omega)
   refine s_iaddrO (s129.2.2.toNat * 1) Try.underlying32 ag51.size (tr rfl hv147) rfl h0_138 h1_139 rfl ?_
   refine s_faddrB (s129.2.2.toNat * 1 + 0) Try.underlying51 rfl sc49.size rfl rfl ?_
   obtain ⟨u152, rfl⟩ := List.length_eq_one_iff.1 (show cs143.length = 1 from ((TrForm 93)).ty.len (Tr.trep _ hin149.1))
   have hin156 := hin149; rw [getD_eq _ _ (show s129.2.2.toNat < s129.1.length by omega)] at hin156
   obtain ⟨ho154, hf155⟩ := flat_tr (show (Tr.sl 93 ETerm.tr).tree ((s129.1.getD s129.2.2.toNat default).terms) [u152] f144 _ from hin156.1)
   subst hf155
   refine s_loadCS (u152) (cells_subO (o := 0) (k := 1) hcell148 rfl) sc49 rfl ?_
   refine s_mv (v := .int .i64 s129.2.1) (sx hS_ 1 rfl) ?_
   refine s_call [u152, .int .i64 s129.2.1] _ Try.func94 rfl rfl rfl (c_laws_markTermS ((s129.1.getD s129.2.2.toNat default).terms) s129.2.1 h _ ho154) (fun ret157 w159 hR158 => ?_)
   obtain ⟨r160, m162, rfl, h, hm163, hB161⟩ := hR158
   refine ⟨_, rfl, ?_⟩
   replace hC := hC.turn 0 (jt := Tr.item (Tr.sl 51 (TrForm 93)) (s129.1.set s129.2.2.toNat (⟨m162⟩ : Vc.Form)) [u0_0] fp0_0) rfl hB161.os hB161.tape hB161.output hB161.size hB161.drawn (fun c_ hc_ hn_ => hB161.old c_ hc_ (fun h_ => hn_ (hsub150 c_ h_))) (hout151 (⟨m162⟩ : Vc.Form) _ (tr_flat hm163) hB161) (fun b_ hb_ => .inl hb_)
   refine s_as (v := .int .i64 r160) rfl ?_
   refine done ?_
   refine blk_norm ?_
   refine then_norm ?_
   refine cw_region ?_
   refine s_mv (v := .int .i64 s129.2.2) (sx hS_ 3 rfl) ?_
   refine s_add rfl rfl ?_
   refine s_as (v := .int .i64 (IntKind.i64.wrap (s129.2.2 + 1))) rfl ?_
   refine done ?_
   exact hK132 (s129.1.set s129.2.2.toNat (⟨m162⟩ : Vc.Form), r160, IntKind.i64.wrap (s129.2.2 + 1)) _ _ ⟨(sk (sx hS_ 0 rfl) (sk rfl (sk (sx hS_ 2 rfl) (sk rfl sn)))), hC⟩ h
  ·replace h := iff_ h (cf hb137)
   refine wp_exit (then_exit (then_exit (exit_in ?_)))
   refine then_norm ?_
   refine sr ?_
   refine s_mv (v := .int .i64 s129.2.1) (sx hS_ 1 rfl) ?_
   refine s_as (v := .int .i64 s129.2.1) rfl ?_
   refine dn ?_
   refine wp_ret ?_
   refine ret1 (fn := Try.f72) rfl ?_ ⟨s129.2.1, s129.1, rfl, h, (hC.getM 0 rfl), hC.belO⟩ (.inl rfl)
   exact res_tmp rfl
 ·skip
  exact ⟨(sk rfl (sk rfl (sk rfl (sk rfl sn)))), hC⟩
def f_laws_markForm (a0 : Vc.Form) (a1 : Int) (K : Int → Vc.Form → Prop) : Prop :=
 f_laws_markTermS a0.terms a1 (fun r8 m10 => K r8 (⟨m10⟩ : Vc.Form))
theorem c_laws_markForm (a0 : Vc.Form) (a1 : Int) {u0_0 : Value} {K : Int → Vc.Form → Prop} (h : f_laws_markForm a0 a1 K) (w0 : World) (qw0 : (own 93 9 u0_0 a0.terms.length (ETerm.encs a0.terms)).holds w0) :
  Calls Try.prog 44 #[.agg #[u0_0], .int .i64 a1] w0 fun e w' => ∃ (r0 : Int) (mw : Vc.Form), 
   e = .returned (.int .i64 r0) ∧ K r0 mw ∧ (own 93 9 u0_0 mw.terms.length (ETerm.encs mw.terms)).holds w' ∧ BelO ((Option.toList (Value.ownBlock u0_0))) w0 w' := by
 unfold f_laws_markForm at h
 refine calls_of (args := [.agg #[u0_0], .int .i64 a1]) Try.func44 rfl 10 Try.ntmps44 (Nat.le_of_ble_eq_true rfl) ?_
 have hC := Ctx.startL w0 ((Option.toList (Value.ownBlock u0_0))) [own 93 9 u0_0 a0.terms.length (ETerm.encs a0.terms)] [] (by simp only [List.mem_cons, List.not_mem_nil, or_false, forall_eq_or_imp, forall_eq]; exact qw0) (by simp) (by simp only [List.mem_cons, List.not_mem_nil, or_false, forall_eq_or_imp, forall_eq]; exact fun b hb => hb) (List.pairwise_singleton _ _) (by simp)
 refine sr ?_
 refine s_box (v := .agg #[u0_0]) hC [u0_0] rfl rfl fun b2 w4 hB_ hC => ?_
 refine s_as (v := .int .i64 0) rfl ?_
 refine dn ?_
 refine sr ?_
 refine s_faddrB 0 Try.underlying51 rfl sc49.size rfl rfl ?_
 refine s_loadS hC 0 (u0_0) rfl sc49 rfl rfl ?_
 refine s_mv (v := .int .i64 a1) rfl ?_
 refine s_call [u0_0, .int .i64 a1] _ Try.func94 rfl rfl rfl (c_laws_markTermS a0.terms a1 h _ (hC.getM 1 rfl)) (fun ret5 w7 hR6 => ?_)
 obtain ⟨r8, m10, rfl, h, hm11, hB9⟩ := hR6
 refine ⟨_, rfl, ?_⟩
 replace hC := hC.turnL hB9 (M' := [blk b2 51 [u0_0], own 93 9 u0_0 m10.length (ETerm.encs m10)]) rfl (fun x_ hx_ => ⟨_, List.mem_of_getElem? (i := 1) rfl, hx_⟩) (by simp only [List.mem_cons, List.not_mem_nil, or_false, forall_eq_or_imp, forall_eq]; exact ⟨(hC.stay 0 rfl hB9 (fun x_ hq_ hx_ => hC.mm 0 1 rfl rfl (by decide) x_ hq_ hx_)), hm11⟩)
 refine s_as (v := .int .i64 r8) rfl ?_
 refine dn ?_
 refine sr ?_
 refine s_mv (v := .int .i64 r8) rfl ?_
 refine s_as (v := .int .i64 r8) rfl ?_
 refine dn ?_
 refine wp_ret ?_
 refine ret1 (fn := Try.f44) rfl ?_ ⟨r8, (⟨m10⟩ : Vc.Form), rfl, h, (hC.getM 1 rfl), hC.belO⟩ (.inl rfl)
 exact res_tmp rfl
def f_laws_markAlgebra (a0 : Alg) (a1 : Int) (K : Int → Alg → Prop) : Prop :=
 f_laws_markInt64S a0.degrees a1 (fun r9 m11 => f_laws_markFormS a0.images r9 (fun r16 m18 => K r16 (⟨m11, m18⟩ : Alg)))
theorem c_laws_markAlgebra (a0 : Alg) (a1 : Int) {u0_0 : Value} {u0_1 : Value} {fp0_1 : List Nat} {K : Int → Alg → Prop} (h : f_laws_markAlgebra a0 a1 K) (w0 : World) (qw0 : (own 2 1 u0_0 a0.degrees.length ((EI .i64).encs a0.degrees)).holds w0) (qw1 : (Tr.item (Tr.sl 51 (TrForm 93)) a0.images [u0_1] fp0_1).holds w0) (dw0_1 : ∀ x, x ∈ (Option.toList (Value.ownBlock u0_0)) → x ∉ fp0_1) :
  Calls Try.prog 22 #[.agg #[u0_0, u0_1], .int .i64 a1] w0 fun e w' => ∃ (r0 : Int) (mw : Alg), 
   e = .returned (.int .i64 r0) ∧ K r0 mw ∧ (own 2 1 u0_0 mw.degrees.length ((EI .i64).encs mw.degrees)).holds w' ∧ (Tr.item (Tr.sl 51 (TrForm 93)) mw.images [u0_1] fp0_1).holds w' ∧ BelO ((Option.toList (Value.ownBlock u0_0)) ++ fp0_1) w0 w' := by
 unfold f_laws_markAlgebra at h
 refine calls_of (args := [.agg #[u0_0, u0_1], .int .i64 a1]) Try.func22 rfl 14 Try.ntmps22 (Nat.le_of_ble_eq_true rfl) ?_
 have hC := Ctx.startL w0 ((Option.toList (Value.ownBlock u0_0)) ++ fp0_1) [own 2 1 u0_0 a0.degrees.length ((EI .i64).encs a0.degrees), Tr.item (Tr.sl 51 (TrForm 93)) a0.images [u0_1] fp0_1] [] (by simp only [List.mem_cons, List.not_mem_nil, or_false, forall_eq_or_imp, forall_eq]; exact ⟨qw0, qw1⟩) (by simp) (by simp only [List.mem_cons, List.not_mem_nil, or_false, forall_eq_or_imp, forall_eq]; exact ⟨fun b hb => (List.mem_append_left _ hb), fun b hb => (List.mem_append_right _ hb)⟩) (List.pairwise_cons.2 ⟨(by simp only [List.mem_cons, List.not_mem_nil, or_false, forall_eq_or_imp, forall_eq]; exact dw0_1), (List.pairwise_singleton _ _)⟩) (by simp)
 refine sr ?_
 refine s_box (v := .agg #[u0_0, u0_1]) hC [u0_0, u0_1] rfl rfl fun b3 w5 hB_ hC => ?_
 refine s_as (v := .int .i64 0) rfl ?_
 refine dn ?_
 refine sr ?_
 refine s_faddrB 0 Try.underlying34 rfl sc22.size rfl rfl ?_
 refine s_loadS hC 0 (u0_0) rfl sc22 rfl rfl ?_
 refine s_mv (v := .int .i64 a1) rfl ?_
 refine s_call [u0_0, .int .i64 a1] _ Try.func27 rfl rfl rfl (c_laws_markInt64S a0.degrees a1 h _ (hC.getM 1 rfl)) (fun ret6 w8 hR7 => ?_)
 obtain ⟨r9, m11, rfl, h, hm12, hB10⟩ := hR7
 refine ⟨_, rfl, ?_⟩
 replace hC := hC.turnL hB10 (M' := [blk b3 34 [u0_0, u0_1], own 2 1 u0_0 m11.length ((EI .i64).encs m11), Tr.item (Tr.sl 51 (TrForm 93)) a0.images [u0_1] fp0_1]) rfl (fun x_ hx_ => ⟨_, List.mem_of_getElem? (i := 1) rfl, hx_⟩) (by simp only [List.mem_cons, List.not_mem_nil, or_false, forall_eq_or_imp, forall_eq]; exact ⟨(hC.stay 0 rfl hB10 (fun x_ hq_ hx_ => hC.mm 0 1 rfl rfl (by decide) x_ hq_ hx_)), hm12, (hC.stay 2 rfl hB10 (fun x_ hq_ hx_ => hC.mm 2 1 rfl rfl (by decide) x_ hq_ hx_))⟩)
 refine s_as (v := .int .i64 r9) rfl ?_
 refine dn ?_
 refine sr ?_
 refine s_faddrB 1 Try.underlying34 rfl sc32.size rfl rfl ?_
 refine s_loadS hC 0 (u0_1) rfl sc32 rfl rfl ?_
 refine s_mv (v := .int .i64 r9) rfl ?_
 refine s_call [u0_1, .int .i64 r9] _ Try.func72 rfl rfl rfl (c_laws_markFormS a0.images r9 h _ (hC.getM 2 rfl)) (fun ret13 w15 hR14 => ?_)
 obtain ⟨r16, m18, rfl, h, hm19, hB17⟩ := hR14
 refine ⟨_, rfl, ?_⟩
 replace hC := hC.turnL hB17 (M' := [blk b3 34 [u0_0, u0_1], own 2 1 u0_0 m11.length ((EI .i64).encs m11), Tr.item (Tr.sl 51 (TrForm 93)) m18 [u0_1] fp0_1]) rfl (fun x_ hx_ => ⟨_, List.mem_of_getElem? (i := 2) rfl, hx_⟩) (by simp only [List.mem_cons, List.not_mem_nil, or_false, forall_eq_or_imp, forall_eq]; exact ⟨(hC.stay 0 rfl hB17 (fun x_ hq_ hx_ => hC.mm 0 2 rfl rfl (by decide) x_ hq_ hx_)), (hC.stay 1 rfl hB17 (fun x_ hq_ hx_ => hC.mm 1 2 rfl rfl (by decide) x_ hq_ hx_)), hm19⟩)
 refine s_as (v := .int .i64 r16) rfl ?_
 refine dn ?_
 refine sr ?_
 refine s_mv (v := .int .i64 r16) rfl ?_
 refine s_as (v := .int .i64 r16) rfl ?_
 refine dn ?_
 refine wp_ret ?_
 refine ret1 (fn := Try.f22) rfl ?_ ⟨r16, (⟨m11, m18⟩ : Alg), rfl, h, (hC.getM 1 rfl), (hC.getM 2 rfl), hC.belO⟩ (.inl rfl)
 exact res_tmp rfl
def f_laws_heldInt64S (a0 : List Int) (a1 : Int) (K : Int → Prop) : Prop :=
 forN (fun i25 (s26 : Int) next28 => (if a0.getD i25 default ≠ s26 then K (-1) else next28 (IntKind.i64.wrap (s26 + 1)))) (fun (s26 : Int) => K s26) a0.length 0 a1
theorem c_laws_heldInt64S (a0 : List Int) (a1 : Int) {u0_0 : Value} {fp0 : List Nat} {K : Int → Prop} (h : f_laws_heldInt64S a0 a1 K) (w0 : World) (q0 : ((EI .i64).ty.sl).rep a0 [u0_0] fp0 w0) :
  Calls Try.prog 73 #[u0_0, .int .i64 a1] w0 fun e w' => ∃ (r0 : Int), 
   e = .returned (.int .i64 r0) ∧ K r0 ∧ Bel w0 w' := by
 unfold f_laws_heldInt64S at h
 refine calls_of (args := [u0_0, .int .i64 a1]) Try.func73 rfl 21 Try.ntmps73 (Nat.le_of_ble_eq_true rfl) ?_
 have hC := Ctx.start (X := Nox) w0 [Ty.item ((EI .i64).ty.sl) a0 [u0_0] fp0] (by simp only [List.mem_cons, List.not_mem_nil, or_false, forall_eq_or_imp, forall_eq]; exact q0)
 refine sr ?_
 refine s_as (v := .int .i64 0) rfl ?_
 refine dn ?_
 refine wp_seq ?_
 refine sr ?_
 refine s_as (v := .int .i64 0) rfl ?_
 refine dn ?_
 refine wp_block ?_
 have hN27 : a0.length ≤ 9223372036854775807 := sl_max (hC.getP 0 rfl)
 refine loopN (S := Int) _ _ (fun i25 s26 e_ w_ => Slots e_ [(0, u0_0), (1, .int .i64 s26), (4, .int .i64 0), (5, .int .i64 (i25 : Int))] ∧ Ctx Nox w0 w_ [] [Ty.item ((EI .i64).ty.sl) a0 [u0_0] fp0]) a0.length ?_ ?_ (s0 := a1) ?_ h
 ·clear hC h
  rintro i25 s26 e_ w32 next28 K29 hi31 ⟨hS_, hC⟩ h hK30
  refine wp_seq ?_
  refine sr ?_
  refine s_mv (v := .int .i64 (i25 : Int)) (sx hS_ 3 rfl) ?_
  refine s_mv (v := u0_0) (sx hS_ 0 rfl) ?_
  obtain ⟨Ad33, c34, hv35⟩ := sl_len (hC.getP 0 rfl)
  refine s_len Try.underlying22 (tr rfl hv35) ?_
  refine s_lss rfl rfl ?_
  refine dn ?_
  refine cw_true rfl (decide_eq_true (by omega)) ?_
  refine wp_skip ?_
  refine then_norm ?_
  refine wp_seq ?_
  refine wp_block ?_
  refine wp_seq ?_
  refine sr ?_
  refine s_mv (v := u0_0) (sx hS_ 0 rfl) ?_
  refine s_mv (v := .int .i64 (i25 : Int)) (sx hS_ 3 rfl) ?_
  obtain ⟨Ad36, c37, hv38⟩ := sl_form (hC.getP 0 rfl) i25 hi31
  refine s_iaddrS (len := a0.length) Try.underlying22 sc2.size (tr rfl hv38) rfl (Int.natCast_nonneg _) (Int.ofNat_lt.2 hi31) ?_
  refine s_loadCS (.int .i64 (a0.getD i25 default)) (sl_cellsE (hC.getP 0 rfl) hv38 i25 hi31) sc2 rfl ?_
  refine s_mv (v := .int .i64 s26) (sx hS_ 1 rfl) ?_
  refine s_neq rfl rfl ?_
  refine dn ?_
  refine cw_cond rfl (fun hb39 => ?_) (fun hb39 => ?_)
  ·replace h := ift h (ct hb39)
   refine sr ?_
   refine s_as (v := .int .i64 (-1)) rfl ?_
   refine dn ?_
   refine wp_ret (then_ret (blk_ret (then_ret (then_ret (blk_ret (then_ret ?_))))))
   refine ret1 (fn := Try.f73) rfl ?_ ⟨(-1), rfl, h, hC.below⟩ (.inl rfl)
   exact res_tmp rfl
  ·replace h := iff_ h (cf hb39)
   refine wp_skip ?_
   refine then_norm ?_
   refine cw_region ?_
   refine s_mv (v := .int .i64 s26) (sx hS_ 1 rfl) ?_
   refine s_add rfl rfl ?_
   refine s_as (v := .int .i64 (IntKind.i64.wrap (s26 + 1))) rfl ?_
   refine done ?_
   refine blk_norm ?_
   refine then_norm ?_
   refine cw_region ?_
   refine s_mv (v := .int .i64 (i25 : Int)) (sx hS_ 3 rfl) ?_
   refine s_add rfl rfl ?_
   refine s_as (v := .int .i64 (IntKind.i64.wrap ((i25 : Int) + 1))) rfl ?_
   refine done ?_
   exact hK30 (IntKind.i64.wrap (s26 + 1)) _ _ ⟨(sk (sx hS_ 0 rfl) (sk rfl (sk (sx hS_ 2 rfl) (sk (tr rfl (congrArg _ (wrap64_nat hi31 hN27))) sn)))), hC⟩ h
 ·clear hC h
  rintro s26 e_ w40 K29 ⟨hS_, hC⟩ h
  refine wp_seq ?_
  refine sr ?_
  refine s_mv (v := .int .i64 (a0.length : Int)) (sx hS_ 3 rfl) ?_
  refine s_mv (v := u0_0) (sx hS_ 0 rfl) ?_
  obtain ⟨Ad41, c42, hv43⟩ := sl_len (hC.getP 0 rfl)
  refine s_len Try.underlying22 (tr rfl hv43) ?_
  refine s_lss rfl rfl ?_
  refine dn ?_
  refine cw_false rfl (decide_eq_false (by omega)) ?_
  refine wp_exit (then_exit (then_exit (exit_in ?_)))
  refine then_norm ?_
  refine sr ?_
  refine s_mv (v := .int .i64 s26) (sx hS_ 1 rfl) ?_
  refine s_as (v := .int .i64 s26) rfl ?_
  refine dn ?_
  refine wp_ret ?_
  refine ret1 (fn := Try.f73) rfl ?_ ⟨s26, rfl, h, hC.below⟩ (.inl rfl)
  exact res_tmp rfl
 ·skip
  exact ⟨(sk rfl (sk rfl (sk rfl (sk rfl sn)))), hC⟩
def f_laws_heldTermS (a0 : List Term) (a1 : Int) (K : Int → Prop) : Prop :=
 forN (fun i93 (s94 : Int) next96 => forN (fun i126 (s127 : Int) next128 => (if ((a0.getD i93 default).mono).get i126 ≠ IntKind.u8.wrap s127 then K (-1) else next128 (IntKind.i64.wrap (s127 + 1)))) (fun (s127 : Int) => (if (a0.getD i93 default).factor ≠ s127 then K (-1) else next96 (IntKind.i64.wrap (s127 + 1)))) 8 0 s94) (fun (s94 : Int) => K s94) a0.length 0 a1
theorem c_laws_heldTermS (a0 : List Term) (a1 : Int) {u0_0 : Value} {fp0 : List Nat} {K : Int → Prop} (h : f_laws_heldTermS a0 a1 K) (w0 : World) (q0 : ETerm.ty.sl.rep a0 [u0_0] fp0 w0) :
  Calls Try.prog 95 #[u0_0, .int .i64 a1] w0 fun e w' => ∃ (r0 : Int), 
   e = .returned (.int .i64 r0) ∧ K r0 ∧ Bel w0 w' := by
 unfold f_laws_heldTermS at h
 refine calls_of (args := [u0_0, .int .i64 a1]) Try.func95 rfl 39 Try.ntmps95 (Nat.le_of_ble_eq_true rfl) ?_
 have hC := Ctx.start (X := Nox) w0 [Ty.item ETerm.ty.sl a0 [u0_0] fp0] (by simp only [List.mem_cons, List.not_mem_nil, or_false, forall_eq_or_imp, forall_eq]; exact q0)
 refine sr ?_
 refine s_as (v := .int .i64 0) rfl ?_
 refine dn ?_
 refine wp_seq ?_
 refine sr ?_
 refine s_as (v := .int .i64 0) rfl ?_
 refine dn ?_
 refine wp_block ?_
 have hN95 : a0.length ≤ 9223372036854775807 := sl_max (hC.getP 0 rfl)
 refine loopN (S := Int) _ _ (fun i93 s94 e_ w_ => Slots e_ [(0, u0_0), (1, .int .i64 s94), (4, .int .i64 0), (5, .int .i64 (i93 : Int))] ∧ Ctx Nox w0 w_ [] [Ty.item ETerm.ty.sl a0 [u0_0] fp0]) a0.length ?_ ?_ (s0 := a1) ?_ h
 ·clear hC h
  rintro i93 s94 e_ w100 next96 K97 hi99 ⟨hS_, hC⟩ h hK98
  refine wp_seq ?_
  refine sr ?_
  refine s_mv (v := .int .i64 (i93 : Int)) (sx hS_ 3 rfl) ?_
  refine s_mv (v := u0_0) (sx hS_ 0 rfl) ?_
  obtain ⟨Ad101, c102, hv103⟩ := sl_len (hC.getP 0 rfl)
  refine s_len Try.underlying49 (tr rfl hv103) ?_
  refine s_lss rfl rfl ?_
  refine dn ?_
  refine cw_true rfl (decide_eq_true (by omega)) ?_
  refine wp_skip ?_
  refine then_norm ?_
  refine wp_seq ?_
  refine wp_block ?_
  refine wp_seq ?_
  refine sr ?_
  refine s_as (v := .int .i64 0) rfl ?_
  refine dn ?_
  refine wp_block ?_
  refine loopN (S := Int) _ _ (fun i126 s127 e_ w_ => Slots e_ [(0, u0_0), (1, .int .i64 s127), (4, .int .i64 0), (5, .int .i64 (i93 : Int)), (6, .int .i64 (i126 : Int)), (7, .int .i64 (i93 : Int)), (8, u0_0), (9, .int .i64 (a0.length : Int)), (10, .bool (decide ((i93 : Int) < (a0.length : Int))))] ∧ Ctx Nox w0 w_ [] [Ty.item ETerm.ty.sl a0 [u0_0] fp0]) 8 ?_ ?_ (s0 := s94) ?_ h
  ·clear hC h
   rintro i126 s127 e_ w132 next128 K129 hi131 ⟨hS_, hC⟩ h hK130
   refine wp_seq ?_
   refine sr ?_
   refine s_mv (v := .int .i64 (i126 : Int)) (sx hS_ 4 rfl) ?_
   refine s_lss rfl rfl ?_
   refine dn ?_
   refine cw_true rfl (decide_eq_true (by omega)) ?_
   refine wp_skip ?_
   refine then_norm ?_
   refine wp_seq ?_
   refine wp_block ?_
   refine wp_seq ?_
   refine sr ?_
   refine s_mv (v := u0_0) (sx hS_ 0 rfl) ?_
   refine s_mv (v := .int .i64 (i93 : Int)) (sx hS_ 3 rfl) ?_
   refine s_mv (v := .int .i64 (i126 : Int)) (sx hS_ 4 rfl) ?_
   obtain ⟨Ad133, c134, hv135⟩ := sl_form (hC.getP 0 rfl) i93 hi99
   refine s_iaddrS (len := a0.length) Try.underlying49 ag93.size (tr rfl hv135) rfl (Int.natCast_nonneg _) (Int.ofNat_lt.2 hi99) ?_
   refine s_faddrS (i93 * 9 + 0) Try.underlying93 rfl ag24.size rfl rfl ?_
   refine s_iaddrSa (i93 * 9 + 0 + i126) Try.underlying24 sc5.size rfl rfl (Int.natCast_nonneg _) (by omega) (by omega) ?_
   refine s_loadCS (.int .u8 (((a0.getD i93 default).mono).get i126)) (cells_subS (o := i126) (k := 1) (sl_cellsE (hC.getP 0 rfl) hv135 i93 hi99) (arr_at (r := _) hi131)) sc5 rfl ?_
   refine s_mv (v := .int .i64 s127) (sx hS_ 1 rfl) ?_
   refine s_conv Try.underlying3 Try.underlying5 rfl ?_
   refine s_neq rfl rfl ?_
   refine dn ?_
   refine cw_cond rfl (fun hb136 => ?_) (fun hb136 => ?_)
   ·replace h := ift h (ct hb136)
    refine sr ?_
    refine s_as (v := .int .i64 (-1)) rfl ?_
    refine dn ?_
    refine wp_ret (then_ret (blk_ret (then_ret (then_ret (blk_ret (then_ret (blk_ret (then_ret (then_ret (blk_ret (then_ret ?_)))))))))))
    refine ret1 (fn := Try.f95) rfl ?_ ⟨(-1), rfl, h, hC.below⟩ (.inl rfl)
    exact res_tmp rfl
   ·replace h := iff_ h (cf hb136)
    refine wp_skip ?_
    refine then_norm ?_
    refine cw_region ?_
    refine s_mv (v := .int .i64 s127) (sx hS_ 1 rfl) ?_
    refine s_add rfl rfl ?_
    refine s_as (v := .int .i64 (IntKind.i64.wrap (s127 + 1))) rfl ?_
    refine done ?_
    refine blk_norm ?_
    refine then_norm ?_
    refine cw_region ?_
    refine s_mv (v := .int .i64 (i126 : Int)) (sx hS_ 4 rfl) ?_
    refine s_add rfl rfl ?_
    refine s_as (v := .int .i64 (IntKind.i64.wrap ((i126 : Int) + 1))) rfl ?_
    refine done ?_
    exact hK130 (IntKind.i64.wrap (s127 + 1)) _ _ ⟨(sk (sx hS_ 0 rfl) (sk rfl (sk (sx hS_ 2 rfl) (sk (sx hS_ 3 rfl) (sk (tr rfl (congrArg _ (wrap64_nat hi131 (by decide)))) (sk (sx hS_ 5 rfl) (sk (sx hS_ 6 rfl) (sk (sx hS_ 7 rfl) (sk (sx hS_ 8 rfl) sn))))))))), hC⟩ h
  ·clear hC h
   rintro s127 e_ w137 K129 ⟨hS_, hC⟩ h
   refine wp_seq ?_
   refine sr ?_
   refine s_mv (v := .int .i64 8) (sx hS_ 4 rfl) ?_
   refine s_lss rfl rfl ?_
   refine dn ?_
   refine cw_false rfl (decide_eq_false (by omega)) ?_
   refine wp_exit (then_exit (then_exit (exit_in ?_)))
   refine then_norm ?_
   refine wp_seq ?_
   refine sr ?_
   refine s_mv (v := u0_0) (sx hS_ 0 rfl) ?_
   refine s_mv (v := .int .i64 (i93 : Int)) (sx hS_ 3 rfl) ?_
   obtain ⟨Ad138, c139, hv140⟩ := sl_form (hC.getP 0 rfl) i93 hi99
   refine s_iaddrS (len := a0.length) Try.underlying49 ag93.size (tr rfl hv140) rfl (Int.natCast_nonneg _) (Int.ofNat_lt.2 hi99) ?_
   refine s_faddrS (i93 * 9 + 8) Try.underlying93 rfl sc2.size rfl rfl ?_
   refine s_loadCS (.int .i64 ((a0.getD i93 default).factor)) (cells_subS (o := 8) (k := 1) (sl_cellsE (hC.getP 0 rfl) hv140 i93 hi99) rfl) sc2 rfl ?_
   refine s_mv (v := .int .i64 s127) (sx hS_ 1 rfl) ?_
   refine s_neq rfl rfl ?_
   refine dn ?_
   refine cw_cond rfl (fun hb141 => ?_) (fun hb141 => ?_)
   ·replace h := ift h (ct hb141)
    refine sr ?_
    refine s_as (v := .int .i64 (-1)) rfl ?_
    refine dn ?_
    refine wp_ret (then_ret (blk_ret (then_ret (then_ret (blk_ret (then_ret ?_))))))
    refine ret1 (fn := Try.f95) rfl ?_ ⟨(-1), rfl, h, hC.below⟩ (.inl rfl)
    exact res_tmp rfl
   ·replace h := iff_ h (cf hb141)
    refine wp_skip ?_
    refine then_norm ?_
    refine cw_region ?_
    refine s_mv (v := .int .i64 s127) (sx hS_ 1 rfl) ?_
    refine s_add rfl rfl ?_
    refine s_as (v := .int .i64 (IntKind.i64.wrap (s127 + 1))) rfl ?_
    refine done ?_
    refine blk_norm ?_
    refine then_norm ?_
    refine cw_region ?_
    refine s_mv (v := .int .i64 (i93 : Int)) (sx hS_ 3 rfl) ?_
    refine s_add rfl rfl ?_
    refine s_as (v := .int .i64 (IntKind.i64.wrap ((i93 : Int) + 1))) rfl ?_
    refine done ?_
    exact hK98 (IntKind.i64.wrap (s127 + 1)) _ _ ⟨(sk (sx hS_ 0 rfl) (sk rfl (sk (sx hS_ 2 rfl) (sk (tr rfl (congrArg _ (wrap64_nat hi99 hN95))) sn)))), hC⟩ h
  ·skip
   exact ⟨(sk (sx hS_ 0 rfl) (sk (sx hS_ 1 rfl) (sk (sx hS_ 2 rfl) (sk (sx hS_ 3 rfl) (sk rfl (sk rfl (sk rfl (sk rfl (sk rfl sn))))))))), hC⟩
 ·clear hC h
  rintro s94 e_ w142 K97 ⟨hS_, hC⟩ h
  refine wp_seq ?_
  refine sr ?_
  refine s_mv (v := .int .i64 (a0.length : Int)) (sx hS_ 3 rfl) ?_
  refine s_mv (v := u0_0) (sx hS_ 0 rfl) ?_
  obtain ⟨Ad143, c144, hv145⟩ := sl_len (hC.getP 0 rfl)
  refine s_len Try.underlying49 (tr rfl hv145) ?_
  refine s_lss rfl rfl ?_
  refine dn ?_
  refine cw_false rfl (decide_eq_false (by omega)) ?_
  refine wp_exit (then_exit (then_exit (exit_in ?_)))
  refine then_norm ?_
  refine sr ?_
  refine s_mv (v := .int .i64 s94) (sx hS_ 1 rfl) ?_
  refine s_as (v := .int .i64 s94) rfl ?_
  refine dn ?_
  refine wp_ret ?_
  refine ret1 (fn := Try.f95) rfl ?_ ⟨s94, rfl, h, hC.below⟩ (.inl rfl)
  exact res_tmp rfl
 ·skip
  exact ⟨(sk rfl (sk rfl (sk rfl (sk rfl sn)))), hC⟩
def f_laws_heldFormS (a0 : List Vc.Form) (a1 : Int) (K : Int → Prop) : Prop :=
 forN (fun i47 (s48 : Int) next50 => f_laws_heldTermS ((a0.getD i47 default).terms) s48 (fun r70 => (if r70 < 0 then K (-1) else next50 r70))) (fun (s48 : Int) => K s48) a0.length 0 a1
theorem c_laws_heldFormS (a0 : List Vc.Form) (a1 : Int) {u0_0 : Value} {fp0 : List Nat} {K : Int → Prop} (h : f_laws_heldFormS a0 a1 K) (w0 : World) (q0 : TForm.sl.rep a0 [u0_0] fp0 w0) :
  Calls Try.prog 74 #[u0_0, .int .i64 a1] w0 fun e w' => ∃ (r0 : Int), 
   e = .returned (.int .i64 r0) ∧ K r0 ∧ Bel w0 w' := by
 unfold f_laws_heldFormS at h
 refine calls_of (args := [u0_0, .int .i64 a1]) Try.func74 rfl 22 Try.ntmps74 (Nat.le_of_ble_eq_true rfl) ?_
 have hC := Ctx.start (X := Nox) w0 [Ty.item TForm.sl a0 [u0_0] fp0] (by simp only [List.mem_cons, List.not_mem_nil, or_false, forall_eq_or_imp, forall_eq]; exact q0)
 refine sr ?_
 refine s_as (v := .int .i64 0) rfl ?_
 refine dn ?_
 refine wp_seq ?_
 refine sr ?_
 refine s_as (v := .int .i64 0) rfl ?_
 refine dn ?_
 refine wp_block ?_
 have hN49 : a0.length ≤ 9223372036854775807 := sl_max (hC.getP 0 rfl)
 refine loopN (S := Int) _ _ (fun i47 s48 e_ w_ => Slots e_ [(0, u0_0), (1, .int .i64 s48), (4, .int .i64 0), (5, .int .i64 (i47 : Int))] ∧ Ctx Nox w0 w_ [] [Ty.item TForm.sl a0 [u0_0] fp0]) a0.length ?_ ?_ (s0 := a1) ?_ h
 ·clear hC h
  rintro i47 s48 e_ w54 next50 K51 hi53 ⟨hS_, hC⟩ h hK52
  refine wp_seq ?_
  refine sr ?_
  refine s_mv (v := .int .i64 (i47 : Int)) (sx hS_ 3 rfl) ?_
  refine s_mv (v := u0_0) (sx hS_ 0 rfl) ?_
  obtain ⟨Ad55, c56, hv57⟩ := sl_len (hC.getP 0 rfl)
  refine s_len Try.underlying32 (tr rfl hv57) ?_
  refine s_lss rfl rfl ?_
  refine dn ?_
  refine cw_true rfl (decide_eq_true (by omega)) ?_
  refine wp_skip ?_
  refine then_norm ?_
  refine wp_seq ?_
  refine wp_block ?_
  refine sr ?_
  refine s_mv (v := u0_0) (sx hS_ 0 rfl) ?_
  refine s_mv (v := .int .i64 (i47 : Int)) (sx hS_ 3 rfl) ?_
  obtain ⟨Ad58, c59, hv60⟩ := sl_form (hC.getP 0 rfl) i47 hi53
  refine s_iaddrS (len := a0.length) Try.underlying32 ag51.size (tr rfl hv60) rfl (Int.natCast_nonneg _) (Int.ofNat_lt.2 hi53) ?_
  refine s_faddrS (i47 * 1 + 0) Try.underlying51 rfl sc49.size rfl rfl ?_
  obtain ⟨cs_, hl62, hc63, hr64⟩ := sl_cells (hC.getP 0 rfl) hv60 i47 hi53
  obtain ⟨u61, rfl⟩ := List.length_eq_one_iff.1 hl62
  clear hl62
  rw [getD_eq _ _ hi53] at hr64
  have hp65 := hr64
  replace hC := hC.derive 0 rfl (Ty.item ETerm.ty.sl ((a0.getD i47 default).terms) [u61] fp0) (fun _ => (form_parts hp65)) (fun _ hb_ => hb_)
  refine s_loadCS (u61) (cells_subS (o := 0) (k := 1) hc63 rfl) sc49 rfl ?_
  refine s_mv (v := .int .i64 s48) (sx hS_ 1 rfl) ?_
  refine s_call [u61, .int .i64 s48] _ Try.func95 rfl rfl rfl (c_laws_heldTermS ((a0.getD i47 default).terms) s48 h _ (hC.getP 0 rfl)) (fun ret67 w69 hR68 => ?_)
  obtain ⟨r70, rfl, h, hB71⟩ := hR68
  refine ⟨_, rfl, ?_⟩
  replace hC := hC.grow hB71
  refine s_as (v := .int .i64 r70) rfl ?_
  refine dn ?_
  refine sr ?_
  refine s_mv (v := .int .i64 r70) rfl ?_
  refine s_lss rfl rfl ?_
  refine dn ?_
  refine cw_cond rfl (fun hb72 => ?_) (fun hb72 => ?_)
  ·replace h := ift h (ct hb72)
   refine sr ?_
   refine s_as (v := .int .i64 (-1)) rfl ?_
   refine dn ?_
   refine wp_ret (blk_ret (then_ret (then_ret (blk_ret (then_ret ?_)))))
   refine ret1 (fn := Try.f74) rfl ?_ ⟨(-1), rfl, h, hC.below⟩ (.inl rfl)
   exact res_tmp rfl
  ·replace h := iff_ h (cf hb72)
   refine wp_skip ?_
   refine blk_norm ?_
   refine then_norm ?_
   refine cw_region ?_
   refine s_mv (v := .int .i64 (i47 : Int)) (sx hS_ 3 rfl) ?_
   refine s_add rfl rfl ?_
   refine s_as (v := .int .i64 (IntKind.i64.wrap ((i47 : Int) + 1))) rfl ?_
   refine done ?_
   replace hC := hC.sel [] [1] (M' := []) (Ps' := [Ty.item TForm.sl a0 [u0_0] fp0]) (by decide) rfl rfl
   exact hK52 r70 _ _ ⟨(sk (sx hS_ 0 rfl) (sk rfl (sk (sx hS_ 2 rfl) (sk (tr rfl (congrArg _ (wrap64_nat hi53 hN49))) sn)))), hC⟩ h
 ·clear hC h
  rintro s48 e_ w73 K51 ⟨hS_, hC⟩ h
  refine wp_seq ?_
  refine sr ?_
  refine s_mv (v := .int .i64 (a0.length : Int)) (sx hS_ 3 rfl) ?_
  refine s_mv (v := u0_0) (sx hS_ 0 rfl) ?_
  obtain ⟨Ad74, c75, hv76⟩ := sl_len (hC.getP 0 rfl)
  refine s_len Try.underlying32 (tr rfl hv76) ?_
  refine s_lss rfl rfl ?_
  refine dn ?_
  refine cw_false rfl (decide_eq_false (by omega)) ?_
  refine wp_exit (then_exit (then_exit (exit_in ?_)))
  refine then_norm ?_
  refine sr ?_
  refine s_mv (v := .int .i64 s48) (sx hS_ 1 rfl) ?_
  refine s_as (v := .int .i64 s48) rfl ?_
  refine dn ?_
  refine wp_ret ?_
  refine ret1 (fn := Try.f74) rfl ?_ ⟨s48, rfl, h, hC.below⟩ (.inl rfl)
  exact res_tmp rfl
 ·skip
  exact ⟨(sk rfl (sk rfl (sk rfl (sk rfl sn)))), hC⟩
def f_laws_heldForm (a0 : Vc.Form) (a1 : Int) (K : Int → Prop) : Prop :=
 f_laws_heldTermS a0.terms a1 (fun r10 => (if r10 < 0 then K (-1) else K r10))
theorem c_laws_heldForm (a0 : Vc.Form) (a1 : Int) {u0_0 : Value} {fp0 : List Nat} {K : Int → Prop} (h : f_laws_heldForm a0 a1 K) (w0 : World) (q0 : TForm.rep a0 [u0_0] fp0 w0) :
  Calls Try.prog 45 #[.agg #[u0_0], .int .i64 a1] w0 fun e w' => ∃ (r0 : Int), 
   e = .returned (.int .i64 r0) ∧ K r0 ∧ Bel w0 w' := by
 unfold f_laws_heldForm at h
 refine calls_of (args := [.agg #[u0_0], .int .i64 a1]) Try.func45 rfl 12 Try.ntmps45 (Nat.le_of_ble_eq_true rfl) ?_
 have hC := Ctx.start (X := Nox) w0 [Ty.item TForm a0 [u0_0] fp0] (by simp only [List.mem_cons, List.not_mem_nil, or_false, forall_eq_or_imp, forall_eq]; exact q0)
 have hp2 := (hC.getP 0 rfl)
 replace hC := hC.derive 0 rfl (Ty.item ETerm.ty.sl a0.terms [u0_0] fp0) (fun _ => (form_parts hp2)) (fun _ hb_ => hb_)
 refine sr ?_
 refine s_box (v := .agg #[u0_0]) hC [u0_0] rfl rfl fun b4 w6 hB_ hC => ?_
 refine s_as (v := .int .i64 0) rfl ?_
 refine dn ?_
 refine sr ?_
 refine s_faddrB 0 Try.underlying51 rfl sc49.size rfl rfl ?_
 refine s_loadS hC 0 (u0_0) rfl sc49 rfl rfl ?_
 refine s_mv (v := .int .i64 a1) rfl ?_
 refine s_call [u0_0, .int .i64 a1] _ Try.func95 rfl rfl rfl (c_laws_heldTermS a0.terms a1 h _ (hC.getP 0 rfl)) (fun ret7 w9 hR8 => ?_)
 obtain ⟨r10, rfl, h, hB11⟩ := hR8
 refine ⟨_, rfl, ?_⟩
 replace hC := hC.grow hB11
 refine s_as (v := .int .i64 r10) rfl ?_
 refine dn ?_
 refine wp_seq ?_
 refine sr ?_
 refine s_mv (v := .int .i64 r10) rfl ?_
 refine s_lss rfl rfl ?_
 refine dn ?_
 refine cw_cond rfl (fun hb12 => ?_) (fun hb12 => ?_)
 ·replace h := ift h (ct hb12)
  refine sr ?_
  refine s_as (v := .int .i64 (-1)) rfl ?_
  refine dn ?_
  refine wp_ret (then_ret ?_)
  refine ret1 (fn := Try.f45) rfl ?_ ⟨(-1), rfl, h, hC.below⟩ (.inl rfl)
  exact res_tmp rfl
 ·replace h := iff_ h (cf hb12)
  refine wp_skip ?_
  refine then_norm ?_
  refine sr ?_
  refine s_mv (v := .int .i64 r10) rfl ?_
  refine s_as (v := .int .i64 r10) rfl ?_
  refine dn ?_
  refine wp_ret ?_
  refine ret1 (fn := Try.f45) rfl ?_ ⟨r10, rfl, h, hC.below⟩ (.inl rfl)
  exact res_tmp rfl
def f_laws_heldAlgebra (a0 : Alg) (a1 : Int) (K : Int → Prop) : Prop :=
 f_laws_heldInt64S a0.degrees a1 (fun r11 => (if r11 < 0 then K (-1) else f_laws_heldFormS a0.images r11 (fun r17 => (if r17 < 0 then K (-1) else K r17))))
theorem c_laws_heldAlgebra (a0 : Alg) (a1 : Int) {u0_0 : Value} {u0_1 : Value} {fp0 : List Nat} {K : Int → Prop} (h : f_laws_heldAlgebra a0 a1 K) (w0 : World) (q0 : TAlg.rep a0 [u0_0, u0_1] fp0 w0) :
  Calls Try.prog 23 #[.agg #[u0_0, u0_1], .int .i64 a1] w0 fun e w' => ∃ (r0 : Int), 
   e = .returned (.int .i64 r0) ∧ K r0 ∧ Bel w0 w' := by
 unfold f_laws_heldAlgebra at h
 refine calls_of (args := [.agg #[u0_0, u0_1], .int .i64 a1]) Try.func23 rfl 18 Try.ntmps23 (Nat.le_of_ble_eq_true rfl) ?_
 have hC := Ctx.start (X := Nox) w0 [Ty.item TAlg a0 [u0_0, u0_1] fp0] (by simp only [List.mem_cons, List.not_mem_nil, or_false, forall_eq_or_imp, forall_eq]; exact q0)
 have hp2 := (hC.getP 0 rfl)
 replace hC := hC.derive 0 rfl (Ty.item ((EI .i64).ty.sl) a0.degrees [u0_0] fp0) (fun _ => (alg_parts hp2).1) (fun _ hb_ => hb_)
 replace hC := hC.derive 1 rfl (Ty.item TForm.sl a0.images [u0_1] fp0) (fun _ => (alg_parts hp2).2) (fun _ hb_ => hb_)
 refine sr ?_
 refine s_box (v := .agg #[u0_0, u0_1]) hC [u0_0, u0_1] rfl rfl fun b5 w7 hB_ hC => ?_
 refine s_as (v := .int .i64 0) rfl ?_
 refine dn ?_
 refine sr ?_
 refine s_faddrB 0 Try.underlying34 rfl sc22.size rfl rfl ?_
 refine s_loadS hC 0 (u0_0) rfl sc22 rfl rfl ?_
 refine s_mv (v := .int .i64 a1) rfl ?_
 refine s_call [u0_0, .int .i64 a1] _ Try.func73 rfl rfl rfl (c_laws_heldInt64S a0.degrees a1 h _ (hC.getP 1 rfl)) (fun ret8 w10 hR9 => ?_)
 obtain ⟨r11, rfl, h, hB12⟩ := hR9
 refine ⟨_, rfl, ?_⟩
 replace hC := hC.grow hB12
 refine s_as (v := .int .i64 r11) rfl ?_
 refine dn ?_
 refine wp_seq ?_
 refine sr ?_
 refine s_mv (v := .int .i64 r11) rfl ?_
 refine s_lss rfl rfl ?_
 refine dn ?_
 refine cw_cond rfl (fun hb13 => ?_) (fun hb13 => ?_)
 ·replace h := ift h (ct hb13)
  refine sr ?_
  refine s_as (v := .int .i64 (-1)) rfl ?_
  refine dn ?_
  refine wp_ret (then_ret ?_)
  refine ret1 (fn := Try.f23) rfl ?_ ⟨(-1), rfl, h, hC.below⟩ (.inl rfl)
  exact res_tmp rfl
 ·replace h := iff_ h (cf hb13)
  refine wp_skip ?_
  refine then_norm ?_
  refine sr ?_
  refine s_faddrB 1 Try.underlying34 rfl sc32.size rfl rfl ?_
  refine s_loadS hC 0 (u0_1) rfl sc32 rfl rfl ?_
  refine s_mv (v := .int .i64 r11) rfl ?_
  refine s_call [u0_1, .int .i64 r11] _ Try.func74 rfl rfl rfl (c_laws_heldFormS a0.images r11 h _ (hC.getP 0 rfl)) (fun ret14 w16 hR15 => ?_)
  obtain ⟨r17, rfl, h, hB18⟩ := hR15
  refine ⟨_, rfl, ?_⟩
  replace hC := hC.grow hB18
  refine s_as (v := .int .i64 r17) rfl ?_
  refine dn ?_
  refine wp_seq ?_
  refine sr ?_
  refine s_mv (v := .int .i64 r17) rfl ?_
  refine s_lss rfl rfl ?_
  refine dn ?_
  refine cw_cond rfl (fun hb19 => ?_) (fun hb19 => ?_)
  ·replace h := ift h (ct hb19)
   refine sr ?_
   refine s_as (v := .int .i64 (-1)) rfl ?_
   refine dn ?_
   refine wp_ret (then_ret ?_)
   refine ret1 (fn := Try.f23) rfl ?_ ⟨(-1), rfl, h, hC.below⟩ (.inl rfl)
   exact res_tmp rfl
  ·replace h := iff_ h (cf hb19)
   refine wp_skip ?_
   refine then_norm ?_
   refine sr ?_
   refine s_mv (v := .int .i64 r17) rfl ?_
   refine s_as (v := .int .i64 r17) rfl ?_
   refine dn ?_
   refine wp_ret ?_
   refine ret1 (fn := Try.f23) rfl ?_ ⟨r17, rfl, h, hC.below⟩ (.inl rfl)
   exact res_tmp rfl
def f_laws_heldMonomialS (a0 : List A8) (a1 : Int) (K : Int → Prop) : Prop :=
 forN (fun i69 (s70 : Int) next72 => forN (fun i94 (s95 : Int) next96 => (if (a0.getD i69 default).get i94 ≠ IntKind.u8.wrap s95 then K (-1) else next96 (IntKind.i64.wrap (s95 + 1)))) (fun (s95 : Int) => next72 s95) 8 0 s70) (fun (s70 : Int) => K s70) a0.length 0 a1
theorem c_laws_heldMonomialS (a0 : List A8) (a1 : Int) {u0_0 : Value} {fp0 : List Nat} {K : Int → Prop} (h : f_laws_heldMonomialS a0 a1 K) (w0 : World) (q0 : ((EA .u8).ty.sl).rep a0 [u0_0] fp0 w0) :
  Calls Try.prog 29 #[u0_0, .int .i64 a1] w0 fun e w' => ∃ (r0 : Int), 
   e = .returned (.int .i64 r0) ∧ K r0 ∧ Bel w0 w' := by
 unfold f_laws_heldMonomialS at h
 refine calls_of (args := [u0_0, .int .i64 a1]) Try.func29 rfl 29 Try.ntmps29 (Nat.le_of_ble_eq_true rfl) ?_
 have hC := Ctx.start (X := Nox) w0 [Ty.item ((EA .u8).ty.sl) a0 [u0_0] fp0] (by simp only [List.mem_cons, List.not_mem_nil, or_false, forall_eq_or_imp, forall_eq]; exact q0)
 refine sr ?_
 refine s_as (v := .int .i64 0) rfl ?_
 refine dn ?_
 refine wp_seq ?_
 refine sr ?_
 refine s_as (v := .int .i64 0) rfl ?_
 refine dn ?_
 refine wp_block ?_
 have hN71 : a0.length ≤ 9223372036854775807 := sl_max (hC.getP 0 rfl)
 refine loopN (S := Int) _ _ (fun i69 s70 e_ w_ => Slots e_ [(0, u0_0), (1, .int .i64 s70), (4, .int .i64 0), (5, .int .i64 (i69 : Int))] ∧ Ctx Nox w0 w_ [] [Ty.item ((EA .u8).ty.sl) a0 [u0_0] fp0]) a0.length ?_ ?_ (s0 := a1) ?_ h
 ·clear hC h
  rintro i69 s70 e_ w76 next72 K73 hi75 ⟨hS_, hC⟩ h hK74
  refine wp_seq ?_
  refine sr ?_
  refine s_mv (v := .int .i64 (i69 : Int)) (sx hS_ 3 rfl) ?_
  refine s_mv (v := u0_0) (sx hS_ 0 rfl) ?_
  obtain ⟨Ad77, c78, hv79⟩ := sl_len (hC.getP 0 rfl)
  refine s_len Try.underlying40 (tr rfl hv79) ?_
  refine s_lss rfl rfl ?_
  refine dn ?_
  refine cw_true rfl (decide_eq_true (by omega)) ?_
  refine wp_skip ?_
  refine then_norm ?_
  refine wp_seq ?_
  refine wp_block ?_
  refine sr ?_
  refine s_as (v := .int .i64 0) rfl ?_
  refine dn ?_
  refine wp_block ?_
  refine loopN (S := Int) _ _ (fun i94 s95 e_ w_ => Slots e_ [(0, u0_0), (1, .int .i64 s95), (4, .int .i64 0), (5, .int .i64 (i69 : Int)), (6, .int .i64 (i94 : Int)), (7, .int .i64 (i69 : Int)), (8, u0_0), (9, .int .i64 (a0.length : Int)), (10, .bool (decide ((i69 : Int) < (a0.length : Int))))] ∧ Ctx Nox w0 w_ [] [Ty.item ((EA .u8).ty.sl) a0 [u0_0] fp0]) 8 ?_ ?_ (s0 := s70) ?_ h
  ·clear hC h
   rintro i94 s95 e_ w100 next96 K97 hi99 ⟨hS_, hC⟩ h hK98
   refine wp_seq ?_
   refine sr ?_
   refine s_mv (v := .int .i64 (i94 : Int)) (sx hS_ 4 rfl) ?_
   refine s_lss rfl rfl ?_
   refine dn ?_
   refine cw_true rfl (decide_eq_true (by omega)) ?_
   refine wp_skip ?_
   refine then_norm ?_
   refine wp_seq ?_
   refine wp_block ?_
   refine wp_seq ?_
   refine sr ?_
   refine s_mv (v := u0_0) (sx hS_ 0 rfl) ?_
   refine s_mv (v := .int .i64 (i69 : Int)) (sx hS_ 3 rfl) ?_
   refine s_mv (v := .int .i64 (i94 : Int)) (sx hS_ 4 rfl) ?_
   obtain ⟨Ad101, c102, hv103⟩ := sl_form (hC.getP 0 rfl) i69 hi75
   refine s_iaddrS (len := a0.length) Try.underlying40 ag24.size (tr rfl hv103) rfl (Int.natCast_nonneg _) (Int.ofNat_lt.2 hi75) ?_
   refine s_iaddrSa (i69 * 8 + i94) Try.underlying24 sc5.size rfl rfl (Int.natCast_nonneg _) (by omega) (by omega) ?_
   refine s_loadCS (.int .u8 ((a0.getD i69 default).get i94)) (cells_subS (o := i94) (k := 1) (sl_cellsE (hC.getP 0 rfl) hv103 i69 hi75) (arr_at0 hi99)) sc5 rfl ?_
   refine s_mv (v := .int .i64 s95) (sx hS_ 1 rfl) ?_
   refine s_conv Try.underlying3 Try.underlying5 rfl ?_
   refine s_neq rfl rfl ?_
   refine dn ?_
   refine cw_cond rfl (fun hb104 => ?_) (fun hb104 => ?_)
   ·replace h := ift h (ct hb104)
    refine sr ?_
    refine s_as (v := .int .i64 (-1)) rfl ?_
    refine dn ?_
    refine wp_ret (then_ret (blk_ret (then_ret (then_ret (blk_ret (blk_ret (then_ret (then_ret (blk_ret (then_ret ?_))))))))))
    refine ret1 (fn := Try.f29) rfl ?_ ⟨(-1), rfl, h, hC.below⟩ (.inl rfl)
    exact res_tmp rfl
   ·replace h := iff_ h (cf hb104)
    refine wp_skip ?_
    refine then_norm ?_
    refine cw_region ?_
    refine s_mv (v := .int .i64 s95) (sx hS_ 1 rfl) ?_
    refine s_add rfl rfl ?_
    refine s_as (v := .int .i64 (IntKind.i64.wrap (s95 + 1))) rfl ?_
    refine done ?_
    refine blk_norm ?_
    refine then_norm ?_
    refine cw_region ?_
    refine s_mv (v := .int .i64 (i94 : Int)) (sx hS_ 4 rfl) ?_
    refine s_add rfl rfl ?_
    refine s_as (v := .int .i64 (IntKind.i64.wrap ((i94 : Int) + 1))) rfl ?_
    refine done ?_
    exact hK98 (IntKind.i64.wrap (s95 + 1)) _ _ ⟨(sk (sx hS_ 0 rfl) (sk rfl (sk (sx hS_ 2 rfl) (sk (sx hS_ 3 rfl) (sk (tr rfl (congrArg _ (wrap64_nat hi99 (by decide)))) (sk (sx hS_ 5 rfl) (sk (sx hS_ 6 rfl) (sk (sx hS_ 7 rfl) (sk (sx hS_ 8 rfl) sn))))))))), hC⟩ h
  ·clear hC h
   rintro s95 e_ w105 K97 ⟨hS_, hC⟩ h
   refine wp_seq ?_
   refine sr ?_
   refine s_mv (v := .int .i64 8) (sx hS_ 4 rfl) ?_
   refine s_lss rfl rfl ?_
   refine dn ?_
   refine cw_false rfl (decide_eq_false (by omega)) ?_
   refine wp_exit (then_exit (then_exit (exit_in ?_)))
   refine blk_norm ?_
   refine then_norm ?_
   refine cw_region ?_
   refine s_mv (v := .int .i64 (i69 : Int)) (sx hS_ 3 rfl) ?_
   refine s_add rfl rfl ?_
   refine s_as (v := .int .i64 (IntKind.i64.wrap ((i69 : Int) + 1))) rfl ?_
   refine done ?_
   exact hK74 s95 _ _ ⟨(sk (sx hS_ 0 rfl) (sk (sx hS_ 1 rfl) (sk (sx hS_ 2 rfl) (sk (tr rfl (congrArg _ (wrap64_nat hi75 hN71))) sn)))), hC⟩ h
  ·skip
   exact ⟨(sk (sx hS_ 0 rfl) (sk (sx hS_ 1 rfl) (sk (sx hS_ 2 rfl) (sk (sx hS_ 3 rfl) (sk rfl (sk rfl (sk rfl (sk rfl (sk rfl sn))))))))), hC⟩
 ·clear hC h
  rintro s70 e_ w106 K73 ⟨hS_, hC⟩ h
  refine wp_seq ?_
  refine sr ?_
  refine s_mv (v := .int .i64 (a0.length : Int)) (sx hS_ 3 rfl) ?_
  refine s_mv (v := u0_0) (sx hS_ 0 rfl) ?_
  obtain ⟨Ad107, c108, hv109⟩ := sl_len (hC.getP 0 rfl)
  refine s_len Try.underlying40 (tr rfl hv109) ?_
  refine s_lss rfl rfl ?_
  refine dn ?_
  refine cw_false rfl (decide_eq_false (by omega)) ?_
  refine wp_exit (then_exit (then_exit (exit_in ?_)))
  refine then_norm ?_
  refine sr ?_
  refine s_mv (v := .int .i64 s70) (sx hS_ 1 rfl) ?_
  refine s_as (v := .int .i64 s70) rfl ?_
  refine dn ?_
  refine wp_ret ?_
  refine ret1 (fn := Try.f29) rfl ?_ ⟨s70, rfl, h, hC.below⟩ (.inl rfl)
  exact res_tmp rfl
 ·skip
  exact ⟨(sk rfl (sk rfl (sk rfl (sk rfl sn)))), hC⟩
def f_spec_l01Mod (a0 : Int) (K : Int → Prop) : Prop :=
 K (Int.tmod (IntKind.i64.wrap ((Int.tmod a0 10007) + 10007)) 10007)
theorem c_spec_l01Mod (a0 : Int)  {K : Int → Prop} (h : f_spec_l01Mod a0 K) (w0 : World)  :
  Calls Try.prog 119 #[.int .i64 a0] w0 fun e w' => ∃ (r0 : Int), 
   e = .returned (.int .i64 r0) ∧ K r0 ∧ Bel w0 w' := by
 unfold f_spec_l01Mod at h
 refine calls_of (args := [.int .i64 a0]) Try.func119 rfl 7 Try.ntmps119 (Nat.le_of_ble_eq_true rfl) ?_
 have hC := Ctx.start (X := Nox) w0 [] (by simp)
 refine sr ?_
 refine s_as (v := .int .i64 0) rfl ?_
 refine dn ?_
 refine sr ?_
 refine s_mv (v := .int .i64 a0) rfl ?_
 refine s_rem rfl rfl (by decide) ?_
 refine s_add rfl rfl ?_
 refine s_rem rfl rfl (by decide) ?_
 refine s_as (v := .int .i64 (Int.tmod (IntKind.i64.wrap ((Int.tmod a0 10007) + 10007)) 10007)) rfl ?_
 refine dn ?_
 refine wp_ret ?_
 refine ret1 (fn := Try.f119) rfl ?_ ⟨Int.tmod (IntKind.i64.wrap ((Int.tmod a0 10007) + 10007)) 10007, rfl, h, hC.below⟩ (.inl rfl)
 exact res_tmp rfl
def f_spec_l01In (a0 : Int) (a1 : Int) (a2 : Int) (K : Bool → Prop) : Prop :=
 (if a0 ≥ a1 then K (decide (a0 ≤ a2)) else K false)
theorem c_spec_l01In (a0 : Int) (a1 : Int) (a2 : Int)  {K : Bool → Prop} (h : f_spec_l01In a0 a1 a2 K) (w0 : World)  :
  Calls Try.prog 67 #[.int .i64 a0, .int .i64 a1, .int .i64 a2] w0 fun e w' => ∃ (r0 : Bool), 
   e = .returned (.bool r0) ∧ K r0 ∧ Bel w0 w' := by
 unfold f_spec_l01In at h
 refine calls_of (args := [.int .i64 a0, .int .i64 a1, .int .i64 a2]) Try.func67 rfl 15 Try.ntmps67 (Nat.le_of_ble_eq_true rfl) ?_
 have hC := Ctx.start (X := Nox) w0 [] (by simp)
 refine sr ?_
 refine s_as (v := .bool false) rfl ?_
 refine dn ?_
 refine sr ?_
 refine s_mv (v := .int .i64 a0) rfl ?_
 refine s_mv (v := .int .i64 a1) rfl ?_
 refine s_geq rfl rfl ?_
 refine s_mv (v := .bool (decide (a0 ≥ a1))) rfl ?_
 refine bsplit (decide (a0 ≥ a1)) (fun hb1 => ?_) (fun hb1 => ?_)
 ·replace h := ift h (ct hb1)
  refine guardOn 3 10 rfl rfl hb1 ?_
  refine s_mv (v := .int .i64 a0) rfl ?_
  refine guardOn 3 10 rfl rfl hb1 ?_
  refine s_mv (v := .int .i64 a2) rfl ?_
  refine guardOn 3 10 rfl rfl hb1 ?_
  refine s_leq rfl rfl ?_
  refine s_pick (v := .bool (decide (a0 ≤ a2))) (b := true) (tr rfl (congrArg _ hb1)) rfl ?_
  refine s_as (v := .bool (decide (a0 ≤ a2))) rfl ?_
  refine dn ?_
  refine wp_ret ?_
  refine ret1 (fn := Try.f67) rfl ?_ ⟨decide (a0 ≤ a2), rfl, h, hC.below⟩ (.inl rfl)
  exact res_tmp rfl
 ·replace h := iff_ h (cf hb1)
  refine guardOff (b := false) 3 10 rfl (tr rfl (congrArg _ hb1)) (by decide) ?_
  refine guardOff (b := false) 3 10 rfl (tr rfl (congrArg _ hb1)) (by decide) ?_
  refine guardOff (b := false) 3 10 rfl (tr rfl (congrArg _ hb1)) (by decide) ?_
  refine s_pick (v := .bool false) (b := false) (tr rfl (congrArg _ hb1)) rfl ?_
  refine s_as (v := .bool false) rfl ?_
  refine dn ?_
  refine wp_ret ?_
  refine ret1 (fn := Try.f67) rfl ?_ ⟨false, rfl, h, hC.below⟩ (.inl rfl)
  exact res_tmp rfl
def f_spec_l01Single (a0 : A8) (a1 : Int) (K : Vc.Form → Prop) : Prop :=
 f_spec_l01Mod a1 (fun r10 => (if r10 = 0 then K (⟨[]⟩ : Vc.Form) else f_spec_l01Mod a1 (fun r20 => K (⟨[(⟨a0, r20⟩ : Term)]⟩ : Vc.Form))))
theorem c_spec_l01Single (a0 : A8) (a1 : Int)  {K : Vc.Form → Prop} (h : f_spec_l01Single a0 a1 K) (w0 : World)  :
  Calls Try.prog 83 #[.agg (List.toArray (A8.enc .u8 a0)), .int .i64 a1] w0 fun e w' => ∃ (r0 : Vc.Form) (z0_0 : Value) (fz0 : List Nat), 
   e = .returned (.agg #[z0_0]) ∧ K r0 ∧ (Tr.item (TrForm 93) r0 [z0_0] fz0).holds w' ∧ (∀ b, b ∈ fz0 → w0.heap.size ≤ b) ∧ Bel w0 w' := by
 unfold f_spec_l01Single at h
 refine calls_of (args := [.agg (List.toArray (A8.enc .u8 a0)), .int .i64 a1]) Try.func83 rfl 15 Try.ntmps83 (Nat.le_of_ble_eq_true rfl) ?_
 have hC := Ctx.start (X := Nox) w0 [] (by simp)
 refine sr ?_
 refine s_box (v := .agg (List.toArray (A8.enc .u8 a0))) hC (A8.enc .u8 a0) rfl rfl fun b1 w3 hB_ hC => ?_
 refine s_alloc hC [.slice none 0 0] z51 rfl fun b4 w6 hB_ hC => ?_
 refine dn ?_
 refine wp_seq ?_
 refine sr ?_
 refine s_mv (v := .int .i64 a1) rfl ?_
 refine s_call [.int .i64 a1] _ Try.func119 rfl rfl rfl (c_spec_l01Mod a1 h _) (fun ret7 w9 hR8 => ?_)
 obtain ⟨r10, rfl, h, hB11⟩ := hR8
 refine ⟨_, rfl, ?_⟩
 replace hC := hC.grow hB11
 refine s_eql rfl rfl ?_
 refine dn ?_
 refine cw_cond rfl (fun hb12 => ?_) (fun hb12 => ?_)
 ·replace h := ift h (ct hb12)
  refine sr ?_
  refine s_build [] rfl (bl51   _) ?_
  refine s_store (v := .agg #[.slice none 0 0]) hC 0 [.slice none 0 0] [.slice none 0 0] rfl ag51.size rfl rfl rfl rfl rfl (Nat.le_of_ble_eq_true rfl) rfl fun w13 hC => ?_
  refine dn ?_
  refine wp_ret (then_ret ?_)
  refine ret1 (fn := Try.f83) rfl ?_ ⟨(⟨[]⟩ : Vc.Form), .slice none 0 0, [], rfl, h, (form_join (nil_item _ _ _)), (fun b hb => absurd hb (by simp)), hC.below⟩ (.inl rfl)
  exact res_cellA hC 0 rfl ag51 rfl rfl
 ·replace h := iff_ h (cf hb12)
  refine wp_skip ?_
  refine then_norm ?_
  refine wp_seq ?_
  refine cw_draw 3 mixed [0, 0, 2, 7, 15, 31, 63] [0] [1] (by kernel_rfl) (by kernel_rfl) (by kernel_rfl) (fun hM15 hM16 w14 hB_ => ?_)
  replace hC := hC.grow hB_
  refine ae_look belPre 0 (.agg (List.toArray (A8.enc .u8 a0))) rfl rfl (by kernel_rfl) (hM15 0 rfl) (fun w_ hB_ => .inl ⟨rfl, by exact r_loadA (hC.grow hB_) 1 (A8.enc .u8 a0) rfl ag24 rfl rfl rfl⟩) (listed' := (dbits 7 1)) (by kernel_rfl) ?_
  refine ae_lookF belPre 1 (.int .i64 a1) rfl rfl (by kernel_rfl) (hM16 1 rfl) (fun w_ => .inl ⟨rfl, by exact r_mv (v := .int .i64 a1) rfl⟩) (listed' := (dbits 7 3)) (by kernel_rfl) ?_
  refine ae_one 2 rfl (by kernel_rfl) ?_
  refine s_call [.int .i64 a1] _ Try.func119 rfl rfl rfl (c_spec_l01Mod a1 h _) (fun ret17 w19 hR18 => ?_)
  obtain ⟨r20, rfl, h, hB21⟩ := hR18
  refine ⟨_, rfl, ?_⟩
  replace hC := hC.grow hB21
  refine done ?_
  refine ak_intro (by assumption) (listed' := (dbits 7 7)) (by kernel_rfl) ?_
  refine ae_tail 3 (by decide) (by decide) (by kernel_rfl) (by kernel_rfl) rfl ?_
  refine s_build [(0, .agg (List.toArray (A8.enc .u8 a0))), (1, .int .i64 r20)] rfl (bl93_0flat_1int a0 r20  _) ?_
  refine s_bslice (sz := 9) hC [(0, .agg (List.toArray (Term.enc (⟨a0, r20⟩ : Term))))] (ETerm.encs [(⟨a0, r20⟩ : Term)]) rfl (fun _ => bs49_1 (⟨a0, r20⟩ : Term) _) rfl (by decide) fun b22 w23 hB_ hC => ?_
  refine s_build [(0, .slice (some ⟨b22, 0, none⟩) 1 1)] rfl (bl51_0sl (.slice (some ⟨b22, 0, none⟩) 1 1) (own_isSl (hC.getM 0 rfl)) _) ?_
  refine s_store (v := .agg #[.slice (some ⟨b22, 0, none⟩) 1 1]) hC 1 [.slice (some ⟨b22, 0, none⟩) 1 1] [.slice (some ⟨b22, 0, none⟩) 1 1] rfl ag51.size rfl rfl rfl rfl (all_c (own_oneC (hC.getM 0 rfl)) rfl) (Nat.le_of_ble_eq_true rfl) rfl fun w25 hC => ?_
  refine done ?_
  refine qn_norm ?_
  refine then_norm ?_
  refine wp_ret ?_
  refine ret1 (fn := Try.f83) rfl ?_ ⟨(⟨[(⟨a0, r20⟩ : Term)]⟩ : Vc.Form), .slice (some ⟨b22, 0, none⟩) 1 1, (Option.toList (Value.ownBlock (.slice (some ⟨b22, 0, none⟩) 1 1))), rfl, h, (form_join (own_item (hC.getM 0 rfl))), (own_fresh hC 0 rfl), hC.below⟩ (.inl rfl)
  exact res_cellA hC 1 rfl ag51 rfl rfl
def f_spec_l08Power (a0 : Int) (a1 : Int) (K : Vc.Form → Prop) : Prop :=
 ((0 ≤ a0 ∧ a0 < 8) ∧ f_spec_l01Single (A8.zero.set a0.toNat a1) 1 (fun r14 => K r14))
theorem c_spec_l08Power (a0 : Int) (a1 : Int)  {K : Vc.Form → Prop} (h : f_spec_l08Power a0 a1 K) (w0 : World)  :
  Calls Try.prog 68 #[.int .i64 a0, .int .u8 a1] w0 fun e w' => ∃ (r0 : Vc.Form) (z0_0 : Value) (fz0 : List Nat), 
   e = .returned (.agg #[z0_0]) ∧ K r0 ∧ (Tr.item (TrForm 93) r0 [z0_0] fz0).holds w' ∧ (∀ b, b ∈ fz0 → w0.heap.size ≤ b) ∧ Bel w0 w' := by
 unfold f_spec_l08Power at h
 refine calls_of (args := [.int .i64 a0, .int .u8 a1]) Try.func68 rfl 12 Try.ntmps68 (Nat.le_of_ble_eq_true rfl) ?_
 have hC := Ctx.start (X := Nox) w0 [] (by simp)
 refine sr ?_
 refine s_alloc hC [.slice none 0 0] z51 rfl fun b1 w3 hB_ hC => ?_
 refine dn ?_
 refine sr ?_
 refine s_build [] rfl (bl24   _) ?_
 refine s_alloc hC (A8.enc .u8 A8.zero) z24 rfl fun b4 w6 hB_ hC => ?_
 refine s_store (v := .agg (List.toArray (A8.enc .u8 A8.zero))) hC 0 (A8.enc .u8 A8.zero) (A8.enc .u8 A8.zero) rfl ag24.size rfl rfl rfl rfl rfl (Nat.le_of_ble_eq_true rfl) rfl fun w7 hC => ?_
 refine dn ?_
 refine sr ?_
 refine s_mv (v := .int .i64 a0) rfl ?_
 refine s_mv (v := .int .u8 a1) rfl ?_
 obtain ⟨⟨h0_8, h1_9⟩, h⟩ := h
 refine s_iaddrB a0.toNat Try.underlying24 sc5.size rfl rfl h0_8 h1_9 (by omega) ?_
 refine s_store (v := .int .u8 a1) hC 0 [.int .u8 a1] (A8.enc .u8 (A8.zero.set a0.toNat a1)) rfl sc5.size rfl rfl rfl rfl rfl (show a0.toNat < 8 by omega) (A8.enc_set _ _ _ (show a0.toNat < 8 by omega)) fun w10 hC => ?_
 refine dn ?_
 refine sr ?_
 refine s_loadA hC 0 (A8.enc .u8 (A8.zero.set a0.toNat a1)) rfl ag24 rfl rfl rfl ?_
 refine s_call [.agg (List.toArray (A8.enc .u8 (A8.zero.set a0.toNat a1))), .int .i64 1] _ Try.func83 rfl rfl rfl (c_spec_l01Single (A8.zero.set a0.toNat a1) 1 h _) (fun ret11 w13 hR12 => ?_)
 obtain ⟨r14, u15, f16, rfl, h, hr17, hf18, hB19⟩ := hR12
 refine ⟨_, rfl, ?_⟩
 replace hC := hC.push hB19 (Tr.item (TrForm 93) r14 [u15] f16) hr17 hf18
 obtain ⟨ho21, hf22⟩ := form_split (hC.getM 0 rfl)
 subst hf22
 replace hC := hC.recast (c := own 93 9 u15 r14.terms.length (ETerm.encs r14.terms)) (fun _ h_ => h_) (fun _ => ho21)
 refine s_store (v := .agg #[u15]) hC 2 [u15] [u15] rfl ag51.size rfl rfl rfl rfl (all_c (own_oneC (hC.getM 0 rfl)) rfl) (Nat.le_of_ble_eq_true rfl) rfl fun w24 hC => ?_
 refine dn ?_
 refine wp_ret ?_
 refine ret1 (fn := Try.f68) rfl ?_ ⟨r14, u15, (Option.toList (Value.ownBlock u15)), rfl, h, (form_join (own_item (hC.getM 0 rfl))), (own_fresh hC 0 rfl), hC.below⟩ (.inl rfl)
 exact res_cellA hC 2 rfl ag51 rfl rfl
def f_impl_within (a0 : Int) (a1 : Int) (a2 : Int) (K : Bool → Prop) : Prop :=
 (if a0 ≥ a1 then K (decide (a0 ≤ a2)) else K false)
theorem c_impl_within (a0 : Int) (a1 : Int) (a2 : Int)  {K : Bool → Prop} (h : f_impl_within a0 a1 a2 K) (w0 : World)  :
  Calls Try.prog 69 #[.int .i64 a0, .int .i64 a1, .int .i64 a2] w0 fun e w' => ∃ (r0 : Bool), 
   e = .returned (.bool r0) ∧ K r0 ∧ Bel w0 w' := by
 unfold f_impl_within at h
 refine calls_of (args := [.int .i64 a0, .int .i64 a1, .int .i64 a2]) Try.func69 rfl 15 Try.ntmps69 (Nat.le_of_ble_eq_true rfl) ?_
 have hC := Ctx.start (X := Nox) w0 [] (by simp)
 refine sr ?_
 refine s_as (v := .bool false) rfl ?_
 refine dn ?_
 refine sr ?_
 refine s_mv (v := .int .i64 a0) rfl ?_
 refine s_mv (v := .int .i64 a1) rfl ?_
 refine s_geq rfl rfl ?_
 refine s_mv (v := .bool (decide (a0 ≥ a1))) rfl ?_
 refine bsplit (decide (a0 ≥ a1)) (fun hb1 => ?_) (fun hb1 => ?_)
 ·replace h := ift h (ct hb1)
  refine guardOn 3 10 rfl rfl hb1 ?_
  refine s_mv (v := .int .i64 a0) rfl ?_
  refine guardOn 3 10 rfl rfl hb1 ?_
  refine s_mv (v := .int .i64 a2) rfl ?_
  refine guardOn 3 10 rfl rfl hb1 ?_
  refine s_leq rfl rfl ?_
  refine s_pick (v := .bool (decide (a0 ≤ a2))) (b := true) (tr rfl (congrArg _ hb1)) rfl ?_
  refine s_as (v := .bool (decide (a0 ≤ a2))) rfl ?_
  refine dn ?_
  refine wp_ret ?_
  refine ret1 (fn := Try.f69) rfl ?_ ⟨decide (a0 ≤ a2), rfl, h, hC.below⟩ (.inl rfl)
  exact res_tmp rfl
 ·replace h := iff_ h (cf hb1)
  refine guardOff (b := false) 3 10 rfl (tr rfl (congrArg _ hb1)) (by decide) ?_
  refine guardOff (b := false) 3 10 rfl (tr rfl (congrArg _ hb1)) (by decide) ?_
  refine guardOff (b := false) 3 10 rfl (tr rfl (congrArg _ hb1)) (by decide) ?_
  refine s_pick (v := .bool false) (b := false) (tr rfl (congrArg _ hb1)) rfl ?_
  refine s_as (v := .bool false) rfl ?_
  refine dn ?_
  refine wp_ret ?_
  refine ret1 (fn := Try.f69) rfl ?_ ⟨false, rfl, h, hC.below⟩ (.inl rfl)
  exact res_tmp rfl
def f_spec_ProjectiveModel (a0 : Int) (a1 : Int) (K : Alg → Int → Prop) : Prop :=
 (if a1 ≠ 2 then (if a1 ≠ 4 then K (⟨[], []⟩ : Alg) 2 else f_spec_l01In a0 1 5 (fun r10 => (if ¬ (r10 = true) then K (⟨[], []⟩ : Alg) 2 else (if a1 = 4 then (if a0 > 2 then K (⟨[], []⟩ : Alg) 2 else f_spec_l08Power 0 (IntKind.u8.wrap (IntKind.i64.wrap (a0 + 1))) (fun r23 => K (⟨[a1, IntKind.i64.wrap ((IntKind.i64.wrap (a1 * (IntKind.i64.wrap (a0 + 1)))) - 1)], [(⟨[]⟩ : Vc.Form), r23]⟩ : Alg) 0)) else f_spec_l08Power 0 (IntKind.u8.wrap (IntKind.i64.wrap (a0 + 1))) (fun r45 => K (⟨[a1, IntKind.i64.wrap ((IntKind.i64.wrap (a1 * (IntKind.i64.wrap (a0 + 1)))) - 1)], [(⟨[]⟩ : Vc.Form), r45]⟩ : Alg) 0))))) else f_spec_l01In a0 1 5 (fun r64 => (if ¬ (r64 = true) then K (⟨[], []⟩ : Alg) 2 else (if a1 = 4 then (if a0 > 2 then K (⟨[], []⟩ : Alg) 2 else f_spec_l08Power 0 (IntKind.u8.wrap (IntKind.i64.wrap (a0 + 1))) (fun r77 => K (⟨[a1, IntKind.i64.wrap ((IntKind.i64.wrap (a1 * (IntKind.i64.wrap (a0 + 1)))) - 1)], [(⟨[]⟩ : Vc.Form), r77]⟩ : Alg) 0)) else f_spec_l08Power 0 (IntKind.u8.wrap (IntKind.i64.wrap (a0 + 1))) (fun r99 => K (⟨[a1, IntKind.i64.wrap ((IntKind.i64.wrap (a1 * (IntKind.i64.wrap (a0 + 1)))) - 1)], [(⟨[]⟩ : Vc.Form), r99]⟩ : Alg) 0)))))
theorem c_spec_ProjectiveModel (a0 : Int) (a1 : Int)  {K : Alg → Int → Prop} (h : f_spec_ProjectiveModel a0 a1 K) (w0 : World)  :
  Calls Try.prog 19 #[.int .i64 a0, .int .i64 a1] w0 fun e w' => ∃ (r0 : Alg) (z0_0 : Value) (z0_1 : Value) (fz0 : List Nat) (r1 : Int), 
   e = .returned (.tuple #[.agg #[z0_0, z0_1], .int .i64 r1]) ∧ K r0 r1 ∧ (Tr.item (TrAlg 2 93 51) r0 [z0_0, z0_1] fz0).holds w' ∧ (∀ b, b ∈ fz0 → w0.heap.size ≤ b) ∧ Bel w0 w' := by
 unfold f_spec_ProjectiveModel at h
 refine calls_of (args := [.int .i64 a0, .int .i64 a1]) Try.func19 rfl 40 Try.ntmps19 (Nat.le_of_ble_eq_true rfl) ?_
 have hC := Ctx.start (X := Nox) w0 [] (by simp)
 refine sr ?_
 refine s_alloc hC [.slice none 0 0, .slice none 0 0] z34 rfl fun b1 w3 hB_ hC => ?_
 refine s_as (v := .int .i64 0) rfl ?_
 refine dn ?_
 refine wp_seq ?_
 refine sr ?_
 refine s_mv (v := .int .i64 a1) rfl ?_
 refine s_neq rfl rfl ?_
 refine s_mv (v := .bool (decide (a1 ≠ 2))) rfl ?_
 refine bsplit (decide (a1 ≠ 2)) (fun hb4 => ?_) (fun hb4 => ?_)
 ·replace h := ift h (ct hb4)
  refine guardOn 2 8 rfl rfl hb4 ?_
  refine s_mv (v := .int .i64 a1) rfl ?_
  refine guardOn 2 8 rfl rfl hb4 ?_
  refine s_neq rfl rfl ?_
  refine s_pick (v := .bool (decide (a1 ≠ 4))) (b := true) (tr rfl (congrArg _ hb4)) rfl ?_
  refine s_mv (v := .bool (decide (a1 ≠ 4))) rfl ?_
  refine bsplit (decide (a1 ≠ 4)) (fun hb5 => ?_) (fun hb5 => ?_)
  ·replace h := ift h (ct hb5)
   refine guardOff (b := true) 6 12 rfl (tr rfl (congrArg _ hb5)) (by decide) ?_
   refine guardOff (b := true) 6 12 rfl (tr rfl (congrArg _ hb5)) (by decide) ?_
   refine guardOff (b := true) 6 12 rfl (tr rfl (congrArg _ hb5)) (by decide) ?_
   refine s_pick (v := .bool true) (b := true) (tr rfl (congrArg _ hb5)) rfl ?_
   refine s_mv (v := .bool true) rfl ?_
   refine guardOff (b := true) 11 17 rfl (tr rfl (congrArg _ rfl)) (by decide) ?_
   refine guardOff (b := true) 11 17 rfl (tr rfl (congrArg _ rfl)) (by decide) ?_
   refine guardOff (b := true) 11 17 rfl (tr rfl (congrArg _ rfl)) (by decide) ?_
   refine guardOffU 14 20 rfl rfl ?_
   refine guardOffU 14 20 rfl rfl ?_
   refine guardOff (b := true) 11 17 rfl (tr rfl (congrArg _ rfl)) (by decide) ?_
   refine s_pick (v := .bool true) (b := true) rfl rfl ?_
   refine dn ?_
   refine cw_true rfl rfl ?_
   refine sr ?_
   refine s_build [] rfl (bl34   _) ?_
   refine s_store (v := .agg #[.slice none 0 0, .slice none 0 0]) hC 0 [.slice none 0 0, .slice none 0 0] [.slice none 0 0, .slice none 0 0] rfl ag34.size rfl rfl rfl rfl rfl (Nat.le_of_ble_eq_true rfl) rfl fun w6 hC => ?_
   refine s_as (v := .int .i64 2) rfl ?_
   refine dn ?_
   refine wp_ret (then_ret ?_)
   refine ret2 (fn := Try.f19) rfl ?_ ?_ ⟨(⟨[], []⟩ : Alg), .slice none 0 0, .slice none 0 0, ([] ++ []), 2, rfl, h, (alg_join (nil_item _ _ _) (nil_item _ _ _) (fun x hx => absurd hx (by simp))), (fun b hb => (List.mem_append.1 hb).elim (fun hb => (fun b hb => absurd hb (by simp)) b hb) (fun hb => (fun b hb => absurd hb (by simp)) b hb)), hC.below⟩ (.inl rfl)
   ·exact res_cellA hC 0 rfl ag34 rfl rfl
   ·exact res_tmp rfl
  ·replace h := iff_ h (cf hb5)
   refine guardOn 6 12 rfl rfl hb5 ?_
   refine s_mv (v := .int .i64 a0) rfl ?_
   refine guardOn 6 12 rfl rfl hb5 ?_
   refine s_call [.int .i64 a0, .int .i64 1, .int .i64 5] _ Try.func67 rfl rfl rfl (c_spec_l01In a0 1 5 h _) (fun ret7 w9 hR8 => ?_)
   obtain ⟨r10, rfl, h, hB11⟩ := hR8
   refine ⟨_, rfl, ?_⟩
   replace hC := hC.grow hB11
   refine guardOn 6 12 rfl rfl hb5 ?_
   refine s_not rfl ?_
   refine s_pick (v := .bool (!r10)) (b := false) (tr rfl (congrArg _ hb5)) rfl ?_
   refine s_mv (v := .bool (!r10)) rfl ?_
   refine bsplit (!r10) (fun hb12 => ?_) (fun hb12 => ?_)
   ·replace h := ift h (ne_t (not_t hb12))
    refine guardOff (b := true) 11 17 rfl (tr rfl (congrArg _ hb12)) (by decide) ?_
    refine guardOff (b := true) 11 17 rfl (tr rfl (congrArg _ hb12)) (by decide) ?_
    refine guardOff (b := true) 11 17 rfl (tr rfl (congrArg _ hb12)) (by decide) ?_
    refine guardOffU 14 20 rfl rfl ?_
    refine guardOffU 14 20 rfl rfl ?_
    refine guardOff (b := true) 11 17 rfl (tr rfl (congrArg _ hb12)) (by decide) ?_
    refine s_pick (v := .bool true) (b := true) (tr rfl (congrArg _ hb12)) rfl ?_
    refine dn ?_
    refine cw_true rfl rfl ?_
    refine sr ?_
    refine s_build [] rfl (bl34   _) ?_
    refine s_store (v := .agg #[.slice none 0 0, .slice none 0 0]) hC 0 [.slice none 0 0, .slice none 0 0] [.slice none 0 0, .slice none 0 0] rfl ag34.size rfl rfl rfl rfl rfl (Nat.le_of_ble_eq_true rfl) rfl fun w13 hC => ?_
    refine s_as (v := .int .i64 2) rfl ?_
    refine dn ?_
    refine wp_ret (then_ret ?_)
    refine ret2 (fn := Try.f19) rfl ?_ ?_ ⟨(⟨[], []⟩ : Alg), .slice none 0 0, .slice none 0 0, ([] ++ []), 2, rfl, h, (alg_join (nil_item _ _ _) (nil_item _ _ _) (fun x hx => absurd hx (by simp))), (fun b hb => (List.mem_append.1 hb).elim (fun hb => (fun b hb => absurd hb (by simp)) b hb) (fun hb => (fun b hb => absurd hb (by simp)) b hb)), hC.below⟩ (.inl rfl)
    ·exact res_cellA hC 0 rfl ag34 rfl rfl
    ·exact res_tmp rfl
   ·replace h := iff_ h (not_not_intro ((not_f hb12)))
    refine guardOn 11 17 rfl rfl hb12 ?_
    refine s_mv (v := .int .i64 a1) rfl ?_
    refine guardOn 11 17 rfl rfl hb12 ?_
    refine s_eql rfl rfl ?_
    refine guardOn 11 17 rfl rfl hb12 ?_
    refine s_mv (v := .bool (decide (a1 = 4))) rfl ?_
    refine bsplit (decide (a1 = 4)) (fun hb14 => ?_) (fun hb14 => ?_)
    ·replace h := ift h (ct hb14)
     refine guardOn 14 20 rfl rfl hb14 ?_
     refine s_mv (v := .int .i64 a0) rfl ?_
     refine guardOn 14 20 rfl rfl hb14 ?_
     refine s_gtr rfl rfl ?_
     refine guardOn 11 17 rfl rfl hb12 ?_
     refine s_pick (v := .bool (decide (a0 > 2))) (b := true) (tr rfl (congrArg _ hb14)) rfl ?_
     refine s_pick (v := .bool (decide (a0 > 2))) (b := false) (tr rfl (congrArg _ hb12)) rfl ?_
     refine dn ?_
     refine cw_cond rfl (fun hb15 => ?_) (fun hb15 => ?_)
     ·replace h := ift h (ct hb15)
      refine sr ?_
      refine s_build [] rfl (bl34   _) ?_
      refine s_store (v := .agg #[.slice none 0 0, .slice none 0 0]) hC 0 [.slice none 0 0, .slice none 0 0] [.slice none 0 0, .slice none 0 0] rfl ag34.size rfl rfl rfl rfl rfl (Nat.le_of_ble_eq_true rfl) rfl fun w16 hC => ?_
      refine s_as (v := .int .i64 2) rfl ?_
      refine dn ?_
      refine wp_ret (then_ret ?_)
      refine ret2 (fn := Try.f19) rfl ?_ ?_ ⟨(⟨[], []⟩ : Alg), .slice none 0 0, .slice none 0 0, ([] ++ []), 2, rfl, h, (alg_join (nil_item _ _ _) (nil_item _ _ _) (fun x hx => absurd hx (by simp))), (fun b hb => (List.mem_append.1 hb).elim (fun hb => (fun b hb => absurd hb (by simp)) b hb) (fun hb => (fun b hb => absurd hb (by simp)) b hb)), hC.below⟩ (.inl rfl)
      ·exact res_cellA hC 0 rfl ag34 rfl rfl
      ·exact res_tmp rfl
     ·replace h := iff_ h (cf hb15)
      refine wp_skip ?_
      refine then_norm ?_
      refine sr ?_
      refine s_mv (v := .int .i64 a1) rfl ?_
      refine s_mv (v := .int .i64 a1) rfl ?_
      refine s_mv (v := .int .i64 a0) rfl ?_
      refine s_add rfl rfl ?_
      refine s_mul rfl rfl ?_
      refine s_sub rfl rfl ?_
      refine s_bslice (sz := 1) hC [(0, .int .i64 a1), (1, .int .i64 (IntKind.i64.wrap ((IntKind.i64.wrap (a1 * (IntKind.i64.wrap (a0 + 1)))) - 1)))] ((EI .i64).encs [a1, IntKind.i64.wrap ((IntKind.i64.wrap (a1 * (IntKind.i64.wrap (a0 + 1)))) - 1)]) rfl (fun _ => bs22_2 a1 (IntKind.i64.wrap ((IntKind.i64.wrap (a1 * (IntKind.i64.wrap (a0 + 1)))) - 1)) _) rfl (by decide) fun b17 w18 hB_ hC => ?_
      refine s_build [] rfl (bl51   _) ?_
      refine s_mv (v := .int .i64 a0) rfl ?_
      refine s_add rfl rfl ?_
      refine s_conv Try.underlying2 Try.underlying5 rfl ?_
      refine s_call [.int .i64 0, .int .u8 (IntKind.u8.wrap (IntKind.i64.wrap (a0 + 1)))] _ Try.func68 rfl rfl rfl (c_spec_l08Power 0 (IntKind.u8.wrap (IntKind.i64.wrap (a0 + 1))) h _) (fun ret20 w22 hR21 => ?_)
      obtain ⟨r23, u24, f25, rfl, h, hr26, hf27, hB28⟩ := hR21
      refine ⟨_, rfl, ?_⟩
      replace hC := hC.push hB28 (Tr.item (TrForm 93) r23 [u24] f25) hr26 hf27
      obtain ⟨ho30, hf31⟩ := form_split (hC.getM 0 rfl)
      subst hf31
      replace hC := hC.recast (c := own 93 9 u24 r23.terms.length (ETerm.encs r23.terms)) (fun _ h_ => h_) (fun _ => ho30)
      refine s_bslice (sz := 1) hC [(0, .agg #[.slice none 0 0]), (1, .agg #[u24])] [.slice none 0 0, u24] rfl (fun _ => bsr32_2_n_s (.slice none 0 0) u24 ⟨_, _, _, rfl⟩ (own_isSl (hC.getM 0 rfl)) _) rfl (by decide) fun b33 w34 hB_ hC => ?_
      replace hC := hC.pushM0 (forest (TrForm 93) [] [] []) (forest_nil _ _) rfl
      replace hC := hC.sel [2, 0, 1, 3, 4] [] (M' := [own 93 9 u24 r23.terms.length (ETerm.encs r23.terms), forest (TrForm 93) [] [] [], own 51 1 (.slice (some ⟨b33, 0, none⟩) 2 2) 2 [.slice none 0 0, u24], own 2 1 (.slice (some ⟨b17, 0, none⟩) 2 2) ([a1, IntKind.i64.wrap ((IntKind.i64.wrap (a1 * (IntKind.i64.wrap (a0 + 1)))) - 1)].length) ((EI .i64).encs [a1, IntKind.i64.wrap ((IntKind.i64.wrap (a1 * (IntKind.i64.wrap (a0 + 1)))) - 1)]), blk b1 34 [.slice none 0 0, .slice none 0 0]]) (Ps' := []) (by decide) rfl rfl
      replace hC := hC.gather (c := forest (TrForm 93) [r23] [u24] [(Option.toList (Value.ownBlock u24))]) (fun x_ hx_ => forest_mem hx_) (fun h1_ h2_ hd_ => forest_cons (c := [u24]) (form_join (own_item h1_)) h2_ hd_)
      replace hC := hC.recast (c := forest (TrForm 93) [(⟨[]⟩ : Vc.Form), r23] [.slice none 0 0, u24] [[], (Option.toList (Value.ownBlock u24))]) (fun x_ hx_ => hx_) (fun h_ => forest_cons (c := [.slice none 0 0]) (form_join (nil_item _ _ _)) h_ (by simp))
      replace hC := hC.sel [1, 0, 2, 3] [] (M' := [own 51 1 (.slice (some ⟨b33, 0, none⟩) 2 2) 2 [.slice none 0 0, u24], forest (TrForm 93) [(⟨[]⟩ : Vc.Form), r23] [.slice none 0 0, u24] [[], (Option.toList (Value.ownBlock u24))], own 2 1 (.slice (some ⟨b17, 0, none⟩) 2 2) ([a1, IntKind.i64.wrap ((IntKind.i64.wrap (a1 * (IntKind.i64.wrap (a0 + 1)))) - 1)].length) ((EI .i64).encs [a1, IntKind.i64.wrap ((IntKind.i64.wrap (a1 * (IntKind.i64.wrap (a0 + 1)))) - 1)]), blk b1 34 [.slice none 0 0, .slice none 0 0]]) (Ps' := []) (by decide) rfl rfl
      replace hC := hC.gather (c := Tr.item (Tr.sl 51 (TrForm 93)) [(⟨[]⟩ : Vc.Form), r23] [.slice (some ⟨b33, 0, none⟩) 2 2] ((Option.toList (Value.ownBlock (.slice (some ⟨b33, 0, none⟩) 2 2))) ++ ([[], (Option.toList (Value.ownBlock u24))] : List (List Nat)).flatten)) (fun x_ hx_ => List.mem_append.1 hx_) (fun h1_ h2_ hd_ => forest_up h1_ h2_ hd_)
      refine s_build [(0, .slice (some ⟨b17, 0, none⟩) 2 2), (1, .slice (some ⟨b33, 0, none⟩) 2 2)] rfl (bl34_0sl_1sl (.slice (some ⟨b17, 0, none⟩) 2 2) (.slice (some ⟨b33, 0, none⟩) 2 2) (own_isSl (hC.getM 1 rfl)) (rep_isSl (Tr.trep _ (hC.getM 0 rfl).1)) _) ?_
      refine s_store (v := .agg #[.slice (some ⟨b17, 0, none⟩) 2 2, .slice (some ⟨b33, 0, none⟩) 2 2]) hC 2 [.slice (some ⟨b17, 0, none⟩) 2 2, .slice (some ⟨b33, 0, none⟩) 2 2] [.slice (some ⟨b17, 0, none⟩) 2 2, .slice (some ⟨b33, 0, none⟩) 2 2] rfl ag34.size rfl rfl rfl rfl (all_c (own_oneC (hC.getM 1 rfl)) (all_c (rep_oneC (Tr.trep _ (hC.getM 0 rfl).1)) rfl)) (Nat.le_of_ble_eq_true rfl) rfl fun w38 hC => ?_
      refine s_as (v := .int .i64 0) rfl ?_
      refine dn ?_
      refine wp_ret ?_
      refine ret2 (fn := Try.f19) rfl ?_ ?_ ⟨(⟨[a1, IntKind.i64.wrap ((IntKind.i64.wrap (a1 * (IntKind.i64.wrap (a0 + 1)))) - 1)], [(⟨[]⟩ : Vc.Form), r23]⟩ : Alg), .slice (some ⟨b17, 0, none⟩) 2 2, .slice (some ⟨b33, 0, none⟩) 2 2, ((Option.toList (Value.ownBlock (.slice (some ⟨b17, 0, none⟩) 2 2))) ++ ((Option.toList (Value.ownBlock (.slice (some ⟨b33, 0, none⟩) 2 2))) ++ ([[], (Option.toList (Value.ownBlock u24))] : List (List Nat)).flatten)), 0, rfl, h, (alg_join (own_item (hC.getM 1 rfl)) (hC.getM 0 rfl) (fun x hx hx' => hC.mm 1 0 rfl rfl (by decide) x hx hx')), (fun b hb => (List.mem_append.1 hb).elim (fun hb => (own_fresh hC 1 rfl) b hb) (fun hb => (tr_fresh hC 0 rfl) b hb)), hC.below⟩ (.inl rfl)
      ·exact res_cellA hC 2 rfl ag34 rfl rfl
      ·exact res_tmp rfl
    ·replace h := iff_ h (cf hb14)
     refine guardOff (b := false) 14 20 rfl (tr rfl (congrArg _ hb14)) (by decide) ?_
     refine guardOff (b := false) 14 20 rfl (tr rfl (congrArg _ hb14)) (by decide) ?_
     refine guardOn 11 17 rfl rfl hb12 ?_
     refine s_pick (v := .bool false) (b := false) (tr rfl (congrArg _ hb14)) rfl ?_
     refine s_pick (v := .bool false) (b := false) (tr rfl (congrArg _ hb12)) rfl ?_
     refine dn ?_
     refine cw_false rfl rfl ?_
     refine wp_skip ?_
     refine then_norm ?_
     refine sr ?_
     refine s_mv (v := .int .i64 a1) rfl ?_
     refine s_mv (v := .int .i64 a1) rfl ?_
     refine s_mv (v := .int .i64 a0) rfl ?_
     refine s_add rfl rfl ?_
     refine s_mul rfl rfl ?_
     refine s_sub rfl rfl ?_
     refine s_bslice (sz := 1) hC [(0, .int .i64 a1), (1, .int .i64 (IntKind.i64.wrap ((IntKind.i64.wrap (a1 * (IntKind.i64.wrap (a0 + 1)))) - 1)))] ((EI .i64).encs [a1, IntKind.i64.wrap ((IntKind.i64.wrap (a1 * (IntKind.i64.wrap (a0 + 1)))) - 1)]) rfl (fun _ => bs22_2 a1 (IntKind.i64.wrap ((IntKind.i64.wrap (a1 * (IntKind.i64.wrap (a0 + 1)))) - 1)) _) rfl (by decide) fun b39 w40 hB_ hC => ?_
     refine s_build [] rfl (bl51   _) ?_
     refine s_mv (v := .int .i64 a0) rfl ?_
     refine s_add rfl rfl ?_
     refine s_conv Try.underlying2 Try.underlying5 rfl ?_
     refine s_call [.int .i64 0, .int .u8 (IntKind.u8.wrap (IntKind.i64.wrap (a0 + 1)))] _ Try.func68 rfl rfl rfl (c_spec_l08Power 0 (IntKind.u8.wrap (IntKind.i64.wrap (a0 + 1))) h _) (fun ret42 w44 hR43 => ?_)
     obtain ⟨r45, u46, f47, rfl, h, hr48, hf49, hB50⟩ := hR43
     refine ⟨_, rfl, ?_⟩
     replace hC := hC.push hB50 (Tr.item (TrForm 93) r45 [u46] f47) hr48 hf49
     obtain ⟨ho52, hf53⟩ := form_split (hC.getM 0 rfl)
     subst hf53
     replace hC := hC.recast (c := own 93 9 u46 r45.terms.length (ETerm.encs r45.terms)) (fun _ h_ => h_) (fun _ => ho52)
     refine s_bslice (sz := 1) hC [(0, .agg #[.slice none 0 0]), (1, .agg #[u46])] [.slice none 0 0, u46] rfl (fun _ => bsr32_2_n_s (.slice none 0 0) u46 ⟨_, _, _, rfl⟩ (own_isSl (hC.getM 0 rfl)) _) rfl (by decide) fun b55 w56 hB_ hC => ?_
     replace hC := hC.pushM0 (forest (TrForm 93) [] [] []) (forest_nil _ _) rfl
     replace hC := hC.sel [2, 0, 1, 3, 4] [] (M' := [own 93 9 u46 r45.terms.length (ETerm.encs r45.terms), forest (TrForm 93) [] [] [], own 51 1 (.slice (some ⟨b55, 0, none⟩) 2 2) 2 [.slice none 0 0, u46], own 2 1 (.slice (some ⟨b39, 0, none⟩) 2 2) ([a1, IntKind.i64.wrap ((IntKind.i64.wrap (a1 * (IntKind.i64.wrap (a0 + 1)))) - 1)].length) ((EI .i64).encs [a1, IntKind.i64.wrap ((IntKind.i64.wrap (a1 * (IntKind.i64.wrap (a0 + 1)))) - 1)]), blk b1 34 [.slice none 0 0, .slice none 0 0]]) (Ps' := []) (by decide) rfl rfl
     replace hC := hC.gather (c := forest (TrForm 93) [r45] [u46] [(Option.toList (Value.ownBlock u46))]) (fun x_ hx_ => forest_mem hx_) (fun h1_ h2_ hd_ => forest_cons (c := [u46]) (form_join (own_item h1_)) h2_ hd_)
     replace hC := hC.recast (c := forest (TrForm 93) [(⟨[]⟩ : Vc.Form), r45] [.slice none 0 0, u46] [[], (Option.toList (Value.ownBlock u46))]) (fun x_ hx_ => hx_) (fun h_ => forest_cons (c := [.slice none 0 0]) (form_join (nil_item _ _ _)) h_ (by simp))
     replace hC := hC.sel [1, 0, 2, 3] [] (M' := [own 51 1 (.slice (some ⟨b55, 0, none⟩) 2 2) 2 [.slice none 0 0, u46], forest (TrForm 93) [(⟨[]⟩ : Vc.Form), r45] [.slice none 0 0, u46] [[], (Option.toList (Value.ownBlock u46))], own 2 1 (.slice (some ⟨b39, 0, none⟩) 2 2) ([a1, IntKind.i64.wrap ((IntKind.i64.wrap (a1 * (IntKind.i64.wrap (a0 + 1)))) - 1)].length) ((EI .i64).encs [a1, IntKind.i64.wrap ((IntKind.i64.wrap (a1 * (IntKind.i64.wrap (a0 + 1)))) - 1)]), blk b1 34 [.slice none 0 0, .slice none 0 0]]) (Ps' := []) (by decide) rfl rfl
     replace hC := hC.gather (c := Tr.item (Tr.sl 51 (TrForm 93)) [(⟨[]⟩ : Vc.Form), r45] [.slice (some ⟨b55, 0, none⟩) 2 2] ((Option.toList (Value.ownBlock (.slice (some ⟨b55, 0, none⟩) 2 2))) ++ ([[], (Option.toList (Value.ownBlock u46))] : List (List Nat)).flatten)) (fun x_ hx_ => List.mem_append.1 hx_) (fun h1_ h2_ hd_ => forest_up h1_ h2_ hd_)
     refine s_build [(0, .slice (some ⟨b39, 0, none⟩) 2 2), (1, .slice (some ⟨b55, 0, none⟩) 2 2)] rfl (bl34_0sl_1sl (.slice (some ⟨b39, 0, none⟩) 2 2) (.slice (some ⟨b55, 0, none⟩) 2 2) (own_isSl (hC.getM 1 rfl)) (rep_isSl (Tr.trep _ (hC.getM 0 rfl).1)) _) ?_
     refine s_store (v := .agg #[.slice (some ⟨b39, 0, none⟩) 2 2, .slice (some ⟨b55, 0, none⟩) 2 2]) hC 2 [.slice (some ⟨b39, 0, none⟩) 2 2, .slice (some ⟨b55, 0, none⟩) 2 2] [.slice (some ⟨b39, 0, none⟩) 2 2, .slice (some ⟨b55, 0, none⟩) 2 2] rfl ag34.size rfl rfl rfl rfl (all_c (own_oneC (hC.getM 1 rfl)) (all_c (rep_oneC (Tr.trep _ (hC.getM 0 rfl).1)) rfl)) (Nat.le_of_ble_eq_true rfl) rfl fun w60 hC => ?_
     refine s_as (v := .int .i64 0) rfl ?_
     refine dn ?_
     refine wp_ret ?_
     refine ret2 (fn := Try.f19) rfl ?_ ?_ ⟨(⟨[a1, IntKind.i64.wrap ((IntKind.i64.wrap (a1 * (IntKind.i64.wrap (a0 + 1)))) - 1)], [(⟨[]⟩ : Vc.Form), r45]⟩ : Alg), .slice (some ⟨b39, 0, none⟩) 2 2, .slice (some ⟨b55, 0, none⟩) 2 2, ((Option.toList (Value.ownBlock (.slice (some ⟨b39, 0, none⟩) 2 2))) ++ ((Option.toList (Value.ownBlock (.slice (some ⟨b55, 0, none⟩) 2 2))) ++ ([[], (Option.toList (Value.ownBlock u46))] : List (List Nat)).flatten)), 0, rfl, h, (alg_join (own_item (hC.getM 1 rfl)) (hC.getM 0 rfl) (fun x hx hx' => hC.mm 1 0 rfl rfl (by decide) x hx hx')), (fun b hb => (List.mem_append.1 hb).elim (fun hb => (own_fresh hC 1 rfl) b hb) (fun hb => (tr_fresh hC 0 rfl) b hb)), hC.below⟩ (.inl rfl)
     ·exact res_cellA hC 2 rfl ag34 rfl rfl
     ·exact res_tmp rfl
 ·replace h := iff_ h (cf hb4)
  refine guardOff (b := false) 2 8 rfl (tr rfl (congrArg _ hb4)) (by decide) ?_
  refine guardOff (b := false) 2 8 rfl (tr rfl (congrArg _ hb4)) (by decide) ?_
  refine s_pick (v := .bool false) (b := false) (tr rfl (congrArg _ hb4)) rfl ?_
  refine s_mv (v := .bool false) rfl ?_
  refine guardOn 6 12 rfl rfl rfl ?_
  refine s_mv (v := .int .i64 a0) rfl ?_
  refine guardOn 6 12 rfl rfl rfl ?_
  refine s_call [.int .i64 a0, .int .i64 1, .int .i64 5] _ Try.func67 rfl rfl rfl (c_spec_l01In a0 1 5 h _) (fun ret61 w63 hR62 => ?_)
  obtain ⟨r64, rfl, h, hB65⟩ := hR62
  refine ⟨_, rfl, ?_⟩
  replace hC := hC.grow hB65
  refine guardOn 6 12 rfl rfl rfl ?_
  refine s_not rfl ?_
  refine s_pick (v := .bool (!r64)) (b := false) rfl rfl ?_
  refine s_mv (v := .bool (!r64)) rfl ?_
  refine bsplit (!r64) (fun hb66 => ?_) (fun hb66 => ?_)
  ·replace h := ift h (ne_t (not_t hb66))
   refine guardOff (b := true) 11 17 rfl (tr rfl (congrArg _ hb66)) (by decide) ?_
   refine guardOff (b := true) 11 17 rfl (tr rfl (congrArg _ hb66)) (by decide) ?_
   refine guardOff (b := true) 11 17 rfl (tr rfl (congrArg _ hb66)) (by decide) ?_
   refine guardOffU 14 20 rfl rfl ?_
   refine guardOffU 14 20 rfl rfl ?_
   refine guardOff (b := true) 11 17 rfl (tr rfl (congrArg _ hb66)) (by decide) ?_
   refine s_pick (v := .bool true) (b := true) (tr rfl (congrArg _ hb66)) rfl ?_
   refine dn ?_
   refine cw_true rfl rfl ?_
   refine sr ?_
   refine s_build [] rfl (bl34   _) ?_
   refine s_store (v := .agg #[.slice none 0 0, .slice none 0 0]) hC 0 [.slice none 0 0, .slice none 0 0] [.slice none 0 0, .slice none 0 0] rfl ag34.size rfl rfl rfl rfl rfl (Nat.le_of_ble_eq_true rfl) rfl fun w67 hC => ?_
   refine s_as (v := .int .i64 2) rfl ?_
   refine dn ?_
   refine wp_ret (then_ret ?_)
   refine ret2 (fn := Try.f19) rfl ?_ ?_ ⟨(⟨[], []⟩ : Alg), .slice none 0 0, .slice none 0 0, ([] ++ []), 2, rfl, h, (alg_join (nil_item _ _ _) (nil_item _ _ _) (fun x hx => absurd hx (by simp))), (fun b hb => (List.mem_append.1 hb).elim (fun hb => (fun b hb => absurd hb (by simp)) b hb) (fun hb => (fun b hb => absurd hb (by simp)) b hb)), hC.below⟩ (.inl rfl)
   ·exact res_cellA hC 0 rfl ag34 rfl rfl
   ·exact res_tmp rfl
  ·replace h := iff_ h (not_not_intro ((not_f hb66)))
   refine guardOn 11 17 rfl rfl hb66 ?_
   refine s_mv (v := .int .i64 a1) rfl ?_
   refine guardOn 11 17 rfl rfl hb66 ?_
   refine s_eql rfl rfl ?_
   refine guardOn 11 17 rfl rfl hb66 ?_
   refine s_mv (v := .bool (decide (a1 = 4))) rfl ?_
   refine bsplit (decide (a1 = 4)) (fun hb68 => ?_) (fun hb68 => ?_)
   ·replace h := ift h (ct hb68)
    refine guardOn 14 20 rfl rfl hb68 ?_
    refine s_mv (v := .int .i64 a0) rfl ?_
    refine guardOn 14 20 rfl rfl hb68 ?_
    refine s_gtr rfl rfl ?_
    refine guardOn 11 17 rfl rfl hb66 ?_
    refine s_pick (v := .bool (decide (a0 > 2))) (b := true) (tr rfl (congrArg _ hb68)) rfl ?_
    refine s_pick (v := .bool (decide (a0 > 2))) (b := false) (tr rfl (congrArg _ hb66)) rfl ?_
    refine dn ?_
    refine cw_cond rfl (fun hb69 => ?_) (fun hb69 => ?_)
    ·replace h := ift h (ct hb69)
     refine sr ?_
     refine s_build [] rfl (bl34   _) ?_
     refine s_store (v := .agg #[.slice none 0 0, .slice none 0 0]) hC 0 [.slice none 0 0, .slice none 0 0] [.slice none 0 0, .slice none 0 0] rfl ag34.size rfl rfl rfl rfl rfl (Nat.le_of_ble_eq_true rfl) rfl fun w70 hC => ?_
     refine s_as (v := .int .i64 2) rfl ?_
     refine dn ?_
     refine wp_ret (then_ret ?_)
     refine ret2 (fn := Try.f19) rfl ?_ ?_ ⟨(⟨[], []⟩ : Alg), .slice none 0 0, .slice none 0 0, ([] ++ []), 2, rfl, h, (alg_join (nil_item _ _ _) (nil_item _ _ _) (fun x hx => absurd hx (by simp))), (fun b hb => (List.mem_append.1 hb).elim (fun hb => (fun b hb => absurd hb (by simp)) b hb) (fun hb => (fun b hb => absurd hb (by simp)) b hb)), hC.below⟩ (.inl rfl)
     ·exact res_cellA hC 0 rfl ag34 rfl rfl
     ·exact res_tmp rfl
    ·replace h := iff_ h (cf hb69)
     refine wp_skip ?_
     refine then_norm ?_
     refine sr ?_
     refine s_mv (v := .int .i64 a1) rfl ?_
     refine s_mv (v := .int .i64 a1) rfl ?_
     refine s_mv (v := .int .i64 a0) rfl ?_
     refine s_add rfl rfl ?_
     refine s_mul rfl rfl ?_
     refine s_sub rfl rfl ?_
     refine s_bslice (sz := 1) hC [(0, .int .i64 a1), (1, .int .i64 (IntKind.i64.wrap ((IntKind.i64.wrap (a1 * (IntKind.i64.wrap (a0 + 1)))) - 1)))] ((EI .i64).encs [a1, IntKind.i64.wrap ((IntKind.i64.wrap (a1 * (IntKind.i64.wrap (a0 + 1)))) - 1)]) rfl (fun _ => bs22_2 a1 (IntKind.i64.wrap ((IntKind.i64.wrap (a1 * (IntKind.i64.wrap (a0 + 1)))) - 1)) _) rfl (by decide) fun b71 w72 hB_ hC => ?_
     refine s_build [] rfl (bl51   _) ?_
     refine s_mv (v := .int .i64 a0) rfl ?_
     refine s_add rfl rfl ?_
     refine s_conv Try.underlying2 Try.underlying5 rfl ?_
     refine s_call [.int .i64 0, .int .u8 (IntKind.u8.wrap (IntKind.i64.wrap (a0 + 1)))] _ Try.func68 rfl rfl rfl (c_spec_l08Power 0 (IntKind.u8.wrap (IntKind.i64.wrap (a0 + 1))) h _) (fun ret74 w76 hR75 => ?_)
     obtain ⟨r77, u78, f79, rfl, h, hr80, hf81, hB82⟩ := hR75
     refine ⟨_, rfl, ?_⟩
     replace hC := hC.push hB82 (Tr.item (TrForm 93) r77 [u78] f79) hr80 hf81
     obtain ⟨ho84, hf85⟩ := form_split (hC.getM 0 rfl)
     subst hf85
     replace hC := hC.recast (c := own 93 9 u78 r77.terms.length (ETerm.encs r77.terms)) (fun _ h_ => h_) (fun _ => ho84)
     refine s_bslice (sz := 1) hC [(0, .agg #[.slice none 0 0]), (1, .agg #[u78])] [.slice none 0 0, u78] rfl (fun _ => bsr32_2_n_s (.slice none 0 0) u78 ⟨_, _, _, rfl⟩ (own_isSl (hC.getM 0 rfl)) _) rfl (by decide) fun b87 w88 hB_ hC => ?_
     replace hC := hC.pushM0 (forest (TrForm 93) [] [] []) (forest_nil _ _) rfl
     replace hC := hC.sel [2, 0, 1, 3, 4] [] (M' := [own 93 9 u78 r77.terms.length (ETerm.encs r77.terms), forest (TrForm 93) [] [] [], own 51 1 (.slice (some ⟨b87, 0, none⟩) 2 2) 2 [.slice none 0 0, u78], own 2 1 (.slice (some ⟨b71, 0, none⟩) 2 2) ([a1, IntKind.i64.wrap ((IntKind.i64.wrap (a1 * (IntKind.i64.wrap (a0 + 1)))) - 1)].length) ((EI .i64).encs [a1, IntKind.i64.wrap ((IntKind.i64.wrap (a1 * (IntKind.i64.wrap (a0 + 1)))) - 1)]), blk b1 34 [.slice none 0 0, .slice none 0 0]]) (Ps' := []) (by decide) rfl rfl
     replace hC := hC.gather (c := forest (TrForm 93) [r77] [u78] [(Option.toList (Value.ownBlock u78))]) (fun x_ hx_ => forest_mem hx_) (fun h1_ h2_ hd_ => forest_cons (c := [u78]) (form_join (own_item h1_)) h2_ hd_)
     replace hC := hC.recast (c := forest (TrForm 93) [(⟨[]⟩ : Vc.Form), r77] [.slice none 0 0, u78] [[], (Option.toList (Value.ownBlock u78))]) (fun x_ hx_ => hx_) (fun h_ => forest_cons (c := [.slice none 0 0]) (form_join (nil_item _ _ _)) h_ (by simp))
     replace hC := hC.sel [1, 0, 2, 3] [] (M' := [own 51 1 (.slice (some ⟨b87, 0, none⟩) 2 2) 2 [.slice none 0 0, u78], forest (TrForm 93) [(⟨[]⟩ : Vc.Form), r77] [.slice none 0 0, u78] [[], (Option.toList (Value.ownBlock u78))], own 2 1 (.slice (some ⟨b71, 0, none⟩) 2 2) ([a1, IntKind.i64.wrap ((IntKind.i64.wrap (a1 * (IntKind.i64.wrap (a0 + 1)))) - 1)].length) ((EI .i64).encs [a1, IntKind.i64.wrap ((IntKind.i64.wrap (a1 * (IntKind.i64.wrap (a0 + 1)))) - 1)]), blk b1 34 [.slice none 0 0, .slice none 0 0]]) (Ps' := []) (by decide) rfl rfl
     replace hC := hC.gather (c := Tr.item (Tr.sl 51 (TrForm 93)) [(⟨[]⟩ : Vc.Form), r77] [.slice (some ⟨b87, 0, none⟩) 2 2] ((Option.toList (Value.ownBlock (.slice (some ⟨b87, 0, none⟩) 2 2))) ++ ([[], (Option.toList (Value.ownBlock u78))] : List (List Nat)).flatten)) (fun x_ hx_ => List.mem_append.1 hx_) (fun h1_ h2_ hd_ => forest_up h1_ h2_ hd_)
     refine s_build [(0, .slice (some ⟨b71, 0, none⟩) 2 2), (1, .slice (some ⟨b87, 0, none⟩) 2 2)] rfl (bl34_0sl_1sl (.slice (some ⟨b71, 0, none⟩) 2 2) (.slice (some ⟨b87, 0, none⟩) 2 2) (own_isSl (hC.getM 1 rfl)) (rep_isSl (Tr.trep _ (hC.getM 0 rfl).1)) _) ?_
     refine s_store (v := .agg #[.slice (some ⟨b71, 0, none⟩) 2 2, .slice (some ⟨b87, 0, none⟩) 2 2]) hC 2 [.slice (some ⟨b71, 0, none⟩) 2 2, .slice (some ⟨b87, 0, none⟩) 2 2] [.slice (some ⟨b71, 0, none⟩) 2 2, .slice (some ⟨b87, 0, none⟩) 2 2] rfl ag34.size rfl rfl rfl rfl (all_c (own_oneC (hC.getM 1 rfl)) (all_c (rep_oneC (Tr.trep _ (hC.getM 0 rfl).1)) rfl)) (Nat.le_of_ble_eq_true rfl) rfl fun w92 hC => ?_
     refine s_as (v := .int .i64 0) rfl ?_
     refine dn ?_
     refine wp_ret ?_
     refine ret2 (fn := Try.f19) rfl ?_ ?_ ⟨(⟨[a1, IntKind.i64.wrap ((IntKind.i64.wrap (a1 * (IntKind.i64.wrap (a0 + 1)))) - 1)], [(⟨[]⟩ : Vc.Form), r77]⟩ : Alg), .slice (some ⟨b71, 0, none⟩) 2 2, .slice (some ⟨b87, 0, none⟩) 2 2, ((Option.toList (Value.ownBlock (.slice (some ⟨b71, 0, none⟩) 2 2))) ++ ((Option.toList (Value.ownBlock (.slice (some ⟨b87, 0, none⟩) 2 2))) ++ ([[], (Option.toList (Value.ownBlock u78))] : List (List Nat)).flatten)), 0, rfl, h, (alg_join (own_item (hC.getM 1 rfl)) (hC.getM 0 rfl) (fun x hx hx' => hC.mm 1 0 rfl rfl (by decide) x hx hx')), (fun b hb => (List.mem_append.1 hb).elim (fun hb => (own_fresh hC 1 rfl) b hb) (fun hb => (tr_fresh hC 0 rfl) b hb)), hC.below⟩ (.inl rfl)
     ·exact res_cellA hC 2 rfl ag34 rfl rfl
     ·exact res_tmp rfl
   ·replace h := iff_ h (cf hb68)
    refine guardOff (b := false) 14 20 rfl (tr rfl (congrArg _ hb68)) (by decide) ?_
    refine guardOff (b := false) 14 20 rfl (tr rfl (congrArg _ hb68)) (by decide) ?_
    refine guardOn 11 17 rfl rfl hb66 ?_
    refine s_pick (v := .bool false) (b := false) (tr rfl (congrArg _ hb68)) rfl ?_
    refine s_pick (v := .bool false) (b := false) (tr rfl (congrArg _ hb66)) rfl ?_
    refine dn ?_
    refine cw_false rfl rfl ?_
    refine wp_skip ?_
    refine then_norm ?_
    refine sr ?_
    refine s_mv (v := .int .i64 a1) rfl ?_
    refine s_mv (v := .int .i64 a1) rfl ?_
    refine s_mv (v := .int .i64 a0) rfl ?_
    refine s_add rfl rfl ?_
    refine s_mul rfl rfl ?_
    refine s_sub rfl rfl ?_
    refine s_bslice (sz := 1) hC [(0, .int .i64 a1), (1, .int .i64 (IntKind.i64.wrap ((IntKind.i64.wrap (a1 * (IntKind.i64.wrap (a0 + 1)))) - 1)))] ((EI .i64).encs [a1, IntKind.i64.wrap ((IntKind.i64.wrap (a1 * (IntKind.i64.wrap (a0 + 1)))) - 1)]) rfl (fun _ => bs22_2 a1 (IntKind.i64.wrap ((IntKind.i64.wrap (a1 * (IntKind.i64.wrap (a0 + 1)))) - 1)) _) rfl (by decide) fun b93 w94 hB_ hC => ?_
    refine s_build [] rfl (bl51   _) ?_
    refine s_mv (v := .int .i64 a0) rfl ?_
    refine s_add rfl rfl ?_
    refine s_conv Try.underlying2 Try.underlying5 rfl ?_
    refine s_call [.int .i64 0, .int .u8 (IntKind.u8.wrap (IntKind.i64.wrap (a0 + 1)))] _ Try.func68 rfl rfl rfl (c_spec_l08Power 0 (IntKind.u8.wrap (IntKind.i64.wrap (a0 + 1))) h _) (fun ret96 w98 hR97 => ?_)
    obtain ⟨r99, u100, f101, rfl, h, hr102, hf103, hB104⟩ := hR97
    refine ⟨_, rfl, ?_⟩
    replace hC := hC.push hB104 (Tr.item (TrForm 93) r99 [u100] f101) hr102 hf103
    obtain ⟨ho106, hf107⟩ := form_split (hC.getM 0 rfl)
    subst hf107
    replace hC := hC.recast (c := own 93 9 u100 r99.terms.length (ETerm.encs r99.terms)) (fun _ h_ => h_) (fun _ => ho106)
    refine s_bslice (sz := 1) hC [(0, .agg #[.slice none 0 0]), (1, .agg #[u100])] [.slice none 0 0, u100] rfl (fun _ => bsr32_2_n_s (.slice none 0 0) u100 ⟨_, _, _, rfl⟩ (own_isSl (hC.getM 0 rfl)) _) rfl (by decide) fun b109 w110 hB_ hC => ?_
    replace hC := hC.pushM0 (forest (TrForm 93) [] [] []) (forest_nil _ _) rfl
    replace hC := hC.sel [2, 0, 1, 3, 4] [] (M' := [own 93 9 u100 r99.terms.length (ETerm.encs r99.terms), forest (TrForm 93) [] [] [], own 51 1 (.slice (some ⟨b109, 0, none⟩) 2 2) 2 [.slice none 0 0, u100], own 2 1 (.slice (some ⟨b93, 0, none⟩) 2 2) ([a1, IntKind.i64.wrap ((IntKind.i64.wrap (a1 * (IntKind.i64.wrap (a0 + 1)))) - 1)].length) ((EI .i64).encs [a1, IntKind.i64.wrap ((IntKind.i64.wrap (a1 * (IntKind.i64.wrap (a0 + 1)))) - 1)]), blk b1 34 [.slice none 0 0, .slice none 0 0]]) (Ps' := []) (by decide) rfl rfl
    replace hC := hC.gather (c := forest (TrForm 93) [r99] [u100] [(Option.toList (Value.ownBlock u100))]) (fun x_ hx_ => forest_mem hx_) (fun h1_ h2_ hd_ => forest_cons (c := [u100]) (form_join (own_item h1_)) h2_ hd_)
    replace hC := hC.recast (c := forest (TrForm 93) [(⟨[]⟩ : Vc.Form), r99] [.slice none 0 0, u100] [[], (Option.toList (Value.ownBlock u100))]) (fun x_ hx_ => hx_) (fun h_ => forest_cons (c := [.slice none 0 0]) (form_join (nil_item _ _ _)) h_ (by simp))
    replace hC := hC.sel [1, 0, 2, 3] [] (M' := [own 51 1 (.slice (some ⟨b109, 0, none⟩) 2 2) 2 [.slice none 0 0, u100], forest (TrForm 93) [(⟨[]⟩ : Vc.Form), r99] [.slice none 0 0, u100] [[], (Option.toList (Value.ownBlock u100))], own 2 1 (.slice (some ⟨b93, 0, none⟩) 2 2) ([a1, IntKind.i64.wrap ((IntKind.i64.wrap (a1 * (IntKind.i64.wrap (a0 + 1)))) - 1)].length) ((EI .i64).encs [a1, IntKind.i64.wrap ((IntKind.i64.wrap (a1 * (IntKind.i64.wrap (a0 + 1)))) - 1)]), blk b1 34 [.slice none 0 0, .slice none 0 0]]) (Ps' := []) (by decide) rfl rfl
    replace hC := hC.gather (c := Tr.item (Tr.sl 51 (TrForm 93)) [(⟨[]⟩ : Vc.Form), r99] [.slice (some ⟨b109, 0, none⟩) 2 2] ((Option.toList (Value.ownBlock (.slice (some ⟨b109, 0, none⟩) 2 2))) ++ ([[], (Option.toList (Value.ownBlock u100))] : List (List Nat)).flatten)) (fun x_ hx_ => List.mem_append.1 hx_) (fun h1_ h2_ hd_ => forest_up h1_ h2_ hd_)
    refine s_build [(0, .slice (some ⟨b93, 0, none⟩) 2 2), (1, .slice (some ⟨b109, 0, none⟩) 2 2)] rfl (bl34_0sl_1sl (.slice (some ⟨b93, 0, none⟩) 2 2) (.slice (some ⟨b109, 0, none⟩) 2 2) (own_isSl (hC.getM 1 rfl)) (rep_isSl (Tr.trep _ (hC.getM 0 rfl).1)) _) ?_
    refine s_store (v := .agg #[.slice (some ⟨b93, 0, none⟩) 2 2, .slice (some ⟨b109, 0, none⟩) 2 2]) hC 2 [.slice (some ⟨b93, 0, none⟩) 2 2, .slice (some ⟨b109, 0, none⟩) 2 2] [.slice (some ⟨b93, 0, none⟩) 2 2, .slice (some ⟨b109, 0, none⟩) 2 2] rfl ag34.size rfl rfl rfl rfl (all_c (own_oneC (hC.getM 1 rfl)) (all_c (rep_oneC (Tr.trep _ (hC.getM 0 rfl).1)) rfl)) (Nat.le_of_ble_eq_true rfl) rfl fun w114 hC => ?_
    refine s_as (v := .int .i64 0) rfl ?_
    refine dn ?_
    refine wp_ret ?_
    refine ret2 (fn := Try.f19) rfl ?_ ?_ ⟨(⟨[a1, IntKind.i64.wrap ((IntKind.i64.wrap (a1 * (IntKind.i64.wrap (a0 + 1)))) - 1)], [(⟨[]⟩ : Vc.Form), r99]⟩ : Alg), .slice (some ⟨b93, 0, none⟩) 2 2, .slice (some ⟨b109, 0, none⟩) 2 2, ((Option.toList (Value.ownBlock (.slice (some ⟨b93, 0, none⟩) 2 2))) ++ ((Option.toList (Value.ownBlock (.slice (some ⟨b109, 0, none⟩) 2 2))) ++ ([[], (Option.toList (Value.ownBlock u100))] : List (List Nat)).flatten)), 0, rfl, h, (alg_join (own_item (hC.getM 1 rfl)) (hC.getM 0 rfl) (fun x hx hx' => hC.mm 1 0 rfl rfl (by decide) x hx hx')), (fun b hb => (List.mem_append.1 hb).elim (fun hb => (own_fresh hC 1 rfl) b hb) (fun hb => (tr_fresh hC 0 rfl) b hb)), hC.below⟩ (.inl rfl)
    ·exact res_cellA hC 2 rfl ag34 rfl rfl
    ·exact res_tmp rfl
def f_impl_field (a0 : Int) (K : Int → Prop) : Prop :=
 K (Int.tmod (IntKind.i64.wrap ((Int.tmod a0 10007) + 10007)) 10007)
theorem c_impl_field (a0 : Int)  {K : Int → Prop} (h : f_impl_field a0 K) (w0 : World)  :
  Calls Try.prog 131 #[.int .i64 a0] w0 fun e w' => ∃ (r0 : Int), 
   e = .returned (.int .i64 r0) ∧ K r0 ∧ Bel w0 w' := by
 unfold f_impl_field at h
 refine calls_of (args := [.int .i64 a0]) Try.func131 rfl 7 Try.ntmps131 (Nat.le_of_ble_eq_true rfl) ?_
 have hC := Ctx.start (X := Nox) w0 [] (by simp)
 refine sr ?_
 refine s_as (v := .int .i64 0) rfl ?_
 refine dn ?_
 refine sr ?_
 refine s_mv (v := .int .i64 a0) rfl ?_
 refine s_rem rfl rfl (by decide) ?_
 refine s_add rfl rfl ?_
 refine s_rem rfl rfl (by decide) ?_
 refine s_as (v := .int .i64 (Int.tmod (IntKind.i64.wrap ((Int.tmod a0 10007) + 10007)) 10007)) rfl ?_
 refine dn ?_
 refine wp_ret ?_
 refine ret1 (fn := Try.f131) rfl ?_ ⟨Int.tmod (IntKind.i64.wrap ((Int.tmod a0 10007) + 10007)) 10007, rfl, h, hC.below⟩ (.inl rfl)
 exact res_tmp rfl
def f_impl_powerOf (a0 : A8) (K : A8 → Prop) : Prop :=
 forN (fun i21 (s22 : A8) next23 => next23 (s22.set i21 (IntKind.i64.wrap (a0.get i21)))) (fun (s22 : A8) => K s22) 8 0 A8.zero
theorem c_impl_powerOf (a0 : A8)  {K : A8 → Prop} (h : f_impl_powerOf a0 K) (w0 : World)  :
  Calls Try.prog 64 #[.agg (List.toArray (A8.enc .u8 a0))] w0 fun e w' => ∃ (r0 : A8), 
   e = .returned (.agg (List.toArray (A8.enc .i64 r0))) ∧ K r0 ∧ Bel w0 w' := by
 unfold f_impl_powerOf at h
 refine calls_of (args := [.agg (List.toArray (A8.enc .u8 a0))]) Try.func64 rfl 18 Try.ntmps64 (Nat.le_of_ble_eq_true rfl) ?_
 have hC := Ctx.start (X := Nox) w0 [] (by simp)
 refine sr ?_
 refine s_box (v := .agg (List.toArray (A8.enc .u8 a0))) hC (A8.enc .u8 a0) rfl rfl fun b1 w3 hB_ hC => ?_
 refine s_alloc hC (A8.enc .i64 A8.zero) z85 rfl fun b4 w6 hB_ hC => ?_
 refine dn ?_
 refine sr ?_
 refine s_build [] rfl (bl85   _) ?_
 refine s_alloc hC (A8.enc .i64 A8.zero) z85 rfl fun b7 w9 hB_ hC => ?_
 refine s_store (v := .agg (List.toArray (A8.enc .i64 A8.zero))) hC 0 (A8.enc .i64 A8.zero) (A8.enc .i64 A8.zero) rfl ag85.size rfl rfl rfl rfl rfl (Nat.le_of_ble_eq_true rfl) rfl fun w10 hC => ?_
 refine dn ?_
 refine wp_seq ?_
 refine sr ?_
 refine s_loadA hC 2 (A8.enc .u8 a0) rfl ag24 rfl rfl rfl ?_
 refine s_mv (v := .int .i64 0) rfl ?_
 refine dn ?_
 refine wp_block ?_
 refine loopN (S := A8) _ _ (fun i21 s22 e_ w_ => Slots e_ [(2, .pointer (some ⟨b4, 0, none⟩)), (3, .pointer (some ⟨b7, 0, none⟩)), (7, .agg (List.toArray (A8.enc .u8 a0))), (8, .int .i64 (i21 : Int))] ∧ Ctx Nox w0 w_ [blk b7 85 (A8.enc .i64 s22), blk b4 85 (A8.enc .i64 A8.zero)] []) 8 ?_ ?_ (s0 := A8.zero) ?_ h
 ·clear hC h
  rintro i21 s22 e_ w27 next23 K24 hi26 ⟨hS_, hC⟩ h hK25
  refine sr ?_
  refine s_lss (sx hS_ 3 rfl) rfl ?_
  refine dn ?_
  refine wp_seq ?_
  refine cw_true rfl (decide_eq_true (by omega)) ?_
  refine wp_skip ?_
  refine then_norm ?_
  refine wp_seq ?_
  refine wp_block ?_
  refine sr ?_
  refine s_mv (v := .int .i64 (i21 : Int)) (sx hS_ 3 rfl) ?_
  refine s_index (.int .u8 (a0.get i21)) Try.underlying24 (sx hS_ 2 rfl) (sx hS_ 3 rfl) (Int.natCast_nonneg _) (by omega) sc5 (A8.enc_get _ _ hi26) ?_
  refine s_as (v := .int .i64 (i21 : Int)) rfl ?_
  refine s_as (v := .int .u8 (a0.get i21)) rfl ?_
  refine dn ?_
  refine cw_region ?_
  refine s_mv (v := .int .i64 (i21 : Int)) rfl ?_
  refine s_mv (v := .int .u8 (a0.get i21)) rfl ?_
  refine s_conv Try.underlying5 Try.underlying3 rfl ?_
  refine s_iaddrB i21 Try.underlying85 sc3.size (sx hS_ 1 rfl) rfl (Int.natCast_nonneg _) (by omega) (by omega) ?_
  refine s_store (v := .int .i64 (IntKind.i64.wrap (a0.get i21))) hC 0 [.int .i64 (IntKind.i64.wrap (a0.get i21))] (A8.enc .i64 (s22.set i21 (IntKind.i64.wrap (a0.get i21)))) rfl sc3.size rfl rfl rfl rfl rfl hi26 (A8.enc_set _ _ _ hi26) fun w28 hC => ?_
  refine done ?_
  refine blk_norm ?_
  refine then_norm ?_
  refine cw_region ?_
  refine s_add (sx hS_ 3 rfl) rfl ?_
  refine s_mv (v := .int .i64 (IntKind.i64.wrap ((i21 : Int) + 1))) rfl ?_
  refine done ?_
  exact hK25 (s22.set i21 (IntKind.i64.wrap (a0.get i21))) _ _ ⟨(sk (sx hS_ 0 rfl) (sk (sx hS_ 1 rfl) (sk (sx hS_ 2 rfl) (sk (tr rfl (congrArg _ (wrap64_nat hi26 (by decide)))) sn)))), hC⟩ h
 ·clear hC h
  rintro s22 e_ w29 K24 ⟨hS_, hC⟩ h
  refine sr ?_
  refine s_lss (sx hS_ 3 rfl) rfl ?_
  refine dn ?_
  refine wp_seq ?_
  refine cw_false rfl (decide_eq_false (by omega)) ?_
  refine wp_exit (then_exit (then_exit (exit_in ?_)))
  refine then_norm ?_
  refine sr ?_
  refine s_loadA hC 0 (A8.enc .i64 s22) rfl ag85 (sx hS_ 1 rfl) rfl rfl ?_
  refine s_store (v := .agg (List.toArray (A8.enc .i64 s22))) hC 1 (A8.enc .i64 s22) (A8.enc .i64 s22) rfl ag85.size (sx hS_ 0 rfl) rfl rfl rfl rfl (Nat.le_of_ble_eq_true rfl) rfl fun w30 hC => ?_
  refine dn ?_
  refine wp_ret ?_
  refine ret1 (fn := Try.f64) rfl ?_ ⟨s22, rfl, h, hC.below⟩ (.inl rfl)
  exact res_cellA hC 1 rfl ag85 (sx hS_ 0 rfl) rfl
 ·skip
  replace hC := hC.sel [0, 1] [] (M' := [blk b7 85 (A8.enc .i64 A8.zero), blk b4 85 (A8.enc .i64 A8.zero)]) (Ps' := []) (by decide) rfl rfl
  exact ⟨(sk rfl (sk rfl (sk rfl (sk rfl sn)))), hC⟩
def f_impl_power_times (a0 : A8) (a1 : List Int) (a2 : A8) (K : A8 → Int → Prop) : Prop :=
 forN (fun i220 (s221 : Int) next223 => (if Int.tmod (a1.getD i220 default) 2 = 0 then next223 s221 else ((0 ≤ (i220 : Int) ∧ (i220 : Int) < 8) ∧ (if a0.get i220 > 0 then ((0 ≤ (i220 : Int) ∧ (i220 : Int) < 8) ∧ (if a2.get i220 > 0 then K A8.zero 0 else ((0 ≤ (i220 : Int) ∧ (i220 : Int) < 8) ∧ next223 s221))) else ((0 ≤ (i220 : Int) ∧ (i220 : Int) < 8) ∧ (if a2.get i220 > 0 then whileP (fun (s274 : Int × Int) next275 => (if s274.1 < (a1.length : Int) then ((0 ≤ s274.1 ∧ s274.1 < (a1.length : Int)) ∧ ((0 ≤ s274.1 ∧ s274.1 < 8) ∧ next275 (IntKind.i64.wrap (s274.1 + 1), IntKind.i64.wrap (s274.2 + (IntKind.i64.wrap ((Int.tmod (a1.getD s274.1.toNat default) 2) * (a0.get s274.1.toNat))))))) else next223 s274.2)) (IntKind.i64.wrap ((i220 : Int) + 1), s221) else next223 s221)))))) (fun (s221 : Int) => forN (fun i314 (s315 : A8) next316 => next316 (s315.set i314 (IntKind.i64.wrap ((s315.get i314) + (a2.get i314))))) (fun (s315 : A8) => (if Int.tmod s221 2 = 1 then K s315 (-1) else K s315 1)) 8 0 a0) a1.length 0 0
theorem c_impl_power_times (a0 : A8) (a1 : List Int) (a2 : A8) {u1_0 : Value} {fp1 : List Nat} {K : A8 → Int → Prop} (h : f_impl_power_times a0 a1 a2 K) (w0 : World) (q1 : ((EI .i64).ty.sl).rep a1 [u1_0] fp1 w0) :
  Calls Try.prog 65 #[.agg (List.toArray (A8.enc .i64 a0)), u1_0, .agg (List.toArray (A8.enc .i64 a2))] w0 fun e w' => ∃ (r0 : A8) (r1 : Int), 
   e = .returned (.tuple #[.agg (List.toArray (A8.enc .i64 r0)), .int .i64 r1]) ∧ K r0 r1 ∧ Bel w0 w' := by
 unfold f_impl_power_times at h
 refine calls_of (args := [.agg (List.toArray (A8.enc .i64 a0)), u1_0, .agg (List.toArray (A8.enc .i64 a2))]) Try.func65 rfl 75 Try.ntmps65 (Nat.le_of_ble_eq_true rfl) ?_
 have hC := Ctx.start (X := Nox) w0 [Ty.item ((EI .i64).ty.sl) a1 [u1_0] fp1] (by simp only [List.mem_cons, List.not_mem_nil, or_false, forall_eq_or_imp, forall_eq]; exact q1)
 refine sr ?_
 refine s_box (v := .agg (List.toArray (A8.enc .i64 a0))) hC (A8.enc .i64 a0) rfl rfl fun b2 w4 hB_ hC => ?_
 refine s_box (v := .agg (List.toArray (A8.enc .i64 a2))) hC (A8.enc .i64 a2) rfl rfl fun b5 w7 hB_ hC => ?_
 refine s_alloc hC (A8.enc .i64 A8.zero) z85 rfl fun b8 w10 hB_ hC => ?_
 refine s_as (v := .int .i64 0) rfl ?_
 refine dn ?_
 refine sr ?_
 refine s_as (v := .int .i64 0) rfl ?_
 refine dn ?_
 refine wp_seq ?_
 refine sr ?_
 refine s_mv (v := u1_0) rfl ?_
 obtain ⟨Ad11, c12, hv13⟩ := sl_len (hC.getP 0 rfl)
 refine s_len Try.underlying22 (tr rfl hv13) ?_
 refine s_mv (v := .int .i64 0) rfl ?_
 refine dn ?_
 refine wp_block ?_
 have hN222 : a1.length ≤ 9223372036854775807 := sl_max (hC.getP 0 rfl)
 refine loopN (S := Int) _ _ (fun i220 s221 e_ w_ => Slots e_ [(1, u1_0), (3, .pointer (some ⟨b2, 0, none⟩)), (5, .pointer (some ⟨b5, 0, none⟩)), (6, .pointer (some ⟨b8, 0, none⟩)), (7, .int .i64 0), (8, .int .i64 s221), (13, u1_0), (14, .int .i64 (a1.length : Int)), (15, .int .i64 (i220 : Int))] ∧ Ctx Nox w0 w_ [blk b8 85 (A8.enc .i64 A8.zero), blk b5 85 (A8.enc .i64 a2), blk b2 85 (A8.enc .i64 a0)] [Ty.item ((EI .i64).ty.sl) a1 [u1_0] fp1]) a1.length ?_ ?_ (s0 := 0) ?_ h
 ·clear hC h
  rintro i220 s221 e_ w227 next223 K224 hi226 ⟨hS_, hC⟩ h hK225
  refine sr ?_
  refine s_lss (sx hS_ 8 rfl) (sx hS_ 7 rfl) ?_
  refine dn ?_
  refine wp_seq ?_
  refine cw_true rfl (decide_eq_true (by omega)) ?_
  refine wp_skip ?_
  refine then_norm ?_
  refine wp_seq ?_
  refine wp_block ?_
  refine sr ?_
  refine s_mv (v := .int .i64 (i220 : Int)) (sx hS_ 8 rfl) ?_
  obtain ⟨Ad228, c229, hv230⟩ := sl_form (hC.getP 0 rfl) i220 hi226
  refine s_iaddrS (len := a1.length) Try.underlying22 sc2.size (tr (sx hS_ 6 rfl) hv230) (sx hS_ 8 rfl) (Int.natCast_nonneg _) (Int.ofNat_lt.2 hi226) ?_
  refine s_loadCS (.int .i64 (a1.getD i220 default)) (sl_cellsE (hC.getP 0 rfl) hv230 i220 hi226) sc2 rfl ?_
  refine s_as (v := .int .i64 (i220 : Int)) rfl ?_
  refine s_as (v := .int .i64 (a1.getD i220 default)) rfl ?_
  refine dn ?_
  refine wp_seq ?_
  refine sr ?_
  refine s_mv (v := .int .i64 (a1.getD i220 default)) rfl ?_
  refine s_rem rfl rfl (by decide) ?_
  refine s_eql rfl rfl ?_
  refine dn ?_
  refine cw_cond rfl (fun hb231 => ?_) (fun hb231 => ?_)
  ·replace h := ift h (ct hb231)
   refine wp_exit (then_exit (exit_in ?_))
   refine then_norm ?_
   refine cw_region ?_
   refine s_add (sx hS_ 8 rfl) rfl ?_
   refine s_mv (v := .int .i64 (IntKind.i64.wrap ((i220 : Int) + 1))) rfl ?_
   refine done ?_
   exact hK225 s221 _ _ ⟨(sk (sx hS_ 0 rfl) (sk (sx hS_ 1 rfl) (sk (sx hS_ 2 rfl) (sk (sx hS_ 3 rfl) (sk (sx hS_ 4 rfl) (sk (sx hS_ 5 rfl) (sk (sx hS_ 6 rfl) (sk (sx hS_ 7 rfl) (sk (tr rfl (congrArg _ (wrap64_nat hi226 hN222))) sn))))))))), hC⟩ h
  ·replace h := iff_ h (cf hb231)
   refine wp_skip ?_
   refine then_norm ?_
   refine wp_seq ?_
   refine sr ?_
   refine s_mv (v := .int .i64 (i220 : Int)) rfl ?_
   obtain ⟨⟨h0_232, h1_233⟩, h⟩ := h
   refine s_iaddrB i220 Try.underlying85 sc3.size (sx hS_ 1 rfl) rfl h0_232 h1_233 (by omega) ?_
   refine s_loadS hC 2 (.int .i64 (a0.get i220)) rfl sc3 rfl (A8.enc_get _ _ (show i220 < 8 by omega)) ?_
   refine s_gtr rfl rfl ?_
   refine s_mv (v := .bool (decide (a0.get i220 > 0))) rfl ?_
   refine bsplit (decide (a0.get i220 > 0)) (fun hb234 => ?_) (fun hb234 => ?_)
   ·replace h := ift h (ct hb234)
    refine guardOn 4 27 rfl rfl hb234 ?_
    refine s_mv (v := .int .i64 (i220 : Int)) rfl ?_
    refine guardOn 4 27 rfl rfl hb234 ?_
    obtain ⟨⟨h0_235, h1_236⟩, h⟩ := h
    refine s_iaddrB i220 Try.underlying85 sc3.size (sx hS_ 2 rfl) rfl h0_235 h1_236 (by omega) ?_
    refine guardOn 4 27 rfl rfl hb234 ?_
    refine s_loadS hC 1 (.int .i64 (a2.get i220)) rfl sc3 rfl (A8.enc_get _ _ (show i220 < 8 by omega)) ?_
    refine guardOn 4 27 rfl rfl hb234 ?_
    refine s_gtr rfl rfl ?_
    refine s_pick (v := .bool (decide (a2.get i220 > 0))) (b := true) (tr rfl (congrArg _ hb234)) rfl ?_
    refine dn ?_
    refine cw_cond rfl (fun hb237 => ?_) (fun hb237 => ?_)
    ·replace h := ift h (ct hb237)
     refine sr ?_
     refine s_build [] rfl (bl85   _) ?_
     refine s_store (v := .agg (List.toArray (A8.enc .i64 A8.zero))) hC 0 (A8.enc .i64 A8.zero) (A8.enc .i64 A8.zero) rfl ag85.size (sx hS_ 3 rfl) rfl rfl rfl rfl (Nat.le_of_ble_eq_true rfl) rfl fun w238 hC => ?_
     refine s_as (v := .int .i64 0) rfl ?_
     refine dn ?_
     refine wp_ret (then_ret (blk_ret (then_ret (then_ret (blk_ret (then_ret ?_))))))
     refine ret2 (fn := Try.f65) rfl ?_ ?_ ⟨A8.zero, 0, rfl, h, hC.below⟩ (.inl rfl)
     ·exact res_cellA hC 0 rfl ag85 (sx hS_ 3 rfl) rfl
     ·exact res_tmp rfl
    ·replace h := iff_ h (cf hb237)
     refine wp_skip ?_
     refine then_norm ?_
     refine sr ?_
     refine s_mv (v := .int .i64 (i220 : Int)) rfl ?_
     obtain ⟨⟨h0_239, h1_240⟩, h⟩ := h
     refine s_iaddrB i220 Try.underlying85 sc3.size (sx hS_ 2 rfl) rfl h0_239 h1_240 (by omega) ?_
     refine s_loadS hC 1 (.int .i64 (a2.get i220)) rfl sc3 rfl (A8.enc_get _ _ (show i220 < 8 by omega)) ?_
     refine s_gtr rfl rfl ?_
     refine dn ?_
     refine cw_false rfl hb237 ?_
     refine wp_skip ?_
     refine blk_norm ?_
     refine then_norm ?_
     refine cw_region ?_
     refine s_add (sx hS_ 8 rfl) rfl ?_
     refine s_mv (v := .int .i64 (IntKind.i64.wrap ((i220 : Int) + 1))) rfl ?_
     refine done ?_
     exact hK225 s221 _ _ ⟨(sk (sx hS_ 0 rfl) (sk (sx hS_ 1 rfl) (sk (sx hS_ 2 rfl) (sk (sx hS_ 3 rfl) (sk (sx hS_ 4 rfl) (sk (sx hS_ 5 rfl) (sk (sx hS_ 6 rfl) (sk (sx hS_ 7 rfl) (sk (tr rfl (congrArg _ (wrap64_nat hi226 hN222))) sn))))))))), hC⟩ h
   ·replace h := iff_ h (cf hb234)
    refine guardOff (b := false) 4 27 rfl (tr rfl (congrArg _ hb234)) (by decide) ?_
    refine guardOff (b := false) 4 27 rfl (tr rfl (congrArg _ hb234)) (by decide) ?_
    refine guardOff (b := false) 4 27 rfl (tr rfl (congrArg _ hb234)) (by decide) ?_
    refine guardOff (b := false) 4 27 rfl (tr rfl (congrArg _ hb234)) (by decide) ?_
    refine s_pick (v := .bool false) (b := false) (tr rfl (congrArg _ hb234)) rfl ?_
    refine dn ?_
    refine cw_false rfl rfl ?_
    refine wp_skip ?_
    refine then_norm ?_
    refine sr ?_
    refine s_mv (v := .int .i64 (i220 : Int)) rfl ?_
    obtain ⟨⟨h0_241, h1_242⟩, h⟩ := h
    refine s_iaddrB i220 Try.underlying85 sc3.size (sx hS_ 2 rfl) rfl h0_241 h1_242 (by omega) ?_
    refine s_loadS hC 1 (.int .i64 (a2.get i220)) rfl sc3 rfl (A8.enc_get _ _ (show i220 < 8 by omega)) ?_
    refine s_gtr rfl rfl ?_
    refine dn ?_
    refine cw_cond rfl (fun hb243 => ?_) (fun hb243 => ?_)
    ·replace h := ift h (ct hb243)
     refine sr ?_
     refine s_mv (v := .int .i64 (i220 : Int)) rfl ?_
     refine s_add rfl rfl ?_
     refine s_as (v := .int .i64 (IntKind.i64.wrap ((i220 : Int) + 1))) rfl ?_
     refine dn ?_
     refine wp_block ?_
     refine loopW (S := Int × Int) _ (fun s274 e_ w_ => Slots e_ [(1, u1_0), (3, .pointer (some ⟨b2, 0, none⟩)), (5, .pointer (some ⟨b5, 0, none⟩)), (6, .pointer (some ⟨b8, 0, none⟩)), (7, .int .i64 0), (8, .int .i64 s274.2), (9, .int .i64 (i220 : Int)), (10, .int .i64 (a1.getD i220 default)), (11, .int .i64 s274.1), (13, u1_0), (14, .int .i64 (a1.length : Int)), (15, .int .i64 (i220 : Int)), (16, .bool (decide ((i220 : Int) < (a1.length : Int)))), (17, .int .i64 (i220 : Int)), (18, .pointer (some (Ad228.add (i220 * 1)))), (19, .int .i64 (a1.getD i220 default)), (20, .int .i64 (a1.getD i220 default)), (21, .int .i64 (Int.tmod (a1.getD i220 default) 2)), (22, .bool (decide (Int.tmod (a1.getD i220 default) 2 = 0))), (23, .int .i64 (i220 : Int)), (24, .pointer (some ⟨b2, i220, none⟩)), (25, .int .i64 (a0.get i220)), (26, .bool (decide (a0.get i220 > 0))), (27, .bool (decide (a0.get i220 > 0))), (32, .bool false), (34, .int .i64 (i220 : Int)), (35, .pointer (some ⟨b5, i220, none⟩)), (36, .int .i64 (a2.get i220)), (37, .bool (decide (a2.get i220 > 0))), (38, .int .i64 (i220 : Int)), (39, .int .i64 (IntKind.i64.wrap ((i220 : Int) + 1)))] ∧ Ctx Nox w0 w_ [blk b8 85 (A8.enc .i64 A8.zero), blk b5 85 (A8.enc .i64 a2), blk b2 85 (A8.enc .i64 a0)] [Ty.item ((EI .i64).ty.sl) a1 [u1_0] fp1]) ?_ (s0 := (IntKind.i64.wrap ((i220 : Int) + 1), s221)) ?_ h
     ·clear hC h
      rintro s274 e_ w278 next275 K276 ⟨hS_, hC⟩ h hK277
      refine wp_seq ?_
      refine sr ?_
      refine s_mv (v := .int .i64 s274.1) (sx hS_ 8 rfl) ?_
      refine s_mv (v := u1_0) (sx hS_ 0 rfl) ?_
      obtain ⟨Ad279, c280, hv281⟩ := sl_len (hC.getP 0 rfl)
      refine s_len Try.underlying22 (tr rfl hv281) ?_
      refine s_lss rfl rfl ?_
      refine dn ?_
      refine cw_cond rfl (fun hb282 => ?_) (fun hb282 => ?_)
      ·replace h := ift h (ct hb282)
       refine wp_skip ?_
       refine then_norm ?_
       refine wp_seq ?_
       refine wp_block ?_
       refine cw_draw 10 mixed [0, 0, 0, 6, 14, 30, 0, 64, 192, 510, 1023, 2047] [3, 4, 7, 8] [0, 1, 2, 5, 6, 9] (by kernel_rfl) (by kernel_rfl) (by kernel_rfl) (fun hM284 hM285 w283 hB_ => ?_)
       replace hC := hC.grow hB_
       refine ae_lookF belPre 0 (.int .i64 s274.2) rfl rfl (by kernel_rfl) (hM285 0 rfl) (fun w_ => .inl ⟨rfl, by exact r_mv (v := .int .i64 s274.2) (sx hS_ 5 rfl)⟩) (listed' := (dbits 12 1)) (by kernel_rfl) ?_
       refine ae_lookF belPre 1 (u1_0) rfl rfl (by kernel_rfl) (hM285 1 rfl) (fun w_ => .inl ⟨rfl, by exact r_mv (v := u1_0) (sx hS_ 0 rfl)⟩) (listed' := (dbits 12 3)) (by kernel_rfl) ?_
       refine ae_lookF belPre 2 (.int .i64 s274.1) rfl rfl (by kernel_rfl) (hM285 2 rfl) (fun w_ => .inl ⟨rfl, by exact r_mv (v := .int .i64 s274.1) (sx hS_ 8 rfl)⟩) (listed' := (dbits 12 7)) (by kernel_rfl) ?_
       obtain ⟨⟨h0_286, h1_287⟩, h⟩ := h
       obtain ⟨Ad288, c289, hv290⟩ := sl_form (hC.getP 0 rfl) s274.1.toNat (show s274.1.toNat < a1.length by omega)
       refine ae_look belPre 3 (.pointer (some (Ad288.add (s274.1.toNat * 1)))) rfl rfl (by kernel_rfl) (hM284 3 rfl) (fun w_ hB_ => .inl ⟨rfl, by exact r_iaddrS (len := a1.length) Try.underlying22 sc2.size (by exact tr rfl hv290) rfl h0_286 h1_287⟩) (listed' := (dbits 12 15)) (by kernel_rfl) ?_
       refine ae_look belPre 4 (.int .i64 (a1.getD s274.1.toNat default)) rfl rfl (by kernel_rfl) (hM284 4 rfl) (fun w_ hB_ => .inl ⟨rfl, by exact r_loadCS (.int .i64 (a1.getD s274.1.toNat default)) (sl_cellsE ((hC.grow hB_).getP 0 rfl) hv290 s274.1.toNat (show s274.1.toNat < a1.length by omega)) sc2 rfl⟩) (listed' := (dbits 12 31)) (by kernel_rfl) ?_
       refine ae_lookF belPre 5 (.int .i64 (Int.tmod (a1.getD s274.1.toNat default) 2)) rfl rfl (by kernel_rfl) (hM285 5 rfl) (fun w_ => .inl ⟨rfl, by exact r_rem rfl rfl (by decide)⟩) (listed' := (dbits 12 63)) (by kernel_rfl) ?_
       refine ae_lookF belPre 6 (.int .i64 s274.1) rfl rfl (by kernel_rfl) (hM285 6 rfl) (fun w_ => .inl ⟨rfl, by exact r_mv (v := .int .i64 s274.1) (sx hS_ 8 rfl)⟩) (listed' := (dbits 12 127)) (by kernel_rfl) ?_
       obtain ⟨⟨h0_291, h1_292⟩, h⟩ := h
       refine ae_look belPre 7 (.pointer (some ⟨b2, s274.1.toNat, none⟩)) rfl rfl (by kernel_rfl) (hM284 7 rfl) (fun w_ hB_ => .inl ⟨rfl, by exact r_iaddrB s274.1.toNat Try.underlying85 sc3.size (sx hS_ 1 rfl) rfl h0_291 h1_292 (by omega)⟩) (listed' := (dbits 12 255)) (by kernel_rfl) ?_
       refine ae_look belPre 8 (.int .i64 (a0.get s274.1.toNat)) rfl rfl (by kernel_rfl) (hM284 8 rfl) (fun w_ hB_ => .inl ⟨rfl, by exact r_loadS (hC.grow hB_) 2 (.int .i64 (a0.get s274.1.toNat)) rfl sc3 rfl (A8.enc_get _ _ (show s274.1.toNat < 8 by omega))⟩) (listed' := (dbits 12 511)) (by kernel_rfl) ?_
       refine ae_lookF belPre 9 (.int .i64 (IntKind.i64.wrap ((Int.tmod (a1.getD s274.1.toNat default) 2) * (a0.get s274.1.toNat)))) rfl rfl (by kernel_rfl) (hM285 9 rfl) (fun w_ => .inl ⟨rfl, by exact r_mul rfl rfl⟩) (listed' := (dbits 12 1023)) (by kernel_rfl) ?_
       refine ae_tail 10 (by decide) (by decide) (by kernel_rfl) (by kernel_rfl) rfl ?_
       refine s_add rfl rfl ?_
       refine s_as (v := .int .i64 (IntKind.i64.wrap (s274.2 + (IntKind.i64.wrap ((Int.tmod (a1.getD s274.1.toNat default) 2) * (a0.get s274.1.toNat)))))) rfl ?_
       refine done ?_
       refine qn_norm ?_
       refine blk_norm ?_
       refine then_norm ?_
       refine cw_region ?_
       refine s_mv (v := .int .i64 s274.1) (sx hS_ 8 rfl) ?_
       refine s_add rfl rfl ?_
       refine s_as (v := .int .i64 (IntKind.i64.wrap (s274.1 + 1))) rfl ?_
       refine done ?_
       exact hK277 (IntKind.i64.wrap (s274.1 + 1), IntKind.i64.wrap (s274.2 + (IntKind.i64.wrap ((Int.tmod (a1.getD s274.1.toNat default) 2) * (a0.get s274.1.toNat))))) _ _ ⟨(sk (sx hS_ 0 rfl) (sk (sx hS_ 1 rfl) (sk (sx hS_ 2 rfl) (sk (sx hS_ 3 rfl) (sk (sx hS_ 4 rfl) (sk rfl (sk (sx hS_ 6 rfl) (sk (sx hS_ 7 rfl) (sk rfl (sk (sx hS_ 9 rfl) (sk (sx hS_ 10 rfl) (sk (sx hS_ 11 rfl) (sk (sx hS_ 12 rfl) (sk (sx hS_ 13 rfl) (sk (sx hS_ 14 rfl) (sk (sx hS_ 15 rfl) (sk (sx hS_ 16 rfl) (sk (sx hS_ 17 rfl) (sk (sx hS_ 18 rfl) (sk (sx hS_ 19 rfl) (sk (sx hS_ 20 rfl) (sk (sx hS_ 21 rfl) (sk (sx hS_ 22 rfl) (sk (sx hS_ 23 rfl) (sk (sx hS_ 24 rfl) (sk (sx hS_ 25 rfl) (sk (sx hS_ 26 rfl) (sk (sx hS_ 27 rfl) (sk (sx hS_ 28 rfl) (sk (sx hS_ 29 rfl) (sk (sx hS_ 30 rfl) sn))))))))))))))))))))))))))))))), hC⟩ h
      ·replace h := iff_ h (cf hb282)
       refine wp_exit (then_exit (then_exit (exit_in ?_)))
       refine blk_norm ?_
       refine then_norm ?_
       refine cw_region ?_
       refine s_add (sx hS_ 11 rfl) rfl ?_
       refine s_mv (v := .int .i64 (IntKind.i64.wrap ((i220 : Int) + 1))) rfl ?_
       refine done ?_
       exact hK225 s274.2 _ _ ⟨(sk (sx hS_ 0 rfl) (sk (sx hS_ 1 rfl) (sk (sx hS_ 2 rfl) (sk (sx hS_ 3 rfl) (sk (sx hS_ 4 rfl) (sk (sx hS_ 5 rfl) (sk (sx hS_ 9 rfl) (sk (sx hS_ 10 rfl) (sk (tr rfl (congrArg _ (wrap64_nat hi226 hN222))) sn))))))))), hC⟩ h
     ·skip
      exact ⟨(sk (sx hS_ 0 rfl) (sk (sx hS_ 1 rfl) (sk (sx hS_ 2 rfl) (sk (sx hS_ 3 rfl) (sk (sx hS_ 4 rfl) (sk (sx hS_ 5 rfl) (sk rfl (sk rfl (sk rfl (sk (sx hS_ 6 rfl) (sk (sx hS_ 7 rfl) (sk (sx hS_ 8 rfl) (sk rfl (sk rfl (sk rfl (sk rfl (sk rfl (sk rfl (sk rfl (sk rfl (sk rfl (sk rfl (sk rfl (sk rfl (sk rfl (sk rfl (sk rfl (sk rfl (sk rfl (sk rfl (sk rfl sn))))))))))))))))))))))))))))))), hC⟩
    ·replace h := iff_ h (cf hb243)
     refine wp_skip ?_
     refine blk_norm ?_
     refine then_norm ?_
     refine cw_region ?_
     refine s_add (sx hS_ 8 rfl) rfl ?_
     refine s_mv (v := .int .i64 (IntKind.i64.wrap ((i220 : Int) + 1))) rfl ?_
     refine done ?_
     exact hK225 s221 _ _ ⟨(sk (sx hS_ 0 rfl) (sk (sx hS_ 1 rfl) (sk (sx hS_ 2 rfl) (sk (sx hS_ 3 rfl) (sk (sx hS_ 4 rfl) (sk (sx hS_ 5 rfl) (sk (sx hS_ 6 rfl) (sk (sx hS_ 7 rfl) (sk (tr rfl (congrArg _ (wrap64_nat hi226 hN222))) sn))))))))), hC⟩ h
 ·clear hC h
  rintro s221 e_ w293 K224 ⟨hS_, hC⟩ h
  refine sr ?_
  refine s_lss (sx hS_ 8 rfl) (sx hS_ 7 rfl) ?_
  refine dn ?_
  refine wp_seq ?_
  refine cw_false rfl (decide_eq_false (by omega)) ?_
  refine wp_exit (then_exit (then_exit (exit_in ?_)))
  refine then_norm ?_
  refine wp_seq ?_
  refine sr ?_
  refine s_mv (v := .int .i64 0) rfl ?_
  refine dn ?_
  refine wp_block ?_
  refine loopN (S := A8) _ _ (fun i314 s315 e_ w_ => Slots e_ [(3, .pointer (some ⟨b2, 0, none⟩)), (5, .pointer (some ⟨b5, 0, none⟩)), (6, .pointer (some ⟨b8, 0, none⟩)), (7, .int .i64 0), (8, .int .i64 s221), (58, .int .i64 (i314 : Int))] ∧ Ctx Nox w0 w_ [blk b8 85 (A8.enc .i64 A8.zero), blk b5 85 (A8.enc .i64 a2), blk b2 85 (A8.enc .i64 s315)] [Ty.item ((EI .i64).ty.sl) a1 [u1_0] fp1]) 8 ?_ ?_ (s0 := a0) ?_ h
  ·clear hC h
   rintro i314 s315 e_ w320 next316 K317 hi319 ⟨hS_, hC⟩ h hK318
   refine sr ?_
   refine s_lss (sx hS_ 5 rfl) rfl ?_
   refine dn ?_
   refine wp_seq ?_
   refine cw_true rfl (decide_eq_true (by omega)) ?_
   refine wp_skip ?_
   refine then_norm ?_
   refine wp_seq ?_
   refine wp_block ?_
   refine sr ?_
   refine s_mv (v := .int .i64 (i314 : Int)) (sx hS_ 5 rfl) ?_
   refine s_as (v := .int .i64 (i314 : Int)) rfl ?_
   refine dn ?_
   refine cw_draw 6 mixed [0, 1, 3, 0, 8, 24, 63, 127, 255] [1, 2, 4, 5] [0, 3] (by kernel_rfl) (by kernel_rfl) (by kernel_rfl) (fun hM322 hM323 w321 hB_ => ?_)
   replace hC := hC.grow hB_
   refine ae_lookF belPre 0 (.int .i64 (i314 : Int)) rfl rfl (by kernel_rfl) (hM323 0 rfl) (fun w_ => .inl ⟨rfl, by exact r_mv (v := .int .i64 (i314 : Int)) rfl⟩) (listed' := (dbits 9 1)) (by kernel_rfl) ?_
   refine ae_look belPre 1 (.pointer (some ⟨b2, i314, none⟩)) rfl rfl (by kernel_rfl) (hM322 1 rfl) (fun w_ hB_ => .inl ⟨rfl, by exact r_iaddrB i314 Try.underlying85 sc3.size (sx hS_ 0 rfl) rfl (Int.natCast_nonneg _) (by omega) (by omega)⟩) (listed' := (dbits 9 3)) (by kernel_rfl) ?_
   refine ae_look belPre 2 (.int .i64 (s315.get i314)) rfl rfl (by kernel_rfl) (hM322 2 rfl) (fun w_ hB_ => .inl ⟨rfl, by exact r_loadS (hC.grow hB_) 2 (.int .i64 (s315.get i314)) rfl sc3 rfl (A8.enc_get _ _ hi319)⟩) (listed' := (dbits 9 7)) (by kernel_rfl) ?_
   refine ae_lookF belPre 3 (.int .i64 (i314 : Int)) rfl rfl (by kernel_rfl) (hM323 3 rfl) (fun w_ => .inl ⟨rfl, by exact r_mv (v := .int .i64 (i314 : Int)) rfl⟩) (listed' := (dbits 9 15)) (by kernel_rfl) ?_
   refine ae_look belPre 4 (.pointer (some ⟨b5, i314, none⟩)) rfl rfl (by kernel_rfl) (hM322 4 rfl) (fun w_ hB_ => .inl ⟨rfl, by exact r_iaddrB i314 Try.underlying85 sc3.size (sx hS_ 1 rfl) rfl (Int.natCast_nonneg _) (by omega) (by omega)⟩) (listed' := (dbits 9 31)) (by kernel_rfl) ?_
   refine ae_look belPre 5 (.int .i64 (a2.get i314)) rfl rfl (by kernel_rfl) (hM322 5 rfl) (fun w_ hB_ => .inl ⟨rfl, by exact r_loadS (hC.grow hB_) 1 (.int .i64 (a2.get i314)) rfl sc3 rfl (A8.enc_get _ _ hi319)⟩) (listed' := (dbits 9 63)) (by kernel_rfl) ?_
   refine ae_tail 6 (by decide) (by decide) (by kernel_rfl) (by kernel_rfl) rfl ?_
   refine s_add rfl rfl ?_
   refine s_iaddrB i314 Try.underlying85 sc3.size (sx hS_ 0 rfl) rfl (Int.natCast_nonneg _) (by omega) (by omega) ?_
   refine s_store (v := .int .i64 (IntKind.i64.wrap ((s315.get i314) + (a2.get i314)))) hC 2 [.int .i64 (IntKind.i64.wrap ((s315.get i314) + (a2.get i314)))] (A8.enc .i64 (s315.set i314 (IntKind.i64.wrap ((s315.get i314) + (a2.get i314))))) rfl sc3.size rfl rfl rfl rfl rfl hi319 (A8.enc_set _ _ _ hi319) fun w324 hC => ?_
   refine done ?_
   refine qn_norm ?_
   refine blk_norm ?_
   refine then_norm ?_
   refine cw_region ?_
   refine s_add (sx hS_ 5 rfl) rfl ?_
   refine s_mv (v := .int .i64 (IntKind.i64.wrap ((i314 : Int) + 1))) rfl ?_
   refine done ?_
   exact hK318 (s315.set i314 (IntKind.i64.wrap ((s315.get i314) + (a2.get i314)))) _ _ ⟨(sk (sx hS_ 0 rfl) (sk (sx hS_ 1 rfl) (sk (sx hS_ 2 rfl) (sk (sx hS_ 3 rfl) (sk (sx hS_ 4 rfl) (sk (tr rfl (congrArg _ (wrap64_nat hi319 (by decide)))) sn)))))), hC⟩ h
  ·clear hC h
   rintro s315 e_ w325 K317 ⟨hS_, hC⟩ h
   refine sr ?_
   refine s_lss (sx hS_ 5 rfl) rfl ?_
   refine dn ?_
   refine wp_seq ?_
   refine cw_false rfl (decide_eq_false (by omega)) ?_
   refine wp_exit (then_exit (then_exit (exit_in ?_)))
   refine then_norm ?_
   refine wp_seq ?_
   refine sr ?_
   refine s_mv (v := .int .i64 s221) (sx hS_ 4 rfl) ?_
   refine s_rem rfl rfl (by decide) ?_
   refine s_eql rfl rfl ?_
   refine dn ?_
   refine cw_cond rfl (fun hb326 => ?_) (fun hb326 => ?_)
   ·replace h := ift h (ct hb326)
    refine sr ?_
    refine s_loadA hC 2 (A8.enc .i64 s315) rfl ag85 (sx hS_ 0 rfl) rfl rfl ?_
    refine s_store (v := .agg (List.toArray (A8.enc .i64 s315))) hC 0 (A8.enc .i64 s315) (A8.enc .i64 s315) rfl ag85.size (sx hS_ 2 rfl) rfl rfl rfl rfl (Nat.le_of_ble_eq_true rfl) rfl fun w327 hC => ?_
    refine s_as (v := .int .i64 (-1)) rfl ?_
    refine dn ?_
    refine wp_ret (then_ret ?_)
    refine ret2 (fn := Try.f65) rfl ?_ ?_ ⟨s315, (-1), rfl, h, hC.below⟩ (.inl rfl)
    ·exact res_cellA hC 0 rfl ag85 (sx hS_ 2 rfl) rfl
    ·exact res_tmp rfl
   ·replace h := iff_ h (cf hb326)
    refine wp_skip ?_
    refine then_norm ?_
    refine sr ?_
    refine s_loadA hC 2 (A8.enc .i64 s315) rfl ag85 (sx hS_ 0 rfl) rfl rfl ?_
    refine s_store (v := .agg (List.toArray (A8.enc .i64 s315))) hC 0 (A8.enc .i64 s315) (A8.enc .i64 s315) rfl ag85.size (sx hS_ 2 rfl) rfl rfl rfl rfl (Nat.le_of_ble_eq_true rfl) rfl fun w328 hC => ?_
    refine s_as (v := .int .i64 1) rfl ?_
    refine dn ?_
    refine wp_ret ?_
    refine ret2 (fn := Try.f65) rfl ?_ ?_ ⟨s315, 1, rfl, h, hC.below⟩ (.inl rfl)
    ·exact res_cellA hC 0 rfl ag85 (sx hS_ 2 rfl) rfl
    ·exact res_tmp rfl
  ·skip
   exact ⟨(sk (sx hS_ 1 rfl) (sk (sx hS_ 2 rfl) (sk (sx hS_ 3 rfl) (sk (sx hS_ 4 rfl) (sk (sx hS_ 5 rfl) (sk rfl sn)))))), hC⟩
 ·skip
  exact ⟨(sk rfl (sk rfl (sk rfl (sk rfl (sk rfl (sk rfl (sk rfl (sk rfl (sk rfl sn))))))))), hC⟩
def f_impl_sum_add (a0 : List (A8 × Int)) (a1 : A8) (a2 : Int) (K : List (A8 × Int) → Prop) : Prop :=
 f_impl_field (IntKind.i64.wrap (((mget a0 a1).getD 0) + a2)) (fun r8 => (if r8 ≠ 0 then K (mset a0 a1 r8) else K (mdel a0 a1)))
theorem c_impl_sum_add (a0 : List (A8 × Int)) (a1 : A8) (a2 : Int) {b0 : Nat} {K : List (A8 × Int) → Prop} (h : f_impl_sum_add a0 a1 a2 K) (w0 : World) (q0 : (mapI (kvA .i64) (vvI .i64) b0 a0).holds w0) :
  Calls Try.prog 123 #[.map (some b0), .agg (List.toArray (A8.enc .i64 a1)), .int .i64 a2] w0 fun e w' => ∃ (m0 : List (A8 × Int)), 
   e = .returned (.tuple #[]) ∧ K m0 ∧ (mapI (kvA .i64) (vvI .i64) b0 m0).holds w' ∧ BelB b0 w0 w' := by
 unfold f_impl_sum_add at h
 refine calls_of (args := [.map (some b0), .agg (List.toArray (A8.enc .i64 a1)), .int .i64 a2]) Try.func123 rfl 20 Try.ntmps123 (Nat.le_of_ble_eq_true rfl) ?_
 have hC := Ctx.start1 w0 b0 (it := mapI (kvA .i64) (vvI .i64) b0 a0) rfl [] q0 (by simp) (by simp)
 refine sr ?_
 refine s_box (v := .agg (List.toArray (A8.enc .i64 a1))) hC (A8.enc .i64 a1) rfl rfl fun b2 w4 hB_ hC => ?_
 refine dn ?_
 refine sr ?_
 refine s_mv (v := .map (some b0)) rfl ?_
 refine s_loadA hC 0 (A8.enc .i64 a1) rfl ag85 rfl rfl rfl ?_
 refine s_lookup a1 0 (hC.getM 1 rfl) kt85 Try.underlying90 z2 rfl rfl ?_
 refine s_mv (v := .int .i64 a2) rfl ?_
 refine s_add rfl rfl ?_
 refine s_call [.int .i64 (IntKind.i64.wrap (((mget a0 a1).getD 0) + a2))] _ Try.func131 rfl rfl rfl (c_impl_field (IntKind.i64.wrap (((mget a0 a1).getD 0) + a2)) h _) (fun ret5 w7 hR6 => ?_)
 obtain ⟨r8, rfl, h, hB9⟩ := hR6
 refine ⟨_, rfl, ?_⟩
 replace hC := hC.grow hB9
 refine s_as (v := .int .i64 r8) rfl ?_
 refine dn ?_
 refine sr ?_
 refine s_mv (v := .int .i64 r8) rfl ?_
 refine s_neq rfl rfl ?_
 refine dn ?_
 refine cw_cond rfl (fun hb10 => ?_) (fun hb10 => ?_)
 ·replace h := ift h (ct hb10)
  refine cw_region ?_
  refine s_mv (v := .map (some b0)) rfl ?_
  refine s_loadA hC 0 (A8.enc .i64 a1) rfl ag85 rfl rfl rfl ?_
  refine s_mv (v := .int .i64 r8) rfl ?_
  refine s_mapset hC 1 a1 r8 rfl kt85 Try.underlying90 rfl rfl rfl (fun w11 hC => ?_) (.inl rfl)
  refine done ?_
  refine ret0 (fn := Try.f123) rfl  ⟨mset a0 a1 r8, rfl, h, (hC.getM 1 rfl), hC.belB⟩ (.inr rfl)
 ·replace h := iff_ h (cf hb10)
  refine cw_region ?_
  refine s_mv (v := .map (some b0)) rfl ?_
  refine s_loadA hC 0 (A8.enc .i64 a1) rfl ag85 rfl rfl rfl ?_
  refine s_mapdel hC 1 a1 rfl kt85 Try.underlying90 rfl rfl rfl fun w12 hC => ?_
  refine done ?_
  refine ret0 (fn := Try.f123) rfl  ⟨mdel a0 a1, rfl, h, (hC.getM 1 rfl), hC.belB⟩ (.inr rfl)
def f_impl_sumOf (a0 : Vc.Form) (K : List (A8 × Int) → Prop) : Prop :=
 forN (fun i51 (s52 : (List (A8 × Int))) next54 => f_impl_powerOf ((a0.terms.getD i51 default).mono) (fun r72 => next54 (mset s52 r72 ((a0.terms.getD i51 default).factor)))) (fun (s52 : (List (A8 × Int))) => K s52) a0.terms.length 0 ([] : List (A8 × Int))
theorem c_impl_sumOf (a0 : Vc.Form) {u0_0 : Value} {fp0 : List Nat} {K : List (A8 × Int) → Prop} (h : f_impl_sumOf a0 K) (w0 : World) (q0 : TForm.rep a0 [u0_0] fp0 w0) :
  Calls Try.prog 91 #[.agg #[u0_0]] w0 fun e w' => ∃ (r0 : List (A8 × Int)) (zb0 : Nat), 
   e = .returned (.map (some zb0)) ∧ K r0 ∧ (mapI (kvA .i64) (vvI .i64) zb0 r0).holds w' ∧ w0.heap.size ≤ zb0 ∧ Bel w0 w' := by
 unfold f_impl_sumOf at h
 refine calls_of (args := [.agg #[u0_0]]) Try.func91 rfl 22 Try.ntmps91 (Nat.le_of_ble_eq_true rfl) ?_
 have hC := Ctx.start (X := Nox) w0 [Ty.item TForm a0 [u0_0] fp0] (by simp only [List.mem_cons, List.not_mem_nil, or_false, forall_eq_or_imp, forall_eq]; exact q0)
 have hp2 := (hC.getP 0 rfl)
 replace hC := hC.derive 0 rfl (Ty.item ETerm.ty.sl a0.terms [u0_0] fp0) (fun _ => (form_parts hp2)) (fun _ hb_ => hb_)
 refine sr ?_
 refine s_box (v := .agg #[u0_0]) hC [u0_0] rfl rfl fun b4 w6 hB_ hC => ?_
 refine s_as (v := .map none) rfl ?_
 refine dn ?_
 refine sr ?_
 refine s_makeMap hC (kvA .i64) (vvI .i64) fun b7 w9 hB_ hC => ?_
 refine s_as (v := .map (some b7)) rfl ?_
 refine dn ?_
 refine wp_seq ?_
 refine sr ?_
 refine s_faddrB 0 Try.underlying51 rfl sc49.size rfl rfl ?_
 refine s_loadS hC 1 (u0_0) rfl sc49 rfl rfl ?_
 obtain ⟨Ad10, c11, hv12⟩ := sl_len (hC.getP 0 rfl)
 refine s_len Try.underlying49 (tr rfl hv12) ?_
 refine s_mv (v := .int .i64 0) rfl ?_
 refine dn ?_
 refine wp_block ?_
 have hN53 : a0.terms.length ≤ 9223372036854775807 := sl_max (hC.getP 0 rfl)
 refine loopN (S := (List (A8 × Int))) _ _ (fun i51 s52 e_ w_ => Slots e_ [(2, .map none), (3, .map (some b7)), (8, u0_0), (9, .int .i64 (a0.terms.length : Int)), (10, .int .i64 (i51 : Int))] ∧ Ctx Nox w0 w_ [mapI (kvA .i64) (vvI .i64) b7 s52] [Ty.item ETerm.ty.sl a0.terms [u0_0] fp0, Ty.item TForm a0 [u0_0] fp0]) a0.terms.length ?_ ?_ (s0 := ([] : List (A8 × Int))) ?_ h
 ·clear hC h
  rintro i51 s52 e_ w58 next54 K55 hi57 ⟨hS_, hC⟩ h hK56
  refine sr ?_
  refine s_lss (sx hS_ 4 rfl) (sx hS_ 3 rfl) ?_
  refine dn ?_
  refine wp_seq ?_
  refine cw_true rfl (decide_eq_true (by omega)) ?_
  refine wp_skip ?_
  refine then_norm ?_
  refine wp_seq ?_
  refine wp_block ?_
  refine sr ?_
  obtain ⟨Ad59, c60, hv61⟩ := sl_form (hC.getP 0 rfl) i51 hi57
  refine s_iaddrS (len := a0.terms.length) Try.underlying49 ag93.size (tr (sx hS_ 2 rfl) hv61) (sx hS_ 4 rfl) (Int.natCast_nonneg _) (Int.ofNat_lt.2 hi57) ?_
  refine s_loadCA (Term.enc (a0.terms.getD i51 default)) (sl_cellsE (hC.getP 0 rfl) hv61 i51 hi57) ag93 rfl rfl ?_
  refine s_alloc hC (Term.enc (⟨A8.zero, 0⟩ : Term)) z93 rfl fun b62 w64 hB_ hC => ?_
  refine s_store (v := .agg (List.toArray (Term.enc (a0.terms.getD i51 default)))) hC 0 (Term.enc (a0.terms.getD i51 default)) (Term.enc (a0.terms.getD i51 default)) rfl ag93.size rfl rfl rfl rfl rfl (Nat.le_of_ble_eq_true rfl) rfl fun w65 hC => ?_
  refine dn ?_
  refine cw_draw 6 mixed [0, 0, 2, 6, 0, 16, 63] [2, 5] [0, 1, 4] (by kernel_rfl) (by kernel_rfl) (by kernel_rfl) (fun hM67 hM68 w66 hB_ => ?_)
  replace hC := hC.grow hB_
  refine ae_lookF belPre 0 (.map (some b7)) rfl rfl (by kernel_rfl) (hM68 0 rfl) (fun w_ => .inl ⟨rfl, by exact r_mv (v := .map (some b7)) (sx hS_ 1 rfl)⟩) (listed' := (dbits 7 1)) (by kernel_rfl) ?_
  refine ae_lookF belPre 1 (.pointer (some ⟨b62, 0, none⟩)) rfl rfl (by kernel_rfl) (hM68 1 rfl) (fun w_ => .inl ⟨rfl, by exact r_faddrB 0 Try.underlying93 rfl ag24.size rfl rfl⟩) (listed' := (dbits 7 3)) (by kernel_rfl) ?_
  refine ae_look belPre 2 (.agg (List.toArray (A8.enc .u8 ((a0.terms.getD i51 default).mono)))) rfl rfl (by kernel_rfl) (hM67 2 rfl) (fun w_ hB_ => .inl ⟨rfl, by exact r_loadA (hC.grow hB_) 0 (A8.enc .u8 ((a0.terms.getD i51 default).mono)) rfl ag24 rfl rfl rfl⟩) (listed' := (dbits 7 7)) (by kernel_rfl) ?_
  refine ae_lookF belPre 4 (.pointer (some ⟨b62, 8, none⟩)) rfl rfl (by kernel_rfl) (hM68 4 rfl) (fun w_ => .inl ⟨rfl, by exact r_faddrB 8 Try.underlying93 rfl sc2.size rfl rfl⟩) (listed' := (dbits 7 23)) (by kernel_rfl) ?_
  refine ae_look belPre 5 (.int .i64 ((a0.terms.getD i51 default).factor)) rfl rfl (by kernel_rfl) (hM67 5 rfl) (fun w_ hB_ => .inl ⟨rfl, by exact r_loadS (hC.grow hB_) 0 (.int .i64 ((a0.terms.getD i51 default).factor)) rfl sc2 rfl rfl⟩) (listed' := (dbits 7 55)) (by kernel_rfl) ?_
  refine ae_one 3 rfl (by kernel_rfl) ?_
  refine s_call [.agg (List.toArray (A8.enc .u8 ((a0.terms.getD i51 default).mono)))] _ Try.func64 rfl rfl rfl (c_impl_powerOf ((a0.terms.getD i51 default).mono) h _) (fun ret69 w71 hR70 => ?_)
  obtain ⟨r72, rfl, h, hB73⟩ := hR70
  refine ⟨_, rfl, ?_⟩
  replace hC := hC.grow hB73
  refine done ?_
  refine ak_intro (by assumption) (listed' := (dbits 7 63)) (by kernel_rfl) ?_
  refine ae_tail 6 (by decide) (by decide) (by kernel_rfl) (by kernel_rfl) rfl ?_
  refine s_mapset hC 1 r72 ((a0.terms.getD i51 default).factor) rfl kt85 Try.underlying90 rfl rfl rfl (fun w74 hC => ?_) (.inl rfl)
  refine done ?_
  refine qn_norm ?_
  refine blk_norm ?_
  refine then_norm ?_
  refine cw_region ?_
  refine s_add (sx hS_ 4 rfl) rfl ?_
  refine s_mv (v := .int .i64 (IntKind.i64.wrap ((i51 : Int) + 1))) rfl ?_
  refine done ?_
  replace hC := hC.sel [1] [0, 1] (M' := [mapI (kvA .i64) (vvI .i64) b7 (mset s52 r72 ((a0.terms.getD i51 default).factor))]) (Ps' := [Ty.item ETerm.ty.sl a0.terms [u0_0] fp0, Ty.item TForm a0 [u0_0] fp0]) (by decide) rfl rfl
  exact hK56 (mset s52 r72 ((a0.terms.getD i51 default).factor)) _ _ ⟨(sk (sx hS_ 0 rfl) (sk (sx hS_ 1 rfl) (sk (sx hS_ 2 rfl) (sk (sx hS_ 3 rfl) (sk (tr rfl (congrArg _ (wrap64_nat hi57 hN53))) sn))))), hC⟩ h
 ·clear hC h
  rintro s52 e_ w75 K55 ⟨hS_, hC⟩ h
  refine sr ?_
  refine s_lss (sx hS_ 4 rfl) (sx hS_ 3 rfl) ?_
  refine dn ?_
  refine wp_seq ?_
  refine cw_false rfl (decide_eq_false (by omega)) ?_
  refine wp_exit (then_exit (then_exit (exit_in ?_)))
  refine then_norm ?_
  refine sr ?_
  refine s_mv (v := .map (some b7)) (sx hS_ 1 rfl) ?_
  refine s_as (v := .map (some b7)) rfl ?_
  refine dn ?_
  refine wp_ret ?_
  refine ret1 (fn := Try.f91) rfl ?_ ⟨s52, b7, rfl, h, (hC.getM 0 rfl), (map_fresh hC 0 rfl), hC.below⟩ (.inl rfl)
  exact res_tmp rfl
 ·skip
  replace hC := hC.sel [0] [0, 1] (M' := [mapI (kvA .i64) (vvI .i64) b7 ([] : List (A8 × Int))]) (Ps' := [Ty.item ETerm.ty.sl a0.terms [u0_0] fp0, Ty.item TForm a0 [u0_0] fp0]) (by decide) rfl rfl
  exact ⟨(sk rfl (sk rfl (sk rfl (sk rfl (sk rfl sn))))), hC⟩
def f_impl_power_compare (a0 : A8) (a1 : A8) (K : Int → Prop) : Prop :=
 forN (fun i17 (s18 : Unit) next19 => (if a0.get i17 ≠ a1.get i17 then K (IntKind.i64.wrap ((a1.get i17) - (a0.get i17))) else next19 ())) (fun (s18 : Unit) => K 0) 8 0 ()
theorem c_impl_power_compare (a0 : A8) (a1 : A8)  {K : Int → Prop} (h : f_impl_power_compare a0 a1 K) (w0 : World)  :
  Calls Try.prog 128 #[.agg (List.toArray (A8.enc .i64 a0)), .agg (List.toArray (A8.enc .i64 a1))] w0 fun e w' => ∃ (r0 : Int), 
   e = .returned (.int .i64 r0) ∧ K r0 ∧ Bel w0 w' := by
 unfold f_impl_power_compare at h
 refine calls_of (args := [.agg (List.toArray (A8.enc .i64 a0)), .agg (List.toArray (A8.enc .i64 a1))]) Try.func128 rfl 24 Try.ntmps128 (Nat.le_of_ble_eq_true rfl) ?_
 have hC := Ctx.start (X := Nox) w0 [] (by simp)
 refine sr ?_
 refine s_box (v := .agg (List.toArray (A8.enc .i64 a0))) hC (A8.enc .i64 a0) rfl rfl fun b1 w3 hB_ hC => ?_
 refine s_box (v := .agg (List.toArray (A8.enc .i64 a1))) hC (A8.enc .i64 a1) rfl rfl fun b4 w6 hB_ hC => ?_
 refine s_as (v := .int .i64 0) rfl ?_
 refine dn ?_
 refine wp_seq ?_
 refine sr ?_
 refine s_mv (v := .int .i64 0) rfl ?_
 refine dn ?_
 refine wp_block ?_
 refine loopN (S := Unit) _ _ (fun i17 s18 e_ w_ => Slots e_ [(2, .pointer (some ⟨b1, 0, none⟩)), (3, .pointer (some ⟨b4, 0, none⟩)), (4, .int .i64 0), (6, .int .i64 (i17 : Int))] ∧ Ctx Nox w0 w_ [blk b4 85 (A8.enc .i64 a1), blk b1 85 (A8.enc .i64 a0)] []) 8 ?_ ?_ (s0 := ()) ?_ h
 ·clear hC h
  rintro i17 s18 e_ w23 next19 K20 hi22 ⟨hS_, hC⟩ h hK21
  refine sr ?_
  refine s_lss (sx hS_ 3 rfl) rfl ?_
  refine dn ?_
  refine wp_seq ?_
  refine cw_true rfl (decide_eq_true (by omega)) ?_
  refine wp_skip ?_
  refine then_norm ?_
  refine wp_seq ?_
  refine wp_block ?_
  refine sr ?_
  refine s_mv (v := .int .i64 (i17 : Int)) (sx hS_ 3 rfl) ?_
  refine s_as (v := .int .i64 (i17 : Int)) rfl ?_
  refine dn ?_
  refine wp_seq ?_
  refine cw_draw 6 mixed [0, 1, 3, 0, 8, 24, 63] [1, 2, 4, 5] [0, 3] (by kernel_rfl) (by kernel_rfl) (by kernel_rfl) (fun hM25 hM26 w24 hB_ => ?_)
  replace hC := hC.grow hB_
  refine ae_lookF belPre 0 (.int .i64 (i17 : Int)) rfl rfl (by kernel_rfl) (hM26 0 rfl) (fun w_ => .inl ⟨rfl, by exact r_mv (v := .int .i64 (i17 : Int)) rfl⟩) (listed' := (dbits 7 1)) (by kernel_rfl) ?_
  refine ae_look belPre 1 (.pointer (some ⟨b1, i17, none⟩)) rfl rfl (by kernel_rfl) (hM25 1 rfl) (fun w_ hB_ => .inl ⟨rfl, by exact r_iaddrB i17 Try.underlying85 sc3.size (sx hS_ 0 rfl) rfl (Int.natCast_nonneg _) (by omega) (by omega)⟩) (listed' := (dbits 7 3)) (by kernel_rfl) ?_
  refine ae_look belPre 2 (.int .i64 (a0.get i17)) rfl rfl (by kernel_rfl) (hM25 2 rfl) (fun w_ hB_ => .inl ⟨rfl, by exact r_loadS (hC.grow hB_) 1 (.int .i64 (a0.get i17)) rfl sc3 rfl (A8.enc_get _ _ hi22)⟩) (listed' := (dbits 7 7)) (by kernel_rfl) ?_
  refine ae_lookF belPre 3 (.int .i64 (i17 : Int)) rfl rfl (by kernel_rfl) (hM26 3 rfl) (fun w_ => .inl ⟨rfl, by exact r_mv (v := .int .i64 (i17 : Int)) rfl⟩) (listed' := (dbits 7 15)) (by kernel_rfl) ?_
  refine ae_look belPre 4 (.pointer (some ⟨b4, i17, none⟩)) rfl rfl (by kernel_rfl) (hM25 4 rfl) (fun w_ hB_ => .inl ⟨rfl, by exact r_iaddrB i17 Try.underlying85 sc3.size (sx hS_ 1 rfl) rfl (Int.natCast_nonneg _) (by omega) (by omega)⟩) (listed' := (dbits 7 31)) (by kernel_rfl) ?_
  refine ae_look belPre 5 (.int .i64 (a1.get i17)) rfl rfl (by kernel_rfl) (hM25 5 rfl) (fun w_ hB_ => .inl ⟨rfl, by exact r_loadS (hC.grow hB_) 0 (.int .i64 (a1.get i17)) rfl sc3 rfl (A8.enc_get _ _ hi22)⟩) (listed' := (dbits 7 63)) (by kernel_rfl) ?_
  refine ae_tail 6 (by decide) (by decide) (by kernel_rfl) (by kernel_rfl) rfl ?_
  refine s_neq rfl rfl ?_
  refine done ?_
  refine qn_norm ?_
  refine then_norm ?_
  refine cw_cond rfl (fun hb27 => ?_) (fun hb27 => ?_)
  ·replace h := ift h (ct hb27)
   refine wp_seq ?_
   refine cw_draw 6 mixed [0, 1, 3, 0, 8, 24, 63, 127] [1, 2, 4, 5] [0, 3] (by kernel_rfl) (by kernel_rfl) (by kernel_rfl) (fun hM29 hM30 w28 hB_ => ?_)
   replace hC := hC.grow hB_
   refine ae_lookF belPre 0 (.int .i64 (i17 : Int)) rfl rfl (by kernel_rfl) (hM30 0 rfl) (fun w_ => .inl ⟨rfl, by exact r_mv (v := .int .i64 (i17 : Int)) rfl⟩) (listed' := (dbits 8 1)) (by kernel_rfl) ?_
   refine ae_look belPre 1 (.pointer (some ⟨b4, i17, none⟩)) rfl rfl (by kernel_rfl) (hM29 1 rfl) (fun w_ hB_ => .inl ⟨rfl, by exact r_iaddrB i17 Try.underlying85 sc3.size (sx hS_ 1 rfl) rfl (Int.natCast_nonneg _) (by omega) (by omega)⟩) (listed' := (dbits 8 3)) (by kernel_rfl) ?_
   refine ae_look belPre 2 (.int .i64 (a1.get i17)) rfl rfl (by kernel_rfl) (hM29 2 rfl) (fun w_ hB_ => .inl ⟨rfl, by exact r_loadS (hC.grow hB_) 0 (.int .i64 (a1.get i17)) rfl sc3 rfl (A8.enc_get _ _ hi22)⟩) (listed' := (dbits 8 7)) (by kernel_rfl) ?_
   refine ae_lookF belPre 3 (.int .i64 (i17 : Int)) rfl rfl (by kernel_rfl) (hM30 3 rfl) (fun w_ => .inl ⟨rfl, by exact r_mv (v := .int .i64 (i17 : Int)) rfl⟩) (listed' := (dbits 8 15)) (by kernel_rfl) ?_
   refine ae_look belPre 4 (.pointer (some ⟨b1, i17, none⟩)) rfl rfl (by kernel_rfl) (hM29 4 rfl) (fun w_ hB_ => .inl ⟨rfl, by exact r_iaddrB i17 Try.underlying85 sc3.size (sx hS_ 0 rfl) rfl (Int.natCast_nonneg _) (by omega) (by omega)⟩) (listed' := (dbits 8 31)) (by kernel_rfl) ?_
   refine ae_look belPre 5 (.int .i64 (a0.get i17)) rfl rfl (by kernel_rfl) (hM29 5 rfl) (fun w_ hB_ => .inl ⟨rfl, by exact r_loadS (hC.grow hB_) 1 (.int .i64 (a0.get i17)) rfl sc3 rfl (A8.enc_get _ _ hi22)⟩) (listed' := (dbits 8 63)) (by kernel_rfl) ?_
   refine ae_tail 6 (by decide) (by decide) (by kernel_rfl) (by kernel_rfl) rfl ?_
   refine s_sub rfl rfl ?_
   refine s_as (v := .int .i64 (IntKind.i64.wrap ((a1.get i17) - (a0.get i17)))) rfl ?_
   refine done ?_
   refine qn_norm ?_
   refine then_norm ?_
   refine wp_ret (blk_ret (then_ret (then_ret (blk_ret (then_ret ?_)))))
   refine ret1 (fn := Try.f128) rfl ?_ ⟨IntKind.i64.wrap ((a1.get i17) - (a0.get i17)), rfl, h, hC.below⟩ (.inl rfl)
   exact res_tmp rfl
  ·replace h := iff_ h (cf hb27)
   refine wp_skip ?_
   refine blk_norm ?_
   refine then_norm ?_
   refine cw_region ?_
   refine s_add (sx hS_ 3 rfl) rfl ?_
   refine s_mv (v := .int .i64 (IntKind.i64.wrap ((i17 : Int) + 1))) rfl ?_
   refine done ?_
   exact hK21 () _ _ ⟨(sk (sx hS_ 0 rfl) (sk (sx hS_ 1 rfl) (sk (sx hS_ 2 rfl) (sk (tr rfl (congrArg _ (wrap64_nat hi22 (by decide)))) sn)))), hC⟩ h
 ·clear hC h
  rintro s18 e_ w31 K20 ⟨hS_, hC⟩ h
  refine sr ?_
  refine s_lss (sx hS_ 3 rfl) rfl ?_
  refine dn ?_
  refine wp_seq ?_
  refine cw_false rfl (decide_eq_false (by omega)) ?_
  refine wp_exit (then_exit (then_exit (exit_in ?_)))
  refine then_norm ?_
  refine sr ?_
  refine s_as (v := .int .i64 0) rfl ?_
  refine dn ?_
  refine wp_ret ?_
  refine ret1 (fn := Try.f128) rfl ?_ ⟨0, rfl, h, hC.below⟩ (.inl rfl)
  exact res_tmp rfl
 ·skip
  exact ⟨(sk rfl (sk rfl (sk rfl (sk rfl sn)))), hC⟩
theorem pw_law : Cmp Try.prog Try.sortPow_ren (EA .i64) OkP pcmp 128 := ⟨Try.sortPow, ⟨_, OkP.zero⟩, ag85, pcmp_swo, ⟨_, Try.func128, rfl, rfl⟩, fun a b ha hb w => by
 refine (c_impl_power_compare a b (K := fun r => r = pcmp a b) (cmpText_meets (K := fun r => r = pcmp a b) ha hb rfl) w).mono ?_
 rintro e w' ⟨r, rfl, rfl, hB⟩
 exact ⟨rfl, hB⟩⟩
def f_impl_sum_powers (a0 : List (A8 × Int)) (K : List A8 → Prop) : Prop :=
 mapP (fun (q13 : A8 × Int) (s55 : (List A8)) next57 => (Room (s55.length + 1) 64 ∧ next57 (s55 ++ [q13.1]))) (fun (s55 : (List A8)) => SortP OkP pcmp s55 (fun xs66 => K xs66)) a0.length a0 []
theorem c_impl_sum_powers (a0 : List (A8 × Int)) {b0 : Nat} {K : List A8 → Prop} (h : f_impl_sum_powers a0 K) (w0 : World) (q0 : (mapI (kvA .i64) (vvI .i64) b0 a0).holds w0) :
  Calls Try.prog 113 #[.map (some b0)] w0 fun e w' => ∃ (r0 : List A8) (z0_0 : Value) (fz0 : List Nat), 
   e = .returned (z0_0) ∧ K r0 ∧ (Tr.item (Tr.sl 85 ((EA .i64).tr)) r0 [z0_0] fz0).holds w' ∧ (∀ b, b ∈ fz0 → w0.heap.size ≤ b) ∧ Bel w0 w' := by
 unfold f_impl_sum_powers at h
 refine calls_of (args := [.map (some b0)]) Try.func113 rfl 19 Try.ntmps113 (Nat.le_of_ble_eq_true rfl) ?_
 have hC := Ctx.start (X := Nox) w0 [mapI (kvA .i64) (vvI .i64) b0 a0] (by simp only [List.mem_cons, List.not_mem_nil, or_false, forall_eq_or_imp, forall_eq]; exact q0)
 refine sr ?_
 refine s_as (v := .slice none 0 0) rfl ?_
 refine dn ?_
 refine sr ?_
 refine s_bslice (sz := 8) hC [] ((EA .i64).encs []) rfl (fun _ => bs102_0  _) rfl (by decide) fun b2 w3 hB_ hC => ?_
 refine s_as (v := .slice (some ⟨b2, 0, none⟩) 0 0) rfl ?_
 refine dn ?_
 refine wp_seq ?_
 refine sr ?_
 refine s_mv (v := .map (some b0)) rfl ?_
 refine s_range hC 0 rfl Try.underlying90 rfl fun r5 es6 ck7 w12 hB_ hn8 hbn9 hC => ?_
 refine dn ?_
 refine wp_block ?_
 refine loopM (S := (List A8)) _ _ (fun l15 s55 e_ w_ => ∃ (v56 : Value), ∃ (la17 : Option MapEntry), Slots e_ [(2, .slice none 0 0), (3, v56), (7, .pointer (some ⟨r5, 0, none⟩))] ∧ Ctx Nox w0 w_ [itI (kvA .i64) (vvI .i64) r5 b0 es6 ck7 la17 l15, own 85 8 v56 s55.length ((EA .i64).encs s55)] [mapE b0 es6 ck7, mapI (kvA .i64) (vvI .i64) b0 a0]) ?_ (l0 := a0) (s0 := []) ?_ h
 ·clear hC h
  rintro l15 s55 e_ w60 next57 K58 ⟨v56, la17, hS_, hC⟩ h hK59
  refine sr ?_
  refine s_next hC 0 0 rfl rfl hn8 hbn9 (sx hS_ 2 rfl) (fun hr61 => ?_) (fun q13 l14 ent62 w65 hp16 hk63 hv64 hC => ?_)
  ·replace h := h.1 hr61
   refine s_ext (v := .bool false) rfl rfl ?_
   refine dn ?_
   refine wp_seq ?_
   refine cw_false rfl rfl ?_
   refine wp_exit (then_exit (then_exit (exit_in ?_)))
   refine then_norm ?_
   refine sr ?_
   refine s_mv (v := v56) (sx hS_ 1 rfl) ?_
   refine s_sort hC 1 pw_law rfl rfl Try.func127 rfl rfl rfl rfl h fun xs66 w67 h hC => ?_
   refine dn ?_
   refine sr ?_
   refine s_mv (v := v56) (sx hS_ 1 rfl) ?_
   refine s_as (v := v56) rfl ?_
   refine dn ?_
   refine wp_ret ?_
   refine ret1 (fn := Try.f113) rfl ?_ ⟨xs66, v56, (Option.toList (Value.ownBlock v56)), rfl, h, (own_item (hC.getM 1 rfl)), (own_fresh hC 1 rfl), hC.below⟩ (.inl rfl)
   exact res_tmp rfl
  ·replace h := h.2 q13 l14 hp16
   refine s_ext (v := .bool true) rfl rfl ?_
   refine dn ?_
   refine wp_seq ?_
   refine cw_true rfl rfl ?_
   refine wp_skip ?_
   refine then_norm ?_
   refine wp_block ?_
   refine sr ?_
   refine s_entry hC 0 0 q13 rfl rfl hn8 (sx hS_ 2 rfl) hk63 hv64 ?_
   refine s_ext (v := .agg (List.toArray (A8.enc .i64 q13.1))) rfl rfl ?_
   refine s_alloc hC (A8.enc .i64 A8.zero) z85 rfl fun b68 w70 hB_ hC => ?_
   refine s_store (v := .agg (List.toArray (A8.enc .i64 q13.1))) hC 0 (A8.enc .i64 q13.1) (A8.enc .i64 q13.1) rfl ag85.size rfl rfl rfl rfl rfl (Nat.le_of_ble_eq_true rfl) rfl fun w71 hC => ?_
   refine dn ?_
   refine cw_region ?_
   refine s_mv (v := v56) (sx hS_ 1 rfl) ?_
   refine s_loadA hC 0 (A8.enc .i64 q13.1) rfl ag85 rfl rfl rfl ?_
   refine s_bslice (sz := 8) hC [(0, .agg (List.toArray (A8.enc .i64 q13.1)))] ((EA .i64).encs [q13.1]) rfl (fun _ => bs102_1 q13.1 _) rfl (by decide) fun b72 w73 hB_ hC => ?_
   obtain ⟨hm77, h⟩ := h
   refine s_app hC 3 Try.underlying102 el85 rfl (by decide) (by decide) rfl (own_rdr (hC.getM 0 rfl)) (fun q hq => Enc.encs_one' (E := (EA .i64)) _ q hq) rfl rfl hm77 fun v75 w76 hC => ?_
   replace hC := own_re hC 3 ((s55 ++ [q13.1]).length) ((EA .i64).encs (s55 ++ [q13.1])) rfl (by simp) (by first | (simp [Enc.encs_append]; done) | simp [Enc.encs_append, Enc.encs])
   refine s_as (v := v75) rfl ?_
   refine done ?_
   refine blk_norm ?_
   replace hC := hC.sel [2, 3] [0, 1] (M' := [itI (kvA .i64) (vvI .i64) r5 b0 es6 ck7 (some ent62) l14, own 85 8 v75 ((s55 ++ [q13.1]).length) ((EA .i64).encs (s55 ++ [q13.1]))]) (Ps' := [mapE b0 es6 ck7, mapI (kvA .i64) (vvI .i64) b0 a0]) (by decide) rfl rfl
   exact hK59 q13 l14 (s55 ++ [q13.1]) _ _ hp16 ⟨v75, (some ent62), (sk (sx hS_ 0 rfl) (sk rfl (sk (sx hS_ 2 rfl) sn))), hC⟩ h
 ·skip
  exact ⟨.slice (some ⟨b2, 0, none⟩) 0 0, none, (sk rfl (sk rfl (sk rfl sn))), hC⟩
def f_impl_sum_form (a0 : List (A8 × Int)) (K : Vc.Form → Int → Prop) : Prop :=
 (if (a0.length : Int) > 400 then K (⟨[]⟩ : Vc.Form) 3 else f_impl_sum_powers a0 (fun r14 => forN (fun i168 (s169 : (List Term)) next173 => forN (fun i221 (s222 : A8) next223 => (if (r14.getD i168 default).get i221 > 20 then K (⟨[]⟩ : Vc.Form) 3 else next223 (s222.set i221 (IntKind.u8.wrap ((r14.getD i168 default).get i221))))) (fun (s222 : A8) => (Room (s169.length + 1) 16 ∧ next173 (s169 ++ [(⟨s222, (mget a0 (r14.getD i168 default)).getD 0⟩ : Term)]))) 8 0 A8.zero) (fun (s169 : (List Term)) => K (⟨s169⟩ : Vc.Form) 0) r14.length 0 []))
theorem c_impl_sum_form (a0 : List (A8 × Int)) {b0 : Nat} {K : Vc.Form → Int → Prop} (h : f_impl_sum_form a0 K) (w0 : World) (q0 : (mapI (kvA .i64) (vvI .i64) b0 a0).holds w0) :
  Calls Try.prog 66 #[.map (some b0)] w0 fun e w' => ∃ (r0 : Vc.Form) (z0_0 : Value) (fz0 : List Nat) (r1 : Int), 
   e = .returned (.tuple #[.agg #[z0_0], .int .i64 r1]) ∧ K r0 r1 ∧ (Tr.item (TrForm 93) r0 [z0_0] fz0).holds w' ∧ (∀ b, b ∈ fz0 → w0.heap.size ≤ b) ∧ Bel w0 w' := by
 unfold f_impl_sum_form at h
 refine calls_of (args := [.map (some b0)]) Try.func66 rfl 48 Try.ntmps66 (Nat.le_of_ble_eq_true rfl) ?_
 have hC := Ctx.start (X := Nox) w0 [mapI (kvA .i64) (vvI .i64) b0 a0] (by simp only [List.mem_cons, List.not_mem_nil, or_false, forall_eq_or_imp, forall_eq]; exact q0)
 refine sr ?_
 refine s_alloc hC [.slice none 0 0] z51 rfl fun b2 w4 hB_ hC => ?_
 refine s_as (v := .int .i64 0) rfl ?_
 refine dn ?_
 refine wp_seq ?_
 refine sr ?_
 refine s_mv (v := .map (some b0)) rfl ?_
 refine s_maplen (hC.getP 0 rfl) Try.underlying90 rfl rfl ?_
 refine s_gtr rfl rfl ?_
 refine dn ?_
 refine cw_cond rfl (fun hb5 => ?_) (fun hb5 => ?_)
 ·replace h := ift h (ct hb5)
  refine sr ?_
  refine s_build [] rfl (bl51   _) ?_
  refine s_store (v := .agg #[.slice none 0 0]) hC 0 [.slice none 0 0] [.slice none 0 0] rfl ag51.size rfl rfl rfl rfl rfl (Nat.le_of_ble_eq_true rfl) rfl fun w6 hC => ?_
  refine s_as (v := .int .i64 3) rfl ?_
  refine dn ?_
  refine wp_ret (then_ret ?_)
  refine ret2 (fn := Try.f66) rfl ?_ ?_ ⟨(⟨[]⟩ : Vc.Form), .slice none 0 0, [], 3, rfl, h, (form_join (nil_item _ _ _)), (fun b hb => absurd hb (by simp)), hC.below⟩ (.inl rfl)
  ·exact res_cellA hC 0 rfl ag51 rfl rfl
  ·exact res_tmp rfl
 ·replace h := iff_ h (cf hb5)
  refine wp_skip ?_
  refine then_norm ?_
  refine sr ?_
  refine s_build [] rfl (bl51   _) ?_
  refine s_alloc hC [.slice none 0 0] z51 rfl fun b7 w9 hB_ hC => ?_
  refine s_store (v := .agg #[.slice none 0 0]) hC 0 [.slice none 0 0] [.slice none 0 0] rfl ag51.size rfl rfl rfl rfl rfl (Nat.le_of_ble_eq_true rfl) rfl fun w10 hC => ?_
  refine dn ?_
  refine wp_seq ?_
  refine sr ?_
  refine s_mv (v := .map (some b0)) rfl ?_
  refine s_call [.map (some b0)] _ Try.func113 rfl rfl rfl (c_impl_sum_powers a0 h _ (hC.getP 0 rfl)) (fun ret11 w13 hR12 => ?_)
  obtain ⟨r14, u15, f16, rfl, h, hr17, hf18, hB19⟩ := hR12
  refine ⟨_, rfl, ?_⟩
  replace hC := hC.push hB19 (Tr.item (Tr.sl 85 ((EA .i64).tr)) r14 [u15] f16) hr17 hf18
  obtain ⟨ho21, hf22⟩ := flat_tr (hC.getM 0 rfl).1
  subst hf22
  replace hC := hC.recast (c := own 85 8 u15 r14.length ((EA .i64).encs r14)) (fun _ h_ => h_) (fun _ => ho21)
  obtain ⟨Ad24, c25, hv26⟩ := own_form (hC.getM 0 rfl)
  refine s_len Try.underlying102 (tr rfl hv26) ?_
  refine s_mv (v := .int .i64 0) rfl ?_
  refine dn ?_
  refine wp_block ?_
  have hN172 : r14.length ≤ 9223372036854775807 := own_max (hC.getM 0 rfl)
  refine loopN (S := (List Term)) _ _ (fun i168 s169 e_ w_ => ∃ (v170 : Value), Slots e_ [(0, .map (some b0)), (2, .pointer (some ⟨b2, 0, none⟩)), (3, .int .i64 0), (4, .pointer (some ⟨b7, 0, none⟩)), (16, u15), (17, .int .i64 (r14.length : Int)), (18, .int .i64 (i168 : Int))] ∧ Ctx Nox w0 w_ [own 93 9 v170 s169.length (ETerm.encs s169), own 85 8 u15 r14.length ((EA .i64).encs r14), blk b7 51 [v170], blk b2 51 [.slice none 0 0]] [mapI (kvA .i64) (vvI .i64) b0 a0]) r14.length ?_ ?_ (s0 := []) ?_ h
  ·clear hC h
   rintro i168 s169 e_ w177 next173 K174 hi176 ⟨v170, hS_, hC⟩ h hK175
   refine sr ?_
   refine s_lss (sx hS_ 6 rfl) (sx hS_ 5 rfl) ?_
   refine dn ?_
   refine wp_seq ?_
   refine cw_true rfl (decide_eq_true (by omega)) ?_
   refine wp_skip ?_
   refine then_norm ?_
   refine wp_seq ?_
   refine wp_block ?_
   refine sr ?_
   obtain ⟨Ad178, c179, hv180⟩ := own_formE (hC.getM 1 rfl) (Nat.lt_of_le_of_lt (Nat.zero_le _) hi176)
   refine s_iaddrO (i168 * 8) Try.underlying102 ag85.size (tr (sx hS_ 4 rfl) hv180) (sx hS_ 6 rfl) (Int.natCast_nonneg _) (Int.ofNat_lt.2 hi176) rfl ?_
   refine s_loadCA (A8.enc .i64 (r14.getD i168 default)) (own_cellsE (hC.getM 1 rfl) hv180 i168 hi176) ag85 rfl rfl ?_
   refine s_alloc hC (A8.enc .i64 A8.zero) z85 rfl fun b181 w183 hB_ hC => ?_
   refine s_store (v := .agg (List.toArray (A8.enc .i64 (r14.getD i168 default)))) hC 0 (A8.enc .i64 (r14.getD i168 default)) (A8.enc .i64 (r14.getD i168 default)) rfl ag85.size rfl rfl rfl rfl rfl (Nat.le_of_ble_eq_true rfl) rfl fun w184 hC => ?_
   refine dn ?_
   refine sr ?_
   refine s_build [] rfl (bl24   _) ?_
   refine s_alloc hC (A8.enc .u8 A8.zero) z24 rfl fun b185 w187 hB_ hC => ?_
   refine s_store (v := .agg (List.toArray (A8.enc .u8 A8.zero))) hC 0 (A8.enc .u8 A8.zero) (A8.enc .u8 A8.zero) rfl ag24.size rfl rfl rfl rfl rfl (Nat.le_of_ble_eq_true rfl) rfl fun w188 hC => ?_
   refine dn ?_
   refine wp_seq ?_
   refine sr ?_
   refine s_loadA hC 1 (A8.enc .i64 (r14.getD i168 default)) rfl ag85 rfl rfl rfl ?_
   refine s_mv (v := .int .i64 0) rfl ?_
   refine dn ?_
   refine wp_block ?_
   refine loopN (S := A8) _ _ (fun i221 s222 e_ w_ => Slots e_ [(0, .map (some b0)), (2, .pointer (some ⟨b2, 0, none⟩)), (3, .int .i64 0), (4, .pointer (some ⟨b7, 0, none⟩)), (6, .pointer (some ⟨b181, 0, none⟩)), (7, .pointer (some ⟨b185, 0, none⟩)), (16, u15), (17, .int .i64 (r14.length : Int)), (18, .int .i64 (i168 : Int)), (19, .bool (decide ((i168 : Int) < (r14.length : Int)))), (20, .pointer (some ⟨Ad178, i168 * 8, none⟩)), (21, .agg (List.toArray (A8.enc .i64 (r14.getD i168 default)))), (22, .agg (List.toArray (A8.enc .u8 A8.zero))), (23, .agg (List.toArray (A8.enc .i64 (r14.getD i168 default)))), (24, .int .i64 (i221 : Int))] ∧ Ctx Nox w0 w_ [blk b185 24 (A8.enc .u8 s222), blk b181 85 (A8.enc .i64 (r14.getD i168 default)), own 93 9 v170 s169.length (ETerm.encs s169), own 85 8 u15 r14.length ((EA .i64).encs r14), blk b7 51 [v170], blk b2 51 [.slice none 0 0]] [mapI (kvA .i64) (vvI .i64) b0 a0]) 8 ?_ ?_ (s0 := A8.zero) ?_ h
   ·clear hC h
    rintro i221 s222 e_ w227 next223 K224 hi226 ⟨hS_, hC⟩ h hK225
    refine sr ?_
    refine s_lss (sx hS_ 14 rfl) rfl ?_
    refine dn ?_
    refine wp_seq ?_
    refine cw_true rfl (decide_eq_true (by omega)) ?_
    refine wp_skip ?_
    refine then_norm ?_
    refine wp_seq ?_
    refine wp_block ?_
    refine sr ?_
    refine s_mv (v := .int .i64 (i221 : Int)) (sx hS_ 14 rfl) ?_
    refine s_index (.int .i64 ((r14.getD i168 default).get i221)) Try.underlying85 (sx hS_ 13 rfl) (sx hS_ 14 rfl) (Int.natCast_nonneg _) (by omega) sc3 (A8.enc_get _ _ hi226) ?_
    refine s_as (v := .int .i64 (i221 : Int)) rfl ?_
    refine s_as (v := .int .i64 ((r14.getD i168 default).get i221)) rfl ?_
    refine dn ?_
    refine wp_seq ?_
    refine sr ?_
    refine s_mv (v := .int .i64 ((r14.getD i168 default).get i221)) rfl ?_
    refine s_gtr rfl rfl ?_
    refine dn ?_
    refine cw_cond rfl (fun hb228 => ?_) (fun hb228 => ?_)
    ·replace h := ift h (ct hb228)
     refine sr ?_
     refine s_build [] rfl (bl51   _) ?_
     refine s_store (v := .agg #[.slice none 0 0]) hC 5 [.slice none 0 0] [.slice none 0 0] rfl ag51.size (sx hS_ 1 rfl) rfl rfl rfl rfl (Nat.le_of_ble_eq_true rfl) rfl fun w229 hC => ?_
     refine s_as (v := .int .i64 3) rfl ?_
     refine dn ?_
     refine wp_ret (then_ret (blk_ret (then_ret (then_ret (blk_ret (then_ret (blk_ret (then_ret (then_ret (blk_ret (then_ret ?_)))))))))))
     refine ret2 (fn := Try.f66) rfl ?_ ?_ ⟨(⟨[]⟩ : Vc.Form), .slice none 0 0, [], 3, rfl, h, (form_join (nil_item _ _ _)), (fun b hb => absurd hb (by simp)), hC.below⟩ (.inl rfl)
     ·exact res_cellA hC 5 rfl ag51 (sx hS_ 1 rfl) rfl
     ·exact res_tmp rfl
    ·replace h := iff_ h (cf hb228)
     refine wp_skip ?_
     refine then_norm ?_
     refine cw_region ?_
     refine s_mv (v := .int .i64 (i221 : Int)) rfl ?_
     refine s_mv (v := .int .i64 ((r14.getD i168 default).get i221)) rfl ?_
     refine s_conv Try.underlying3 Try.underlying5 rfl ?_
     refine s_iaddrB i221 Try.underlying24 sc5.size (sx hS_ 5 rfl) rfl (Int.natCast_nonneg _) (by omega) (by omega) ?_
     refine s_store (v := .int .u8 (IntKind.u8.wrap ((r14.getD i168 default).get i221))) hC 0 [.int .u8 (IntKind.u8.wrap ((r14.getD i168 default).get i221))] (A8.enc .u8 (s222.set i221 (IntKind.u8.wrap ((r14.getD i168 default).get i221)))) rfl sc5.size rfl rfl rfl rfl rfl hi226 (A8.enc_set _ _ _ hi226) fun w230 hC => ?_
     refine done ?_
     refine blk_norm ?_
     refine then_norm ?_
     refine cw_region ?_
     refine s_add (sx hS_ 14 rfl) rfl ?_
     refine s_mv (v := .int .i64 (IntKind.i64.wrap ((i221 : Int) + 1))) rfl ?_
     refine done ?_
     exact hK225 (s222.set i221 (IntKind.u8.wrap ((r14.getD i168 default).get i221))) _ _ ⟨(sk (sx hS_ 0 rfl) (sk (sx hS_ 1 rfl) (sk (sx hS_ 2 rfl) (sk (sx hS_ 3 rfl) (sk (sx hS_ 4 rfl) (sk (sx hS_ 5 rfl) (sk (sx hS_ 6 rfl) (sk (sx hS_ 7 rfl) (sk (sx hS_ 8 rfl) (sk (sx hS_ 9 rfl) (sk (sx hS_ 10 rfl) (sk (sx hS_ 11 rfl) (sk (sx hS_ 12 rfl) (sk (sx hS_ 13 rfl) (sk (tr rfl (congrArg _ (wrap64_nat hi226 (by decide)))) sn))))))))))))))), hC⟩ h
   ·clear hC h
    rintro s222 e_ w231 K224 ⟨hS_, hC⟩ h
    refine sr ?_
    refine s_lss (sx hS_ 14 rfl) rfl ?_
    refine dn ?_
    refine wp_seq ?_
    refine cw_false rfl (decide_eq_false (by omega)) ?_
    refine wp_exit (then_exit (then_exit (exit_in ?_)))
    refine then_norm ?_
    refine cw_draw 8 mixed [0, 1, 0, 0, 0, 24, 60, 124, 255, 511, 1023] [1, 2, 4, 5, 6] [0, 3] (by kernel_rfl) (by kernel_rfl) (by kernel_rfl) (fun hM233 hM234 w232 hB_ => ?_)
    replace hC := hC.grow hB_
    refine ae_lookF belPre 0 (.pointer (some ⟨b7, 0, none⟩)) rfl rfl (by kernel_rfl) (hM234 0 rfl) (fun w_ => .inl ⟨rfl, by exact r_faddrB 0 Try.underlying51 rfl sc49.size (sx hS_ 3 rfl) rfl⟩) (listed' := (dbits 11 1)) (by kernel_rfl) ?_
    refine ae_look belPre 1 (v170) rfl rfl (by kernel_rfl) (hM233 1 rfl) (fun w_ hB_ => .inl ⟨rfl, by exact r_loadS (hC.grow hB_) 4 (v170) rfl sc49 rfl rfl⟩) (listed' := (dbits 11 3)) (by kernel_rfl) ?_
    refine ae_look belPre 2 (.agg (List.toArray (A8.enc .u8 s222))) rfl rfl (by kernel_rfl) (hM233 2 rfl) (fun w_ hB_ => .inl ⟨rfl, by exact r_loadA (hC.grow hB_) 0 (A8.enc .u8 s222) rfl ag24 (sx hS_ 5 rfl) rfl rfl⟩) (listed' := (dbits 11 7)) (by kernel_rfl) ?_
    refine ae_lookF belPre 3 (.map (some b0)) rfl rfl (by kernel_rfl) (hM234 3 rfl) (fun w_ => .inl ⟨rfl, by exact r_mv (v := .map (some b0)) (sx hS_ 0 rfl)⟩) (listed' := (dbits 11 15)) (by kernel_rfl) ?_
    refine ae_look belPre 4 (.agg (List.toArray (A8.enc .i64 (r14.getD i168 default)))) rfl rfl (by kernel_rfl) (hM233 4 rfl) (fun w_ hB_ => .inl ⟨rfl, by exact r_loadA (hC.grow hB_) 1 (A8.enc .i64 (r14.getD i168 default)) rfl ag85 (sx hS_ 4 rfl) rfl rfl⟩) (listed' := (dbits 11 31)) (by kernel_rfl) ?_
    refine ae_look belPre 5 (.int .i64 ((mget a0 (r14.getD i168 default)).getD 0)) rfl rfl (by kernel_rfl) (hM233 5 rfl) (fun w_ hB_ => .inl ⟨rfl, by exact r_lookup (r14.getD i168 default) 0 ((hC.grow hB_).getP 0 rfl) kt85 Try.underlying90 z2 rfl rfl⟩) (listed' := (dbits 11 63)) (by kernel_rfl) ?_
    refine ae_look belPre 6 (.agg (List.toArray (Term.enc (⟨s222, (mget a0 (r14.getD i168 default)).getD 0⟩ : Term)))) rfl rfl (by kernel_rfl) (hM233 6 rfl) (fun w_ hB_ => .inl ⟨rfl, by exact r_build [(0, .agg (List.toArray (A8.enc .u8 s222))), (1, .int .i64 ((mget a0 (r14.getD i168 default)).getD 0))] rfl (bl93_0flat_1int s222 ((mget a0 (r14.getD i168 default)).getD 0)  _)⟩) (listed' := (dbits 11 127)) (by kernel_rfl) ?_
    refine ae_one 7 rfl (by kernel_rfl) ?_
    refine s_bslice (sz := 9) hC [(0, .agg (List.toArray (Term.enc (⟨s222, (mget a0 (r14.getD i168 default)).getD 0⟩ : Term))))] (ETerm.encs [(⟨s222, (mget a0 (r14.getD i168 default)).getD 0⟩ : Term)]) rfl (fun _ => bs49_1 (⟨s222, (mget a0 (r14.getD i168 default)).getD 0⟩ : Term) _) rfl (by decide) fun b235 w236 hB_ hC => ?_
    refine done ?_
    refine ak_intro (by assumption) (listed' := (dbits 11 255)) (by kernel_rfl) ?_
    refine ae_tail 8 (by decide) (by decide) (by kernel_rfl) (by kernel_rfl) rfl ?_
    obtain ⟨hm240, h⟩ := h
    refine s_app hC 3 Try.underlying49 el93 rfl (by decide) (by decide) rfl (own_rdr (hC.getM 0 rfl)) (fun q hq => Enc.encs_one' (E := ETerm) _ q hq) rfl rfl hm240 fun v238 w239 hC => ?_
    replace hC := own_re hC 3 ((s169 ++ [(⟨s222, (mget a0 (r14.getD i168 default)).getD 0⟩ : Term)]).length) (ETerm.encs (s169 ++ [(⟨s222, (mget a0 (r14.getD i168 default)).getD 0⟩ : Term)])) rfl (by simp) (by first | (simp [Enc.encs_append]; done) | simp [Enc.encs_append, Enc.encs])
    refine s_faddrB 0 Try.underlying51 rfl sc49.size (sx hS_ 3 rfl) rfl ?_
    refine s_store (v := v238) hC 5 [v238] [v238] rfl sc49.size rfl rfl (own_cellsV (hC.getM 3 rfl)) rfl (all_c (own_oneC (hC.getM 3 rfl)) rfl) (Nat.le_of_ble_eq_true rfl) rfl fun w241 hC => ?_
    refine done ?_
    refine qn_norm ?_
    refine blk_norm ?_
    refine then_norm ?_
    refine cw_region ?_
    refine s_add (sx hS_ 8 rfl) rfl ?_
    refine s_mv (v := .int .i64 (IntKind.i64.wrap ((i168 : Int) + 1))) rfl ?_
    refine done ?_
    replace hC := hC.sel [3, 4, 5, 6] [0] (M' := [own 93 9 v238 ((s169 ++ [(⟨s222, (mget a0 (r14.getD i168 default)).getD 0⟩ : Term)]).length) (ETerm.encs (s169 ++ [(⟨s222, (mget a0 (r14.getD i168 default)).getD 0⟩ : Term)])), own 85 8 u15 r14.length ((EA .i64).encs r14), blk b7 51 [v238], blk b2 51 [.slice none 0 0]]) (Ps' := [mapI (kvA .i64) (vvI .i64) b0 a0]) (by decide) rfl rfl
    exact hK175 (s169 ++ [(⟨s222, (mget a0 (r14.getD i168 default)).getD 0⟩ : Term)]) _ _ ⟨v238, (sk (sx hS_ 0 rfl) (sk (sx hS_ 1 rfl) (sk (sx hS_ 2 rfl) (sk (sx hS_ 3 rfl) (sk (sx hS_ 6 rfl) (sk (sx hS_ 7 rfl) (sk (tr rfl (congrArg _ (wrap64_nat hi176 hN172))) sn))))))), hC⟩ h
   ·skip
    exact ⟨(sk (sx hS_ 0 rfl) (sk (sx hS_ 1 rfl) (sk (sx hS_ 2 rfl) (sk (sx hS_ 3 rfl) (sk rfl (sk rfl (sk (sx hS_ 4 rfl) (sk (sx hS_ 5 rfl) (sk (sx hS_ 6 rfl) (sk rfl (sk rfl (sk rfl (sk rfl (sk rfl (sk rfl sn))))))))))))))), hC⟩
  ·clear hC h
   rintro s169 e_ w242 K174 ⟨v170, hS_, hC⟩ h
   refine sr ?_
   refine s_lss (sx hS_ 6 rfl) (sx hS_ 5 rfl) ?_
   refine dn ?_
   refine wp_seq ?_
   refine cw_false rfl (decide_eq_false (by omega)) ?_
   refine wp_exit (then_exit (then_exit (exit_in ?_)))
   refine then_norm ?_
   refine sr ?_
   refine s_loadA hC 2 [v170] rfl ag51 (sx hS_ 3 rfl) rfl rfl ?_
   refine s_store (v := .agg #[v170]) hC 3 [v170] [v170] rfl ag51.size (sx hS_ 1 rfl) rfl rfl rfl (all_c (own_oneC (hC.getM 0 rfl)) rfl) (Nat.le_of_ble_eq_true rfl) rfl fun w243 hC => ?_
   refine s_as (v := .int .i64 0) rfl ?_
   refine dn ?_
   refine wp_ret ?_
   refine ret2 (fn := Try.f66) rfl ?_ ?_ ⟨(⟨s169⟩ : Vc.Form), v170, (Option.toList (Value.ownBlock v170)), 0, rfl, h, (form_join (own_item (hC.getM 0 rfl))), (own_fresh hC 0 rfl), hC.below⟩ (.inl rfl)
   ·exact res_cellA hC 3 rfl ag51 (sx hS_ 1 rfl) rfl
   ·exact res_tmp rfl
  ·skip
   replace hC := hC.pushNil 93 9
   exact ⟨.slice none 0 0, (sk rfl (sk rfl (sk rfl (sk rfl (sk rfl (sk rfl (sk rfl sn))))))), hC⟩
def f_impl_powerForm (a0 : Int) (a1 : Int) (K : Vc.Form → Prop) : Prop :=
 ((0 ≤ a0 ∧ a0 < 8) ∧ f_impl_sum_form (mset ([] : List (A8 × Int)) (A8.zero.set a0.toNat a1) 1) (fun r18 r23 => K r18))
theorem c_impl_powerForm (a0 : Int) (a1 : Int)  {K : Vc.Form → Prop} (h : f_impl_powerForm a0 a1 K) (w0 : World)  :
  Calls Try.prog 70 #[.int .i64 a0, .int .i64 a1] w0 fun e w' => ∃ (r0 : Vc.Form) (z0_0 : Value) (fz0 : List Nat), 
   e = .returned (.agg #[z0_0]) ∧ K r0 ∧ (Tr.item (TrForm 93) r0 [z0_0] fz0).holds w' ∧ (∀ b, b ∈ fz0 → w0.heap.size ≤ b) ∧ Bel w0 w' := by
 unfold f_impl_powerForm at h
 refine calls_of (args := [.int .i64 a0, .int .i64 a1]) Try.func70 rfl 20 Try.ntmps70 (Nat.le_of_ble_eq_true rfl) ?_
 have hC := Ctx.start (X := Nox) w0 [] (by simp)
 refine sr ?_
 refine s_alloc hC [.slice none 0 0] z51 rfl fun b1 w3 hB_ hC => ?_
 refine dn ?_
 refine sr ?_
 refine s_build [] rfl (bl85   _) ?_
 refine s_alloc hC (A8.enc .i64 A8.zero) z85 rfl fun b4 w6 hB_ hC => ?_
 refine s_store (v := .agg (List.toArray (A8.enc .i64 A8.zero))) hC 0 (A8.enc .i64 A8.zero) (A8.enc .i64 A8.zero) rfl ag85.size rfl rfl rfl rfl rfl (Nat.le_of_ble_eq_true rfl) rfl fun w7 hC => ?_
 refine dn ?_
 refine sr ?_
 refine s_mv (v := .int .i64 a0) rfl ?_
 refine s_mv (v := .int .i64 a1) rfl ?_
 obtain ⟨⟨h0_8, h1_9⟩, h⟩ := h
 refine s_iaddrB a0.toNat Try.underlying85 sc3.size rfl rfl h0_8 h1_9 (by omega) ?_
 refine s_store (v := .int .i64 a1) hC 0 [.int .i64 a1] (A8.enc .i64 (A8.zero.set a0.toNat a1)) rfl sc3.size rfl rfl rfl rfl rfl (show a0.toNat < 8 by omega) (A8.enc_set _ _ _ (show a0.toNat < 8 by omega)) fun w10 hC => ?_
 refine dn ?_
 refine sr ?_
 refine s_makeMap hC (kvA .i64) (vvI .i64) fun b11 w13 hB_ hC => ?_
 refine s_loadA hC 1 (A8.enc .i64 (A8.zero.set a0.toNat a1)) rfl ag85 rfl rfl rfl ?_
 refine s_mapset hC 0 (A8.zero.set a0.toNat a1) 1 rfl kt85 Try.underlying90 rfl rfl rfl (fun w14 hC => ?_) (.inr rfl)
 refine s_mv (v := .map (some b11)) rfl ?_
 refine s_call [.map (some b11)] _ Try.func66 rfl rfl rfl (c_impl_sum_form (mset ([] : List (A8 × Int)) (A8.zero.set a0.toNat a1) 1) h _ (hC.getM 0 rfl)) (fun ret15 w17 hR16 => ?_)
 obtain ⟨r18, u19, f20, r23, rfl, h, hr21, hf22, hB24⟩ := hR16
 refine ⟨_, rfl, ?_⟩
 replace hC := hC.push hB24 (Tr.item (TrForm 93) r18 [u19] f20) hr21 hf22
 obtain ⟨ho26, hf27⟩ := form_split (hC.getM 0 rfl)
 subst hf27
 replace hC := hC.recast (c := own 93 9 u19 r18.terms.length (ETerm.encs r18.terms)) (fun _ h_ => h_) (fun _ => ho26)
 refine s_mv (v := .tuple #[.agg #[u19], .int .i64 r23]) rfl ?_
 refine s_ext (v := .agg #[u19]) rfl rfl ?_
 refine s_ext (v := .int .i64 r23) rfl rfl ?_
 refine s_alloc hC [.slice none 0 0] z51 rfl fun b29 w31 hB_ hC => ?_
 refine s_store (v := .agg #[u19]) hC 0 [u19] [u19] rfl ag51.size rfl rfl rfl rfl (all_c (own_oneC (hC.getM 1 rfl)) rfl) (Nat.le_of_ble_eq_true rfl) rfl fun w32 hC => ?_
 refine s_as (v := .int .i64 r23) rfl ?_
 refine dn ?_
 refine sr ?_
 refine s_loadA hC 0 [u19] rfl ag51 rfl rfl rfl ?_
 refine s_store (v := .agg #[u19]) hC 4 [u19] [u19] rfl ag51.size rfl rfl rfl rfl (all_c (own_oneC (hC.getM 1 rfl)) rfl) (Nat.le_of_ble_eq_true rfl) rfl fun w33 hC => ?_
 refine dn ?_
 refine wp_ret ?_
 refine ret1 (fn := Try.f70) rfl ?_ ⟨r18, u19, (Option.toList (Value.ownBlock u19)), rfl, h, (form_join (own_item (hC.getM 1 rfl))), (own_fresh hC 1 rfl), hC.below⟩ (.inl rfl)
 exact res_cellA hC 4 rfl ag51 rfl rfl
def f_impl_ProjectiveModel (a0 : Int) (a1 : Int) (K : Alg → Int → Prop) : Prop :=
 (if a1 = 2 then f_impl_within a0 1 5 (fun r8 => (if r8 = true then f_impl_powerForm 0 (IntKind.i64.wrap (a0 + 1)) (fun r17 => K (⟨[a1, IntKind.i64.wrap ((IntKind.i64.wrap (a1 * (IntKind.i64.wrap (a0 + 1)))) - 1)], [(⟨[]⟩ : Vc.Form), r17]⟩ : Alg) 0) else (if a1 = 4 then f_impl_within a0 1 2 (fun r37 => (if ¬ (r37 = true) then K (⟨[], []⟩ : Alg) 2 else f_impl_powerForm 0 (IntKind.i64.wrap (a0 + 1)) (fun r47 => K (⟨[a1, IntKind.i64.wrap ((IntKind.i64.wrap (a1 * (IntKind.i64.wrap (a0 + 1)))) - 1)], [(⟨[]⟩ : Vc.Form), r47]⟩ : Alg) 0))) else K (⟨[], []⟩ : Alg) 2))) else (if a1 = 4 then f_impl_within a0 1 2 (fun r68 => (if ¬ (r68 = true) then K (⟨[], []⟩ : Alg) 2 else f_impl_powerForm 0 (IntKind.i64.wrap (a0 + 1)) (fun r78 => K (⟨[a1, IntKind.i64.wrap ((IntKind.i64.wrap (a1 * (IntKind.i64.wrap (a0 + 1)))) - 1)], [(⟨[]⟩ : Vc.Form), r78]⟩ : Alg) 0))) else K (⟨[], []⟩ : Alg) 2))
theorem c_impl_ProjectiveModel (a0 : Int) (a1 : Int)  {K : Alg → Int → Prop} (h : f_impl_ProjectiveModel a0 a1 K) (w0 : World)  :
  Calls Try.prog 20 #[.int .i64 a0, .int .i64 a1] w0 fun e w' => ∃ (r0 : Alg) (z0_0 : Value) (z0_1 : Value) (fz0 : List Nat) (r1 : Int), 
   e = .returned (.tuple #[.agg #[z0_0, z0_1], .int .i64 r1]) ∧ K r0 r1 ∧ (Tr.item (TrAlg 2 93 51) r0 [z0_0, z0_1] fz0).holds w' ∧ (∀ b, b ∈ fz0 → w0.heap.size ≤ b) ∧ Bel w0 w' := by
 unfold f_impl_ProjectiveModel at h
 refine calls_of (args := [.int .i64 a0, .int .i64 a1]) Try.func20 rfl 35 Try.ntmps20 (Nat.le_of_ble_eq_true rfl) ?_
 have hC := Ctx.start (X := Nox) w0 [] (by simp)
 refine sr ?_
 refine s_alloc hC [.slice none 0 0, .slice none 0 0] z34 rfl fun b1 w3 hB_ hC => ?_
 refine s_as (v := .int .i64 0) rfl ?_
 refine dn ?_
 refine wp_seq ?_
 refine sr ?_
 refine s_mv (v := .int .i64 a1) rfl ?_
 refine s_eql rfl rfl ?_
 refine s_mv (v := .bool (decide (a1 = 2))) rfl ?_
 refine bsplit (decide (a1 = 2)) (fun hb4 => ?_) (fun hb4 => ?_)
 ·replace h := ift h (ct hb4)
  refine guardOn 2 8 rfl rfl hb4 ?_
  refine s_mv (v := .int .i64 a0) rfl ?_
  refine guardOn 2 8 rfl rfl hb4 ?_
  refine s_call [.int .i64 a0, .int .i64 1, .int .i64 5] _ Try.func69 rfl rfl rfl (c_impl_within a0 1 5 h _) (fun ret5 w7 hR6 => ?_)
  obtain ⟨r8, rfl, h, hB9⟩ := hR6
  refine ⟨_, rfl, ?_⟩
  replace hC := hC.grow hB9
  refine s_pick (v := .bool r8) (b := true) (tr rfl (congrArg _ hb4)) rfl ?_
  refine s_mv (v := .bool r8) rfl ?_
  refine bsplit r8 (fun hb10 => ?_) (fun hb10 => ?_)
  ·replace h := ift h (hb10)
   refine guardOff (b := true) 6 12 rfl (tr rfl (congrArg _ hb10)) (by decide) ?_
   refine guardOff (b := true) 6 12 rfl (tr rfl (congrArg _ hb10)) (by decide) ?_
   refine guardOff (b := true) 6 12 rfl (tr rfl (congrArg _ hb10)) (by decide) ?_
   refine guardOffU 9 15 rfl rfl ?_
   refine guardOffU 9 15 rfl rfl ?_
   refine guardOff (b := true) 6 12 rfl (tr rfl (congrArg _ hb10)) (by decide) ?_
   refine s_pick (v := .bool true) (b := true) (tr rfl (congrArg _ hb10)) rfl ?_
   refine s_not rfl ?_
   refine dn ?_
   refine cw_false rfl rfl ?_
   refine wp_skip ?_
   refine then_norm ?_
   refine sr ?_
   refine s_mv (v := .int .i64 a1) rfl ?_
   refine s_mv (v := .int .i64 a1) rfl ?_
   refine s_mv (v := .int .i64 a0) rfl ?_
   refine s_add rfl rfl ?_
   refine s_mul rfl rfl ?_
   refine s_sub rfl rfl ?_
   refine s_bslice (sz := 1) hC [(0, .int .i64 a1), (1, .int .i64 (IntKind.i64.wrap ((IntKind.i64.wrap (a1 * (IntKind.i64.wrap (a0 + 1)))) - 1)))] ((EI .i64).encs [a1, IntKind.i64.wrap ((IntKind.i64.wrap (a1 * (IntKind.i64.wrap (a0 + 1)))) - 1)]) rfl (fun _ => bs22_2 a1 (IntKind.i64.wrap ((IntKind.i64.wrap (a1 * (IntKind.i64.wrap (a0 + 1)))) - 1)) _) rfl (by decide) fun b11 w12 hB_ hC => ?_
   refine s_build [] rfl (bl51   _) ?_
   refine s_mv (v := .int .i64 a0) rfl ?_
   refine s_add rfl rfl ?_
   refine s_call [.int .i64 0, .int .i64 (IntKind.i64.wrap (a0 + 1))] _ Try.func70 rfl rfl rfl (c_impl_powerForm 0 (IntKind.i64.wrap (a0 + 1)) h _) (fun ret14 w16 hR15 => ?_)
   obtain ⟨r17, u18, f19, rfl, h, hr20, hf21, hB22⟩ := hR15
   refine ⟨_, rfl, ?_⟩
   replace hC := hC.push hB22 (Tr.item (TrForm 93) r17 [u18] f19) hr20 hf21
   obtain ⟨ho24, hf25⟩ := form_split (hC.getM 0 rfl)
   subst hf25
   replace hC := hC.recast (c := own 93 9 u18 r17.terms.length (ETerm.encs r17.terms)) (fun _ h_ => h_) (fun _ => ho24)
   refine s_bslice (sz := 1) hC [(0, .agg #[.slice none 0 0]), (1, .agg #[u18])] [.slice none 0 0, u18] rfl (fun _ => bsr32_2_n_s (.slice none 0 0) u18 ⟨_, _, _, rfl⟩ (own_isSl (hC.getM 0 rfl)) _) rfl (by decide) fun b27 w28 hB_ hC => ?_
   replace hC := hC.pushM0 (forest (TrForm 93) [] [] []) (forest_nil _ _) rfl
   replace hC := hC.sel [2, 0, 1, 3, 4] [] (M' := [own 93 9 u18 r17.terms.length (ETerm.encs r17.terms), forest (TrForm 93) [] [] [], own 51 1 (.slice (some ⟨b27, 0, none⟩) 2 2) 2 [.slice none 0 0, u18], own 2 1 (.slice (some ⟨b11, 0, none⟩) 2 2) ([a1, IntKind.i64.wrap ((IntKind.i64.wrap (a1 * (IntKind.i64.wrap (a0 + 1)))) - 1)].length) ((EI .i64).encs [a1, IntKind.i64.wrap ((IntKind.i64.wrap (a1 * (IntKind.i64.wrap (a0 + 1)))) - 1)]), blk b1 34 [.slice none 0 0, .slice none 0 0]]) (Ps' := []) (by decide) rfl rfl
   replace hC := hC.gather (c := forest (TrForm 93) [r17] [u18] [(Option.toList (Value.ownBlock u18))]) (fun x_ hx_ => forest_mem hx_) (fun h1_ h2_ hd_ => forest_cons (c := [u18]) (form_join (own_item h1_)) h2_ hd_)
   replace hC := hC.recast (c := forest (TrForm 93) [(⟨[]⟩ : Vc.Form), r17] [.slice none 0 0, u18] [[], (Option.toList (Value.ownBlock u18))]) (fun x_ hx_ => hx_) (fun h_ => forest_cons (c := [.slice none 0 0]) (form_join (nil_item _ _ _)) h_ (by simp))
   replace hC := hC.sel [1, 0, 2, 3] [] (M' := [own 51 1 (.slice (some ⟨b27, 0, none⟩) 2 2) 2 [.slice none 0 0, u18], forest (TrForm 93) [(⟨[]⟩ : Vc.Form), r17] [.slice none 0 0, u18] [[], (Option.toList (Value.ownBlock u18))], own 2 1 (.slice (some ⟨b11, 0, none⟩) 2 2) ([a1, IntKind.i64.wrap ((IntKind.i64.wrap (a1 * (IntKind.i64.wrap (a0 + 1)))) - 1)].length) ((EI .i64).encs [a1, IntKind.i64.wrap ((IntKind.i64.wrap (a1 * (IntKind.i64.wrap (a0 + 1)))) - 1)]), blk b1 34 [.slice none 0 0, .slice none 0 0]]) (Ps' := []) (by decide) rfl rfl
   replace hC := hC.gather (c := Tr.item (Tr.sl 51 (TrForm 93)) [(⟨[]⟩ : Vc.Form), r17] [.slice (some ⟨b27, 0, none⟩) 2 2] ((Option.toList (Value.ownBlock (.slice (some ⟨b27, 0, none⟩) 2 2))) ++ ([[], (Option.toList (Value.ownBlock u18))] : List (List Nat)).flatten)) (fun x_ hx_ => List.mem_append.1 hx_) (fun h1_ h2_ hd_ => forest_up h1_ h2_ hd_)
   refine s_build [(0, .slice (some ⟨b11, 0, none⟩) 2 2), (1, .slice (some ⟨b27, 0, none⟩) 2 2)] rfl (bl34_0sl_1sl (.slice (some ⟨b11, 0, none⟩) 2 2) (.slice (some ⟨b27, 0, none⟩) 2 2) (own_isSl (hC.getM 1 rfl)) (rep_isSl (Tr.trep _ (hC.getM 0 rfl).1)) _) ?_
   refine s_store (v := .agg #[.slice (some ⟨b11, 0, none⟩) 2 2, .slice (some ⟨b27, 0, none⟩) 2 2]) hC 2 [.slice (some ⟨b11, 0, none⟩) 2 2, .slice (some ⟨b27, 0, none⟩) 2 2] [.slice (some ⟨b11, 0, none⟩) 2 2, .slice (some ⟨b27, 0, none⟩) 2 2] rfl ag34.size rfl rfl rfl rfl (all_c (own_oneC (hC.getM 1 rfl)) (all_c (rep_oneC (Tr.trep _ (hC.getM 0 rfl).1)) rfl)) (Nat.le_of_ble_eq_true rfl) rfl fun w32 hC => ?_
   refine s_as (v := .int .i64 0) rfl ?_
   refine dn ?_
   refine wp_ret ?_
   refine ret2 (fn := Try.f20) rfl ?_ ?_ ⟨(⟨[a1, IntKind.i64.wrap ((IntKind.i64.wrap (a1 * (IntKind.i64.wrap (a0 + 1)))) - 1)], [(⟨[]⟩ : Vc.Form), r17]⟩ : Alg), .slice (some ⟨b11, 0, none⟩) 2 2, .slice (some ⟨b27, 0, none⟩) 2 2, ((Option.toList (Value.ownBlock (.slice (some ⟨b11, 0, none⟩) 2 2))) ++ ((Option.toList (Value.ownBlock (.slice (some ⟨b27, 0, none⟩) 2 2))) ++ ([[], (Option.toList (Value.ownBlock u18))] : List (List Nat)).flatten)), 0, rfl, h, (alg_join (own_item (hC.getM 1 rfl)) (hC.getM 0 rfl) (fun x hx hx' => hC.mm 1 0 rfl rfl (by decide) x hx hx')), (fun b hb => (List.mem_append.1 hb).elim (fun hb => (own_fresh hC 1 rfl) b hb) (fun hb => (tr_fresh hC 0 rfl) b hb)), hC.below⟩ (.inl rfl)
   ·exact res_cellA hC 2 rfl ag34 rfl rfl
   ·exact res_tmp rfl
  ·replace h := iff_ h (ne_t hb10)
   refine guardOn 6 12 rfl rfl hb10 ?_
   refine s_mv (v := .int .i64 a1) rfl ?_
   refine guardOn 6 12 rfl rfl hb10 ?_
   refine s_eql rfl rfl ?_
   refine guardOn 6 12 rfl rfl hb10 ?_
   refine s_mv (v := .bool (decide (a1 = 4))) rfl ?_
   refine bsplit (decide (a1 = 4)) (fun hb33 => ?_) (fun hb33 => ?_)
   ·replace h := ift h (ct hb33)
    refine guardOn 9 15 rfl rfl hb33 ?_
    refine s_mv (v := .int .i64 a0) rfl ?_
    refine guardOn 9 15 rfl rfl hb33 ?_
    refine s_call [.int .i64 a0, .int .i64 1, .int .i64 2] _ Try.func69 rfl rfl rfl (c_impl_within a0 1 2 h _) (fun ret34 w36 hR35 => ?_)
    obtain ⟨r37, rfl, h, hB38⟩ := hR35
    refine ⟨_, rfl, ?_⟩
    replace hC := hC.grow hB38
    refine guardOn 6 12 rfl rfl hb10 ?_
    refine s_pick (v := .bool r37) (b := true) (tr rfl (congrArg _ hb33)) rfl ?_
    refine s_pick (v := .bool r37) (b := false) (tr rfl (congrArg _ hb10)) rfl ?_
    refine s_not rfl ?_
    refine dn ?_
    refine cw_cond rfl (fun hb39 => ?_) (fun hb39 => ?_)
    ·replace h := ift h (ne_t (not_t hb39))
     refine sr ?_
     refine s_build [] rfl (bl34   _) ?_
     refine s_store (v := .agg #[.slice none 0 0, .slice none 0 0]) hC 0 [.slice none 0 0, .slice none 0 0] [.slice none 0 0, .slice none 0 0] rfl ag34.size rfl rfl rfl rfl rfl (Nat.le_of_ble_eq_true rfl) rfl fun w40 hC => ?_
     refine s_as (v := .int .i64 2) rfl ?_
     refine dn ?_
     refine wp_ret (then_ret ?_)
     refine ret2 (fn := Try.f20) rfl ?_ ?_ ⟨(⟨[], []⟩ : Alg), .slice none 0 0, .slice none 0 0, ([] ++ []), 2, rfl, h, (alg_join (nil_item _ _ _) (nil_item _ _ _) (fun x hx => absurd hx (by simp))), (fun b hb => (List.mem_append.1 hb).elim (fun hb => (fun b hb => absurd hb (by simp)) b hb) (fun hb => (fun b hb => absurd hb (by simp)) b hb)), hC.below⟩ (.inl rfl)
     ·exact res_cellA hC 0 rfl ag34 rfl rfl
     ·exact res_tmp rfl
    ·replace h := iff_ h (not_not_intro ((not_f hb39)))
     refine wp_skip ?_
     refine then_norm ?_
     refine sr ?_
     refine s_mv (v := .int .i64 a1) rfl ?_
     refine s_mv (v := .int .i64 a1) rfl ?_
     refine s_mv (v := .int .i64 a0) rfl ?_
     refine s_add rfl rfl ?_
     refine s_mul rfl rfl ?_
     refine s_sub rfl rfl ?_
     refine s_bslice (sz := 1) hC [(0, .int .i64 a1), (1, .int .i64 (IntKind.i64.wrap ((IntKind.i64.wrap (a1 * (IntKind.i64.wrap (a0 + 1)))) - 1)))] ((EI .i64).encs [a1, IntKind.i64.wrap ((IntKind.i64.wrap (a1 * (IntKind.i64.wrap (a0 + 1)))) - 1)]) rfl (fun _ => bs22_2 a1 (IntKind.i64.wrap ((IntKind.i64.wrap (a1 * (IntKind.i64.wrap (a0 + 1)))) - 1)) _) rfl (by decide) fun b41 w42 hB_ hC => ?_
     refine s_build [] rfl (bl51   _) ?_
     refine s_mv (v := .int .i64 a0) rfl ?_
     refine s_add rfl rfl ?_
     refine s_call [.int .i64 0, .int .i64 (IntKind.i64.wrap (a0 + 1))] _ Try.func70 rfl rfl rfl (c_impl_powerForm 0 (IntKind.i64.wrap (a0 + 1)) h _) (fun ret44 w46 hR45 => ?_)
     obtain ⟨r47, u48, f49, rfl, h, hr50, hf51, hB52⟩ := hR45
     refine ⟨_, rfl, ?_⟩
     replace hC := hC.push hB52 (Tr.item (TrForm 93) r47 [u48] f49) hr50 hf51
     obtain ⟨ho54, hf55⟩ := form_split (hC.getM 0 rfl)
     subst hf55
     replace hC := hC.recast (c := own 93 9 u48 r47.terms.length (ETerm.encs r47.terms)) (fun _ h_ => h_) (fun _ => ho54)
     refine s_bslice (sz := 1) hC [(0, .agg #[.slice none 0 0]), (1, .agg #[u48])] [.slice none 0 0, u48] rfl (fun _ => bsr32_2_n_s (.slice none 0 0) u48 ⟨_, _, _, rfl⟩ (own_isSl (hC.getM 0 rfl)) _) rfl (by decide) fun b57 w58 hB_ hC => ?_
     replace hC := hC.pushM0 (forest (TrForm 93) [] [] []) (forest_nil _ _) rfl
     replace hC := hC.sel [2, 0, 1, 3, 4] [] (M' := [own 93 9 u48 r47.terms.length (ETerm.encs r47.terms), forest (TrForm 93) [] [] [], own 51 1 (.slice (some ⟨b57, 0, none⟩) 2 2) 2 [.slice none 0 0, u48], own 2 1 (.slice (some ⟨b41, 0, none⟩) 2 2) ([a1, IntKind.i64.wrap ((IntKind.i64.wrap (a1 * (IntKind.i64.wrap (a0 + 1)))) - 1)].length) ((EI .i64).encs [a1, IntKind.i64.wrap ((IntKind.i64.wrap (a1 * (IntKind.i64.wrap (a0 + 1)))) - 1)]), blk b1 34 [.slice none 0 0, .slice none 0 0]]) (Ps' := []) (by decide) rfl rfl
     replace hC := hC.gather (c := forest (TrForm 93) [r47] [u48] [(Option.toList (Value.ownBlock u48))]) (fun x_ hx_ => forest_mem hx_) (fun h1_ h2_ hd_ => forest_cons (c := [u48]) (form_join (own_item h1_)) h2_ hd_)
     replace hC := hC.recast (c := forest (TrForm 93) [(⟨[]⟩ : Vc.Form), r47] [.slice none 0 0, u48] [[], (Option.toList (Value.ownBlock u48))]) (fun x_ hx_ => hx_) (fun h_ => forest_cons (c := [.slice none 0 0]) (form_join (nil_item _ _ _)) h_ (by simp))
     replace hC := hC.sel [1, 0, 2, 3] [] (M' := [own 51 1 (.slice (some ⟨b57, 0, none⟩) 2 2) 2 [.slice none 0 0, u48], forest (TrForm 93) [(⟨[]⟩ : Vc.Form), r47] [.slice none 0 0, u48] [[], (Option.toList (Value.ownBlock u48))], own 2 1 (.slice (some ⟨b41, 0, none⟩) 2 2) ([a1, IntKind.i64.wrap ((IntKind.i64.wrap (a1 * (IntKind.i64.wrap (a0 + 1)))) - 1)].length) ((EI .i64).encs [a1, IntKind.i64.wrap ((IntKind.i64.wrap (a1 * (IntKind.i64.wrap (a0 + 1)))) - 1)]), blk b1 34 [.slice none 0 0, .slice none 0 0]]) (Ps' := []) (by decide) rfl rfl
     replace hC := hC.gather (c := Tr.item (Tr.sl 51 (TrForm 93)) [(⟨[]⟩ : Vc.Form), r47] [.slice (some ⟨b57, 0, none⟩) 2 2] ((Option.toList (Value.ownBlock (.slice (some ⟨b57, 0, none⟩) 2 2))) ++ ([[], (Option.toList (Value.ownBlock u48))] : List (List Nat)).flatten)) (fun x_ hx_ => List.mem_append.1 hx_) (fun h1_ h2_ hd_ => forest_up h1_ h2_ hd_)
     refine s_build [(0, .slice (some ⟨b41, 0, none⟩) 2 2), (1, .slice (some ⟨b57, 0, none⟩) 2 2)] rfl (bl34_0sl_1sl (.slice (some ⟨b41, 0, none⟩) 2 2) (.slice (some ⟨b57, 0, none⟩) 2 2) (own_isSl (hC.getM 1 rfl)) (rep_isSl (Tr.trep _ (hC.getM 0 rfl).1)) _) ?_
     refine s_store (v := .agg #[.slice (some ⟨b41, 0, none⟩) 2 2, .slice (some ⟨b57, 0, none⟩) 2 2]) hC 2 [.slice (some ⟨b41, 0, none⟩) 2 2, .slice (some ⟨b57, 0, none⟩) 2 2] [.slice (some ⟨b41, 0, none⟩) 2 2, .slice (some ⟨b57, 0, none⟩) 2 2] rfl ag34.size rfl rfl rfl rfl (all_c (own_oneC (hC.getM 1 rfl)) (all_c (rep_oneC (Tr.trep _ (hC.getM 0 rfl).1)) rfl)) (Nat.le_of_ble_eq_true rfl) rfl fun w62 hC => ?_
     refine s_as (v := .int .i64 0) rfl ?_
     refine dn ?_
     refine wp_ret ?_
     refine ret2 (fn := Try.f20) rfl ?_ ?_ ⟨(⟨[a1, IntKind.i64.wrap ((IntKind.i64.wrap (a1 * (IntKind.i64.wrap (a0 + 1)))) - 1)], [(⟨[]⟩ : Vc.Form), r47]⟩ : Alg), .slice (some ⟨b41, 0, none⟩) 2 2, .slice (some ⟨b57, 0, none⟩) 2 2, ((Option.toList (Value.ownBlock (.slice (some ⟨b41, 0, none⟩) 2 2))) ++ ((Option.toList (Value.ownBlock (.slice (some ⟨b57, 0, none⟩) 2 2))) ++ ([[], (Option.toList (Value.ownBlock u48))] : List (List Nat)).flatten)), 0, rfl, h, (alg_join (own_item (hC.getM 1 rfl)) (hC.getM 0 rfl) (fun x hx hx' => hC.mm 1 0 rfl rfl (by decide) x hx hx')), (fun b hb => (List.mem_append.1 hb).elim (fun hb => (own_fresh hC 1 rfl) b hb) (fun hb => (tr_fresh hC 0 rfl) b hb)), hC.below⟩ (.inl rfl)
     ·exact res_cellA hC 2 rfl ag34 rfl rfl
     ·exact res_tmp rfl
   ·replace h := iff_ h (cf hb33)
    refine guardOff (b := false) 9 15 rfl (tr rfl (congrArg _ hb33)) (by decide) ?_
    refine guardOff (b := false) 9 15 rfl (tr rfl (congrArg _ hb33)) (by decide) ?_
    refine guardOn 6 12 rfl rfl hb10 ?_
    refine s_pick (v := .bool false) (b := false) (tr rfl (congrArg _ hb33)) rfl ?_
    refine s_pick (v := .bool false) (b := false) (tr rfl (congrArg _ hb10)) rfl ?_
    refine s_not rfl ?_
    refine dn ?_
    refine cw_true rfl rfl ?_
    refine sr ?_
    refine s_build [] rfl (bl34   _) ?_
    refine s_store (v := .agg #[.slice none 0 0, .slice none 0 0]) hC 0 [.slice none 0 0, .slice none 0 0] [.slice none 0 0, .slice none 0 0] rfl ag34.size rfl rfl rfl rfl rfl (Nat.le_of_ble_eq_true rfl) rfl fun w63 hC => ?_
    refine s_as (v := .int .i64 2) rfl ?_
    refine dn ?_
    refine wp_ret (then_ret ?_)
    refine ret2 (fn := Try.f20) rfl ?_ ?_ ⟨(⟨[], []⟩ : Alg), .slice none 0 0, .slice none 0 0, ([] ++ []), 2, rfl, h, (alg_join (nil_item _ _ _) (nil_item _ _ _) (fun x hx => absurd hx (by simp))), (fun b hb => (List.mem_append.1 hb).elim (fun hb => (fun b hb => absurd hb (by simp)) b hb) (fun hb => (fun b hb => absurd hb (by simp)) b hb)), hC.below⟩ (.inl rfl)
    ·exact res_cellA hC 0 rfl ag34 rfl rfl
    ·exact res_tmp rfl
 ·replace h := iff_ h (cf hb4)
  refine guardOff (b := false) 2 8 rfl (tr rfl (congrArg _ hb4)) (by decide) ?_
  refine guardOff (b := false) 2 8 rfl (tr rfl (congrArg _ hb4)) (by decide) ?_
  refine s_pick (v := .bool false) (b := false) (tr rfl (congrArg _ hb4)) rfl ?_
  refine s_mv (v := .bool false) rfl ?_
  refine guardOn 6 12 rfl rfl rfl ?_
  refine s_mv (v := .int .i64 a1) rfl ?_
  refine guardOn 6 12 rfl rfl rfl ?_
  refine s_eql rfl rfl ?_
  refine guardOn 6 12 rfl rfl rfl ?_
  refine s_mv (v := .bool (decide (a1 = 4))) rfl ?_
  refine bsplit (decide (a1 = 4)) (fun hb64 => ?_) (fun hb64 => ?_)
  ·replace h := ift h (ct hb64)
   refine guardOn 9 15 rfl rfl hb64 ?_
   refine s_mv (v := .int .i64 a0) rfl ?_
   refine guardOn 9 15 rfl rfl hb64 ?_
   refine s_call [.int .i64 a0, .int .i64 1, .int .i64 2] _ Try.func69 rfl rfl rfl (c_impl_within a0 1 2 h _) (fun ret65 w67 hR66 => ?_)
   obtain ⟨r68, rfl, h, hB69⟩ := hR66
   refine ⟨_, rfl, ?_⟩
   replace hC := hC.grow hB69
   refine guardOn 6 12 rfl rfl rfl ?_
   refine s_pick (v := .bool r68) (b := true) (tr rfl (congrArg _ hb64)) rfl ?_
   refine s_pick (v := .bool r68) (b := false) rfl rfl ?_
   refine s_not rfl ?_
   refine dn ?_
   refine cw_cond rfl (fun hb70 => ?_) (fun hb70 => ?_)
   ·replace h := ift h (ne_t (not_t hb70))
    refine sr ?_
    refine s_build [] rfl (bl34   _) ?_
    refine s_store (v := .agg #[.slice none 0 0, .slice none 0 0]) hC 0 [.slice none 0 0, .slice none 0 0] [.slice none 0 0, .slice none 0 0] rfl ag34.size rfl rfl rfl rfl rfl (Nat.le_of_ble_eq_true rfl) rfl fun w71 hC => ?_
    refine s_as (v := .int .i64 2) rfl ?_
    refine dn ?_
    refine wp_ret (then_ret ?_)
    refine ret2 (fn := Try.f20) rfl ?_ ?_ ⟨(⟨[], []⟩ : Alg), .slice none 0 0, .slice none 0 0, ([] ++ []), 2, rfl, h, (alg_join (nil_item _ _ _) (nil_item _ _ _) (fun x hx => absurd hx (by simp))), (fun b hb => (List.mem_append.1 hb).elim (fun hb => (fun b hb => absurd hb (by simp)) b hb) (fun hb => (fun b hb => absurd hb (by simp)) b hb)), hC.below⟩ (.inl rfl)
    ·exact res_cellA hC 0 rfl ag34 rfl rfl
    ·exact res_tmp rfl
   ·replace h := iff_ h (not_not_intro ((not_f hb70)))
    refine wp_skip ?_
    refine then_norm ?_
    refine sr ?_
    refine s_mv (v := .int .i64 a1) rfl ?_
    refine s_mv (v := .int .i64 a1) rfl ?_
    refine s_mv (v := .int .i64 a0) rfl ?_
    refine s_add rfl rfl ?_
    refine s_mul rfl rfl ?_
    refine s_sub rfl rfl ?_
    refine s_bslice (sz := 1) hC [(0, .int .i64 a1), (1, .int .i64 (IntKind.i64.wrap ((IntKind.i64.wrap (a1 * (IntKind.i64.wrap (a0 + 1)))) - 1)))] ((EI .i64).encs [a1, IntKind.i64.wrap ((IntKind.i64.wrap (a1 * (IntKind.i64.wrap (a0 + 1)))) - 1)]) rfl (fun _ => bs22_2 a1 (IntKind.i64.wrap ((IntKind.i64.wrap (a1 * (IntKind.i64.wrap (a0 + 1)))) - 1)) _) rfl (by decide) fun b72 w73 hB_ hC => ?_
    refine s_build [] rfl (bl51   _) ?_
    refine s_mv (v := .int .i64 a0) rfl ?_
    refine s_add rfl rfl ?_
    refine s_call [.int .i64 0, .int .i64 (IntKind.i64.wrap (a0 + 1))] _ Try.func70 rfl rfl rfl (c_impl_powerForm 0 (IntKind.i64.wrap (a0 + 1)) h _) (fun ret75 w77 hR76 => ?_)
    obtain ⟨r78, u79, f80, rfl, h, hr81, hf82, hB83⟩ := hR76
    refine ⟨_, rfl, ?_⟩
    replace hC := hC.push hB83 (Tr.item (TrForm 93) r78 [u79] f80) hr81 hf82
    obtain ⟨ho85, hf86⟩ := form_split (hC.getM 0 rfl)
    subst hf86
    replace hC := hC.recast (c := own 93 9 u79 r78.terms.length (ETerm.encs r78.terms)) (fun _ h_ => h_) (fun _ => ho85)
    refine s_bslice (sz := 1) hC [(0, .agg #[.slice none 0 0]), (1, .agg #[u79])] [.slice none 0 0, u79] rfl (fun _ => bsr32_2_n_s (.slice none 0 0) u79 ⟨_, _, _, rfl⟩ (own_isSl (hC.getM 0 rfl)) _) rfl (by decide) fun b88 w89 hB_ hC => ?_
    replace hC := hC.pushM0 (forest (TrForm 93) [] [] []) (forest_nil _ _) rfl
    replace hC := hC.sel [2, 0, 1, 3, 4] [] (M' := [own 93 9 u79 r78.terms.length (ETerm.encs r78.terms), forest (TrForm 93) [] [] [], own 51 1 (.slice (some ⟨b88, 0, none⟩) 2 2) 2 [.slice none 0 0, u79], own 2 1 (.slice (some ⟨b72, 0, none⟩) 2 2) ([a1, IntKind.i64.wrap ((IntKind.i64.wrap (a1 * (IntKind.i64.wrap (a0 + 1)))) - 1)].length) ((EI .i64).encs [a1, IntKind.i64.wrap ((IntKind.i64.wrap (a1 * (IntKind.i64.wrap (a0 + 1)))) - 1)]), blk b1 34 [.slice none 0 0, .slice none 0 0]]) (Ps' := []) (by decide) rfl rfl
    replace hC := hC.gather (c := forest (TrForm 93) [r78] [u79] [(Option.toList (Value.ownBlock u79))]) (fun x_ hx_ => forest_mem hx_) (fun h1_ h2_ hd_ => forest_cons (c := [u79]) (form_join (own_item h1_)) h2_ hd_)
    replace hC := hC.recast (c := forest (TrForm 93) [(⟨[]⟩ : Vc.Form), r78] [.slice none 0 0, u79] [[], (Option.toList (Value.ownBlock u79))]) (fun x_ hx_ => hx_) (fun h_ => forest_cons (c := [.slice none 0 0]) (form_join (nil_item _ _ _)) h_ (by simp))
    replace hC := hC.sel [1, 0, 2, 3] [] (M' := [own 51 1 (.slice (some ⟨b88, 0, none⟩) 2 2) 2 [.slice none 0 0, u79], forest (TrForm 93) [(⟨[]⟩ : Vc.Form), r78] [.slice none 0 0, u79] [[], (Option.toList (Value.ownBlock u79))], own 2 1 (.slice (some ⟨b72, 0, none⟩) 2 2) ([a1, IntKind.i64.wrap ((IntKind.i64.wrap (a1 * (IntKind.i64.wrap (a0 + 1)))) - 1)].length) ((EI .i64).encs [a1, IntKind.i64.wrap ((IntKind.i64.wrap (a1 * (IntKind.i64.wrap (a0 + 1)))) - 1)]), blk b1 34 [.slice none 0 0, .slice none 0 0]]) (Ps' := []) (by decide) rfl rfl
    replace hC := hC.gather (c := Tr.item (Tr.sl 51 (TrForm 93)) [(⟨[]⟩ : Vc.Form), r78] [.slice (some ⟨b88, 0, none⟩) 2 2] ((Option.toList (Value.ownBlock (.slice (some ⟨b88, 0, none⟩) 2 2))) ++ ([[], (Option.toList (Value.ownBlock u79))] : List (List Nat)).flatten)) (fun x_ hx_ => List.mem_append.1 hx_) (fun h1_ h2_ hd_ => forest_up h1_ h2_ hd_)
    refine s_build [(0, .slice (some ⟨b72, 0, none⟩) 2 2), (1, .slice (some ⟨b88, 0, none⟩) 2 2)] rfl (bl34_0sl_1sl (.slice (some ⟨b72, 0, none⟩) 2 2) (.slice (some ⟨b88, 0, none⟩) 2 2) (own_isSl (hC.getM 1 rfl)) (rep_isSl (Tr.trep _ (hC.getM 0 rfl).1)) _) ?_
    refine s_store (v := .agg #[.slice (some ⟨b72, 0, none⟩) 2 2, .slice (some ⟨b88, 0, none⟩) 2 2]) hC 2 [.slice (some ⟨b72, 0, none⟩) 2 2, .slice (some ⟨b88, 0, none⟩) 2 2] [.slice (some ⟨b72, 0, none⟩) 2 2, .slice (some ⟨b88, 0, none⟩) 2 2] rfl ag34.size rfl rfl rfl rfl (all_c (own_oneC (hC.getM 1 rfl)) (all_c (rep_oneC (Tr.trep _ (hC.getM 0 rfl).1)) rfl)) (Nat.le_of_ble_eq_true rfl) rfl fun w93 hC => ?_
    refine s_as (v := .int .i64 0) rfl ?_
    refine dn ?_
    refine wp_ret ?_
    refine ret2 (fn := Try.f20) rfl ?_ ?_ ⟨(⟨[a1, IntKind.i64.wrap ((IntKind.i64.wrap (a1 * (IntKind.i64.wrap (a0 + 1)))) - 1)], [(⟨[]⟩ : Vc.Form), r78]⟩ : Alg), .slice (some ⟨b72, 0, none⟩) 2 2, .slice (some ⟨b88, 0, none⟩) 2 2, ((Option.toList (Value.ownBlock (.slice (some ⟨b72, 0, none⟩) 2 2))) ++ ((Option.toList (Value.ownBlock (.slice (some ⟨b88, 0, none⟩) 2 2))) ++ ([[], (Option.toList (Value.ownBlock u79))] : List (List Nat)).flatten)), 0, rfl, h, (alg_join (own_item (hC.getM 1 rfl)) (hC.getM 0 rfl) (fun x hx hx' => hC.mm 1 0 rfl rfl (by decide) x hx hx')), (fun b hb => (List.mem_append.1 hb).elim (fun hb => (own_fresh hC 1 rfl) b hb) (fun hb => (tr_fresh hC 0 rfl) b hb)), hC.below⟩ (.inl rfl)
    ·exact res_cellA hC 2 rfl ag34 rfl rfl
    ·exact res_tmp rfl
  ·replace h := iff_ h (cf hb64)
   refine guardOff (b := false) 9 15 rfl (tr rfl (congrArg _ hb64)) (by decide) ?_
   refine guardOff (b := false) 9 15 rfl (tr rfl (congrArg _ hb64)) (by decide) ?_
   refine guardOn 6 12 rfl rfl rfl ?_
   refine s_pick (v := .bool false) (b := false) (tr rfl (congrArg _ hb64)) rfl ?_
   refine s_pick (v := .bool false) (b := false) rfl rfl ?_
   refine s_not rfl ?_
   refine dn ?_
   refine cw_true rfl rfl ?_
   refine sr ?_
   refine s_build [] rfl (bl34   _) ?_
   refine s_store (v := .agg #[.slice none 0 0, .slice none 0 0]) hC 0 [.slice none 0 0, .slice none 0 0] [.slice none 0 0, .slice none 0 0] rfl ag34.size rfl rfl rfl rfl rfl (Nat.le_of_ble_eq_true rfl) rfl fun w94 hC => ?_
   refine s_as (v := .int .i64 2) rfl ?_
   refine dn ?_
   refine wp_ret (then_ret ?_)
   refine ret2 (fn := Try.f20) rfl ?_ ?_ ⟨(⟨[], []⟩ : Alg), .slice none 0 0, .slice none 0 0, ([] ++ []), 2, rfl, h, (alg_join (nil_item _ _ _) (nil_item _ _ _) (fun x hx => absurd hx (by simp))), (fun b hb => (List.mem_append.1 hb).elim (fun hb => (fun b hb => absurd hb (by simp)) b hb) (fun hb => (fun b hb => absurd hb (by simp)) b hb)), hC.below⟩ (.inl rfl)
   ·exact res_cellA hC 0 rfl ag34 rfl rfl
   ·exact res_tmp rfl
def f_laws_eqMonomial (a0 : A8) (a1 : A8) (K : Bool → Prop) : Prop :=
 forN (fun i14 (s15 : Unit) next16 => (if a0.get i14 ≠ a1.get i14 then K false else next16 ())) (fun (s15 : Unit) => K true) 8 0 ()
theorem c_laws_eqMonomial (a0 : A8) (a1 : A8)  {K : Bool → Prop} (h : f_laws_eqMonomial a0 a1 K) (w0 : World)  :
  Calls Try.prog 17 #[.agg (List.toArray (A8.enc .u8 a0)), .agg (List.toArray (A8.enc .u8 a1))] w0 fun e w' => ∃ (r0 : Bool), 
   e = .returned (.bool r0) ∧ K r0 ∧ Bel w0 w' := by
 unfold f_laws_eqMonomial at h
 refine calls_of (args := [.agg (List.toArray (A8.enc .u8 a0)), .agg (List.toArray (A8.enc .u8 a1))]) Try.func17 rfl 17 Try.ntmps17 (Nat.le_of_ble_eq_true rfl) ?_
 have hC := Ctx.start (X := Nox) w0 [] (by simp)
 refine sr ?_
 refine s_box (v := .agg (List.toArray (A8.enc .u8 a0))) hC (A8.enc .u8 a0) rfl rfl fun b1 w3 hB_ hC => ?_
 refine s_box (v := .agg (List.toArray (A8.enc .u8 a1))) hC (A8.enc .u8 a1) rfl rfl fun b4 w6 hB_ hC => ?_
 refine s_as (v := .bool false) rfl ?_
 refine dn ?_
 refine wp_seq ?_
 refine sr ?_
 refine s_as (v := .int .i64 0) rfl ?_
 refine dn ?_
 refine wp_block ?_
 refine loopN (S := Unit) _ _ (fun i14 s15 e_ w_ => Slots e_ [(2, .pointer (some ⟨b1, 0, none⟩)), (3, .pointer (some ⟨b4, 0, none⟩)), (4, .bool false), (5, .int .i64 (i14 : Int))] ∧ Ctx Nox w0 w_ [blk b4 24 (A8.enc .u8 a1), blk b1 24 (A8.enc .u8 a0)] []) 8 ?_ ?_ (s0 := ()) ?_ h
 ·clear hC h
  rintro i14 s15 e_ w20 next16 K17 hi19 ⟨hS_, hC⟩ h hK18
  refine wp_seq ?_
  refine sr ?_
  refine s_mv (v := .int .i64 (i14 : Int)) (sx hS_ 3 rfl) ?_
  refine s_lss rfl rfl ?_
  refine dn ?_
  refine cw_true rfl (decide_eq_true (by omega)) ?_
  refine wp_skip ?_
  refine then_norm ?_
  refine wp_seq ?_
  refine wp_block ?_
  refine wp_seq ?_
  refine cw_draw 6 mixed [0, 1, 3, 0, 8, 24, 63] [1, 2, 4, 5] [0, 3] (by kernel_rfl) (by kernel_rfl) (by kernel_rfl) (fun hM22 hM23 w21 hB_ => ?_)
  replace hC := hC.grow hB_
  refine ae_lookF belPre 0 (.int .i64 (i14 : Int)) rfl rfl (by kernel_rfl) (hM23 0 rfl) (fun w_ => .inl ⟨rfl, by exact r_mv (v := .int .i64 (i14 : Int)) (sx hS_ 3 rfl)⟩) (listed' := (dbits 7 1)) (by kernel_rfl) ?_
  refine ae_look belPre 1 (.pointer (some ⟨b1, i14, none⟩)) rfl rfl (by kernel_rfl) (hM22 1 rfl) (fun w_ hB_ => .inl ⟨rfl, by exact r_iaddrB i14 Try.underlying24 sc5.size (sx hS_ 0 rfl) rfl (Int.natCast_nonneg _) (by omega) (by omega)⟩) (listed' := (dbits 7 3)) (by kernel_rfl) ?_
  refine ae_look belPre 2 (.int .u8 (a0.get i14)) rfl rfl (by kernel_rfl) (hM22 2 rfl) (fun w_ hB_ => .inl ⟨rfl, by exact r_loadS (hC.grow hB_) 1 (.int .u8 (a0.get i14)) rfl sc5 rfl (A8.enc_get _ _ hi19)⟩) (listed' := (dbits 7 7)) (by kernel_rfl) ?_
  refine ae_lookF belPre 3 (.int .i64 (i14 : Int)) rfl rfl (by kernel_rfl) (hM23 3 rfl) (fun w_ => .inl ⟨rfl, by exact r_mv (v := .int .i64 (i14 : Int)) (sx hS_ 3 rfl)⟩) (listed' := (dbits 7 15)) (by kernel_rfl) ?_
  refine ae_look belPre 4 (.pointer (some ⟨b4, i14, none⟩)) rfl rfl (by kernel_rfl) (hM22 4 rfl) (fun w_ hB_ => .inl ⟨rfl, by exact r_iaddrB i14 Try.underlying24 sc5.size (sx hS_ 1 rfl) rfl (Int.natCast_nonneg _) (by omega) (by omega)⟩) (listed' := (dbits 7 31)) (by kernel_rfl) ?_
  refine ae_look belPre 5 (.int .u8 (a1.get i14)) rfl rfl (by kernel_rfl) (hM22 5 rfl) (fun w_ hB_ => .inl ⟨rfl, by exact r_loadS (hC.grow hB_) 0 (.int .u8 (a1.get i14)) rfl sc5 rfl (A8.enc_get _ _ hi19)⟩) (listed' := (dbits 7 63)) (by kernel_rfl) ?_
  refine ae_tail 6 (by decide) (by decide) (by kernel_rfl) (by kernel_rfl) rfl ?_
  refine s_neq rfl rfl ?_
  refine done ?_
  refine qn_norm ?_
  refine then_norm ?_
  refine cw_cond rfl (fun hb24 => ?_) (fun hb24 => ?_)
  ·replace h := ift h (ct hb24)
   refine sr ?_
   refine s_as (v := .bool false) rfl ?_
   refine dn ?_
   refine wp_ret (blk_ret (then_ret (then_ret (blk_ret (then_ret ?_)))))
   refine ret1 (fn := Try.f17) rfl ?_ ⟨false, rfl, h, hC.below⟩ (.inl rfl)
   exact res_tmp rfl
  ·replace h := iff_ h (cf hb24)
   refine wp_skip ?_
   refine blk_norm ?_
   refine then_norm ?_
   refine cw_region ?_
   refine s_mv (v := .int .i64 (i14 : Int)) (sx hS_ 3 rfl) ?_
   refine s_add rfl rfl ?_
   refine s_as (v := .int .i64 (IntKind.i64.wrap ((i14 : Int) + 1))) rfl ?_
   refine done ?_
   exact hK18 () _ _ ⟨(sk (sx hS_ 0 rfl) (sk (sx hS_ 1 rfl) (sk (sx hS_ 2 rfl) (sk (tr rfl (congrArg _ (wrap64_nat hi19 (by decide)))) sn)))), hC⟩ h
 ·clear hC h
  rintro s15 e_ w25 K17 ⟨hS_, hC⟩ h
  refine wp_seq ?_
  refine sr ?_
  refine s_mv (v := .int .i64 8) (sx hS_ 3 rfl) ?_
  refine s_lss rfl rfl ?_
  refine dn ?_
  refine cw_false rfl (decide_eq_false (by omega)) ?_
  refine wp_exit (then_exit (then_exit (exit_in ?_)))
  refine then_norm ?_
  refine sr ?_
  refine s_as (v := .bool true) rfl ?_
  refine dn ?_
  refine wp_ret ?_
  refine ret1 (fn := Try.f17) rfl ?_ ⟨true, rfl, h, hC.below⟩ (.inl rfl)
  exact res_tmp rfl
 ·skip
  exact ⟨(sk rfl (sk rfl (sk rfl (sk rfl sn)))), hC⟩
def f_laws_eqTerm (a0 : Term) (a1 : Term) (K : Bool → Prop) : Prop :=
 f_laws_eqMonomial a0.mono a1.mono (fun r10 => (if ¬ (r10 = true) then K false else (if a0.factor ≠ a1.factor then K false else K true)))
theorem c_laws_eqTerm (a0 : Term) (a1 : Term)  {K : Bool → Prop} (h : f_laws_eqTerm a0 a1 K) (w0 : World)  :
  Calls Try.prog 124 #[.agg (List.toArray (Term.enc a0)), .agg (List.toArray (Term.enc a1))] w0 fun e w' => ∃ (r0 : Bool), 
   e = .returned (.bool r0) ∧ K r0 ∧ Bel w0 w' := by
 unfold f_laws_eqTerm at h
 refine calls_of (args := [.agg (List.toArray (Term.enc a0)), .agg (List.toArray (Term.enc a1))]) Try.func124 rfl 16 Try.ntmps124 (Nat.le_of_ble_eq_true rfl) ?_
 have hC := Ctx.start (X := Nox) w0 [] (by simp)
 refine sr ?_
 refine s_box (v := .agg (List.toArray (Term.enc a0))) hC (Term.enc a0) rfl rfl fun b1 w3 hB_ hC => ?_
 refine s_box (v := .agg (List.toArray (Term.enc a1))) hC (Term.enc a1) rfl rfl fun b4 w6 hB_ hC => ?_
 refine s_as (v := .bool false) rfl ?_
 refine dn ?_
 refine wp_seq ?_
 refine sr ?_
 refine s_faddrB 0 Try.underlying93 rfl ag24.size rfl rfl ?_
 refine s_loadA hC 1 (A8.enc .u8 a0.mono) rfl ag24 rfl rfl rfl ?_
 refine s_faddrB 0 Try.underlying93 rfl ag24.size rfl rfl ?_
 refine s_loadA hC 0 (A8.enc .u8 a1.mono) rfl ag24 rfl rfl rfl ?_
 refine s_call [.agg (List.toArray (A8.enc .u8 a0.mono)), .agg (List.toArray (A8.enc .u8 a1.mono))] _ Try.func17 rfl rfl rfl (c_laws_eqMonomial a0.mono a1.mono h _) (fun ret7 w9 hR8 => ?_)
 obtain ⟨r10, rfl, h, hB11⟩ := hR8
 refine ⟨_, rfl, ?_⟩
 replace hC := hC.grow hB11
 refine s_not rfl ?_
 refine dn ?_
 refine cw_cond rfl (fun hb12 => ?_) (fun hb12 => ?_)
 ·replace h := ift h (ne_t (not_t hb12))
  refine sr ?_
  refine s_as (v := .bool false) rfl ?_
  refine dn ?_
  refine wp_ret (then_ret ?_)
  refine ret1 (fn := Try.f124) rfl ?_ ⟨false, rfl, h, hC.below⟩ (.inl rfl)
  exact res_tmp rfl
 ·replace h := iff_ h (not_not_intro ((not_f hb12)))
  refine wp_skip ?_
  refine then_norm ?_
  refine wp_seq ?_
  refine sr ?_
  refine s_faddrB 8 Try.underlying93 rfl sc2.size rfl rfl ?_
  refine s_loadS hC 1 (.int .i64 a0.factor) rfl sc2 rfl rfl ?_
  refine s_faddrB 8 Try.underlying93 rfl sc2.size rfl rfl ?_
  refine s_loadS hC 0 (.int .i64 a1.factor) rfl sc2 rfl rfl ?_
  refine s_neq rfl rfl ?_
  refine dn ?_
  refine cw_cond rfl (fun hb13 => ?_) (fun hb13 => ?_)
  ·replace h := ift h (ct hb13)
   refine sr ?_
   refine s_as (v := .bool false) rfl ?_
   refine dn ?_
   refine wp_ret (then_ret ?_)
   refine ret1 (fn := Try.f124) rfl ?_ ⟨false, rfl, h, hC.below⟩ (.inl rfl)
   exact res_tmp rfl
  ·replace h := iff_ h (cf hb13)
   refine wp_skip ?_
   refine then_norm ?_
   refine sr ?_
   refine s_as (v := .bool true) rfl ?_
   refine dn ?_
   refine wp_ret ?_
   refine ret1 (fn := Try.f124) rfl ?_ ⟨true, rfl, h, hC.below⟩ (.inl rfl)
   exact res_tmp rfl
def f_laws_eqTermS (a0 : List Term) (a1 : List Term) (K : Bool → Prop) : Prop :=
 (if (a0.length : Int) ≠ (a1.length : Int) then K false else forN (fun i36 (s37 : Unit) next39 => ((0 ≤ (i36 : Int) ∧ (i36 : Int) < (a1.length : Int)) ∧ f_laws_eqTerm (a0.getD i36 default) (a1.getD i36 default) (fun r61 => (if ¬ (r61 = true) then K false else next39 ())))) (fun (s37 : Unit) => K true) a0.length 0 ())
theorem c_laws_eqTermS (a0 : List Term) (a1 : List Term) {u0_0 : Value} {u1_0 : Value} {fp0 : List Nat} {fp1 : List Nat} {K : Bool → Prop} (h : f_laws_eqTermS a0 a1 K) (w0 : World) (q0 : ETerm.ty.sl.rep a0 [u0_0] fp0 w0) (q1 : ETerm.ty.sl.rep a1 [u1_0] fp1 w0) :
  Calls Try.prog 93 #[u0_0, u1_0] w0 fun e w' => ∃ (r0 : Bool), 
   e = .returned (.bool r0) ∧ K r0 ∧ Bel w0 w' := by
 unfold f_laws_eqTermS at h
 refine calls_of (args := [u0_0, u1_0]) Try.func93 rfl 27 Try.ntmps93 (Nat.le_of_ble_eq_true rfl) ?_
 have hC := Ctx.start (X := Nox) w0 [Ty.item ETerm.ty.sl a0 [u0_0] fp0, Ty.item ETerm.ty.sl a1 [u1_0] fp1] (by simp only [List.mem_cons, List.not_mem_nil, or_false, forall_eq_or_imp, forall_eq]; exact ⟨q0, q1⟩)
 refine sr ?_
 refine s_as (v := .bool false) rfl ?_
 refine dn ?_
 refine wp_seq ?_
 refine sr ?_
 refine s_mv (v := u0_0) rfl ?_
 obtain ⟨Ad3, c4, hv5⟩ := sl_len (hC.getP 0 rfl)
 refine s_len Try.underlying49 (tr rfl hv5) ?_
 refine s_mv (v := u1_0) rfl ?_
 obtain ⟨Ad6, c7, hv8⟩ := sl_len (hC.getP 1 rfl)
 refine s_len Try.underlying49 (tr rfl hv8) ?_
 refine s_neq rfl rfl ?_
 refine dn ?_
 refine cw_cond rfl (fun hb9 => ?_) (fun hb9 => ?_)
 ·replace h := ift h (ct hb9)
  refine sr ?_
  refine s_as (v := .bool false) rfl ?_
  refine dn ?_
  refine wp_ret (then_ret ?_)
  refine ret1 (fn := Try.f93) rfl ?_ ⟨false, rfl, h, hC.below⟩ (.inl rfl)
  exact res_tmp rfl
 ·replace h := iff_ h (cf hb9)
  refine wp_skip ?_
  refine then_norm ?_
  refine wp_seq ?_
  refine sr ?_
  refine s_as (v := .int .i64 0) rfl ?_
  refine dn ?_
  refine wp_block ?_
  have hN38 : a0.length ≤ 9223372036854775807 := sl_max (hC.getP 0 rfl)
  refine loopN (S := Unit) _ _ (fun i36 s37 e_ w_ => Slots e_ [(0, u0_0), (1, u1_0), (4, .bool false), (5, .int .i64 (i36 : Int))] ∧ Ctx Nox w0 w_ [] [Ty.item ETerm.ty.sl a0 [u0_0] fp0, Ty.item ETerm.ty.sl a1 [u1_0] fp1]) a0.length ?_ ?_ (s0 := ()) ?_ h
  ·clear hC h
   rintro i36 s37 e_ w43 next39 K40 hi42 ⟨hS_, hC⟩ h hK41
   refine wp_seq ?_
   refine sr ?_
   refine s_mv (v := .int .i64 (i36 : Int)) (sx hS_ 3 rfl) ?_
   refine s_mv (v := u0_0) (sx hS_ 0 rfl) ?_
   obtain ⟨Ad44, c45, hv46⟩ := sl_len (hC.getP 0 rfl)
   refine s_len Try.underlying49 (tr rfl hv46) ?_
   refine s_lss rfl rfl ?_
   refine dn ?_
   refine cw_true rfl (decide_eq_true (by omega)) ?_
   refine wp_skip ?_
   refine then_norm ?_
   refine wp_seq ?_
   refine wp_block ?_
   refine wp_seq ?_
   refine cw_draw 8 mixed [0, 0, 3, 7, 0, 0, 48, 112, 255, 511] [2, 3, 6, 7] [0, 1, 4, 5] (by kernel_rfl) (by kernel_rfl) (by kernel_rfl) (fun hM48 hM49 w47 hB_ => ?_)
   replace hC := hC.grow hB_
   refine ae_lookF belPre 0 (u0_0) rfl rfl (by kernel_rfl) (hM49 0 rfl) (fun w_ => .inl ⟨rfl, by exact r_mv (v := u0_0) (sx hS_ 0 rfl)⟩) (listed' := (dbits 10 1)) (by kernel_rfl) ?_
   refine ae_lookF belPre 1 (.int .i64 (i36 : Int)) rfl rfl (by kernel_rfl) (hM49 1 rfl) (fun w_ => .inl ⟨rfl, by exact r_mv (v := .int .i64 (i36 : Int)) (sx hS_ 3 rfl)⟩) (listed' := (dbits 10 3)) (by kernel_rfl) ?_
   obtain ⟨Ad50, c51, hv52⟩ := sl_form (hC.getP 0 rfl) i36 hi42
   refine ae_look belPre 2 (.pointer (some (Ad50.add (i36 * 9)))) rfl rfl (by kernel_rfl) (hM48 2 rfl) (fun w_ hB_ => .inl ⟨rfl, by exact r_iaddrS (len := a0.length) Try.underlying49 ag93.size (by exact tr rfl hv52) rfl (Int.natCast_nonneg _) (Int.ofNat_lt.2 hi42)⟩) (listed' := (dbits 10 7)) (by kernel_rfl) ?_
   refine ae_look belPre 3 (.agg (List.toArray (Term.enc (a0.getD i36 default)))) rfl rfl (by kernel_rfl) (hM48 3 rfl) (fun w_ hB_ => .inl ⟨rfl, by exact r_loadCA (Term.enc (a0.getD i36 default)) (sl_cellsE ((hC.grow hB_).getP 0 rfl) hv52 i36 hi42) ag93 rfl rfl⟩) (listed' := (dbits 10 15)) (by kernel_rfl) ?_
   refine ae_lookF belPre 4 (u1_0) rfl rfl (by kernel_rfl) (hM49 4 rfl) (fun w_ => .inl ⟨rfl, by exact r_mv (v := u1_0) (sx hS_ 1 rfl)⟩) (listed' := (dbits 10 31)) (by kernel_rfl) ?_
   refine ae_lookF belPre 5 (.int .i64 (i36 : Int)) rfl rfl (by kernel_rfl) (hM49 5 rfl) (fun w_ => .inl ⟨rfl, by exact r_mv (v := .int .i64 (i36 : Int)) (sx hS_ 3 rfl)⟩) (listed' := (dbits 10 63)) (by kernel_rfl) ?_
   obtain ⟨⟨h0_53, h1_54⟩, h⟩ := h
   obtain ⟨Ad55, c56, hv57⟩ := sl_form (hC.getP 1 rfl) i36 (show i36 < a1.length by omega)
   refine ae_look belPre 6 (.pointer (some (Ad55.add (i36 * 9)))) rfl rfl (by kernel_rfl) (hM48 6 rfl) (fun w_ hB_ => .inl ⟨rfl, by exact r_iaddrS (len := a1.length) Try.underlying49 ag93.size (by exact tr rfl hv57) rfl h0_53 h1_54⟩) (listed' := (dbits 10 127)) (by kernel_rfl) ?_
   refine ae_look belPre 7 (.agg (List.toArray (Term.enc (a1.getD i36 default)))) rfl rfl (by kernel_rfl) (hM48 7 rfl) (fun w_ hB_ => .inl ⟨rfl, by exact r_loadCA (Term.enc (a1.getD i36 default)) (sl_cellsE ((hC.grow hB_).getP 1 rfl) hv57 i36 (show i36 < a1.length by omega)) ag93 rfl rfl⟩) (listed' := (dbits 10 255)) (by kernel_rfl) ?_
   refine ae_tail 8 (by decide) (by decide) (by kernel_rfl) (by kernel_rfl) rfl ?_
   refine s_call [.agg (List.toArray (Term.enc (a0.getD i36 default))), .agg (List.toArray (Term.enc (a1.getD i36 default)))] _ Try.func124 rfl rfl rfl (c_laws_eqTerm (a0.getD i36 default) (a1.getD i36 default) h _) (fun ret58 w60 hR59 => ?_)
   obtain ⟨r61, rfl, h, hB62⟩ := hR59
   refine ⟨_, rfl, ?_⟩
   replace hC := hC.grow hB62
   refine s_not rfl ?_
   refine done ?_
   refine qn_norm ?_
   refine then_norm ?_
   refine cw_cond rfl (fun hb63 => ?_) (fun hb63 => ?_)
   ·replace h := ift h (ne_t (not_t hb63))
    refine sr ?_
    refine s_as (v := .bool false) rfl ?_
    refine dn ?_
    refine wp_ret (blk_ret (then_ret (then_ret (blk_ret (then_ret ?_)))))
    refine ret1 (fn := Try.f93) rfl ?_ ⟨false, rfl, h, hC.below⟩ (.inl rfl)
    exact res_tmp rfl
   ·replace h := iff_ h (not_not_intro ((not_f hb63)))
    refine wp_skip ?_
    refine blk_norm ?_
    refine then_norm ?_
    refine cw_region ?_
    refine s_mv (v := .int .i64 (i36 : Int)) (sx hS_ 3 rfl) ?_
    refine s_add rfl rfl ?_
    refine s_as (v := .int .i64 (IntKind.i64.wrap ((i36 : Int) + 1))) rfl ?_
    refine done ?_
    exact hK41 () _ _ ⟨(sk (sx hS_ 0 rfl) (sk (sx hS_ 1 rfl) (sk (sx hS_ 2 rfl) (sk (tr rfl (congrArg _ (wrap64_nat hi42 hN38))) sn)))), hC⟩ h
  ·clear hC h
   rintro s37 e_ w64 K40 ⟨hS_, hC⟩ h
   refine wp_seq ?_
   refine sr ?_
   refine s_mv (v := .int .i64 (a0.length : Int)) (sx hS_ 3 rfl) ?_
   refine s_mv (v := u0_0) (sx hS_ 0 rfl) ?_
   obtain ⟨Ad65, c66, hv67⟩ := sl_len (hC.getP 0 rfl)
   refine s_len Try.underlying49 (tr rfl hv67) ?_
   refine s_lss rfl rfl ?_
   refine dn ?_
   refine cw_false rfl (decide_eq_false (by omega)) ?_
   refine wp_exit (then_exit (then_exit (exit_in ?_)))
   refine then_norm ?_
   refine sr ?_
   refine s_as (v := .bool true) rfl ?_
   refine dn ?_
   refine wp_ret ?_
   refine ret1 (fn := Try.f93) rfl ?_ ⟨true, rfl, h, hC.below⟩ (.inl rfl)
   exact res_tmp rfl
  ·skip
   exact ⟨(sk rfl (sk rfl (sk rfl (sk rfl sn)))), hC⟩
def f_laws_eqForm (a0 : Vc.Form) (a1 : Vc.Form) (K : Bool → Prop) : Prop :=
 f_laws_eqTermS a0.terms a1.terms (fun r16 => (if ¬ (r16 = true) then K false else K true))
theorem c_laws_eqForm (a0 : Vc.Form) (a1 : Vc.Form) {u0_0 : Value} {u1_0 : Value} {fp0 : List Nat} {fp1 : List Nat} {K : Bool → Prop} (h : f_laws_eqForm a0 a1 K) (w0 : World) (q0 : TForm.rep a0 [u0_0] fp0 w0) (q1 : TForm.rep a1 [u1_0] fp1 w0) :
  Calls Try.prog 43 #[.agg #[u0_0], .agg #[u1_0]] w0 fun e w' => ∃ (r0 : Bool), 
   e = .returned (.bool r0) ∧ K r0 ∧ Bel w0 w' := by
 unfold f_laws_eqForm at h
 refine calls_of (args := [.agg #[u0_0], .agg #[u1_0]]) Try.func43 rfl 11 Try.ntmps43 (Nat.le_of_ble_eq_true rfl) ?_
 have hC := Ctx.start (X := Nox) w0 [Ty.item TForm a0 [u0_0] fp0, Ty.item TForm a1 [u1_0] fp1] (by simp only [List.mem_cons, List.not_mem_nil, or_false, forall_eq_or_imp, forall_eq]; exact ⟨q0, q1⟩)
 have hp3 := (hC.getP 0 rfl)
 replace hC := hC.derive 0 rfl (Ty.item ETerm.ty.sl a0.terms [u0_0] fp0) (fun _ => (form_parts hp3)) (fun _ hb_ => hb_)
 have hp5 := (hC.getP 2 rfl)
 replace hC := hC.derive 2 rfl (Ty.item ETerm.ty.sl a1.terms [u1_0] fp1) (fun _ => (form_parts hp5)) (fun _ hb_ => hb_)
 refine sr ?_
 refine s_box (v := .agg #[u0_0]) hC [u0_0] rfl rfl fun b7 w9 hB_ hC => ?_
 refine s_box (v := .agg #[u1_0]) hC [u1_0] rfl rfl fun b10 w12 hB_ hC => ?_
 refine s_as (v := .bool false) rfl ?_
 refine dn ?_
 refine wp_seq ?_
 refine sr ?_
 refine s_faddrB 0 Try.underlying51 rfl sc49.size rfl rfl ?_
 refine s_loadS hC 1 (u0_0) rfl sc49 rfl rfl ?_
 refine s_faddrB 0 Try.underlying51 rfl sc49.size rfl rfl ?_
 refine s_loadS hC 0 (u1_0) rfl sc49 rfl rfl ?_
 refine s_call [u0_0, u1_0] _ Try.func93 rfl rfl rfl (c_laws_eqTermS a0.terms a1.terms h _ (hC.getP 1 rfl) (hC.getP 0 rfl)) (fun ret13 w15 hR14 => ?_)
 obtain ⟨r16, rfl, h, hB17⟩ := hR14
 refine ⟨_, rfl, ?_⟩
 replace hC := hC.grow hB17
 refine s_not rfl ?_
 refine dn ?_
 refine cw_cond rfl (fun hb18 => ?_) (fun hb18 => ?_)
 ·replace h := ift h (ne_t (not_t hb18))
  refine sr ?_
  refine s_as (v := .bool false) rfl ?_
  refine dn ?_
  refine wp_ret (then_ret ?_)
  refine ret1 (fn := Try.f43) rfl ?_ ⟨false, rfl, h, hC.below⟩ (.inl rfl)
  exact res_tmp rfl
 ·replace h := iff_ h (not_not_intro ((not_f hb18)))
  refine wp_skip ?_
  refine then_norm ?_
  refine sr ?_
  refine s_as (v := .bool true) rfl ?_
  refine dn ?_
  refine wp_ret ?_
  refine ret1 (fn := Try.f43) rfl ?_ ⟨true, rfl, h, hC.below⟩ (.inl rfl)
  exact res_tmp rfl
def f_laws_eqFormS (a0 : List Vc.Form) (a1 : List Vc.Form) (K : Bool → Prop) : Prop :=
 (if (a0.length : Int) ≠ (a1.length : Int) then K false else forN (fun i48 (s49 : Unit) next51 => ((0 ≤ (i48 : Int) ∧ (i48 : Int) < (a1.length : Int)) ∧ f_laws_eqForm (a0.getD i48 default) (a1.getD i48 default) (fun r85 => (if ¬ (r85 = true) then K false else next51 ())))) (fun (s49 : Unit) => K true) a0.length 0 ())
theorem c_laws_eqFormS (a0 : List Vc.Form) (a1 : List Vc.Form) {u0_0 : Value} {u1_0 : Value} {fp0 : List Nat} {fp1 : List Nat} {K : Bool → Prop} (h : f_laws_eqFormS a0 a1 K) (w0 : World) (q0 : TForm.sl.rep a0 [u0_0] fp0 w0) (q1 : TForm.sl.rep a1 [u1_0] fp1 w0) :
  Calls Try.prog 71 #[u0_0, u1_0] w0 fun e w' => ∃ (r0 : Bool), 
   e = .returned (.bool r0) ∧ K r0 ∧ Bel w0 w' := by
 unfold f_laws_eqFormS at h
 refine calls_of (args := [u0_0, u1_0]) Try.func71 rfl 27 Try.ntmps71 (Nat.le_of_ble_eq_true rfl) ?_
 have hC := Ctx.start (X := Nox) w0 [Ty.item TForm.sl a0 [u0_0] fp0, Ty.item TForm.sl a1 [u1_0] fp1] (by simp only [List.mem_cons, List.not_mem_nil, or_false, forall_eq_or_imp, forall_eq]; exact ⟨q0, q1⟩)
 refine sr ?_
 refine s_as (v := .bool false) rfl ?_
 refine dn ?_
 refine wp_seq ?_
 refine sr ?_
 refine s_mv (v := u0_0) rfl ?_
 obtain ⟨Ad3, c4, hv5⟩ := sl_len (hC.getP 0 rfl)
 refine s_len Try.underlying32 (tr rfl hv5) ?_
 refine s_mv (v := u1_0) rfl ?_
 obtain ⟨Ad6, c7, hv8⟩ := sl_len (hC.getP 1 rfl)
 refine s_len Try.underlying32 (tr rfl hv8) ?_
 refine s_neq rfl rfl ?_
 refine dn ?_
 refine cw_cond rfl (fun hb9 => ?_) (fun hb9 => ?_)
 ·replace h := ift h (ct hb9)
  refine sr ?_
  refine s_as (v := .bool false) rfl ?_
  refine dn ?_
  refine wp_ret (then_ret ?_)
  refine ret1 (fn := Try.f71) rfl ?_ ⟨false, rfl, h, hC.below⟩ (.inl rfl)
  exact res_tmp rfl
 ·replace h := iff_ h (cf hb9)
  refine wp_skip ?_
  refine then_norm ?_
  refine wp_seq ?_
  refine sr ?_
  refine s_as (v := .int .i64 0) rfl ?_
  refine dn ?_
  refine wp_block ?_
  have hN50 : a0.length ≤ 9223372036854775807 := sl_max (hC.getP 0 rfl)
  refine loopN (S := Unit) _ _ (fun i48 s49 e_ w_ => Slots e_ [(0, u0_0), (1, u1_0), (4, .bool false), (5, .int .i64 (i48 : Int))] ∧ Ctx Nox w0 w_ [] [Ty.item TForm.sl a0 [u0_0] fp0, Ty.item TForm.sl a1 [u1_0] fp1]) a0.length ?_ ?_ (s0 := ()) ?_ h
  ·clear hC h
   rintro i48 s49 e_ w55 next51 K52 hi54 ⟨hS_, hC⟩ h hK53
   refine wp_seq ?_
   refine sr ?_
   refine s_mv (v := .int .i64 (i48 : Int)) (sx hS_ 3 rfl) ?_
   refine s_mv (v := u0_0) (sx hS_ 0 rfl) ?_
   obtain ⟨Ad56, c57, hv58⟩ := sl_len (hC.getP 0 rfl)
   refine s_len Try.underlying32 (tr rfl hv58) ?_
   refine s_lss rfl rfl ?_
   refine dn ?_
   refine cw_true rfl (decide_eq_true (by omega)) ?_
   refine wp_skip ?_
   refine then_norm ?_
   refine wp_seq ?_
   refine wp_block ?_
   refine wp_seq ?_
   refine cw_draw 8 mixed [0, 0, 3, 7, 0, 0, 48, 112, 255, 511] [2, 3, 6, 7] [0, 1, 4, 5] (by kernel_rfl) (by kernel_rfl) (by kernel_rfl) (fun hM60 hM61 w59 hB_ => ?_)
   replace hC := hC.grow hB_
   refine ae_lookF belPre 0 (u0_0) rfl rfl (by kernel_rfl) (hM61 0 rfl) (fun w_ => .inl ⟨rfl, by exact r_mv (v := u0_0) (sx hS_ 0 rfl)⟩) (listed' := (dbits 10 1)) (by kernel_rfl) ?_
   refine ae_lookF belPre 1 (.int .i64 (i48 : Int)) rfl rfl (by kernel_rfl) (hM61 1 rfl) (fun w_ => .inl ⟨rfl, by exact r_mv (v := .int .i64 (i48 : Int)) (sx hS_ 3 rfl)⟩) (listed' := (dbits 10 3)) (by kernel_rfl) ?_
   obtain ⟨Ad62, c63, hv64⟩ := sl_form (hC.getP 0 rfl) i48 hi54
   refine ae_look belPre 2 (.pointer (some (Ad62.add (i48 * 1)))) rfl rfl (by kernel_rfl) (hM60 2 rfl) (fun w_ hB_ => .inl ⟨rfl, by exact r_iaddrS (len := a0.length) Try.underlying32 ag51.size (by exact tr rfl hv64) rfl (Int.natCast_nonneg _) (Int.ofNat_lt.2 hi54)⟩) (listed' := (dbits 10 7)) (by kernel_rfl) ?_
   obtain ⟨cs_, hl66, hc67, hr68⟩ := sl_cells (hC.getP 0 rfl) hv64 i48 hi54
   obtain ⟨u65, rfl⟩ := List.length_eq_one_iff.1 hl66
   clear hl66
   rw [getD_eq _ _ hi54] at hr68
   have hp69 := hr68
   replace hC := hC.derive 0 rfl (Ty.item ETerm.ty.sl ((a0.getD i48 default).terms) [u65] fp0) (fun _ => (form_parts hp69)) (fun _ hb_ => hb_)
   refine ae_look belPre 3 (.agg #[u65]) rfl rfl (by kernel_rfl) (hM60 3 rfl) (fun w_ hB_ => .inl ⟨rfl, by exact r_loadCA [u65] (cellsAt_bel hB_ hc67) ag51 rfl rfl⟩) (listed' := (dbits 10 15)) (by kernel_rfl) ?_
   refine ae_lookF belPre 4 (u1_0) rfl rfl (by kernel_rfl) (hM61 4 rfl) (fun w_ => .inl ⟨rfl, by exact r_mv (v := u1_0) (sx hS_ 1 rfl)⟩) (listed' := (dbits 10 31)) (by kernel_rfl) ?_
   refine ae_lookF belPre 5 (.int .i64 (i48 : Int)) rfl rfl (by kernel_rfl) (hM61 5 rfl) (fun w_ => .inl ⟨rfl, by exact r_mv (v := .int .i64 (i48 : Int)) (sx hS_ 3 rfl)⟩) (listed' := (dbits 10 63)) (by kernel_rfl) ?_
   obtain ⟨⟨h0_71, h1_72⟩, h⟩ := h
   obtain ⟨Ad73, c74, hv75⟩ := sl_form (hC.getP 2 rfl) i48 (show i48 < a1.length by omega)
   refine ae_look belPre 6 (.pointer (some (Ad73.add (i48 * 1)))) rfl rfl (by kernel_rfl) (hM60 6 rfl) (fun w_ hB_ => .inl ⟨rfl, by exact r_iaddrS (len := a1.length) Try.underlying32 ag51.size (by exact tr rfl hv75) rfl h0_71 h1_72⟩) (listed' := (dbits 10 127)) (by kernel_rfl) ?_
   obtain ⟨cs_, hl77, hc78, hr79⟩ := sl_cells (hC.getP 2 rfl) hv75 i48 (show i48 < a1.length by omega)
   obtain ⟨u76, rfl⟩ := List.length_eq_one_iff.1 hl77
   clear hl77
   rw [getD_eq _ _ (show i48 < a1.length by omega)] at hr79
   have hp80 := hr79
   replace hC := hC.derive 2 rfl (Ty.item ETerm.ty.sl ((a1.getD i48 default).terms) [u76] fp1) (fun _ => (form_parts hp80)) (fun _ hb_ => hb_)
   refine ae_look belPre 7 (.agg #[u76]) rfl rfl (by kernel_rfl) (hM60 7 rfl) (fun w_ hB_ => .inl ⟨rfl, by exact r_loadCA [u76] (cellsAt_bel hB_ hc78) ag51 rfl rfl⟩) (listed' := (dbits 10 255)) (by kernel_rfl) ?_
   refine ae_tail 8 (by decide) (by decide) (by kernel_rfl) (by kernel_rfl) rfl ?_
   refine s_call [.agg #[u65], .agg #[u76]] _ Try.func43 rfl rfl rfl (c_laws_eqForm (a0.getD i48 default) (a1.getD i48 default) h _ (form_mk (hC.getP 1 rfl)) (form_mk (hC.getP 0 rfl))) (fun ret82 w84 hR83 => ?_)
   obtain ⟨r85, rfl, h, hB86⟩ := hR83
   refine ⟨_, rfl, ?_⟩
   replace hC := hC.grow hB86
   refine s_not rfl ?_
   refine done ?_
   refine qn_norm ?_
   refine then_norm ?_
   refine cw_cond rfl (fun hb87 => ?_) (fun hb87 => ?_)
   ·replace h := ift h (ne_t (not_t hb87))
    refine sr ?_
    refine s_as (v := .bool false) rfl ?_
    refine dn ?_
    refine wp_ret (blk_ret (then_ret (then_ret (blk_ret (then_ret ?_)))))
    refine ret1 (fn := Try.f71) rfl ?_ ⟨false, rfl, h, hC.below⟩ (.inl rfl)
    exact res_tmp rfl
   ·replace h := iff_ h (not_not_intro ((not_f hb87)))
    refine wp_skip ?_
    refine blk_norm ?_
    refine then_norm ?_
    refine cw_region ?_
    refine s_mv (v := .int .i64 (i48 : Int)) (sx hS_ 3 rfl) ?_
    refine s_add rfl rfl ?_
    refine s_as (v := .int .i64 (IntKind.i64.wrap ((i48 : Int) + 1))) rfl ?_
    refine done ?_
    replace hC := hC.sel [] [2, 3] (M' := []) (Ps' := [Ty.item TForm.sl a0 [u0_0] fp0, Ty.item TForm.sl a1 [u1_0] fp1]) (by decide) rfl rfl
    exact hK53 () _ _ ⟨(sk (sx hS_ 0 rfl) (sk (sx hS_ 1 rfl) (sk (sx hS_ 2 rfl) (sk (tr rfl (congrArg _ (wrap64_nat hi54 hN50))) sn)))), hC⟩ h
  ·clear hC h
   rintro s49 e_ w88 K52 ⟨hS_, hC⟩ h
   refine wp_seq ?_
   refine sr ?_
   refine s_mv (v := .int .i64 (a0.length : Int)) (sx hS_ 3 rfl) ?_
   refine s_mv (v := u0_0) (sx hS_ 0 rfl) ?_
   obtain ⟨Ad89, c90, hv91⟩ := sl_len (hC.getP 0 rfl)
   refine s_len Try.underlying32 (tr rfl hv91) ?_
   refine s_lss rfl rfl ?_
   refine dn ?_
   refine cw_false rfl (decide_eq_false (by omega)) ?_
   refine wp_exit (then_exit (then_exit (exit_in ?_)))
   refine then_norm ?_
   refine sr ?_
   refine s_as (v := .bool true) rfl ?_
   refine dn ?_
   refine wp_ret ?_
   refine ret1 (fn := Try.f71) rfl ?_ ⟨true, rfl, h, hC.below⟩ (.inl rfl)
   exact res_tmp rfl
  ·skip
   exact ⟨(sk rfl (sk rfl (sk rfl (sk rfl sn)))), hC⟩
def f_laws_eqInt64S (a0 : List Int) (a1 : List Int) (K : Bool → Prop) : Prop :=
 (if (a0.length : Int) ≠ (a1.length : Int) then K false else forN (fun i31 (s32 : Unit) next34 => ((0 ≤ (i31 : Int) ∧ (i31 : Int) < (a1.length : Int)) ∧ (if a0.getD i31 default ≠ a1.getD i31 default then K false else next34 ()))) (fun (s32 : Unit) => K true) a0.length 0 ())
theorem c_laws_eqInt64S (a0 : List Int) (a1 : List Int) {u0_0 : Value} {u1_0 : Value} {fp0 : List Nat} {fp1 : List Nat} {K : Bool → Prop} (h : f_laws_eqInt64S a0 a1 K) (w0 : World) (q0 : ((EI .i64).ty.sl).rep a0 [u0_0] fp0 w0) (q1 : ((EI .i64).ty.sl).rep a1 [u1_0] fp1 w0) :
  Calls Try.prog 18 #[u0_0, u1_0] w0 fun e w' => ∃ (r0 : Bool), 
   e = .returned (.bool r0) ∧ K r0 ∧ Bel w0 w' := by
 unfold f_laws_eqInt64S at h
 refine calls_of (args := [u0_0, u1_0]) Try.func18 rfl 26 Try.ntmps18 (Nat.le_of_ble_eq_true rfl) ?_
 have hC := Ctx.start (X := Nox) w0 [Ty.item ((EI .i64).ty.sl) a0 [u0_0] fp0, Ty.item ((EI .i64).ty.sl) a1 [u1_0] fp1] (by simp only [List.mem_cons, List.not_mem_nil, or_false, forall_eq_or_imp, forall_eq]; exact ⟨q0, q1⟩)
 refine sr ?_
 refine s_as (v := .bool false) rfl ?_
 refine dn ?_
 refine wp_seq ?_
 refine sr ?_
 refine s_mv (v := u0_0) rfl ?_
 obtain ⟨Ad3, c4, hv5⟩ := sl_len (hC.getP 0 rfl)
 refine s_len Try.underlying22 (tr rfl hv5) ?_
 refine s_mv (v := u1_0) rfl ?_
 obtain ⟨Ad6, c7, hv8⟩ := sl_len (hC.getP 1 rfl)
 refine s_len Try.underlying22 (tr rfl hv8) ?_
 refine s_neq rfl rfl ?_
 refine dn ?_
 refine cw_cond rfl (fun hb9 => ?_) (fun hb9 => ?_)
 ·replace h := ift h (ct hb9)
  refine sr ?_
  refine s_as (v := .bool false) rfl ?_
  refine dn ?_
  refine wp_ret (then_ret ?_)
  refine ret1 (fn := Try.f18) rfl ?_ ⟨false, rfl, h, hC.below⟩ (.inl rfl)
  exact res_tmp rfl
 ·replace h := iff_ h (cf hb9)
  refine wp_skip ?_
  refine then_norm ?_
  refine wp_seq ?_
  refine sr ?_
  refine s_as (v := .int .i64 0) rfl ?_
  refine dn ?_
  refine wp_block ?_
  have hN33 : a0.length ≤ 9223372036854775807 := sl_max (hC.getP 0 rfl)
  refine loopN (S := Unit) _ _ (fun i31 s32 e_ w_ => Slots e_ [(0, u0_0), (1, u1_0), (4, .bool false), (5, .int .i64 (i31 : Int))] ∧ Ctx Nox w0 w_ [] [Ty.item ((EI .i64).ty.sl) a0 [u0_0] fp0, Ty.item ((EI .i64).ty.sl) a1 [u1_0] fp1]) a0.length ?_ ?_ (s0 := ()) ?_ h
  ·clear hC h
   rintro i31 s32 e_ w38 next34 K35 hi37 ⟨hS_, hC⟩ h hK36
   refine wp_seq ?_
   refine sr ?_
   refine s_mv (v := .int .i64 (i31 : Int)) (sx hS_ 3 rfl) ?_
   refine s_mv (v := u0_0) (sx hS_ 0 rfl) ?_
   obtain ⟨Ad39, c40, hv41⟩ := sl_len (hC.getP 0 rfl)
   refine s_len Try.underlying22 (tr rfl hv41) ?_
   refine s_lss rfl rfl ?_
   refine dn ?_
   refine cw_true rfl (decide_eq_true (by omega)) ?_
   refine wp_skip ?_
   refine then_norm ?_
   refine wp_seq ?_
   refine wp_block ?_
   refine wp_seq ?_
   refine cw_draw 8 mixed [0, 0, 3, 7, 0, 0, 48, 112, 255] [2, 3, 6, 7] [0, 1, 4, 5] (by kernel_rfl) (by kernel_rfl) (by kernel_rfl) (fun hM43 hM44 w42 hB_ => ?_)
   replace hC := hC.grow hB_
   refine ae_lookF belPre 0 (u0_0) rfl rfl (by kernel_rfl) (hM44 0 rfl) (fun w_ => .inl ⟨rfl, by exact r_mv (v := u0_0) (sx hS_ 0 rfl)⟩) (listed' := (dbits 9 1)) (by kernel_rfl) ?_
   refine ae_lookF belPre 1 (.int .i64 (i31 : Int)) rfl rfl (by kernel_rfl) (hM44 1 rfl) (fun w_ => .inl ⟨rfl, by exact r_mv (v := .int .i64 (i31 : Int)) (sx hS_ 3 rfl)⟩) (listed' := (dbits 9 3)) (by kernel_rfl) ?_
   obtain ⟨Ad45, c46, hv47⟩ := sl_form (hC.getP 0 rfl) i31 hi37
   refine ae_look belPre 2 (.pointer (some (Ad45.add (i31 * 1)))) rfl rfl (by kernel_rfl) (hM43 2 rfl) (fun w_ hB_ => .inl ⟨rfl, by exact r_iaddrS (len := a0.length) Try.underlying22 sc2.size (by exact tr rfl hv47) rfl (Int.natCast_nonneg _) (Int.ofNat_lt.2 hi37)⟩) (listed' := (dbits 9 7)) (by kernel_rfl) ?_
   refine ae_look belPre 3 (.int .i64 (a0.getD i31 default)) rfl rfl (by kernel_rfl) (hM43 3 rfl) (fun w_ hB_ => .inl ⟨rfl, by exact r_loadCS (.int .i64 (a0.getD i31 default)) (sl_cellsE ((hC.grow hB_).getP 0 rfl) hv47 i31 hi37) sc2 rfl⟩) (listed' := (dbits 9 15)) (by kernel_rfl) ?_
   refine ae_lookF belPre 4 (u1_0) rfl rfl (by kernel_rfl) (hM44 4 rfl) (fun w_ => .inl ⟨rfl, by exact r_mv (v := u1_0) (sx hS_ 1 rfl)⟩) (listed' := (dbits 9 31)) (by kernel_rfl) ?_
   refine ae_lookF belPre 5 (.int .i64 (i31 : Int)) rfl rfl (by kernel_rfl) (hM44 5 rfl) (fun w_ => .inl ⟨rfl, by exact r_mv (v := .int .i64 (i31 : Int)) (sx hS_ 3 rfl)⟩) (listed' := (dbits 9 63)) (by kernel_rfl) ?_
   obtain ⟨⟨h0_48, h1_49⟩, h⟩ := h
   obtain ⟨Ad50, c51, hv52⟩ := sl_form (hC.getP 1 rfl) i31 (show i31 < a1.length by omega)
   refine ae_look belPre 6 (.pointer (some (Ad50.add (i31 * 1)))) rfl rfl (by kernel_rfl) (hM43 6 rfl) (fun w_ hB_ => .inl ⟨rfl, by exact r_iaddrS (len := a1.length) Try.underlying22 sc2.size (by exact tr rfl hv52) rfl h0_48 h1_49⟩) (listed' := (dbits 9 127)) (by kernel_rfl) ?_
   refine ae_look belPre 7 (.int .i64 (a1.getD i31 default)) rfl rfl (by kernel_rfl) (hM43 7 rfl) (fun w_ hB_ => .inl ⟨rfl, by exact r_loadCS (.int .i64 (a1.getD i31 default)) (sl_cellsE ((hC.grow hB_).getP 1 rfl) hv52 i31 (show i31 < a1.length by omega)) sc2 rfl⟩) (listed' := (dbits 9 255)) (by kernel_rfl) ?_
   refine ae_tail 8 (by decide) (by decide) (by kernel_rfl) (by kernel_rfl) rfl ?_
   refine s_neq rfl rfl ?_
   refine done ?_
   refine qn_norm ?_
   refine then_norm ?_
   refine cw_cond rfl (fun hb53 => ?_) (fun hb53 => ?_)
   ·replace h := ift h (ct hb53)
    refine sr ?_
    refine s_as (v := .bool false) rfl ?_
    refine dn ?_
    refine wp_ret (blk_ret (then_ret (then_ret (blk_ret (then_ret ?_)))))
    refine ret1 (fn := Try.f18) rfl ?_ ⟨false, rfl, h, hC.below⟩ (.inl rfl)
    exact res_tmp rfl
   ·replace h := iff_ h (cf hb53)
    refine wp_skip ?_
    refine blk_norm ?_
    refine then_norm ?_
    refine cw_region ?_
    refine s_mv (v := .int .i64 (i31 : Int)) (sx hS_ 3 rfl) ?_
    refine s_add rfl rfl ?_
    refine s_as (v := .int .i64 (IntKind.i64.wrap ((i31 : Int) + 1))) rfl ?_
    refine done ?_
    exact hK36 () _ _ ⟨(sk (sx hS_ 0 rfl) (sk (sx hS_ 1 rfl) (sk (sx hS_ 2 rfl) (sk (tr rfl (congrArg _ (wrap64_nat hi37 hN33))) sn)))), hC⟩ h
  ·clear hC h
   rintro s32 e_ w54 K35 ⟨hS_, hC⟩ h
   refine wp_seq ?_
   refine sr ?_
   refine s_mv (v := .int .i64 (a0.length : Int)) (sx hS_ 3 rfl) ?_
   refine s_mv (v := u0_0) (sx hS_ 0 rfl) ?_
   obtain ⟨Ad55, c56, hv57⟩ := sl_len (hC.getP 0 rfl)
   refine s_len Try.underlying22 (tr rfl hv57) ?_
   refine s_lss rfl rfl ?_
   refine dn ?_
   refine cw_false rfl (decide_eq_false (by omega)) ?_
   refine wp_exit (then_exit (then_exit (exit_in ?_)))
   refine then_norm ?_
   refine sr ?_
   refine s_as (v := .bool true) rfl ?_
   refine dn ?_
   refine wp_ret ?_
   refine ret1 (fn := Try.f18) rfl ?_ ⟨true, rfl, h, hC.below⟩ (.inl rfl)
   exact res_tmp rfl
  ·skip
   exact ⟨(sk rfl (sk rfl (sk rfl (sk rfl sn)))), hC⟩
def f_laws_eqAlgebra (a0 : Alg) (a1 : Alg) (K : Bool → Prop) : Prop :=
 f_laws_eqInt64S a0.degrees a1.degrees (fun r18 => (if ¬ (r18 = true) then K false else f_laws_eqFormS a0.images a1.images (fun r24 => (if ¬ (r24 = true) then K false else K true))))
theorem c_laws_eqAlgebra (a0 : Alg) (a1 : Alg) {u0_0 : Value} {u0_1 : Value} {u1_0 : Value} {u1_1 : Value} {fp0 : List Nat} {fp1 : List Nat} {K : Bool → Prop} (h : f_laws_eqAlgebra a0 a1 K) (w0 : World) (q0 : TAlg.rep a0 [u0_0, u0_1] fp0 w0) (q1 : TAlg.rep a1 [u1_0, u1_1] fp1 w0) :
  Calls Try.prog 21 #[.agg #[u0_0, u0_1], .agg #[u1_0, u1_1]] w0 fun e w' => ∃ (r0 : Bool), 
   e = .returned (.bool r0) ∧ K r0 ∧ Bel w0 w' := by
 unfold f_laws_eqAlgebra at h
 refine calls_of (args := [.agg #[u0_0, u0_1], .agg #[u1_0, u1_1]]) Try.func21 rfl 17 Try.ntmps21 (Nat.le_of_ble_eq_true rfl) ?_
 have hC := Ctx.start (X := Nox) w0 [Ty.item TAlg a0 [u0_0, u0_1] fp0, Ty.item TAlg a1 [u1_0, u1_1] fp1] (by simp only [List.mem_cons, List.not_mem_nil, or_false, forall_eq_or_imp, forall_eq]; exact ⟨q0, q1⟩)
 have hp3 := (hC.getP 0 rfl)
 replace hC := hC.derive 0 rfl (Ty.item ((EI .i64).ty.sl) a0.degrees [u0_0] fp0) (fun _ => (alg_parts hp3).1) (fun _ hb_ => hb_)
 replace hC := hC.derive 1 rfl (Ty.item TForm.sl a0.images [u0_1] fp0) (fun _ => (alg_parts hp3).2) (fun _ hb_ => hb_)
 have hp6 := (hC.getP 3 rfl)
 replace hC := hC.derive 3 rfl (Ty.item ((EI .i64).ty.sl) a1.degrees [u1_0] fp1) (fun _ => (alg_parts hp6).1) (fun _ hb_ => hb_)
 replace hC := hC.derive 4 rfl (Ty.item TForm.sl a1.images [u1_1] fp1) (fun _ => (alg_parts hp6).2) (fun _ hb_ => hb_)
 refine sr ?_
 refine s_box (v := .agg #[u0_0, u0_1]) hC [u0_0, u0_1] rfl rfl fun b9 w11 hB_ hC => ?_
 refine s_box (v := .agg #[u1_0, u1_1]) hC [u1_0, u1_1] rfl rfl fun b12 w14 hB_ hC => ?_
 refine s_as (v := .bool false) rfl ?_
 refine dn ?_
 refine wp_seq ?_
 refine sr ?_
 refine s_faddrB 0 Try.underlying34 rfl sc22.size rfl rfl ?_
 refine s_loadS hC 1 (u0_0) rfl sc22 rfl rfl ?_
 refine s_faddrB 0 Try.underlying34 rfl sc22.size rfl rfl ?_
 refine s_loadS hC 0 (u1_0) rfl sc22 rfl rfl ?_
 refine s_call [u0_0, u1_0] _ Try.func18 rfl rfl rfl (c_laws_eqInt64S a0.degrees a1.degrees h _ (hC.getP 3 rfl) (hC.getP 1 rfl)) (fun ret15 w17 hR16 => ?_)
 obtain ⟨r18, rfl, h, hB19⟩ := hR16
 refine ⟨_, rfl, ?_⟩
 replace hC := hC.grow hB19
 refine s_not rfl ?_
 refine dn ?_
 refine cw_cond rfl (fun hb20 => ?_) (fun hb20 => ?_)
 ·replace h := ift h (ne_t (not_t hb20))
  refine sr ?_
  refine s_as (v := .bool false) rfl ?_
  refine dn ?_
  refine wp_ret (then_ret ?_)
  refine ret1 (fn := Try.f21) rfl ?_ ⟨false, rfl, h, hC.below⟩ (.inl rfl)
  exact res_tmp rfl
 ·replace h := iff_ h (not_not_intro ((not_f hb20)))
  refine wp_skip ?_
  refine then_norm ?_
  refine wp_seq ?_
  refine sr ?_
  refine s_faddrB 1 Try.underlying34 rfl sc32.size rfl rfl ?_
  refine s_loadS hC 1 (u0_1) rfl sc32 rfl rfl ?_
  refine s_faddrB 1 Try.underlying34 rfl sc32.size rfl rfl ?_
  refine s_loadS hC 0 (u1_1) rfl sc32 rfl rfl ?_
  refine s_call [u0_1, u1_1] _ Try.func71 rfl rfl rfl (c_laws_eqFormS a0.images a1.images h _ (hC.getP 2 rfl) (hC.getP 0 rfl)) (fun ret21 w23 hR22 => ?_)
  obtain ⟨r24, rfl, h, hB25⟩ := hR22
  refine ⟨_, rfl, ?_⟩
  replace hC := hC.grow hB25
  refine s_not rfl ?_
  refine dn ?_
  refine cw_cond rfl (fun hb26 => ?_) (fun hb26 => ?_)
  ·replace h := ift h (ne_t (not_t hb26))
   refine sr ?_
   refine s_as (v := .bool false) rfl ?_
   refine dn ?_
   refine wp_ret (then_ret ?_)
   refine ret1 (fn := Try.f21) rfl ?_ ⟨false, rfl, h, hC.below⟩ (.inl rfl)
   exact res_tmp rfl
  ·replace h := iff_ h (not_not_intro ((not_f hb26)))
   refine wp_skip ?_
   refine then_norm ?_
   refine sr ?_
   refine s_as (v := .bool true) rfl ?_
   refine dn ?_
   refine wp_ret ?_
   refine ret1 (fn := Try.f21) rfl ?_ ⟨true, rfl, h, hC.below⟩ (.inl rfl)
   exact res_tmp rfl
end Go.Proofs.Ytjngkbalaipdbaa
