/- Printed by vcgen.py: functions of the program as predicates, and that the machine's calls meet them. -/
import Derived.Test.YtaagfepgbofmlaaGC
import Derived.Test.YtaagfepgbofmlaaVo
import Derived.Test.YtaagfepgbofmlaaVr
import Derived.Test.YtaagfepgbofmlaaVx
import Derived.Test.YtaagfepgbofmlaaVz
import Derived.KernelRfl
set_option linter.unusedVariables false
set_option linter.unusedSimpArgs false
set_option maxRecDepth 4000
set_option maxHeartbeats 4000000
namespace Go.Proofs.Ytaagfepgbofmlaa
open Go Go.RowKit Vc
theorem sc168 : ScaT Try.prog 168 := ⟨⟨_, Try.underlying168, rfl⟩, by kernel_rfl⟩
theorem sc46 : ScaT Try.prog 46 := ⟨⟨_, Try.underlying46, rfl⟩, by kernel_rfl⟩
theorem bs22_5 (x0 : Int) (x1 : Int) (x2 : Int) (x3 : Int) (x4 : Int) (w : World) : (Instr.buildSlice 22 5 #[(0, .int .i64 x0), (1, .int .i64 x1), (2, .int .i64 x2), (3, .int .i64 x3), (4, .int .i64 x4)]).run Try.prog w = .ok (.slice (some ⟨w.heap.size, 0, none⟩) 5 5) (w.alloc (.cells (List.toArray ((EI .i64).encs [x0, x1, x2, x3, x4])) 2)) := by kernel_rfl
theorem bs22_4 (x0 : Int) (x1 : Int) (x2 : Int) (x3 : Int) (w : World) : (Instr.buildSlice 22 4 #[(0, .int .i64 x0), (1, .int .i64 x1), (2, .int .i64 x2), (3, .int .i64 x3)]).run Try.prog w = .ok (.slice (some ⟨w.heap.size, 0, none⟩) 4 4) (w.alloc (.cells (List.toArray ((EI .i64).encs [x0, x1, x2, x3])) 2)) := by kernel_rfl
theorem bl170_0sl_2int (x0 : Value) (x1 : Int) (hx0 : IsSl x0) (w : World) : (Instr.build 170 #[(0, x0), (2, .int .u64 x1)]).run Try.prog w = .ok (.agg #[x0, .int .i64 0, .int .u64 x1]) w := by obtain ⟨_, _, _, rfl⟩ := hx0; kernel_rfl
theorem bs22_0  (w : World) : (Instr.buildSlice 22 0 #[]).run Try.prog w = .ok (.slice (some ⟨w.heap.size, 0, none⟩) 0 0) (w.alloc (.cells (List.toArray ((EI .i64).encs [])) 2)) := by kernel_rfl
theorem bs22_8 (x0 : Int) (x1 : Int) (x2 : Int) (x3 : Int) (x4 : Int) (x5 : Int) (x6 : Int) (x7 : Int) (w : World) : (Instr.buildSlice 22 8 #[(0, .int .i64 x0), (1, .int .i64 x1), (2, .int .i64 x2), (3, .int .i64 x3), (4, .int .i64 x4), (5, .int .i64 x5), (6, .int .i64 x6), (7, .int .i64 x7)]).run Try.prog w = .ok (.slice (some ⟨w.heap.size, 0, none⟩) 8 8) (w.alloc (.cells (List.toArray ((EI .i64).encs [x0, x1, x2, x3, x4, x5, x6, x7])) 2)) := by kernel_rfl
theorem bs22_1 (x0 : Int) (w : World) : (Instr.buildSlice 22 1 #[(0, .int .i64 x0)]).run Try.prog w = .ok (.slice (some ⟨w.heap.size, 0, none⟩) 1 1) (w.alloc (.cells (List.toArray ((EI .i64).encs [x0])) 2)) := by kernel_rfl
theorem bs22_3 (x0 : Int) (x1 : Int) (x2 : Int) (w : World) : (Instr.buildSlice 22 3 #[(0, .int .i64 x0), (1, .int .i64 x1), (2, .int .i64 x2)]).run Try.prog w = .ok (.slice (some ⟨w.heap.size, 0, none⟩) 3 3) (w.alloc (.cells (List.toArray ((EI .i64).encs [x0, x1, x2])) 2)) := by kernel_rfl
theorem bs22_9 (x0 : Int) (x1 : Int) (x2 : Int) (x3 : Int) (x4 : Int) (x5 : Int) (x6 : Int) (x7 : Int) (x8 : Int) (w : World) : (Instr.buildSlice 22 9 #[(0, .int .i64 x0), (1, .int .i64 x1), (2, .int .i64 x2), (3, .int .i64 x3), (4, .int .i64 x4), (5, .int .i64 x5), (6, .int .i64 x6), (7, .int .i64 x7), (8, .int .i64 x8)]).run Try.prog w = .ok (.slice (some ⟨w.heap.size, 0, none⟩) 9 9) (w.alloc (.cells (List.toArray ((EI .i64).encs [x0, x1, x2, x3, x4, x5, x6, x7, x8])) 2)) := by kernel_rfl
theorem sc121 : ScaT Try.prog 121 := ⟨⟨_, Try.underlying121, rfl⟩, by kernel_rfl⟩
theorem bl175_0sl_1int (x0 : Value) (x1 : Int) (hx0 : IsSl x0) (w : World) : (Instr.build 175 #[(0, x0), (1, .int .i64 x1)]).run Try.prog w = .ok (.agg #[x0, .int .i64 x1, .slice none 0 0]) w := by obtain ⟨_, _, _, rfl⟩ := hx0; kernel_rfl
theorem bs22_2 (x0 : Int) (x1 : Int) (w : World) : (Instr.buildSlice 22 2 #[(0, .int .i64 x0), (1, .int .i64 x1)]).run Try.prog w = .ok (.slice (some ⟨w.heap.size, 0, none⟩) 2 2) (w.alloc (.cells (List.toArray ((EI .i64).encs [x0, x1])) 2)) := by kernel_rfl
theorem bs59_0  (w : World) : (Instr.buildSlice 59 0 #[]).run Try.prog w = .ok (.slice (some ⟨w.heap.size, 0, none⟩) 0 0) (w.alloc (.cells (List.toArray ((EA .u8).encs [])) 49)) := by kernel_rfl
theorem bs59_1 (x0 : A8) (w : World) : (Instr.buildSlice 59 1 #[(0, .agg (List.toArray (A8.enc .u8 x0)))]).run Try.prog w = .ok (.slice (some ⟨w.heap.size, 0, none⟩) 1 1) (w.alloc (.cells (List.toArray ((EA .u8).encs [x0])) 49)) := by kernel_rfl
theorem el49 : ElemT Try.prog 49 (.agg (List.toArray (A8.enc .u8 A8.zero))) 8 8 := by unfold ElemT; kernel_rfl
theorem eg49 : Try.prog.eqGuardType Try.prog.depth 49 = false := by kernel_rfl
theorem kt49 : KeyT Try.prog 49 (kvA .u8) := keyA8 Try.underlying49 Try.underlying5 sc5
def f_laws_big (a0 : List Int) (K : Bool → Prop) : Prop :=
 K (decide ((a0.length : Int) > 4096))
theorem c_laws_big (a0 : List Int) {u0_0 : Value} {fp0 : List Nat} {K : Bool → Prop} (h : f_laws_big a0 K) (w0 : World) (q0 : ((EI .u8).ty.sl).rep a0 [u0_0] fp0 w0) :
  Calls Try.prog 24 #[u0_0] w0 fun e w' => ∃ (r0 : Bool), 
   e = .returned (.bool r0) ∧ K r0 ∧ Bel w0 w' := by
 unfold f_laws_big at h
 refine calls_of (args := [u0_0]) Try.func24 rfl 6 Try.ntmps24 (Nat.le_of_ble_eq_true rfl) ?_
 have hC := Ctx.start (X := Nox) w0 [Ty.item ((EI .u8).ty.sl) a0 [u0_0] fp0] (by simp only [List.mem_cons, List.not_mem_nil, or_false, forall_eq_or_imp, forall_eq]; exact q0)
 refine sr ?_
 refine s_as (v := .bool false) rfl ?_
 refine dn ?_
 refine sr ?_
 refine s_mv (v := u0_0) rfl ?_
 obtain ⟨Ad2, c3, hv4⟩ := sl_len (hC.getP 0 rfl)
 refine s_len Try.underlying46 (tr rfl hv4) ?_
 refine s_gtr rfl rfl ?_
 refine s_as (v := .bool (decide ((a0.length : Int) > 4096))) rfl ?_
 refine dn ?_
 refine wp_ret ?_
 refine ret1 (fn := Try.f24) rfl ?_ ⟨decide ((a0.length : Int) > 4096), rfl, h, hC.below⟩ (.inl rfl)
 exact res_tmp rfl
def f_spec_l01Next (a0 : List Int × Int × Int) (a1 : Int) (K : Int → (Int × Int) → Prop) : Prop :=
 (if a1 < 1 then K 0 (a0.2.1, a0.2.2) else (if a0.2.1 < (a0.1.length : Int) then ((0 ≤ a0.2.1 ∧ a0.2.1 < (a0.1.length : Int)) ∧ (a1 ≠ 0 ∧ K (Int.tmod (IntKind.i64.wrap ((IntKind.i64.wrap (bAnd .u64 (bShr (IntKind.u64.wrap ((IntKind.u64.wrap (a0.2.2 * 6364136223846793005)) + 1442695040888963407)) 33) 16777215)) + (IntKind.i64.wrap (a0.1.getD a0.2.1.toNat default)))) a1) (IntKind.i64.wrap (a0.2.1 + 1), IntKind.u64.wrap ((IntKind.u64.wrap (a0.2.2 * 6364136223846793005)) + 1442695040888963407)))) else (a1 ≠ 0 ∧ K (Int.tmod (IntKind.i64.wrap (bAnd .u64 (bShr (IntKind.u64.wrap ((IntKind.u64.wrap (a0.2.2 * 6364136223846793005)) + 1442695040888963407)) 33) 16777215)) a1) (a0.2.1, IntKind.u64.wrap ((IntKind.u64.wrap (a0.2.2 * 6364136223846793005)) + 1442695040888963407)))))
theorem c_spec_l01Next (a0 : List Int × Int × Int) (a1 : Int) {b0 : Nat} {u0_0 : Value} {fp0 : List Nat} {K : Int → (Int × Int) → Prop} (h : f_spec_l01Next a0 a1 K) (w0 : World) (q0 : (Ty.item ((EI .u8).ty.sl) a0.1 [u0_0] fp0).holds w0) (qb0 : (blk b0 170 [u0_0, .int .i64 a0.2.1, .int .u64 a0.2.2]).holds w0) (dq0 : ∀ b, b ∈ fp0 → b ∉ [b0]) :
  Calls Try.prog 88 #[.pointer (some ⟨b0, 0, none⟩), .int .i64 a1] w0 fun e w' => ∃ (r0 : Int) (m0 : Int × Int), 
   e = .returned (.int .i64 r0) ∧ K r0 m0 ∧ (blk b0 170 [u0_0, .int .i64 m0.1, .int .u64 m0.2]).holds w' ∧ BelO ([b0]) w0 w' := by
 unfold f_spec_l01Next at h
 refine calls_of (args := [.pointer (some ⟨b0, 0, none⟩), .int .i64 a1]) Try.func88 rfl 58 Try.ntmps88 (Nat.le_of_ble_eq_true rfl) ?_
 have hC := Ctx.startL w0 [b0] [blk b0 170 [u0_0, .int .i64 a0.2.1, .int .u64 a0.2.2]] [Ty.item ((EI .u8).ty.sl) a0.1 [u0_0] fp0] (by simp only [List.mem_cons, List.not_mem_nil, or_false, forall_eq_or_imp, forall_eq]; exact qb0) (by simp only [List.mem_cons, List.not_mem_nil, or_false, forall_eq_or_imp, forall_eq]; exact q0) (fun it_ hi_ b_ hb_ => by obtain rfl := List.mem_singleton.1 hi_; exact hb_) (List.pairwise_singleton _ _) (fun it_ hi_ => by simp only [List.mem_cons, List.not_mem_nil, or_false] at hi_; obtain rfl := hi_; exact dq0)
 refine sr ?_
 refine s_as (v := .int .i64 0) rfl ?_
 refine dn ?_
 refine wp_seq ?_
 refine sr ?_
 refine s_mv (v := .int .i64 a1) rfl ?_
 refine s_lss rfl rfl ?_
 refine dn ?_
 refine cw_cond rfl (fun hb3 => ?_) (fun hb3 => ?_)
 ·replace h := ift h (ct hb3)
  refine sr ?_
  refine s_as (v := .int .i64 0) rfl ?_
  refine dn ?_
  refine wp_ret (then_ret ?_)
  refine ret1 (fn := Try.f88) rfl ?_ ⟨0, (a0.2.1, a0.2.2), rfl, h, (hC.getM 0 rfl), hC.belO⟩ (.inl rfl)
  exact res_tmp rfl
 ·replace h := iff_ h (cf hb3)
  refine wp_skip ?_
  refine then_norm ?_
  refine sr ?_
  refine s_mv (v := .pointer (some ⟨b0, 0, none⟩)) rfl ?_
  refine s_mv (v := .pointer (some ⟨b0, 0, none⟩)) rfl ?_
  refine s_nilchk rfl ?_
  refine s_faddrB 2 Try.underlying170 rfl sc168.size rfl rfl ?_
  refine s_loadS hC 0 (.int .u64 a0.2.2) rfl sc168 rfl rfl ?_
  refine s_mul rfl rfl ?_
  refine s_add rfl rfl ?_
  refine s_nilchk rfl ?_
  refine s_faddrB 2 Try.underlying170 rfl sc168.size rfl rfl ?_
  refine s_store (v := .int .u64 (IntKind.u64.wrap ((IntKind.u64.wrap (a0.2.2 * 6364136223846793005)) + 1442695040888963407))) hC 0 [.int .u64 (IntKind.u64.wrap ((IntKind.u64.wrap (a0.2.2 * 6364136223846793005)) + 1442695040888963407))] [u0_0, .int .i64 a0.2.1, .int .u64 (IntKind.u64.wrap ((IntKind.u64.wrap (a0.2.2 * 6364136223846793005)) + 1442695040888963407))] rfl sc168.size rfl rfl rfl rfl rfl (Nat.le_of_ble_eq_true rfl) rfl fun w4 hC => ?_
  refine dn ?_
  refine sr ?_
  refine s_mv (v := .pointer (some ⟨b0, 0, none⟩)) rfl ?_
  refine s_nilchk rfl ?_
  refine s_faddrB 2 Try.underlying170 rfl sc168.size rfl rfl ?_
  refine s_loadS hC 0 (.int .u64 (IntKind.u64.wrap ((IntKind.u64.wrap (a0.2.2 * 6364136223846793005)) + 1442695040888963407))) rfl sc168 rfl rfl ?_
  refine s_shr rfl rfl 33 (by decide) (by decide) ?_
  refine s_and rfl rfl ?_
  refine s_conv Try.underlying168 Try.underlying2 rfl ?_
  refine s_as (v := .int .i64 (IntKind.i64.wrap (bAnd .u64 (bShr (IntKind.u64.wrap ((IntKind.u64.wrap (a0.2.2 * 6364136223846793005)) + 1442695040888963407)) 33) 16777215))) rfl ?_
  refine dn ?_
  refine wp_seq ?_
  refine wp_seq ?_
  refine cw_draw 9 mixed [0, 1, 3, 7, 0, 16, 48, 112, 240, 511] [3, 7, 8] [0, 1, 2, 4, 5, 6] (by kernel_rfl) (by kernel_rfl) (by kernel_rfl) (fun hM6 hM7 w5 hB_ => ?_)
  replace hC := hC.grow hB_
  refine aF 0 (.pointer (some ⟨b0, 0, none⟩)) rfl rfl (hM7 0 rfl) (rfl) (fun _ => by exact r_mv (v := .pointer (some ⟨b0, 0, none⟩)) rfl) (dbits 10 1) ?_
  refine aF 1 (.pointer (some ⟨b0, 0, none⟩)) rfl rfl (hM7 1 rfl) (rfl) (fun _ => by exact r_nilchk rfl) (dbits 10 3) ?_
  refine aF 2 (.pointer (some ⟨b0, 1, none⟩)) rfl rfl (hM7 2 rfl) (rfl) (fun _ => by exact r_faddrB 1 Try.underlying170 rfl sc3.size rfl rfl) (dbits 10 7) ?_
  refine aL 3 (.int .i64 a0.2.1) rfl rfl (hM6 3 rfl) (rfl) (fun _ hB_ => by exact r_loadS (hC.grow hB_) 0 (.int .i64 a0.2.1) rfl sc3 rfl rfl) (dbits 10 15) ?_
  refine aF 4 (.pointer (some ⟨b0, 0, none⟩)) rfl rfl (hM7 4 rfl) (rfl) (fun _ => by exact r_mv (v := .pointer (some ⟨b0, 0, none⟩)) rfl) (dbits 10 31) ?_
  refine aF 5 (.pointer (some ⟨b0, 0, none⟩)) rfl rfl (hM7 5 rfl) (rfl) (fun _ => by exact r_nilchk rfl) (dbits 10 63) ?_
  refine aF 6 (.pointer (some ⟨b0, 0, none⟩)) rfl rfl (hM7 6 rfl) (rfl) (fun _ => by exact r_faddrB 0 Try.underlying170 rfl sc46.size rfl rfl) (dbits 10 127) ?_
  refine aL 7 (u0_0) rfl rfl (hM6 7 rfl) (rfl) (fun _ hB_ => by exact r_loadS (hC.grow hB_) 0 (u0_0) rfl sc46 rfl rfl) (dbits 10 255) ?_
  obtain ⟨Ad8, c9, hv10⟩ := sl_len (hC.getP 0 rfl)
  refine aL 8 (.int .i64 (a0.1.length : Int)) rfl rfl (hM6 8 rfl) (rfl) (fun _ hB_ => by exact r_len Try.underlying46 (by exact tr rfl hv10)) (dbits 10 511) ?_
  refine ae_tail 9 (by decide) (by decide) (by kernel_rfl) (by kernel_rfl) rfl ?_
  refine s_lss rfl rfl ?_
  refine done ?_
  refine qn_norm ?_
  refine then_norm ?_
  refine cw_cond rfl (fun hb11 => ?_) (fun hb11 => ?_)
  ·replace h := ift h (ct hb11)
   refine wp_seq ?_
   refine cw_draw 12 mixed [0, 0, 2, 6, 14, 0, 32, 96, 224, 510, 1022, 2046, 4095, 8191] [4, 8, 9, 10] [0, 1, 2, 3, 5, 6, 7, 11] (by kernel_rfl) (by kernel_rfl) (by kernel_rfl) (fun hM13 hM14 w12 hB_ => ?_)
   replace hC := hC.grow hB_
   refine aF 0 (.int .i64 (IntKind.i64.wrap (bAnd .u64 (bShr (IntKind.u64.wrap ((IntKind.u64.wrap (a0.2.2 * 6364136223846793005)) + 1442695040888963407)) 33) 16777215))) rfl rfl (hM14 0 rfl) (rfl) (fun _ => by exact r_mv (v := .int .i64 (IntKind.i64.wrap (bAnd .u64 (bShr (IntKind.u64.wrap ((IntKind.u64.wrap (a0.2.2 * 6364136223846793005)) + 1442695040888963407)) 33) 16777215))) rfl) (dbits 14 1) ?_
   refine aF 1 (.pointer (some ⟨b0, 0, none⟩)) rfl rfl (hM14 1 rfl) (rfl) (fun _ => by exact r_mv (v := .pointer (some ⟨b0, 0, none⟩)) rfl) (dbits 14 3) ?_
   refine aF 2 (.pointer (some ⟨b0, 0, none⟩)) rfl rfl (hM14 2 rfl) (rfl) (fun _ => by exact r_nilchk rfl) (dbits 14 7) ?_
   refine aF 3 (.pointer (some ⟨b0, 0, none⟩)) rfl rfl (hM14 3 rfl) (rfl) (fun _ => by exact r_faddrB 0 Try.underlying170 rfl sc46.size rfl rfl) (dbits 14 15) ?_
   refine aL 4 (u0_0) rfl rfl (hM13 4 rfl) (rfl) (fun _ hB_ => by exact r_loadS (hC.grow hB_) 0 (u0_0) rfl sc46 rfl rfl) (dbits 14 31) ?_
   refine aF 5 (.pointer (some ⟨b0, 0, none⟩)) rfl rfl (hM14 5 rfl) (rfl) (fun _ => by exact r_mv (v := .pointer (some ⟨b0, 0, none⟩)) rfl) (dbits 14 63) ?_
   refine aF 6 (.pointer (some ⟨b0, 0, none⟩)) rfl rfl (hM14 6 rfl) (rfl) (fun _ => by exact r_nilchk rfl) (dbits 14 127) ?_
   refine aF 7 (.pointer (some ⟨b0, 1, none⟩)) rfl rfl (hM14 7 rfl) (rfl) (fun _ => by exact r_faddrB 1 Try.underlying170 rfl sc3.size rfl rfl) (dbits 14 255) ?_
   refine aL 8 (.int .i64 a0.2.1) rfl rfl (hM13 8 rfl) (rfl) (fun _ hB_ => by exact r_loadS (hC.grow hB_) 0 (.int .i64 a0.2.1) rfl sc3 rfl rfl) (dbits 14 511) ?_
   obtain ⟨⟨h0_15, h1_16⟩, h⟩ := h
   obtain ⟨Ad17, c18, hv19⟩ := sl_form (hC.getP 0 rfl) a0.2.1.toNat (show a0.2.1.toNat < a0.1.length by omega)
   refine aL 9 (.pointer (some (Ad17.add (a0.2.1.toNat * 1)))) rfl rfl (hM13 9 rfl) (rfl) (fun _ hB_ => by exact r_iaddrS (len := a0.1.length) Try.underlying46 sc5.size (by exact tr rfl hv19) rfl h0_15 h1_16) (dbits 14 1023) ?_
   refine aL 10 (.int .u8 (a0.1.getD a0.2.1.toNat default)) rfl rfl (hM13 10 rfl) (rfl) (fun _ hB_ => by exact r_loadCS (.int .u8 (a0.1.getD a0.2.1.toNat default)) (sl_cellsE ((hC.grow hB_).getP 0 rfl) hv19 a0.2.1.toNat (show a0.2.1.toNat < a0.1.length by omega)) sc5 rfl) (dbits 14 2047) ?_
   refine aF 11 (.int .i64 (IntKind.i64.wrap (a0.1.getD a0.2.1.toNat default))) rfl rfl (hM14 11 rfl) (rfl) (fun _ => by exact r_conv Try.underlying5 Try.underlying2 rfl) (dbits 14 4095) ?_
   refine ae_tail 12 (by decide) (by decide) (by kernel_rfl) (by kernel_rfl) rfl ?_
   refine s_add rfl rfl ?_
   refine s_as (v := .int .i64 (IntKind.i64.wrap ((IntKind.i64.wrap (bAnd .u64 (bShr (IntKind.u64.wrap ((IntKind.u64.wrap (a0.2.2 * 6364136223846793005)) + 1442695040888963407)) 33) 16777215)) + (IntKind.i64.wrap (a0.1.getD a0.2.1.toNat default))))) rfl ?_
   refine done ?_
   refine qn_norm ?_
   refine then_norm ?_
   refine cw_region ?_
   refine s_mv (v := .pointer (some ⟨b0, 0, none⟩)) rfl ?_
   refine s_mv (v := .pointer (some ⟨b0, 0, none⟩)) rfl ?_
   refine s_nilchk rfl ?_
   refine s_faddrB 1 Try.underlying170 rfl sc3.size rfl rfl ?_
   refine s_loadS hC 0 (.int .i64 a0.2.1) rfl sc3 rfl rfl ?_
   refine s_add rfl rfl ?_
   refine s_nilchk rfl ?_
   refine s_faddrB 1 Try.underlying170 rfl sc3.size rfl rfl ?_
   refine s_store (v := .int .i64 (IntKind.i64.wrap (a0.2.1 + 1))) hC 0 [.int .i64 (IntKind.i64.wrap (a0.2.1 + 1))] [u0_0, .int .i64 (IntKind.i64.wrap (a0.2.1 + 1)), .int .u64 (IntKind.u64.wrap ((IntKind.u64.wrap (a0.2.2 * 6364136223846793005)) + 1442695040888963407))] rfl sc3.size rfl rfl rfl rfl rfl (Nat.le_of_ble_eq_true rfl) rfl fun w20 hC => ?_
   refine dn ?_
   refine sr ?_
   refine s_mv (v := .int .i64 (IntKind.i64.wrap ((IntKind.i64.wrap (bAnd .u64 (bShr (IntKind.u64.wrap ((IntKind.u64.wrap (a0.2.2 * 6364136223846793005)) + 1442695040888963407)) 33) 16777215)) + (IntKind.i64.wrap (a0.1.getD a0.2.1.toNat default))))) rfl ?_
   refine s_mv (v := .int .i64 a1) rfl ?_
   obtain ⟨h0_21, h⟩ := h
   refine s_rem rfl rfl h0_21 ?_
   refine s_as (v := .int .i64 (Int.tmod (IntKind.i64.wrap ((IntKind.i64.wrap (bAnd .u64 (bShr (IntKind.u64.wrap ((IntKind.u64.wrap (a0.2.2 * 6364136223846793005)) + 1442695040888963407)) 33) 16777215)) + (IntKind.i64.wrap (a0.1.getD a0.2.1.toNat default)))) a1)) rfl ?_
   refine dn ?_
   refine wp_ret ?_
   refine ret1 (fn := Try.f88) rfl ?_ ⟨Int.tmod (IntKind.i64.wrap ((IntKind.i64.wrap (bAnd .u64 (bShr (IntKind.u64.wrap ((IntKind.u64.wrap (a0.2.2 * 6364136223846793005)) + 1442695040888963407)) 33) 16777215)) + (IntKind.i64.wrap (a0.1.getD a0.2.1.toNat default)))) a1, (IntKind.i64.wrap (a0.2.1 + 1), IntKind.u64.wrap ((IntKind.u64.wrap (a0.2.2 * 6364136223846793005)) + 1442695040888963407)), rfl, h, (hC.getM 0 rfl), hC.belO⟩ (.inl rfl)
   exact res_tmp rfl
  ·replace h := iff_ h (cf hb11)
   refine wp_skip ?_
   refine then_norm ?_
   refine sr ?_
   refine s_mv (v := .int .i64 (IntKind.i64.wrap (bAnd .u64 (bShr (IntKind.u64.wrap ((IntKind.u64.wrap (a0.2.2 * 6364136223846793005)) + 1442695040888963407)) 33) 16777215))) rfl ?_
   refine s_mv (v := .int .i64 a1) rfl ?_
   obtain ⟨h0_22, h⟩ := h
   refine s_rem rfl rfl h0_22 ?_
   refine s_as (v := .int .i64 (Int.tmod (IntKind.i64.wrap (bAnd .u64 (bShr (IntKind.u64.wrap ((IntKind.u64.wrap (a0.2.2 * 6364136223846793005)) + 1442695040888963407)) 33) 16777215)) a1)) rfl ?_
   refine dn ?_
   refine wp_ret ?_
   refine ret1 (fn := Try.f88) rfl ?_ ⟨Int.tmod (IntKind.i64.wrap (bAnd .u64 (bShr (IntKind.u64.wrap ((IntKind.u64.wrap (a0.2.2 * 6364136223846793005)) + 1442695040888963407)) 33) 16777215)) a1, (a0.2.1, IntKind.u64.wrap ((IntKind.u64.wrap (a0.2.2 * 6364136223846793005)) + 1442695040888963407)), rfl, h, (hC.getM 0 rfl), hC.belO⟩ (.inl rfl)
   exact res_tmp rfl
def f_spec_l01Pick (a0 : List Int × Int × Int) (a1 : List Int) (K : Int → (Int × Int) → Prop) : Prop :=
 f_spec_l01Next (a0.1, a0.2.1, a0.2.2) (a1.length : Int) (fun r10 m12 => ((0 ≤ r10 ∧ r10 < (a1.length : Int)) ∧ K (a1.getD r10.toNat default) (m12.1, m12.2)))
theorem c_spec_l01Pick (a0 : List Int × Int × Int) (a1 : List Int) {b0 : Nat} {u0_0 : Value} {fp0 : List Nat} {u1_0 : Value} {fp1 : List Nat} {K : Int → (Int × Int) → Prop} (h : f_spec_l01Pick a0 a1 K) (w0 : World) (q1 : ((EI .i64).ty.sl).rep a1 [u1_0] fp1 w0) (q0 : (Ty.item ((EI .u8).ty.sl) a0.1 [u0_0] fp0).holds w0) (qb0 : (blk b0 170 [u0_0, .int .i64 a0.2.1, .int .u64 a0.2.2]).holds w0) (dq0 : ∀ b, b ∈ fp0 → b ∉ [b0]) (do1 : ∀ b, b ∈ fp1 → b ∉ [b0]) :
  Calls Try.prog 89 #[.pointer (some ⟨b0, 0, none⟩), u1_0] w0 fun e w' => ∃ (r0 : Int) (m0 : Int × Int), 
   e = .returned (.int .i64 r0) ∧ K r0 m0 ∧ (blk b0 170 [u0_0, .int .i64 m0.1, .int .u64 m0.2]).holds w' ∧ BelO ([b0]) w0 w' := by
 unfold f_spec_l01Pick at h
 refine calls_of (args := [.pointer (some ⟨b0, 0, none⟩), u1_0]) Try.func89 rfl 12 Try.ntmps89 (Nat.le_of_ble_eq_true rfl) ?_
 have hC := Ctx.startL w0 [b0] [blk b0 170 [u0_0, .int .i64 a0.2.1, .int .u64 a0.2.2]] [Ty.item ((EI .u8).ty.sl) a0.1 [u0_0] fp0, Ty.item ((EI .i64).ty.sl) a1 [u1_0] fp1] (by simp only [List.mem_cons, List.not_mem_nil, or_false, forall_eq_or_imp, forall_eq]; exact qb0) (by simp only [List.mem_cons, List.not_mem_nil, or_false, forall_eq_or_imp, forall_eq]; exact ⟨q0, q1⟩) (fun it_ hi_ b_ hb_ => by obtain rfl := List.mem_singleton.1 hi_; exact hb_) (List.pairwise_singleton _ _) (fun it_ hi_ => by simp only [List.mem_cons, List.not_mem_nil, or_false] at hi_; rcases hi_ with rfl | rfl <;> first | exact dq0 | exact do1)
 refine sr ?_
 refine s_as (v := .int .i64 0) rfl ?_
 refine dn ?_
 refine sr ?_
 refine s_mv (v := u1_0) rfl ?_
 refine s_mv (v := .pointer (some ⟨b0, 0, none⟩)) rfl ?_
 refine s_mv (v := u1_0) rfl ?_
 obtain ⟨Ad4, c5, hv6⟩ := sl_len (hC.getP 1 rfl)
 refine s_len Try.underlying22 (tr rfl hv6) ?_
 refine s_call [.pointer (some ⟨b0, 0, none⟩), .int .i64 (a1.length : Int)] _ Try.func88 rfl rfl rfl (c_spec_l01Next (a0.1, a0.2.1, a0.2.2) (a1.length : Int) h _ (hC.getP 0 rfl) (hC.getM 0 rfl) (fun b_ hb_ hb2_ => hC.pd _ (List.mem_of_getElem? (i := 0) rfl) b_ hb_ _ (List.mem_of_getElem? (i := 0) rfl) hb2_)) (fun ret7 w9 hR8 => ?_)
 obtain ⟨r10, m12, rfl, h, hm13, hB11⟩ := hR8
 refine ⟨_, rfl, ?_⟩
 replace hC := hC.turnF 0 rfl hB11 hm13
 obtain ⟨⟨h0_14, h1_15⟩, h⟩ := h
 obtain ⟨Ad16, c17, hv18⟩ := sl_form (hC.getP 1 rfl) r10.toNat (show r10.toNat < a1.length by omega)
 refine s_iaddrS (len := a1.length) Try.underlying22 sc2.size (tr rfl hv18) rfl h0_14 h1_15 ?_
 refine s_loadCS (.int .i64 (a1.getD r10.toNat default)) (sl_cellsE (hC.getP 1 rfl) hv18 r10.toNat (show r10.toNat < a1.length by omega)) sc2 rfl ?_
 refine s_as (v := .int .i64 (a1.getD r10.toNat default)) rfl ?_
 refine dn ?_
 refine wp_ret ?_
 refine ret1 (fn := Try.f89) rfl ?_ ⟨a1.getD r10.toNat default, (m12.1, m12.2), rfl, h, (hC.getM 0 rfl), hC.belO⟩ (.inl rfl)
 exact res_tmp rfl
def f_spec_l01DrawMono (a0 : List Int × Int × Int) (a1 : List Int) (K : A8 → (Int × Int) → Prop) : Prop :=
 whileP (fun (s243 : Int × Int × A8 × Int) next244 => (if s243.2.2.2 < (a1.length : Int) then (if s243.2.2.2 < 8 then ((0 ≤ s243.2.2.2 ∧ s243.2.2.2 < (a1.length : Int)) ∧ (if Int.tmod (a1.getD s243.2.2.2.toNat default) 2 ≠ 0 then f_spec_l01Next (a0.1, s243.1, s243.2.1) 2 (fun r262 m264 => ((0 ≤ s243.2.2.2 ∧ s243.2.2.2 < 8) ∧ next244 (m264.1, m264.2, s243.2.2.1.set s243.2.2.2.toNat (IntKind.u8.wrap r262), IntKind.i64.wrap (s243.2.2.2 + 1)))) else f_spec_l01Next (a0.1, s243.1, s243.2.1) 5 (fun r272 m274 => f_spec_l01Pick (a0.1, m274.1, m274.2) [0, 0, 1, 2, r272] (fun r282 m284 => ((0 ≤ s243.2.2.2 ∧ s243.2.2.2 < 8) ∧ next244 (m284.1, m284.2, s243.2.2.1.set s243.2.2.2.toNat (IntKind.u8.wrap r282), IntKind.i64.wrap (s243.2.2.2 + 1))))))) else (if (a1.length : Int) > 0 then f_spec_l01Next (a0.1, s243.1, s243.2.1) 24 (fun r296 m298 => (if r296 = 0 then f_spec_l01Next (a0.1, m298.1, m298.2) (if 8 < (a1.length : Int) then 8 else (a1.length : Int)) (fun r307 m309 => f_spec_l01Pick (a0.1, m309.1, m309.2) [11, 20, 21, 2] (fun r317 m319 => ((0 ≤ r307 ∧ r307 < 8) ∧ K (s243.2.2.1.set r307.toNat (IntKind.u8.wrap r317)) (m319.1, m319.2)))) else K s243.2.2.1 (m298.1, m298.2))) else K s243.2.2.1 (s243.1, s243.2.1))) else (if (a1.length : Int) > 0 then f_spec_l01Next (a0.1, s243.1, s243.2.1) 24 (fun r334 m336 => (if r334 = 0 then f_spec_l01Next (a0.1, m336.1, m336.2) (if 8 < (a1.length : Int) then 8 else (a1.length : Int)) (fun r345 m347 => f_spec_l01Pick (a0.1, m347.1, m347.2) [11, 20, 21, 2] (fun r355 m357 => ((0 ≤ r345 ∧ r345 < 8) ∧ K (s243.2.2.1.set r345.toNat (IntKind.u8.wrap r355)) (m357.1, m357.2)))) else K s243.2.2.1 (m336.1, m336.2))) else K s243.2.2.1 (s243.1, s243.2.1)))) (a0.2.1, a0.2.2, A8.zero, 0)
theorem c_spec_l01DrawMono (a0 : List Int × Int × Int) (a1 : List Int) {b0 : Nat} {u0_0 : Value} {fp0 : List Nat} {u1_0 : Value} {fp1 : List Nat} {K : A8 → (Int × Int) → Prop} (h : f_spec_l01DrawMono a0 a1 K) (w0 : World) (q1 : ((EI .i64).ty.sl).rep a1 [u1_0] fp1 w0) (q0 : (Ty.item ((EI .u8).ty.sl) a0.1 [u0_0] fp0).holds w0) (qb0 : (blk b0 170 [u0_0, .int .i64 a0.2.1, .int .u64 a0.2.2]).holds w0) (dq0 : ∀ b, b ∈ fp0 → b ∉ [b0]) (do1 : ∀ b, b ∈ fp1 → b ∉ [b0]) :
  Calls Try.prog 78 #[.pointer (some ⟨b0, 0, none⟩), u1_0] w0 fun e w' => ∃ (r0 : A8) (m0 : Int × Int), 
   e = .returned (.agg (List.toArray (A8.enc .u8 r0))) ∧ K r0 m0 ∧ (blk b0 170 [u0_0, .int .i64 m0.1, .int .u64 m0.2]).holds w' ∧ BelO ([b0]) w0 w' := by
 unfold f_spec_l01DrawMono at h
 refine calls_of (args := [.pointer (some ⟨b0, 0, none⟩), u1_0]) Try.func78 rfl 57 Try.ntmps78 (Nat.le_of_ble_eq_true rfl) ?_
 have hC := Ctx.startL w0 [b0] [blk b0 170 [u0_0, .int .i64 a0.2.1, .int .u64 a0.2.2]] [Ty.item ((EI .u8).ty.sl) a0.1 [u0_0] fp0, Ty.item ((EI .i64).ty.sl) a1 [u1_0] fp1] (by simp only [List.mem_cons, List.not_mem_nil, or_false, forall_eq_or_imp, forall_eq]; exact qb0) (by simp only [List.mem_cons, List.not_mem_nil, or_false, forall_eq_or_imp, forall_eq]; exact ⟨q0, q1⟩) (fun it_ hi_ b_ hb_ => by obtain rfl := List.mem_singleton.1 hi_; exact hb_) (List.pairwise_singleton _ _) (fun it_ hi_ => by simp only [List.mem_cons, List.not_mem_nil, or_false] at hi_; rcases hi_ with rfl | rfl <;> first | exact dq0 | exact do1)
 refine sr ?_
 refine s_alloc hC (A8.enc .u8 A8.zero) z49 rfl fun b4 w6 hB_ hC => ?_
 refine dn ?_
 refine sr ?_
 refine s_build [] rfl (bl49   _) ?_
 refine s_alloc hC (A8.enc .u8 A8.zero) z49 rfl fun b7 w9 hB_ hC => ?_
 refine s_store (v := .agg (List.toArray (A8.enc .u8 A8.zero))) hC 0 (A8.enc .u8 A8.zero) (A8.enc .u8 A8.zero) rfl ag49.size rfl rfl rfl rfl rfl (Nat.le_of_ble_eq_true rfl) rfl fun w10 hC => ?_
 refine dn ?_
 refine wp_seq ?_
 refine sr ?_
 refine s_as (v := .int .i64 0) rfl ?_
 refine dn ?_
 refine wp_block ?_
 refine loopW (S := Int × Int × A8 × Int) _ (fun s243 e_ w_ => Slots e_ [(0, .pointer (some ⟨b0, 0, none⟩)), (1, u1_0), (4, .pointer (some ⟨b4, 0, none⟩)), (5, .pointer (some ⟨b7, 0, none⟩)), (6, .int .i64 s243.2.2.2)] ∧ Ctx (fun c_ => c_ ∈ [b0]) w0 w_ [blk b7 49 (A8.enc .u8 s243.2.2.1), blk b4 49 (A8.enc .u8 A8.zero), blk b0 170 [u0_0, .int .i64 s243.1, .int .u64 s243.2.1]] [Ty.item ((EI .u8).ty.sl) a0.1 [u0_0] fp0, Ty.item ((EI .i64).ty.sl) a1 [u1_0] fp1]) ?_ (s0 := (a0.2.1, a0.2.2, A8.zero, 0)) ?_ h
 ·clear hC h
  rintro s243 e_ w247 next244 K245 ⟨hS_, hC⟩ h hK246
  refine wp_seq ?_
  refine sr ?_
  refine s_mv (v := .int .i64 s243.2.2.2) (sx hS_ 4 rfl) ?_
  refine s_mv (v := u1_0) (sx hS_ 1 rfl) ?_
  obtain ⟨Ad248, c249, hv250⟩ := sl_len (hC.getP 1 rfl)
  refine s_len Try.underlying22 (tr rfl hv250) ?_
  refine s_lss rfl rfl ?_
  refine s_mv (v := .bool (decide (s243.2.2.2 < (a1.length : Int)))) rfl ?_
  refine bsplit (decide (s243.2.2.2 < (a1.length : Int))) (fun hb251 => ?_) (fun hb251 => ?_)
  ·replace h := ift h (ct hb251)
   refine guardOn 4 12 rfl rfl hb251 ?_
   refine s_mv (v := .int .i64 s243.2.2.2) (sx hS_ 4 rfl) ?_
   refine guardOn 4 12 rfl rfl hb251 ?_
   refine s_lss rfl rfl ?_
   refine s_pick (v := .bool (decide (s243.2.2.2 < 8))) (b := true) (tr rfl (congrArg _ hb251)) rfl ?_
   refine dn ?_
   refine cw_cond rfl (fun hb252 => ?_) (fun hb252 => ?_)
   ·replace h := ift h (ct hb252)
    refine wp_skip ?_
    refine then_norm ?_
    refine wp_seq ?_
    refine wp_block ?_
    refine wp_block ?_
    refine sr ?_
    refine s_mv (v := u1_0) (sx hS_ 1 rfl) ?_
    refine s_mv (v := .int .i64 s243.2.2.2) (sx hS_ 4 rfl) ?_
    obtain ⟨⟨h0_253, h1_254⟩, h⟩ := h
    obtain ⟨Ad255, c256, hv257⟩ := sl_form (hC.getP 1 rfl) s243.2.2.2.toNat (show s243.2.2.2.toNat < a1.length by omega)
    refine s_iaddrS (len := a1.length) Try.underlying22 sc2.size (tr rfl hv257) rfl h0_253 h1_254 ?_
    refine s_loadCS (.int .i64 (a1.getD s243.2.2.2.toNat default)) (sl_cellsE (hC.getP 1 rfl) hv257 s243.2.2.2.toNat (show s243.2.2.2.toNat < a1.length by omega)) sc2 rfl ?_
    refine s_rem rfl rfl (by decide) ?_
    refine s_neq rfl rfl ?_
    refine s_as (v := .bool (decide (Int.tmod (a1.getD s243.2.2.2.toNat default) 2 ≠ 0))) rfl ?_
    refine dn ?_
    refine cw_cond rfl (fun hb258 => ?_) (fun hb258 => ?_)
    ·replace h := ift h (ct hb258)
     refine cw_region ?_
     refine s_mv (v := .int .i64 s243.2.2.2) (sx hS_ 4 rfl) ?_
     refine s_mv (v := .pointer (some ⟨b0, 0, none⟩)) (sx hS_ 0 rfl) ?_
     refine s_call [.pointer (some ⟨b0, 0, none⟩), .int .i64 2] _ Try.func88 rfl rfl rfl (c_spec_l01Next (a0.1, s243.1, s243.2.1) 2 h _ (hC.getP 0 rfl) (hC.getM 2 rfl) (fun b_ hb_ hb2_ => hC.pd _ (List.mem_of_getElem? (i := 0) rfl) b_ hb_ _ (List.mem_of_getElem? (i := 2) rfl) hb2_)) (fun ret259 w261 hR260 => ?_)
     obtain ⟨r262, m264, rfl, h, hm265, hB263⟩ := hR260
     refine ⟨_, rfl, ?_⟩
     replace hC := hC.turnF 2 rfl hB263 hm265
     refine s_conv Try.underlying2 Try.underlying5 rfl ?_
     obtain ⟨⟨h0_266, h1_267⟩, h⟩ := h
     refine s_iaddrB s243.2.2.2.toNat Try.underlying49 sc5.size (sx hS_ 3 rfl) rfl h0_266 h1_267 (by omega) ?_
     refine s_store (v := .int .u8 (IntKind.u8.wrap r262)) hC 0 [.int .u8 (IntKind.u8.wrap r262)] (A8.enc .u8 (s243.2.2.1.set s243.2.2.2.toNat (IntKind.u8.wrap r262))) rfl sc5.size rfl rfl rfl rfl rfl (show s243.2.2.2.toNat < 8 by omega) (A8.enc_set _ _ _ (show s243.2.2.2.toNat < 8 by omega)) fun w268 hC => ?_
     refine done ?_
     refine blk_norm ?_
     refine blk_norm ?_
     refine then_norm ?_
     refine cw_region ?_
     refine s_mv (v := .int .i64 s243.2.2.2) (sx hS_ 4 rfl) ?_
     refine s_add rfl rfl ?_
     refine s_as (v := .int .i64 (IntKind.i64.wrap (s243.2.2.2 + 1))) rfl ?_
     refine done ?_
     exact hK246 (m264.1, m264.2, s243.2.2.1.set s243.2.2.2.toNat (IntKind.u8.wrap r262), IntKind.i64.wrap (s243.2.2.2 + 1)) _ _ ⟨(sk (sx hS_ 0 rfl) (sk (sx hS_ 1 rfl) (sk (sx hS_ 2 rfl) (sk (sx hS_ 3 rfl) (sk rfl sn))))), hC⟩ h
    ·replace h := iff_ h (cf hb258)
     refine cw_region ?_
     refine s_mv (v := .int .i64 s243.2.2.2) (sx hS_ 4 rfl) ?_
     refine s_mv (v := .pointer (some ⟨b0, 0, none⟩)) (sx hS_ 0 rfl) ?_
     refine s_mv (v := .pointer (some ⟨b0, 0, none⟩)) (sx hS_ 0 rfl) ?_
     refine s_call [.pointer (some ⟨b0, 0, none⟩), .int .i64 5] _ Try.func88 rfl rfl rfl (c_spec_l01Next (a0.1, s243.1, s243.2.1) 5 h _ (hC.getP 0 rfl) (hC.getM 2 rfl) (fun b_ hb_ hb2_ => hC.pd _ (List.mem_of_getElem? (i := 0) rfl) b_ hb_ _ (List.mem_of_getElem? (i := 2) rfl) hb2_)) (fun ret269 w271 hR270 => ?_)
     obtain ⟨r272, m274, rfl, h, hm275, hB273⟩ := hR270
     refine ⟨_, rfl, ?_⟩
     replace hC := hC.turnF 2 rfl hB273 hm275
     refine s_bslice (sz := 1) hC [(0, .int .i64 0), (1, .int .i64 0), (2, .int .i64 1), (3, .int .i64 2), (4, .int .i64 r272)] ((EI .i64).encs [0, 0, 1, 2, r272]) rfl (fun _ => bs22_5 0 0 1 2 r272 _) rfl (by decide) fun b276 w277 hB_ hC => ?_
     refine s_call [.pointer (some ⟨b0, 0, none⟩), .slice (some ⟨b276, 0, none⟩) 5 5] _ Try.func89 rfl rfl rfl (c_spec_l01Pick (a0.1, m274.1, m274.2) [0, 0, 1, 2, r272] h _ (own_repE (hC.getM 0 rfl)) (hC.getP 0 rfl) (hC.getM 3 rfl) (fun b_ hb_ hb2_ => hC.pd _ (List.mem_of_getElem? (i := 0) rfl) b_ hb_ _ (List.mem_of_getElem? (i := 3) rfl) hb2_) (fun b_ hb_ hb2_ => hC.mm 0 3 rfl rfl (by decide) b_ hb_ hb2_)) (fun ret279 w281 hR280 => ?_)
     obtain ⟨r282, m284, rfl, h, hm285, hB283⟩ := hR280
     refine ⟨_, rfl, ?_⟩
     replace hC := hC.turnF 3 rfl hB283 hm285
     refine s_conv Try.underlying2 Try.underlying5 rfl ?_
     obtain ⟨⟨h0_286, h1_287⟩, h⟩ := h
     refine s_iaddrB s243.2.2.2.toNat Try.underlying49 sc5.size (sx hS_ 3 rfl) rfl h0_286 h1_287 (by omega) ?_
     refine s_store (v := .int .u8 (IntKind.u8.wrap r282)) hC 1 [.int .u8 (IntKind.u8.wrap r282)] (A8.enc .u8 (s243.2.2.1.set s243.2.2.2.toNat (IntKind.u8.wrap r282))) rfl sc5.size rfl rfl rfl rfl rfl (show s243.2.2.2.toNat < 8 by omega) (A8.enc_set _ _ _ (show s243.2.2.2.toNat < 8 by omega)) fun w288 hC => ?_
     refine done ?_
     refine blk_norm ?_
     refine blk_norm ?_
     refine then_norm ?_
     refine cw_region ?_
     refine s_mv (v := .int .i64 s243.2.2.2) (sx hS_ 4 rfl) ?_
     refine s_add rfl rfl ?_
     refine s_as (v := .int .i64 (IntKind.i64.wrap (s243.2.2.2 + 1))) rfl ?_
     refine done ?_
     replace hC := hC.sM [1, 2, 3] (M' := [blk b7 49 (A8.enc .u8 (s243.2.2.1.set s243.2.2.2.toNat (IntKind.u8.wrap r282))), blk b4 49 (A8.enc .u8 A8.zero), blk b0 170 [u0_0, .int .i64 m284.1, .int .u64 m284.2]]) (by decide) rfl
     exact hK246 (m284.1, m284.2, s243.2.2.1.set s243.2.2.2.toNat (IntKind.u8.wrap r282), IntKind.i64.wrap (s243.2.2.2 + 1)) _ _ ⟨(sk (sx hS_ 0 rfl) (sk (sx hS_ 1 rfl) (sk (sx hS_ 2 rfl) (sk (sx hS_ 3 rfl) (sk rfl sn))))), hC⟩ h
   ·replace h := iff_ h (cf hb252)
    refine wp_exit (then_exit (then_exit (exit_in ?_)))
    refine then_norm ?_
    refine wp_seq ?_
    refine sr ?_
    refine s_mv (v := u1_0) (sx hS_ 1 rfl) ?_
    obtain ⟨Ad289, c290, hv291⟩ := sl_len (hC.getP 1 rfl)
    refine s_len Try.underlying22 (tr rfl hv291) ?_
    refine s_gtr rfl rfl ?_
    refine s_mv (v := .bool (decide ((a1.length : Int) > 0))) rfl ?_
    refine bsplit (decide ((a1.length : Int) > 0)) (fun hb292 => ?_) (fun hb292 => ?_)
    ·replace h := ift h (ct hb292)
     refine guardOn 3 41 rfl rfl hb292 ?_
     refine s_mv (v := .pointer (some ⟨b0, 0, none⟩)) (sx hS_ 0 rfl) ?_
     refine guardOn 3 41 rfl rfl hb292 ?_
     refine s_call [.pointer (some ⟨b0, 0, none⟩), .int .i64 24] _ Try.func88 rfl rfl rfl (c_spec_l01Next (a0.1, s243.1, s243.2.1) 24 h _ (hC.getP 0 rfl) (hC.getM 2 rfl) (fun b_ hb_ hb2_ => hC.pd _ (List.mem_of_getElem? (i := 0) rfl) b_ hb_ _ (List.mem_of_getElem? (i := 2) rfl) hb2_)) (fun ret293 w295 hR294 => ?_)
     obtain ⟨r296, m298, rfl, h, hm299, hB297⟩ := hR294
     refine ⟨_, rfl, ?_⟩
     replace hC := hC.turnF 2 rfl hB297 hm299
     refine guardOn 3 41 rfl rfl hb292 ?_
     refine s_eql rfl rfl ?_
     refine s_pick (v := .bool (decide (r296 = 0))) (b := true) (tr rfl (congrArg _ hb292)) rfl ?_
     refine dn ?_
     refine cw_cond rfl (fun hb300 => ?_) (fun hb300 => ?_)
     ·replace h := ift h (ct hb300)
      refine cw_region ?_
      refine s_mv (v := .pointer (some ⟨b0, 0, none⟩)) (sx hS_ 0 rfl) ?_
      refine s_mv (v := u1_0) (sx hS_ 1 rfl) ?_
      obtain ⟨Ad301, c302, hv303⟩ := sl_len (hC.getP 1 rfl)
      refine s_len Try.underlying22 (tr rfl hv303) ?_
      refine s_min rfl rfl ?_
      refine s_call [.pointer (some ⟨b0, 0, none⟩), .int .i64 (if 8 < (a1.length : Int) then 8 else (a1.length : Int))] _ Try.func88 rfl rfl rfl (c_spec_l01Next (a0.1, m298.1, m298.2) (if 8 < (a1.length : Int) then 8 else (a1.length : Int)) h _ (hC.getP 0 rfl) (hC.getM 2 rfl) (fun b_ hb_ hb2_ => hC.pd _ (List.mem_of_getElem? (i := 0) rfl) b_ hb_ _ (List.mem_of_getElem? (i := 2) rfl) hb2_)) (fun ret304 w306 hR305 => ?_)
      obtain ⟨r307, m309, rfl, h, hm310, hB308⟩ := hR305
      refine ⟨_, rfl, ?_⟩
      replace hC := hC.turnF 2 rfl hB308 hm310
      refine s_mv (v := .pointer (some ⟨b0, 0, none⟩)) (sx hS_ 0 rfl) ?_
      refine s_bslice (sz := 1) hC [(0, .int .i64 11), (1, .int .i64 20), (2, .int .i64 21), (3, .int .i64 2)] ((EI .i64).encs [11, 20, 21, 2]) rfl (fun _ => bs22_4 11 20 21 2 _) rfl (by decide) fun b311 w312 hB_ hC => ?_
      refine s_call [.pointer (some ⟨b0, 0, none⟩), .slice (some ⟨b311, 0, none⟩) 4 4] _ Try.func89 rfl rfl rfl (c_spec_l01Pick (a0.1, m309.1, m309.2) [11, 20, 21, 2] h _ (own_repE (hC.getM 0 rfl)) (hC.getP 0 rfl) (hC.getM 3 rfl) (fun b_ hb_ hb2_ => hC.pd _ (List.mem_of_getElem? (i := 0) rfl) b_ hb_ _ (List.mem_of_getElem? (i := 3) rfl) hb2_) (fun b_ hb_ hb2_ => hC.mm 0 3 rfl rfl (by decide) b_ hb_ hb2_)) (fun ret314 w316 hR315 => ?_)
      obtain ⟨r317, m319, rfl, h, hm320, hB318⟩ := hR315
      refine ⟨_, rfl, ?_⟩
      replace hC := hC.turnF 3 rfl hB318 hm320
      refine s_conv Try.underlying2 Try.underlying5 rfl ?_
      obtain ⟨⟨h0_321, h1_322⟩, h⟩ := h
      refine s_iaddrB r307.toNat Try.underlying49 sc5.size (sx hS_ 3 rfl) rfl h0_321 h1_322 (by omega) ?_
      refine s_store (v := .int .u8 (IntKind.u8.wrap r317)) hC 1 [.int .u8 (IntKind.u8.wrap r317)] (A8.enc .u8 (s243.2.2.1.set r307.toNat (IntKind.u8.wrap r317))) rfl sc5.size rfl rfl rfl rfl rfl (show r307.toNat < 8 by omega) (A8.enc_set _ _ _ (show r307.toNat < 8 by omega)) fun w323 hC => ?_
      refine dn ?_
      refine sr ?_
      refine s_loadA hC 1 (A8.enc .u8 (s243.2.2.1.set r307.toNat (IntKind.u8.wrap r317))) rfl ag49 (sx hS_ 3 rfl) rfl rfl ?_
      refine s_store (v := .agg (List.toArray (A8.enc .u8 (s243.2.2.1.set r307.toNat (IntKind.u8.wrap r317))))) hC 2 (A8.enc .u8 (s243.2.2.1.set r307.toNat (IntKind.u8.wrap r317))) (A8.enc .u8 (s243.2.2.1.set r307.toNat (IntKind.u8.wrap r317))) rfl ag49.size (sx hS_ 2 rfl) rfl rfl rfl rfl (Nat.le_of_ble_eq_true rfl) rfl fun w324 hC => ?_
      refine dn ?_
      refine wp_ret ?_
      refine ret1 (fn := Try.f78) rfl ?_ ⟨s243.2.2.1.set r307.toNat (IntKind.u8.wrap r317), (m319.1, m319.2), rfl, h, (hC.getM 3 rfl), hC.belO⟩ (.inl rfl)
      exact res_cellA hC 2 rfl ag49 (sx hS_ 2 rfl) rfl
     ·replace h := iff_ h (cf hb300)
      refine wp_skip ?_
      refine then_norm ?_
      refine sr ?_
      refine s_loadA hC 0 (A8.enc .u8 s243.2.2.1) rfl ag49 (sx hS_ 3 rfl) rfl rfl ?_
      refine s_store (v := .agg (List.toArray (A8.enc .u8 s243.2.2.1))) hC 1 (A8.enc .u8 s243.2.2.1) (A8.enc .u8 s243.2.2.1) rfl ag49.size (sx hS_ 2 rfl) rfl rfl rfl rfl (Nat.le_of_ble_eq_true rfl) rfl fun w325 hC => ?_
      refine dn ?_
      refine wp_ret ?_
      refine ret1 (fn := Try.f78) rfl ?_ ⟨s243.2.2.1, (m298.1, m298.2), rfl, h, (hC.getM 2 rfl), hC.belO⟩ (.inl rfl)
      exact res_cellA hC 1 rfl ag49 (sx hS_ 2 rfl) rfl
    ·replace h := iff_ h (cf hb292)
     refine guardOff (b := false) 3 41 rfl (tr rfl (congrArg _ hb292)) (by decide) ?_
     refine guardOff (b := false) 3 41 rfl (tr rfl (congrArg _ hb292)) (by decide) ?_
     refine guardOff (b := false) 3 41 rfl (tr rfl (congrArg _ hb292)) (by decide) ?_
     refine s_pick (v := .bool false) (b := false) (tr rfl (congrArg _ hb292)) rfl ?_
     refine dn ?_
     refine cw_false rfl rfl ?_
     refine wp_skip ?_
     refine then_norm ?_
     refine sr ?_
     refine s_loadA hC 0 (A8.enc .u8 s243.2.2.1) rfl ag49 (sx hS_ 3 rfl) rfl rfl ?_
     refine s_store (v := .agg (List.toArray (A8.enc .u8 s243.2.2.1))) hC 1 (A8.enc .u8 s243.2.2.1) (A8.enc .u8 s243.2.2.1) rfl ag49.size (sx hS_ 2 rfl) rfl rfl rfl rfl (Nat.le_of_ble_eq_true rfl) rfl fun w326 hC => ?_
     refine dn ?_
     refine wp_ret ?_
     refine ret1 (fn := Try.f78) rfl ?_ ⟨s243.2.2.1, (s243.1, s243.2.1), rfl, h, (hC.getM 2 rfl), hC.belO⟩ (.inl rfl)
     exact res_cellA hC 1 rfl ag49 (sx hS_ 2 rfl) rfl
  ·replace h := iff_ h (cf hb251)
   refine guardOff (b := false) 4 12 rfl (tr rfl (congrArg _ hb251)) (by decide) ?_
   refine guardOff (b := false) 4 12 rfl (tr rfl (congrArg _ hb251)) (by decide) ?_
   refine s_pick (v := .bool false) (b := false) (tr rfl (congrArg _ hb251)) rfl ?_
   refine dn ?_
   refine cw_false rfl rfl ?_
   refine wp_exit (then_exit (then_exit (exit_in ?_)))
   refine then_norm ?_
   refine wp_seq ?_
   refine sr ?_
   refine s_mv (v := u1_0) (sx hS_ 1 rfl) ?_
   obtain ⟨Ad327, c328, hv329⟩ := sl_len (hC.getP 1 rfl)
   refine s_len Try.underlying22 (tr rfl hv329) ?_
   refine s_gtr rfl rfl ?_
   refine s_mv (v := .bool (decide ((a1.length : Int) > 0))) rfl ?_
   refine bsplit (decide ((a1.length : Int) > 0)) (fun hb330 => ?_) (fun hb330 => ?_)
   ·replace h := ift h (ct hb330)
    refine guardOn 3 41 rfl rfl hb330 ?_
    refine s_mv (v := .pointer (some ⟨b0, 0, none⟩)) (sx hS_ 0 rfl) ?_
    refine guardOn 3 41 rfl rfl hb330 ?_
    refine s_call [.pointer (some ⟨b0, 0, none⟩), .int .i64 24] _ Try.func88 rfl rfl rfl (c_spec_l01Next (a0.1, s243.1, s243.2.1) 24 h _ (hC.getP 0 rfl) (hC.getM 2 rfl) (fun b_ hb_ hb2_ => hC.pd _ (List.mem_of_getElem? (i := 0) rfl) b_ hb_ _ (List.mem_of_getElem? (i := 2) rfl) hb2_)) (fun ret331 w333 hR332 => ?_)
    obtain ⟨r334, m336, rfl, h, hm337, hB335⟩ := hR332
    refine ⟨_, rfl, ?_⟩
    replace hC := hC.turnF 2 rfl hB335 hm337
    refine guardOn 3 41 rfl rfl hb330 ?_
    refine s_eql rfl rfl ?_
    refine s_pick (v := .bool (decide (r334 = 0))) (b := true) (tr rfl (congrArg _ hb330)) rfl ?_
    refine dn ?_
    refine cw_cond rfl (fun hb338 => ?_) (fun hb338 => ?_)
    ·replace h := ift h (ct hb338)
     refine cw_region ?_
     refine s_mv (v := .pointer (some ⟨b0, 0, none⟩)) (sx hS_ 0 rfl) ?_
     refine s_mv (v := u1_0) (sx hS_ 1 rfl) ?_
     obtain ⟨Ad339, c340, hv341⟩ := sl_len (hC.getP 1 rfl)
     refine s_len Try.underlying22 (tr rfl hv341) ?_
     refine s_min rfl rfl ?_
     refine s_call [.pointer (some ⟨b0, 0, none⟩), .int .i64 (if 8 < (a1.length : Int) then 8 else (a1.length : Int))] _ Try.func88 rfl rfl rfl (c_spec_l01Next (a0.1, m336.1, m336.2) (if 8 < (a1.length : Int) then 8 else (a1.length : Int)) h _ (hC.getP 0 rfl) (hC.getM 2 rfl) (fun b_ hb_ hb2_ => hC.pd _ (List.mem_of_getElem? (i := 0) rfl) b_ hb_ _ (List.mem_of_getElem? (i := 2) rfl) hb2_)) (fun ret342 w344 hR343 => ?_)
     obtain ⟨r345, m347, rfl, h, hm348, hB346⟩ := hR343
     refine ⟨_, rfl, ?_⟩
     replace hC := hC.turnF 2 rfl hB346 hm348
     refine s_mv (v := .pointer (some ⟨b0, 0, none⟩)) (sx hS_ 0 rfl) ?_
     refine s_bslice (sz := 1) hC [(0, .int .i64 11), (1, .int .i64 20), (2, .int .i64 21), (3, .int .i64 2)] ((EI .i64).encs [11, 20, 21, 2]) rfl (fun _ => bs22_4 11 20 21 2 _) rfl (by decide) fun b349 w350 hB_ hC => ?_
     refine s_call [.pointer (some ⟨b0, 0, none⟩), .slice (some ⟨b349, 0, none⟩) 4 4] _ Try.func89 rfl rfl rfl (c_spec_l01Pick (a0.1, m347.1, m347.2) [11, 20, 21, 2] h _ (own_repE (hC.getM 0 rfl)) (hC.getP 0 rfl) (hC.getM 3 rfl) (fun b_ hb_ hb2_ => hC.pd _ (List.mem_of_getElem? (i := 0) rfl) b_ hb_ _ (List.mem_of_getElem? (i := 3) rfl) hb2_) (fun b_ hb_ hb2_ => hC.mm 0 3 rfl rfl (by decide) b_ hb_ hb2_)) (fun ret352 w354 hR353 => ?_)
     obtain ⟨r355, m357, rfl, h, hm358, hB356⟩ := hR353
     refine ⟨_, rfl, ?_⟩
     replace hC := hC.turnF 3 rfl hB356 hm358
     refine s_conv Try.underlying2 Try.underlying5 rfl ?_
     obtain ⟨⟨h0_359, h1_360⟩, h⟩ := h
     refine s_iaddrB r345.toNat Try.underlying49 sc5.size (sx hS_ 3 rfl) rfl h0_359 h1_360 (by omega) ?_
     refine s_store (v := .int .u8 (IntKind.u8.wrap r355)) hC 1 [.int .u8 (IntKind.u8.wrap r355)] (A8.enc .u8 (s243.2.2.1.set r345.toNat (IntKind.u8.wrap r355))) rfl sc5.size rfl rfl rfl rfl rfl (show r345.toNat < 8 by omega) (A8.enc_set _ _ _ (show r345.toNat < 8 by omega)) fun w361 hC => ?_
     refine dn ?_
     refine sr ?_
     refine s_loadA hC 1 (A8.enc .u8 (s243.2.2.1.set r345.toNat (IntKind.u8.wrap r355))) rfl ag49 (sx hS_ 3 rfl) rfl rfl ?_
     refine s_store (v := .agg (List.toArray (A8.enc .u8 (s243.2.2.1.set r345.toNat (IntKind.u8.wrap r355))))) hC 2 (A8.enc .u8 (s243.2.2.1.set r345.toNat (IntKind.u8.wrap r355))) (A8.enc .u8 (s243.2.2.1.set r345.toNat (IntKind.u8.wrap r355))) rfl ag49.size (sx hS_ 2 rfl) rfl rfl rfl rfl (Nat.le_of_ble_eq_true rfl) rfl fun w362 hC => ?_
     refine dn ?_
     refine wp_ret ?_
     refine ret1 (fn := Try.f78) rfl ?_ ⟨s243.2.2.1.set r345.toNat (IntKind.u8.wrap r355), (m357.1, m357.2), rfl, h, (hC.getM 3 rfl), hC.belO⟩ (.inl rfl)
     exact res_cellA hC 2 rfl ag49 (sx hS_ 2 rfl) rfl
    ·replace h := iff_ h (cf hb338)
     refine wp_skip ?_
     refine then_norm ?_
     refine sr ?_
     refine s_loadA hC 0 (A8.enc .u8 s243.2.2.1) rfl ag49 (sx hS_ 3 rfl) rfl rfl ?_
     refine s_store (v := .agg (List.toArray (A8.enc .u8 s243.2.2.1))) hC 1 (A8.enc .u8 s243.2.2.1) (A8.enc .u8 s243.2.2.1) rfl ag49.size (sx hS_ 2 rfl) rfl rfl rfl rfl (Nat.le_of_ble_eq_true rfl) rfl fun w363 hC => ?_
     refine dn ?_
     refine wp_ret ?_
     refine ret1 (fn := Try.f78) rfl ?_ ⟨s243.2.2.1, (m336.1, m336.2), rfl, h, (hC.getM 2 rfl), hC.belO⟩ (.inl rfl)
     exact res_cellA hC 1 rfl ag49 (sx hS_ 2 rfl) rfl
   ·replace h := iff_ h (cf hb330)
    refine guardOff (b := false) 3 41 rfl (tr rfl (congrArg _ hb330)) (by decide) ?_
    refine guardOff (b := false) 3 41 rfl (tr rfl (congrArg _ hb330)) (by decide) ?_
    refine guardOff (b := false) 3 41 rfl (tr rfl (congrArg _ hb330)) (by decide) ?_
    refine s_pick (v := .bool false) (b := false) (tr rfl (congrArg _ hb330)) rfl ?_
    refine dn ?_
    refine cw_false rfl rfl ?_
    refine wp_skip ?_
    refine then_norm ?_
    refine sr ?_
    refine s_loadA hC 0 (A8.enc .u8 s243.2.2.1) rfl ag49 (sx hS_ 3 rfl) rfl rfl ?_
    refine s_store (v := .agg (List.toArray (A8.enc .u8 s243.2.2.1))) hC 1 (A8.enc .u8 s243.2.2.1) (A8.enc .u8 s243.2.2.1) rfl ag49.size (sx hS_ 2 rfl) rfl rfl rfl rfl (Nat.le_of_ble_eq_true rfl) rfl fun w364 hC => ?_
    refine dn ?_
    refine wp_ret ?_
    refine ret1 (fn := Try.f78) rfl ?_ ⟨s243.2.2.1, (s243.1, s243.2.1), rfl, h, (hC.getM 2 rfl), hC.belO⟩ (.inl rfl)
    exact res_cellA hC 1 rfl ag49 (sx hS_ 2 rfl) rfl
 ·skip
  exact ⟨(sk rfl (sk rfl (sk rfl (sk rfl (sk rfl sn))))), hC⟩
def f_spec_DrawMultiplyMonomials (a0 : List Int) (K : List Int → A8 → A8 → Prop) : Prop :=
 whileP (fun (s1320 : Int × Int) next1321 => (if s1320.2 < (a0.length : Int) then (if s1320.2 < 4096 then ((0 ≤ s1320.2 ∧ s1320.2 < (a0.length : Int)) ∧ next1321 (IntKind.u64.wrap ((IntKind.u64.wrap ((IntKind.u64.wrap (s1320.1 * 1099511628211)) + (IntKind.u64.wrap (a0.getD s1320.2.toNat default)))) + 37), IntKind.i64.wrap (s1320.2 + 1))) else f_spec_l01Next (a0, 0, s1320.1) (IntKind.i64.wrap (6 + 1)) (fun r1345 m1347 => whileP (fun (s1552 : Int × Int × (List Int) × Int) next1554 => (if s1552.2.2.2 > 0 then f_spec_l01Next (a0, s1552.1, s1552.2.1) 12 (fun r1562 m1564 => f_spec_l01Pick (a0, m1564.1, m1564.2) [1, 2, 2, 3, 3, 4, 5, IntKind.i64.wrap (1 + r1562)] (fun r1572 m1574 => (Room (s1552.2.2.1.length + 1) 8 ∧ next1554 (m1574.1, m1574.2, s1552.2.2.1 ++ [r1572], IntKind.i64.wrap (s1552.2.2.2 - 1))))) else f_spec_l01Next (a0, s1552.1, s1552.2.1) 40 (fun r1585 m1587 => (if r1585 = 0 then f_spec_l01Pick (a0, m1587.1, m1587.2) [0, 13, (-1)] (fun r1596 m1598 => (Room (s1552.2.2.1.length + 1) 8 ∧ f_spec_l01DrawMono (a0, m1598.1, m1598.2) (s1552.2.2.1 ++ [r1596]) (fun r1609 m1611 => f_spec_l01DrawMono (a0, m1611.1, m1611.2) (s1552.2.2.1 ++ [r1596]) (fun r1616 m1618 => K (s1552.2.2.1 ++ [r1596]) r1609 r1616)))) else (if r1585 = 1 then f_spec_l01DrawMono (a0, m1587.1, m1587.2) [2, 2, 2, 2, 2, 2, 2, 2, 2] (fun r1629 m1631 => f_spec_l01DrawMono (a0, m1631.1, m1631.2) [2, 2, 2, 2, 2, 2, 2, 2, 2] (fun r1636 m1638 => K [2, 2, 2, 2, 2, 2, 2, 2, 2] r1629 r1636)) else f_spec_l01DrawMono (a0, m1587.1, m1587.2) s1552.2.2.1 (fun r1645 m1647 => f_spec_l01DrawMono (a0, m1647.1, m1647.2) s1552.2.2.1 (fun r1652 m1654 => K s1552.2.2.1 r1645 r1652))))))) (m1347.1, m1347.2, [], r1345))) else f_spec_l01Next (a0, 0, s1320.1) (IntKind.i64.wrap (6 + 1)) (fun r1664 m1666 => whileP (fun (s1871 : Int × Int × (List Int) × Int) next1873 => (if s1871.2.2.2 > 0 then f_spec_l01Next (a0, s1871.1, s1871.2.1) 12 (fun r1881 m1883 => f_spec_l01Pick (a0, m1883.1, m1883.2) [1, 2, 2, 3, 3, 4, 5, IntKind.i64.wrap (1 + r1881)] (fun r1891 m1893 => (Room (s1871.2.2.1.length + 1) 8 ∧ next1873 (m1893.1, m1893.2, s1871.2.2.1 ++ [r1891], IntKind.i64.wrap (s1871.2.2.2 - 1))))) else f_spec_l01Next (a0, s1871.1, s1871.2.1) 40 (fun r1904 m1906 => (if r1904 = 0 then f_spec_l01Pick (a0, m1906.1, m1906.2) [0, 13, (-1)] (fun r1915 m1917 => (Room (s1871.2.2.1.length + 1) 8 ∧ f_spec_l01DrawMono (a0, m1917.1, m1917.2) (s1871.2.2.1 ++ [r1915]) (fun r1928 m1930 => f_spec_l01DrawMono (a0, m1930.1, m1930.2) (s1871.2.2.1 ++ [r1915]) (fun r1935 m1937 => K (s1871.2.2.1 ++ [r1915]) r1928 r1935)))) else (if r1904 = 1 then f_spec_l01DrawMono (a0, m1906.1, m1906.2) [2, 2, 2, 2, 2, 2, 2, 2, 2] (fun r1948 m1950 => f_spec_l01DrawMono (a0, m1950.1, m1950.2) [2, 2, 2, 2, 2, 2, 2, 2, 2] (fun r1955 m1957 => K [2, 2, 2, 2, 2, 2, 2, 2, 2] r1948 r1955)) else f_spec_l01DrawMono (a0, m1906.1, m1906.2) s1871.2.2.1 (fun r1964 m1966 => f_spec_l01DrawMono (a0, m1966.1, m1966.2) s1871.2.2.1 (fun r1971 m1973 => K s1871.2.2.1 r1964 r1971))))))) (m1666.1, m1666.2, [], r1664)))) (IntKind.u64.wrap (10193 + (IntKind.u64.wrap (a0.length : Int))), 0)
theorem c_spec_DrawMultiplyMonomials (a0 : List Int) {u0_0 : Value} {fp0 : List Nat} {K : List Int → A8 → A8 → Prop} (h : f_spec_DrawMultiplyMonomials a0 K) (w0 : World) (q0 : ((EI .u8).ty.sl).rep a0 [u0_0] fp0 w0) :
  Calls Try.prog 25 #[u0_0] w0 fun e w' => ∃ (r0 : List Int) (z0_0 : Value) (fz0 : List Nat) (r1 : A8) (r2 : A8), 
   e = .returned (.tuple #[z0_0, .agg (List.toArray (A8.enc .u8 r1)), .agg (List.toArray (A8.enc .u8 r2))]) ∧ K r0 r1 r2 ∧ (Tr.item (Tr.sl 2 ((EI .i64).tr)) r0 [z0_0] fz0).holds w' ∧ (∀ b, b ∈ fz0 → w0.heap.size ≤ b) ∧ Bel w0 w' := by
 unfold f_spec_DrawMultiplyMonomials at h
 refine calls_of (args := [u0_0]) Try.func25 rfl 20 Try.ntmps25 (Nat.le_of_ble_eq_true rfl) ?_
 have hC := Ctx.start (X := Nox) w0 [Ty.item ((EI .u8).ty.sl) a0 [u0_0] fp0] (by simp only [List.mem_cons, List.not_mem_nil, or_false, forall_eq_or_imp, forall_eq]; exact q0)
 refine sr ?_
 refine s_as (v := .slice none 0 0) rfl ?_
 refine s_alloc hC (A8.enc .u8 A8.zero) z49 rfl fun b2 w4 hB_ hC => ?_
 refine s_alloc hC (A8.enc .u8 A8.zero) z49 rfl fun b5 w7 hB_ hC => ?_
 refine dn ?_
 refine sr ?_
 refine s_mv (v := u0_0) rfl ?_
 refine s_inline [u0_0] Try.func75 rfl rfl 38 Try.ntmps75 (Nat.le_of_ble_eq_true rfl) rfl ?_
 refine sr ?_
 refine s_as (v := .pointer none) rfl ?_
 refine dn ?_
 refine sr ?_
 refine s_mv (v := u0_0) rfl ?_
 refine s_mv (v := u0_0) rfl ?_
 obtain ⟨Ad8, c9, hv10⟩ := sl_len (hC.getP 0 rfl)
 refine s_len Try.underlying46 (tr rfl hv10) ?_
 refine s_conv Try.underlying3 Try.underlying168 rfl ?_
 refine s_add rfl rfl ?_
 refine s_build [(0, u0_0), (2, .int .u64 (IntKind.u64.wrap (10193 + (IntKind.u64.wrap (a0.length : Int)))))] rfl (bl170_0sl_2int u0_0 (IntKind.u64.wrap (10193 + (IntKind.u64.wrap (a0.length : Int)))) (rep_isSl (hC.getP 0 rfl)) _) ?_
 refine s_box (v := .agg #[u0_0, .int .i64 0, .int .u64 (IntKind.u64.wrap (10193 + (IntKind.u64.wrap (a0.length : Int))))]) hC [u0_0, .int .i64 0, .int .u64 (IntKind.u64.wrap (10193 + (IntKind.u64.wrap (a0.length : Int))))] rfl rfl fun b11 w13 hB_ hC => ?_
 refine s_as (v := .pointer (some ⟨b11, 0, none⟩)) rfl ?_
 refine dn ?_
 refine wp_seq ?_
 refine sr ?_
 refine s_as (v := .int .i64 0) rfl ?_
 refine dn ?_
 refine wp_block ?_
 refine loopW (S := Int × Int) _ (fun s1320 e_ w_ => Slots e_ [(0, u0_0), (3, .pointer (some ⟨b11, 0, none⟩)), (4, .int .i64 s1320.2)] ∧ Ctx Nox w0 w_ [blk b11 170 [u0_0, .int .i64 0, .int .u64 s1320.1], blk b5 49 (A8.enc .u8 A8.zero), blk b2 49 (A8.enc .u8 A8.zero)] [Ty.item ((EI .u8).ty.sl) a0 [u0_0] fp0]) ?_ (s0 := (IntKind.u64.wrap (10193 + (IntKind.u64.wrap (a0.length : Int))), 0)) ?_ h
 ·clear hC h
  rintro s1320 e_ w1324 next1321 K1322 ⟨hS_, hC⟩ h hK1323
  refine wp_seq ?_
  refine sr ?_
  refine s_mv (v := .int .i64 s1320.2) (sx hS_ 2 rfl) ?_
  refine s_mv (v := u0_0) (sx hS_ 0 rfl) ?_
  obtain ⟨Ad1325, c1326, hv1327⟩ := sl_len (hC.getP 0 rfl)
  refine s_len Try.underlying46 (tr rfl hv1327) ?_
  refine s_lss rfl rfl ?_
  refine s_mv (v := .bool (decide (s1320.2 < (a0.length : Int)))) rfl ?_
  refine bsplit (decide (s1320.2 < (a0.length : Int))) (fun hb1328 => ?_) (fun hb1328 => ?_)
  ·replace h := ift h (ct hb1328)
   refine guardOn 4 16 rfl rfl hb1328 ?_
   refine s_mv (v := .int .i64 s1320.2) (sx hS_ 2 rfl) ?_
   refine guardOn 4 16 rfl rfl hb1328 ?_
   refine s_lss rfl rfl ?_
   refine s_pick (v := .bool (decide (s1320.2 < 4096))) (b := true) (tr rfl (congrArg _ hb1328)) rfl ?_
   refine dn ?_
   refine cw_cond rfl (fun hb1329 => ?_) (fun hb1329 => ?_)
   ·replace h := ift h (ct hb1329)
    refine wp_skip ?_
    refine then_norm ?_
    refine wp_seq ?_
    refine wp_block ?_
    refine cw_draw 13 mixed [0, 0, 2, 6, 14, 30, 0, 0, 192, 448, 960, 2046, 4094, 8191, 16383, 32767] [4, 8, 9] [0, 1, 2, 3, 5, 6, 7, 10, 11, 12] (by kernel_rfl) (by kernel_rfl) (by kernel_rfl) (fun hM1331 hM1332 w1330 hB_ => ?_)
    replace hC := hC.grow hB_
    refine aF 0 (.pointer (some ⟨b11, 0, none⟩)) rfl rfl (hM1332 0 rfl) (rfl) (fun _ => by exact r_mv (v := .pointer (some ⟨b11, 0, none⟩)) (sx hS_ 1 rfl)) (dbits 16 1) ?_
    refine aF 1 (.pointer (some ⟨b11, 0, none⟩)) rfl rfl (hM1332 1 rfl) (rfl) (fun _ => by exact r_mv (v := .pointer (some ⟨b11, 0, none⟩)) (sx hS_ 1 rfl)) (dbits 16 3) ?_
    refine aF 2 (.pointer (some ⟨b11, 0, none⟩)) rfl rfl (hM1332 2 rfl) (rfl) (fun _ => by exact r_nilchk rfl) (dbits 16 7) ?_
    refine aF 3 (.pointer (some ⟨b11, 2, none⟩)) rfl rfl (hM1332 3 rfl) (rfl) (fun _ => by exact r_faddrB 2 Try.underlying170 rfl sc168.size rfl rfl) (dbits 16 15) ?_
    refine aL 4 (.int .u64 s1320.1) rfl rfl (hM1331 4 rfl) (rfl) (fun _ hB_ => by exact r_loadS (hC.grow hB_) 0 (.int .u64 s1320.1) rfl sc168 rfl rfl) (dbits 16 31) ?_
    refine aF 5 (.int .u64 (IntKind.u64.wrap (s1320.1 * 1099511628211))) rfl rfl (hM1332 5 rfl) (rfl) (fun _ => by exact r_mul rfl rfl) (dbits 16 63) ?_
    refine aF 6 (u0_0) rfl rfl (hM1332 6 rfl) (rfl) (fun _ => by exact r_mv (v := u0_0) (sx hS_ 0 rfl)) (dbits 16 127) ?_
    refine aF 7 (.int .i64 s1320.2) rfl rfl (hM1332 7 rfl) (rfl) (fun _ => by exact r_mv (v := .int .i64 s1320.2) (sx hS_ 2 rfl)) (dbits 16 255) ?_
    obtain ⟨⟨h0_1333, h1_1334⟩, h⟩ := h
    obtain ⟨Ad1335, c1336, hv1337⟩ := sl_form (hC.getP 0 rfl) s1320.2.toNat (show s1320.2.toNat < a0.length by omega)
    refine aL 8 (.pointer (some (Ad1335.add (s1320.2.toNat * 1)))) rfl rfl (hM1331 8 rfl) (rfl) (fun _ hB_ => by exact r_iaddrS (len := a0.length) Try.underlying46 sc5.size (by exact tr rfl hv1337) rfl h0_1333 h1_1334) (dbits 16 511) ?_
    refine aL 9 (.int .u8 (a0.getD s1320.2.toNat default)) rfl rfl (hM1331 9 rfl) (rfl) (fun _ hB_ => by exact r_loadCS (.int .u8 (a0.getD s1320.2.toNat default)) (sl_cellsE ((hC.grow hB_).getP 0 rfl) hv1337 s1320.2.toNat (show s1320.2.toNat < a0.length by omega)) sc5 rfl) (dbits 16 1023) ?_
    refine aF 10 (.int .u64 (IntKind.u64.wrap (a0.getD s1320.2.toNat default))) rfl rfl (hM1332 10 rfl) (rfl) (fun _ => by exact r_conv Try.underlying5 Try.underlying168 rfl) (dbits 16 2047) ?_
    refine aF 11 (.int .u64 (IntKind.u64.wrap ((IntKind.u64.wrap (s1320.1 * 1099511628211)) + (IntKind.u64.wrap (a0.getD s1320.2.toNat default))))) rfl rfl (hM1332 11 rfl) (rfl) (fun _ => by exact r_add rfl rfl) (dbits 16 4095) ?_
    refine aF 12 (.int .u64 (IntKind.u64.wrap ((IntKind.u64.wrap ((IntKind.u64.wrap (s1320.1 * 1099511628211)) + (IntKind.u64.wrap (a0.getD s1320.2.toNat default)))) + 37))) rfl rfl (hM1332 12 rfl) (rfl) (fun _ => by exact r_add rfl rfl) (dbits 16 8191) ?_
    refine ae_tail 13 (by decide) (by decide) (by kernel_rfl) (by kernel_rfl) rfl ?_
    refine s_nilchk rfl ?_
    refine s_faddrB 2 Try.underlying170 rfl sc168.size rfl rfl ?_
    refine s_store (v := .int .u64 (IntKind.u64.wrap ((IntKind.u64.wrap ((IntKind.u64.wrap (s1320.1 * 1099511628211)) + (IntKind.u64.wrap (a0.getD s1320.2.toNat default)))) + 37))) hC 0 [.int .u64 (IntKind.u64.wrap ((IntKind.u64.wrap ((IntKind.u64.wrap (s1320.1 * 1099511628211)) + (IntKind.u64.wrap (a0.getD s1320.2.toNat default)))) + 37))] [u0_0, .int .i64 0, .int .u64 (IntKind.u64.wrap ((IntKind.u64.wrap ((IntKind.u64.wrap (s1320.1 * 1099511628211)) + (IntKind.u64.wrap (a0.getD s1320.2.toNat default)))) + 37))] rfl sc168.size rfl rfl rfl rfl rfl (Nat.le_of_ble_eq_true rfl) rfl fun w1338 hC => ?_
    refine done ?_
    refine qn_norm ?_
    refine blk_norm ?_
    refine then_norm ?_
    refine cw_region ?_
    refine s_mv (v := .int .i64 s1320.2) (sx hS_ 2 rfl) ?_
    refine s_add rfl rfl ?_
    refine s_as (v := .int .i64 (IntKind.i64.wrap (s1320.2 + 1))) rfl ?_
    refine done ?_
    exact hK1323 (IntKind.u64.wrap ((IntKind.u64.wrap ((IntKind.u64.wrap (s1320.1 * 1099511628211)) + (IntKind.u64.wrap (a0.getD s1320.2.toNat default)))) + 37), IntKind.i64.wrap (s1320.2 + 1)) _ _ ⟨(sk (sx hS_ 0 rfl) (sk (sx hS_ 1 rfl) (sk rfl sn))), hC⟩ h
   ·replace h := iff_ h (cf hb1329)
    refine wp_exit (then_exit (then_exit (exit_in ?_)))
    refine then_norm ?_
    refine sr ?_
    refine s_mv (v := .pointer (some ⟨b11, 0, none⟩)) (sx hS_ 1 rfl) ?_
    refine s_as (v := .pointer (some ⟨b11, 0, none⟩)) rfl ?_
    refine dn ?_
    refine wp_ret ?_
    refine ret1 (fn := Try.f75) (v := .pointer (some ⟨b11, 0, none⟩)) rfl (res_tmp rfl) ⟨_, rfl, ?_⟩ (.inl rfl)
    refine s_as (v := .pointer (some ⟨b11, 0, none⟩)) rfl ?_
    refine dn ?_
    refine sr ?_
    refine s_mv (v := .pointer (some ⟨b11, 0, none⟩)) rfl ?_
    refine s_mv (v := .pointer (some ⟨b11, 0, none⟩)) rfl ?_
    refine s_inline [.pointer (some ⟨b11, 0, none⟩), .int .i64 6] Try.func77 rfl rfl 26 Try.ntmps77 (Nat.le_of_ble_eq_true rfl) rfl ?_
    refine sr ?_
    refine s_as (v := .slice none 0 0) rfl ?_
    refine dn ?_
    refine sr ?_
    refine s_bslice (sz := 1) hC [] ((EI .i64).encs []) rfl (fun _ => bs22_0  _) rfl (by decide) fun b1339 w1340 hB_ hC => ?_
    refine s_as (v := .slice (some ⟨b1339, 0, none⟩) 0 0) rfl ?_
    refine dn ?_
    refine wp_seq ?_
    refine sr ?_
    refine s_mv (v := .pointer (some ⟨b11, 0, none⟩)) rfl ?_
    refine s_mv (v := .int .i64 6) rfl ?_
    refine s_add rfl rfl ?_
    refine s_call [.pointer (some ⟨b11, 0, none⟩), .int .i64 (IntKind.i64.wrap (6 + 1))] _ Try.func88 rfl rfl rfl (c_spec_l01Next (a0, 0, s1320.1) (IntKind.i64.wrap (6 + 1)) h _ (hC.getP 0 rfl) (hC.getM 1 rfl) (fun b_ hb_ hb2_ => hC.pd _ (List.mem_of_getElem? (i := 0) rfl) b_ hb_ _ (List.mem_of_getElem? (i := 1) rfl) hb2_)) (fun ret1342 w1344 hR1343 => ?_)
    obtain ⟨r1345, m1347, rfl, h, hm1348, hB1346⟩ := hR1343
    refine ⟨_, rfl, ?_⟩
    replace hC := hC.turnF 1 rfl hB1346 hm1348
    refine s_as (v := .int .i64 r1345) rfl ?_
    refine dn ?_
    refine wp_block ?_
    refine loopW (S := Int × Int × (List Int) × Int) _ (fun s1552 e_ w_ => ∃ (v1553 : Value), Slots e_ [(0, .pointer (some ⟨b11, 0, none⟩)), (4, .slice none 0 0), (5, v1553), (6, .int .i64 s1552.2.2.2)] ∧ Ctx Nox w0 w_ [own 2 1 v1553 s1552.2.2.1.length ((EI .i64).encs s1552.2.2.1), blk b11 170 [u0_0, .int .i64 s1552.1, .int .u64 s1552.2.1], blk b5 49 (A8.enc .u8 A8.zero), blk b2 49 (A8.enc .u8 A8.zero)] [Ty.item ((EI .u8).ty.sl) a0 [u0_0] fp0]) ?_ (s0 := (m1347.1, m1347.2, [], r1345)) ?_ h
    ·clear hC h
     rintro s1552 e_ w1557 next1554 K1555 ⟨v1553, hS_, hC⟩ h hK1556
     refine wp_seq ?_
     refine sr ?_
     refine s_mv (v := .int .i64 s1552.2.2.2) (sx hS_ 3 rfl) ?_
     refine s_gtr rfl rfl ?_
     refine dn ?_
     refine cw_cond rfl (fun hb1558 => ?_) (fun hb1558 => ?_)
     ·replace h := ift h (ct hb1558)
      refine wp_skip ?_
      refine then_norm ?_
      refine wp_seq ?_
      refine wp_block ?_
      refine cw_region ?_
      refine s_mv (v := v1553) (sx hS_ 2 rfl) ?_
      refine s_mv (v := .pointer (some ⟨b11, 0, none⟩)) (sx hS_ 0 rfl) ?_
      refine s_mv (v := .pointer (some ⟨b11, 0, none⟩)) (sx hS_ 0 rfl) ?_
      refine s_call [.pointer (some ⟨b11, 0, none⟩), .int .i64 12] _ Try.func88 rfl rfl rfl (c_spec_l01Next (a0, s1552.1, s1552.2.1) 12 h _ (hC.getP 0 rfl) (hC.getM 1 rfl) (fun b_ hb_ hb2_ => hC.pd _ (List.mem_of_getElem? (i := 0) rfl) b_ hb_ _ (List.mem_of_getElem? (i := 1) rfl) hb2_)) (fun ret1559 w1561 hR1560 => ?_)
      obtain ⟨r1562, m1564, rfl, h, hm1565, hB1563⟩ := hR1560
      refine ⟨_, rfl, ?_⟩
      replace hC := hC.turnF 1 rfl hB1563 hm1565
      refine s_add rfl rfl ?_
      refine s_bslice (sz := 1) hC [(0, .int .i64 1), (1, .int .i64 2), (2, .int .i64 2), (3, .int .i64 3), (4, .int .i64 3), (5, .int .i64 4), (6, .int .i64 5), (7, .int .i64 (IntKind.i64.wrap (1 + r1562)))] ((EI .i64).encs [1, 2, 2, 3, 3, 4, 5, IntKind.i64.wrap (1 + r1562)]) rfl (fun _ => bs22_8 1 2 2 3 3 4 5 (IntKind.i64.wrap (1 + r1562)) _) rfl (by decide) fun b1566 w1567 hB_ hC => ?_
      refine s_call [.pointer (some ⟨b11, 0, none⟩), .slice (some ⟨b1566, 0, none⟩) 8 8] _ Try.func89 rfl rfl rfl (c_spec_l01Pick (a0, m1564.1, m1564.2) [1, 2, 2, 3, 3, 4, 5, IntKind.i64.wrap (1 + r1562)] h _ (own_repE (hC.getM 0 rfl)) (hC.getP 0 rfl) (hC.getM 2 rfl) (fun b_ hb_ hb2_ => hC.pd _ (List.mem_of_getElem? (i := 0) rfl) b_ hb_ _ (List.mem_of_getElem? (i := 2) rfl) hb2_) (fun b_ hb_ hb2_ => hC.mm 0 2 rfl rfl (by decide) b_ hb_ hb2_)) (fun ret1569 w1571 hR1570 => ?_)
      obtain ⟨r1572, m1574, rfl, h, hm1575, hB1573⟩ := hR1570
      refine ⟨_, rfl, ?_⟩
      replace hC := hC.turnF 2 rfl hB1573 hm1575
      refine s_bslice (sz := 1) hC [(0, .int .i64 r1572)] ((EI .i64).encs [r1572]) rfl (fun _ => bs22_1 r1572 _) rfl (by decide) fun b1576 w1577 hB_ hC => ?_
      obtain ⟨hm1581, h⟩ := h
      refine s_app hC 2 Try.underlying22 el2 rfl (by decide) (by decide) rfl (own_rdr (hC.getM 0 rfl)) (fun q hq => Enc.encs_one' (E := (EI .i64)) _ q hq) rfl rfl hm1581 fun v1579 w1580 hC => ?_
      replace hC := own_re hC 2 ((s1552.2.2.1 ++ [r1572]).length) ((EI .i64).encs (s1552.2.2.1 ++ [r1572])) rfl (by simp) (by first | (simp [Enc.encs_append]; done) | simp [Enc.encs_append, Enc.encs])
      refine s_as (v := v1579) rfl ?_
      refine done ?_
      refine blk_norm ?_
      refine then_norm ?_
      refine cw_region ?_
      refine s_mv (v := .int .i64 s1552.2.2.2) (sx hS_ 3 rfl) ?_
      refine s_sub rfl rfl ?_
      refine s_as (v := .int .i64 (IntKind.i64.wrap (s1552.2.2.2 - 1))) rfl ?_
      refine done ?_
      replace hC := hC.sM [2, 3, 4, 5] (M' := [own 2 1 v1579 ((s1552.2.2.1 ++ [r1572]).length) ((EI .i64).encs (s1552.2.2.1 ++ [r1572])), blk b11 170 [u0_0, .int .i64 m1574.1, .int .u64 m1574.2], blk b5 49 (A8.enc .u8 A8.zero), blk b2 49 (A8.enc .u8 A8.zero)]) (by decide) rfl
      exact hK1556 (m1574.1, m1574.2, s1552.2.2.1 ++ [r1572], IntKind.i64.wrap (s1552.2.2.2 - 1)) _ _ ⟨v1579, (sk (sx hS_ 0 rfl) (sk (sx hS_ 1 rfl) (sk rfl (sk rfl sn)))), hC⟩ h
     ·replace h := iff_ h (cf hb1558)
      refine wp_exit (then_exit (then_exit (exit_in ?_)))
      refine then_norm ?_
      refine sr ?_
      refine s_mv (v := v1553) (sx hS_ 2 rfl) ?_
      refine s_as (v := v1553) rfl ?_
      refine dn ?_
      refine wp_ret ?_
      refine ret1 (fn := Try.f77) (v := v1553) rfl (res_tmp rfl) ⟨_, rfl, ?_⟩ (.inl rfl)
      refine s_inline [.pointer (some ⟨b11, 0, none⟩), v1553] Try.func76 rfl rfl 19 Try.ntmps76 (Nat.le_of_ble_eq_true rfl) rfl ?_
      refine sr ?_
      refine s_as (v := .slice none 0 0) rfl ?_
      refine dn ?_
      refine wp_seq ?_
      refine sr ?_
      refine s_mv (v := .pointer (some ⟨b11, 0, none⟩)) rfl ?_
      refine s_call [.pointer (some ⟨b11, 0, none⟩), .int .i64 40] _ Try.func88 rfl rfl rfl (c_spec_l01Next (a0, s1552.1, s1552.2.1) 40 h _ (hC.getP 0 rfl) (hC.getM 1 rfl) (fun b_ hb_ hb2_ => hC.pd _ (List.mem_of_getElem? (i := 0) rfl) b_ hb_ _ (List.mem_of_getElem? (i := 1) rfl) hb2_)) (fun ret1582 w1584 hR1583 => ?_)
      obtain ⟨r1585, m1587, rfl, h, hm1588, hB1586⟩ := hR1583
      refine ⟨_, rfl, ?_⟩
      replace hC := hC.turnF 1 rfl hB1586 hm1588
      refine dn ?_
      refine wp_block ?_
      refine sr ?_
      refine s_eql rfl rfl ?_
      refine s_as (v := .bool (decide (r1585 = 0))) rfl ?_
      refine dn ?_
      refine cw_cond rfl (fun hb1589 => ?_) (fun hb1589 => ?_)
      ·replace h := ift h (ct hb1589)
       refine sr ?_
       refine s_mv (v := v1553) rfl ?_
       refine s_mv (v := .pointer (some ⟨b11, 0, none⟩)) rfl ?_
       refine s_bslice (sz := 1) hC [(0, .int .i64 0), (1, .int .i64 13), (2, .int .i64 (-1))] ((EI .i64).encs [0, 13, (-1)]) rfl (fun _ => bs22_3 0 13 (-1) _) rfl (by decide) fun b1590 w1591 hB_ hC => ?_
       refine s_call [.pointer (some ⟨b11, 0, none⟩), .slice (some ⟨b1590, 0, none⟩) 3 3] _ Try.func89 rfl rfl rfl (c_spec_l01Pick (a0, m1587.1, m1587.2) [0, 13, (-1)] h _ (own_repE (hC.getM 0 rfl)) (hC.getP 0 rfl) (hC.getM 2 rfl) (fun b_ hb_ hb2_ => hC.pd _ (List.mem_of_getElem? (i := 0) rfl) b_ hb_ _ (List.mem_of_getElem? (i := 2) rfl) hb2_) (fun b_ hb_ hb2_ => hC.mm 0 2 rfl rfl (by decide) b_ hb_ hb2_)) (fun ret1593 w1595 hR1594 => ?_)
       obtain ⟨r1596, m1598, rfl, h, hm1599, hB1597⟩ := hR1594
       refine ⟨_, rfl, ?_⟩
       replace hC := hC.turnF 2 rfl hB1597 hm1599
       refine s_bslice (sz := 1) hC [(0, .int .i64 r1596)] ((EI .i64).encs [r1596]) rfl (fun _ => bs22_1 r1596 _) rfl (by decide) fun b1600 w1601 hB_ hC => ?_
       obtain ⟨hm1605, h⟩ := h
       refine s_app hC 2 Try.underlying22 el2 rfl (by decide) (by decide) rfl (own_rdr (hC.getM 0 rfl)) (fun q hq => Enc.encs_one' (E := (EI .i64)) _ q hq) rfl rfl hm1605 fun v1603 w1604 hC => ?_
       replace hC := own_re hC 2 ((s1552.2.2.1 ++ [r1596]).length) ((EI .i64).encs (s1552.2.2.1 ++ [r1596])) rfl (by simp) (by first | (simp [Enc.encs_append]; done) | simp [Enc.encs_append, Enc.encs])
       refine s_as (v := v1603) rfl ?_
       refine dn ?_
       refine wp_ret (blk_ret (then_ret ?_))
       refine ret1 (fn := Try.f76) (v := v1603) rfl (res_tmp rfl) ⟨_, rfl, ?_⟩ (.inl rfl)
       refine s_as (v := v1603) rfl ?_
       refine dn ?_
       refine sr ?_
       refine s_mv (v := v1603) rfl ?_
       refine s_mv (v := .pointer (some ⟨b11, 0, none⟩)) rfl ?_
       refine s_mv (v := v1603) rfl ?_
       refine s_call [.pointer (some ⟨b11, 0, none⟩), v1603] _ Try.func78 rfl rfl rfl (c_spec_l01DrawMono (a0, m1598.1, m1598.2) (s1552.2.2.1 ++ [r1596]) h _ (own_repE (hC.getM 2 rfl)) (hC.getP 0 rfl) (hC.getM 3 rfl) (fun b_ hb_ hb2_ => hC.pd _ (List.mem_of_getElem? (i := 0) rfl) b_ hb_ _ (List.mem_of_getElem? (i := 3) rfl) hb2_) (fun b_ hb_ hb2_ => hC.mm 2 3 rfl rfl (by decide) b_ hb_ hb2_)) (fun ret1606 w1608 hR1607 => ?_)
       obtain ⟨r1609, m1611, rfl, h, hm1612, hB1610⟩ := hR1607
       refine ⟨_, rfl, ?_⟩
       replace hC := hC.turnF 3 rfl hB1610 hm1612
       refine s_mv (v := .pointer (some ⟨b11, 0, none⟩)) rfl ?_
       refine s_mv (v := v1603) rfl ?_
       refine s_call [.pointer (some ⟨b11, 0, none⟩), v1603] _ Try.func78 rfl rfl rfl (c_spec_l01DrawMono (a0, m1611.1, m1611.2) (s1552.2.2.1 ++ [r1596]) h _ (own_repE (hC.getM 2 rfl)) (hC.getP 0 rfl) (hC.getM 3 rfl) (fun b_ hb_ hb2_ => hC.pd _ (List.mem_of_getElem? (i := 0) rfl) b_ hb_ _ (List.mem_of_getElem? (i := 3) rfl) hb2_) (fun b_ hb_ hb2_ => hC.mm 2 3 rfl rfl (by decide) b_ hb_ hb2_)) (fun ret1613 w1615 hR1614 => ?_)
       obtain ⟨r1616, m1618, rfl, h, hm1619, hB1617⟩ := hR1614
       refine ⟨_, rfl, ?_⟩
       replace hC := hC.turnF 3 rfl hB1617 hm1619
       refine s_as (v := v1603) rfl ?_
       refine s_store (v := .agg (List.toArray (A8.enc .u8 r1609))) hC 5 (A8.enc .u8 r1609) (A8.enc .u8 r1609) rfl ag49.size rfl rfl rfl rfl rfl (Nat.le_of_ble_eq_true rfl) rfl fun w1620 hC => ?_
       refine s_store (v := .agg (List.toArray (A8.enc .u8 r1616))) hC 4 (A8.enc .u8 r1616) (A8.enc .u8 r1616) rfl ag49.size rfl rfl rfl rfl rfl (Nat.le_of_ble_eq_true rfl) rfl fun w1621 hC => ?_
       refine dn ?_
       refine wp_ret ?_
       refine ret3 (fn := Try.f25) rfl ?_ ?_ ?_ ⟨s1552.2.2.1 ++ [r1596], v1603, (Option.toList (Value.ownBlock v1603)), r1609, r1616, rfl, h, (own_item (hC.getM 2 rfl)), (own_fresh hC 2 rfl), hC.below⟩ (.inl rfl)
       ·exact res_tmp rfl
       ·exact res_cellA hC 5 rfl ag49 rfl rfl
       ·exact res_cellA hC 4 rfl ag49 rfl rfl
      ·replace h := iff_ h (cf hb1589)
       refine sr ?_
       refine s_eql rfl rfl ?_
       refine s_as (v := .bool (decide (r1585 = 1))) rfl ?_
       refine dn ?_
       refine cw_cond rfl (fun hb1622 => ?_) (fun hb1622 => ?_)
       ·replace h := ift h (ct hb1622)
        refine sr ?_
        refine s_bslice (sz := 1) hC [(0, .int .i64 2), (1, .int .i64 2), (2, .int .i64 2), (3, .int .i64 2), (4, .int .i64 2), (5, .int .i64 2), (6, .int .i64 2), (7, .int .i64 2), (8, .int .i64 2)] ((EI .i64).encs [2, 2, 2, 2, 2, 2, 2, 2, 2]) rfl (fun _ => bs22_9 2 2 2 2 2 2 2 2 2 _) rfl (by decide) fun b1623 w1624 hB_ hC => ?_
        refine s_as (v := .slice (some ⟨b1623, 0, none⟩) 9 9) rfl ?_
        refine dn ?_
        refine wp_ret (blk_ret (then_ret ?_))
        refine ret1 (fn := Try.f76) (v := .slice (some ⟨b1623, 0, none⟩) 9 9) rfl (res_tmp rfl) ⟨_, rfl, ?_⟩ (.inl rfl)
        refine s_as (v := .slice (some ⟨b1623, 0, none⟩) 9 9) rfl ?_
        refine dn ?_
        refine sr ?_
        refine s_mv (v := .slice (some ⟨b1623, 0, none⟩) 9 9) rfl ?_
        refine s_mv (v := .pointer (some ⟨b11, 0, none⟩)) rfl ?_
        refine s_mv (v := .slice (some ⟨b1623, 0, none⟩) 9 9) rfl ?_
        refine s_call [.pointer (some ⟨b11, 0, none⟩), .slice (some ⟨b1623, 0, none⟩) 9 9] _ Try.func78 rfl rfl rfl (c_spec_l01DrawMono (a0, m1587.1, m1587.2) [2, 2, 2, 2, 2, 2, 2, 2, 2] h _ (own_repE (hC.getM 0 rfl)) (hC.getP 0 rfl) (hC.getM 2 rfl) (fun b_ hb_ hb2_ => hC.pd _ (List.mem_of_getElem? (i := 0) rfl) b_ hb_ _ (List.mem_of_getElem? (i := 2) rfl) hb2_) (fun b_ hb_ hb2_ => hC.mm 0 2 rfl rfl (by decide) b_ hb_ hb2_)) (fun ret1626 w1628 hR1627 => ?_)
        obtain ⟨r1629, m1631, rfl, h, hm1632, hB1630⟩ := hR1627
        refine ⟨_, rfl, ?_⟩
        replace hC := hC.turnF 2 rfl hB1630 hm1632
        refine s_mv (v := .pointer (some ⟨b11, 0, none⟩)) rfl ?_
        refine s_mv (v := .slice (some ⟨b1623, 0, none⟩) 9 9) rfl ?_
        refine s_call [.pointer (some ⟨b11, 0, none⟩), .slice (some ⟨b1623, 0, none⟩) 9 9] _ Try.func78 rfl rfl rfl (c_spec_l01DrawMono (a0, m1631.1, m1631.2) [2, 2, 2, 2, 2, 2, 2, 2, 2] h _ (own_repE (hC.getM 0 rfl)) (hC.getP 0 rfl) (hC.getM 2 rfl) (fun b_ hb_ hb2_ => hC.pd _ (List.mem_of_getElem? (i := 0) rfl) b_ hb_ _ (List.mem_of_getElem? (i := 2) rfl) hb2_) (fun b_ hb_ hb2_ => hC.mm 0 2 rfl rfl (by decide) b_ hb_ hb2_)) (fun ret1633 w1635 hR1634 => ?_)
        obtain ⟨r1636, m1638, rfl, h, hm1639, hB1637⟩ := hR1634
        refine ⟨_, rfl, ?_⟩
        replace hC := hC.turnF 2 rfl hB1637 hm1639
        refine s_as (v := .slice (some ⟨b1623, 0, none⟩) 9 9) rfl ?_
        refine s_store (v := .agg (List.toArray (A8.enc .u8 r1629))) hC 4 (A8.enc .u8 r1629) (A8.enc .u8 r1629) rfl ag49.size rfl rfl rfl rfl rfl (Nat.le_of_ble_eq_true rfl) rfl fun w1640 hC => ?_
        refine s_store (v := .agg (List.toArray (A8.enc .u8 r1636))) hC 3 (A8.enc .u8 r1636) (A8.enc .u8 r1636) rfl ag49.size rfl rfl rfl rfl rfl (Nat.le_of_ble_eq_true rfl) rfl fun w1641 hC => ?_
        refine dn ?_
        refine wp_ret ?_
        refine ret3 (fn := Try.f25) rfl ?_ ?_ ?_ ⟨[2, 2, 2, 2, 2, 2, 2, 2, 2], .slice (some ⟨b1623, 0, none⟩) 9 9, (Option.toList (Value.ownBlock (.slice (some ⟨b1623, 0, none⟩) 9 9))), r1629, r1636, rfl, h, (own_item (hC.getM 0 rfl)), (own_fresh hC 0 rfl), hC.below⟩ (.inl rfl)
        ·exact res_tmp rfl
        ·exact res_cellA hC 4 rfl ag49 rfl rfl
        ·exact res_cellA hC 3 rfl ag49 rfl rfl
       ·replace h := iff_ h (cf hb1622)
        refine wp_skip ?_
        refine blk_norm ?_
        refine then_norm ?_
        refine sr ?_
        refine s_mv (v := v1553) rfl ?_
        refine s_as (v := v1553) rfl ?_
        refine dn ?_
        refine wp_ret ?_
        refine ret1 (fn := Try.f76) (v := v1553) rfl (res_tmp rfl) ⟨_, rfl, ?_⟩ (.inl rfl)
        refine s_as (v := v1553) rfl ?_
        refine dn ?_
        refine sr ?_
        refine s_mv (v := v1553) rfl ?_
        refine s_mv (v := .pointer (some ⟨b11, 0, none⟩)) rfl ?_
        refine s_mv (v := v1553) rfl ?_
        refine s_call [.pointer (some ⟨b11, 0, none⟩), v1553] _ Try.func78 rfl rfl rfl (c_spec_l01DrawMono (a0, m1587.1, m1587.2) s1552.2.2.1 h _ (own_repE (hC.getM 0 rfl)) (hC.getP 0 rfl) (hC.getM 1 rfl) (fun b_ hb_ hb2_ => hC.pd _ (List.mem_of_getElem? (i := 0) rfl) b_ hb_ _ (List.mem_of_getElem? (i := 1) rfl) hb2_) (fun b_ hb_ hb2_ => hC.mm 0 1 rfl rfl (by decide) b_ hb_ hb2_)) (fun ret1642 w1644 hR1643 => ?_)
        obtain ⟨r1645, m1647, rfl, h, hm1648, hB1646⟩ := hR1643
        refine ⟨_, rfl, ?_⟩
        replace hC := hC.turnF 1 rfl hB1646 hm1648
        refine s_mv (v := .pointer (some ⟨b11, 0, none⟩)) rfl ?_
        refine s_mv (v := v1553) rfl ?_
        refine s_call [.pointer (some ⟨b11, 0, none⟩), v1553] _ Try.func78 rfl rfl rfl (c_spec_l01DrawMono (a0, m1647.1, m1647.2) s1552.2.2.1 h _ (own_repE (hC.getM 0 rfl)) (hC.getP 0 rfl) (hC.getM 1 rfl) (fun b_ hb_ hb2_ => hC.pd _ (List.mem_of_getElem? (i := 0) rfl) b_ hb_ _ (List.mem_of_getElem? (i := 1) rfl) hb2_) (fun b_ hb_ hb2_ => hC.mm 0 1 rfl rfl (by decide) b_ hb_ hb2_)) (fun ret1649 w1651 hR1650 => ?_)
        obtain ⟨r1652, m1654, rfl, h, hm1655, hB1653⟩ := hR1650
        refine ⟨_, rfl, ?_⟩
        replace hC := hC.turnF 1 rfl hB1653 hm1655
        refine s_as (v := v1553) rfl ?_
        refine s_store (v := .agg (List.toArray (A8.enc .u8 r1645))) hC 3 (A8.enc .u8 r1645) (A8.enc .u8 r1645) rfl ag49.size rfl rfl rfl rfl rfl (Nat.le_of_ble_eq_true rfl) rfl fun w1656 hC => ?_
        refine s_store (v := .agg (List.toArray (A8.enc .u8 r1652))) hC 2 (A8.enc .u8 r1652) (A8.enc .u8 r1652) rfl ag49.size rfl rfl rfl rfl rfl (Nat.le_of_ble_eq_true rfl) rfl fun w1657 hC => ?_
        refine dn ?_
        refine wp_ret ?_
        refine ret3 (fn := Try.f25) rfl ?_ ?_ ?_ ⟨s1552.2.2.1, v1553, (Option.toList (Value.ownBlock v1553)), r1645, r1652, rfl, h, (own_item (hC.getM 0 rfl)), (own_fresh hC 0 rfl), hC.below⟩ (.inl rfl)
        ·exact res_tmp rfl
        ·exact res_cellA hC 3 rfl ag49 rfl rfl
        ·exact res_cellA hC 2 rfl ag49 rfl rfl
    ·skip
     exact ⟨.slice (some ⟨b1339, 0, none⟩) 0 0, (sk rfl (sk rfl (sk rfl (sk rfl sn)))), hC⟩
  ·replace h := iff_ h (cf hb1328)
   refine guardOff (b := false) 4 16 rfl (tr rfl (congrArg _ hb1328)) (by decide) ?_
   refine guardOff (b := false) 4 16 rfl (tr rfl (congrArg _ hb1328)) (by decide) ?_
   refine s_pick (v := .bool false) (b := false) (tr rfl (congrArg _ hb1328)) rfl ?_
   refine dn ?_
   refine cw_false rfl rfl ?_
   refine wp_exit (then_exit (then_exit (exit_in ?_)))
   refine then_norm ?_
   refine sr ?_
   refine s_mv (v := .pointer (some ⟨b11, 0, none⟩)) (sx hS_ 1 rfl) ?_
   refine s_as (v := .pointer (some ⟨b11, 0, none⟩)) rfl ?_
   refine dn ?_
   refine wp_ret ?_
   refine ret1 (fn := Try.f75) (v := .pointer (some ⟨b11, 0, none⟩)) rfl (res_tmp rfl) ⟨_, rfl, ?_⟩ (.inl rfl)
   refine s_as (v := .pointer (some ⟨b11, 0, none⟩)) rfl ?_
   refine dn ?_
   refine sr ?_
   refine s_mv (v := .pointer (some ⟨b11, 0, none⟩)) rfl ?_
   refine s_mv (v := .pointer (some ⟨b11, 0, none⟩)) rfl ?_
   refine s_inline [.pointer (some ⟨b11, 0, none⟩), .int .i64 6] Try.func77 rfl rfl 26 Try.ntmps77 (Nat.le_of_ble_eq_true rfl) rfl ?_
   refine sr ?_
   refine s_as (v := .slice none 0 0) rfl ?_
   refine dn ?_
   refine sr ?_
   refine s_bslice (sz := 1) hC [] ((EI .i64).encs []) rfl (fun _ => bs22_0  _) rfl (by decide) fun b1658 w1659 hB_ hC => ?_
   refine s_as (v := .slice (some ⟨b1658, 0, none⟩) 0 0) rfl ?_
   refine dn ?_
   refine wp_seq ?_
   refine sr ?_
   refine s_mv (v := .pointer (some ⟨b11, 0, none⟩)) rfl ?_
   refine s_mv (v := .int .i64 6) rfl ?_
   refine s_add rfl rfl ?_
   refine s_call [.pointer (some ⟨b11, 0, none⟩), .int .i64 (IntKind.i64.wrap (6 + 1))] _ Try.func88 rfl rfl rfl (c_spec_l01Next (a0, 0, s1320.1) (IntKind.i64.wrap (6 + 1)) h _ (hC.getP 0 rfl) (hC.getM 1 rfl) (fun b_ hb_ hb2_ => hC.pd _ (List.mem_of_getElem? (i := 0) rfl) b_ hb_ _ (List.mem_of_getElem? (i := 1) rfl) hb2_)) (fun ret1661 w1663 hR1662 => ?_)
   obtain ⟨r1664, m1666, rfl, h, hm1667, hB1665⟩ := hR1662
   refine ⟨_, rfl, ?_⟩
   replace hC := hC.turnF 1 rfl hB1665 hm1667
   refine s_as (v := .int .i64 r1664) rfl ?_
   refine dn ?_
   refine wp_block ?_
   refine loopW (S := Int × Int × (List Int) × Int) _ (fun s1871 e_ w_ => ∃ (v1872 : Value), Slots e_ [(0, .pointer (some ⟨b11, 0, none⟩)), (4, .slice none 0 0), (5, v1872), (6, .int .i64 s1871.2.2.2)] ∧ Ctx Nox w0 w_ [own 2 1 v1872 s1871.2.2.1.length ((EI .i64).encs s1871.2.2.1), blk b11 170 [u0_0, .int .i64 s1871.1, .int .u64 s1871.2.1], blk b5 49 (A8.enc .u8 A8.zero), blk b2 49 (A8.enc .u8 A8.zero)] [Ty.item ((EI .u8).ty.sl) a0 [u0_0] fp0]) ?_ (s0 := (m1666.1, m1666.2, [], r1664)) ?_ h
   ·clear hC h
    rintro s1871 e_ w1876 next1873 K1874 ⟨v1872, hS_, hC⟩ h hK1875
    refine wp_seq ?_
    refine sr ?_
    refine s_mv (v := .int .i64 s1871.2.2.2) (sx hS_ 3 rfl) ?_
    refine s_gtr rfl rfl ?_
    refine dn ?_
    refine cw_cond rfl (fun hb1877 => ?_) (fun hb1877 => ?_)
    ·replace h := ift h (ct hb1877)
     refine wp_skip ?_
     refine then_norm ?_
     refine wp_seq ?_
     refine wp_block ?_
     refine cw_region ?_
     refine s_mv (v := v1872) (sx hS_ 2 rfl) ?_
     refine s_mv (v := .pointer (some ⟨b11, 0, none⟩)) (sx hS_ 0 rfl) ?_
     refine s_mv (v := .pointer (some ⟨b11, 0, none⟩)) (sx hS_ 0 rfl) ?_
     refine s_call [.pointer (some ⟨b11, 0, none⟩), .int .i64 12] _ Try.func88 rfl rfl rfl (c_spec_l01Next (a0, s1871.1, s1871.2.1) 12 h _ (hC.getP 0 rfl) (hC.getM 1 rfl) (fun b_ hb_ hb2_ => hC.pd _ (List.mem_of_getElem? (i := 0) rfl) b_ hb_ _ (List.mem_of_getElem? (i := 1) rfl) hb2_)) (fun ret1878 w1880 hR1879 => ?_)
     obtain ⟨r1881, m1883, rfl, h, hm1884, hB1882⟩ := hR1879
     refine ⟨_, rfl, ?_⟩
     replace hC := hC.turnF 1 rfl hB1882 hm1884
     refine s_add rfl rfl ?_
     refine s_bslice (sz := 1) hC [(0, .int .i64 1), (1, .int .i64 2), (2, .int .i64 2), (3, .int .i64 3), (4, .int .i64 3), (5, .int .i64 4), (6, .int .i64 5), (7, .int .i64 (IntKind.i64.wrap (1 + r1881)))] ((EI .i64).encs [1, 2, 2, 3, 3, 4, 5, IntKind.i64.wrap (1 + r1881)]) rfl (fun _ => bs22_8 1 2 2 3 3 4 5 (IntKind.i64.wrap (1 + r1881)) _) rfl (by decide) fun b1885 w1886 hB_ hC => ?_
     refine s_call [.pointer (some ⟨b11, 0, none⟩), .slice (some ⟨b1885, 0, none⟩) 8 8] _ Try.func89 rfl rfl rfl (c_spec_l01Pick (a0, m1883.1, m1883.2) [1, 2, 2, 3, 3, 4, 5, IntKind.i64.wrap (1 + r1881)] h _ (own_repE (hC.getM 0 rfl)) (hC.getP 0 rfl) (hC.getM 2 rfl) (fun b_ hb_ hb2_ => hC.pd _ (List.mem_of_getElem? (i := 0) rfl) b_ hb_ _ (List.mem_of_getElem? (i := 2) rfl) hb2_) (fun b_ hb_ hb2_ => hC.mm 0 2 rfl rfl (by decide) b_ hb_ hb2_)) (fun ret1888 w1890 hR1889 => ?_)
     obtain ⟨r1891, m1893, rfl, h, hm1894, hB1892⟩ := hR1889
     refine ⟨_, rfl, ?_⟩
     replace hC := hC.turnF 2 rfl hB1892 hm1894
     refine s_bslice (sz := 1) hC [(0, .int .i64 r1891)] ((EI .i64).encs [r1891]) rfl (fun _ => bs22_1 r1891 _) rfl (by decide) fun b1895 w1896 hB_ hC => ?_
     obtain ⟨hm1900, h⟩ := h
     refine s_app hC 2 Try.underlying22 el2 rfl (by decide) (by decide) rfl (own_rdr (hC.getM 0 rfl)) (fun q hq => Enc.encs_one' (E := (EI .i64)) _ q hq) rfl rfl hm1900 fun v1898 w1899 hC => ?_
     replace hC := own_re hC 2 ((s1871.2.2.1 ++ [r1891]).length) ((EI .i64).encs (s1871.2.2.1 ++ [r1891])) rfl (by simp) (by first | (simp [Enc.encs_append]; done) | simp [Enc.encs_append, Enc.encs])
     refine s_as (v := v1898) rfl ?_
     refine done ?_
     refine blk_norm ?_
     refine then_norm ?_
     refine cw_region ?_
     refine s_mv (v := .int .i64 s1871.2.2.2) (sx hS_ 3 rfl) ?_
     refine s_sub rfl rfl ?_
     refine s_as (v := .int .i64 (IntKind.i64.wrap (s1871.2.2.2 - 1))) rfl ?_
     refine done ?_
     replace hC := hC.sM [2, 3, 4, 5] (M' := [own 2 1 v1898 ((s1871.2.2.1 ++ [r1891]).length) ((EI .i64).encs (s1871.2.2.1 ++ [r1891])), blk b11 170 [u0_0, .int .i64 m1893.1, .int .u64 m1893.2], blk b5 49 (A8.enc .u8 A8.zero), blk b2 49 (A8.enc .u8 A8.zero)]) (by decide) rfl
     exact hK1875 (m1893.1, m1893.2, s1871.2.2.1 ++ [r1891], IntKind.i64.wrap (s1871.2.2.2 - 1)) _ _ ⟨v1898, (sk (sx hS_ 0 rfl) (sk (sx hS_ 1 rfl) (sk rfl (sk rfl sn)))), hC⟩ h
    ·replace h := iff_ h (cf hb1877)
     refine wp_exit (then_exit (then_exit (exit_in ?_)))
     refine then_norm ?_
     refine sr ?_
     refine s_mv (v := v1872) (sx hS_ 2 rfl) ?_
     refine s_as (v := v1872) rfl ?_
     refine dn ?_
     refine wp_ret ?_
     refine ret1 (fn := Try.f77) (v := v1872) rfl (res_tmp rfl) ⟨_, rfl, ?_⟩ (.inl rfl)
     refine s_inline [.pointer (some ⟨b11, 0, none⟩), v1872] Try.func76 rfl rfl 19 Try.ntmps76 (Nat.le_of_ble_eq_true rfl) rfl ?_
     refine sr ?_
     refine s_as (v := .slice none 0 0) rfl ?_
     refine dn ?_
     refine wp_seq ?_
     refine sr ?_
     refine s_mv (v := .pointer (some ⟨b11, 0, none⟩)) rfl ?_
     refine s_call [.pointer (some ⟨b11, 0, none⟩), .int .i64 40] _ Try.func88 rfl rfl rfl (c_spec_l01Next (a0, s1871.1, s1871.2.1) 40 h _ (hC.getP 0 rfl) (hC.getM 1 rfl) (fun b_ hb_ hb2_ => hC.pd _ (List.mem_of_getElem? (i := 0) rfl) b_ hb_ _ (List.mem_of_getElem? (i := 1) rfl) hb2_)) (fun ret1901 w1903 hR1902 => ?_)
     obtain ⟨r1904, m1906, rfl, h, hm1907, hB1905⟩ := hR1902
     refine ⟨_, rfl, ?_⟩
     replace hC := hC.turnF 1 rfl hB1905 hm1907
     refine dn ?_
     refine wp_block ?_
     refine sr ?_
     refine s_eql rfl rfl ?_
     refine s_as (v := .bool (decide (r1904 = 0))) rfl ?_
     refine dn ?_
     refine cw_cond rfl (fun hb1908 => ?_) (fun hb1908 => ?_)
     ·replace h := ift h (ct hb1908)
      refine sr ?_
      refine s_mv (v := v1872) rfl ?_
      refine s_mv (v := .pointer (some ⟨b11, 0, none⟩)) rfl ?_
      refine s_bslice (sz := 1) hC [(0, .int .i64 0), (1, .int .i64 13), (2, .int .i64 (-1))] ((EI .i64).encs [0, 13, (-1)]) rfl (fun _ => bs22_3 0 13 (-1) _) rfl (by decide) fun b1909 w1910 hB_ hC => ?_
      refine s_call [.pointer (some ⟨b11, 0, none⟩), .slice (some ⟨b1909, 0, none⟩) 3 3] _ Try.func89 rfl rfl rfl (c_spec_l01Pick (a0, m1906.1, m1906.2) [0, 13, (-1)] h _ (own_repE (hC.getM 0 rfl)) (hC.getP 0 rfl) (hC.getM 2 rfl) (fun b_ hb_ hb2_ => hC.pd _ (List.mem_of_getElem? (i := 0) rfl) b_ hb_ _ (List.mem_of_getElem? (i := 2) rfl) hb2_) (fun b_ hb_ hb2_ => hC.mm 0 2 rfl rfl (by decide) b_ hb_ hb2_)) (fun ret1912 w1914 hR1913 => ?_)
      obtain ⟨r1915, m1917, rfl, h, hm1918, hB1916⟩ := hR1913
      refine ⟨_, rfl, ?_⟩
      replace hC := hC.turnF 2 rfl hB1916 hm1918
      refine s_bslice (sz := 1) hC [(0, .int .i64 r1915)] ((EI .i64).encs [r1915]) rfl (fun _ => bs22_1 r1915 _) rfl (by decide) fun b1919 w1920 hB_ hC => ?_
      obtain ⟨hm1924, h⟩ := h
      refine s_app hC 2 Try.underlying22 el2 rfl (by decide) (by decide) rfl (own_rdr (hC.getM 0 rfl)) (fun q hq => Enc.encs_one' (E := (EI .i64)) _ q hq) rfl rfl hm1924 fun v1922 w1923 hC => ?_
      replace hC := own_re hC 2 ((s1871.2.2.1 ++ [r1915]).length) ((EI .i64).encs (s1871.2.2.1 ++ [r1915])) rfl (by simp) (by first | (simp [Enc.encs_append]; done) | simp [Enc.encs_append, Enc.encs])
      refine s_as (v := v1922) rfl ?_
      refine dn ?_
      refine wp_ret (blk_ret (then_ret ?_))
      refine ret1 (fn := Try.f76) (v := v1922) rfl (res_tmp rfl) ⟨_, rfl, ?_⟩ (.inl rfl)
      refine s_as (v := v1922) rfl ?_
      refine dn ?_
      refine sr ?_
      refine s_mv (v := v1922) rfl ?_
      refine s_mv (v := .pointer (some ⟨b11, 0, none⟩)) rfl ?_
      refine s_mv (v := v1922) rfl ?_
      refine s_call [.pointer (some ⟨b11, 0, none⟩), v1922] _ Try.func78 rfl rfl rfl (c_spec_l01DrawMono (a0, m1917.1, m1917.2) (s1871.2.2.1 ++ [r1915]) h _ (own_repE (hC.getM 2 rfl)) (hC.getP 0 rfl) (hC.getM 3 rfl) (fun b_ hb_ hb2_ => hC.pd _ (List.mem_of_getElem? (i := 0) rfl) b_ hb_ _ (List.mem_of_getElem? (i := 3) rfl) hb2_) (fun b_ hb_ hb2_ => hC.mm 2 3 rfl rfl (by decide) b_ hb_ hb2_)) (fun ret1925 w1927 hR1926 => ?_)
      obtain ⟨r1928, m1930, rfl, h, hm1931, hB1929⟩ := hR1926
      refine ⟨_, rfl, ?_⟩
      replace hC := hC.turnF 3 rfl hB1929 hm1931
      refine s_mv (v := .pointer (some ⟨b11, 0, none⟩)) rfl ?_
      refine s_mv (v := v1922) rfl ?_
      refine s_call [.pointer (some ⟨b11, 0, none⟩), v1922] _ Try.func78 rfl rfl rfl (c_spec_l01DrawMono (a0, m1930.1, m1930.2) (s1871.2.2.1 ++ [r1915]) h _ (own_repE (hC.getM 2 rfl)) (hC.getP 0 rfl) (hC.getM 3 rfl) (fun b_ hb_ hb2_ => hC.pd _ (List.mem_of_getElem? (i := 0) rfl) b_ hb_ _ (List.mem_of_getElem? (i := 3) rfl) hb2_) (fun b_ hb_ hb2_ => hC.mm 2 3 rfl rfl (by decide) b_ hb_ hb2_)) (fun ret1932 w1934 hR1933 => ?_)
      obtain ⟨r1935, m1937, rfl, h, hm1938, hB1936⟩ := hR1933
      refine ⟨_, rfl, ?_⟩
      replace hC := hC.turnF 3 rfl hB1936 hm1938
      refine s_as (v := v1922) rfl ?_
      refine s_store (v := .agg (List.toArray (A8.enc .u8 r1928))) hC 5 (A8.enc .u8 r1928) (A8.enc .u8 r1928) rfl ag49.size rfl rfl rfl rfl rfl (Nat.le_of_ble_eq_true rfl) rfl fun w1939 hC => ?_
      refine s_store (v := .agg (List.toArray (A8.enc .u8 r1935))) hC 4 (A8.enc .u8 r1935) (A8.enc .u8 r1935) rfl ag49.size rfl rfl rfl rfl rfl (Nat.le_of_ble_eq_true rfl) rfl fun w1940 hC => ?_
      refine dn ?_
      refine wp_ret ?_
      refine ret3 (fn := Try.f25) rfl ?_ ?_ ?_ ⟨s1871.2.2.1 ++ [r1915], v1922, (Option.toList (Value.ownBlock v1922)), r1928, r1935, rfl, h, (own_item (hC.getM 2 rfl)), (own_fresh hC 2 rfl), hC.below⟩ (.inl rfl)
      ·exact res_tmp rfl
      ·exact res_cellA hC 5 rfl ag49 rfl rfl
      ·exact res_cellA hC 4 rfl ag49 rfl rfl
     ·replace h := iff_ h (cf hb1908)
      refine sr ?_
      refine s_eql rfl rfl ?_
      refine s_as (v := .bool (decide (r1904 = 1))) rfl ?_
      refine dn ?_
      refine cw_cond rfl (fun hb1941 => ?_) (fun hb1941 => ?_)
      ·replace h := ift h (ct hb1941)
       refine sr ?_
       refine s_bslice (sz := 1) hC [(0, .int .i64 2), (1, .int .i64 2), (2, .int .i64 2), (3, .int .i64 2), (4, .int .i64 2), (5, .int .i64 2), (6, .int .i64 2), (7, .int .i64 2), (8, .int .i64 2)] ((EI .i64).encs [2, 2, 2, 2, 2, 2, 2, 2, 2]) rfl (fun _ => bs22_9 2 2 2 2 2 2 2 2 2 _) rfl (by decide) fun b1942 w1943 hB_ hC => ?_
       refine s_as (v := .slice (some ⟨b1942, 0, none⟩) 9 9) rfl ?_
       refine dn ?_
       refine wp_ret (blk_ret (then_ret ?_))
       refine ret1 (fn := Try.f76) (v := .slice (some ⟨b1942, 0, none⟩) 9 9) rfl (res_tmp rfl) ⟨_, rfl, ?_⟩ (.inl rfl)
       refine s_as (v := .slice (some ⟨b1942, 0, none⟩) 9 9) rfl ?_
       refine dn ?_
       refine sr ?_
       refine s_mv (v := .slice (some ⟨b1942, 0, none⟩) 9 9) rfl ?_
       refine s_mv (v := .pointer (some ⟨b11, 0, none⟩)) rfl ?_
       refine s_mv (v := .slice (some ⟨b1942, 0, none⟩) 9 9) rfl ?_
       refine s_call [.pointer (some ⟨b11, 0, none⟩), .slice (some ⟨b1942, 0, none⟩) 9 9] _ Try.func78 rfl rfl rfl (c_spec_l01DrawMono (a0, m1906.1, m1906.2) [2, 2, 2, 2, 2, 2, 2, 2, 2] h _ (own_repE (hC.getM 0 rfl)) (hC.getP 0 rfl) (hC.getM 2 rfl) (fun b_ hb_ hb2_ => hC.pd _ (List.mem_of_getElem? (i := 0) rfl) b_ hb_ _ (List.mem_of_getElem? (i := 2) rfl) hb2_) (fun b_ hb_ hb2_ => hC.mm 0 2 rfl rfl (by decide) b_ hb_ hb2_)) (fun ret1945 w1947 hR1946 => ?_)
       obtain ⟨r1948, m1950, rfl, h, hm1951, hB1949⟩ := hR1946
       refine ⟨_, rfl, ?_⟩
       replace hC := hC.turnF 2 rfl hB1949 hm1951
       refine s_mv (v := .pointer (some ⟨b11, 0, none⟩)) rfl ?_
       refine s_mv (v := .slice (some ⟨b1942, 0, none⟩) 9 9) rfl ?_
       refine s_call [.pointer (some ⟨b11, 0, none⟩), .slice (some ⟨b1942, 0, none⟩) 9 9] _ Try.func78 rfl rfl rfl (c_spec_l01DrawMono (a0, m1950.1, m1950.2) [2, 2, 2, 2, 2, 2, 2, 2, 2] h _ (own_repE (hC.getM 0 rfl)) (hC.getP 0 rfl) (hC.getM 2 rfl) (fun b_ hb_ hb2_ => hC.pd _ (List.mem_of_getElem? (i := 0) rfl) b_ hb_ _ (List.mem_of_getElem? (i := 2) rfl) hb2_) (fun b_ hb_ hb2_ => hC.mm 0 2 rfl rfl (by decide) b_ hb_ hb2_)) (fun ret1952 w1954 hR1953 => ?_)
       obtain ⟨r1955, m1957, rfl, h, hm1958, hB1956⟩ := hR1953
       refine ⟨_, rfl, ?_⟩
       replace hC := hC.turnF 2 rfl hB1956 hm1958
       refine s_as (v := .slice (some ⟨b1942, 0, none⟩) 9 9) rfl ?_
       refine s_store (v := .agg (List.toArray (A8.enc .u8 r1948))) hC 4 (A8.enc .u8 r1948) (A8.enc .u8 r1948) rfl ag49.size rfl rfl rfl rfl rfl (Nat.le_of_ble_eq_true rfl) rfl fun w1959 hC => ?_
       refine s_store (v := .agg (List.toArray (A8.enc .u8 r1955))) hC 3 (A8.enc .u8 r1955) (A8.enc .u8 r1955) rfl ag49.size rfl rfl rfl rfl rfl (Nat.le_of_ble_eq_true rfl) rfl fun w1960 hC => ?_
       refine dn ?_
       refine wp_ret ?_
       refine ret3 (fn := Try.f25) rfl ?_ ?_ ?_ ⟨[2, 2, 2, 2, 2, 2, 2, 2, 2], .slice (some ⟨b1942, 0, none⟩) 9 9, (Option.toList (Value.ownBlock (.slice (some ⟨b1942, 0, none⟩) 9 9))), r1948, r1955, rfl, h, (own_item (hC.getM 0 rfl)), (own_fresh hC 0 rfl), hC.below⟩ (.inl rfl)
       ·exact res_tmp rfl
       ·exact res_cellA hC 4 rfl ag49 rfl rfl
       ·exact res_cellA hC 3 rfl ag49 rfl rfl
      ·replace h := iff_ h (cf hb1941)
       refine wp_skip ?_
       refine blk_norm ?_
       refine then_norm ?_
       refine sr ?_
       refine s_mv (v := v1872) rfl ?_
       refine s_as (v := v1872) rfl ?_
       refine dn ?_
       refine wp_ret ?_
       refine ret1 (fn := Try.f76) (v := v1872) rfl (res_tmp rfl) ⟨_, rfl, ?_⟩ (.inl rfl)
       refine s_as (v := v1872) rfl ?_
       refine dn ?_
       refine sr ?_
       refine s_mv (v := v1872) rfl ?_
       refine s_mv (v := .pointer (some ⟨b11, 0, none⟩)) rfl ?_
       refine s_mv (v := v1872) rfl ?_
       refine s_call [.pointer (some ⟨b11, 0, none⟩), v1872] _ Try.func78 rfl rfl rfl (c_spec_l01DrawMono (a0, m1906.1, m1906.2) s1871.2.2.1 h _ (own_repE (hC.getM 0 rfl)) (hC.getP 0 rfl) (hC.getM 1 rfl) (fun b_ hb_ hb2_ => hC.pd _ (List.mem_of_getElem? (i := 0) rfl) b_ hb_ _ (List.mem_of_getElem? (i := 1) rfl) hb2_) (fun b_ hb_ hb2_ => hC.mm 0 1 rfl rfl (by decide) b_ hb_ hb2_)) (fun ret1961 w1963 hR1962 => ?_)
       obtain ⟨r1964, m1966, rfl, h, hm1967, hB1965⟩ := hR1962
       refine ⟨_, rfl, ?_⟩
       replace hC := hC.turnF 1 rfl hB1965 hm1967
       refine s_mv (v := .pointer (some ⟨b11, 0, none⟩)) rfl ?_
       refine s_mv (v := v1872) rfl ?_
       refine s_call [.pointer (some ⟨b11, 0, none⟩), v1872] _ Try.func78 rfl rfl rfl (c_spec_l01DrawMono (a0, m1966.1, m1966.2) s1871.2.2.1 h _ (own_repE (hC.getM 0 rfl)) (hC.getP 0 rfl) (hC.getM 1 rfl) (fun b_ hb_ hb2_ => hC.pd _ (List.mem_of_getElem? (i := 0) rfl) b_ hb_ _ (List.mem_of_getElem? (i := 1) rfl) hb2_) (fun b_ hb_ hb2_ => hC.mm 0 1 rfl rfl (by decide) b_ hb_ hb2_)) (fun ret1968 w1970 hR1969 => ?_)
       obtain ⟨r1971, m1973, rfl, h, hm1974, hB1972⟩ := hR1969
       refine ⟨_, rfl, ?_⟩
       replace hC := hC.turnF 1 rfl hB1972 hm1974
       refine s_as (v := v1872) rfl ?_
       refine s_store (v := .agg (List.toArray (A8.enc .u8 r1964))) hC 3 (A8.enc .u8 r1964) (A8.enc .u8 r1964) rfl ag49.size rfl rfl rfl rfl rfl (Nat.le_of_ble_eq_true rfl) rfl fun w1975 hC => ?_
       refine s_store (v := .agg (List.toArray (A8.enc .u8 r1971))) hC 2 (A8.enc .u8 r1971) (A8.enc .u8 r1971) rfl ag49.size rfl rfl rfl rfl rfl (Nat.le_of_ble_eq_true rfl) rfl fun w1976 hC => ?_
       refine dn ?_
       refine wp_ret ?_
       refine ret3 (fn := Try.f25) rfl ?_ ?_ ?_ ⟨s1871.2.2.1, v1872, (Option.toList (Value.ownBlock v1872)), r1964, r1971, rfl, h, (own_item (hC.getM 0 rfl)), (own_fresh hC 0 rfl), hC.below⟩ (.inl rfl)
       ·exact res_tmp rfl
       ·exact res_cellA hC 3 rfl ag49 rfl rfl
       ·exact res_cellA hC 2 rfl ag49 rfl rfl
   ·skip
    exact ⟨.slice (some ⟨b1658, 0, none⟩) 0 0, (sk rfl (sk rfl (sk rfl (sk rfl sn)))), hC⟩
 ·skip
  exact ⟨(sk rfl (sk rfl (sk rfl sn))), hC⟩
def f_impl_IsMonomial (a0 : List Int) (a1 : A8) (K : Bool → Prop) : Prop :=
 f_impl_AreDegrees a0 (fun r8 => (if r8 = true then f_impl_isMonomial a0 a1 (fun r14 => K r14) else K false))
theorem c_impl_IsMonomial (a0 : List Int) (a1 : A8) {u0_0 : Value} {fp0 : List Nat} {K : Bool → Prop} (h : f_impl_IsMonomial a0 a1 K) (w0 : World) (q0 : ((EI .i64).ty.sl).rep a0 [u0_0] fp0 w0) :
  Calls Try.prog 28 #[u0_0, .agg (List.toArray (A8.enc .u8 a1))] w0 fun e w' => ∃ (r0 : Bool), 
   e = .returned (.bool r0) ∧ K r0 ∧ Bel w0 w' := by
 unfold f_impl_IsMonomial at h
 refine calls_of (args := [u0_0, .agg (List.toArray (A8.enc .u8 a1))]) Try.func28 rfl 12 Try.ntmps28 (Nat.le_of_ble_eq_true rfl) ?_
 have hC := Ctx.start (X := Nox) w0 [Ty.item ((EI .i64).ty.sl) a0 [u0_0] fp0] (by simp only [List.mem_cons, List.not_mem_nil, or_false, forall_eq_or_imp, forall_eq]; exact q0)
 refine sr ?_
 refine s_box (v := .agg (List.toArray (A8.enc .u8 a1))) hC (A8.enc .u8 a1) rfl rfl fun b2 w4 hB_ hC => ?_
 refine s_as (v := .bool false) rfl ?_
 refine dn ?_
 refine sr ?_
 refine s_mv (v := u0_0) rfl ?_
 refine s_call [u0_0] _ Try.func30 rfl rfl rfl (c_impl_AreDegrees a0 h _ (hC.getP 0 rfl)) (fun ret5 w7 hR6 => ?_)
 obtain ⟨r8, rfl, h, hB9⟩ := hR6
 refine ⟨_, rfl, ?_⟩
 replace hC := hC.grow hB9
 refine s_mv (v := .bool r8) rfl ?_
 refine bsplit r8 (fun hb10 => ?_) (fun hb10 => ?_)
 ·replace h := ift h (hb10)
  refine guardOn 2 7 rfl rfl hb10 ?_
  refine s_mv (v := u0_0) rfl ?_
  refine guardOn 2 7 rfl rfl hb10 ?_
  refine s_loadA hC 0 (A8.enc .u8 a1) rfl ag49 rfl rfl rfl ?_
  refine guardOn 2 7 rfl rfl hb10 ?_
  refine s_call [u0_0, .agg (List.toArray (A8.enc .u8 a1))] _ Try.func84 rfl rfl rfl (c_impl_isMonomial a0 a1 h _ (hC.getP 0 rfl)) (fun ret11 w13 hR12 => ?_)
  obtain ⟨r14, rfl, h, hB15⟩ := hR12
  refine ⟨_, rfl, ?_⟩
  replace hC := hC.grow hB15
  refine s_pick (v := .bool r14) (b := true) (tr rfl (congrArg _ hb10)) rfl ?_
  refine s_as (v := .bool r14) rfl ?_
  refine dn ?_
  refine wp_ret ?_
  refine ret1 (fn := Try.f28) rfl ?_ ⟨r14, rfl, h, hC.below⟩ (.inl rfl)
  exact res_tmp rfl
 ·replace h := iff_ h (ne_t hb10)
  refine guardOff (b := false) 2 7 rfl (tr rfl (congrArg _ hb10)) (by decide) ?_
  refine guardOff (b := false) 2 7 rfl (tr rfl (congrArg _ hb10)) (by decide) ?_
  refine guardOff (b := false) 2 7 rfl (tr rfl (congrArg _ hb10)) (by decide) ?_
  refine s_pick (v := .bool false) (b := false) (tr rfl (congrArg _ hb10)) rfl ?_
  refine s_as (v := .bool false) rfl ?_
  refine dn ?_
  refine wp_ret ?_
  refine ret1 (fn := Try.f28) rfl ?_ ⟨false, rfl, h, hC.below⟩ (.inl rfl)
  exact res_tmp rfl
def f_impl_MultiplyMonomials (a0 : List Int) (a1 : A8) (a2 : A8) (K : A8 → Int → Int → Prop) : Prop :=
 f_impl_IsMonomial a0 a1 (fun r14 => (if ¬ (r14 = true) then K A8.zero 0 1 else f_impl_IsMonomial a0 a2 (fun r21 => (if ¬ (r21 = true) then K A8.zero 0 1 else f_impl_powerOf a1 (fun r129 => f_impl_powerOf a2 (fun r134 => f_impl_power_times r129 a0 r134 (fun r139 r140 => (if r140 = 0 then K A8.zero 0 0 else f_impl_sum_form (mset ([] : List (A8 × Int)) r139 1) (fun r103 r108 => (if r108 ≠ 0 then K A8.zero 0 r108 else ((0 ≤ (0 : Int) ∧ (0 : Int) < (r103.terms.length : Int)) ∧ K ((r103.terms.getD 0 default).mono) r140 0)))))))))))
theorem c_impl_MultiplyMonomials (a0 : List Int) (a1 : A8) (a2 : A8) {u0_0 : Value} {fp0 : List Nat} {K : A8 → Int → Int → Prop} (h : f_impl_MultiplyMonomials a0 a1 a2 K) (w0 : World) (q0 : ((EI .i64).ty.sl).rep a0 [u0_0] fp0 w0) :
  Calls Try.prog 26 #[u0_0, .agg (List.toArray (A8.enc .u8 a1)), .agg (List.toArray (A8.enc .u8 a2))] w0 fun e w' => ∃ (r0 : A8) (r1 : Int) (r2 : Int), 
   e = .returned (.tuple #[.agg (List.toArray (A8.enc .u8 r0)), .int .i64 r1, .int .i64 r2]) ∧ K r0 r1 r2 ∧ Bel w0 w' := by
 unfold f_impl_MultiplyMonomials at h
 refine calls_of (args := [u0_0, .agg (List.toArray (A8.enc .u8 a1)), .agg (List.toArray (A8.enc .u8 a2))]) Try.func26 rfl 53 Try.ntmps26 (Nat.le_of_ble_eq_true rfl) ?_
 have hC := Ctx.start (X := Nox) w0 [Ty.item ((EI .i64).ty.sl) a0 [u0_0] fp0] (by simp only [List.mem_cons, List.not_mem_nil, or_false, forall_eq_or_imp, forall_eq]; exact q0)
 refine sr ?_
 refine s_box (v := .agg (List.toArray (A8.enc .u8 a1))) hC (A8.enc .u8 a1) rfl rfl fun b2 w4 hB_ hC => ?_
 refine s_box (v := .agg (List.toArray (A8.enc .u8 a2))) hC (A8.enc .u8 a2) rfl rfl fun b5 w7 hB_ hC => ?_
 refine s_alloc hC (A8.enc .u8 A8.zero) z49 rfl fun b8 w10 hB_ hC => ?_
 refine s_as (v := .int .i64 0) rfl ?_
 refine s_as (v := .int .i64 0) rfl ?_
 refine dn ?_
 refine wp_seq ?_
 refine sr ?_
 refine s_mv (v := u0_0) rfl ?_
 refine s_loadA hC 2 (A8.enc .u8 a1) rfl ag49 rfl rfl rfl ?_
 refine s_call [u0_0, .agg (List.toArray (A8.enc .u8 a1))] _ Try.func28 rfl rfl rfl (c_impl_IsMonomial a0 a1 h _ (hC.getP 0 rfl)) (fun ret11 w13 hR12 => ?_)
 obtain ⟨r14, rfl, h, hB15⟩ := hR12
 refine ⟨_, rfl, ?_⟩
 replace hC := hC.grow hB15
 refine s_not rfl ?_
 refine s_mv (v := .bool (!r14)) rfl ?_
 refine bsplit (!r14) (fun hb16 => ?_) (fun hb16 => ?_)
 ·replace h := ift h (ne_t (not_t hb16))
  refine guardOff (b := true) 4 17 rfl (tr rfl (congrArg _ hb16)) (by decide) ?_
  refine guardOff (b := true) 4 17 rfl (tr rfl (congrArg _ hb16)) (by decide) ?_
  refine guardOff (b := true) 4 17 rfl (tr rfl (congrArg _ hb16)) (by decide) ?_
  refine guardOff (b := true) 4 17 rfl (tr rfl (congrArg _ hb16)) (by decide) ?_
  refine s_pick (v := .bool true) (b := true) (tr rfl (congrArg _ hb16)) rfl ?_
  refine dn ?_
  refine cw_true rfl rfl ?_
  refine sr ?_
  refine s_build [] rfl (bl49   _) ?_
  refine s_store (v := .agg (List.toArray (A8.enc .u8 A8.zero))) hC 0 (A8.enc .u8 A8.zero) (A8.enc .u8 A8.zero) rfl ag49.size rfl rfl rfl rfl rfl (Nat.le_of_ble_eq_true rfl) rfl fun w17 hC => ?_
  refine s_as (v := .int .i64 0) rfl ?_
  refine s_as (v := .int .i64 1) rfl ?_
  refine dn ?_
  refine wp_ret (then_ret ?_)
  refine ret3 (fn := Try.f26) rfl ?_ ?_ ?_ ⟨A8.zero, 0, 1, rfl, h, hC.below⟩ (.inl rfl)
  ·exact res_cellA hC 0 rfl ag49 rfl rfl
  ·exact res_tmp rfl
  ·exact res_tmp rfl
 ·replace h := iff_ h (not_not_intro ((not_f hb16)))
  refine guardOn 4 17 rfl rfl hb16 ?_
  refine s_mv (v := u0_0) rfl ?_
  refine guardOn 4 17 rfl rfl hb16 ?_
  refine s_loadA hC 1 (A8.enc .u8 a2) rfl ag49 rfl rfl rfl ?_
  refine guardOn 4 17 rfl rfl hb16 ?_
  refine s_call [u0_0, .agg (List.toArray (A8.enc .u8 a2))] _ Try.func28 rfl rfl rfl (c_impl_IsMonomial a0 a2 h _ (hC.getP 0 rfl)) (fun ret18 w20 hR19 => ?_)
  obtain ⟨r21, rfl, h, hB22⟩ := hR19
  refine ⟨_, rfl, ?_⟩
  replace hC := hC.grow hB22
  refine guardOn 4 17 rfl rfl hb16 ?_
  refine s_not rfl ?_
  refine s_pick (v := .bool (!r21)) (b := false) (tr rfl (congrArg _ hb16)) rfl ?_
  refine dn ?_
  refine cw_cond rfl (fun hb23 => ?_) (fun hb23 => ?_)
  ·replace h := ift h (ne_t (not_t hb23))
   refine sr ?_
   refine s_build [] rfl (bl49   _) ?_
   refine s_store (v := .agg (List.toArray (A8.enc .u8 A8.zero))) hC 0 (A8.enc .u8 A8.zero) (A8.enc .u8 A8.zero) rfl ag49.size rfl rfl rfl rfl rfl (Nat.le_of_ble_eq_true rfl) rfl fun w24 hC => ?_
   refine s_as (v := .int .i64 0) rfl ?_
   refine s_as (v := .int .i64 1) rfl ?_
   refine dn ?_
   refine wp_ret (then_ret ?_)
   refine ret3 (fn := Try.f26) rfl ?_ ?_ ?_ ⟨A8.zero, 0, 1, rfl, h, hC.below⟩ (.inl rfl)
   ·exact res_cellA hC 0 rfl ag49 rfl rfl
   ·exact res_tmp rfl
   ·exact res_tmp rfl
  ·replace h := iff_ h (not_not_intro ((not_f hb23)))
   refine wp_skip ?_
   refine then_norm ?_
   refine wp_seq ?_
   refine cw_draw 10 mixed [0, 1, 0, 0, 11, 31, 63, 127, 127, 0, 767, 2047] [0, 3] [2, 6, 7, 8] (by kernel_rfl) (by kernel_rfl) (by kernel_rfl) (fun hM26 hM27 w25 hB_ => ?_)
   replace hC := hC.grow hB_
   refine aL 0 (.agg (List.toArray (A8.enc .u8 a1))) rfl rfl (hM26 0 rfl) (rfl) (fun _ hB_ => by exact r_loadA (hC.grow hB_) 2 (A8.enc .u8 a1) rfl ag49 rfl rfl rfl) (dbits 12 1) ?_
   refine aF 2 (u0_0) rfl rfl (hM27 2 rfl) (rfl) (fun _ => by exact r_mv (v := u0_0) rfl) (dbits 12 5) ?_
   refine aL 3 (.agg (List.toArray (A8.enc .u8 a2))) rfl rfl (hM26 3 rfl) (rfl) (fun _ hB_ => by exact r_loadA (hC.grow hB_) 1 (A8.enc .u8 a2) rfl ag49 rfl rfl rfl) (dbits 12 13) ?_
   refine ae_join (fun e_ w_ => ∃ (b44 : Nat), ∃ (r41 : A8), ∃ (r42 : Int), Slots e_ [(6, .pointer (some ⟨b8, 0, none⟩)), (7, .int .i64 0), (8, .int .i64 0), (9, .pointer (some ⟨b44, 0, none⟩)), (10, .int .i64 r42)] ∧ Ctx Nox w0 w_ [blk b44 101 (A8.enc .i64 r41), blk b8 49 (A8.enc .u8 A8.zero)] [Ty.item ((EI .i64).ty.sl) a0 [u0_0] fp0] ∧ (if r42 = 0 then K A8.zero 0 0 else f_impl_sum_form (mset ([] : List (A8 × Int)) r41 1) (fun r103 r108 => (if r108 ≠ 0 then K A8.zero 0 r108 else ((0 ≤ (0 : Int) ∧ (0 : Int) < (r103.terms.length : Int)) ∧ K ((r103.terms.getD 0 default).mono) r42 0))))) ?_ ?_
   ·clear hC h
    rintro e_ w93 ⟨b44, r41, r42, hS_, hC, h⟩
    refine then_norm ?_
    refine wp_seq ?_
    refine sr ?_
    refine s_mv (v := .int .i64 r42) (sx hS_ 4 rfl) ?_
    refine s_eql rfl rfl ?_
    refine dn ?_
    refine cw_cond rfl (fun hb94 => ?_) (fun hb94 => ?_)
    ·replace h := ift h (ct hb94)
     refine sr ?_
     refine s_build [] rfl (bl49   _) ?_
     refine s_store (v := .agg (List.toArray (A8.enc .u8 A8.zero))) hC 1 (A8.enc .u8 A8.zero) (A8.enc .u8 A8.zero) rfl ag49.size (sx hS_ 0 rfl) rfl rfl rfl rfl (Nat.le_of_ble_eq_true rfl) rfl fun w95 hC => ?_
     refine s_as (v := .int .i64 0) rfl ?_
     refine s_as (v := .int .i64 0) rfl ?_
     refine dn ?_
     refine wp_ret (then_ret ?_)
     refine ret3 (fn := Try.f26) rfl ?_ ?_ ?_ ⟨A8.zero, 0, 0, rfl, h, hC.below⟩ (.inl rfl)
     ·exact res_cellA hC 1 rfl ag49 (sx hS_ 0 rfl) rfl
     ·exact res_tmp rfl
     ·exact res_tmp rfl
    ·replace h := iff_ h (cf hb94)
     refine wp_skip ?_
     refine then_norm ?_
     refine sr ?_
     refine s_makeMap hC (kvA .i64) (vvI .i64) fun b96 w98 hB_ hC => ?_
     refine s_loadA hC 1 (A8.enc .i64 r41) rfl ag101 (sx hS_ 3 rfl) rfl rfl ?_
     refine s_mapset hC 0 r41 1 rfl kt101 Try.underlying99 rfl rfl rfl (fun w99 hC => ?_) (.inr rfl)
     refine s_mv (v := .map (some b96)) rfl ?_
     refine s_call [.map (some b96)] _ Try.func73 rfl rfl rfl (c_impl_sum_form (mset ([] : List (A8 × Int)) r41 1) h _ (hC.getM 0 rfl)) (fun ret100 w102 hR101 => ?_)
     obtain ⟨r103, u104, f105, r108, rfl, h, hr106, hf107, hB109⟩ := hR101
     refine ⟨_, rfl, ?_⟩
     replace hC := hC.push hB109 (Tr.item (TrForm 114) r103 [u104] f105) hr106 hf107
     obtain ⟨ho111, hf112⟩ := form_split (hC.getM 0 rfl)
     subst hf112
     replace hC := hC.recast (c := own 114 9 u104 r103.terms.length (ETerm.encs r103.terms)) (fun _ h_ => h_) (fun _ => ho111)
     refine s_mv (v := .tuple #[.agg #[u104], .int .i64 r108]) rfl ?_
     refine s_ext (v := .agg #[u104]) rfl rfl ?_
     refine s_ext (v := .int .i64 r108) rfl rfl ?_
     refine s_alloc hC [.slice none 0 0] z95 rfl fun b114 w116 hB_ hC => ?_
     refine s_store (v := .agg #[u104]) hC 0 [u104] [u104] rfl ag95.size rfl rfl rfl rfl (all_c (own_oneC (hC.getM 1 rfl)) rfl) (Nat.le_of_ble_eq_true rfl) rfl fun w117 hC => ?_
     refine s_as (v := .int .i64 r108) rfl ?_
     refine dn ?_
     refine wp_seq ?_
     refine sr ?_
     refine s_mv (v := .int .i64 r108) rfl ?_
     refine s_neq rfl rfl ?_
     refine dn ?_
     refine cw_cond rfl (fun hb118 => ?_) (fun hb118 => ?_)
     ·replace h := ift h (ct hb118)
      refine sr ?_
      refine s_build [] rfl (bl49   _) ?_
      refine s_mv (v := .int .i64 r108) rfl ?_
      refine s_store (v := .agg (List.toArray (A8.enc .u8 A8.zero))) hC 4 (A8.enc .u8 A8.zero) (A8.enc .u8 A8.zero) rfl ag49.size (sx hS_ 0 rfl) rfl rfl rfl rfl (Nat.le_of_ble_eq_true rfl) rfl fun w119 hC => ?_
      refine s_as (v := .int .i64 0) rfl ?_
      refine s_as (v := .int .i64 r108) rfl ?_
      refine dn ?_
      refine wp_ret (then_ret ?_)
      refine ret3 (fn := Try.f26) rfl ?_ ?_ ?_ ⟨A8.zero, 0, r108, rfl, h, hC.below⟩ (.inl rfl)
      ·exact res_cellA hC 4 rfl ag49 (sx hS_ 0 rfl) rfl
      ·exact res_tmp rfl
      ·exact res_tmp rfl
     ·replace h := iff_ h (cf hb118)
      refine wp_skip ?_
      refine then_norm ?_
      refine sr ?_
      refine s_faddrB 0 Try.underlying95 rfl sc93.size rfl rfl ?_
      refine s_loadS hC 0 (u104) rfl sc93 rfl rfl ?_
      obtain ⟨⟨h0_120, h1_121⟩, h⟩ := h
      obtain ⟨Ad122, c123, hv124⟩ := own_formE (hC.getM 1 rfl) (Nat.lt_of_le_of_lt (Nat.zero_le _) (show 0 < r103.terms.length by omega))
      refine s_iaddrO (0 * 9) Try.underlying93 ag114.size (tr rfl hv124) rfl h0_120 h1_121 rfl ?_
      refine s_faddrB (0 * 9 + 0) Try.underlying114 rfl ag49.size rfl rfl ?_
      refine s_loadCA (A8.enc .u8 ((r103.terms.getD 0 default).mono)) (cells_subO (o := 0) (k := 8) (own_cellsE (hC.getM 1 rfl) hv124 0 (show 0 < r103.terms.length by omega)) rfl) ag49 rfl rfl ?_
      refine s_mv (v := .int .i64 r42) (sx hS_ 4 rfl) ?_
      refine s_store (v := .agg (List.toArray (A8.enc .u8 ((r103.terms.getD 0 default).mono)))) hC 4 (A8.enc .u8 ((r103.terms.getD 0 default).mono)) (A8.enc .u8 ((r103.terms.getD 0 default).mono)) rfl ag49.size (sx hS_ 0 rfl) rfl rfl rfl rfl (Nat.le_of_ble_eq_true rfl) rfl fun w125 hC => ?_
      refine s_as (v := .int .i64 r42) rfl ?_
      refine s_as (v := .int .i64 0) rfl ?_
      refine dn ?_
      refine wp_ret ?_
      refine ret3 (fn := Try.f26) rfl ?_ ?_ ?_ ⟨(r103.terms.getD 0 default).mono, r42, 0, rfl, h, hC.below⟩ (.inl rfl)
      ·exact res_cellA hC 4 rfl ag49 (sx hS_ 0 rfl) rfl
      ·exact res_tmp rfl
      ·exact res_tmp rfl
   refine ae_two 1 9 rfl rfl (by kernel_rfl) ?_ ?_
   ·skip
    refine s_call [.agg (List.toArray (A8.enc .u8 a1))] _ Try.func79 rfl rfl rfl (c_impl_powerOf a1 h _) (fun ret126 w128 hR127 => ?_)
    obtain ⟨r129, rfl, h, hB130⟩ := hR127
    refine ⟨_, rfl, ?_⟩
    replace hC := hC.grow hB130
    refine done ?_
    refine aK (by assumption) (dbits 12 15) ?_
    refine ae_two 4 9 rfl rfl (by kernel_rfl) ?_ ?_
    ·skip
     refine s_call [.agg (List.toArray (A8.enc .u8 a2))] _ Try.func79 rfl rfl rfl (c_impl_powerOf a2 h _) (fun ret131 w133 hR132 => ?_)
     obtain ⟨r134, rfl, h, hB135⟩ := hR132
     refine ⟨_, rfl, ?_⟩
     replace hC := hC.grow hB135
     refine done ?_
     refine aK (by assumption) (dbits 12 31) ?_
     refine ae_two 5 9 rfl rfl (by kernel_rfl) ?_ ?_
     ·skip
      refine s_call [.agg (List.toArray (A8.enc .i64 r129)), u0_0, .agg (List.toArray (A8.enc .i64 r134))] _ Try.func80 rfl rfl rfl (c_impl_power_times r129 a0 r134 h _ (hC.getP 0 rfl)) (fun ret136 w138 hR137 => ?_)
      obtain ⟨r139, r140, rfl, h, hB141⟩ := hR137
      refine ⟨_, rfl, ?_⟩
      replace hC := hC.grow hB141
      refine done ?_
      refine aK (by assumption) (dbits 12 63) ?_
      refine aF 6 (.tuple #[.agg (List.toArray (A8.enc .i64 r139)), .int .i64 r140]) rfl rfl (hM27 6 rfl) (rfl) (fun _ => by exact r_mv (v := .tuple #[.agg (List.toArray (A8.enc .i64 r139)), .int .i64 r140]) rfl) (dbits 12 127) ?_
      refine aF 7 (.agg (List.toArray (A8.enc .i64 r139))) rfl rfl (hM27 7 rfl) (rfl) (fun _ => by exact r_ext (v := .agg (List.toArray (A8.enc .i64 r139))) rfl rfl) (dbits 12 255) ?_
      refine aF 8 (.int .i64 r140) rfl rfl (hM27 8 rfl) (rfl) (fun _ => by exact r_ext (v := .int .i64 r140) rfl rfl) (dbits 12 511) ?_
      refine aO 9 rfl ?_
      refine s_alloc hC (A8.enc .i64 A8.zero) z101 rfl fun b142 w144 hB_ hC => ?_
      refine done ?_
      refine aK (by assumption) (dbits 12 1023) ?_
      refine aO 10 rfl ?_
      refine s_store (v := .agg (List.toArray (A8.enc .i64 r139))) hC 0 (A8.enc .i64 r139) (A8.enc .i64 r139) rfl ag101.size rfl rfl rfl rfl rfl (Nat.le_of_ble_eq_true rfl) rfl fun w145 hC => ?_
      refine done ?_
      refine ak_introN (by decide) (l9 := (dbits 12 2047)) (by kernel_rfl) ?_
      refine ae_tail 11 (by decide) (by decide) (by kernel_rfl) (by kernel_rfl) rfl ?_
      refine s_as (v := .int .i64 r140) rfl ?_
      refine done ?_
      refine qn_norm ?_
      replace hC := hC.sM [0, 1] (M' := [blk b142 101 (A8.enc .i64 r139), blk b8 49 (A8.enc .u8 A8.zero)]) (by decide) rfl
      exact ⟨rfl, _, rfl, ⟨b142, r139, r140, (sk rfl (sk rfl (sk rfl (sk rfl (sk rfl sn))))), hC, h⟩⟩
     ·skip
      refine s_alloc hC (A8.enc .i64 A8.zero) z101 rfl fun b146 w148 hB_ hC => ?_
      refine done ?_
      refine aK (by assumption) (dbits 12 543) ?_
      refine aO 5 rfl ?_
      refine s_call [.agg (List.toArray (A8.enc .i64 r129)), u0_0, .agg (List.toArray (A8.enc .i64 r134))] _ Try.func80 rfl rfl rfl (c_impl_power_times r129 a0 r134 h _ (hC.getP 0 rfl)) (fun ret149 w151 hR150 => ?_)
      obtain ⟨r152, r153, rfl, h, hB154⟩ := hR150
      refine ⟨_, rfl, ?_⟩
      replace hC := hC.grow hB154
      refine done ?_
      refine aK (by assumption) (dbits 12 575) ?_
      refine aF 6 (.tuple #[.agg (List.toArray (A8.enc .i64 r152)), .int .i64 r153]) rfl rfl (hM27 6 rfl) (rfl) (fun _ => by exact r_mv (v := .tuple #[.agg (List.toArray (A8.enc .i64 r152)), .int .i64 r153]) rfl) (dbits 12 639) ?_
      refine aF 7 (.agg (List.toArray (A8.enc .i64 r152))) rfl rfl (hM27 7 rfl) (rfl) (fun _ => by exact r_ext (v := .agg (List.toArray (A8.enc .i64 r152))) rfl rfl) (dbits 12 767) ?_
      refine aF 8 (.int .i64 r153) rfl rfl (hM27 8 rfl) (rfl) (fun _ => by exact r_ext (v := .int .i64 r153) rfl rfl) (dbits 12 1023) ?_
      refine aO 10 rfl ?_
      refine s_store (v := .agg (List.toArray (A8.enc .i64 r152))) hC 0 (A8.enc .i64 r152) (A8.enc .i64 r152) rfl ag101.size rfl rfl rfl rfl rfl (Nat.le_of_ble_eq_true rfl) rfl fun w155 hC => ?_
      refine done ?_
      refine ak_introN (by decide) (l9 := (dbits 12 2047)) (by kernel_rfl) ?_
      refine ae_tail 11 (by decide) (by decide) (by kernel_rfl) (by kernel_rfl) rfl ?_
      refine s_as (v := .int .i64 r153) rfl ?_
      refine done ?_
      refine qn_norm ?_
      replace hC := hC.sM [0, 1] (M' := [blk b146 101 (A8.enc .i64 r152), blk b8 49 (A8.enc .u8 A8.zero)]) (by decide) rfl
      exact ⟨rfl, _, rfl, ⟨b146, r152, r153, (sk rfl (sk rfl (sk rfl (sk rfl (sk rfl sn))))), hC, h⟩⟩
    ·skip
     refine s_alloc hC (A8.enc .i64 A8.zero) z101 rfl fun b156 w158 hB_ hC => ?_
     refine done ?_
     refine aK (by assumption) (dbits 12 527) ?_
     refine aO 4 rfl ?_
     refine s_call [.agg (List.toArray (A8.enc .u8 a2))] _ Try.func79 rfl rfl rfl (c_impl_powerOf a2 h _) (fun ret159 w161 hR160 => ?_)
     obtain ⟨r162, rfl, h, hB163⟩ := hR160
     refine ⟨_, rfl, ?_⟩
     replace hC := hC.grow hB163
     refine done ?_
     refine aK (by assumption) (dbits 12 543) ?_
     refine aO 5 rfl ?_
     refine s_call [.agg (List.toArray (A8.enc .i64 r129)), u0_0, .agg (List.toArray (A8.enc .i64 r162))] _ Try.func80 rfl rfl rfl (c_impl_power_times r129 a0 r162 h _ (hC.getP 0 rfl)) (fun ret164 w166 hR165 => ?_)
     obtain ⟨r167, r168, rfl, h, hB169⟩ := hR165
     refine ⟨_, rfl, ?_⟩
     replace hC := hC.grow hB169
     refine done ?_
     refine aK (by assumption) (dbits 12 575) ?_
     refine aF 6 (.tuple #[.agg (List.toArray (A8.enc .i64 r167)), .int .i64 r168]) rfl rfl (hM27 6 rfl) (rfl) (fun _ => by exact r_mv (v := .tuple #[.agg (List.toArray (A8.enc .i64 r167)), .int .i64 r168]) rfl) (dbits 12 639) ?_
     refine aF 7 (.agg (List.toArray (A8.enc .i64 r167))) rfl rfl (hM27 7 rfl) (rfl) (fun _ => by exact r_ext (v := .agg (List.toArray (A8.enc .i64 r167))) rfl rfl) (dbits 12 767) ?_
     refine aF 8 (.int .i64 r168) rfl rfl (hM27 8 rfl) (rfl) (fun _ => by exact r_ext (v := .int .i64 r168) rfl rfl) (dbits 12 1023) ?_
     refine aO 10 rfl ?_
     refine s_store (v := .agg (List.toArray (A8.enc .i64 r167))) hC 0 (A8.enc .i64 r167) (A8.enc .i64 r167) rfl ag101.size rfl rfl rfl rfl rfl (Nat.le_of_ble_eq_true rfl) rfl fun w170 hC => ?_
     refine done ?_
     refine ak_introN (by decide) (l9 := (dbits 12 2047)) (by kernel_rfl) ?_
     refine ae_tail 11 (by decide) (by decide) (by kernel_rfl) (by kernel_rfl) rfl ?_
     refine s_as (v := .int .i64 r168) rfl ?_
     refine done ?_
     refine qn_norm ?_
     replace hC := hC.sM [0, 1] (M' := [blk b156 101 (A8.enc .i64 r167), blk b8 49 (A8.enc .u8 A8.zero)]) (by decide) rfl
     exact ⟨rfl, _, rfl, ⟨b156, r167, r168, (sk rfl (sk rfl (sk rfl (sk rfl (sk rfl sn))))), hC, h⟩⟩
   ·skip
    refine s_alloc hC (A8.enc .i64 A8.zero) z101 rfl fun b171 w173 hB_ hC => ?_
    refine done ?_
    refine aK (by assumption) (dbits 12 525) ?_
    refine aO 1 rfl ?_
    refine s_call [.agg (List.toArray (A8.enc .u8 a1))] _ Try.func79 rfl rfl rfl (c_impl_powerOf a1 h _) (fun ret174 w176 hR175 => ?_)
    obtain ⟨r177, rfl, h, hB178⟩ := hR175
    refine ⟨_, rfl, ?_⟩
    replace hC := hC.grow hB178
    refine done ?_
    refine aK (by assumption) (dbits 12 527) ?_
    refine aO 4 rfl ?_
    refine s_call [.agg (List.toArray (A8.enc .u8 a2))] _ Try.func79 rfl rfl rfl (c_impl_powerOf a2 h _) (fun ret179 w181 hR180 => ?_)
    obtain ⟨r182, rfl, h, hB183⟩ := hR180
    refine ⟨_, rfl, ?_⟩
    replace hC := hC.grow hB183
    refine done ?_
    refine aK (by assumption) (dbits 12 543) ?_
    refine aO 5 rfl ?_
    refine s_call [.agg (List.toArray (A8.enc .i64 r177)), u0_0, .agg (List.toArray (A8.enc .i64 r182))] _ Try.func80 rfl rfl rfl (c_impl_power_times r177 a0 r182 h _ (hC.getP 0 rfl)) (fun ret184 w186 hR185 => ?_)
    obtain ⟨r187, r188, rfl, h, hB189⟩ := hR185
    refine ⟨_, rfl, ?_⟩
    replace hC := hC.grow hB189
    refine done ?_
    refine aK (by assumption) (dbits 12 575) ?_
    refine aF 6 (.tuple #[.agg (List.toArray (A8.enc .i64 r187)), .int .i64 r188]) rfl rfl (hM27 6 rfl) (rfl) (fun _ => by exact r_mv (v := .tuple #[.agg (List.toArray (A8.enc .i64 r187)), .int .i64 r188]) rfl) (dbits 12 639) ?_
    refine aF 7 (.agg (List.toArray (A8.enc .i64 r187))) rfl rfl (hM27 7 rfl) (rfl) (fun _ => by exact r_ext (v := .agg (List.toArray (A8.enc .i64 r187))) rfl rfl) (dbits 12 767) ?_
    refine aF 8 (.int .i64 r188) rfl rfl (hM27 8 rfl) (rfl) (fun _ => by exact r_ext (v := .int .i64 r188) rfl rfl) (dbits 12 1023) ?_
    refine aO 10 rfl ?_
    refine s_store (v := .agg (List.toArray (A8.enc .i64 r187))) hC 0 (A8.enc .i64 r187) (A8.enc .i64 r187) rfl ag101.size rfl rfl rfl rfl rfl (Nat.le_of_ble_eq_true rfl) rfl fun w190 hC => ?_
    refine done ?_
    refine ak_introN (by decide) (l9 := (dbits 12 2047)) (by kernel_rfl) ?_
    refine ae_tail 11 (by decide) (by decide) (by kernel_rfl) (by kernel_rfl) rfl ?_
    refine s_as (v := .int .i64 r188) rfl ?_
    refine done ?_
    refine qn_norm ?_
    replace hC := hC.sM [0, 1] (M' := [blk b171 101 (A8.enc .i64 r187), blk b8 49 (A8.enc .u8 A8.zero)]) (by decide) rfl
    exact ⟨rfl, _, rfl, ⟨b171, r187, r188, (sk rfl (sk rfl (sk rfl (sk rfl (sk rfl sn))))), hC, h⟩⟩
def f_spec_MultiplyMonomials (a0 : List Int) (a1 : A8) (a2 : A8) (K : A8 → Int → Int → Prop) : Prop :=
 f_spec_l01Degrees a0 (fun r14 => (if ¬ (r14 = true) then K A8.zero 0 1 else f_spec_l01Mono a0 a1 (fun r21 => (if ¬ (r21 = true) then K A8.zero 0 1 else f_spec_l01Mono a0 a2 (fun r28 => (if ¬ (r28 = true) then K A8.zero 0 1 else f_spec_l01Joined a0 a1 a2 (fun r35 r36 => (if r36 ≠ 0 then f_spec_l01Mono a0 r35 (fun r46 => (if ¬ (r46 = true) then K A8.zero 0 3 else K r35 r36 0)) else K r35 r36 0))))))))
theorem c_spec_MultiplyMonomials (a0 : List Int) (a1 : A8) (a2 : A8) {u0_0 : Value} {fp0 : List Nat} {K : A8 → Int → Int → Prop} (h : f_spec_MultiplyMonomials a0 a1 a2 K) (w0 : World) (q0 : ((EI .i64).ty.sl).rep a0 [u0_0] fp0 w0) :
  Calls Try.prog 27 #[u0_0, .agg (List.toArray (A8.enc .u8 a1)), .agg (List.toArray (A8.enc .u8 a2))] w0 fun e w' => ∃ (r0 : A8) (r1 : Int) (r2 : Int), 
   e = .returned (.tuple #[.agg (List.toArray (A8.enc .u8 r0)), .int .i64 r1, .int .i64 r2]) ∧ K r0 r1 r2 ∧ Bel w0 w' := by
 unfold f_spec_MultiplyMonomials at h
 refine calls_of (args := [u0_0, .agg (List.toArray (A8.enc .u8 a1)), .agg (List.toArray (A8.enc .u8 a2))]) Try.func27 rfl 45 Try.ntmps27 (Nat.le_of_ble_eq_true rfl) ?_
 have hC := Ctx.start (X := Nox) w0 [Ty.item ((EI .i64).ty.sl) a0 [u0_0] fp0] (by simp only [List.mem_cons, List.not_mem_nil, or_false, forall_eq_or_imp, forall_eq]; exact q0)
 refine sr ?_
 refine s_box (v := .agg (List.toArray (A8.enc .u8 a1))) hC (A8.enc .u8 a1) rfl rfl fun b2 w4 hB_ hC => ?_
 refine s_box (v := .agg (List.toArray (A8.enc .u8 a2))) hC (A8.enc .u8 a2) rfl rfl fun b5 w7 hB_ hC => ?_
 refine s_alloc hC (A8.enc .u8 A8.zero) z49 rfl fun b8 w10 hB_ hC => ?_
 refine s_as (v := .int .i64 0) rfl ?_
 refine s_as (v := .int .i64 0) rfl ?_
 refine dn ?_
 refine wp_seq ?_
 refine sr ?_
 refine s_mv (v := u0_0) rfl ?_
 refine s_call [u0_0] _ Try.func81 rfl rfl rfl (c_spec_l01Degrees a0 h _ (hC.getP 0 rfl)) (fun ret11 w13 hR12 => ?_)
 obtain ⟨r14, rfl, h, hB15⟩ := hR12
 refine ⟨_, rfl, ?_⟩
 replace hC := hC.grow hB15
 refine s_not rfl ?_
 refine s_mv (v := .bool (!r14)) rfl ?_
 refine bsplit (!r14) (fun hb16 => ?_) (fun hb16 => ?_)
 ·replace h := ift h (ne_t (not_t hb16))
  refine guardOff (b := true) 3 14 rfl (tr rfl (congrArg _ hb16)) (by decide) ?_
  refine guardOff (b := true) 3 14 rfl (tr rfl (congrArg _ hb16)) (by decide) ?_
  refine guardOff (b := true) 3 14 rfl (tr rfl (congrArg _ hb16)) (by decide) ?_
  refine guardOff (b := true) 3 14 rfl (tr rfl (congrArg _ hb16)) (by decide) ?_
  refine s_pick (v := .bool true) (b := true) (tr rfl (congrArg _ hb16)) rfl ?_
  refine s_mv (v := .bool true) rfl ?_
  refine guardOff (b := true) 9 20 rfl (tr rfl (congrArg _ rfl)) (by decide) ?_
  refine guardOff (b := true) 9 20 rfl (tr rfl (congrArg _ rfl)) (by decide) ?_
  refine guardOff (b := true) 9 20 rfl (tr rfl (congrArg _ rfl)) (by decide) ?_
  refine guardOff (b := true) 9 20 rfl (tr rfl (congrArg _ rfl)) (by decide) ?_
  refine s_pick (v := .bool true) (b := true) rfl rfl ?_
  refine dn ?_
  refine cw_true rfl rfl ?_
  refine sr ?_
  refine s_build [] rfl (bl49   _) ?_
  refine s_store (v := .agg (List.toArray (A8.enc .u8 A8.zero))) hC 0 (A8.enc .u8 A8.zero) (A8.enc .u8 A8.zero) rfl ag49.size rfl rfl rfl rfl rfl (Nat.le_of_ble_eq_true rfl) rfl fun w17 hC => ?_
  refine s_as (v := .int .i64 0) rfl ?_
  refine s_as (v := .int .i64 1) rfl ?_
  refine dn ?_
  refine wp_ret (then_ret ?_)
  refine ret3 (fn := Try.f27) rfl ?_ ?_ ?_ ⟨A8.zero, 0, 1, rfl, h, hC.below⟩ (.inl rfl)
  ·exact res_cellA hC 0 rfl ag49 rfl rfl
  ·exact res_tmp rfl
  ·exact res_tmp rfl
 ·replace h := iff_ h (not_not_intro ((not_f hb16)))
  refine guardOn 3 14 rfl rfl hb16 ?_
  refine s_mv (v := u0_0) rfl ?_
  refine guardOn 3 14 rfl rfl hb16 ?_
  refine s_loadA hC 2 (A8.enc .u8 a1) rfl ag49 rfl rfl rfl ?_
  refine guardOn 3 14 rfl rfl hb16 ?_
  refine s_call [u0_0, .agg (List.toArray (A8.enc .u8 a1))] _ Try.func82 rfl rfl rfl (c_spec_l01Mono a0 a1 h _ (hC.getP 0 rfl)) (fun ret18 w20 hR19 => ?_)
  obtain ⟨r21, rfl, h, hB22⟩ := hR19
  refine ⟨_, rfl, ?_⟩
  replace hC := hC.grow hB22
  refine guardOn 3 14 rfl rfl hb16 ?_
  refine s_not rfl ?_
  refine s_pick (v := .bool (!r21)) (b := false) (tr rfl (congrArg _ hb16)) rfl ?_
  refine s_mv (v := .bool (!r21)) rfl ?_
  refine bsplit (!r21) (fun hb23 => ?_) (fun hb23 => ?_)
  ·replace h := ift h (ne_t (not_t hb23))
   refine guardOff (b := true) 9 20 rfl (tr rfl (congrArg _ hb23)) (by decide) ?_
   refine guardOff (b := true) 9 20 rfl (tr rfl (congrArg _ hb23)) (by decide) ?_
   refine guardOff (b := true) 9 20 rfl (tr rfl (congrArg _ hb23)) (by decide) ?_
   refine guardOff (b := true) 9 20 rfl (tr rfl (congrArg _ hb23)) (by decide) ?_
   refine s_pick (v := .bool true) (b := true) (tr rfl (congrArg _ hb23)) rfl ?_
   refine dn ?_
   refine cw_true rfl rfl ?_
   refine sr ?_
   refine s_build [] rfl (bl49   _) ?_
   refine s_store (v := .agg (List.toArray (A8.enc .u8 A8.zero))) hC 0 (A8.enc .u8 A8.zero) (A8.enc .u8 A8.zero) rfl ag49.size rfl rfl rfl rfl rfl (Nat.le_of_ble_eq_true rfl) rfl fun w24 hC => ?_
   refine s_as (v := .int .i64 0) rfl ?_
   refine s_as (v := .int .i64 1) rfl ?_
   refine dn ?_
   refine wp_ret (then_ret ?_)
   refine ret3 (fn := Try.f27) rfl ?_ ?_ ?_ ⟨A8.zero, 0, 1, rfl, h, hC.below⟩ (.inl rfl)
   ·exact res_cellA hC 0 rfl ag49 rfl rfl
   ·exact res_tmp rfl
   ·exact res_tmp rfl
  ·replace h := iff_ h (not_not_intro ((not_f hb23)))
   refine guardOn 9 20 rfl rfl hb23 ?_
   refine s_mv (v := u0_0) rfl ?_
   refine guardOn 9 20 rfl rfl hb23 ?_
   refine s_loadA hC 1 (A8.enc .u8 a2) rfl ag49 rfl rfl rfl ?_
   refine guardOn 9 20 rfl rfl hb23 ?_
   refine s_call [u0_0, .agg (List.toArray (A8.enc .u8 a2))] _ Try.func82 rfl rfl rfl (c_spec_l01Mono a0 a2 h _ (hC.getP 0 rfl)) (fun ret25 w27 hR26 => ?_)
   obtain ⟨r28, rfl, h, hB29⟩ := hR26
   refine ⟨_, rfl, ?_⟩
   replace hC := hC.grow hB29
   refine guardOn 9 20 rfl rfl hb23 ?_
   refine s_not rfl ?_
   refine s_pick (v := .bool (!r28)) (b := false) (tr rfl (congrArg _ hb23)) rfl ?_
   refine dn ?_
   refine cw_cond rfl (fun hb30 => ?_) (fun hb30 => ?_)
   ·replace h := ift h (ne_t (not_t hb30))
    refine sr ?_
    refine s_build [] rfl (bl49   _) ?_
    refine s_store (v := .agg (List.toArray (A8.enc .u8 A8.zero))) hC 0 (A8.enc .u8 A8.zero) (A8.enc .u8 A8.zero) rfl ag49.size rfl rfl rfl rfl rfl (Nat.le_of_ble_eq_true rfl) rfl fun w31 hC => ?_
    refine s_as (v := .int .i64 0) rfl ?_
    refine s_as (v := .int .i64 1) rfl ?_
    refine dn ?_
    refine wp_ret (then_ret ?_)
    refine ret3 (fn := Try.f27) rfl ?_ ?_ ?_ ⟨A8.zero, 0, 1, rfl, h, hC.below⟩ (.inl rfl)
    ·exact res_cellA hC 0 rfl ag49 rfl rfl
    ·exact res_tmp rfl
    ·exact res_tmp rfl
   ·replace h := iff_ h (not_not_intro ((not_f hb30)))
    refine wp_skip ?_
    refine then_norm ?_
    refine sr ?_
    refine s_mv (v := u0_0) rfl ?_
    refine s_loadA hC 2 (A8.enc .u8 a1) rfl ag49 rfl rfl rfl ?_
    refine s_loadA hC 1 (A8.enc .u8 a2) rfl ag49 rfl rfl rfl ?_
    refine s_call [u0_0, .agg (List.toArray (A8.enc .u8 a1)), .agg (List.toArray (A8.enc .u8 a2))] _ Try.func83 rfl rfl rfl (c_spec_l01Joined a0 a1 a2 h _ (hC.getP 0 rfl)) (fun ret32 w34 hR33 => ?_)
    obtain ⟨r35, r36, rfl, h, hB37⟩ := hR33
    refine ⟨_, rfl, ?_⟩
    replace hC := hC.grow hB37
    refine s_mv (v := .tuple #[.agg (List.toArray (A8.enc .u8 r35)), .int .i64 r36]) rfl ?_
    refine s_ext (v := .agg (List.toArray (A8.enc .u8 r35))) rfl rfl ?_
    refine s_ext (v := .int .i64 r36) rfl rfl ?_
    refine s_alloc hC (A8.enc .u8 A8.zero) z49 rfl fun b38 w40 hB_ hC => ?_
    refine s_store (v := .agg (List.toArray (A8.enc .u8 r35))) hC 0 (A8.enc .u8 r35) (A8.enc .u8 r35) rfl ag49.size rfl rfl rfl rfl rfl (Nat.le_of_ble_eq_true rfl) rfl fun w41 hC => ?_
    refine s_as (v := .int .i64 r36) rfl ?_
    refine dn ?_
    refine wp_seq ?_
    refine sr ?_
    refine s_mv (v := .int .i64 r36) rfl ?_
    refine s_neq rfl rfl ?_
    refine s_mv (v := .bool (decide (r36 ≠ 0))) rfl ?_
    refine bsplit (decide (r36 ≠ 0)) (fun hb42 => ?_) (fun hb42 => ?_)
    ·replace h := ift h (ct hb42)
     refine guardOn 2 36 rfl rfl hb42 ?_
     refine s_mv (v := u0_0) rfl ?_
     refine guardOn 2 36 rfl rfl hb42 ?_
     refine s_loadA hC 0 (A8.enc .u8 r35) rfl ag49 rfl rfl rfl ?_
     refine guardOn 2 36 rfl rfl hb42 ?_
     refine s_call [u0_0, .agg (List.toArray (A8.enc .u8 r35))] _ Try.func82 rfl rfl rfl (c_spec_l01Mono a0 r35 h _ (hC.getP 0 rfl)) (fun ret43 w45 hR44 => ?_)
     obtain ⟨r46, rfl, h, hB47⟩ := hR44
     refine ⟨_, rfl, ?_⟩
     replace hC := hC.grow hB47
     refine guardOn 2 36 rfl rfl hb42 ?_
     refine s_not rfl ?_
     refine s_pick (v := .bool (!r46)) (b := true) (tr rfl (congrArg _ hb42)) rfl ?_
     refine dn ?_
     refine cw_cond rfl (fun hb48 => ?_) (fun hb48 => ?_)
     ·replace h := ift h (ne_t (not_t hb48))
      refine sr ?_
      refine s_build [] rfl (bl49   _) ?_
      refine s_store (v := .agg (List.toArray (A8.enc .u8 A8.zero))) hC 1 (A8.enc .u8 A8.zero) (A8.enc .u8 A8.zero) rfl ag49.size rfl rfl rfl rfl rfl (Nat.le_of_ble_eq_true rfl) rfl fun w49 hC => ?_
      refine s_as (v := .int .i64 0) rfl ?_
      refine s_as (v := .int .i64 3) rfl ?_
      refine dn ?_
      refine wp_ret (then_ret ?_)
      refine ret3 (fn := Try.f27) rfl ?_ ?_ ?_ ⟨A8.zero, 0, 3, rfl, h, hC.below⟩ (.inl rfl)
      ·exact res_cellA hC 1 rfl ag49 rfl rfl
      ·exact res_tmp rfl
      ·exact res_tmp rfl
     ·replace h := iff_ h (not_not_intro ((not_f hb48)))
      refine wp_skip ?_
      refine then_norm ?_
      refine sr ?_
      refine s_loadA hC 0 (A8.enc .u8 r35) rfl ag49 rfl rfl rfl ?_
      refine s_mv (v := .int .i64 r36) rfl ?_
      refine s_store (v := .agg (List.toArray (A8.enc .u8 r35))) hC 1 (A8.enc .u8 r35) (A8.enc .u8 r35) rfl ag49.size rfl rfl rfl rfl rfl (Nat.le_of_ble_eq_true rfl) rfl fun w50 hC => ?_
      refine s_as (v := .int .i64 r36) rfl ?_
      refine s_as (v := .int .i64 0) rfl ?_
      refine dn ?_
      refine wp_ret ?_
      refine ret3 (fn := Try.f27) rfl ?_ ?_ ?_ ⟨r35, r36, 0, rfl, h, hC.below⟩ (.inl rfl)
      ·exact res_cellA hC 1 rfl ag49 rfl rfl
      ·exact res_tmp rfl
      ·exact res_tmp rfl
    ·replace h := iff_ h (cf hb42)
     refine guardOff (b := false) 2 36 rfl (tr rfl (congrArg _ hb42)) (by decide) ?_
     refine guardOff (b := false) 2 36 rfl (tr rfl (congrArg _ hb42)) (by decide) ?_
     refine guardOff (b := false) 2 36 rfl (tr rfl (congrArg _ hb42)) (by decide) ?_
     refine guardOff (b := false) 2 36 rfl (tr rfl (congrArg _ hb42)) (by decide) ?_
     refine s_pick (v := .bool false) (b := false) (tr rfl (congrArg _ hb42)) rfl ?_
     refine dn ?_
     refine cw_false rfl rfl ?_
     refine wp_skip ?_
     refine then_norm ?_
     refine sr ?_
     refine s_loadA hC 0 (A8.enc .u8 r35) rfl ag49 rfl rfl rfl ?_
     refine s_mv (v := .int .i64 r36) rfl ?_
     refine s_store (v := .agg (List.toArray (A8.enc .u8 r35))) hC 1 (A8.enc .u8 r35) (A8.enc .u8 r35) rfl ag49.size rfl rfl rfl rfl rfl (Nat.le_of_ble_eq_true rfl) rfl fun w51 hC => ?_
     refine s_as (v := .int .i64 r36) rfl ?_
     refine s_as (v := .int .i64 0) rfl ?_
     refine dn ?_
     refine wp_ret ?_
     refine ret3 (fn := Try.f27) rfl ?_ ?_ ?_ ⟨r35, r36, 0, rfl, h, hC.below⟩ (.inl rfl)
     ·exact res_cellA hC 1 rfl ag49 rfl rfl
     ·exact res_tmp rfl
     ·exact res_tmp rfl
def f_spec_IsMonomial (a0 : List Int) (a1 : A8) (K : Bool → Prop) : Prop :=
 f_spec_l01Degrees a0 (fun r8 => (if r8 = true then f_spec_l01Mono a0 a1 (fun r14 => K r14) else K false))
theorem c_spec_IsMonomial (a0 : List Int) (a1 : A8) {u0_0 : Value} {fp0 : List Nat} {K : Bool → Prop} (h : f_spec_IsMonomial a0 a1 K) (w0 : World) (q0 : ((EI .i64).ty.sl).rep a0 [u0_0] fp0 w0) :
  Calls Try.prog 29 #[u0_0, .agg (List.toArray (A8.enc .u8 a1))] w0 fun e w' => ∃ (r0 : Bool), 
   e = .returned (.bool r0) ∧ K r0 ∧ Bel w0 w' := by
 unfold f_spec_IsMonomial at h
 refine calls_of (args := [u0_0, .agg (List.toArray (A8.enc .u8 a1))]) Try.func29 rfl 12 Try.ntmps29 (Nat.le_of_ble_eq_true rfl) ?_
 have hC := Ctx.start (X := Nox) w0 [Ty.item ((EI .i64).ty.sl) a0 [u0_0] fp0] (by simp only [List.mem_cons, List.not_mem_nil, or_false, forall_eq_or_imp, forall_eq]; exact q0)
 refine sr ?_
 refine s_box (v := .agg (List.toArray (A8.enc .u8 a1))) hC (A8.enc .u8 a1) rfl rfl fun b2 w4 hB_ hC => ?_
 refine s_as (v := .bool false) rfl ?_
 refine dn ?_
 refine sr ?_
 refine s_mv (v := u0_0) rfl ?_
 refine s_call [u0_0] _ Try.func81 rfl rfl rfl (c_spec_l01Degrees a0 h _ (hC.getP 0 rfl)) (fun ret5 w7 hR6 => ?_)
 obtain ⟨r8, rfl, h, hB9⟩ := hR6
 refine ⟨_, rfl, ?_⟩
 replace hC := hC.grow hB9
 refine s_mv (v := .bool r8) rfl ?_
 refine bsplit r8 (fun hb10 => ?_) (fun hb10 => ?_)
 ·replace h := ift h (hb10)
  refine guardOn 2 7 rfl rfl hb10 ?_
  refine s_mv (v := u0_0) rfl ?_
  refine guardOn 2 7 rfl rfl hb10 ?_
  refine s_loadA hC 0 (A8.enc .u8 a1) rfl ag49 rfl rfl rfl ?_
  refine guardOn 2 7 rfl rfl hb10 ?_
  refine s_call [u0_0, .agg (List.toArray (A8.enc .u8 a1))] _ Try.func82 rfl rfl rfl (c_spec_l01Mono a0 a1 h _ (hC.getP 0 rfl)) (fun ret11 w13 hR12 => ?_)
  obtain ⟨r14, rfl, h, hB15⟩ := hR12
  refine ⟨_, rfl, ?_⟩
  replace hC := hC.grow hB15
  refine s_pick (v := .bool r14) (b := true) (tr rfl (congrArg _ hb10)) rfl ?_
  refine s_as (v := .bool r14) rfl ?_
  refine dn ?_
  refine wp_ret ?_
  refine ret1 (fn := Try.f29) rfl ?_ ⟨r14, rfl, h, hC.below⟩ (.inl rfl)
  exact res_tmp rfl
 ·replace h := iff_ h (ne_t hb10)
  refine guardOff (b := false) 2 7 rfl (tr rfl (congrArg _ hb10)) (by decide) ?_
  refine guardOff (b := false) 2 7 rfl (tr rfl (congrArg _ hb10)) (by decide) ?_
  refine guardOff (b := false) 2 7 rfl (tr rfl (congrArg _ hb10)) (by decide) ?_
  refine s_pick (v := .bool false) (b := false) (tr rfl (congrArg _ hb10)) rfl ?_
  refine s_as (v := .bool false) rfl ?_
  refine dn ?_
  refine wp_ret ?_
  refine ret1 (fn := Try.f29) rfl ?_ ⟨false, rfl, h, hC.below⟩ (.inl rfl)
  exact res_tmp rfl
def f_spec_AreDegrees (a0 : List Int) (K : Bool → Prop) : Prop :=
 f_spec_l01Degrees a0 (fun r5 => K r5)
theorem c_spec_AreDegrees (a0 : List Int) {u0_0 : Value} {fp0 : List Nat} {K : Bool → Prop} (h : f_spec_AreDegrees a0 K) (w0 : World) (q0 : ((EI .i64).ty.sl).rep a0 [u0_0] fp0 w0) :
  Calls Try.prog 31 #[u0_0] w0 fun e w' => ∃ (r0 : Bool), 
   e = .returned (.bool r0) ∧ K r0 ∧ Bel w0 w' := by
 unfold f_spec_AreDegrees at h
 refine calls_of (args := [u0_0]) Try.func31 rfl 5 Try.ntmps31 (Nat.le_of_ble_eq_true rfl) ?_
 have hC := Ctx.start (X := Nox) w0 [Ty.item ((EI .i64).ty.sl) a0 [u0_0] fp0] (by simp only [List.mem_cons, List.not_mem_nil, or_false, forall_eq_or_imp, forall_eq]; exact q0)
 refine sr ?_
 refine s_as (v := .bool false) rfl ?_
 refine dn ?_
 refine sr ?_
 refine s_mv (v := u0_0) rfl ?_
 refine s_call [u0_0] _ Try.func81 rfl rfl rfl (c_spec_l01Degrees a0 h _ (hC.getP 0 rfl)) (fun ret2 w4 hR3 => ?_)
 obtain ⟨r5, rfl, h, hB6⟩ := hR3
 refine ⟨_, rfl, ?_⟩
 replace hC := hC.grow hB6
 refine s_as (v := .bool r5) rfl ?_
 refine dn ?_
 refine wp_ret ?_
 refine ret1 (fn := Try.f31) rfl ?_ ⟨r5, rfl, h, hC.below⟩ (.inl rfl)
 exact res_tmp rfl
def f_impl_DegreeOfMonomial (a0 : List Int) (a1 : A8) (K : Int → Int → Prop) : Prop :=
 f_impl_IsMonomial a0 a1 (fun r8 => (if ¬ (r8 = true) then K 0 1 else f_impl_powerOf a1 (fun r14 => f_impl_power_degree r14 a0 (fun r19 => K r19 0))))
theorem c_impl_DegreeOfMonomial (a0 : List Int) (a1 : A8) {u0_0 : Value} {fp0 : List Nat} {K : Int → Int → Prop} (h : f_impl_DegreeOfMonomial a0 a1 K) (w0 : World) (q0 : ((EI .i64).ty.sl).rep a0 [u0_0] fp0 w0) :
  Calls Try.prog 32 #[u0_0, .agg (List.toArray (A8.enc .u8 a1))] w0 fun e w' => ∃ (r0 : Int) (r1 : Int), 
   e = .returned (.tuple #[.int .i64 r0, .int .i64 r1]) ∧ K r0 r1 ∧ Bel w0 w' := by
 unfold f_impl_DegreeOfMonomial at h
 refine calls_of (args := [u0_0, .agg (List.toArray (A8.enc .u8 a1))]) Try.func32 rfl 14 Try.ntmps32 (Nat.le_of_ble_eq_true rfl) ?_
 have hC := Ctx.start (X := Nox) w0 [Ty.item ((EI .i64).ty.sl) a0 [u0_0] fp0] (by simp only [List.mem_cons, List.not_mem_nil, or_false, forall_eq_or_imp, forall_eq]; exact q0)
 refine sr ?_
 refine s_box (v := .agg (List.toArray (A8.enc .u8 a1))) hC (A8.enc .u8 a1) rfl rfl fun b2 w4 hB_ hC => ?_
 refine s_as (v := .int .i64 0) rfl ?_
 refine s_as (v := .int .i64 0) rfl ?_
 refine dn ?_
 refine wp_seq ?_
 refine sr ?_
 refine s_mv (v := u0_0) rfl ?_
 refine s_loadA hC 0 (A8.enc .u8 a1) rfl ag49 rfl rfl rfl ?_
 refine s_call [u0_0, .agg (List.toArray (A8.enc .u8 a1))] _ Try.func28 rfl rfl rfl (c_impl_IsMonomial a0 a1 h _ (hC.getP 0 rfl)) (fun ret5 w7 hR6 => ?_)
 obtain ⟨r8, rfl, h, hB9⟩ := hR6
 refine ⟨_, rfl, ?_⟩
 replace hC := hC.grow hB9
 refine s_not rfl ?_
 refine dn ?_
 refine cw_cond rfl (fun hb10 => ?_) (fun hb10 => ?_)
 ·replace h := ift h (ne_t (not_t hb10))
  refine sr ?_
  refine s_as (v := .int .i64 0) rfl ?_
  refine s_as (v := .int .i64 1) rfl ?_
  refine dn ?_
  refine wp_ret (then_ret ?_)
  refine ret2 (fn := Try.f32) rfl ?_ ?_ ⟨0, 1, rfl, h, hC.below⟩ (.inl rfl)
  ·exact res_tmp rfl
  ·exact res_tmp rfl
 ·replace h := iff_ h (not_not_intro ((not_f hb10)))
  refine wp_skip ?_
  refine then_norm ?_
  refine sr ?_
  refine s_loadA hC 0 (A8.enc .u8 a1) rfl ag49 rfl rfl rfl ?_
  refine s_call [.agg (List.toArray (A8.enc .u8 a1))] _ Try.func79 rfl rfl rfl (c_impl_powerOf a1 h _) (fun ret11 w13 hR12 => ?_)
  obtain ⟨r14, rfl, h, hB15⟩ := hR12
  refine ⟨_, rfl, ?_⟩
  replace hC := hC.grow hB15
  refine s_mv (v := u0_0) rfl ?_
  refine s_call [.agg (List.toArray (A8.enc .i64 r14)), u0_0] _ Try.func87 rfl rfl rfl (c_impl_power_degree r14 a0 h _ (hC.getP 0 rfl)) (fun ret16 w18 hR17 => ?_)
  obtain ⟨r19, rfl, h, hB20⟩ := hR17
  refine ⟨_, rfl, ?_⟩
  replace hC := hC.grow hB20
  refine s_as (v := .int .i64 r19) rfl ?_
  refine s_as (v := .int .i64 0) rfl ?_
  refine dn ?_
  refine wp_ret ?_
  refine ret2 (fn := Try.f32) rfl ?_ ?_ ⟨r19, 0, rfl, h, hC.below⟩ (.inl rfl)
  ·exact res_tmp rfl
  ·exact res_tmp rfl
def f_spec_DrawMonomialsOf (a0 : List Int) (K : List Int → Int → Prop) : Prop :=
 whileP (fun (s2934 : Int × Int) next2935 => (if s2934.2 < (a0.length : Int) then (if s2934.2 < 4096 then ((0 ≤ s2934.2 ∧ s2934.2 < (a0.length : Int)) ∧ next2935 (IntKind.u64.wrap ((IntKind.u64.wrap ((IntKind.u64.wrap (s2934.1 * 1099511628211)) + (IntKind.u64.wrap (a0.getD s2934.2.toNat default)))) + 37), IntKind.i64.wrap (s2934.2 + 1))) else f_spec_l01Next (a0, 0, s2934.1) 16 (fun r2956 m2958 => (if r2956 = 0 then f_spec_l01Next (a0, m2958.1, m2958.2) 20 (fun r2967 m2969 => K [1, 2, 2, 2, 2, 2, 3, 4] (IntKind.i64.wrap (10 + r2967))) else f_spec_l01Next (a0, m2958.1, m2958.2) (IntKind.i64.wrap (6 + 1)) (fun r2977 m2979 => whileP (fun (s3442 : Int × Int × (List Int) × Int) next3444 => (if s3442.2.2.2 > 0 then f_spec_l01Next (a0, s3442.1, s3442.2.1) 12 (fun r3452 m3454 => f_spec_l01Pick (a0, m3454.1, m3454.2) [1, 2, 2, 3, 3, 4, 5, IntKind.i64.wrap (1 + r3452)] (fun r3462 m3464 => (Room (s3442.2.2.1.length + 1) 8 ∧ next3444 (m3464.1, m3464.2, s3442.2.2.1 ++ [r3462], IntKind.i64.wrap (s3442.2.2.2 - 1))))) else f_spec_l01Next (a0, s3442.1, s3442.2.1) 40 (fun r3475 m3477 => (if r3475 = 0 then f_spec_l01Pick (a0, m3477.1, m3477.2) [0, 13, (-1)] (fun r3486 m3488 => (Room (s3442.2.2.1.length + 1) 8 ∧ f_spec_l01Next (a0, m3488.1, m3488.2) 8 (fun r3499 m3501 => f_spec_l01Next (a0, m3501.1, m3501.2) 16 (fun r3506 m3508 => f_spec_l01Next (a0, m3508.1, m3508.2) 14 (fun r3513 m3515 => (if r3513 = 0 then f_spec_l01Pick (a0, m3515.1, m3515.2) [(-1), IntKind.i64.wrap (40 + 1), 1099511627776, (-4611686018427387904)] (fun r3524 m3526 => f_spec_l01Pick (a0, m3526.1, m3526.2) [r3499, r3506, r3524] (fun r3534 m3536 => K (s3442.2.2.1 ++ [r3486]) r3534)) else f_spec_l01Next (a0, m3515.1, m3515.2) (IntKind.i64.wrap (40 + 1)) (fun r3541 m3543 => f_spec_l01Pick (a0, m3543.1, m3543.2) [r3499, r3506, r3541] (fun r3551 m3553 => K (s3442.2.2.1 ++ [r3486]) r3551)))))))) else (if r3475 = 1 then f_spec_l01Next (a0, m3477.1, m3477.2) 8 (fun r3562 m3564 => f_spec_l01Next (a0, m3564.1, m3564.2) 16 (fun r3569 m3571 => f_spec_l01Next (a0, m3571.1, m3571.2) 14 (fun r3576 m3578 => (if r3576 = 0 then f_spec_l01Pick (a0, m3578.1, m3578.2) [(-1), IntKind.i64.wrap (40 + 1), 1099511627776, (-4611686018427387904)] (fun r3587 m3589 => f_spec_l01Pick (a0, m3589.1, m3589.2) [r3562, r3569, r3587] (fun r3597 m3599 => K [2, 2, 2, 2, 2, 2, 2, 2, 2] r3597)) else f_spec_l01Next (a0, m3578.1, m3578.2) (IntKind.i64.wrap (40 + 1)) (fun r3604 m3606 => f_spec_l01Pick (a0, m3606.1, m3606.2) [r3562, r3569, r3604] (fun r3614 m3616 => K [2, 2, 2, 2, 2, 2, 2, 2, 2] r3614)))))) else f_spec_l01Next (a0, m3477.1, m3477.2) 8 (fun r3621 m3623 => f_spec_l01Next (a0, m3623.1, m3623.2) 16 (fun r3628 m3630 => f_spec_l01Next (a0, m3630.1, m3630.2) 14 (fun r3635 m3637 => (if r3635 = 0 then f_spec_l01Pick (a0, m3637.1, m3637.2) [(-1), IntKind.i64.wrap (40 + 1), 1099511627776, (-4611686018427387904)] (fun r3646 m3648 => f_spec_l01Pick (a0, m3648.1, m3648.2) [r3621, r3628, r3646] (fun r3656 m3658 => K s3442.2.2.1 r3656)) else f_spec_l01Next (a0, m3637.1, m3637.2) (IntKind.i64.wrap (40 + 1)) (fun r3663 m3665 => f_spec_l01Pick (a0, m3665.1, m3665.2) [r3621, r3628, r3663] (fun r3673 m3675 => K s3442.2.2.1 r3673))))))))))) (m2979.1, m2979.2, [], r2977))))) else f_spec_l01Next (a0, 0, s2934.1) 16 (fun r3680 m3682 => (if r3680 = 0 then f_spec_l01Next (a0, m3682.1, m3682.2) 20 (fun r3691 m3693 => K [1, 2, 2, 2, 2, 2, 3, 4] (IntKind.i64.wrap (10 + r3691))) else f_spec_l01Next (a0, m3682.1, m3682.2) (IntKind.i64.wrap (6 + 1)) (fun r3701 m3703 => whileP (fun (s4166 : Int × Int × (List Int) × Int) next4168 => (if s4166.2.2.2 > 0 then f_spec_l01Next (a0, s4166.1, s4166.2.1) 12 (fun r4176 m4178 => f_spec_l01Pick (a0, m4178.1, m4178.2) [1, 2, 2, 3, 3, 4, 5, IntKind.i64.wrap (1 + r4176)] (fun r4186 m4188 => (Room (s4166.2.2.1.length + 1) 8 ∧ next4168 (m4188.1, m4188.2, s4166.2.2.1 ++ [r4186], IntKind.i64.wrap (s4166.2.2.2 - 1))))) else f_spec_l01Next (a0, s4166.1, s4166.2.1) 40 (fun r4199 m4201 => (if r4199 = 0 then f_spec_l01Pick (a0, m4201.1, m4201.2) [0, 13, (-1)] (fun r4210 m4212 => (Room (s4166.2.2.1.length + 1) 8 ∧ f_spec_l01Next (a0, m4212.1, m4212.2) 8 (fun r4223 m4225 => f_spec_l01Next (a0, m4225.1, m4225.2) 16 (fun r4230 m4232 => f_spec_l01Next (a0, m4232.1, m4232.2) 14 (fun r4237 m4239 => (if r4237 = 0 then f_spec_l01Pick (a0, m4239.1, m4239.2) [(-1), IntKind.i64.wrap (40 + 1), 1099511627776, (-4611686018427387904)] (fun r4248 m4250 => f_spec_l01Pick (a0, m4250.1, m4250.2) [r4223, r4230, r4248] (fun r4258 m4260 => K (s4166.2.2.1 ++ [r4210]) r4258)) else f_spec_l01Next (a0, m4239.1, m4239.2) (IntKind.i64.wrap (40 + 1)) (fun r4265 m4267 => f_spec_l01Pick (a0, m4267.1, m4267.2) [r4223, r4230, r4265] (fun r4275 m4277 => K (s4166.2.2.1 ++ [r4210]) r4275)))))))) else (if r4199 = 1 then f_spec_l01Next (a0, m4201.1, m4201.2) 8 (fun r4286 m4288 => f_spec_l01Next (a0, m4288.1, m4288.2) 16 (fun r4293 m4295 => f_spec_l01Next (a0, m4295.1, m4295.2) 14 (fun r4300 m4302 => (if r4300 = 0 then f_spec_l01Pick (a0, m4302.1, m4302.2) [(-1), IntKind.i64.wrap (40 + 1), 1099511627776, (-4611686018427387904)] (fun r4311 m4313 => f_spec_l01Pick (a0, m4313.1, m4313.2) [r4286, r4293, r4311] (fun r4321 m4323 => K [2, 2, 2, 2, 2, 2, 2, 2, 2] r4321)) else f_spec_l01Next (a0, m4302.1, m4302.2) (IntKind.i64.wrap (40 + 1)) (fun r4328 m4330 => f_spec_l01Pick (a0, m4330.1, m4330.2) [r4286, r4293, r4328] (fun r4338 m4340 => K [2, 2, 2, 2, 2, 2, 2, 2, 2] r4338)))))) else f_spec_l01Next (a0, m4201.1, m4201.2) 8 (fun r4345 m4347 => f_spec_l01Next (a0, m4347.1, m4347.2) 16 (fun r4352 m4354 => f_spec_l01Next (a0, m4354.1, m4354.2) 14 (fun r4359 m4361 => (if r4359 = 0 then f_spec_l01Pick (a0, m4361.1, m4361.2) [(-1), IntKind.i64.wrap (40 + 1), 1099511627776, (-4611686018427387904)] (fun r4370 m4372 => f_spec_l01Pick (a0, m4372.1, m4372.2) [r4345, r4352, r4370] (fun r4380 m4382 => K s4166.2.2.1 r4380)) else f_spec_l01Next (a0, m4361.1, m4361.2) (IntKind.i64.wrap (40 + 1)) (fun r4387 m4389 => f_spec_l01Pick (a0, m4389.1, m4389.2) [r4345, r4352, r4387] (fun r4397 m4399 => K s4166.2.2.1 r4397))))))))))) (m3703.1, m3703.2, [], r3701)))))) (IntKind.u64.wrap (10193 + (IntKind.u64.wrap (a0.length : Int))), 0)
theorem c_spec_DrawMonomialsOf (a0 : List Int) {u0_0 : Value} {fp0 : List Nat} {K : List Int → Int → Prop} (h : f_spec_DrawMonomialsOf a0 K) (w0 : World) (q0 : ((EI .u8).ty.sl).rep a0 [u0_0] fp0 w0) :
  Calls Try.prog 33 #[u0_0] w0 fun e w' => ∃ (r0 : List Int) (z0_0 : Value) (fz0 : List Nat) (r1 : Int), 
   e = .returned (.tuple #[z0_0, .int .i64 r1]) ∧ K r0 r1 ∧ (Tr.item (Tr.sl 2 ((EI .i64).tr)) r0 [z0_0] fz0).holds w' ∧ (∀ b, b ∈ fz0 → w0.heap.size ≤ b) ∧ Bel w0 w' := by
 unfold f_spec_DrawMonomialsOf at h
 refine calls_of (args := [u0_0]) Try.func33 rfl 27 Try.ntmps33 (Nat.le_of_ble_eq_true rfl) ?_
 have hC := Ctx.start (X := Nox) w0 [Ty.item ((EI .u8).ty.sl) a0 [u0_0] fp0] (by simp only [List.mem_cons, List.not_mem_nil, or_false, forall_eq_or_imp, forall_eq]; exact q0)
 refine sr ?_
 refine s_as (v := .slice none 0 0) rfl ?_
 refine s_as (v := .int .i64 0) rfl ?_
 refine dn ?_
 refine sr ?_
 refine s_mv (v := u0_0) rfl ?_
 refine s_inline [u0_0] Try.func75 rfl rfl 38 Try.ntmps75 (Nat.le_of_ble_eq_true rfl) rfl ?_
 refine sr ?_
 refine s_as (v := .pointer none) rfl ?_
 refine dn ?_
 refine sr ?_
 refine s_mv (v := u0_0) rfl ?_
 refine s_mv (v := u0_0) rfl ?_
 obtain ⟨Ad2, c3, hv4⟩ := sl_len (hC.getP 0 rfl)
 refine s_len Try.underlying46 (tr rfl hv4) ?_
 refine s_conv Try.underlying3 Try.underlying168 rfl ?_
 refine s_add rfl rfl ?_
 refine s_build [(0, u0_0), (2, .int .u64 (IntKind.u64.wrap (10193 + (IntKind.u64.wrap (a0.length : Int)))))] rfl (bl170_0sl_2int u0_0 (IntKind.u64.wrap (10193 + (IntKind.u64.wrap (a0.length : Int)))) (rep_isSl (hC.getP 0 rfl)) _) ?_
 refine s_box (v := .agg #[u0_0, .int .i64 0, .int .u64 (IntKind.u64.wrap (10193 + (IntKind.u64.wrap (a0.length : Int))))]) hC [u0_0, .int .i64 0, .int .u64 (IntKind.u64.wrap (10193 + (IntKind.u64.wrap (a0.length : Int))))] rfl rfl fun b5 w7 hB_ hC => ?_
 refine s_as (v := .pointer (some ⟨b5, 0, none⟩)) rfl ?_
 refine dn ?_
 refine wp_seq ?_
 refine sr ?_
 refine s_as (v := .int .i64 0) rfl ?_
 refine dn ?_
 refine wp_block ?_
 refine loopW (S := Int × Int) _ (fun s2934 e_ w_ => Slots e_ [(0, u0_0), (3, .pointer (some ⟨b5, 0, none⟩)), (4, .int .i64 s2934.2)] ∧ Ctx Nox w0 w_ [blk b5 170 [u0_0, .int .i64 0, .int .u64 s2934.1]] [Ty.item ((EI .u8).ty.sl) a0 [u0_0] fp0]) ?_ (s0 := (IntKind.u64.wrap (10193 + (IntKind.u64.wrap (a0.length : Int))), 0)) ?_ h
 ·clear hC h
  rintro s2934 e_ w2938 next2935 K2936 ⟨hS_, hC⟩ h hK2937
  refine wp_seq ?_
  refine sr ?_
  refine s_mv (v := .int .i64 s2934.2) (sx hS_ 2 rfl) ?_
  refine s_mv (v := u0_0) (sx hS_ 0 rfl) ?_
  obtain ⟨Ad2939, c2940, hv2941⟩ := sl_len (hC.getP 0 rfl)
  refine s_len Try.underlying46 (tr rfl hv2941) ?_
  refine s_lss rfl rfl ?_
  refine s_mv (v := .bool (decide (s2934.2 < (a0.length : Int)))) rfl ?_
  refine bsplit (decide (s2934.2 < (a0.length : Int))) (fun hb2942 => ?_) (fun hb2942 => ?_)
  ·replace h := ift h (ct hb2942)
   refine guardOn 4 16 rfl rfl hb2942 ?_
   refine s_mv (v := .int .i64 s2934.2) (sx hS_ 2 rfl) ?_
   refine guardOn 4 16 rfl rfl hb2942 ?_
   refine s_lss rfl rfl ?_
   refine s_pick (v := .bool (decide (s2934.2 < 4096))) (b := true) (tr rfl (congrArg _ hb2942)) rfl ?_
   refine dn ?_
   refine cw_cond rfl (fun hb2943 => ?_) (fun hb2943 => ?_)
   ·replace h := ift h (ct hb2943)
    refine wp_skip ?_
    refine then_norm ?_
    refine wp_seq ?_
    refine wp_block ?_
    refine cw_draw 13 mixed [0, 0, 2, 6, 14, 30, 0, 0, 192, 448, 960, 2046, 4094, 8191, 16383, 32767] [4, 8, 9] [0, 1, 2, 3, 5, 6, 7, 10, 11, 12] (by kernel_rfl) (by kernel_rfl) (by kernel_rfl) (fun hM2945 hM2946 w2944 hB_ => ?_)
    replace hC := hC.grow hB_
    refine aF 0 (.pointer (some ⟨b5, 0, none⟩)) rfl rfl (hM2946 0 rfl) (rfl) (fun _ => by exact r_mv (v := .pointer (some ⟨b5, 0, none⟩)) (sx hS_ 1 rfl)) (dbits 16 1) ?_
    refine aF 1 (.pointer (some ⟨b5, 0, none⟩)) rfl rfl (hM2946 1 rfl) (rfl) (fun _ => by exact r_mv (v := .pointer (some ⟨b5, 0, none⟩)) (sx hS_ 1 rfl)) (dbits 16 3) ?_
    refine aF 2 (.pointer (some ⟨b5, 0, none⟩)) rfl rfl (hM2946 2 rfl) (rfl) (fun _ => by exact r_nilchk rfl) (dbits 16 7) ?_
    refine aF 3 (.pointer (some ⟨b5, 2, none⟩)) rfl rfl (hM2946 3 rfl) (rfl) (fun _ => by exact r_faddrB 2 Try.underlying170 rfl sc168.size rfl rfl) (dbits 16 15) ?_
    refine aL 4 (.int .u64 s2934.1) rfl rfl (hM2945 4 rfl) (rfl) (fun _ hB_ => by exact r_loadS (hC.grow hB_) 0 (.int .u64 s2934.1) rfl sc168 rfl rfl) (dbits 16 31) ?_
    refine aF 5 (.int .u64 (IntKind.u64.wrap (s2934.1 * 1099511628211))) rfl rfl (hM2946 5 rfl) (rfl) (fun _ => by exact r_mul rfl rfl) (dbits 16 63) ?_
    refine aF 6 (u0_0) rfl rfl (hM2946 6 rfl) (rfl) (fun _ => by exact r_mv (v := u0_0) (sx hS_ 0 rfl)) (dbits 16 127) ?_
    refine aF 7 (.int .i64 s2934.2) rfl rfl (hM2946 7 rfl) (rfl) (fun _ => by exact r_mv (v := .int .i64 s2934.2) (sx hS_ 2 rfl)) (dbits 16 255) ?_
    obtain ⟨⟨h0_2947, h1_2948⟩, h⟩ := h
    obtain ⟨Ad2949, c2950, hv2951⟩ := sl_form (hC.getP 0 rfl) s2934.2.toNat (show s2934.2.toNat < a0.length by omega)
    refine aL 8 (.pointer (some (Ad2949.add (s2934.2.toNat * 1)))) rfl rfl (hM2945 8 rfl) (rfl) (fun _ hB_ => by exact r_iaddrS (len := a0.length) Try.underlying46 sc5.size (by exact tr rfl hv2951) rfl h0_2947 h1_2948) (dbits 16 511) ?_
    refine aL 9 (.int .u8 (a0.getD s2934.2.toNat default)) rfl rfl (hM2945 9 rfl) (rfl) (fun _ hB_ => by exact r_loadCS (.int .u8 (a0.getD s2934.2.toNat default)) (sl_cellsE ((hC.grow hB_).getP 0 rfl) hv2951 s2934.2.toNat (show s2934.2.toNat < a0.length by omega)) sc5 rfl) (dbits 16 1023) ?_
    refine aF 10 (.int .u64 (IntKind.u64.wrap (a0.getD s2934.2.toNat default))) rfl rfl (hM2946 10 rfl) (rfl) (fun _ => by exact r_conv Try.underlying5 Try.underlying168 rfl) (dbits 16 2047) ?_
    refine aF 11 (.int .u64 (IntKind.u64.wrap ((IntKind.u64.wrap (s2934.1 * 1099511628211)) + (IntKind.u64.wrap (a0.getD s2934.2.toNat default))))) rfl rfl (hM2946 11 rfl) (rfl) (fun _ => by exact r_add rfl rfl) (dbits 16 4095) ?_
    refine aF 12 (.int .u64 (IntKind.u64.wrap ((IntKind.u64.wrap ((IntKind.u64.wrap (s2934.1 * 1099511628211)) + (IntKind.u64.wrap (a0.getD s2934.2.toNat default)))) + 37))) rfl rfl (hM2946 12 rfl) (rfl) (fun _ => by exact r_add rfl rfl) (dbits 16 8191) ?_
    refine ae_tail 13 (by decide) (by decide) (by kernel_rfl) (by kernel_rfl) rfl ?_
    refine s_nilchk rfl ?_
    refine s_faddrB 2 Try.underlying170 rfl sc168.size rfl rfl ?_
    refine s_store (v := .int .u64 (IntKind.u64.wrap ((IntKind.u64.wrap ((IntKind.u64.wrap (s2934.1 * 1099511628211)) + (IntKind.u64.wrap (a0.getD s2934.2.toNat default)))) + 37))) hC 0 [.int .u64 (IntKind.u64.wrap ((IntKind.u64.wrap ((IntKind.u64.wrap (s2934.1 * 1099511628211)) + (IntKind.u64.wrap (a0.getD s2934.2.toNat default)))) + 37))] [u0_0, .int .i64 0, .int .u64 (IntKind.u64.wrap ((IntKind.u64.wrap ((IntKind.u64.wrap (s2934.1 * 1099511628211)) + (IntKind.u64.wrap (a0.getD s2934.2.toNat default)))) + 37))] rfl sc168.size rfl rfl rfl rfl rfl (Nat.le_of_ble_eq_true rfl) rfl fun w2952 hC => ?_
    refine done ?_
    refine qn_norm ?_
    refine blk_norm ?_
    refine then_norm ?_
    refine cw_region ?_
    refine s_mv (v := .int .i64 s2934.2) (sx hS_ 2 rfl) ?_
    refine s_add rfl rfl ?_
    refine s_as (v := .int .i64 (IntKind.i64.wrap (s2934.2 + 1))) rfl ?_
    refine done ?_
    exact hK2937 (IntKind.u64.wrap ((IntKind.u64.wrap ((IntKind.u64.wrap (s2934.1 * 1099511628211)) + (IntKind.u64.wrap (a0.getD s2934.2.toNat default)))) + 37), IntKind.i64.wrap (s2934.2 + 1)) _ _ ⟨(sk (sx hS_ 0 rfl) (sk (sx hS_ 1 rfl) (sk rfl sn))), hC⟩ h
   ·replace h := iff_ h (cf hb2943)
    refine wp_exit (then_exit (then_exit (exit_in ?_)))
    refine then_norm ?_
    refine sr ?_
    refine s_mv (v := .pointer (some ⟨b5, 0, none⟩)) (sx hS_ 1 rfl) ?_
    refine s_as (v := .pointer (some ⟨b5, 0, none⟩)) rfl ?_
    refine dn ?_
    refine wp_ret ?_
    refine ret1 (fn := Try.f75) (v := .pointer (some ⟨b5, 0, none⟩)) rfl (res_tmp rfl) ⟨_, rfl, ?_⟩ (.inl rfl)
    refine s_as (v := .pointer (some ⟨b5, 0, none⟩)) rfl ?_
    refine dn ?_
    refine wp_seq ?_
    refine sr ?_
    refine s_mv (v := .pointer (some ⟨b5, 0, none⟩)) rfl ?_
    refine s_call [.pointer (some ⟨b5, 0, none⟩), .int .i64 16] _ Try.func88 rfl rfl rfl (c_spec_l01Next (a0, 0, s2934.1) 16 h _ (hC.getP 0 rfl) (hC.getM 0 rfl) (fun b_ hb_ hb2_ => hC.pd _ (List.mem_of_getElem? (i := 0) rfl) b_ hb_ _ (List.mem_of_getElem? (i := 0) rfl) hb2_)) (fun ret2953 w2955 hR2954 => ?_)
    obtain ⟨r2956, m2958, rfl, h, hm2959, hB2957⟩ := hR2954
    refine ⟨_, rfl, ?_⟩
    replace hC := hC.turnF 0 rfl hB2957 hm2959
    refine s_eql rfl rfl ?_
    refine dn ?_
    refine cw_cond rfl (fun hb2960 => ?_) (fun hb2960 => ?_)
    ·replace h := ift h (ct hb2960)
     refine sr ?_
     refine s_bslice (sz := 1) hC [(0, .int .i64 1), (1, .int .i64 2), (2, .int .i64 2), (3, .int .i64 2), (4, .int .i64 2), (5, .int .i64 2), (6, .int .i64 3), (7, .int .i64 4)] ((EI .i64).encs [1, 2, 2, 2, 2, 2, 3, 4]) rfl (fun _ => bs22_8 1 2 2 2 2 2 3 4 _) rfl (by decide) fun b2961 w2962 hB_ hC => ?_
     refine s_mv (v := .pointer (some ⟨b5, 0, none⟩)) rfl ?_
     refine s_call [.pointer (some ⟨b5, 0, none⟩), .int .i64 20] _ Try.func88 rfl rfl rfl (c_spec_l01Next (a0, m2958.1, m2958.2) 20 h _ (hC.getP 0 rfl) (hC.getM 1 rfl) (fun b_ hb_ hb2_ => hC.pd _ (List.mem_of_getElem? (i := 0) rfl) b_ hb_ _ (List.mem_of_getElem? (i := 1) rfl) hb2_)) (fun ret2964 w2966 hR2965 => ?_)
     obtain ⟨r2967, m2969, rfl, h, hm2970, hB2968⟩ := hR2965
     refine ⟨_, rfl, ?_⟩
     replace hC := hC.turnF 1 rfl hB2968 hm2970
     refine s_add rfl rfl ?_
     refine s_as (v := .slice (some ⟨b2961, 0, none⟩) 8 8) rfl ?_
     refine s_as (v := .int .i64 (IntKind.i64.wrap (10 + r2967))) rfl ?_
     refine dn ?_
     refine wp_ret (then_ret ?_)
     refine ret2 (fn := Try.f33) rfl ?_ ?_ ⟨[1, 2, 2, 2, 2, 2, 3, 4], .slice (some ⟨b2961, 0, none⟩) 8 8, (Option.toList (Value.ownBlock (.slice (some ⟨b2961, 0, none⟩) 8 8))), IntKind.i64.wrap (10 + r2967), rfl, h, (own_item (hC.getM 0 rfl)), (own_fresh hC 0 rfl), hC.below⟩ (.inl rfl)
     ·exact res_tmp rfl
     ·exact res_tmp rfl
    ·replace h := iff_ h (cf hb2960)
     refine wp_skip ?_
     refine then_norm ?_
     refine sr ?_
     refine s_mv (v := .pointer (some ⟨b5, 0, none⟩)) rfl ?_
     refine s_mv (v := .pointer (some ⟨b5, 0, none⟩)) rfl ?_
     refine s_inline [.pointer (some ⟨b5, 0, none⟩), .int .i64 6] Try.func77 rfl rfl 26 Try.ntmps77 (Nat.le_of_ble_eq_true rfl) rfl ?_
     refine sr ?_
     refine s_as (v := .slice none 0 0) rfl ?_
     refine dn ?_
     refine sr ?_
     refine s_bslice (sz := 1) hC [] ((EI .i64).encs []) rfl (fun _ => bs22_0  _) rfl (by decide) fun b2971 w2972 hB_ hC => ?_
     refine s_as (v := .slice (some ⟨b2971, 0, none⟩) 0 0) rfl ?_
     refine dn ?_
     refine wp_seq ?_
     refine sr ?_
     refine s_mv (v := .pointer (some ⟨b5, 0, none⟩)) rfl ?_
     refine s_mv (v := .int .i64 6) rfl ?_
     refine s_add rfl rfl ?_
     refine s_call [.pointer (some ⟨b5, 0, none⟩), .int .i64 (IntKind.i64.wrap (6 + 1))] _ Try.func88 rfl rfl rfl (c_spec_l01Next (a0, m2958.1, m2958.2) (IntKind.i64.wrap (6 + 1)) h _ (hC.getP 0 rfl) (hC.getM 1 rfl) (fun b_ hb_ hb2_ => hC.pd _ (List.mem_of_getElem? (i := 0) rfl) b_ hb_ _ (List.mem_of_getElem? (i := 1) rfl) hb2_)) (fun ret2974 w2976 hR2975 => ?_)
     obtain ⟨r2977, m2979, rfl, h, hm2980, hB2978⟩ := hR2975
     refine ⟨_, rfl, ?_⟩
     replace hC := hC.turnF 1 rfl hB2978 hm2980
     refine s_as (v := .int .i64 r2977) rfl ?_
     refine dn ?_
     refine wp_block ?_
     refine loopW (S := Int × Int × (List Int) × Int) _ (fun s3442 e_ w_ => ∃ (v3443 : Value), Slots e_ [(0, .pointer (some ⟨b5, 0, none⟩)), (4, .slice none 0 0), (5, v3443), (6, .int .i64 s3442.2.2.2)] ∧ Ctx Nox w0 w_ [own 2 1 v3443 s3442.2.2.1.length ((EI .i64).encs s3442.2.2.1), blk b5 170 [u0_0, .int .i64 s3442.1, .int .u64 s3442.2.1]] [Ty.item ((EI .u8).ty.sl) a0 [u0_0] fp0]) ?_ (s0 := (m2979.1, m2979.2, [], r2977)) ?_ h
     ·clear hC h
      rintro s3442 e_ w3447 next3444 K3445 ⟨v3443, hS_, hC⟩ h hK3446
      refine wp_seq ?_
      refine sr ?_
      refine s_mv (v := .int .i64 s3442.2.2.2) (sx hS_ 3 rfl) ?_
      refine s_gtr rfl rfl ?_
      refine dn ?_
      refine cw_cond rfl (fun hb3448 => ?_) (fun hb3448 => ?_)
      ·replace h := ift h (ct hb3448)
       refine wp_skip ?_
       refine then_norm ?_
       refine wp_seq ?_
       refine wp_block ?_
       refine cw_region ?_
       refine s_mv (v := v3443) (sx hS_ 2 rfl) ?_
       refine s_mv (v := .pointer (some ⟨b5, 0, none⟩)) (sx hS_ 0 rfl) ?_
       refine s_mv (v := .pointer (some ⟨b5, 0, none⟩)) (sx hS_ 0 rfl) ?_
       refine s_call [.pointer (some ⟨b5, 0, none⟩), .int .i64 12] _ Try.func88 rfl rfl rfl (c_spec_l01Next (a0, s3442.1, s3442.2.1) 12 h _ (hC.getP 0 rfl) (hC.getM 1 rfl) (fun b_ hb_ hb2_ => hC.pd _ (List.mem_of_getElem? (i := 0) rfl) b_ hb_ _ (List.mem_of_getElem? (i := 1) rfl) hb2_)) (fun ret3449 w3451 hR3450 => ?_)
       obtain ⟨r3452, m3454, rfl, h, hm3455, hB3453⟩ := hR3450
       refine ⟨_, rfl, ?_⟩
       replace hC := hC.turnF 1 rfl hB3453 hm3455
       refine s_add rfl rfl ?_
       refine s_bslice (sz := 1) hC [(0, .int .i64 1), (1, .int .i64 2), (2, .int .i64 2), (3, .int .i64 3), (4, .int .i64 3), (5, .int .i64 4), (6, .int .i64 5), (7, .int .i64 (IntKind.i64.wrap (1 + r3452)))] ((EI .i64).encs [1, 2, 2, 3, 3, 4, 5, IntKind.i64.wrap (1 + r3452)]) rfl (fun _ => bs22_8 1 2 2 3 3 4 5 (IntKind.i64.wrap (1 + r3452)) _) rfl (by decide) fun b3456 w3457 hB_ hC => ?_
       refine s_call [.pointer (some ⟨b5, 0, none⟩), .slice (some ⟨b3456, 0, none⟩) 8 8] _ Try.func89 rfl rfl rfl (c_spec_l01Pick (a0, m3454.1, m3454.2) [1, 2, 2, 3, 3, 4, 5, IntKind.i64.wrap (1 + r3452)] h _ (own_repE (hC.getM 0 rfl)) (hC.getP 0 rfl) (hC.getM 2 rfl) (fun b_ hb_ hb2_ => hC.pd _ (List.mem_of_getElem? (i := 0) rfl) b_ hb_ _ (List.mem_of_getElem? (i := 2) rfl) hb2_) (fun b_ hb_ hb2_ => hC.mm 0 2 rfl rfl (by decide) b_ hb_ hb2_)) (fun ret3459 w3461 hR3460 => ?_)
       obtain ⟨r3462, m3464, rfl, h, hm3465, hB3463⟩ := hR3460
       refine ⟨_, rfl, ?_⟩
       replace hC := hC.turnF 2 rfl hB3463 hm3465
       refine s_bslice (sz := 1) hC [(0, .int .i64 r3462)] ((EI .i64).encs [r3462]) rfl (fun _ => bs22_1 r3462 _) rfl (by decide) fun b3466 w3467 hB_ hC => ?_
       obtain ⟨hm3471, h⟩ := h
       refine s_app hC 2 Try.underlying22 el2 rfl (by decide) (by decide) rfl (own_rdr (hC.getM 0 rfl)) (fun q hq => Enc.encs_one' (E := (EI .i64)) _ q hq) rfl rfl hm3471 fun v3469 w3470 hC => ?_
       replace hC := own_re hC 2 ((s3442.2.2.1 ++ [r3462]).length) ((EI .i64).encs (s3442.2.2.1 ++ [r3462])) rfl (by simp) (by first | (simp [Enc.encs_append]; done) | simp [Enc.encs_append, Enc.encs])
       refine s_as (v := v3469) rfl ?_
       refine done ?_
       refine blk_norm ?_
       refine then_norm ?_
       refine cw_region ?_
       refine s_mv (v := .int .i64 s3442.2.2.2) (sx hS_ 3 rfl) ?_
       refine s_sub rfl rfl ?_
       refine s_as (v := .int .i64 (IntKind.i64.wrap (s3442.2.2.2 - 1))) rfl ?_
       refine done ?_
       replace hC := hC.sM [2, 3] (M' := [own 2 1 v3469 ((s3442.2.2.1 ++ [r3462]).length) ((EI .i64).encs (s3442.2.2.1 ++ [r3462])), blk b5 170 [u0_0, .int .i64 m3464.1, .int .u64 m3464.2]]) (by decide) rfl
       exact hK3446 (m3464.1, m3464.2, s3442.2.2.1 ++ [r3462], IntKind.i64.wrap (s3442.2.2.2 - 1)) _ _ ⟨v3469, (sk (sx hS_ 0 rfl) (sk (sx hS_ 1 rfl) (sk rfl (sk rfl sn)))), hC⟩ h
      ·replace h := iff_ h (cf hb3448)
       refine wp_exit (then_exit (then_exit (exit_in ?_)))
       refine then_norm ?_
       refine sr ?_
       refine s_mv (v := v3443) (sx hS_ 2 rfl) ?_
       refine s_as (v := v3443) rfl ?_
       refine dn ?_
       refine wp_ret ?_
       refine ret1 (fn := Try.f77) (v := v3443) rfl (res_tmp rfl) ⟨_, rfl, ?_⟩ (.inl rfl)
       refine s_inline [.pointer (some ⟨b5, 0, none⟩), v3443] Try.func76 rfl rfl 19 Try.ntmps76 (Nat.le_of_ble_eq_true rfl) rfl ?_
       refine sr ?_
       refine s_as (v := .slice none 0 0) rfl ?_
       refine dn ?_
       refine wp_seq ?_
       refine sr ?_
       refine s_mv (v := .pointer (some ⟨b5, 0, none⟩)) rfl ?_
       refine s_call [.pointer (some ⟨b5, 0, none⟩), .int .i64 40] _ Try.func88 rfl rfl rfl (c_spec_l01Next (a0, s3442.1, s3442.2.1) 40 h _ (hC.getP 0 rfl) (hC.getM 1 rfl) (fun b_ hb_ hb2_ => hC.pd _ (List.mem_of_getElem? (i := 0) rfl) b_ hb_ _ (List.mem_of_getElem? (i := 1) rfl) hb2_)) (fun ret3472 w3474 hR3473 => ?_)
       obtain ⟨r3475, m3477, rfl, h, hm3478, hB3476⟩ := hR3473
       refine ⟨_, rfl, ?_⟩
       replace hC := hC.turnF 1 rfl hB3476 hm3478
       refine dn ?_
       refine wp_block ?_
       refine sr ?_
       refine s_eql rfl rfl ?_
       refine s_as (v := .bool (decide (r3475 = 0))) rfl ?_
       refine dn ?_
       refine cw_cond rfl (fun hb3479 => ?_) (fun hb3479 => ?_)
       ·replace h := ift h (ct hb3479)
        refine sr ?_
        refine s_mv (v := v3443) rfl ?_
        refine s_mv (v := .pointer (some ⟨b5, 0, none⟩)) rfl ?_
        refine s_bslice (sz := 1) hC [(0, .int .i64 0), (1, .int .i64 13), (2, .int .i64 (-1))] ((EI .i64).encs [0, 13, (-1)]) rfl (fun _ => bs22_3 0 13 (-1) _) rfl (by decide) fun b3480 w3481 hB_ hC => ?_
        refine s_call [.pointer (some ⟨b5, 0, none⟩), .slice (some ⟨b3480, 0, none⟩) 3 3] _ Try.func89 rfl rfl rfl (c_spec_l01Pick (a0, m3477.1, m3477.2) [0, 13, (-1)] h _ (own_repE (hC.getM 0 rfl)) (hC.getP 0 rfl) (hC.getM 2 rfl) (fun b_ hb_ hb2_ => hC.pd _ (List.mem_of_getElem? (i := 0) rfl) b_ hb_ _ (List.mem_of_getElem? (i := 2) rfl) hb2_) (fun b_ hb_ hb2_ => hC.mm 0 2 rfl rfl (by decide) b_ hb_ hb2_)) (fun ret3483 w3485 hR3484 => ?_)
        obtain ⟨r3486, m3488, rfl, h, hm3489, hB3487⟩ := hR3484
        refine ⟨_, rfl, ?_⟩
        replace hC := hC.turnF 2 rfl hB3487 hm3489
        refine s_bslice (sz := 1) hC [(0, .int .i64 r3486)] ((EI .i64).encs [r3486]) rfl (fun _ => bs22_1 r3486 _) rfl (by decide) fun b3490 w3491 hB_ hC => ?_
        obtain ⟨hm3495, h⟩ := h
        refine s_app hC 2 Try.underlying22 el2 rfl (by decide) (by decide) rfl (own_rdr (hC.getM 0 rfl)) (fun q hq => Enc.encs_one' (E := (EI .i64)) _ q hq) rfl rfl hm3495 fun v3493 w3494 hC => ?_
        replace hC := own_re hC 2 ((s3442.2.2.1 ++ [r3486]).length) ((EI .i64).encs (s3442.2.2.1 ++ [r3486])) rfl (by simp) (by first | (simp [Enc.encs_append]; done) | simp [Enc.encs_append, Enc.encs])
        refine s_as (v := v3493) rfl ?_
        refine dn ?_
        refine wp_ret (blk_ret (then_ret ?_))
        refine ret1 (fn := Try.f76) (v := v3493) rfl (res_tmp rfl) ⟨_, rfl, ?_⟩ (.inl rfl)
        refine s_mv (v := .pointer (some ⟨b5, 0, none⟩)) rfl ?_
        refine s_mv (v := .pointer (some ⟨b5, 0, none⟩)) rfl ?_
        refine s_call [.pointer (some ⟨b5, 0, none⟩), .int .i64 8] _ Try.func88 rfl rfl rfl (c_spec_l01Next (a0, m3488.1, m3488.2) 8 h _ (hC.getP 0 rfl) (hC.getM 3 rfl) (fun b_ hb_ hb2_ => hC.pd _ (List.mem_of_getElem? (i := 0) rfl) b_ hb_ _ (List.mem_of_getElem? (i := 3) rfl) hb2_)) (fun ret3496 w3498 hR3497 => ?_)
        obtain ⟨r3499, m3501, rfl, h, hm3502, hB3500⟩ := hR3497
        refine ⟨_, rfl, ?_⟩
        replace hC := hC.turnF 3 rfl hB3500 hm3502
        refine s_mv (v := .pointer (some ⟨b5, 0, none⟩)) rfl ?_
        refine s_call [.pointer (some ⟨b5, 0, none⟩), .int .i64 16] _ Try.func88 rfl rfl rfl (c_spec_l01Next (a0, m3501.1, m3501.2) 16 h _ (hC.getP 0 rfl) (hC.getM 3 rfl) (fun b_ hb_ hb2_ => hC.pd _ (List.mem_of_getElem? (i := 0) rfl) b_ hb_ _ (List.mem_of_getElem? (i := 3) rfl) hb2_)) (fun ret3503 w3505 hR3504 => ?_)
        obtain ⟨r3506, m3508, rfl, h, hm3509, hB3507⟩ := hR3504
        refine ⟨_, rfl, ?_⟩
        replace hC := hC.turnF 3 rfl hB3507 hm3509
        refine s_mv (v := .pointer (some ⟨b5, 0, none⟩)) rfl ?_
        refine s_inline [.pointer (some ⟨b5, 0, none⟩), .int .i64 40] Try.func90 rfl rfl 17 Try.ntmps90 (Nat.le_of_ble_eq_true rfl) rfl ?_
        refine sr ?_
        refine s_as (v := .int .i64 0) rfl ?_
        refine dn ?_
        refine wp_seq ?_
        refine sr ?_
        refine s_mv (v := .pointer (some ⟨b5, 0, none⟩)) rfl ?_
        refine s_call [.pointer (some ⟨b5, 0, none⟩), .int .i64 14] _ Try.func88 rfl rfl rfl (c_spec_l01Next (a0, m3508.1, m3508.2) 14 h _ (hC.getP 0 rfl) (hC.getM 3 rfl) (fun b_ hb_ hb2_ => hC.pd _ (List.mem_of_getElem? (i := 0) rfl) b_ hb_ _ (List.mem_of_getElem? (i := 3) rfl) hb2_)) (fun ret3510 w3512 hR3511 => ?_)
        obtain ⟨r3513, m3515, rfl, h, hm3516, hB3514⟩ := hR3511
        refine ⟨_, rfl, ?_⟩
        replace hC := hC.turnF 3 rfl hB3514 hm3516
        refine s_eql rfl rfl ?_
        refine dn ?_
        refine cw_cond rfl (fun hb3517 => ?_) (fun hb3517 => ?_)
        ·replace h := ift h (ct hb3517)
         refine sr ?_
         refine s_mv (v := .pointer (some ⟨b5, 0, none⟩)) rfl ?_
         refine s_mv (v := .int .i64 40) rfl ?_
         refine s_add rfl rfl ?_
         refine s_bslice (sz := 1) hC [(0, .int .i64 (-1)), (1, .int .i64 (IntKind.i64.wrap (40 + 1))), (2, .int .i64 1099511627776), (3, .int .i64 (-4611686018427387904))] ((EI .i64).encs [(-1), IntKind.i64.wrap (40 + 1), 1099511627776, (-4611686018427387904)]) rfl (fun _ => bs22_4 (-1) (IntKind.i64.wrap (40 + 1)) 1099511627776 (-4611686018427387904) _) rfl (by decide) fun b3518 w3519 hB_ hC => ?_
         refine s_call [.pointer (some ⟨b5, 0, none⟩), .slice (some ⟨b3518, 0, none⟩) 4 4] _ Try.func89 rfl rfl rfl (c_spec_l01Pick (a0, m3515.1, m3515.2) [(-1), IntKind.i64.wrap (40 + 1), 1099511627776, (-4611686018427387904)] h _ (own_repE (hC.getM 0 rfl)) (hC.getP 0 rfl) (hC.getM 4 rfl) (fun b_ hb_ hb2_ => hC.pd _ (List.mem_of_getElem? (i := 0) rfl) b_ hb_ _ (List.mem_of_getElem? (i := 4) rfl) hb2_) (fun b_ hb_ hb2_ => hC.mm 0 4 rfl rfl (by decide) b_ hb_ hb2_)) (fun ret3521 w3523 hR3522 => ?_)
         obtain ⟨r3524, m3526, rfl, h, hm3527, hB3525⟩ := hR3522
         refine ⟨_, rfl, ?_⟩
         replace hC := hC.turnF 4 rfl hB3525 hm3527
         refine s_as (v := .int .i64 r3524) rfl ?_
         refine dn ?_
         refine wp_ret (then_ret ?_)
         refine ret1 (fn := Try.f90) (v := .int .i64 r3524) rfl (res_tmp rfl) ⟨_, rfl, ?_⟩ (.inl rfl)
         refine s_bslice (sz := 1) hC [(0, .int .i64 r3499), (1, .int .i64 r3506), (2, .int .i64 r3524)] ((EI .i64).encs [r3499, r3506, r3524]) rfl (fun _ => bs22_3 r3499 r3506 r3524 _) rfl (by decide) fun b3528 w3529 hB_ hC => ?_
         refine s_call [.pointer (some ⟨b5, 0, none⟩), .slice (some ⟨b3528, 0, none⟩) 3 3] _ Try.func89 rfl rfl rfl (c_spec_l01Pick (a0, m3526.1, m3526.2) [r3499, r3506, r3524] h _ (own_repE (hC.getM 0 rfl)) (hC.getP 0 rfl) (hC.getM 5 rfl) (fun b_ hb_ hb2_ => hC.pd _ (List.mem_of_getElem? (i := 0) rfl) b_ hb_ _ (List.mem_of_getElem? (i := 5) rfl) hb2_) (fun b_ hb_ hb2_ => hC.mm 0 5 rfl rfl (by decide) b_ hb_ hb2_)) (fun ret3531 w3533 hR3532 => ?_)
         obtain ⟨r3534, m3536, rfl, h, hm3537, hB3535⟩ := hR3532
         refine ⟨_, rfl, ?_⟩
         replace hC := hC.turnF 5 rfl hB3535 hm3537
         refine s_as (v := v3493) rfl ?_
         refine s_as (v := .int .i64 r3534) rfl ?_
         refine dn ?_
         refine wp_ret ?_
         refine ret2 (fn := Try.f33) rfl ?_ ?_ ⟨s3442.2.2.1 ++ [r3486], v3493, (Option.toList (Value.ownBlock v3493)), r3534, rfl, h, (own_item (hC.getM 4 rfl)), (own_fresh hC 4 rfl), hC.below⟩ (.inl rfl)
         ·exact res_tmp rfl
         ·exact res_tmp rfl
        ·replace h := iff_ h (cf hb3517)
         refine wp_skip ?_
         refine then_norm ?_
         refine sr ?_
         refine s_mv (v := .pointer (some ⟨b5, 0, none⟩)) rfl ?_
         refine s_mv (v := .int .i64 40) rfl ?_
         refine s_add rfl rfl ?_
         refine s_call [.pointer (some ⟨b5, 0, none⟩), .int .i64 (IntKind.i64.wrap (40 + 1))] _ Try.func88 rfl rfl rfl (c_spec_l01Next (a0, m3515.1, m3515.2) (IntKind.i64.wrap (40 + 1)) h _ (hC.getP 0 rfl) (hC.getM 3 rfl) (fun b_ hb_ hb2_ => hC.pd _ (List.mem_of_getElem? (i := 0) rfl) b_ hb_ _ (List.mem_of_getElem? (i := 3) rfl) hb2_)) (fun ret3538 w3540 hR3539 => ?_)
         obtain ⟨r3541, m3543, rfl, h, hm3544, hB3542⟩ := hR3539
         refine ⟨_, rfl, ?_⟩
         replace hC := hC.turnF 3 rfl hB3542 hm3544
         refine s_as (v := .int .i64 r3541) rfl ?_
         refine dn ?_
         refine wp_ret ?_
         refine ret1 (fn := Try.f90) (v := .int .i64 r3541) rfl (res_tmp rfl) ⟨_, rfl, ?_⟩ (.inl rfl)
         refine s_bslice (sz := 1) hC [(0, .int .i64 r3499), (1, .int .i64 r3506), (2, .int .i64 r3541)] ((EI .i64).encs [r3499, r3506, r3541]) rfl (fun _ => bs22_3 r3499 r3506 r3541 _) rfl (by decide) fun b3545 w3546 hB_ hC => ?_
         refine s_call [.pointer (some ⟨b5, 0, none⟩), .slice (some ⟨b3545, 0, none⟩) 3 3] _ Try.func89 rfl rfl rfl (c_spec_l01Pick (a0, m3543.1, m3543.2) [r3499, r3506, r3541] h _ (own_repE (hC.getM 0 rfl)) (hC.getP 0 rfl) (hC.getM 4 rfl) (fun b_ hb_ hb2_ => hC.pd _ (List.mem_of_getElem? (i := 0) rfl) b_ hb_ _ (List.mem_of_getElem? (i := 4) rfl) hb2_) (fun b_ hb_ hb2_ => hC.mm 0 4 rfl rfl (by decide) b_ hb_ hb2_)) (fun ret3548 w3550 hR3549 => ?_)
         obtain ⟨r3551, m3553, rfl, h, hm3554, hB3552⟩ := hR3549
         refine ⟨_, rfl, ?_⟩
         replace hC := hC.turnF 4 rfl hB3552 hm3554
         refine s_as (v := v3493) rfl ?_
         refine s_as (v := .int .i64 r3551) rfl ?_
         refine dn ?_
         refine wp_ret ?_
         refine ret2 (fn := Try.f33) rfl ?_ ?_ ⟨s3442.2.2.1 ++ [r3486], v3493, (Option.toList (Value.ownBlock v3493)), r3551, rfl, h, (own_item (hC.getM 3 rfl)), (own_fresh hC 3 rfl), hC.below⟩ (.inl rfl)
         ·exact res_tmp rfl
         ·exact res_tmp rfl
       ·replace h := iff_ h (cf hb3479)
        refine sr ?_
        refine s_eql rfl rfl ?_
        refine s_as (v := .bool (decide (r3475 = 1))) rfl ?_
        refine dn ?_
        refine cw_cond rfl (fun hb3555 => ?_) (fun hb3555 => ?_)
        ·replace h := ift h (ct hb3555)
         refine sr ?_
         refine s_bslice (sz := 1) hC [(0, .int .i64 2), (1, .int .i64 2), (2, .int .i64 2), (3, .int .i64 2), (4, .int .i64 2), (5, .int .i64 2), (6, .int .i64 2), (7, .int .i64 2), (8, .int .i64 2)] ((EI .i64).encs [2, 2, 2, 2, 2, 2, 2, 2, 2]) rfl (fun _ => bs22_9 2 2 2 2 2 2 2 2 2 _) rfl (by decide) fun b3556 w3557 hB_ hC => ?_
         refine s_as (v := .slice (some ⟨b3556, 0, none⟩) 9 9) rfl ?_
         refine dn ?_
         refine wp_ret (blk_ret (then_ret ?_))
         refine ret1 (fn := Try.f76) (v := .slice (some ⟨b3556, 0, none⟩) 9 9) rfl (res_tmp rfl) ⟨_, rfl, ?_⟩ (.inl rfl)
         refine s_mv (v := .pointer (some ⟨b5, 0, none⟩)) rfl ?_
         refine s_mv (v := .pointer (some ⟨b5, 0, none⟩)) rfl ?_
         refine s_call [.pointer (some ⟨b5, 0, none⟩), .int .i64 8] _ Try.func88 rfl rfl rfl (c_spec_l01Next (a0, m3477.1, m3477.2) 8 h _ (hC.getP 0 rfl) (hC.getM 2 rfl) (fun b_ hb_ hb2_ => hC.pd _ (List.mem_of_getElem? (i := 0) rfl) b_ hb_ _ (List.mem_of_getElem? (i := 2) rfl) hb2_)) (fun ret3559 w3561 hR3560 => ?_)
         obtain ⟨r3562, m3564, rfl, h, hm3565, hB3563⟩ := hR3560
         refine ⟨_, rfl, ?_⟩
         replace hC := hC.turnF 2 rfl hB3563 hm3565
         refine s_mv (v := .pointer (some ⟨b5, 0, none⟩)) rfl ?_
         refine s_call [.pointer (some ⟨b5, 0, none⟩), .int .i64 16] _ Try.func88 rfl rfl rfl (c_spec_l01Next (a0, m3564.1, m3564.2) 16 h _ (hC.getP 0 rfl) (hC.getM 2 rfl) (fun b_ hb_ hb2_ => hC.pd _ (List.mem_of_getElem? (i := 0) rfl) b_ hb_ _ (List.mem_of_getElem? (i := 2) rfl) hb2_)) (fun ret3566 w3568 hR3567 => ?_)
         obtain ⟨r3569, m3571, rfl, h, hm3572, hB3570⟩ := hR3567
         refine ⟨_, rfl, ?_⟩
         replace hC := hC.turnF 2 rfl hB3570 hm3572
         refine s_mv (v := .pointer (some ⟨b5, 0, none⟩)) rfl ?_
         refine s_inline [.pointer (some ⟨b5, 0, none⟩), .int .i64 40] Try.func90 rfl rfl 17 Try.ntmps90 (Nat.le_of_ble_eq_true rfl) rfl ?_
         refine sr ?_
         refine s_as (v := .int .i64 0) rfl ?_
         refine dn ?_
         refine wp_seq ?_
         refine sr ?_
         refine s_mv (v := .pointer (some ⟨b5, 0, none⟩)) rfl ?_
         refine s_call [.pointer (some ⟨b5, 0, none⟩), .int .i64 14] _ Try.func88 rfl rfl rfl (c_spec_l01Next (a0, m3571.1, m3571.2) 14 h _ (hC.getP 0 rfl) (hC.getM 2 rfl) (fun b_ hb_ hb2_ => hC.pd _ (List.mem_of_getElem? (i := 0) rfl) b_ hb_ _ (List.mem_of_getElem? (i := 2) rfl) hb2_)) (fun ret3573 w3575 hR3574 => ?_)
         obtain ⟨r3576, m3578, rfl, h, hm3579, hB3577⟩ := hR3574
         refine ⟨_, rfl, ?_⟩
         replace hC := hC.turnF 2 rfl hB3577 hm3579
         refine s_eql rfl rfl ?_
         refine dn ?_
         refine cw_cond rfl (fun hb3580 => ?_) (fun hb3580 => ?_)
         ·replace h := ift h (ct hb3580)
          refine sr ?_
          refine s_mv (v := .pointer (some ⟨b5, 0, none⟩)) rfl ?_
          refine s_mv (v := .int .i64 40) rfl ?_
          refine s_add rfl rfl ?_
          refine s_bslice (sz := 1) hC [(0, .int .i64 (-1)), (1, .int .i64 (IntKind.i64.wrap (40 + 1))), (2, .int .i64 1099511627776), (3, .int .i64 (-4611686018427387904))] ((EI .i64).encs [(-1), IntKind.i64.wrap (40 + 1), 1099511627776, (-4611686018427387904)]) rfl (fun _ => bs22_4 (-1) (IntKind.i64.wrap (40 + 1)) 1099511627776 (-4611686018427387904) _) rfl (by decide) fun b3581 w3582 hB_ hC => ?_
          refine s_call [.pointer (some ⟨b5, 0, none⟩), .slice (some ⟨b3581, 0, none⟩) 4 4] _ Try.func89 rfl rfl rfl (c_spec_l01Pick (a0, m3578.1, m3578.2) [(-1), IntKind.i64.wrap (40 + 1), 1099511627776, (-4611686018427387904)] h _ (own_repE (hC.getM 0 rfl)) (hC.getP 0 rfl) (hC.getM 3 rfl) (fun b_ hb_ hb2_ => hC.pd _ (List.mem_of_getElem? (i := 0) rfl) b_ hb_ _ (List.mem_of_getElem? (i := 3) rfl) hb2_) (fun b_ hb_ hb2_ => hC.mm 0 3 rfl rfl (by decide) b_ hb_ hb2_)) (fun ret3584 w3586 hR3585 => ?_)
          obtain ⟨r3587, m3589, rfl, h, hm3590, hB3588⟩ := hR3585
          refine ⟨_, rfl, ?_⟩
          replace hC := hC.turnF 3 rfl hB3588 hm3590
          refine s_as (v := .int .i64 r3587) rfl ?_
          refine dn ?_
          refine wp_ret (then_ret ?_)
          refine ret1 (fn := Try.f90) (v := .int .i64 r3587) rfl (res_tmp rfl) ⟨_, rfl, ?_⟩ (.inl rfl)
          refine s_bslice (sz := 1) hC [(0, .int .i64 r3562), (1, .int .i64 r3569), (2, .int .i64 r3587)] ((EI .i64).encs [r3562, r3569, r3587]) rfl (fun _ => bs22_3 r3562 r3569 r3587 _) rfl (by decide) fun b3591 w3592 hB_ hC => ?_
          refine s_call [.pointer (some ⟨b5, 0, none⟩), .slice (some ⟨b3591, 0, none⟩) 3 3] _ Try.func89 rfl rfl rfl (c_spec_l01Pick (a0, m3589.1, m3589.2) [r3562, r3569, r3587] h _ (own_repE (hC.getM 0 rfl)) (hC.getP 0 rfl) (hC.getM 4 rfl) (fun b_ hb_ hb2_ => hC.pd _ (List.mem_of_getElem? (i := 0) rfl) b_ hb_ _ (List.mem_of_getElem? (i := 4) rfl) hb2_) (fun b_ hb_ hb2_ => hC.mm 0 4 rfl rfl (by decide) b_ hb_ hb2_)) (fun ret3594 w3596 hR3595 => ?_)
          obtain ⟨r3597, m3599, rfl, h, hm3600, hB3598⟩ := hR3595
          refine ⟨_, rfl, ?_⟩
          replace hC := hC.turnF 4 rfl hB3598 hm3600
          refine s_as (v := .slice (some ⟨b3556, 0, none⟩) 9 9) rfl ?_
          refine s_as (v := .int .i64 r3597) rfl ?_
          refine dn ?_
          refine wp_ret ?_
          refine ret2 (fn := Try.f33) rfl ?_ ?_ ⟨[2, 2, 2, 2, 2, 2, 2, 2, 2], .slice (some ⟨b3556, 0, none⟩) 9 9, (Option.toList (Value.ownBlock (.slice (some ⟨b3556, 0, none⟩) 9 9))), r3597, rfl, h, (own_item (hC.getM 2 rfl)), (own_fresh hC 2 rfl), hC.below⟩ (.inl rfl)
          ·exact res_tmp rfl
          ·exact res_tmp rfl
         ·replace h := iff_ h (cf hb3580)
          refine wp_skip ?_
          refine then_norm ?_
          refine sr ?_
          refine s_mv (v := .pointer (some ⟨b5, 0, none⟩)) rfl ?_
          refine s_mv (v := .int .i64 40) rfl ?_
          refine s_add rfl rfl ?_
          refine s_call [.pointer (some ⟨b5, 0, none⟩), .int .i64 (IntKind.i64.wrap (40 + 1))] _ Try.func88 rfl rfl rfl (c_spec_l01Next (a0, m3578.1, m3578.2) (IntKind.i64.wrap (40 + 1)) h _ (hC.getP 0 rfl) (hC.getM 2 rfl) (fun b_ hb_ hb2_ => hC.pd _ (List.mem_of_getElem? (i := 0) rfl) b_ hb_ _ (List.mem_of_getElem? (i := 2) rfl) hb2_)) (fun ret3601 w3603 hR3602 => ?_)
          obtain ⟨r3604, m3606, rfl, h, hm3607, hB3605⟩ := hR3602
          refine ⟨_, rfl, ?_⟩
          replace hC := hC.turnF 2 rfl hB3605 hm3607
          refine s_as (v := .int .i64 r3604) rfl ?_
          refine dn ?_
          refine wp_ret ?_
          refine ret1 (fn := Try.f90) (v := .int .i64 r3604) rfl (res_tmp rfl) ⟨_, rfl, ?_⟩ (.inl rfl)
          refine s_bslice (sz := 1) hC [(0, .int .i64 r3562), (1, .int .i64 r3569), (2, .int .i64 r3604)] ((EI .i64).encs [r3562, r3569, r3604]) rfl (fun _ => bs22_3 r3562 r3569 r3604 _) rfl (by decide) fun b3608 w3609 hB_ hC => ?_
          refine s_call [.pointer (some ⟨b5, 0, none⟩), .slice (some ⟨b3608, 0, none⟩) 3 3] _ Try.func89 rfl rfl rfl (c_spec_l01Pick (a0, m3606.1, m3606.2) [r3562, r3569, r3604] h _ (own_repE (hC.getM 0 rfl)) (hC.getP 0 rfl) (hC.getM 3 rfl) (fun b_ hb_ hb2_ => hC.pd _ (List.mem_of_getElem? (i := 0) rfl) b_ hb_ _ (List.mem_of_getElem? (i := 3) rfl) hb2_) (fun b_ hb_ hb2_ => hC.mm 0 3 rfl rfl (by decide) b_ hb_ hb2_)) (fun ret3611 w3613 hR3612 => ?_)
          obtain ⟨r3614, m3616, rfl, h, hm3617, hB3615⟩ := hR3612
          refine ⟨_, rfl, ?_⟩
          replace hC := hC.turnF 3 rfl hB3615 hm3617
          refine s_as (v := .slice (some ⟨b3556, 0, none⟩) 9 9) rfl ?_
          refine s_as (v := .int .i64 r3614) rfl ?_
          refine dn ?_
          refine wp_ret ?_
          refine ret2 (fn := Try.f33) rfl ?_ ?_ ⟨[2, 2, 2, 2, 2, 2, 2, 2, 2], .slice (some ⟨b3556, 0, none⟩) 9 9, (Option.toList (Value.ownBlock (.slice (some ⟨b3556, 0, none⟩) 9 9))), r3614, rfl, h, (own_item (hC.getM 1 rfl)), (own_fresh hC 1 rfl), hC.below⟩ (.inl rfl)
          ·exact res_tmp rfl
          ·exact res_tmp rfl
        ·replace h := iff_ h (cf hb3555)
         refine wp_skip ?_
         refine blk_norm ?_
         refine then_norm ?_
         refine sr ?_
         refine s_mv (v := v3443) rfl ?_
         refine s_as (v := v3443) rfl ?_
         refine dn ?_
         refine wp_ret ?_
         refine ret1 (fn := Try.f76) (v := v3443) rfl (res_tmp rfl) ⟨_, rfl, ?_⟩ (.inl rfl)
         refine s_mv (v := .pointer (some ⟨b5, 0, none⟩)) rfl ?_
         refine s_mv (v := .pointer (some ⟨b5, 0, none⟩)) rfl ?_
         refine s_call [.pointer (some ⟨b5, 0, none⟩), .int .i64 8] _ Try.func88 rfl rfl rfl (c_spec_l01Next (a0, m3477.1, m3477.2) 8 h _ (hC.getP 0 rfl) (hC.getM 1 rfl) (fun b_ hb_ hb2_ => hC.pd _ (List.mem_of_getElem? (i := 0) rfl) b_ hb_ _ (List.mem_of_getElem? (i := 1) rfl) hb2_)) (fun ret3618 w3620 hR3619 => ?_)
         obtain ⟨r3621, m3623, rfl, h, hm3624, hB3622⟩ := hR3619
         refine ⟨_, rfl, ?_⟩
         replace hC := hC.turnF 1 rfl hB3622 hm3624
         refine s_mv (v := .pointer (some ⟨b5, 0, none⟩)) rfl ?_
         refine s_call [.pointer (some ⟨b5, 0, none⟩), .int .i64 16] _ Try.func88 rfl rfl rfl (c_spec_l01Next (a0, m3623.1, m3623.2) 16 h _ (hC.getP 0 rfl) (hC.getM 1 rfl) (fun b_ hb_ hb2_ => hC.pd _ (List.mem_of_getElem? (i := 0) rfl) b_ hb_ _ (List.mem_of_getElem? (i := 1) rfl) hb2_)) (fun ret3625 w3627 hR3626 => ?_)
         obtain ⟨r3628, m3630, rfl, h, hm3631, hB3629⟩ := hR3626
         refine ⟨_, rfl, ?_⟩
         replace hC := hC.turnF 1 rfl hB3629 hm3631
         refine s_mv (v := .pointer (some ⟨b5, 0, none⟩)) rfl ?_
         refine s_inline [.pointer (some ⟨b5, 0, none⟩), .int .i64 40] Try.func90 rfl rfl 17 Try.ntmps90 (Nat.le_of_ble_eq_true rfl) rfl ?_
         refine sr ?_
         refine s_as (v := .int .i64 0) rfl ?_
         refine dn ?_
         refine wp_seq ?_
         refine sr ?_
         refine s_mv (v := .pointer (some ⟨b5, 0, none⟩)) rfl ?_
         refine s_call [.pointer (some ⟨b5, 0, none⟩), .int .i64 14] _ Try.func88 rfl rfl rfl (c_spec_l01Next (a0, m3630.1, m3630.2) 14 h _ (hC.getP 0 rfl) (hC.getM 1 rfl) (fun b_ hb_ hb2_ => hC.pd _ (List.mem_of_getElem? (i := 0) rfl) b_ hb_ _ (List.mem_of_getElem? (i := 1) rfl) hb2_)) (fun ret3632 w3634 hR3633 => ?_)
         obtain ⟨r3635, m3637, rfl, h, hm3638, hB3636⟩ := hR3633
         refine ⟨_, rfl, ?_⟩
         replace hC := hC.turnF 1 rfl hB3636 hm3638
         refine s_eql rfl rfl ?_
         refine dn ?_
         refine cw_cond rfl (fun hb3639 => ?_) (fun hb3639 => ?_)
         ·replace h := ift h (ct hb3639)
          refine sr ?_
          refine s_mv (v := .pointer (some ⟨b5, 0, none⟩)) rfl ?_
          refine s_mv (v := .int .i64 40) rfl ?_
          refine s_add rfl rfl ?_
          refine s_bslice (sz := 1) hC [(0, .int .i64 (-1)), (1, .int .i64 (IntKind.i64.wrap (40 + 1))), (2, .int .i64 1099511627776), (3, .int .i64 (-4611686018427387904))] ((EI .i64).encs [(-1), IntKind.i64.wrap (40 + 1), 1099511627776, (-4611686018427387904)]) rfl (fun _ => bs22_4 (-1) (IntKind.i64.wrap (40 + 1)) 1099511627776 (-4611686018427387904) _) rfl (by decide) fun b3640 w3641 hB_ hC => ?_
          refine s_call [.pointer (some ⟨b5, 0, none⟩), .slice (some ⟨b3640, 0, none⟩) 4 4] _ Try.func89 rfl rfl rfl (c_spec_l01Pick (a0, m3637.1, m3637.2) [(-1), IntKind.i64.wrap (40 + 1), 1099511627776, (-4611686018427387904)] h _ (own_repE (hC.getM 0 rfl)) (hC.getP 0 rfl) (hC.getM 2 rfl) (fun b_ hb_ hb2_ => hC.pd _ (List.mem_of_getElem? (i := 0) rfl) b_ hb_ _ (List.mem_of_getElem? (i := 2) rfl) hb2_) (fun b_ hb_ hb2_ => hC.mm 0 2 rfl rfl (by decide) b_ hb_ hb2_)) (fun ret3643 w3645 hR3644 => ?_)
          obtain ⟨r3646, m3648, rfl, h, hm3649, hB3647⟩ := hR3644
          refine ⟨_, rfl, ?_⟩
          replace hC := hC.turnF 2 rfl hB3647 hm3649
          refine s_as (v := .int .i64 r3646) rfl ?_
          refine dn ?_
          refine wp_ret (then_ret ?_)
          refine ret1 (fn := Try.f90) (v := .int .i64 r3646) rfl (res_tmp rfl) ⟨_, rfl, ?_⟩ (.inl rfl)
          refine s_bslice (sz := 1) hC [(0, .int .i64 r3621), (1, .int .i64 r3628), (2, .int .i64 r3646)] ((EI .i64).encs [r3621, r3628, r3646]) rfl (fun _ => bs22_3 r3621 r3628 r3646 _) rfl (by decide) fun b3650 w3651 hB_ hC => ?_
          refine s_call [.pointer (some ⟨b5, 0, none⟩), .slice (some ⟨b3650, 0, none⟩) 3 3] _ Try.func89 rfl rfl rfl (c_spec_l01Pick (a0, m3648.1, m3648.2) [r3621, r3628, r3646] h _ (own_repE (hC.getM 0 rfl)) (hC.getP 0 rfl) (hC.getM 3 rfl) (fun b_ hb_ hb2_ => hC.pd _ (List.mem_of_getElem? (i := 0) rfl) b_ hb_ _ (List.mem_of_getElem? (i := 3) rfl) hb2_) (fun b_ hb_ hb2_ => hC.mm 0 3 rfl rfl (by decide) b_ hb_ hb2_)) (fun ret3653 w3655 hR3654 => ?_)
          obtain ⟨r3656, m3658, rfl, h, hm3659, hB3657⟩ := hR3654
          refine ⟨_, rfl, ?_⟩
          replace hC := hC.turnF 3 rfl hB3657 hm3659
          refine s_as (v := v3443) rfl ?_
          refine s_as (v := .int .i64 r3656) rfl ?_
          refine dn ?_
          refine wp_ret ?_
          refine ret2 (fn := Try.f33) rfl ?_ ?_ ⟨s3442.2.2.1, v3443, (Option.toList (Value.ownBlock v3443)), r3656, rfl, h, (own_item (hC.getM 2 rfl)), (own_fresh hC 2 rfl), hC.below⟩ (.inl rfl)
          ·exact res_tmp rfl
          ·exact res_tmp rfl
         ·replace h := iff_ h (cf hb3639)
          refine wp_skip ?_
          refine then_norm ?_
          refine sr ?_
          refine s_mv (v := .pointer (some ⟨b5, 0, none⟩)) rfl ?_
          refine s_mv (v := .int .i64 40) rfl ?_
          refine s_add rfl rfl ?_
          refine s_call [.pointer (some ⟨b5, 0, none⟩), .int .i64 (IntKind.i64.wrap (40 + 1))] _ Try.func88 rfl rfl rfl (c_spec_l01Next (a0, m3637.1, m3637.2) (IntKind.i64.wrap (40 + 1)) h _ (hC.getP 0 rfl) (hC.getM 1 rfl) (fun b_ hb_ hb2_ => hC.pd _ (List.mem_of_getElem? (i := 0) rfl) b_ hb_ _ (List.mem_of_getElem? (i := 1) rfl) hb2_)) (fun ret3660 w3662 hR3661 => ?_)
          obtain ⟨r3663, m3665, rfl, h, hm3666, hB3664⟩ := hR3661
          refine ⟨_, rfl, ?_⟩
          replace hC := hC.turnF 1 rfl hB3664 hm3666
          refine s_as (v := .int .i64 r3663) rfl ?_
          refine dn ?_
          refine wp_ret ?_
          refine ret1 (fn := Try.f90) (v := .int .i64 r3663) rfl (res_tmp rfl) ⟨_, rfl, ?_⟩ (.inl rfl)
          refine s_bslice (sz := 1) hC [(0, .int .i64 r3621), (1, .int .i64 r3628), (2, .int .i64 r3663)] ((EI .i64).encs [r3621, r3628, r3663]) rfl (fun _ => bs22_3 r3621 r3628 r3663 _) rfl (by decide) fun b3667 w3668 hB_ hC => ?_
          refine s_call [.pointer (some ⟨b5, 0, none⟩), .slice (some ⟨b3667, 0, none⟩) 3 3] _ Try.func89 rfl rfl rfl (c_spec_l01Pick (a0, m3665.1, m3665.2) [r3621, r3628, r3663] h _ (own_repE (hC.getM 0 rfl)) (hC.getP 0 rfl) (hC.getM 2 rfl) (fun b_ hb_ hb2_ => hC.pd _ (List.mem_of_getElem? (i := 0) rfl) b_ hb_ _ (List.mem_of_getElem? (i := 2) rfl) hb2_) (fun b_ hb_ hb2_ => hC.mm 0 2 rfl rfl (by decide) b_ hb_ hb2_)) (fun ret3670 w3672 hR3671 => ?_)
          obtain ⟨r3673, m3675, rfl, h, hm3676, hB3674⟩ := hR3671
          refine ⟨_, rfl, ?_⟩
          replace hC := hC.turnF 2 rfl hB3674 hm3676
          refine s_as (v := v3443) rfl ?_
          refine s_as (v := .int .i64 r3673) rfl ?_
          refine dn ?_
          refine wp_ret ?_
          refine ret2 (fn := Try.f33) rfl ?_ ?_ ⟨s3442.2.2.1, v3443, (Option.toList (Value.ownBlock v3443)), r3673, rfl, h, (own_item (hC.getM 1 rfl)), (own_fresh hC 1 rfl), hC.below⟩ (.inl rfl)
          ·exact res_tmp rfl
          ·exact res_tmp rfl
     ·skip
      exact ⟨.slice (some ⟨b2971, 0, none⟩) 0 0, (sk rfl (sk rfl (sk rfl (sk rfl sn)))), hC⟩
  ·replace h := iff_ h (cf hb2942)
   refine guardOff (b := false) 4 16 rfl (tr rfl (congrArg _ hb2942)) (by decide) ?_
   refine guardOff (b := false) 4 16 rfl (tr rfl (congrArg _ hb2942)) (by decide) ?_
   refine s_pick (v := .bool false) (b := false) (tr rfl (congrArg _ hb2942)) rfl ?_
   refine dn ?_
   refine cw_false rfl rfl ?_
   refine wp_exit (then_exit (then_exit (exit_in ?_)))
   refine then_norm ?_
   refine sr ?_
   refine s_mv (v := .pointer (some ⟨b5, 0, none⟩)) (sx hS_ 1 rfl) ?_
   refine s_as (v := .pointer (some ⟨b5, 0, none⟩)) rfl ?_
   refine dn ?_
   refine wp_ret ?_
   refine ret1 (fn := Try.f75) (v := .pointer (some ⟨b5, 0, none⟩)) rfl (res_tmp rfl) ⟨_, rfl, ?_⟩ (.inl rfl)
   refine s_as (v := .pointer (some ⟨b5, 0, none⟩)) rfl ?_
   refine dn ?_
   refine wp_seq ?_
   refine sr ?_
   refine s_mv (v := .pointer (some ⟨b5, 0, none⟩)) rfl ?_
   refine s_call [.pointer (some ⟨b5, 0, none⟩), .int .i64 16] _ Try.func88 rfl rfl rfl (c_spec_l01Next (a0, 0, s2934.1) 16 h _ (hC.getP 0 rfl) (hC.getM 0 rfl) (fun b_ hb_ hb2_ => hC.pd _ (List.mem_of_getElem? (i := 0) rfl) b_ hb_ _ (List.mem_of_getElem? (i := 0) rfl) hb2_)) (fun ret3677 w3679 hR3678 => ?_)
   obtain ⟨r3680, m3682, rfl, h, hm3683, hB3681⟩ := hR3678
   refine ⟨_, rfl, ?_⟩
   replace hC := hC.turnF 0 rfl hB3681 hm3683
   refine s_eql rfl rfl ?_
   refine dn ?_
   refine cw_cond rfl (fun hb3684 => ?_) (fun hb3684 => ?_)
   ·replace h := ift h (ct hb3684)
    refine sr ?_
    refine s_bslice (sz := 1) hC [(0, .int .i64 1), (1, .int .i64 2), (2, .int .i64 2), (3, .int .i64 2), (4, .int .i64 2), (5, .int .i64 2), (6, .int .i64 3), (7, .int .i64 4)] ((EI .i64).encs [1, 2, 2, 2, 2, 2, 3, 4]) rfl (fun _ => bs22_8 1 2 2 2 2 2 3 4 _) rfl (by decide) fun b3685 w3686 hB_ hC => ?_
    refine s_mv (v := .pointer (some ⟨b5, 0, none⟩)) rfl ?_
    refine s_call [.pointer (some ⟨b5, 0, none⟩), .int .i64 20] _ Try.func88 rfl rfl rfl (c_spec_l01Next (a0, m3682.1, m3682.2) 20 h _ (hC.getP 0 rfl) (hC.getM 1 rfl) (fun b_ hb_ hb2_ => hC.pd _ (List.mem_of_getElem? (i := 0) rfl) b_ hb_ _ (List.mem_of_getElem? (i := 1) rfl) hb2_)) (fun ret3688 w3690 hR3689 => ?_)
    obtain ⟨r3691, m3693, rfl, h, hm3694, hB3692⟩ := hR3689
    refine ⟨_, rfl, ?_⟩
    replace hC := hC.turnF 1 rfl hB3692 hm3694
    refine s_add rfl rfl ?_
    refine s_as (v := .slice (some ⟨b3685, 0, none⟩) 8 8) rfl ?_
    refine s_as (v := .int .i64 (IntKind.i64.wrap (10 + r3691))) rfl ?_
    refine dn ?_
    refine wp_ret (then_ret ?_)
    refine ret2 (fn := Try.f33) rfl ?_ ?_ ⟨[1, 2, 2, 2, 2, 2, 3, 4], .slice (some ⟨b3685, 0, none⟩) 8 8, (Option.toList (Value.ownBlock (.slice (some ⟨b3685, 0, none⟩) 8 8))), IntKind.i64.wrap (10 + r3691), rfl, h, (own_item (hC.getM 0 rfl)), (own_fresh hC 0 rfl), hC.below⟩ (.inl rfl)
    ·exact res_tmp rfl
    ·exact res_tmp rfl
   ·replace h := iff_ h (cf hb3684)
    refine wp_skip ?_
    refine then_norm ?_
    refine sr ?_
    refine s_mv (v := .pointer (some ⟨b5, 0, none⟩)) rfl ?_
    refine s_mv (v := .pointer (some ⟨b5, 0, none⟩)) rfl ?_
    refine s_inline [.pointer (some ⟨b5, 0, none⟩), .int .i64 6] Try.func77 rfl rfl 26 Try.ntmps77 (Nat.le_of_ble_eq_true rfl) rfl ?_
    refine sr ?_
    refine s_as (v := .slice none 0 0) rfl ?_
    refine dn ?_
    refine sr ?_
    refine s_bslice (sz := 1) hC [] ((EI .i64).encs []) rfl (fun _ => bs22_0  _) rfl (by decide) fun b3695 w3696 hB_ hC => ?_
    refine s_as (v := .slice (some ⟨b3695, 0, none⟩) 0 0) rfl ?_
    refine dn ?_
    refine wp_seq ?_
    refine sr ?_
    refine s_mv (v := .pointer (some ⟨b5, 0, none⟩)) rfl ?_
    refine s_mv (v := .int .i64 6) rfl ?_
    refine s_add rfl rfl ?_
    refine s_call [.pointer (some ⟨b5, 0, none⟩), .int .i64 (IntKind.i64.wrap (6 + 1))] _ Try.func88 rfl rfl rfl (c_spec_l01Next (a0, m3682.1, m3682.2) (IntKind.i64.wrap (6 + 1)) h _ (hC.getP 0 rfl) (hC.getM 1 rfl) (fun b_ hb_ hb2_ => hC.pd _ (List.mem_of_getElem? (i := 0) rfl) b_ hb_ _ (List.mem_of_getElem? (i := 1) rfl) hb2_)) (fun ret3698 w3700 hR3699 => ?_)
    obtain ⟨r3701, m3703, rfl, h, hm3704, hB3702⟩ := hR3699
    refine ⟨_, rfl, ?_⟩
    replace hC := hC.turnF 1 rfl hB3702 hm3704
    refine s_as (v := .int .i64 r3701) rfl ?_
    refine dn ?_
    refine wp_block ?_
    refine loopW (S := Int × Int × (List Int) × Int) _ (fun s4166 e_ w_ => ∃ (v4167 : Value), Slots e_ [(0, .pointer (some ⟨b5, 0, none⟩)), (4, .slice none 0 0), (5, v4167), (6, .int .i64 s4166.2.2.2)] ∧ Ctx Nox w0 w_ [own 2 1 v4167 s4166.2.2.1.length ((EI .i64).encs s4166.2.2.1), blk b5 170 [u0_0, .int .i64 s4166.1, .int .u64 s4166.2.1]] [Ty.item ((EI .u8).ty.sl) a0 [u0_0] fp0]) ?_ (s0 := (m3703.1, m3703.2, [], r3701)) ?_ h
    ·clear hC h
     rintro s4166 e_ w4171 next4168 K4169 ⟨v4167, hS_, hC⟩ h hK4170
     refine wp_seq ?_
     refine sr ?_
     refine s_mv (v := .int .i64 s4166.2.2.2) (sx hS_ 3 rfl) ?_
     refine s_gtr rfl rfl ?_
     refine dn ?_
     refine cw_cond rfl (fun hb4172 => ?_) (fun hb4172 => ?_)
     ·replace h := ift h (ct hb4172)
      refine wp_skip ?_
      refine then_norm ?_
      refine wp_seq ?_
      refine wp_block ?_
      refine cw_region ?_
      refine s_mv (v := v4167) (sx hS_ 2 rfl) ?_
      refine s_mv (v := .pointer (some ⟨b5, 0, none⟩)) (sx hS_ 0 rfl) ?_
      refine s_mv (v := .pointer (some ⟨b5, 0, none⟩)) (sx hS_ 0 rfl) ?_
      refine s_call [.pointer (some ⟨b5, 0, none⟩), .int .i64 12] _ Try.func88 rfl rfl rfl (c_spec_l01Next (a0, s4166.1, s4166.2.1) 12 h _ (hC.getP 0 rfl) (hC.getM 1 rfl) (fun b_ hb_ hb2_ => hC.pd _ (List.mem_of_getElem? (i := 0) rfl) b_ hb_ _ (List.mem_of_getElem? (i := 1) rfl) hb2_)) (fun ret4173 w4175 hR4174 => ?_)
      obtain ⟨r4176, m4178, rfl, h, hm4179, hB4177⟩ := hR4174
      refine ⟨_, rfl, ?_⟩
      replace hC := hC.turnF 1 rfl hB4177 hm4179
      refine s_add rfl rfl ?_
      refine s_bslice (sz := 1) hC [(0, .int .i64 1), (1, .int .i64 2), (2, .int .i64 2), (3, .int .i64 3), (4, .int .i64 3), (5, .int .i64 4), (6, .int .i64 5), (7, .int .i64 (IntKind.i64.wrap (1 + r4176)))] ((EI .i64).encs [1, 2, 2, 3, 3, 4, 5, IntKind.i64.wrap (1 + r4176)]) rfl (fun _ => bs22_8 1 2 2 3 3 4 5 (IntKind.i64.wrap (1 + r4176)) _) rfl (by decide) fun b4180 w4181 hB_ hC => ?_
      refine s_call [.pointer (some ⟨b5, 0, none⟩), .slice (some ⟨b4180, 0, none⟩) 8 8] _ Try.func89 rfl rfl rfl (c_spec_l01Pick (a0, m4178.1, m4178.2) [1, 2, 2, 3, 3, 4, 5, IntKind.i64.wrap (1 + r4176)] h _ (own_repE (hC.getM 0 rfl)) (hC.getP 0 rfl) (hC.getM 2 rfl) (fun b_ hb_ hb2_ => hC.pd _ (List.mem_of_getElem? (i := 0) rfl) b_ hb_ _ (List.mem_of_getElem? (i := 2) rfl) hb2_) (fun b_ hb_ hb2_ => hC.mm 0 2 rfl rfl (by decide) b_ hb_ hb2_)) (fun ret4183 w4185 hR4184 => ?_)
      obtain ⟨r4186, m4188, rfl, h, hm4189, hB4187⟩ := hR4184
      refine ⟨_, rfl, ?_⟩
      replace hC := hC.turnF 2 rfl hB4187 hm4189
      refine s_bslice (sz := 1) hC [(0, .int .i64 r4186)] ((EI .i64).encs [r4186]) rfl (fun _ => bs22_1 r4186 _) rfl (by decide) fun b4190 w4191 hB_ hC => ?_
      obtain ⟨hm4195, h⟩ := h
      refine s_app hC 2 Try.underlying22 el2 rfl (by decide) (by decide) rfl (own_rdr (hC.getM 0 rfl)) (fun q hq => Enc.encs_one' (E := (EI .i64)) _ q hq) rfl rfl hm4195 fun v4193 w4194 hC => ?_
      replace hC := own_re hC 2 ((s4166.2.2.1 ++ [r4186]).length) ((EI .i64).encs (s4166.2.2.1 ++ [r4186])) rfl (by simp) (by first | (simp [Enc.encs_append]; done) | simp [Enc.encs_append, Enc.encs])
      refine s_as (v := v4193) rfl ?_
      refine done ?_
      refine blk_norm ?_
      refine then_norm ?_
      refine cw_region ?_
      refine s_mv (v := .int .i64 s4166.2.2.2) (sx hS_ 3 rfl) ?_
      refine s_sub rfl rfl ?_
      refine s_as (v := .int .i64 (IntKind.i64.wrap (s4166.2.2.2 - 1))) rfl ?_
      refine done ?_
      replace hC := hC.sM [2, 3] (M' := [own 2 1 v4193 ((s4166.2.2.1 ++ [r4186]).length) ((EI .i64).encs (s4166.2.2.1 ++ [r4186])), blk b5 170 [u0_0, .int .i64 m4188.1, .int .u64 m4188.2]]) (by decide) rfl
      exact hK4170 (m4188.1, m4188.2, s4166.2.2.1 ++ [r4186], IntKind.i64.wrap (s4166.2.2.2 - 1)) _ _ ⟨v4193, (sk (sx hS_ 0 rfl) (sk (sx hS_ 1 rfl) (sk rfl (sk rfl sn)))), hC⟩ h
     ·replace h := iff_ h (cf hb4172)
      refine wp_exit (then_exit (then_exit (exit_in ?_)))
      refine then_norm ?_
      refine sr ?_
      refine s_mv (v := v4167) (sx hS_ 2 rfl) ?_
      refine s_as (v := v4167) rfl ?_
      refine dn ?_
      refine wp_ret ?_
      refine ret1 (fn := Try.f77) (v := v4167) rfl (res_tmp rfl) ⟨_, rfl, ?_⟩ (.inl rfl)
      refine s_inline [.pointer (some ⟨b5, 0, none⟩), v4167] Try.func76 rfl rfl 19 Try.ntmps76 (Nat.le_of_ble_eq_true rfl) rfl ?_
      refine sr ?_
      refine s_as (v := .slice none 0 0) rfl ?_
      refine dn ?_
      refine wp_seq ?_
      refine sr ?_
      refine s_mv (v := .pointer (some ⟨b5, 0, none⟩)) rfl ?_
      refine s_call [.pointer (some ⟨b5, 0, none⟩), .int .i64 40] _ Try.func88 rfl rfl rfl (c_spec_l01Next (a0, s4166.1, s4166.2.1) 40 h _ (hC.getP 0 rfl) (hC.getM 1 rfl) (fun b_ hb_ hb2_ => hC.pd _ (List.mem_of_getElem? (i := 0) rfl) b_ hb_ _ (List.mem_of_getElem? (i := 1) rfl) hb2_)) (fun ret4196 w4198 hR4197 => ?_)
      obtain ⟨r4199, m4201, rfl, h, hm4202, hB4200⟩ := hR4197
      refine ⟨_, rfl, ?_⟩
      replace hC := hC.turnF 1 rfl hB4200 hm4202
      refine dn ?_
      refine wp_block ?_
      refine sr ?_
      refine s_eql rfl rfl ?_
      refine s_as (v := .bool (decide (r4199 = 0))) rfl ?_
      refine dn ?_
      refine cw_cond rfl (fun hb4203 => ?_) (fun hb4203 => ?_)
      ·replace h := ift h (ct hb4203)
       refine sr ?_
       refine s_mv (v := v4167) rfl ?_
       refine s_mv (v := .pointer (some ⟨b5, 0, none⟩)) rfl ?_
       refine s_bslice (sz := 1) hC [(0, .int .i64 0), (1, .int .i64 13), (2, .int .i64 (-1))] ((EI .i64).encs [0, 13, (-1)]) rfl (fun _ => bs22_3 0 13 (-1) _) rfl (by decide) fun b4204 w4205 hB_ hC => ?_
       refine s_call [.pointer (some ⟨b5, 0, none⟩), .slice (some ⟨b4204, 0, none⟩) 3 3] _ Try.func89 rfl rfl rfl (c_spec_l01Pick (a0, m4201.1, m4201.2) [0, 13, (-1)] h _ (own_repE (hC.getM 0 rfl)) (hC.getP 0 rfl) (hC.getM 2 rfl) (fun b_ hb_ hb2_ => hC.pd _ (List.mem_of_getElem? (i := 0) rfl) b_ hb_ _ (List.mem_of_getElem? (i := 2) rfl) hb2_) (fun b_ hb_ hb2_ => hC.mm 0 2 rfl rfl (by decide) b_ hb_ hb2_)) (fun ret4207 w4209 hR4208 => ?_)
       obtain ⟨r4210, m4212, rfl, h, hm4213, hB4211⟩ := hR4208
       refine ⟨_, rfl, ?_⟩
       replace hC := hC.turnF 2 rfl hB4211 hm4213
       refine s_bslice (sz := 1) hC [(0, .int .i64 r4210)] ((EI .i64).encs [r4210]) rfl (fun _ => bs22_1 r4210 _) rfl (by decide) fun b4214 w4215 hB_ hC => ?_
       obtain ⟨hm4219, h⟩ := h
       refine s_app hC 2 Try.underlying22 el2 rfl (by decide) (by decide) rfl (own_rdr (hC.getM 0 rfl)) (fun q hq => Enc.encs_one' (E := (EI .i64)) _ q hq) rfl rfl hm4219 fun v4217 w4218 hC => ?_
       replace hC := own_re hC 2 ((s4166.2.2.1 ++ [r4210]).length) ((EI .i64).encs (s4166.2.2.1 ++ [r4210])) rfl (by simp) (by first | (simp [Enc.encs_append]; done) | simp [Enc.encs_append, Enc.encs])
       refine s_as (v := v4217) rfl ?_
       refine dn ?_
       refine wp_ret (blk_ret (then_ret ?_))
       refine ret1 (fn := Try.f76) (v := v4217) rfl (res_tmp rfl) ⟨_, rfl, ?_⟩ (.inl rfl)
       refine s_mv (v := .pointer (some ⟨b5, 0, none⟩)) rfl ?_
       refine s_mv (v := .pointer (some ⟨b5, 0, none⟩)) rfl ?_
       refine s_call [.pointer (some ⟨b5, 0, none⟩), .int .i64 8] _ Try.func88 rfl rfl rfl (c_spec_l01Next (a0, m4212.1, m4212.2) 8 h _ (hC.getP 0 rfl) (hC.getM 3 rfl) (fun b_ hb_ hb2_ => hC.pd _ (List.mem_of_getElem? (i := 0) rfl) b_ hb_ _ (List.mem_of_getElem? (i := 3) rfl) hb2_)) (fun ret4220 w4222 hR4221 => ?_)
       obtain ⟨r4223, m4225, rfl, h, hm4226, hB4224⟩ := hR4221
       refine ⟨_, rfl, ?_⟩
       replace hC := hC.turnF 3 rfl hB4224 hm4226
       refine s_mv (v := .pointer (some ⟨b5, 0, none⟩)) rfl ?_
       refine s_call [.pointer (some ⟨b5, 0, none⟩), .int .i64 16] _ Try.func88 rfl rfl rfl (c_spec_l01Next (a0, m4225.1, m4225.2) 16 h _ (hC.getP 0 rfl) (hC.getM 3 rfl) (fun b_ hb_ hb2_ => hC.pd _ (List.mem_of_getElem? (i := 0) rfl) b_ hb_ _ (List.mem_of_getElem? (i := 3) rfl) hb2_)) (fun ret4227 w4229 hR4228 => ?_)
       obtain ⟨r4230, m4232, rfl, h, hm4233, hB4231⟩ := hR4228
       refine ⟨_, rfl, ?_⟩
       replace hC := hC.turnF 3 rfl hB4231 hm4233
       refine s_mv (v := .pointer (some ⟨b5, 0, none⟩)) rfl ?_
       refine s_inline [.pointer (some ⟨b5, 0, none⟩), .int .i64 40] Try.func90 rfl rfl 17 Try.ntmps90 (Nat.le_of_ble_eq_true rfl) rfl ?_
       refine sr ?_
       refine s_as (v := .int .i64 0) rfl ?_
       refine dn ?_
       refine wp_seq ?_
       refine sr ?_
       refine s_mv (v := .pointer (some ⟨b5, 0, none⟩)) rfl ?_
       refine s_call [.pointer (some ⟨b5, 0, none⟩), .int .i64 14] _ Try.func88 rfl rfl rfl (c_spec_l01Next (a0, m4232.1, m4232.2) 14 h _ (hC.getP 0 rfl) (hC.getM 3 rfl) (fun b_ hb_ hb2_ => hC.pd _ (List.mem_of_getElem? (i := 0) rfl) b_ hb_ _ (List.mem_of_getElem? (i := 3) rfl) hb2_)) (fun ret4234 w4236 hR4235 => ?_)
       obtain ⟨r4237, m4239, rfl, h, hm4240, hB4238⟩ := hR4235
       refine ⟨_, rfl, ?_⟩
       replace hC := hC.turnF 3 rfl hB4238 hm4240
       refine s_eql rfl rfl ?_
       refine dn ?_
       refine cw_cond rfl (fun hb4241 => ?_) (fun hb4241 => ?_)
       ·replace h := ift h (ct hb4241)
        refine sr ?_
        refine s_mv (v := .pointer (some ⟨b5, 0, none⟩)) rfl ?_
        refine s_mv (v := .int .i64 40) rfl ?_
        refine s_add rfl rfl ?_
        refine s_bslice (sz := 1) hC [(0, .int .i64 (-1)), (1, .int .i64 (IntKind.i64.wrap (40 + 1))), (2, .int .i64 1099511627776), (3, .int .i64 (-4611686018427387904))] ((EI .i64).encs [(-1), IntKind.i64.wrap (40 + 1), 1099511627776, (-4611686018427387904)]) rfl (fun _ => bs22_4 (-1) (IntKind.i64.wrap (40 + 1)) 1099511627776 (-4611686018427387904) _) rfl (by decide) fun b4242 w4243 hB_ hC => ?_
        refine s_call [.pointer (some ⟨b5, 0, none⟩), .slice (some ⟨b4242, 0, none⟩) 4 4] _ Try.func89 rfl rfl rfl (c_spec_l01Pick (a0, m4239.1, m4239.2) [(-1), IntKind.i64.wrap (40 + 1), 1099511627776, (-4611686018427387904)] h _ (own_repE (hC.getM 0 rfl)) (hC.getP 0 rfl) (hC.getM 4 rfl) (fun b_ hb_ hb2_ => hC.pd _ (List.mem_of_getElem? (i := 0) rfl) b_ hb_ _ (List.mem_of_getElem? (i := 4) rfl) hb2_) (fun b_ hb_ hb2_ => hC.mm 0 4 rfl rfl (by decide) b_ hb_ hb2_)) (fun ret4245 w4247 hR4246 => ?_)
        obtain ⟨r4248, m4250, rfl, h, hm4251, hB4249⟩ := hR4246
        refine ⟨_, rfl, ?_⟩
        replace hC := hC.turnF 4 rfl hB4249 hm4251
        refine s_as (v := .int .i64 r4248) rfl ?_
        refine dn ?_
        refine wp_ret (then_ret ?_)
        refine ret1 (fn := Try.f90) (v := .int .i64 r4248) rfl (res_tmp rfl) ⟨_, rfl, ?_⟩ (.inl rfl)
        refine s_bslice (sz := 1) hC [(0, .int .i64 r4223), (1, .int .i64 r4230), (2, .int .i64 r4248)] ((EI .i64).encs [r4223, r4230, r4248]) rfl (fun _ => bs22_3 r4223 r4230 r4248 _) rfl (by decide) fun b4252 w4253 hB_ hC => ?_
        refine s_call [.pointer (some ⟨b5, 0, none⟩), .slice (some ⟨b4252, 0, none⟩) 3 3] _ Try.func89 rfl rfl rfl (c_spec_l01Pick (a0, m4250.1, m4250.2) [r4223, r4230, r4248] h _ (own_repE (hC.getM 0 rfl)) (hC.getP 0 rfl) (hC.getM 5 rfl) (fun b_ hb_ hb2_ => hC.pd _ (List.mem_of_getElem? (i := 0) rfl) b_ hb_ _ (List.mem_of_getElem? (i := 5) rfl) hb2_) (fun b_ hb_ hb2_ => hC.mm 0 5 rfl rfl (by decide) b_ hb_ hb2_)) (fun ret4255 w4257 hR4256 => ?_)
        obtain ⟨r4258, m4260, rfl, h, hm4261, hB4259⟩ := hR4256
        refine ⟨_, rfl, ?_⟩
        replace hC := hC.turnF 5 rfl hB4259 hm4261
        refine s_as (v := v4217) rfl ?_
        refine s_as (v := .int .i64 r4258) rfl ?_
        refine dn ?_
        refine wp_ret ?_
        refine ret2 (fn := Try.f33) rfl ?_ ?_ ⟨s4166.2.2.1 ++ [r4210], v4217, (Option.toList (Value.ownBlock v4217)), r4258, rfl, h, (own_item (hC.getM 4 rfl)), (own_fresh hC 4 rfl), hC.below⟩ (.inl rfl)
        ·exact res_tmp rfl
        ·exact res_tmp rfl
       ·replace h := iff_ h (cf hb4241)
        refine wp_skip ?_
        refine then_norm ?_
        refine sr ?_
        refine s_mv (v := .pointer (some ⟨b5, 0, none⟩)) rfl ?_
        refine s_mv (v := .int .i64 40) rfl ?_
        refine s_add rfl rfl ?_
        refine s_call [.pointer (some ⟨b5, 0, none⟩), .int .i64 (IntKind.i64.wrap (40 + 1))] _ Try.func88 rfl rfl rfl (c_spec_l01Next (a0, m4239.1, m4239.2) (IntKind.i64.wrap (40 + 1)) h _ (hC.getP 0 rfl) (hC.getM 3 rfl) (fun b_ hb_ hb2_ => hC.pd _ (List.mem_of_getElem? (i := 0) rfl) b_ hb_ _ (List.mem_of_getElem? (i := 3) rfl) hb2_)) (fun ret4262 w4264 hR4263 => ?_)
        obtain ⟨r4265, m4267, rfl, h, hm4268, hB4266⟩ := hR4263
        refine ⟨_, rfl, ?_⟩
        replace hC := hC.turnF 3 rfl hB4266 hm4268
        refine s_as (v := .int .i64 r4265) rfl ?_
        refine dn ?_
        refine wp_ret ?_
        refine ret1 (fn := Try.f90) (v := .int .i64 r4265) rfl (res_tmp rfl) ⟨_, rfl, ?_⟩ (.inl rfl)
        refine s_bslice (sz := 1) hC [(0, .int .i64 r4223), (1, .int .i64 r4230), (2, .int .i64 r4265)] ((EI .i64).encs [r4223, r4230, r4265]) rfl (fun _ => bs22_3 r4223 r4230 r4265 _) rfl (by decide) fun b4269 w4270 hB_ hC => ?_
        refine s_call [.pointer (some ⟨b5, 0, none⟩), .slice (some ⟨b4269, 0, none⟩) 3 3] _ Try.func89 rfl rfl rfl (c_spec_l01Pick (a0, m4267.1, m4267.2) [r4223, r4230, r4265] h _ (own_repE (hC.getM 0 rfl)) (hC.getP 0 rfl) (hC.getM 4 rfl) (fun b_ hb_ hb2_ => hC.pd _ (List.mem_of_getElem? (i := 0) rfl) b_ hb_ _ (List.mem_of_getElem? (i := 4) rfl) hb2_) (fun b_ hb_ hb2_ => hC.mm 0 4 rfl rfl (by decide) b_ hb_ hb2_)) (fun ret4272 w4274 hR4273 => ?_)
        obtain ⟨r4275, m4277, rfl, h, hm4278, hB4276⟩ := hR4273
        refine ⟨_, rfl, ?_⟩
        replace hC := hC.turnF 4 rfl hB4276 hm4278
        refine s_as (v := v4217) rfl ?_
        refine s_as (v := .int .i64 r4275) rfl ?_
        refine dn ?_
        refine wp_ret ?_
        refine ret2 (fn := Try.f33) rfl ?_ ?_ ⟨s4166.2.2.1 ++ [r4210], v4217, (Option.toList (Value.ownBlock v4217)), r4275, rfl, h, (own_item (hC.getM 3 rfl)), (own_fresh hC 3 rfl), hC.below⟩ (.inl rfl)
        ·exact res_tmp rfl
        ·exact res_tmp rfl
      ·replace h := iff_ h (cf hb4203)
       refine sr ?_
       refine s_eql rfl rfl ?_
       refine s_as (v := .bool (decide (r4199 = 1))) rfl ?_
       refine dn ?_
       refine cw_cond rfl (fun hb4279 => ?_) (fun hb4279 => ?_)
       ·replace h := ift h (ct hb4279)
        refine sr ?_
        refine s_bslice (sz := 1) hC [(0, .int .i64 2), (1, .int .i64 2), (2, .int .i64 2), (3, .int .i64 2), (4, .int .i64 2), (5, .int .i64 2), (6, .int .i64 2), (7, .int .i64 2), (8, .int .i64 2)] ((EI .i64).encs [2, 2, 2, 2, 2, 2, 2, 2, 2]) rfl (fun _ => bs22_9 2 2 2 2 2 2 2 2 2 _) rfl (by decide) fun b4280 w4281 hB_ hC => ?_
        refine s_as (v := .slice (some ⟨b4280, 0, none⟩) 9 9) rfl ?_
        refine dn ?_
        refine wp_ret (blk_ret (then_ret ?_))
        refine ret1 (fn := Try.f76) (v := .slice (some ⟨b4280, 0, none⟩) 9 9) rfl (res_tmp rfl) ⟨_, rfl, ?_⟩ (.inl rfl)
        refine s_mv (v := .pointer (some ⟨b5, 0, none⟩)) rfl ?_
        refine s_mv (v := .pointer (some ⟨b5, 0, none⟩)) rfl ?_
        refine s_call [.pointer (some ⟨b5, 0, none⟩), .int .i64 8] _ Try.func88 rfl rfl rfl (c_spec_l01Next (a0, m4201.1, m4201.2) 8 h _ (hC.getP 0 rfl) (hC.getM 2 rfl) (fun b_ hb_ hb2_ => hC.pd _ (List.mem_of_getElem? (i := 0) rfl) b_ hb_ _ (List.mem_of_getElem? (i := 2) rfl) hb2_)) (fun ret4283 w4285 hR4284 => ?_)
        obtain ⟨r4286, m4288, rfl, h, hm4289, hB4287⟩ := hR4284
        refine ⟨_, rfl, ?_⟩
        replace hC := hC.turnF 2 rfl hB4287 hm4289
        refine s_mv (v := .pointer (some ⟨b5, 0, none⟩)) rfl ?_
        refine s_call [.pointer (some ⟨b5, 0, none⟩), .int .i64 16] _ Try.func88 rfl rfl rfl (c_spec_l01Next (a0, m4288.1, m4288.2) 16 h _ (hC.getP 0 rfl) (hC.getM 2 rfl) (fun b_ hb_ hb2_ => hC.pd _ (List.mem_of_getElem? (i := 0) rfl) b_ hb_ _ (List.mem_of_getElem? (i := 2) rfl) hb2_)) (fun ret4290 w4292 hR4291 => ?_)
        obtain ⟨r4293, m4295, rfl, h, hm4296, hB4294⟩ := hR4291
        refine ⟨_, rfl, ?_⟩
        replace hC := hC.turnF 2 rfl hB4294 hm4296
        refine s_mv (v := .pointer (some ⟨b5, 0, none⟩)) rfl ?_
        refine s_inline [.pointer (some ⟨b5, 0, none⟩), .int .i64 40] Try.func90 rfl rfl 17 Try.ntmps90 (Nat.le_of_ble_eq_true rfl) rfl ?_
        refine sr ?_
        refine s_as (v := .int .i64 0) rfl ?_
        refine dn ?_
        refine wp_seq ?_
        refine sr ?_
        refine s_mv (v := .pointer (some ⟨b5, 0, none⟩)) rfl ?_
        refine s_call [.pointer (some ⟨b5, 0, none⟩), .int .i64 14] _ Try.func88 rfl rfl rfl (c_spec_l01Next (a0, m4295.1, m4295.2) 14 h _ (hC.getP 0 rfl) (hC.getM 2 rfl) (fun b_ hb_ hb2_ => hC.pd _ (List.mem_of_getElem? (i := 0) rfl) b_ hb_ _ (List.mem_of_getElem? (i := 2) rfl) hb2_)) (fun ret4297 w4299 hR4298 => ?_)
        obtain ⟨r4300, m4302, rfl, h, hm4303, hB4301⟩ := hR4298
        refine ⟨_, rfl, ?_⟩
        replace hC := hC.turnF 2 rfl hB4301 hm4303
        refine s_eql rfl rfl ?_
        refine dn ?_
        refine cw_cond rfl (fun hb4304 => ?_) (fun hb4304 => ?_)
        ·replace h := ift h (ct hb4304)
         refine sr ?_
         refine s_mv (v := .pointer (some ⟨b5, 0, none⟩)) rfl ?_
         refine s_mv (v := .int .i64 40) rfl ?_
         refine s_add rfl rfl ?_
         refine s_bslice (sz := 1) hC [(0, .int .i64 (-1)), (1, .int .i64 (IntKind.i64.wrap (40 + 1))), (2, .int .i64 1099511627776), (3, .int .i64 (-4611686018427387904))] ((EI .i64).encs [(-1), IntKind.i64.wrap (40 + 1), 1099511627776, (-4611686018427387904)]) rfl (fun _ => bs22_4 (-1) (IntKind.i64.wrap (40 + 1)) 1099511627776 (-4611686018427387904) _) rfl (by decide) fun b4305 w4306 hB_ hC => ?_
         refine s_call [.pointer (some ⟨b5, 0, none⟩), .slice (some ⟨b4305, 0, none⟩) 4 4] _ Try.func89 rfl rfl rfl (c_spec_l01Pick (a0, m4302.1, m4302.2) [(-1), IntKind.i64.wrap (40 + 1), 1099511627776, (-4611686018427387904)] h _ (own_repE (hC.getM 0 rfl)) (hC.getP 0 rfl) (hC.getM 3 rfl) (fun b_ hb_ hb2_ => hC.pd _ (List.mem_of_getElem? (i := 0) rfl) b_ hb_ _ (List.mem_of_getElem? (i := 3) rfl) hb2_) (fun b_ hb_ hb2_ => hC.mm 0 3 rfl rfl (by decide) b_ hb_ hb2_)) (fun ret4308 w4310 hR4309 => ?_)
         obtain ⟨r4311, m4313, rfl, h, hm4314, hB4312⟩ := hR4309
         refine ⟨_, rfl, ?_⟩
         replace hC := hC.turnF 3 rfl hB4312 hm4314
         refine s_as (v := .int .i64 r4311) rfl ?_
         refine dn ?_
         refine wp_ret (then_ret ?_)
         refine ret1 (fn := Try.f90) (v := .int .i64 r4311) rfl (res_tmp rfl) ⟨_, rfl, ?_⟩ (.inl rfl)
         refine s_bslice (sz := 1) hC [(0, .int .i64 r4286), (1, .int .i64 r4293), (2, .int .i64 r4311)] ((EI .i64).encs [r4286, r4293, r4311]) rfl (fun _ => bs22_3 r4286 r4293 r4311 _) rfl (by decide) fun b4315 w4316 hB_ hC => ?_
         refine s_call [.pointer (some ⟨b5, 0, none⟩), .slice (some ⟨b4315, 0, none⟩) 3 3] _ Try.func89 rfl rfl rfl (c_spec_l01Pick (a0, m4313.1, m4313.2) [r4286, r4293, r4311] h _ (own_repE (hC.getM 0 rfl)) (hC.getP 0 rfl) (hC.getM 4 rfl) (fun b_ hb_ hb2_ => hC.pd _ (List.mem_of_getElem? (i := 0) rfl) b_ hb_ _ (List.mem_of_getElem? (i := 4) rfl) hb2_) (fun b_ hb_ hb2_ => hC.mm 0 4 rfl rfl (by decide) b_ hb_ hb2_)) (fun ret4318 w4320 hR4319 => ?_)
         obtain ⟨r4321, m4323, rfl, h, hm4324, hB4322⟩ := hR4319
         refine ⟨_, rfl, ?_⟩
         replace hC := hC.turnF 4 rfl hB4322 hm4324
         refine s_as (v := .slice (some ⟨b4280, 0, none⟩) 9 9) rfl ?_
         refine s_as (v := .int .i64 r4321) rfl ?_
         refine dn ?_
         refine wp_ret ?_
         refine ret2 (fn := Try.f33) rfl ?_ ?_ ⟨[2, 2, 2, 2, 2, 2, 2, 2, 2], .slice (some ⟨b4280, 0, none⟩) 9 9, (Option.toList (Value.ownBlock (.slice (some ⟨b4280, 0, none⟩) 9 9))), r4321, rfl, h, (own_item (hC.getM 2 rfl)), (own_fresh hC 2 rfl), hC.below⟩ (.inl rfl)
         ·exact res_tmp rfl
         ·exact res_tmp rfl
        ·replace h := iff_ h (cf hb4304)
         refine wp_skip ?_
         refine then_norm ?_
         refine sr ?_
         refine s_mv (v := .pointer (some ⟨b5, 0, none⟩)) rfl ?_
         refine s_mv (v := .int .i64 40) rfl ?_
         refine s_add rfl rfl ?_
         refine s_call [.pointer (some ⟨b5, 0, none⟩), .int .i64 (IntKind.i64.wrap (40 + 1))] _ Try.func88 rfl rfl rfl (c_spec_l01Next (a0, m4302.1, m4302.2) (IntKind.i64.wrap (40 + 1)) h _ (hC.getP 0 rfl) (hC.getM 2 rfl) (fun b_ hb_ hb2_ => hC.pd _ (List.mem_of_getElem? (i := 0) rfl) b_ hb_ _ (List.mem_of_getElem? (i := 2) rfl) hb2_)) (fun ret4325 w4327 hR4326 => ?_)
         obtain ⟨r4328, m4330, rfl, h, hm4331, hB4329⟩ := hR4326
         refine ⟨_, rfl, ?_⟩
         replace hC := hC.turnF 2 rfl hB4329 hm4331
         refine s_as (v := .int .i64 r4328) rfl ?_
         refine dn ?_
         refine wp_ret ?_
         refine ret1 (fn := Try.f90) (v := .int .i64 r4328) rfl (res_tmp rfl) ⟨_, rfl, ?_⟩ (.inl rfl)
         refine s_bslice (sz := 1) hC [(0, .int .i64 r4286), (1, .int .i64 r4293), (2, .int .i64 r4328)] ((EI .i64).encs [r4286, r4293, r4328]) rfl (fun _ => bs22_3 r4286 r4293 r4328 _) rfl (by decide) fun b4332 w4333 hB_ hC => ?_
         refine s_call [.pointer (some ⟨b5, 0, none⟩), .slice (some ⟨b4332, 0, none⟩) 3 3] _ Try.func89 rfl rfl rfl (c_spec_l01Pick (a0, m4330.1, m4330.2) [r4286, r4293, r4328] h _ (own_repE (hC.getM 0 rfl)) (hC.getP 0 rfl) (hC.getM 3 rfl) (fun b_ hb_ hb2_ => hC.pd _ (List.mem_of_getElem? (i := 0) rfl) b_ hb_ _ (List.mem_of_getElem? (i := 3) rfl) hb2_) (fun b_ hb_ hb2_ => hC.mm 0 3 rfl rfl (by decide) b_ hb_ hb2_)) (fun ret4335 w4337 hR4336 => ?_)
         obtain ⟨r4338, m4340, rfl, h, hm4341, hB4339⟩ := hR4336
         refine ⟨_, rfl, ?_⟩
         replace hC := hC.turnF 3 rfl hB4339 hm4341
         refine s_as (v := .slice (some ⟨b4280, 0, none⟩) 9 9) rfl ?_
         refine s_as (v := .int .i64 r4338) rfl ?_
         refine dn ?_
         refine wp_ret ?_
         refine ret2 (fn := Try.f33) rfl ?_ ?_ ⟨[2, 2, 2, 2, 2, 2, 2, 2, 2], .slice (some ⟨b4280, 0, none⟩) 9 9, (Option.toList (Value.ownBlock (.slice (some ⟨b4280, 0, none⟩) 9 9))), r4338, rfl, h, (own_item (hC.getM 1 rfl)), (own_fresh hC 1 rfl), hC.below⟩ (.inl rfl)
         ·exact res_tmp rfl
         ·exact res_tmp rfl
       ·replace h := iff_ h (cf hb4279)
        refine wp_skip ?_
        refine blk_norm ?_
        refine then_norm ?_
        refine sr ?_
        refine s_mv (v := v4167) rfl ?_
        refine s_as (v := v4167) rfl ?_
        refine dn ?_
        refine wp_ret ?_
        refine ret1 (fn := Try.f76) (v := v4167) rfl (res_tmp rfl) ⟨_, rfl, ?_⟩ (.inl rfl)
        refine s_mv (v := .pointer (some ⟨b5, 0, none⟩)) rfl ?_
        refine s_mv (v := .pointer (some ⟨b5, 0, none⟩)) rfl ?_
        refine s_call [.pointer (some ⟨b5, 0, none⟩), .int .i64 8] _ Try.func88 rfl rfl rfl (c_spec_l01Next (a0, m4201.1, m4201.2) 8 h _ (hC.getP 0 rfl) (hC.getM 1 rfl) (fun b_ hb_ hb2_ => hC.pd _ (List.mem_of_getElem? (i := 0) rfl) b_ hb_ _ (List.mem_of_getElem? (i := 1) rfl) hb2_)) (fun ret4342 w4344 hR4343 => ?_)
        obtain ⟨r4345, m4347, rfl, h, hm4348, hB4346⟩ := hR4343
        refine ⟨_, rfl, ?_⟩
        replace hC := hC.turnF 1 rfl hB4346 hm4348
        refine s_mv (v := .pointer (some ⟨b5, 0, none⟩)) rfl ?_
        refine s_call [.pointer (some ⟨b5, 0, none⟩), .int .i64 16] _ Try.func88 rfl rfl rfl (c_spec_l01Next (a0, m4347.1, m4347.2) 16 h _ (hC.getP 0 rfl) (hC.getM 1 rfl) (fun b_ hb_ hb2_ => hC.pd _ (List.mem_of_getElem? (i := 0) rfl) b_ hb_ _ (List.mem_of_getElem? (i := 1) rfl) hb2_)) (fun ret4349 w4351 hR4350 => ?_)
        obtain ⟨r4352, m4354, rfl, h, hm4355, hB4353⟩ := hR4350
        refine ⟨_, rfl, ?_⟩
        replace hC := hC.turnF 1 rfl hB4353 hm4355
        refine s_mv (v := .pointer (some ⟨b5, 0, none⟩)) rfl ?_
        refine s_inline [.pointer (some ⟨b5, 0, none⟩), .int .i64 40] Try.func90 rfl rfl 17 Try.ntmps90 (Nat.le_of_ble_eq_true rfl) rfl ?_
        refine sr ?_
        refine s_as (v := .int .i64 0) rfl ?_
        refine dn ?_
        refine wp_seq ?_
        refine sr ?_
        refine s_mv (v := .pointer (some ⟨b5, 0, none⟩)) rfl ?_
        refine s_call [.pointer (some ⟨b5, 0, none⟩), .int .i64 14] _ Try.func88 rfl rfl rfl (c_spec_l01Next (a0, m4354.1, m4354.2) 14 h _ (hC.getP 0 rfl) (hC.getM 1 rfl) (fun b_ hb_ hb2_ => hC.pd _ (List.mem_of_getElem? (i := 0) rfl) b_ hb_ _ (List.mem_of_getElem? (i := 1) rfl) hb2_)) (fun ret4356 w4358 hR4357 => ?_)
        obtain ⟨r4359, m4361, rfl, h, hm4362, hB4360⟩ := hR4357
        refine ⟨_, rfl, ?_⟩
        replace hC := hC.turnF 1 rfl hB4360 hm4362
        refine s_eql rfl rfl ?_
        refine dn ?_
        refine cw_cond rfl (fun hb4363 => ?_) (fun hb4363 => ?_)
        ·replace h := ift h (ct hb4363)
         refine sr ?_
         refine s_mv (v := .pointer (some ⟨b5, 0, none⟩)) rfl ?_
         refine s_mv (v := .int .i64 40) rfl ?_
         refine s_add rfl rfl ?_
         refine s_bslice (sz := 1) hC [(0, .int .i64 (-1)), (1, .int .i64 (IntKind.i64.wrap (40 + 1))), (2, .int .i64 1099511627776), (3, .int .i64 (-4611686018427387904))] ((EI .i64).encs [(-1), IntKind.i64.wrap (40 + 1), 1099511627776, (-4611686018427387904)]) rfl (fun _ => bs22_4 (-1) (IntKind.i64.wrap (40 + 1)) 1099511627776 (-4611686018427387904) _) rfl (by decide) fun b4364 w4365 hB_ hC => ?_
         refine s_call [.pointer (some ⟨b5, 0, none⟩), .slice (some ⟨b4364, 0, none⟩) 4 4] _ Try.func89 rfl rfl rfl (c_spec_l01Pick (a0, m4361.1, m4361.2) [(-1), IntKind.i64.wrap (40 + 1), 1099511627776, (-4611686018427387904)] h _ (own_repE (hC.getM 0 rfl)) (hC.getP 0 rfl) (hC.getM 2 rfl) (fun b_ hb_ hb2_ => hC.pd _ (List.mem_of_getElem? (i := 0) rfl) b_ hb_ _ (List.mem_of_getElem? (i := 2) rfl) hb2_) (fun b_ hb_ hb2_ => hC.mm 0 2 rfl rfl (by decide) b_ hb_ hb2_)) (fun ret4367 w4369 hR4368 => ?_)
         obtain ⟨r4370, m4372, rfl, h, hm4373, hB4371⟩ := hR4368
         refine ⟨_, rfl, ?_⟩
         replace hC := hC.turnF 2 rfl hB4371 hm4373
         refine s_as (v := .int .i64 r4370) rfl ?_
         refine dn ?_
         refine wp_ret (then_ret ?_)
         refine ret1 (fn := Try.f90) (v := .int .i64 r4370) rfl (res_tmp rfl) ⟨_, rfl, ?_⟩ (.inl rfl)
         refine s_bslice (sz := 1) hC [(0, .int .i64 r4345), (1, .int .i64 r4352), (2, .int .i64 r4370)] ((EI .i64).encs [r4345, r4352, r4370]) rfl (fun _ => bs22_3 r4345 r4352 r4370 _) rfl (by decide) fun b4374 w4375 hB_ hC => ?_
         refine s_call [.pointer (some ⟨b5, 0, none⟩), .slice (some ⟨b4374, 0, none⟩) 3 3] _ Try.func89 rfl rfl rfl (c_spec_l01Pick (a0, m4372.1, m4372.2) [r4345, r4352, r4370] h _ (own_repE (hC.getM 0 rfl)) (hC.getP 0 rfl) (hC.getM 3 rfl) (fun b_ hb_ hb2_ => hC.pd _ (List.mem_of_getElem? (i := 0) rfl) b_ hb_ _ (List.mem_of_getElem? (i := 3) rfl) hb2_) (fun b_ hb_ hb2_ => hC.mm 0 3 rfl rfl (by decide) b_ hb_ hb2_)) (fun ret4377 w4379 hR4378 => ?_)
         obtain ⟨r4380, m4382, rfl, h, hm4383, hB4381⟩ := hR4378
         refine ⟨_, rfl, ?_⟩
         replace hC := hC.turnF 3 rfl hB4381 hm4383
         refine s_as (v := v4167) rfl ?_
         refine s_as (v := .int .i64 r4380) rfl ?_
         refine dn ?_
         refine wp_ret ?_
         refine ret2 (fn := Try.f33) rfl ?_ ?_ ⟨s4166.2.2.1, v4167, (Option.toList (Value.ownBlock v4167)), r4380, rfl, h, (own_item (hC.getM 2 rfl)), (own_fresh hC 2 rfl), hC.below⟩ (.inl rfl)
         ·exact res_tmp rfl
         ·exact res_tmp rfl
        ·replace h := iff_ h (cf hb4363)
         refine wp_skip ?_
         refine then_norm ?_
         refine sr ?_
         refine s_mv (v := .pointer (some ⟨b5, 0, none⟩)) rfl ?_
         refine s_mv (v := .int .i64 40) rfl ?_
         refine s_add rfl rfl ?_
         refine s_call [.pointer (some ⟨b5, 0, none⟩), .int .i64 (IntKind.i64.wrap (40 + 1))] _ Try.func88 rfl rfl rfl (c_spec_l01Next (a0, m4361.1, m4361.2) (IntKind.i64.wrap (40 + 1)) h _ (hC.getP 0 rfl) (hC.getM 1 rfl) (fun b_ hb_ hb2_ => hC.pd _ (List.mem_of_getElem? (i := 0) rfl) b_ hb_ _ (List.mem_of_getElem? (i := 1) rfl) hb2_)) (fun ret4384 w4386 hR4385 => ?_)
         obtain ⟨r4387, m4389, rfl, h, hm4390, hB4388⟩ := hR4385
         refine ⟨_, rfl, ?_⟩
         replace hC := hC.turnF 1 rfl hB4388 hm4390
         refine s_as (v := .int .i64 r4387) rfl ?_
         refine dn ?_
         refine wp_ret ?_
         refine ret1 (fn := Try.f90) (v := .int .i64 r4387) rfl (res_tmp rfl) ⟨_, rfl, ?_⟩ (.inl rfl)
         refine s_bslice (sz := 1) hC [(0, .int .i64 r4345), (1, .int .i64 r4352), (2, .int .i64 r4387)] ((EI .i64).encs [r4345, r4352, r4387]) rfl (fun _ => bs22_3 r4345 r4352 r4387 _) rfl (by decide) fun b4391 w4392 hB_ hC => ?_
         refine s_call [.pointer (some ⟨b5, 0, none⟩), .slice (some ⟨b4391, 0, none⟩) 3 3] _ Try.func89 rfl rfl rfl (c_spec_l01Pick (a0, m4389.1, m4389.2) [r4345, r4352, r4387] h _ (own_repE (hC.getM 0 rfl)) (hC.getP 0 rfl) (hC.getM 2 rfl) (fun b_ hb_ hb2_ => hC.pd _ (List.mem_of_getElem? (i := 0) rfl) b_ hb_ _ (List.mem_of_getElem? (i := 2) rfl) hb2_) (fun b_ hb_ hb2_ => hC.mm 0 2 rfl rfl (by decide) b_ hb_ hb2_)) (fun ret4394 w4396 hR4395 => ?_)
         obtain ⟨r4397, m4399, rfl, h, hm4400, hB4398⟩ := hR4395
         refine ⟨_, rfl, ?_⟩
         replace hC := hC.turnF 2 rfl hB4398 hm4400
         refine s_as (v := v4167) rfl ?_
         refine s_as (v := .int .i64 r4397) rfl ?_
         refine dn ?_
         refine wp_ret ?_
         refine ret2 (fn := Try.f33) rfl ?_ ?_ ⟨s4166.2.2.1, v4167, (Option.toList (Value.ownBlock v4167)), r4397, rfl, h, (own_item (hC.getM 1 rfl)), (own_fresh hC 1 rfl), hC.below⟩ (.inl rfl)
         ·exact res_tmp rfl
         ·exact res_tmp rfl
    ·skip
     exact ⟨.slice (some ⟨b3695, 0, none⟩) 0 0, (sk rfl (sk rfl (sk rfl (sk rfl sn)))), hC⟩
 ·skip
  exact ⟨(sk rfl (sk rfl (sk rfl sn))), hC⟩
def f_impl_lister_from (fu_ : Nat) (a0 : List Int × Int × List A8) (a1 : Int) (a2 : A8) (a3 : Int) (K : List A8 → Prop) : Prop :=
 match fu_ with
 | 0 => False
 | fu_ + 1 => (if (a0.2.2.length : Int) > a0.2.1 then K a0.2.2 else (if a1 = (a0.1.length : Int) then (if a3 = 0 then (Room (a0.2.2.length + 1) 64 ∧ K (a0.2.2 ++ [a2])) else K a0.2.2) else ((0 ≤ a1 ∧ a1 < (a0.1.length : Int)) ∧ ((a0.1.getD a1.toNat default) ≠ 0 ∧ (if Int.tmod (a0.1.getD a1.toNat default) 2 = 1 then whileP (fun (s65 : A8 × (List A8) × Int) next67 => (if s65.2.2 ≥ 0 then ((0 ≤ a1 ∧ a1 < 8) ∧ f_impl_lister_from fu_ (⟨a0.1, a0.2.1, s65.2.1⟩ : List Int × Int × List A8) (IntKind.i64.wrap (a1 + 1)) (s65.1.set a1.toNat s65.2.2) (IntKind.i64.wrap (a3 - (IntKind.i64.wrap (s65.2.2 * (a0.1.getD a1.toNat default))))) (fun m79 => next67 (s65.1.set a1.toNat s65.2.2, m79, IntKind.i64.wrap (s65.2.2 - 1)))) else K s65.2.1)) (a2, a0.2.2, (if 1 < (if 20 < IntKind.i64.wrap (Int.tdiv a3 (a0.1.getD a1.toNat default)) then 20 else IntKind.i64.wrap (Int.tdiv a3 (a0.1.getD a1.toNat default))) then 1 else (if 20 < IntKind.i64.wrap (Int.tdiv a3 (a0.1.getD a1.toNat default)) then 20 else IntKind.i64.wrap (Int.tdiv a3 (a0.1.getD a1.toNat default))))) else whileP (fun (s113 : A8 × (List A8) × Int) next115 => (if s113.2.2 ≥ 0 then ((0 ≤ a1 ∧ a1 < 8) ∧ f_impl_lister_from fu_ (⟨a0.1, a0.2.1, s113.2.1⟩ : List Int × Int × List A8) (IntKind.i64.wrap (a1 + 1)) (s113.1.set a1.toNat s113.2.2) (IntKind.i64.wrap (a3 - (IntKind.i64.wrap (s113.2.2 * (a0.1.getD a1.toNat default))))) (fun m127 => next115 (s113.1.set a1.toNat s113.2.2, m127, IntKind.i64.wrap (s113.2.2 - 1)))) else K s113.2.1)) (a2, a0.2.2, (if 20 < IntKind.i64.wrap (Int.tdiv a3 (a0.1.getD a1.toNat default)) then 20 else IntKind.i64.wrap (Int.tdiv a3 (a0.1.getD a1.toNat default)))))))))
theorem c_impl_lister_from (fu_ : Nat) : ∀ (a0 : List Int × Int × List A8) (a1 : Int) (a2 : A8) (a3 : Int) {b0 : Nat} {u0_0 : Value} {u0_2 : Value} {fp0 : List Nat} {K : List A8 → Prop} (h : f_impl_lister_from fu_ a0 a1 a2 a3 K) (w0 : World) (q0 : (Ty.item ((EI .i64).ty.sl) a0.1 [u0_0] fp0).holds w0) (qb0 : (blk b0 175 [u0_0, .int .i64 a0.2.1, u0_2]).holds w0) (qo0 : (own 101 8 u0_2 a0.2.2.length ((EA .i64).encs a0.2.2)).holds w0) (db0 : b0 ∉ Option.toList (Value.ownBlock u0_2)) (dq0 : ∀ b, b ∈ fp0 → b ∉ b0 :: Option.toList (Value.ownBlock u0_2)),
  Calls Try.prog 127 #[.pointer (some ⟨b0, 0, none⟩), .int .i64 a1, .agg (List.toArray (A8.enc .i64 a2)), .int .i64 a3] w0 fun e w' => ∃ (m0 : List A8) (y0 : Value), 
   e = .returned (.tuple #[]) ∧ K m0 ∧ (blk b0 175 [u0_0, .int .i64 a0.2.1, y0]).holds w' ∧ (own 101 8 y0 m0.length ((EA .i64).encs m0)).holds w' ∧ (∀ b, b ∈ Option.toList (Value.ownBlock y0) → b ∈ Option.toList (Value.ownBlock u0_2) ∨ w0.heap.size ≤ b) ∧ BelO (b0 :: Option.toList (Value.ownBlock u0_2)) w0 w' := by
 induction fu_ with
 | zero =>
  intro a0 a1 a2 a3 b0 u0_0 u0_2 fp0 K h w0 q0 qb0 qo0 db0 dq0
  exact False.elim h
 | succ fu_ ih_ =>
  intro a0 a1 a2 a3 b0 u0_0 u0_2 fp0 K h w0 q0 qb0 qo0 db0 dq0
  rw [f_impl_lister_from.eq_2] at h
  refine calls_of (args := [.pointer (some ⟨b0, 0, none⟩), .int .i64 a1, .agg (List.toArray (A8.enc .i64 a2)), .int .i64 a3]) Try.func127 rfl 74 Try.ntmps127 (Nat.le_of_ble_eq_true rfl) ?_
  have hC := Ctx.startL w0 (b0 :: Option.toList (Value.ownBlock u0_2)) [blk b0 175 [u0_0, .int .i64 a0.2.1, u0_2], own 101 8 u0_2 a0.2.2.length ((EA .i64).encs a0.2.2)] [Ty.item ((EI .i64).ty.sl) a0.1 [u0_0] fp0] (by simp only [List.mem_cons, List.not_mem_nil, or_false, forall_eq_or_imp, forall_eq]; exact ⟨qb0, qo0⟩) (by simp only [List.mem_cons, List.not_mem_nil, or_false, forall_eq_or_imp, forall_eq]; exact q0) (fun it_ hi_ b_ hb_ => (List.mem_cons.1 hi_).elim (fun e_ => by subst e_; exact List.mem_cons.2 (.inl (List.mem_singleton.1 hb_))) (fun hi_ => by obtain rfl := List.mem_singleton.1 hi_; exact List.mem_cons_of_mem _ hb_)) (List.pairwise_cons.2 ⟨(fun it_ hi_ b_ hb_ hb2_ => by obtain rfl := List.mem_singleton.1 hi_; exact db0 (List.mem_singleton.1 hb_ ▸ hb2_)), List.pairwise_singleton _ _⟩) (fun it_ hi_ b_ hb_ => by obtain rfl := List.mem_singleton.1 hi_; exact dq0 b_ hb_)
  refine sr ?_
  refine s_box (v := .agg (List.toArray (A8.enc .i64 a2))) hC (A8.enc .i64 a2) rfl rfl fun b4 w6 hB_ hC => ?_
  refine dn ?_
  refine wp_seq ?_
  refine wp_seq ?_
  refine cw_draw 9 mixed [0, 1, 3, 7, 15, 0, 32, 96, 224, 511] [3, 4, 8] [0, 1, 2, 5, 6, 7] (by kernel_rfl) (by kernel_rfl) (by kernel_rfl) (fun hM8 hM9 w7 hB_ => ?_)
  replace hC := hC.grow hB_
  refine aF 0 (.pointer (some ⟨b0, 0, none⟩)) rfl rfl (hM9 0 rfl) (rfl) (fun _ => by exact r_mv (v := .pointer (some ⟨b0, 0, none⟩)) rfl) (dbits 10 1) ?_
  refine aF 1 (.pointer (some ⟨b0, 0, none⟩)) rfl rfl (hM9 1 rfl) (rfl) (fun _ => by exact r_nilchk rfl) (dbits 10 3) ?_
  refine aF 2 (.pointer (some ⟨b0, 2, none⟩)) rfl rfl (hM9 2 rfl) (rfl) (fun _ => by exact r_faddrB 2 Try.underlying175 rfl sc121.size rfl rfl) (dbits 10 7) ?_
  refine aL 3 (u0_2) rfl rfl (hM8 3 rfl) (rfl) (fun _ hB_ => by exact r_loadS (hC.grow hB_) 1 (u0_2) rfl sc121 rfl rfl) (dbits 10 15) ?_
  obtain ⟨Ad10, c11, hv12⟩ := own_form (hC.getM 2 rfl)
  refine aL 4 (.int .i64 (a0.2.2.length : Int)) rfl rfl (hM8 4 rfl) (rfl) (fun _ hB_ => by exact r_len Try.underlying121 (by exact tr rfl hv12)) (dbits 10 31) ?_
  refine aF 5 (.pointer (some ⟨b0, 0, none⟩)) rfl rfl (hM9 5 rfl) (rfl) (fun _ => by exact r_mv (v := .pointer (some ⟨b0, 0, none⟩)) rfl) (dbits 10 63) ?_
  refine aF 6 (.pointer (some ⟨b0, 0, none⟩)) rfl rfl (hM9 6 rfl) (rfl) (fun _ => by exact r_nilchk rfl) (dbits 10 127) ?_
  refine aF 7 (.pointer (some ⟨b0, 1, none⟩)) rfl rfl (hM9 7 rfl) (rfl) (fun _ => by exact r_faddrB 1 Try.underlying175 rfl sc3.size rfl rfl) (dbits 10 255) ?_
  refine aL 8 (.int .i64 a0.2.1) rfl rfl (hM8 8 rfl) (rfl) (fun _ hB_ => by exact r_loadS (hC.grow hB_) 1 (.int .i64 a0.2.1) rfl sc3 rfl rfl) (dbits 10 511) ?_
  refine ae_tail 9 (by decide) (by decide) (by kernel_rfl) (by kernel_rfl) rfl ?_
  refine s_gtr rfl rfl ?_
  refine done ?_
  refine qn_norm ?_
  refine then_norm ?_
  refine cw_cond rfl (fun hb13 => ?_) (fun hb13 => ?_)
  ·replace h := ift h (ct hb13)
   refine wp_ret (then_ret ?_)
   refine ret0 (fn := Try.f127) rfl  ⟨a0.2.2, u0_2, rfl, h, (hC.getM 1 rfl), (hC.getM 2 rfl), (fun b_ hb_ => (hC.mfp _ (List.mem_of_getElem? (i := 2) rfl) b_ hb_).elim .inr (fun q_ => (List.mem_cons.1 q_).elim (fun e_ => absurd hb_ (fun hb_ => hC.mm 1 2 rfl rfl (by decide) b_ (List.mem_singleton.2 e_) hb_)) .inl)), hC.belO⟩ (.inl rfl)
  ·replace h := iff_ h (cf hb13)
   refine wp_skip ?_
   refine then_norm ?_
   refine wp_seq ?_
   refine sr ?_
   refine s_mv (v := .int .i64 a1) rfl ?_
   refine s_mv (v := .pointer (some ⟨b0, 0, none⟩)) rfl ?_
   refine s_nilchk rfl ?_
   refine s_faddrB 0 Try.underlying175 rfl sc22.size rfl rfl ?_
   refine s_loadS hC 1 (u0_0) rfl sc22 rfl rfl ?_
   obtain ⟨Ad14, c15, hv16⟩ := sl_len (hC.getP 0 rfl)
   refine s_len Try.underlying22 (tr rfl hv16) ?_
   refine s_eql rfl rfl ?_
   refine dn ?_
   refine cw_cond rfl (fun hb17 => ?_) (fun hb17 => ?_)
   ·replace h := ift h (ct hb17)
    refine wp_seq ?_
    refine sr ?_
    refine s_mv (v := .int .i64 a3) rfl ?_
    refine s_eql rfl rfl ?_
    refine dn ?_
    refine cw_cond rfl (fun hb18 => ?_) (fun hb18 => ?_)
    ·replace h := ift h (ct hb18)
     refine cw_draw 7 mixed [0, 0, 2, 6, 14, 0, 32, 126, 255, 511, 1023] [4, 5] [0, 1, 2, 3] (by kernel_rfl) (by kernel_rfl) (by kernel_rfl) (fun hM20 hM21 w19 hB_ => ?_)
     replace hC := hC.grow hB_
     refine aF 0 (.pointer (some ⟨b0, 0, none⟩)) rfl rfl (hM21 0 rfl) (rfl) (fun _ => by exact r_mv (v := .pointer (some ⟨b0, 0, none⟩)) rfl) (dbits 11 1) ?_
     refine aF 1 (.pointer (some ⟨b0, 0, none⟩)) rfl rfl (hM21 1 rfl) (rfl) (fun _ => by exact r_mv (v := .pointer (some ⟨b0, 0, none⟩)) rfl) (dbits 11 3) ?_
     refine aF 2 (.pointer (some ⟨b0, 0, none⟩)) rfl rfl (hM21 2 rfl) (rfl) (fun _ => by exact r_nilchk rfl) (dbits 11 7) ?_
     refine aF 3 (.pointer (some ⟨b0, 2, none⟩)) rfl rfl (hM21 3 rfl) (rfl) (fun _ => by exact r_faddrB 2 Try.underlying175 rfl sc121.size rfl rfl) (dbits 11 15) ?_
     refine aL 4 (u0_2) rfl rfl (hM20 4 rfl) (rfl) (fun _ hB_ => by exact r_loadS (hC.grow hB_) 1 (u0_2) rfl sc121 rfl rfl) (dbits 11 31) ?_
     refine aL 5 (.agg (List.toArray (A8.enc .i64 a2))) rfl rfl (hM20 5 rfl) (rfl) (fun _ hB_ => by exact r_loadA (hC.grow hB_) 0 (A8.enc .i64 a2) rfl ag101 rfl rfl rfl) (dbits 11 63) ?_
     refine aO 6 rfl ?_
     refine s_bslice (sz := 8) hC [(0, .agg (List.toArray (A8.enc .i64 a2)))] ((EA .i64).encs [a2]) rfl (fun _ => bs121_1 a2 _) rfl (by decide) fun b22 w23 hB_ hC => ?_
     refine done ?_
     refine aK (by assumption) (dbits 11 127) ?_
     refine aO 7 rfl ?_
     obtain ⟨hm27, h⟩ := h
     refine s_app hC 3 Try.underlying121 el101 rfl (by decide) (by decide) rfl (own_rdr (hC.getM 0 rfl)) (fun q hq => Enc.encs_one' (E := (EA .i64)) _ q hq) rfl rfl hm27 fun v25 w26 hC => ?_
     replace hC := own_re hC 3 ((a0.2.2 ++ [a2]).length) ((EA .i64).encs (a0.2.2 ++ [a2])) rfl (by simp) (by first | (simp [Enc.encs_append]; done) | simp [Enc.encs_append, Enc.encs])
     refine done ?_
     refine ak_introN (by decide) (l9 := (dbits 11 255)) (by kernel_rfl) ?_
     refine ae_tail 8 (by decide) (by decide) (by kernel_rfl) (by kernel_rfl) rfl ?_
     refine s_nilchk rfl ?_
     refine s_faddrB 2 Try.underlying175 rfl sc121.size rfl rfl ?_
     refine s_store (v := v25) hC 2 [v25] [u0_0, .int .i64 a0.2.1, v25] rfl sc121.size rfl rfl (own_cellsV (hC.getM 3 rfl)) rfl (all_c (own_oneC (hC.getM 3 rfl)) rfl) (Nat.le_of_ble_eq_true rfl) rfl fun w28 hC => ?_
     refine done ?_
     refine qn_norm ?_
     refine then_norm ?_
     refine wp_ret (then_ret ?_)
     refine ret0 (fn := Try.f127) rfl  ⟨a0.2.2 ++ [a2], v25, rfl, h, (hC.getM 2 rfl), (hC.getM 3 rfl), (fun b_ hb_ => (hC.mfp _ (List.mem_of_getElem? (i := 3) rfl) b_ hb_).elim .inr (fun q_ => (List.mem_cons.1 q_).elim (fun e_ => absurd hb_ (fun hb_ => hC.mm 2 3 rfl rfl (by decide) b_ (List.mem_singleton.2 e_) hb_)) .inl)), hC.belO⟩ (.inl rfl)
    ·replace h := iff_ h (cf hb18)
     refine wp_skip ?_
     refine then_norm ?_
     refine wp_ret (then_ret ?_)
     refine ret0 (fn := Try.f127) rfl  ⟨a0.2.2, u0_2, rfl, h, (hC.getM 1 rfl), (hC.getM 2 rfl), (fun b_ hb_ => (hC.mfp _ (List.mem_of_getElem? (i := 2) rfl) b_ hb_).elim .inr (fun q_ => (List.mem_cons.1 q_).elim (fun e_ => absurd hb_ (fun hb_ => hC.mm 1 2 rfl rfl (by decide) b_ (List.mem_singleton.2 e_) hb_)) .inl)), hC.belO⟩ (.inl rfl)
   ·replace h := iff_ h (cf hb17)
    refine wp_skip ?_
    refine then_norm ?_
    refine sr ?_
    refine s_mv (v := .pointer (some ⟨b0, 0, none⟩)) rfl ?_
    refine s_nilchk rfl ?_
    refine s_faddrB 0 Try.underlying175 rfl sc22.size rfl rfl ?_
    refine s_loadS hC 1 (u0_0) rfl sc22 rfl rfl ?_
    refine s_mv (v := .int .i64 a1) rfl ?_
    obtain ⟨⟨h0_29, h1_30⟩, h⟩ := h
    obtain ⟨Ad31, c32, hv33⟩ := sl_form (hC.getP 0 rfl) a1.toNat (show a1.toNat < a0.1.length by omega)
    refine s_iaddrS (len := a0.1.length) Try.underlying22 sc2.size (tr rfl hv33) rfl h0_29 h1_30 ?_
    refine s_loadCS (.int .i64 (a0.1.getD a1.toNat default)) (sl_cellsE (hC.getP 0 rfl) hv33 a1.toNat (show a1.toNat < a0.1.length by omega)) sc2 rfl ?_
    refine s_as (v := .int .i64 (a0.1.getD a1.toNat default)) rfl ?_
    refine dn ?_
    refine sr ?_
    refine s_mv (v := .int .i64 a3) rfl ?_
    refine s_mv (v := .int .i64 (a0.1.getD a1.toNat default)) rfl ?_
    obtain ⟨h0_34, h⟩ := h
    refine s_quo rfl rfl h0_34 ?_
    refine s_min rfl rfl ?_
    refine s_as (v := .int .i64 (if 20 < IntKind.i64.wrap (Int.tdiv a3 (a0.1.getD a1.toNat default)) then 20 else IntKind.i64.wrap (Int.tdiv a3 (a0.1.getD a1.toNat default)))) rfl ?_
    refine dn ?_
    refine wp_seq ?_
    refine sr ?_
    refine s_mv (v := .int .i64 (a0.1.getD a1.toNat default)) rfl ?_
    refine s_rem rfl rfl (by decide) ?_
    refine s_eql rfl rfl ?_
    refine dn ?_
    refine cw_cond rfl (fun hb35 => ?_) (fun hb35 => ?_)
    ·replace h := ift h (ct hb35)
     refine cw_region ?_
     refine s_mv (v := .int .i64 (if 20 < IntKind.i64.wrap (Int.tdiv a3 (a0.1.getD a1.toNat default)) then 20 else IntKind.i64.wrap (Int.tdiv a3 (a0.1.getD a1.toNat default)))) rfl ?_
     refine s_min rfl rfl ?_
     refine s_as (v := .int .i64 (if 1 < (if 20 < IntKind.i64.wrap (Int.tdiv a3 (a0.1.getD a1.toNat default)) then 20 else IntKind.i64.wrap (Int.tdiv a3 (a0.1.getD a1.toNat default))) then 1 else (if 20 < IntKind.i64.wrap (Int.tdiv a3 (a0.1.getD a1.toNat default)) then 20 else IntKind.i64.wrap (Int.tdiv a3 (a0.1.getD a1.toNat default))))) rfl ?_
     refine dn ?_
     refine sr ?_
     refine s_mv (v := .int .i64 (if 1 < (if 20 < IntKind.i64.wrap (Int.tdiv a3 (a0.1.getD a1.toNat default)) then 20 else IntKind.i64.wrap (Int.tdiv a3 (a0.1.getD a1.toNat default))) then 1 else (if 20 < IntKind.i64.wrap (Int.tdiv a3 (a0.1.getD a1.toNat default)) then 20 else IntKind.i64.wrap (Int.tdiv a3 (a0.1.getD a1.toNat default))))) rfl ?_
     refine s_as (v := .int .i64 (if 1 < (if 20 < IntKind.i64.wrap (Int.tdiv a3 (a0.1.getD a1.toNat default)) then 20 else IntKind.i64.wrap (Int.tdiv a3 (a0.1.getD a1.toNat default))) then 1 else (if 20 < IntKind.i64.wrap (Int.tdiv a3 (a0.1.getD a1.toNat default)) then 20 else IntKind.i64.wrap (Int.tdiv a3 (a0.1.getD a1.toNat default))))) rfl ?_
     refine dn ?_
     refine wp_block ?_
     refine loopW (S := A8 × (List A8) × Int) _ (fun s65 e_ w_ => ∃ (v66 : Value), Slots e_ [(0, .pointer (some ⟨b0, 0, none⟩)), (1, .int .i64 a1), (3, .int .i64 a3), (6, .pointer (some ⟨b4, 0, none⟩)), (8, .int .i64 (a0.1.getD a1.toNat default)), (10, .int .i64 s65.2.2)] ∧ Ctx (fun c_ => c_ ∈ b0 :: Option.toList (Value.ownBlock u0_2)) w0 w_ [blk b4 101 (A8.enc .i64 s65.1), blk b0 175 [u0_0, .int .i64 a0.2.1, v66], own 101 8 v66 s65.2.1.length ((EA .i64).encs s65.2.1)] [Ty.item ((EI .i64).ty.sl) a0.1 [u0_0] fp0]) ?_ (s0 := (a2, a0.2.2, (if 1 < (if 20 < IntKind.i64.wrap (Int.tdiv a3 (a0.1.getD a1.toNat default)) then 20 else IntKind.i64.wrap (Int.tdiv a3 (a0.1.getD a1.toNat default))) then 1 else (if 20 < IntKind.i64.wrap (Int.tdiv a3 (a0.1.getD a1.toNat default)) then 20 else IntKind.i64.wrap (Int.tdiv a3 (a0.1.getD a1.toNat default)))))) ?_ h
     ·clear hC h
      rintro s65 e_ w70 next67 K68 ⟨v66, hS_, hC⟩ h hK69
      refine wp_seq ?_
      refine sr ?_
      refine s_mv (v := .int .i64 s65.2.2) (sx hS_ 5 rfl) ?_
      refine s_geq rfl rfl ?_
      refine dn ?_
      refine cw_cond rfl (fun hb71 => ?_) (fun hb71 => ?_)
      ·replace h := ift h (ct hb71)
       refine wp_skip ?_
       refine then_norm ?_
       refine wp_seq ?_
       refine wp_block ?_
       refine sr ?_
       refine s_mv (v := .int .i64 a1) (sx hS_ 1 rfl) ?_
       refine s_mv (v := .int .i64 s65.2.2) (sx hS_ 5 rfl) ?_
       obtain ⟨⟨h0_72, h1_73⟩, h⟩ := h
       refine s_iaddrB a1.toNat Try.underlying101 sc3.size (sx hS_ 3 rfl) rfl h0_72 h1_73 (by omega) ?_
       refine s_store (v := .int .i64 s65.2.2) hC 0 [.int .i64 s65.2.2] (A8.enc .i64 (s65.1.set a1.toNat s65.2.2)) rfl sc3.size rfl rfl rfl rfl rfl (show a1.toNat < 8 by omega) (A8.enc_set _ _ _ (show a1.toNat < 8 by omega)) fun w74 hC => ?_
       refine dn ?_
       refine cw_region ?_
       refine s_mv (v := .pointer (some ⟨b0, 0, none⟩)) (sx hS_ 0 rfl) ?_
       refine s_mv (v := .int .i64 a1) (sx hS_ 1 rfl) ?_
       refine s_add rfl rfl ?_
       refine s_loadA hC 0 (A8.enc .i64 (s65.1.set a1.toNat s65.2.2)) rfl ag101 (sx hS_ 3 rfl) rfl rfl ?_
       refine s_mv (v := .int .i64 a3) (sx hS_ 2 rfl) ?_
       refine s_mv (v := .int .i64 s65.2.2) (sx hS_ 5 rfl) ?_
       refine s_mv (v := .int .i64 (a0.1.getD a1.toNat default)) (sx hS_ 4 rfl) ?_
       refine s_mul rfl rfl ?_
       refine s_sub rfl rfl ?_
       replace hC := hC.sM [1, 2, 0] (M' := [blk b0 175 [u0_0, .int .i64 a0.2.1, v66], own 101 8 v66 s65.2.1.length ((EA .i64).encs s65.2.1), blk b4 101 (A8.enc .i64 (s65.1.set a1.toNat s65.2.2))]) (by decide) rfl
       refine s_call [.pointer (some ⟨b0, 0, none⟩), .int .i64 (IntKind.i64.wrap (a1 + 1)), .agg (List.toArray (A8.enc .i64 (s65.1.set a1.toNat s65.2.2))), .int .i64 (IntKind.i64.wrap (a3 - (IntKind.i64.wrap (s65.2.2 * (a0.1.getD a1.toNat default)))))] _ Try.func127 rfl rfl rfl (ih_ (⟨a0.1, a0.2.1, s65.2.1⟩ : List Int × Int × List A8) (IntKind.i64.wrap (a1 + 1)) (s65.1.set a1.toNat s65.2.2) (IntKind.i64.wrap (a3 - (IntKind.i64.wrap (s65.2.2 * (a0.1.getD a1.toNat default))))) h _ (hC.getP 0 rfl) (hC.getM 0 rfl) (hC.getM 1 rfl) (fun hb_ => hC.mm 0 1 rfl rfl (by decide) _ (List.mem_singleton_self _) hb_) (fun b_ hb_ hb2_ => (List.mem_cons.1 hb2_).elim (fun e_ => hC.pd _ (List.mem_of_getElem? (i := 0) rfl) b_ hb_ _ (List.mem_of_getElem? (i := 0) rfl) (List.mem_singleton.2 e_)) (fun hb2_ => hC.pd _ (List.mem_of_getElem? (i := 0) rfl) b_ hb_ _ (List.mem_of_getElem? (i := 1) rfl) hb2_))) (fun ret75 w77 hR76 => ?_)
       obtain ⟨m79, v80, rfl, h, hm81, hm82, hm83, hB78⟩ := hR76
       refine ⟨_, rfl, ?_⟩
       replace hC := hC.turnS hB78 hm81 hm82 hm83
       refine done ?_
       refine blk_norm ?_
       refine then_norm ?_
       refine cw_region ?_
       refine s_mv (v := .int .i64 s65.2.2) (sx hS_ 5 rfl) ?_
       refine s_sub rfl rfl ?_
       refine s_as (v := .int .i64 (IntKind.i64.wrap (s65.2.2 - 1))) rfl ?_
       refine done ?_
       replace hC := hC.sM [2, 0, 1] (M' := [blk b4 101 (A8.enc .i64 (s65.1.set a1.toNat s65.2.2)), blk b0 175 [u0_0, .int .i64 a0.2.1, v80], own 101 8 v80 m79.length ((EA .i64).encs m79)]) (by decide) rfl
       exact hK69 (s65.1.set a1.toNat s65.2.2, m79, IntKind.i64.wrap (s65.2.2 - 1)) _ _ ⟨v80, (sk (sx hS_ 0 rfl) (sk (sx hS_ 1 rfl) (sk (sx hS_ 2 rfl) (sk (sx hS_ 3 rfl) (sk (sx hS_ 4 rfl) (sk rfl sn)))))), hC⟩ h
      ·replace h := iff_ h (cf hb71)
       refine wp_exit (then_exit (then_exit (exit_in ?_)))
       refine ret0 (fn := Try.f127) rfl  ⟨s65.2.1, v66, rfl, h, (hC.getM 1 rfl), (hC.getM 2 rfl), (fun b_ hb_ => (hC.mfp _ (List.mem_of_getElem? (i := 2) rfl) b_ hb_).elim .inr (fun q_ => (List.mem_cons.1 q_).elim (fun e_ => absurd hb_ (fun hb_ => hC.mm 1 2 rfl rfl (by decide) b_ (List.mem_singleton.2 e_) hb_)) .inl)), hC.belO⟩ (.inr rfl)
     ·skip
      exact ⟨u0_2, (sk rfl (sk rfl (sk rfl (sk rfl (sk rfl (sk rfl sn)))))), hC⟩
    ·replace h := iff_ h (cf hb35)
     refine wp_skip ?_
     refine then_norm ?_
     refine sr ?_
     refine s_mv (v := .int .i64 (if 20 < IntKind.i64.wrap (Int.tdiv a3 (a0.1.getD a1.toNat default)) then 20 else IntKind.i64.wrap (Int.tdiv a3 (a0.1.getD a1.toNat default)))) rfl ?_
     refine s_as (v := .int .i64 (if 20 < IntKind.i64.wrap (Int.tdiv a3 (a0.1.getD a1.toNat default)) then 20 else IntKind.i64.wrap (Int.tdiv a3 (a0.1.getD a1.toNat default)))) rfl ?_
     refine dn ?_
     refine wp_block ?_
     refine loopW (S := A8 × (List A8) × Int) _ (fun s113 e_ w_ => ∃ (v114 : Value), Slots e_ [(0, .pointer (some ⟨b0, 0, none⟩)), (1, .int .i64 a1), (3, .int .i64 a3), (6, .pointer (some ⟨b4, 0, none⟩)), (8, .int .i64 (a0.1.getD a1.toNat default)), (10, .int .i64 s113.2.2)] ∧ Ctx (fun c_ => c_ ∈ b0 :: Option.toList (Value.ownBlock u0_2)) w0 w_ [blk b4 101 (A8.enc .i64 s113.1), blk b0 175 [u0_0, .int .i64 a0.2.1, v114], own 101 8 v114 s113.2.1.length ((EA .i64).encs s113.2.1)] [Ty.item ((EI .i64).ty.sl) a0.1 [u0_0] fp0]) ?_ (s0 := (a2, a0.2.2, (if 20 < IntKind.i64.wrap (Int.tdiv a3 (a0.1.getD a1.toNat default)) then 20 else IntKind.i64.wrap (Int.tdiv a3 (a0.1.getD a1.toNat default))))) ?_ h
     ·clear hC h
      rintro s113 e_ w118 next115 K116 ⟨v114, hS_, hC⟩ h hK117
      refine wp_seq ?_
      refine sr ?_
      refine s_mv (v := .int .i64 s113.2.2) (sx hS_ 5 rfl) ?_
      refine s_geq rfl rfl ?_
      refine dn ?_
      refine cw_cond rfl (fun hb119 => ?_) (fun hb119 => ?_)
      ·replace h := ift h (ct hb119)
       refine wp_skip ?_
       refine then_norm ?_
       refine wp_seq ?_
       refine wp_block ?_
       refine sr ?_
       refine s_mv (v := .int .i64 a1) (sx hS_ 1 rfl) ?_
       refine s_mv (v := .int .i64 s113.2.2) (sx hS_ 5 rfl) ?_
       obtain ⟨⟨h0_120, h1_121⟩, h⟩ := h
       refine s_iaddrB a1.toNat Try.underlying101 sc3.size (sx hS_ 3 rfl) rfl h0_120 h1_121 (by omega) ?_
       refine s_store (v := .int .i64 s113.2.2) hC 0 [.int .i64 s113.2.2] (A8.enc .i64 (s113.1.set a1.toNat s113.2.2)) rfl sc3.size rfl rfl rfl rfl rfl (show a1.toNat < 8 by omega) (A8.enc_set _ _ _ (show a1.toNat < 8 by omega)) fun w122 hC => ?_
       refine dn ?_
       refine cw_region ?_
       refine s_mv (v := .pointer (some ⟨b0, 0, none⟩)) (sx hS_ 0 rfl) ?_
       refine s_mv (v := .int .i64 a1) (sx hS_ 1 rfl) ?_
       refine s_add rfl rfl ?_
       refine s_loadA hC 0 (A8.enc .i64 (s113.1.set a1.toNat s113.2.2)) rfl ag101 (sx hS_ 3 rfl) rfl rfl ?_
       refine s_mv (v := .int .i64 a3) (sx hS_ 2 rfl) ?_
       refine s_mv (v := .int .i64 s113.2.2) (sx hS_ 5 rfl) ?_
       refine s_mv (v := .int .i64 (a0.1.getD a1.toNat default)) (sx hS_ 4 rfl) ?_
       refine s_mul rfl rfl ?_
       refine s_sub rfl rfl ?_
       replace hC := hC.sM [1, 2, 0] (M' := [blk b0 175 [u0_0, .int .i64 a0.2.1, v114], own 101 8 v114 s113.2.1.length ((EA .i64).encs s113.2.1), blk b4 101 (A8.enc .i64 (s113.1.set a1.toNat s113.2.2))]) (by decide) rfl
       refine s_call [.pointer (some ⟨b0, 0, none⟩), .int .i64 (IntKind.i64.wrap (a1 + 1)), .agg (List.toArray (A8.enc .i64 (s113.1.set a1.toNat s113.2.2))), .int .i64 (IntKind.i64.wrap (a3 - (IntKind.i64.wrap (s113.2.2 * (a0.1.getD a1.toNat default)))))] _ Try.func127 rfl rfl rfl (ih_ (⟨a0.1, a0.2.1, s113.2.1⟩ : List Int × Int × List A8) (IntKind.i64.wrap (a1 + 1)) (s113.1.set a1.toNat s113.2.2) (IntKind.i64.wrap (a3 - (IntKind.i64.wrap (s113.2.2 * (a0.1.getD a1.toNat default))))) h _ (hC.getP 0 rfl) (hC.getM 0 rfl) (hC.getM 1 rfl) (fun hb_ => hC.mm 0 1 rfl rfl (by decide) _ (List.mem_singleton_self _) hb_) (fun b_ hb_ hb2_ => (List.mem_cons.1 hb2_).elim (fun e_ => hC.pd _ (List.mem_of_getElem? (i := 0) rfl) b_ hb_ _ (List.mem_of_getElem? (i := 0) rfl) (List.mem_singleton.2 e_)) (fun hb2_ => hC.pd _ (List.mem_of_getElem? (i := 0) rfl) b_ hb_ _ (List.mem_of_getElem? (i := 1) rfl) hb2_))) (fun ret123 w125 hR124 => ?_)
       obtain ⟨m127, v128, rfl, h, hm129, hm130, hm131, hB126⟩ := hR124
       refine ⟨_, rfl, ?_⟩
       replace hC := hC.turnS hB126 hm129 hm130 hm131
       refine done ?_
       refine blk_norm ?_
       refine then_norm ?_
       refine cw_region ?_
       refine s_mv (v := .int .i64 s113.2.2) (sx hS_ 5 rfl) ?_
       refine s_sub rfl rfl ?_
       refine s_as (v := .int .i64 (IntKind.i64.wrap (s113.2.2 - 1))) rfl ?_
       refine done ?_
       replace hC := hC.sM [2, 0, 1] (M' := [blk b4 101 (A8.enc .i64 (s113.1.set a1.toNat s113.2.2)), blk b0 175 [u0_0, .int .i64 a0.2.1, v128], own 101 8 v128 m127.length ((EA .i64).encs m127)]) (by decide) rfl
       exact hK117 (s113.1.set a1.toNat s113.2.2, m127, IntKind.i64.wrap (s113.2.2 - 1)) _ _ ⟨v128, (sk (sx hS_ 0 rfl) (sk (sx hS_ 1 rfl) (sk (sx hS_ 2 rfl) (sk (sx hS_ 3 rfl) (sk (sx hS_ 4 rfl) (sk rfl sn)))))), hC⟩ h
      ·replace h := iff_ h (cf hb119)
       refine wp_exit (then_exit (then_exit (exit_in ?_)))
       refine ret0 (fn := Try.f127) rfl  ⟨s113.2.1, v114, rfl, h, (hC.getM 1 rfl), (hC.getM 2 rfl), (fun b_ hb_ => (hC.mfp _ (List.mem_of_getElem? (i := 2) rfl) b_ hb_).elim .inr (fun q_ => (List.mem_cons.1 q_).elim (fun e_ => absurd hb_ (fun hb_ => hC.mm 1 2 rfl rfl (by decide) b_ (List.mem_singleton.2 e_) hb_)) .inl)), hC.belO⟩ (.inr rfl)
     ·skip
      exact ⟨u0_2, (sk rfl (sk rfl (sk rfl (sk rfl (sk rfl (sk rfl sn)))))), hC⟩
end Go.Proofs.Ytaagfepgbofmlaa
