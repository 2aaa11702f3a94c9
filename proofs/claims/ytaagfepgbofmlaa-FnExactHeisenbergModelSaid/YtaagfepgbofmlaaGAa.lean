/- Printed by vcgen.py: functions of the program as predicates, and that the machine's calls meet them. -/
import Derived.Test.YtaagfepgbofmlaaVt
import Derived.Test.YtaagfepgbofmlaaVm
import Derived.Test.YtaagfepgbofmlaaVs
import Derived.Test.YtaagfepgbofmlaaProg
import Derived.KernelRfl
set_option linter.unusedVariables false
set_option linter.unusedSimpArgs false
set_option maxRecDepth 4000
set_option maxHeartbeats 4000000
namespace Go.Proofs.Ytaagfepgbofmlaa
open Go Go.RowKit Vc
theorem sc2 : ScaT Try.prog 2 := ⟨⟨_, Try.underlying2, rfl⟩, by kernel_rfl⟩
theorem sc5 : ScaT Try.prog 5 := ⟨⟨_, Try.underlying5, rfl⟩, by kernel_rfl⟩
theorem z95 : ZeroT Try.prog 95 (.agg #[.slice none 0 0]) := by unfold ZeroT; kernel_rfl
theorem bl95  (w : World) : (Instr.build 95 #[]).run Try.prog w = .ok (.agg #[.slice none 0 0]) w := by kernel_rfl
theorem ag95 : AggT Try.prog 95 1 := ⟨⟨_, Try.underlying95, rfl⟩, by kernel_rfl⟩
theorem mixed : Try.prog.follows .mixedOrders = true := by kernel_rfl
theorem ag49 : AggT Try.prog 49 8 := ⟨⟨_, Try.underlying49, rfl⟩, by kernel_rfl⟩
theorem bl114_0flat_1int (x0 : A8) (x1 : Int) (w : World) : (Instr.build 114 #[(0, .agg (List.toArray (A8.enc .u8 x0))), (1, .int .i64 x1)]).run Try.prog w = .ok (.agg (List.toArray (Term.enc (⟨x0, x1⟩ : Term)))) w := by kernel_rfl
theorem bs93_1 (x0 : Term) (w : World) : (Instr.buildSlice 93 1 #[(0, .agg (List.toArray (Term.enc x0)))]).run Try.prog w = .ok (.slice (some ⟨w.heap.size, 0, none⟩) 1 1) (w.alloc (.cells (List.toArray (ETerm.encs [x0])) 114)) := by kernel_rfl
theorem bl95_0sl (x0 : Value) (hx0 : IsSl x0) (w : World) : (Instr.build 95 #[(0, x0)]).run Try.prog w = .ok (.agg #[x0]) w := by obtain ⟨_, _, _, rfl⟩ := hx0; kernel_rfl
theorem sc93 : ScaT Try.prog 93 := ⟨⟨_, Try.underlying93, rfl⟩, by kernel_rfl⟩
theorem ag114 : AggT Try.prog 114 9 := ⟨⟨_, Try.underlying114, rfl⟩, by kernel_rfl⟩
theorem el114 : ElemT Try.prog 114 (.agg (List.toArray (Term.enc (⟨A8.zero, 0⟩ : Term)))) 9 16 := by unfold ElemT; kernel_rfl
theorem z49 : ZeroT Try.prog 49 (.agg (List.toArray (A8.enc .u8 A8.zero))) := by unfold ZeroT; kernel_rfl
theorem bl49  (w : World) : (Instr.build 49 #[]).run Try.prog w = .ok (.agg (List.toArray (A8.enc .u8 A8.zero))) w := by kernel_rfl
theorem sc22 : ScaT Try.prog 22 := ⟨⟨_, Try.underlying22, rfl⟩, by kernel_rfl⟩
theorem sc30 : ScaT Try.prog 30 := ⟨⟨_, Try.underlying30, rfl⟩, by kernel_rfl⟩
theorem ag32 : AggT Try.prog 32 2 := ⟨⟨_, Try.underlying32, rfl⟩, by kernel_rfl⟩
theorem z101 : ZeroT Try.prog 101 (.agg (List.toArray (A8.enc .i64 A8.zero))) := by unfold ZeroT; kernel_rfl
theorem bl101  (w : World) : (Instr.build 101 #[]).run Try.prog w = .ok (.agg (List.toArray (A8.enc .i64 A8.zero))) w := by kernel_rfl
theorem ag101 : AggT Try.prog 101 8 := ⟨⟨_, Try.underlying101, rfl⟩, by kernel_rfl⟩
theorem sc3 : ScaT Try.prog 3 := ⟨⟨_, Try.underlying3, rfl⟩, by kernel_rfl⟩
theorem kt101 : KeyT Try.prog 101 (kvA .i64) := keyA8 Try.underlying101 Try.underlying3 sc3
theorem z2 : ZeroT Try.prog 2 (.int .i64 0) := by unfold ZeroT; kernel_rfl
theorem bs121_0  (w : World) : (Instr.buildSlice 121 0 #[]).run Try.prog w = .ok (.slice (some ⟨w.heap.size, 0, none⟩) 0 0) (w.alloc (.cells (List.toArray ((EA .i64).encs [])) 101)) := by kernel_rfl
theorem bs121_1 (x0 : A8) (w : World) : (Instr.buildSlice 121 1 #[(0, .agg (List.toArray (A8.enc .i64 x0)))]).run Try.prog w = .ok (.slice (some ⟨w.heap.size, 0, none⟩) 1 1) (w.alloc (.cells (List.toArray ((EA .i64).encs [x0])) 101)) := by kernel_rfl
theorem el101 : ElemT Try.prog 101 (.agg (List.toArray (A8.enc .i64 A8.zero))) 8 64 := by unfold ElemT; kernel_rfl
theorem el2 : ElemT Try.prog 2 (.int .i64 0) 1 8 := by unfold ElemT; kernel_rfl
def f_spec_l01In (a0 : Int) (a1 : Int) (a2 : Int) (K : Bool → Prop) : Prop :=
 (if a0 ≥ a1 then K (decide (a0 ≤ a2)) else K false)
theorem c_spec_l01In (a0 : Int) (a1 : Int) (a2 : Int)  {K : Bool → Prop} (h : f_spec_l01In a0 a1 a2 K) (w0 : World)  :
  Calls Try.prog 60 #[.int .i64 a0, .int .i64 a1, .int .i64 a2] w0 fun e w' => ∃ (r0 : Bool), 
   e = .returned (.bool r0) ∧ K r0 ∧ Bel w0 w' := by
 unfold f_spec_l01In at h
 refine calls_of (args := [.int .i64 a0, .int .i64 a1, .int .i64 a2]) Try.func60 rfl 15 Try.ntmps60 (Nat.le_of_ble_eq_true rfl) ?_
 have hC := Ctx.start (X := Nox) w0 [] (by simp)
 refine sr ?_
 refine s_as (v := .bool false) rfl ?_
 refine dn ?_
 refine sr ?_
 refine s_mv (v := .int .i64 a0) rfl ?_
 refine s_mv (v := .int .i64 a1) rfl ?_
 refine s_geq rfl rfl ?_
 refine s_mv (v := .bool (decide (a0 ≥ a1))) rfl ?_
 refine bsplit (decide (a0 ≥ a1)) (fun hb1 => ?_) (fun hb1 => ?_)
 ·replace h := ift h (ct hb1)
  refine guardOn 3 10 rfl rfl hb1 ?_
  refine s_mv (v := .int .i64 a0) rfl ?_
  refine guardOn 3 10 rfl rfl hb1 ?_
  refine s_mv (v := .int .i64 a2) rfl ?_
  refine guardOn 3 10 rfl rfl hb1 ?_
  refine s_leq rfl rfl ?_
  refine s_pick (v := .bool (decide (a0 ≤ a2))) (b := true) (tr rfl (congrArg _ hb1)) rfl ?_
  refine s_as (v := .bool (decide (a0 ≤ a2))) rfl ?_
  refine dn ?_
  refine wp_ret ?_
  refine ret1 (fn := Try.f60) rfl ?_ ⟨decide (a0 ≤ a2), rfl, h, hC.below⟩ (.inl rfl)
  exact res_tmp rfl
 ·replace h := iff_ h (cf hb1)
  refine guardOff (b := false) 3 10 rfl (tr rfl (congrArg _ hb1)) (by decide) ?_
  refine guardOff (b := false) 3 10 rfl (tr rfl (congrArg _ hb1)) (by decide) ?_
  refine guardOff (b := false) 3 10 rfl (tr rfl (congrArg _ hb1)) (by decide) ?_
  refine s_pick (v := .bool false) (b := false) (tr rfl (congrArg _ hb1)) rfl ?_
  refine s_as (v := .bool false) rfl ?_
  refine dn ?_
  refine wp_ret ?_
  refine ret1 (fn := Try.f60) rfl ?_ ⟨false, rfl, h, hC.below⟩ (.inl rfl)
  exact res_tmp rfl
def f_spec_l01Mod (a0 : Int) (K : Int → Prop) : Prop :=
 K (Int.tmod (IntKind.i64.wrap ((Int.tmod a0 10007) + 10007)) 10007)
theorem c_spec_l01Mod (a0 : Int)  {K : Int → Prop} (h : f_spec_l01Mod a0 K) (w0 : World)  :
  Calls Try.prog 122 #[.int .i64 a0] w0 fun e w' => ∃ (r0 : Int), 
   e = .returned (.int .i64 r0) ∧ K r0 ∧ Bel w0 w' := by
 unfold f_spec_l01Mod at h
 refine calls_of (args := [.int .i64 a0]) Try.func122 rfl 7 Try.ntmps122 (Nat.le_of_ble_eq_true rfl) ?_
 have hC := Ctx.start (X := Nox) w0 [] (by simp)
 refine sr ?_
 refine s_as (v := .int .i64 0) rfl ?_
 refine dn ?_
 refine sr ?_
 refine s_mv (v := .int .i64 a0) rfl ?_
 refine s_rem rfl rfl (by decide) ?_
 refine s_add rfl rfl ?_
 refine s_rem rfl rfl (by decide) ?_
 refine s_as (v := .int .i64 (Int.tmod (IntKind.i64.wrap ((Int.tmod a0 10007) + 10007)) 10007)) rfl ?_
 refine dn ?_
 refine wp_ret ?_
 refine ret1 (fn := Try.f122) rfl ?_ ⟨Int.tmod (IntKind.i64.wrap ((Int.tmod a0 10007) + 10007)) 10007, rfl, h, hC.below⟩ (.inl rfl)
 exact res_tmp rfl
def f_spec_l01Single (a0 : A8) (a1 : Int) (K : Vc.Form → Prop) : Prop :=
 f_spec_l01Mod a1 (fun r10 => (if r10 = 0 then K (⟨[]⟩ : Vc.Form) else f_spec_l01Mod a1 (fun r20 => K (⟨[(⟨a0, r20⟩ : Term)]⟩ : Vc.Form))))
theorem c_spec_l01Single (a0 : A8) (a1 : Int)  {K : Vc.Form → Prop} (h : f_spec_l01Single a0 a1 K) (w0 : World)  :
  Calls Try.prog 70 #[.agg (List.toArray (A8.enc .u8 a0)), .int .i64 a1] w0 fun e w' => ∃ (r0 : Vc.Form) (z0_0 : Value) (fz0 : List Nat), 
   e = .returned (.agg #[z0_0]) ∧ K r0 ∧ (Tr.item (TrForm 114) r0 [z0_0] fz0).holds w' ∧ (∀ b, b ∈ fz0 → w0.heap.size ≤ b) ∧ Bel w0 w' := by
 unfold f_spec_l01Single at h
 refine calls_of (args := [.agg (List.toArray (A8.enc .u8 a0)), .int .i64 a1]) Try.func70 rfl 15 Try.ntmps70 (Nat.le_of_ble_eq_true rfl) ?_
 have hC := Ctx.start (X := Nox) w0 [] (by simp)
 refine sr ?_
 refine s_box (v := .agg (List.toArray (A8.enc .u8 a0))) hC (A8.enc .u8 a0) rfl rfl fun b1 w3 hB_ hC => ?_
 refine s_alloc hC [.slice none 0 0] z95 rfl fun b4 w6 hB_ hC => ?_
 refine dn ?_
 refine wp_seq ?_
 refine sr ?_
 refine s_mv (v := .int .i64 a1) rfl ?_
 refine s_call [.int .i64 a1] _ Try.func122 rfl rfl rfl (c_spec_l01Mod a1 h _) (fun ret7 w9 hR8 => ?_)
 obtain ⟨r10, rfl, h, hB11⟩ := hR8
 refine ⟨_, rfl, ?_⟩
 replace hC := hC.grow hB11
 refine s_eql rfl rfl ?_
 refine dn ?_
 refine cw_cond rfl (fun hb12 => ?_) (fun hb12 => ?_)
 ·replace h := ift h (ct hb12)
  refine sr ?_
  refine s_build [] rfl (bl95   _) ?_
  refine s_store (v := .agg #[.slice none 0 0]) hC 0 [.slice none 0 0] [.slice none 0 0] rfl ag95.size rfl rfl rfl rfl rfl (Nat.le_of_ble_eq_true rfl) rfl fun w13 hC => ?_
  refine dn ?_
  refine wp_ret (then_ret ?_)
  refine ret1 (fn := Try.f70) rfl ?_ ⟨(⟨[]⟩ : Vc.Form), .slice none 0 0, [], rfl, h, (form_join (nil_item _ _ _)), (fun b hb => absurd hb (by simp)), hC.below⟩ (.inl rfl)
  exact res_cellA hC 0 rfl ag95 rfl rfl
 ·replace h := iff_ h (cf hb12)
  refine wp_skip ?_
  refine then_norm ?_
  refine wp_seq ?_
  refine cw_draw 3 mixed [0, 0, 2, 7, 15, 31, 63] [0] [1] (by kernel_rfl) (by kernel_rfl) (by kernel_rfl) (fun hM15 hM16 w14 hB_ => ?_)
  replace hC := hC.grow hB_
  refine aL 0 (.agg (List.toArray (A8.enc .u8 a0))) rfl rfl (hM15 0 rfl) (rfl) (fun _ hB_ => by exact r_loadA (hC.grow hB_) 1 (A8.enc .u8 a0) rfl ag49 rfl rfl rfl) (dbits 7 1) ?_
  refine aF 1 (.int .i64 a1) rfl rfl (hM16 1 rfl) (rfl) (fun _ => by exact r_mv (v := .int .i64 a1) rfl) (dbits 7 3) ?_
  refine aO 2 rfl ?_
  refine s_call [.int .i64 a1] _ Try.func122 rfl rfl rfl (c_spec_l01Mod a1 h _) (fun ret17 w19 hR18 => ?_)
  obtain ⟨r20, rfl, h, hB21⟩ := hR18
  refine ⟨_, rfl, ?_⟩
  replace hC := hC.grow hB21
  refine done ?_
  refine aK (by assumption) (dbits 7 7) ?_
  refine ae_tail 3 (by decide) (by decide) (by kernel_rfl) (by kernel_rfl) rfl ?_
  refine s_build [(0, .agg (List.toArray (A8.enc .u8 a0))), (1, .int .i64 r20)] rfl (bl114_0flat_1int a0 r20  _) ?_
  refine s_bslice (sz := 9) hC [(0, .agg (List.toArray (Term.enc (⟨a0, r20⟩ : Term))))] (ETerm.encs [(⟨a0, r20⟩ : Term)]) rfl (fun _ => bs93_1 (⟨a0, r20⟩ : Term) _) rfl (by decide) fun b22 w23 hB_ hC => ?_
  refine s_build [(0, .slice (some ⟨b22, 0, none⟩) 1 1)] rfl (bl95_0sl (.slice (some ⟨b22, 0, none⟩) 1 1) (own_isSl (hC.getM 0 rfl)) _) ?_
  refine s_store (v := .agg #[.slice (some ⟨b22, 0, none⟩) 1 1]) hC 1 [.slice (some ⟨b22, 0, none⟩) 1 1] [.slice (some ⟨b22, 0, none⟩) 1 1] rfl ag95.size rfl rfl rfl rfl (all_c (own_oneC (hC.getM 0 rfl)) rfl) (Nat.le_of_ble_eq_true rfl) rfl fun w25 hC => ?_
  refine done ?_
  refine qn_norm ?_
  refine then_norm ?_
  refine wp_ret ?_
  refine ret1 (fn := Try.f70) rfl ?_ ⟨(⟨[(⟨a0, r20⟩ : Term)]⟩ : Vc.Form), .slice (some ⟨b22, 0, none⟩) 1 1, (Option.toList (Value.ownBlock (.slice (some ⟨b22, 0, none⟩) 1 1))), rfl, h, (form_join (own_item (hC.getM 0 rfl))), (own_fresh hC 0 rfl), hC.below⟩ (.inl rfl)
  exact res_cellA hC 1 rfl ag95 rfl rfl
def f_spec_l01Before (a0 : A8) (a1 : A8) (K : Bool → Prop) : Prop :=
 forN (fun i17 (s18 : Unit) next19 => (if a0.get i17 ≠ a1.get i17 then K (decide (a0.get i17 > a1.get i17)) else next19 ())) (fun (s18 : Unit) => K false) 8 0 ()
theorem c_spec_l01Before (a0 : A8) (a1 : A8)  {K : Bool → Prop} (h : f_spec_l01Before a0 a1 K) (w0 : World)  :
  Calls Try.prog 121 #[.agg (List.toArray (A8.enc .u8 a0)), .agg (List.toArray (A8.enc .u8 a1))] w0 fun e w' => ∃ (r0 : Bool), 
   e = .returned (.bool r0) ∧ K r0 ∧ Bel w0 w' := by
 unfold f_spec_l01Before at h
 refine calls_of (args := [.agg (List.toArray (A8.enc .u8 a0)), .agg (List.toArray (A8.enc .u8 a1))]) Try.func121 rfl 24 Try.ntmps121 (Nat.le_of_ble_eq_true rfl) ?_
 have hC := Ctx.start (X := Nox) w0 [] (by simp)
 refine sr ?_
 refine s_box (v := .agg (List.toArray (A8.enc .u8 a0))) hC (A8.enc .u8 a0) rfl rfl fun b1 w3 hB_ hC => ?_
 refine s_box (v := .agg (List.toArray (A8.enc .u8 a1))) hC (A8.enc .u8 a1) rfl rfl fun b4 w6 hB_ hC => ?_
 refine s_as (v := .bool false) rfl ?_
 refine dn ?_
 refine wp_seq ?_
 refine sr ?_
 refine s_as (v := .int .i64 0) rfl ?_
 refine dn ?_
 refine wp_block ?_
 refine loopN (S := Unit) _ _ (fun i17 s18 e_ w_ => Slots e_ [(2, .pointer (some ⟨b1, 0, none⟩)), (3, .pointer (some ⟨b4, 0, none⟩)), (4, .bool false), (5, .int .i64 (i17 : Int))] ∧ Ctx Nox w0 w_ [blk b4 49 (A8.enc .u8 a1), blk b1 49 (A8.enc .u8 a0)] []) 8 ?_ ?_ (s0 := ()) ?_ h
 ·clear hC h
  rintro i17 s18 e_ w23 next19 K20 hi22 ⟨hS_, hC⟩ h hK21
  refine wp_seq ?_
  refine sr ?_
  refine s_mv (v := .int .i64 (i17 : Int)) (sx hS_ 3 rfl) ?_
  refine s_lss rfl rfl ?_
  refine dn ?_
  refine cw_true rfl (decide_eq_true (by omega)) ?_
  refine wp_skip ?_
  refine then_norm ?_
  refine wp_seq ?_
  refine wp_block ?_
  refine wp_seq ?_
  refine cw_draw 6 mixed [0, 1, 3, 0, 8, 24, 63] [1, 2, 4, 5] [0, 3] (by kernel_rfl) (by kernel_rfl) (by kernel_rfl) (fun hM25 hM26 w24 hB_ => ?_)
  replace hC := hC.grow hB_
  refine aF 0 (.int .i64 (i17 : Int)) rfl rfl (hM26 0 rfl) (rfl) (fun _ => by exact r_mv (v := .int .i64 (i17 : Int)) (sx hS_ 3 rfl)) (dbits 7 1) ?_
  refine aL 1 (.pointer (some ⟨b1, i17, none⟩)) rfl rfl (hM25 1 rfl) (rfl) (fun _ hB_ => by exact r_iaddrB i17 Try.underlying49 sc5.size (sx hS_ 0 rfl) rfl (Int.natCast_nonneg _) (by omega) (by omega)) (dbits 7 3) ?_
  refine aL 2 (.int .u8 (a0.get i17)) rfl rfl (hM25 2 rfl) (rfl) (fun _ hB_ => by exact r_loadS (hC.grow hB_) 1 (.int .u8 (a0.get i17)) rfl sc5 rfl (A8.enc_get _ _ hi22)) (dbits 7 7) ?_
  refine aF 3 (.int .i64 (i17 : Int)) rfl rfl (hM26 3 rfl) (rfl) (fun _ => by exact r_mv (v := .int .i64 (i17 : Int)) (sx hS_ 3 rfl)) (dbits 7 15) ?_
  refine aL 4 (.pointer (some ⟨b4, i17, none⟩)) rfl rfl (hM25 4 rfl) (rfl) (fun _ hB_ => by exact r_iaddrB i17 Try.underlying49 sc5.size (sx hS_ 1 rfl) rfl (Int.natCast_nonneg _) (by omega) (by omega)) (dbits 7 31) ?_
  refine aL 5 (.int .u8 (a1.get i17)) rfl rfl (hM25 5 rfl) (rfl) (fun _ hB_ => by exact r_loadS (hC.grow hB_) 0 (.int .u8 (a1.get i17)) rfl sc5 rfl (A8.enc_get _ _ hi22)) (dbits 7 63) ?_
  refine ae_tail 6 (by decide) (by decide) (by kernel_rfl) (by kernel_rfl) rfl ?_
  refine s_neq rfl rfl ?_
  refine done ?_
  refine qn_norm ?_
  refine then_norm ?_
  refine cw_cond rfl (fun hb27 => ?_) (fun hb27 => ?_)
  ·replace h := ift h (ct hb27)
   refine wp_seq ?_
   refine cw_draw 6 mixed [0, 1, 3, 0, 8, 24, 63, 127] [1, 2, 4, 5] [0, 3] (by kernel_rfl) (by kernel_rfl) (by kernel_rfl) (fun hM29 hM30 w28 hB_ => ?_)
   replace hC := hC.grow hB_
   refine aF 0 (.int .i64 (i17 : Int)) rfl rfl (hM30 0 rfl) (rfl) (fun _ => by exact r_mv (v := .int .i64 (i17 : Int)) (sx hS_ 3 rfl)) (dbits 8 1) ?_
   refine aL 1 (.pointer (some ⟨b1, i17, none⟩)) rfl rfl (hM29 1 rfl) (rfl) (fun _ hB_ => by exact r_iaddrB i17 Try.underlying49 sc5.size (sx hS_ 0 rfl) rfl (Int.natCast_nonneg _) (by omega) (by omega)) (dbits 8 3) ?_
   refine aL 2 (.int .u8 (a0.get i17)) rfl rfl (hM29 2 rfl) (rfl) (fun _ hB_ => by exact r_loadS (hC.grow hB_) 1 (.int .u8 (a0.get i17)) rfl sc5 rfl (A8.enc_get _ _ hi22)) (dbits 8 7) ?_
   refine aF 3 (.int .i64 (i17 : Int)) rfl rfl (hM30 3 rfl) (rfl) (fun _ => by exact r_mv (v := .int .i64 (i17 : Int)) (sx hS_ 3 rfl)) (dbits 8 15) ?_
   refine aL 4 (.pointer (some ⟨b4, i17, none⟩)) rfl rfl (hM29 4 rfl) (rfl) (fun _ hB_ => by exact r_iaddrB i17 Try.underlying49 sc5.size (sx hS_ 1 rfl) rfl (Int.natCast_nonneg _) (by omega) (by omega)) (dbits 8 31) ?_
   refine aL 5 (.int .u8 (a1.get i17)) rfl rfl (hM29 5 rfl) (rfl) (fun _ hB_ => by exact r_loadS (hC.grow hB_) 0 (.int .u8 (a1.get i17)) rfl sc5 rfl (A8.enc_get _ _ hi22)) (dbits 8 63) ?_
   refine ae_tail 6 (by decide) (by decide) (by kernel_rfl) (by kernel_rfl) rfl ?_
   refine s_gtr rfl rfl ?_
   refine s_as (v := .bool (decide (a0.get i17 > a1.get i17))) rfl ?_
   refine done ?_
   refine qn_norm ?_
   refine then_norm ?_
   refine wp_ret (blk_ret (then_ret (then_ret (blk_ret (then_ret ?_)))))
   refine ret1 (fn := Try.f121) rfl ?_ ⟨decide (a0.get i17 > a1.get i17), rfl, h, hC.below⟩ (.inl rfl)
   exact res_tmp rfl
  ·replace h := iff_ h (cf hb27)
   refine wp_skip ?_
   refine blk_norm ?_
   refine then_norm ?_
   refine cw_region ?_
   refine s_mv (v := .int .i64 (i17 : Int)) (sx hS_ 3 rfl) ?_
   refine s_add rfl rfl ?_
   refine s_as (v := .int .i64 (IntKind.i64.wrap ((i17 : Int) + 1))) rfl ?_
   refine done ?_
   exact hK21 () _ _ ⟨(sk (sx hS_ 0 rfl) (sk (sx hS_ 1 rfl) (sk (sx hS_ 2 rfl) (sk (tr rfl (congrArg _ (wrap64_nat hi22 (by decide)))) sn)))), hC⟩ h
 ·clear hC h
  rintro s18 e_ w31 K20 ⟨hS_, hC⟩ h
  refine wp_seq ?_
  refine sr ?_
  refine s_mv (v := .int .i64 8) (sx hS_ 3 rfl) ?_
  refine s_lss rfl rfl ?_
  refine dn ?_
  refine cw_false rfl (decide_eq_false (by omega)) ?_
  refine wp_exit (then_exit (then_exit (exit_in ?_)))
  refine then_norm ?_
  refine sr ?_
  refine s_as (v := .bool false) rfl ?_
  refine dn ?_
  refine wp_ret ?_
  refine ret1 (fn := Try.f121) rfl ?_ ⟨false, rfl, h, hC.below⟩ (.inl rfl)
  exact res_tmp rfl
 ·skip
  exact ⟨(sk rfl (sk rfl (sk rfl (sk rfl sn)))), hC⟩
def f_spec_l01Add (a0 : Vc.Form) (a1 : Vc.Form) (a2 : Int) (K : Vc.Form → Prop) : Prop :=
 whileP (fun (s443 : (List Term) × Int × Int) next446 => joinP (fun (jn458 : Bool → Prop) => (if s443.2.1 < (a0.terms.length : Int) then jn458 true else jn458 (decide (s443.2.2 < (a1.terms.length : Int))))) (fun (x457 : Bool) => (if x457 = true then joinP (fun (jn497 : Bool → Prop) => (if s443.2.2 = (a1.terms.length : Int) then jn497 true else (if s443.2.1 < (a0.terms.length : Int) then ((0 ≤ s443.2.1 ∧ s443.2.1 < (a0.terms.length : Int)) ∧ ((0 ≤ s443.2.2 ∧ s443.2.2 < (a1.terms.length : Int)) ∧ f_spec_l01Before ((a0.terms.getD s443.2.1.toNat default).mono) ((a1.terms.getD s443.2.2.toNat default).mono) (fun r523 => jn497 r523))) else jn497 false))) (fun (x495 : Bool) => (if x495 = true then ((0 ≤ s443.2.1 ∧ s443.2.1 < (a0.terms.length : Int)) ∧ (Room (s443.1.length + 1) 16 ∧ next446 (s443.1 ++ [a0.terms.getD s443.2.1.toNat default], IntKind.i64.wrap (s443.2.1 + 1), s443.2.2))) else joinP (fun (jn566 : Bool → Prop) => (if s443.2.1 = (a0.terms.length : Int) then jn566 true else ((0 ≤ s443.2.2 ∧ s443.2.2 < (a1.terms.length : Int)) ∧ ((0 ≤ s443.2.1 ∧ s443.2.1 < (a0.terms.length : Int)) ∧ f_spec_l01Before ((a1.terms.getD s443.2.2.toNat default).mono) ((a0.terms.getD s443.2.1.toNat default).mono) (fun r588 => jn566 r588))))) (fun (x564 : Bool) => (if x564 = true then ((0 ≤ s443.2.2 ∧ s443.2.2 < (a1.terms.length : Int)) ∧ f_spec_l01Mod (IntKind.i64.wrap (a2 * ((a1.terms.getD s443.2.2.toNat default).factor))) (fun r600 => (if r600 ≠ 0 then ((0 ≤ s443.2.2 ∧ s443.2.2 < (a1.terms.length : Int)) ∧ (Room (s443.1.length + 1) 16 ∧ next446 (s443.1 ++ [(⟨(a1.terms.getD s443.2.2.toNat default).mono, r600⟩ : Term)], s443.2.1, IntKind.i64.wrap (s443.2.2 + 1)))) else next446 (s443.1, s443.2.1, IntKind.i64.wrap (s443.2.2 + 1))))) else ((0 ≤ s443.2.1 ∧ s443.2.1 < (a0.terms.length : Int)) ∧ ((0 ≤ s443.2.2 ∧ s443.2.2 < (a1.terms.length : Int)) ∧ f_spec_l01Mod (IntKind.i64.wrap (a2 * ((a1.terms.getD s443.2.2.toNat default).factor))) (fun r634 => f_spec_l01Mod (IntKind.i64.wrap (((a0.terms.getD s443.2.1.toNat default).factor) + r634)) (fun r639 => (if r639 ≠ 0 then ((0 ≤ s443.2.1 ∧ s443.2.1 < (a0.terms.length : Int)) ∧ (Room (s443.1.length + 1) 16 ∧ next446 (s443.1 ++ [(⟨(a0.terms.getD s443.2.1.toNat default).mono, r639⟩ : Term)], IntKind.i64.wrap (s443.2.1 + 1), IntKind.i64.wrap (s443.2.2 + 1)))) else next446 (s443.1, IntKind.i64.wrap (s443.2.1 + 1), IntKind.i64.wrap (s443.2.2 + 1))))))))))) else K (⟨s443.1⟩ : Vc.Form)))) ([], 0, 0)
theorem c_spec_l01Add (a0 : Vc.Form) (a1 : Vc.Form) (a2 : Int) {u0_0 : Value} {u1_0 : Value} {fp0 : List Nat} {fp1 : List Nat} {K : Vc.Form → Prop} (h : f_spec_l01Add a0 a1 a2 K) (w0 : World) (q0 : TForm.rep a0 [u0_0] fp0 w0) (q1 : TForm.rep a1 [u1_0] fp1 w0) :
  Calls Try.prog 69 #[.agg #[u0_0], .agg #[u1_0], .int .i64 a2] w0 fun e w' => ∃ (r0 : Vc.Form) (z0_0 : Value) (fz0 : List Nat), 
   e = .returned (.agg #[z0_0]) ∧ K r0 ∧ (Tr.item (TrForm 114) r0 [z0_0] fz0).holds w' ∧ (∀ b, b ∈ fz0 → w0.heap.size ≤ b) ∧ Bel w0 w' := by
 unfold f_spec_l01Add at h
 refine calls_of (args := [.agg #[u0_0], .agg #[u1_0], .int .i64 a2]) Try.func69 rfl 149 Try.ntmps69 (Nat.le_of_ble_eq_true rfl) ?_
 have hC := Ctx.start (X := Nox) w0 [Ty.item TForm a0 [u0_0] fp0, Ty.item TForm a1 [u1_0] fp1] (by simp only [List.mem_cons, List.not_mem_nil, or_false, forall_eq_or_imp, forall_eq]; exact ⟨q0, q1⟩)
 have hp3 := (hC.getP 0 rfl)
 replace hC := hC.derive 0 rfl (Ty.item ETerm.ty.sl a0.terms [u0_0] fp0) (fun _ => (form_parts hp3)) (fun _ hb_ => hb_)
 have hp5 := (hC.getP 2 rfl)
 replace hC := hC.derive 2 rfl (Ty.item ETerm.ty.sl a1.terms [u1_0] fp1) (fun _ => (form_parts hp5)) (fun _ hb_ => hb_)
 refine sr ?_
 refine s_box (v := .agg #[u0_0]) hC [u0_0] rfl rfl fun b7 w9 hB_ hC => ?_
 refine s_box (v := .agg #[u1_0]) hC [u1_0] rfl rfl fun b10 w12 hB_ hC => ?_
 refine s_alloc hC [.slice none 0 0] z95 rfl fun b13 w15 hB_ hC => ?_
 refine dn ?_
 refine sr ?_
 refine s_build [] rfl (bl95   _) ?_
 refine s_alloc hC [.slice none 0 0] z95 rfl fun b16 w18 hB_ hC => ?_
 refine s_store (v := .agg #[.slice none 0 0]) hC 0 [.slice none 0 0] [.slice none 0 0] rfl ag95.size rfl rfl rfl rfl rfl (Nat.le_of_ble_eq_true rfl) rfl fun w19 hC => ?_
 refine dn ?_
 refine sr ?_
 refine s_as (v := .int .i64 0) rfl ?_
 refine s_as (v := .int .i64 0) rfl ?_
 refine dn ?_
 refine wp_seq ?_
 refine wp_block ?_
 refine loopW (S := (List Term) × Int × Int) _ (fun s443 e_ w_ => ∃ (v444 : Value), Slots e_ [(2, .int .i64 a2), (3, .pointer (some ⟨b7, 0, none⟩)), (4, .pointer (some ⟨b10, 0, none⟩)), (6, .pointer (some ⟨b13, 0, none⟩)), (7, .pointer (some ⟨b16, 0, none⟩)), (8, .int .i64 s443.2.1), (9, .int .i64 s443.2.2)] ∧ Ctx Nox w0 w_ [own 114 9 v444 s443.1.length (ETerm.encs s443.1), blk b16 95 [v444], blk b13 95 [.slice none 0 0], blk b10 95 [u1_0], blk b7 95 [u0_0]] [Ty.item ETerm.ty.sl a1.terms [u1_0] fp1, Ty.item ETerm.ty.sl a0.terms [u0_0] fp0, Ty.item TForm a0 [u0_0] fp0, Ty.item TForm a1 [u1_0] fp1]) ?_ (s0 := ([], 0, 0)) ?_ h
 ·clear hC h
  rintro s443 e_ w449 next446 K447 ⟨v444, hS_, hC⟩ h hK448
  refine wp_seq ?_
  refine wp_seq ?_
  obtain ⟨jn458, hj459, h⟩ := joinP_elim h
  refine reg_join (fun e_ w_ => ∃ (x457 : Bool), Slots e_ [(2, .int .i64 a2), (3, .pointer (some ⟨b7, 0, none⟩)), (4, .pointer (some ⟨b10, 0, none⟩)), (6, .pointer (some ⟨b13, 0, none⟩)), (7, .pointer (some ⟨b16, 0, none⟩)), (8, .int .i64 s443.2.1), (9, .int .i64 s443.2.2), (24, .bool x457)] ∧ Ctx Nox w0 w_ [own 114 9 v444 s443.1.length (ETerm.encs s443.1), blk b16 95 [v444], blk b13 95 [.slice none 0 0], blk b10 95 [u1_0], blk b7 95 [u0_0]] [Ty.item ETerm.ty.sl a1.terms [u1_0] fp1, Ty.item ETerm.ty.sl a0.terms [u0_0] fp0, Ty.item TForm a0 [u0_0] fp0, Ty.item TForm a1 [u1_0] fp1] ∧ jn458 x457) ?_ ?_
  ·skip
   refine cw_region ?_
   refine s_mv (v := .int .i64 s443.2.1) (sx hS_ 5 rfl) ?_
   refine s_faddrB 0 Try.underlying95 rfl sc93.size (sx hS_ 1 rfl) rfl ?_
   refine s_loadS hC 4 (u0_0) rfl sc93 rfl rfl ?_
   obtain ⟨Ad460, c461, hv462⟩ := sl_len (hC.getP 1 rfl)
   refine s_len Try.underlying93 (tr rfl hv462) ?_
   refine s_lss rfl rfl ?_
   refine s_mv (v := .bool (decide (s443.2.1 < (a0.terms.length : Int)))) rfl ?_
   refine bsplit (decide (s443.2.1 < (a0.terms.length : Int))) (fun hb463 => ?_) (fun hb463 => ?_)
   ·replace h := ift h (ct hb463)
    refine guardOff (b := true) 5 18 rfl (tr rfl (congrArg _ hb463)) (by decide) ?_
    refine guardOff (b := true) 5 18 rfl (tr rfl (congrArg _ hb463)) (by decide) ?_
    refine guardOff (b := true) 5 18 rfl (tr rfl (congrArg _ hb463)) (by decide) ?_
    refine guardOff (b := true) 5 18 rfl (tr rfl (congrArg _ hb463)) (by decide) ?_
    refine guardOff (b := true) 5 18 rfl (tr rfl (congrArg _ hb463)) (by decide) ?_
    refine s_pick (v := .bool true) (b := true) (tr rfl (congrArg _ hb463)) rfl ?_
    refine done ?_
    exact ⟨rfl, _, rfl, true, (sk (sx hS_ 0 rfl) (sk (sx hS_ 1 rfl) (sk (sx hS_ 2 rfl) (sk (sx hS_ 3 rfl) (sk (sx hS_ 4 rfl) (sk (sx hS_ 5 rfl) (sk (sx hS_ 6 rfl) (sk rfl sn)))))))), hC, h⟩
   ·replace h := iff_ h (cf hb463)
    refine guardOn 5 18 rfl rfl hb463 ?_
    refine s_mv (v := .int .i64 s443.2.2) (sx hS_ 6 rfl) ?_
    refine guardOn 5 18 rfl rfl hb463 ?_
    refine s_faddrB 0 Try.underlying95 rfl sc93.size (sx hS_ 2 rfl) rfl ?_
    refine guardOn 5 18 rfl rfl hb463 ?_
    refine s_loadS hC 3 (u1_0) rfl sc93 rfl rfl ?_
    refine guardOn 5 18 rfl rfl hb463 ?_
    obtain ⟨Ad464, c465, hv466⟩ := sl_len (hC.getP 0 rfl)
    refine s_len Try.underlying93 (tr rfl hv466) ?_
    refine guardOn 5 18 rfl rfl hb463 ?_
    refine s_lss rfl rfl ?_
    refine s_pick (v := .bool (decide (s443.2.2 < (a1.terms.length : Int)))) (b := false) (tr rfl (congrArg _ hb463)) rfl ?_
    refine done ?_
    exact ⟨rfl, _, rfl, decide (s443.2.2 < (a1.terms.length : Int)), (sk (sx hS_ 0 rfl) (sk (sx hS_ 1 rfl) (sk (sx hS_ 2 rfl) (sk (sx hS_ 3 rfl) (sk (sx hS_ 4 rfl) (sk (sx hS_ 5 rfl) (sk (sx hS_ 6 rfl) (sk rfl sn)))))))), hC, h⟩
  ·clear hC h
   rintro e_ w467 ⟨x457, hS_, hC, h⟩
   replace h := hj459 _ h
   refine then_norm ?_
   refine cw_cond (sx hS_ 7 rfl) (fun hb468 => ?_) (fun hb468 => ?_)
   ·replace h := ift h (hb468)
    refine wp_skip ?_
    refine then_norm ?_
    refine wp_block ?_
    refine wp_block ?_
    refine wp_seq ?_
    obtain ⟨jn497, hj498, h⟩ := joinP_elim h
    refine reg_join (fun e_ w_ => ∃ (x495 : Bool), Slots e_ [(2, .int .i64 a2), (3, .pointer (some ⟨b7, 0, none⟩)), (4, .pointer (some ⟨b10, 0, none⟩)), (6, .pointer (some ⟨b13, 0, none⟩)), (7, .pointer (some ⟨b16, 0, none⟩)), (8, .int .i64 s443.2.1), (9, .int .i64 s443.2.2), (24, .bool x457), (61, .bool x495)] ∧ Ctx Nox w0 w_ [own 114 9 v444 s443.1.length (ETerm.encs s443.1), blk b16 95 [v444], blk b13 95 [.slice none 0 0], blk b10 95 [u1_0], blk b7 95 [u0_0]] [Ty.item ETerm.ty.sl a1.terms [u1_0] fp1, Ty.item ETerm.ty.sl a0.terms [u0_0] fp0, Ty.item TForm a0 [u0_0] fp0, Ty.item TForm a1 [u1_0] fp1] ∧ jn497 x495) ?_ ?_
    ·skip
     refine cw_draw 24 mixed [0, 0, 2, 6, 15, 31, 63, 63, 191, 447, 1023, 2047, 4095, 8191, 4095, 32767, 65535, 131071, 4095, 266239, 4095, 1839103, 3936255, 8130559, 16777215, 33554431, 67108863, 134217727] [2, 3, 8, 9, 13, 15, 17, 19, 21, 23] [0, 1, 4, 5, 6, 7, 8, 9, 10, 11, 12, 13, 14, 15, 16, 17, 18, 19, 20, 21, 22, 23] (by kernel_rfl) (by kernel_rfl) (by kernel_rfl) (fun hM500 hM501 w499 hB_ => ?_)
     replace hC := hC.grow hB_
     refine aF 0 (.int .i64 s443.2.2) rfl rfl (hM501 0 rfl) (rfl) (fun _ => by exact r_mv (v := .int .i64 s443.2.2) (sx hS_ 6 rfl)) (dbits 28 1) ?_
     refine aF 1 (.pointer (some ⟨b10, 0, none⟩)) rfl rfl (hM501 1 rfl) (rfl) (fun _ => by exact r_faddrB 0 Try.underlying95 rfl sc93.size (sx hS_ 2 rfl) rfl) (dbits 28 3) ?_
     refine aL 2 (u1_0) rfl rfl (hM500 2 rfl) (rfl) (fun _ hB_ => by exact r_loadS (hC.grow hB_) 3 (u1_0) rfl sc93 rfl rfl) (dbits 28 7) ?_
     obtain ⟨Ad502, c503, hv504⟩ := sl_len (hC.getP 0 rfl)
     refine aL 3 (.int .i64 (a1.terms.length : Int)) rfl rfl (hM500 3 rfl) (rfl) (fun _ hB_ => by exact r_len Try.underlying93 (by exact tr rfl hv504)) (dbits 28 15) ?_
     refine aF 4 (.bool (decide (s443.2.2 = (a1.terms.length : Int)))) rfl rfl (hM501 4 rfl) (rfl) (fun _ => by exact r_eql rfl rfl) (dbits 28 31) ?_
     refine aF 5 (.bool (decide (s443.2.2 = (a1.terms.length : Int)))) rfl rfl (hM501 5 rfl) (rfl) (fun _ => by exact r_mv (v := .bool (decide (s443.2.2 = (a1.terms.length : Int)))) rfl) (dbits 28 63) ?_
     refine bsplit (decide (s443.2.2 = (a1.terms.length : Int))) (fun hb505 => ?_) (fun hb505 => ?_)
     ·replace h := ift h (ct hb505)
      refine ae_lookF belPre 6 undef rfl rfl (by kernel_rfl) (hM501 6 rfl) (fun w_ => .inr ⟨wanted_off (b := true) 5 67 rfl (tr rfl (congrArg _ hb505)) (by decide), rfl⟩) (l9 := (dbits 28 127)) (by kernel_rfl) ?_
      refine ae_lookF belPre 7 undef rfl rfl (by kernel_rfl) (hM501 7 rfl) (fun w_ => .inr ⟨wanted_off (b := true) 5 67 rfl (tr rfl (congrArg _ hb505)) (by decide), rfl⟩) (l9 := (dbits 28 255)) (by kernel_rfl) ?_
      refine ae_lookF belPre 8 undef rfl rfl (by kernel_rfl) (hM501 8 rfl) (fun w_ => .inr ⟨wanted_off (b := true) 5 67 rfl (tr rfl (congrArg _ hb505)) (by decide), rfl⟩) (l9 := (dbits 28 511)) (by kernel_rfl) ?_
      refine ae_lookF belPre 9 undef rfl rfl (by kernel_rfl) (hM501 9 rfl) (fun w_ => .inr ⟨wanted_off (b := true) 5 67 rfl (tr rfl (congrArg _ hb505)) (by decide), rfl⟩) (l9 := (dbits 28 1023)) (by kernel_rfl) ?_
      refine ae_lookF belPre 10 undef rfl rfl (by kernel_rfl) (hM501 10 rfl) (fun w_ => .inr ⟨wanted_off (b := true) 5 67 rfl (tr rfl (congrArg _ hb505)) (by decide), rfl⟩) (l9 := (dbits 28 2047)) (by kernel_rfl) ?_
      refine ae_lookF belPre 11 undef rfl rfl (by kernel_rfl) (hM501 11 rfl) (fun w_ => .inr ⟨wanted_off (b := true) 5 67 rfl (tr rfl (congrArg _ hb505)) (by decide), rfl⟩) (l9 := (dbits 28 4095)) (by kernel_rfl) ?_
      refine ae_lookF belPre 12 undef rfl rfl (by kernel_rfl) (hM501 12 rfl) (fun w_ => .inr ⟨wanted_offU 11 73 rfl rfl, rfl⟩) (l9 := (dbits 28 8191)) (by kernel_rfl) ?_
      refine ae_lookF belPre 13 undef rfl rfl (by kernel_rfl) (hM501 13 rfl) (fun w_ => .inr ⟨wanted_offU 11 73 rfl rfl, rfl⟩) (l9 := (dbits 28 16383)) (by kernel_rfl) ?_
      refine ae_lookF belPre 14 undef rfl rfl (by kernel_rfl) (hM501 14 rfl) (fun w_ => .inr ⟨wanted_offU 11 73 rfl rfl, rfl⟩) (l9 := (dbits 28 32767)) (by kernel_rfl) ?_
      refine ae_lookF belPre 15 undef rfl rfl (by kernel_rfl) (hM501 15 rfl) (fun w_ => .inr ⟨wanted_offU 11 73 rfl rfl, rfl⟩) (l9 := (dbits 28 65535)) (by kernel_rfl) ?_
      refine ae_lookF belPre 16 undef rfl rfl (by kernel_rfl) (hM501 16 rfl) (fun w_ => .inr ⟨wanted_offU 11 73 rfl rfl, rfl⟩) (l9 := (dbits 28 131071)) (by kernel_rfl) ?_
      refine ae_lookF belPre 17 undef rfl rfl (by kernel_rfl) (hM501 17 rfl) (fun w_ => .inr ⟨wanted_offU 11 73 rfl rfl, rfl⟩) (l9 := (dbits 28 262143)) (by kernel_rfl) ?_
      refine ae_lookF belPre 18 undef rfl rfl (by kernel_rfl) (hM501 18 rfl) (fun w_ => .inr ⟨wanted_offU 11 73 rfl rfl, rfl⟩) (l9 := (dbits 28 524287)) (by kernel_rfl) ?_
      refine ae_lookF belPre 19 undef rfl rfl (by kernel_rfl) (hM501 19 rfl) (fun w_ => .inr ⟨wanted_offU 11 73 rfl rfl, rfl⟩) (l9 := (dbits 28 1048575)) (by kernel_rfl) ?_
      refine ae_lookF belPre 20 undef rfl rfl (by kernel_rfl) (hM501 20 rfl) (fun w_ => .inr ⟨wanted_offU 11 73 rfl rfl, rfl⟩) (l9 := (dbits 28 2097151)) (by kernel_rfl) ?_
      refine ae_lookF belPre 21 undef rfl rfl (by kernel_rfl) (hM501 21 rfl) (fun w_ => .inr ⟨wanted_offU 11 73 rfl rfl, rfl⟩) (l9 := (dbits 28 4194303)) (by kernel_rfl) ?_
      refine ae_lookF belPre 22 undef rfl rfl (by kernel_rfl) (hM501 22 rfl) (fun w_ => .inr ⟨wanted_offU 11 73 rfl rfl, rfl⟩) (l9 := (dbits 28 8388607)) (by kernel_rfl) ?_
      refine ae_lookF belPre 23 undef rfl rfl (by kernel_rfl) (hM501 23 rfl) (fun w_ => .inr ⟨wanted_offU 11 73 rfl rfl, rfl⟩) (l9 := (dbits 28 16777215)) (by kernel_rfl) ?_
      refine ae_tail 24 (by decide) (by decide) (by kernel_rfl) (by kernel_rfl) rfl ?_
      refine guardOffU 11 73 rfl rfl ?_
      refine guardOff (b := true) 5 67 rfl (tr rfl (congrArg _ hb505)) (by decide) ?_
      refine s_pick (v := .bool true) (b := true) (tr rfl (congrArg _ hb505)) rfl ?_
      refine s_as (v := .bool true) rfl ?_
      refine done ?_
      refine qn_norm ?_
      exact ⟨rfl, _, rfl, true, (sk (sx hS_ 0 rfl) (sk (sx hS_ 1 rfl) (sk (sx hS_ 2 rfl) (sk (sx hS_ 3 rfl) (sk (sx hS_ 4 rfl) (sk (sx hS_ 5 rfl) (sk (sx hS_ 6 rfl) (sk (sx hS_ 7 rfl) (sk rfl sn))))))))), hC, h⟩
     ·replace h := iff_ h (cf hb505)
      refine aF 6 (.int .i64 s443.2.1) rfl rfl (hM501 6 rfl) (wanted_on 5 67 rfl rfl hb505) (fun _ => by exact r_mv (v := .int .i64 s443.2.1) (sx hS_ 5 rfl)) (dbits 28 127) ?_
      refine aF 7 (.pointer (some ⟨b7, 0, none⟩)) rfl rfl (hM501 7 rfl) (wanted_on 5 67 rfl rfl hb505) (fun _ => by exact r_faddrB 0 Try.underlying95 rfl sc93.size (sx hS_ 1 rfl) rfl) (dbits 28 255) ?_
      refine aL 8 (u0_0) rfl rfl (hM500 8 rfl) (wanted_on 5 67 rfl rfl hb505) (fun _ hB_ => by exact r_loadS (hC.grow hB_) 4 (u0_0) rfl sc93 rfl rfl) (dbits 28 511) ?_
      obtain ⟨Ad506, c507, hv508⟩ := sl_len (hC.getP 1 rfl)
      refine aL 9 (.int .i64 (a0.terms.length : Int)) rfl rfl (hM500 9 rfl) (wanted_on 5 67 rfl rfl hb505) (fun _ hB_ => by exact r_len Try.underlying93 (by exact tr rfl hv508)) (dbits 28 1023) ?_
      refine aF 10 (.bool (decide (s443.2.1 < (a0.terms.length : Int)))) rfl rfl (hM501 10 rfl) (wanted_on 5 67 rfl rfl hb505) (fun _ => by exact r_lss rfl rfl) (dbits 28 2047) ?_
      refine aF 11 (.bool (decide (s443.2.1 < (a0.terms.length : Int)))) rfl rfl (hM501 11 rfl) (wanted_on 5 67 rfl rfl hb505) (fun _ => by exact r_mv (v := .bool (decide (s443.2.1 < (a0.terms.length : Int)))) rfl) (dbits 28 4095) ?_
      refine bsplit (decide (s443.2.1 < (a0.terms.length : Int))) (fun hb509 => ?_) (fun hb509 => ?_)
      ·replace h := ift h (ct hb509)
       refine aF 12 (.pointer (some ⟨b7, 0, none⟩)) rfl rfl (hM501 12 rfl) (wanted_on 11 73 rfl rfl hb509) (fun _ => by exact r_faddrB 0 Try.underlying95 rfl sc93.size (sx hS_ 1 rfl) rfl) (dbits 28 8191) ?_
       refine aL 13 (u0_0) rfl rfl (hM500 13 rfl) (wanted_on 11 73 rfl rfl hb509) (fun _ hB_ => by exact r_loadS (hC.grow hB_) 4 (u0_0) rfl sc93 rfl rfl) (dbits 28 16383) ?_
       refine aF 14 (.int .i64 s443.2.1) rfl rfl (hM501 14 rfl) (wanted_on 11 73 rfl rfl hb509) (fun _ => by exact r_mv (v := .int .i64 s443.2.1) (sx hS_ 5 rfl)) (dbits 28 32767) ?_
       obtain ⟨⟨h0_510, h1_511⟩, h⟩ := h
       obtain ⟨Ad512, c513, hv514⟩ := sl_form (hC.getP 1 rfl) s443.2.1.toNat (show s443.2.1.toNat < a0.terms.length by omega)
       refine aL 15 (.pointer (some (Ad512.add (s443.2.1.toNat * 9)))) rfl rfl (hM500 15 rfl) (wanted_on 11 73 rfl rfl hb509) (fun _ hB_ => by exact r_iaddrS (len := a0.terms.length) Try.underlying93 ag114.size (by exact tr rfl hv514) rfl h0_510 h1_511) (dbits 28 65535) ?_
       refine aF 16 (.pointer (some (Ad512.add (s443.2.1.toNat * 9 + 0)))) rfl rfl (hM501 16 rfl) (wanted_on 11 73 rfl rfl hb509) (fun _ => by exact r_faddrS (s443.2.1.toNat * 9 + 0) Try.underlying114 rfl ag49.size rfl rfl) (dbits 28 131071) ?_
       refine aL 17 (.agg (List.toArray (A8.enc .u8 ((a0.terms.getD s443.2.1.toNat default).mono)))) rfl rfl (hM500 17 rfl) (wanted_on 11 73 rfl rfl hb509) (fun _ hB_ => by exact r_loadCA (A8.enc .u8 ((a0.terms.getD s443.2.1.toNat default).mono)) (cells_subS (o := 0) (k := 8) (sl_cellsE ((hC.grow hB_).getP 1 rfl) hv514 s443.2.1.toNat (show s443.2.1.toNat < a0.terms.length by omega)) rfl) ag49 rfl rfl) (dbits 28 262143) ?_
       refine aF 18 (.pointer (some ⟨b10, 0, none⟩)) rfl rfl (hM501 18 rfl) (wanted_on 11 73 rfl rfl hb509) (fun _ => by exact r_faddrB 0 Try.underlying95 rfl sc93.size (sx hS_ 2 rfl) rfl) (dbits 28 524287) ?_
       refine aL 19 (u1_0) rfl rfl (hM500 19 rfl) (wanted_on 11 73 rfl rfl hb509) (fun _ hB_ => by exact r_loadS (hC.grow hB_) 3 (u1_0) rfl sc93 rfl rfl) (dbits 28 1048575) ?_
       refine aF 20 (.int .i64 s443.2.2) rfl rfl (hM501 20 rfl) (wanted_on 11 73 rfl rfl hb509) (fun _ => by exact r_mv (v := .int .i64 s443.2.2) (sx hS_ 6 rfl)) (dbits 28 2097151) ?_
       obtain ⟨⟨h0_515, h1_516⟩, h⟩ := h
       obtain ⟨Ad517, c518, hv519⟩ := sl_form (hC.getP 0 rfl) s443.2.2.toNat (show s443.2.2.toNat < a1.terms.length by omega)
       refine aL 21 (.pointer (some (Ad517.add (s443.2.2.toNat * 9)))) rfl rfl (hM500 21 rfl) (wanted_on 11 73 rfl rfl hb509) (fun _ hB_ => by exact r_iaddrS (len := a1.terms.length) Try.underlying93 ag114.size (by exact tr rfl hv519) rfl h0_515 h1_516) (dbits 28 4194303) ?_
       refine aF 22 (.pointer (some (Ad517.add (s443.2.2.toNat * 9 + 0)))) rfl rfl (hM501 22 rfl) (wanted_on 11 73 rfl rfl hb509) (fun _ => by exact r_faddrS (s443.2.2.toNat * 9 + 0) Try.underlying114 rfl ag49.size rfl rfl) (dbits 28 8388607) ?_
       refine aL 23 (.agg (List.toArray (A8.enc .u8 ((a1.terms.getD s443.2.2.toNat default).mono)))) rfl rfl (hM500 23 rfl) (wanted_on 11 73 rfl rfl hb509) (fun _ hB_ => by exact r_loadCA (A8.enc .u8 ((a1.terms.getD s443.2.2.toNat default).mono)) (cells_subS (o := 0) (k := 8) (sl_cellsE ((hC.grow hB_).getP 0 rfl) hv519 s443.2.2.toNat (show s443.2.2.toNat < a1.terms.length by omega)) rfl) ag49 rfl rfl) (dbits 28 16777215) ?_
       refine ae_tail 24 (by decide) (by decide) (by kernel_rfl) (by kernel_rfl) rfl ?_
       refine guardOn 11 73 rfl rfl hb509 ?_
       refine s_call [.agg (List.toArray (A8.enc .u8 ((a0.terms.getD s443.2.1.toNat default).mono))), .agg (List.toArray (A8.enc .u8 ((a1.terms.getD s443.2.2.toNat default).mono)))] _ Try.func121 rfl rfl rfl (c_spec_l01Before ((a0.terms.getD s443.2.1.toNat default).mono) ((a1.terms.getD s443.2.2.toNat default).mono) h _) (fun ret520 w522 hR521 => ?_)
       obtain ⟨r523, rfl, h, hB524⟩ := hR521
       refine ⟨_, rfl, ?_⟩
       replace hC := hC.grow hB524
       refine guardOn 5 67 rfl rfl hb505 ?_
       refine s_pick (v := .bool r523) (b := true) (tr rfl (congrArg _ hb509)) rfl ?_
       refine s_pick (v := .bool r523) (b := false) (tr rfl (congrArg _ hb505)) rfl ?_
       refine s_as (v := .bool r523) rfl ?_
       refine done ?_
       refine qn_norm ?_
       exact ⟨rfl, _, rfl, r523, (sk (sx hS_ 0 rfl) (sk (sx hS_ 1 rfl) (sk (sx hS_ 2 rfl) (sk (sx hS_ 3 rfl) (sk (sx hS_ 4 rfl) (sk (sx hS_ 5 rfl) (sk (sx hS_ 6 rfl) (sk (sx hS_ 7 rfl) (sk rfl sn))))))))), hC, h⟩
      ·replace h := iff_ h (cf hb509)
       refine ae_lookF belPre 12 undef rfl rfl (by kernel_rfl) (hM501 12 rfl) (fun w_ => .inr ⟨wanted_off (b := false) 11 73 rfl (tr rfl (congrArg _ hb509)) (by decide), rfl⟩) (l9 := (dbits 28 8191)) (by kernel_rfl) ?_
       refine ae_lookF belPre 13 undef rfl rfl (by kernel_rfl) (hM501 13 rfl) (fun w_ => .inr ⟨wanted_off (b := false) 11 73 rfl (tr rfl (congrArg _ hb509)) (by decide), rfl⟩) (l9 := (dbits 28 16383)) (by kernel_rfl) ?_
       refine ae_lookF belPre 14 undef rfl rfl (by kernel_rfl) (hM501 14 rfl) (fun w_ => .inr ⟨wanted_off (b := false) 11 73 rfl (tr rfl (congrArg _ hb509)) (by decide), rfl⟩) (l9 := (dbits 28 32767)) (by kernel_rfl) ?_
       refine ae_lookF belPre 15 undef rfl rfl (by kernel_rfl) (hM501 15 rfl) (fun w_ => .inr ⟨wanted_off (b := false) 11 73 rfl (tr rfl (congrArg _ hb509)) (by decide), rfl⟩) (l9 := (dbits 28 65535)) (by kernel_rfl) ?_
       refine ae_lookF belPre 16 undef rfl rfl (by kernel_rfl) (hM501 16 rfl) (fun w_ => .inr ⟨wanted_off (b := false) 11 73 rfl (tr rfl (congrArg _ hb509)) (by decide), rfl⟩) (l9 := (dbits 28 131071)) (by kernel_rfl) ?_
       refine ae_lookF belPre 17 undef rfl rfl (by kernel_rfl) (hM501 17 rfl) (fun w_ => .inr ⟨wanted_off (b := false) 11 73 rfl (tr rfl (congrArg _ hb509)) (by decide), rfl⟩) (l9 := (dbits 28 262143)) (by kernel_rfl) ?_
       refine ae_lookF belPre 18 undef rfl rfl (by kernel_rfl) (hM501 18 rfl) (fun w_ => .inr ⟨wanted_off (b := false) 11 73 rfl (tr rfl (congrArg _ hb509)) (by decide), rfl⟩) (l9 := (dbits 28 524287)) (by kernel_rfl) ?_
       refine ae_lookF belPre 19 undef rfl rfl (by kernel_rfl) (hM501 19 rfl) (fun w_ => .inr ⟨wanted_off (b := false) 11 73 rfl (tr rfl (congrArg _ hb509)) (by decide), rfl⟩) (l9 := (dbits 28 1048575)) (by kernel_rfl) ?_
       refine ae_lookF belPre 20 undef rfl rfl (by kernel_rfl) (hM501 20 rfl) (fun w_ => .inr ⟨wanted_off (b := false) 11 73 rfl (tr rfl (congrArg _ hb509)) (by decide), rfl⟩) (l9 := (dbits 28 2097151)) (by kernel_rfl) ?_
       refine ae_lookF belPre 21 undef rfl rfl (by kernel_rfl) (hM501 21 rfl) (fun w_ => .inr ⟨wanted_off (b := false) 11 73 rfl (tr rfl (congrArg _ hb509)) (by decide), rfl⟩) (l9 := (dbits 28 4194303)) (by kernel_rfl) ?_
       refine ae_lookF belPre 22 undef rfl rfl (by kernel_rfl) (hM501 22 rfl) (fun w_ => .inr ⟨wanted_off (b := false) 11 73 rfl (tr rfl (congrArg _ hb509)) (by decide), rfl⟩) (l9 := (dbits 28 8388607)) (by kernel_rfl) ?_
       refine ae_lookF belPre 23 undef rfl rfl (by kernel_rfl) (hM501 23 rfl) (fun w_ => .inr ⟨wanted_off (b := false) 11 73 rfl (tr rfl (congrArg _ hb509)) (by decide), rfl⟩) (l9 := (dbits 28 16777215)) (by kernel_rfl) ?_
       refine ae_tail 24 (by decide) (by decide) (by kernel_rfl) (by kernel_rfl) rfl ?_
       refine guardOff (b := false) 11 73 rfl (tr rfl (congrArg _ hb509)) (by decide) ?_
       refine guardOn 5 67 rfl rfl hb505 ?_
       refine s_pick (v := .bool false) (b := false) (tr rfl (congrArg _ hb509)) rfl ?_
       refine s_pick (v := .bool false) (b := false) (tr rfl (congrArg _ hb505)) rfl ?_
       refine s_as (v := .bool false) rfl ?_
       refine done ?_
       refine qn_norm ?_
       exact ⟨rfl, _, rfl, false, (sk (sx hS_ 0 rfl) (sk (sx hS_ 1 rfl) (sk (sx hS_ 2 rfl) (sk (sx hS_ 3 rfl) (sk (sx hS_ 4 rfl) (sk (sx hS_ 5 rfl) (sk (sx hS_ 6 rfl) (sk (sx hS_ 7 rfl) (sk rfl sn))))))))), hC, h⟩
    ·clear hC h
     rintro e_ w525 ⟨x495, hS_, hC, h⟩
     replace h := hj498 _ h
     refine then_norm ?_
     refine cw_cond (sx hS_ 8 rfl) (fun hb526 => ?_) (fun hb526 => ?_)
     ·replace h := ift h (hb526)
      refine wp_seq ?_
      refine cw_draw 8 mixed [0, 1, 0, 4, 0, 28, 60, 124, 255, 511, 1023] [1, 3, 5, 6] [0, 2, 4] (by kernel_rfl) (by kernel_rfl) (by kernel_rfl) (fun hM528 hM529 w527 hB_ => ?_)
      replace hC := hC.grow hB_
      refine aF 0 (.pointer (some ⟨b16, 0, none⟩)) rfl rfl (hM529 0 rfl) (rfl) (fun _ => by exact r_faddrB 0 Try.underlying95 rfl sc93.size (sx hS_ 4 rfl) rfl) (dbits 11 1) ?_
      refine aL 1 (v444) rfl rfl (hM528 1 rfl) (rfl) (fun _ hB_ => by exact r_loadS (hC.grow hB_) 1 (v444) rfl sc93 rfl rfl) (dbits 11 3) ?_
      refine aF 2 (.pointer (some ⟨b7, 0, none⟩)) rfl rfl (hM529 2 rfl) (rfl) (fun _ => by exact r_faddrB 0 Try.underlying95 rfl sc93.size (sx hS_ 1 rfl) rfl) (dbits 11 7) ?_
      refine aL 3 (u0_0) rfl rfl (hM528 3 rfl) (rfl) (fun _ hB_ => by exact r_loadS (hC.grow hB_) 4 (u0_0) rfl sc93 rfl rfl) (dbits 11 15) ?_
      refine aF 4 (.int .i64 s443.2.1) rfl rfl (hM529 4 rfl) (rfl) (fun _ => by exact r_mv (v := .int .i64 s443.2.1) (sx hS_ 5 rfl)) (dbits 11 31) ?_
      obtain ⟨⟨h0_530, h1_531⟩, h⟩ := h
      obtain ⟨Ad532, c533, hv534⟩ := sl_form (hC.getP 1 rfl) s443.2.1.toNat (show s443.2.1.toNat < a0.terms.length by omega)
      refine aL 5 (.pointer (some (Ad532.add (s443.2.1.toNat * 9)))) rfl rfl (hM528 5 rfl) (rfl) (fun _ hB_ => by exact r_iaddrS (len := a0.terms.length) Try.underlying93 ag114.size (by exact tr rfl hv534) rfl h0_530 h1_531) (dbits 11 63) ?_
      refine aL 6 (.agg (List.toArray (Term.enc (a0.terms.getD s443.2.1.toNat default)))) rfl rfl (hM528 6 rfl) (rfl) (fun _ hB_ => by exact r_loadCA (Term.enc (a0.terms.getD s443.2.1.toNat default)) (sl_cellsE ((hC.grow hB_).getP 1 rfl) hv534 s443.2.1.toNat (show s443.2.1.toNat < a0.terms.length by omega)) ag114 rfl rfl) (dbits 11 127) ?_
      refine aO 7 rfl ?_
      refine s_bslice (sz := 9) hC [(0, .agg (List.toArray (Term.enc (a0.terms.getD s443.2.1.toNat default))))] (ETerm.encs [a0.terms.getD s443.2.1.toNat default]) rfl (fun _ => bs93_1 (a0.terms.getD s443.2.1.toNat default) _) rfl (by decide) fun b535 w536 hB_ hC => ?_
      refine done ?_
      refine aK (by assumption) (dbits 11 255) ?_
      refine ae_tail 8 (by decide) (by decide) (by kernel_rfl) (by kernel_rfl) rfl ?_
      obtain ⟨hm540, h⟩ := h
      refine s_app hC 1 Try.underlying93 el114 rfl (by decide) (by decide) rfl (own_rdr (hC.getM 0 rfl)) (fun q hq => Enc.encs_one' (E := ETerm) _ q hq) rfl rfl hm540 fun v538 w539 hC => ?_
      replace hC := own_re hC 1 ((s443.1 ++ [a0.terms.getD s443.2.1.toNat default]).length) (ETerm.encs (s443.1 ++ [a0.terms.getD s443.2.1.toNat default])) rfl (by simp) (by first | (simp [Enc.encs_append]; done) | simp [Enc.encs_append, Enc.encs])
      refine s_faddrB 0 Try.underlying95 rfl sc93.size (sx hS_ 4 rfl) rfl ?_
      refine s_store (v := v538) hC 2 [v538] [v538] rfl sc93.size rfl rfl (own_cellsV (hC.getM 1 rfl)) rfl (all_c (own_oneC (hC.getM 1 rfl)) rfl) (Nat.le_of_ble_eq_true rfl) rfl fun w541 hC => ?_
      refine done ?_
      refine qn_norm ?_
      refine then_norm ?_
      refine cw_region ?_
      refine s_mv (v := .int .i64 s443.2.1) (sx hS_ 5 rfl) ?_
      refine s_add rfl rfl ?_
      refine s_as (v := .int .i64 (IntKind.i64.wrap (s443.2.1 + 1))) rfl ?_
      refine done ?_
      refine blk_norm ?_
      refine blk_norm ?_
      replace hC := hC.sM [1, 2, 3, 4, 5] (M' := [own 114 9 v538 ((s443.1 ++ [a0.terms.getD s443.2.1.toNat default]).length) (ETerm.encs (s443.1 ++ [a0.terms.getD s443.2.1.toNat default])), blk b16 95 [v538], blk b13 95 [.slice none 0 0], blk b10 95 [u1_0], blk b7 95 [u0_0]]) (by decide) rfl
      exact hK448 (s443.1 ++ [a0.terms.getD s443.2.1.toNat default], IntKind.i64.wrap (s443.2.1 + 1), s443.2.2) _ _ ⟨v538, (sk (sx hS_ 0 rfl) (sk (sx hS_ 1 rfl) (sk (sx hS_ 2 rfl) (sk (sx hS_ 3 rfl) (sk (sx hS_ 4 rfl) (sk rfl (sk (sx hS_ 6 rfl) sn))))))), hC⟩ h
     ·replace h := iff_ h (ne_t hb526)
      refine wp_seq ?_
      obtain ⟨jn566, hj567, h⟩ := joinP_elim h
      refine reg_join (fun e_ w_ => ∃ (x564 : Bool), Slots e_ [(2, .int .i64 a2), (3, .pointer (some ⟨b7, 0, none⟩)), (4, .pointer (some ⟨b10, 0, none⟩)), (6, .pointer (some ⟨b13, 0, none⟩)), (7, .pointer (some ⟨b16, 0, none⟩)), (8, .int .i64 s443.2.1), (9, .int .i64 s443.2.2), (24, .bool x457), (61, .bool x495), (101, .bool x564)] ∧ Ctx Nox w0 w_ [own 114 9 v444 s443.1.length (ETerm.encs s443.1), blk b16 95 [v444], blk b13 95 [.slice none 0 0], blk b10 95 [u1_0], blk b7 95 [u0_0]] [Ty.item ETerm.ty.sl a1.terms [u1_0] fp1, Ty.item ETerm.ty.sl a0.terms [u0_0] fp0, Ty.item TForm a0 [u0_0] fp0, Ty.item TForm a1 [u1_0] fp1] ∧ jn566 x564) ?_ ?_
      ·skip
       refine cw_draw 18 mixed [0, 0, 2, 6, 15, 31, 63, 127, 63, 511, 1023, 2047, 63, 4159, 63, 28735, 61503, 127039, 262143, 524287, 1048575] [2, 3, 7, 9, 11, 13, 15, 17] [0, 1, 4, 5, 6, 7, 8, 9, 10, 11, 12, 13, 14, 15, 16, 17] (by kernel_rfl) (by kernel_rfl) (by kernel_rfl) (fun hM569 hM570 w568 hB_ => ?_)
       replace hC := hC.grow hB_
       refine aF 0 (.int .i64 s443.2.1) rfl rfl (hM570 0 rfl) (rfl) (fun _ => by exact r_mv (v := .int .i64 s443.2.1) (sx hS_ 5 rfl)) (dbits 21 1) ?_
       refine aF 1 (.pointer (some ⟨b7, 0, none⟩)) rfl rfl (hM570 1 rfl) (rfl) (fun _ => by exact r_faddrB 0 Try.underlying95 rfl sc93.size (sx hS_ 1 rfl) rfl) (dbits 21 3) ?_
       refine aL 2 (u0_0) rfl rfl (hM569 2 rfl) (rfl) (fun _ hB_ => by exact r_loadS (hC.grow hB_) 4 (u0_0) rfl sc93 rfl rfl) (dbits 21 7) ?_
       obtain ⟨Ad571, c572, hv573⟩ := sl_len (hC.getP 1 rfl)
       refine aL 3 (.int .i64 (a0.terms.length : Int)) rfl rfl (hM569 3 rfl) (rfl) (fun _ hB_ => by exact r_len Try.underlying93 (by exact tr rfl hv573)) (dbits 21 15) ?_
       refine aF 4 (.bool (decide (s443.2.1 = (a0.terms.length : Int)))) rfl rfl (hM570 4 rfl) (rfl) (fun _ => by exact r_eql rfl rfl) (dbits 21 31) ?_
       refine aF 5 (.bool (decide (s443.2.1 = (a0.terms.length : Int)))) rfl rfl (hM570 5 rfl) (rfl) (fun _ => by exact r_mv (v := .bool (decide (s443.2.1 = (a0.terms.length : Int)))) rfl) (dbits 21 63) ?_
       refine bsplit (decide (s443.2.1 = (a0.terms.length : Int))) (fun hb574 => ?_) (fun hb574 => ?_)
       ·replace h := ift h (ct hb574)
        refine ae_lookF belPre 6 undef rfl rfl (by kernel_rfl) (hM570 6 rfl) (fun w_ => .inr ⟨wanted_off (b := true) 5 107 rfl (tr rfl (congrArg _ hb574)) (by decide), rfl⟩) (l9 := (dbits 21 127)) (by kernel_rfl) ?_
        refine ae_lookF belPre 7 undef rfl rfl (by kernel_rfl) (hM570 7 rfl) (fun w_ => .inr ⟨wanted_off (b := true) 5 107 rfl (tr rfl (congrArg _ hb574)) (by decide), rfl⟩) (l9 := (dbits 21 255)) (by kernel_rfl) ?_
        refine ae_lookF belPre 8 undef rfl rfl (by kernel_rfl) (hM570 8 rfl) (fun w_ => .inr ⟨wanted_off (b := true) 5 107 rfl (tr rfl (congrArg _ hb574)) (by decide), rfl⟩) (l9 := (dbits 21 511)) (by kernel_rfl) ?_
        refine ae_lookF belPre 9 undef rfl rfl (by kernel_rfl) (hM570 9 rfl) (fun w_ => .inr ⟨wanted_off (b := true) 5 107 rfl (tr rfl (congrArg _ hb574)) (by decide), rfl⟩) (l9 := (dbits 21 1023)) (by kernel_rfl) ?_
        refine ae_lookF belPre 10 undef rfl rfl (by kernel_rfl) (hM570 10 rfl) (fun w_ => .inr ⟨wanted_off (b := true) 5 107 rfl (tr rfl (congrArg _ hb574)) (by decide), rfl⟩) (l9 := (dbits 21 2047)) (by kernel_rfl) ?_
        refine ae_lookF belPre 11 undef rfl rfl (by kernel_rfl) (hM570 11 rfl) (fun w_ => .inr ⟨wanted_off (b := true) 5 107 rfl (tr rfl (congrArg _ hb574)) (by decide), rfl⟩) (l9 := (dbits 21 4095)) (by kernel_rfl) ?_
        refine ae_lookF belPre 12 undef rfl rfl (by kernel_rfl) (hM570 12 rfl) (fun w_ => .inr ⟨wanted_off (b := true) 5 107 rfl (tr rfl (congrArg _ hb574)) (by decide), rfl⟩) (l9 := (dbits 21 8191)) (by kernel_rfl) ?_
        refine ae_lookF belPre 13 undef rfl rfl (by kernel_rfl) (hM570 13 rfl) (fun w_ => .inr ⟨wanted_off (b := true) 5 107 rfl (tr rfl (congrArg _ hb574)) (by decide), rfl⟩) (l9 := (dbits 21 16383)) (by kernel_rfl) ?_
        refine ae_lookF belPre 14 undef rfl rfl (by kernel_rfl) (hM570 14 rfl) (fun w_ => .inr ⟨wanted_off (b := true) 5 107 rfl (tr rfl (congrArg _ hb574)) (by decide), rfl⟩) (l9 := (dbits 21 32767)) (by kernel_rfl) ?_
        refine ae_lookF belPre 15 undef rfl rfl (by kernel_rfl) (hM570 15 rfl) (fun w_ => .inr ⟨wanted_off (b := true) 5 107 rfl (tr rfl (congrArg _ hb574)) (by decide), rfl⟩) (l9 := (dbits 21 65535)) (by kernel_rfl) ?_
        refine ae_lookF belPre 16 undef rfl rfl (by kernel_rfl) (hM570 16 rfl) (fun w_ => .inr ⟨wanted_off (b := true) 5 107 rfl (tr rfl (congrArg _ hb574)) (by decide), rfl⟩) (l9 := (dbits 21 131071)) (by kernel_rfl) ?_
        refine ae_lookF belPre 17 undef rfl rfl (by kernel_rfl) (hM570 17 rfl) (fun w_ => .inr ⟨wanted_off (b := true) 5 107 rfl (tr rfl (congrArg _ hb574)) (by decide), rfl⟩) (l9 := (dbits 21 262143)) (by kernel_rfl) ?_
        refine ae_tail 18 (by decide) (by decide) (by kernel_rfl) (by kernel_rfl) rfl ?_
        refine guardOff (b := true) 5 107 rfl (tr rfl (congrArg _ hb574)) (by decide) ?_
        refine s_pick (v := .bool true) (b := true) (tr rfl (congrArg _ hb574)) rfl ?_
        refine s_as (v := .bool true) rfl ?_
        refine done ?_
        refine qn_norm ?_
        exact ⟨rfl, _, rfl, true, (sk (sx hS_ 0 rfl) (sk (sx hS_ 1 rfl) (sk (sx hS_ 2 rfl) (sk (sx hS_ 3 rfl) (sk (sx hS_ 4 rfl) (sk (sx hS_ 5 rfl) (sk (sx hS_ 6 rfl) (sk (sx hS_ 7 rfl) (sk (sx hS_ 8 rfl) (sk rfl sn)))))))))), hC, h⟩
       ·replace h := iff_ h (cf hb574)
        refine aF 6 (.pointer (some ⟨b10, 0, none⟩)) rfl rfl (hM570 6 rfl) (wanted_on 5 107 rfl rfl hb574) (fun _ => by exact r_faddrB 0 Try.underlying95 rfl sc93.size (sx hS_ 2 rfl) rfl) (dbits 21 127) ?_
        refine aL 7 (u1_0) rfl rfl (hM569 7 rfl) (wanted_on 5 107 rfl rfl hb574) (fun _ hB_ => by exact r_loadS (hC.grow hB_) 3 (u1_0) rfl sc93 rfl rfl) (dbits 21 255) ?_
        refine aF 8 (.int .i64 s443.2.2) rfl rfl (hM570 8 rfl) (wanted_on 5 107 rfl rfl hb574) (fun _ => by exact r_mv (v := .int .i64 s443.2.2) (sx hS_ 6 rfl)) (dbits 21 511) ?_
        obtain ⟨⟨h0_575, h1_576⟩, h⟩ := h
        obtain ⟨Ad577, c578, hv579⟩ := sl_form (hC.getP 0 rfl) s443.2.2.toNat (show s443.2.2.toNat < a1.terms.length by omega)
        refine aL 9 (.pointer (some (Ad577.add (s443.2.2.toNat * 9)))) rfl rfl (hM569 9 rfl) (wanted_on 5 107 rfl rfl hb574) (fun _ hB_ => by exact r_iaddrS (len := a1.terms.length) Try.underlying93 ag114.size (by exact tr rfl hv579) rfl h0_575 h1_576) (dbits 21 1023) ?_
        refine aF 10 (.pointer (some (Ad577.add (s443.2.2.toNat * 9 + 0)))) rfl rfl (hM570 10 rfl) (wanted_on 5 107 rfl rfl hb574) (fun _ => by exact r_faddrS (s443.2.2.toNat * 9 + 0) Try.underlying114 rfl ag49.size rfl rfl) (dbits 21 2047) ?_
        refine aL 11 (.agg (List.toArray (A8.enc .u8 ((a1.terms.getD s443.2.2.toNat default).mono)))) rfl rfl (hM569 11 rfl) (wanted_on 5 107 rfl rfl hb574) (fun _ hB_ => by exact r_loadCA (A8.enc .u8 ((a1.terms.getD s443.2.2.toNat default).mono)) (cells_subS (o := 0) (k := 8) (sl_cellsE ((hC.grow hB_).getP 0 rfl) hv579 s443.2.2.toNat (show s443.2.2.toNat < a1.terms.length by omega)) rfl) ag49 rfl rfl) (dbits 21 4095) ?_
        refine aF 12 (.pointer (some ⟨b7, 0, none⟩)) rfl rfl (hM570 12 rfl) (wanted_on 5 107 rfl rfl hb574) (fun _ => by exact r_faddrB 0 Try.underlying95 rfl sc93.size (sx hS_ 1 rfl) rfl) (dbits 21 8191) ?_
        refine aL 13 (u0_0) rfl rfl (hM569 13 rfl) (wanted_on 5 107 rfl rfl hb574) (fun _ hB_ => by exact r_loadS (hC.grow hB_) 4 (u0_0) rfl sc93 rfl rfl) (dbits 21 16383) ?_
        refine aF 14 (.int .i64 s443.2.1) rfl rfl (hM570 14 rfl) (wanted_on 5 107 rfl rfl hb574) (fun _ => by exact r_mv (v := .int .i64 s443.2.1) (sx hS_ 5 rfl)) (dbits 21 32767) ?_
        obtain ⟨⟨h0_580, h1_581⟩, h⟩ := h
        obtain ⟨Ad582, c583, hv584⟩ := sl_form (hC.getP 1 rfl) s443.2.1.toNat (show s443.2.1.toNat < a0.terms.length by omega)
        refine aL 15 (.pointer (some (Ad582.add (s443.2.1.toNat * 9)))) rfl rfl (hM569 15 rfl) (wanted_on 5 107 rfl rfl hb574) (fun _ hB_ => by exact r_iaddrS (len := a0.terms.length) Try.underlying93 ag114.size (by exact tr rfl hv584) rfl h0_580 h1_581) (dbits 21 65535) ?_
        refine aF 16 (.pointer (some (Ad582.add (s443.2.1.toNat * 9 + 0)))) rfl rfl (hM570 16 rfl) (wanted_on 5 107 rfl rfl hb574) (fun _ => by exact r_faddrS (s443.2.1.toNat * 9 + 0) Try.underlying114 rfl ag49.size rfl rfl) (dbits 21 131071) ?_
        refine aL 17 (.agg (List.toArray (A8.enc .u8 ((a0.terms.getD s443.2.1.toNat default).mono)))) rfl rfl (hM569 17 rfl) (wanted_on 5 107 rfl rfl hb574) (fun _ hB_ => by exact r_loadCA (A8.enc .u8 ((a0.terms.getD s443.2.1.toNat default).mono)) (cells_subS (o := 0) (k := 8) (sl_cellsE ((hC.grow hB_).getP 1 rfl) hv584 s443.2.1.toNat (show s443.2.1.toNat < a0.terms.length by omega)) rfl) ag49 rfl rfl) (dbits 21 262143) ?_
        refine ae_tail 18 (by decide) (by decide) (by kernel_rfl) (by kernel_rfl) rfl ?_
        refine guardOn 5 107 rfl rfl hb574 ?_
        refine s_call [.agg (List.toArray (A8.enc .u8 ((a1.terms.getD s443.2.2.toNat default).mono))), .agg (List.toArray (A8.enc .u8 ((a0.terms.getD s443.2.1.toNat default).mono)))] _ Try.func121 rfl rfl rfl (c_spec_l01Before ((a1.terms.getD s443.2.2.toNat default).mono) ((a0.terms.getD s443.2.1.toNat default).mono) h _) (fun ret585 w587 hR586 => ?_)
        obtain ⟨r588, rfl, h, hB589⟩ := hR586
        refine ⟨_, rfl, ?_⟩
        replace hC := hC.grow hB589
        refine s_pick (v := .bool r588) (b := false) (tr rfl (congrArg _ hb574)) rfl ?_
        refine s_as (v := .bool r588) rfl ?_
        refine done ?_
        refine qn_norm ?_
        exact ⟨rfl, _, rfl, r588, (sk (sx hS_ 0 rfl) (sk (sx hS_ 1 rfl) (sk (sx hS_ 2 rfl) (sk (sx hS_ 3 rfl) (sk (sx hS_ 4 rfl) (sk (sx hS_ 5 rfl) (sk (sx hS_ 6 rfl) (sk (sx hS_ 7 rfl) (sk (sx hS_ 8 rfl) (sk rfl sn)))))))))), hC, h⟩
      ·clear hC h
       rintro e_ w590 ⟨x564, hS_, hC, h⟩
       replace h := hj567 _ h
       refine then_norm ?_
       refine cw_cond (sx hS_ 9 rfl) (fun hb591 => ?_) (fun hb591 => ?_)
       ·replace h := ift h (hb591)
        refine wp_seq ?_
        refine sr ?_
        refine s_mv (v := .int .i64 a2) (sx hS_ 0 rfl) ?_
        refine s_faddrB 0 Try.underlying95 rfl sc93.size (sx hS_ 2 rfl) rfl ?_
        refine s_loadS hC 3 (u1_0) rfl sc93 rfl rfl ?_
        refine s_mv (v := .int .i64 s443.2.2) (sx hS_ 6 rfl) ?_
        obtain ⟨⟨h0_592, h1_593⟩, h⟩ := h
        obtain ⟨Ad594, c595, hv596⟩ := sl_form (hC.getP 0 rfl) s443.2.2.toNat (show s443.2.2.toNat < a1.terms.length by omega)
        refine s_iaddrS (len := a1.terms.length) Try.underlying93 ag114.size (tr rfl hv596) rfl h0_592 h1_593 ?_
        refine s_faddrS (s443.2.2.toNat * 9 + 8) Try.underlying114 rfl sc2.size rfl rfl ?_
        refine s_loadCS (.int .i64 ((a1.terms.getD s443.2.2.toNat default).factor)) (cells_subS (o := 8) (k := 1) (sl_cellsE (hC.getP 0 rfl) hv596 s443.2.2.toNat (show s443.2.2.toNat < a1.terms.length by omega)) rfl) sc2 rfl ?_
        refine s_mul rfl rfl ?_
        refine s_call [.int .i64 (IntKind.i64.wrap (a2 * ((a1.terms.getD s443.2.2.toNat default).factor)))] _ Try.func122 rfl rfl rfl (c_spec_l01Mod (IntKind.i64.wrap (a2 * ((a1.terms.getD s443.2.2.toNat default).factor))) h _) (fun ret597 w599 hR598 => ?_)
        obtain ⟨r600, rfl, h, hB601⟩ := hR598
        refine ⟨_, rfl, ?_⟩
        replace hC := hC.grow hB601
        refine s_as (v := .int .i64 r600) rfl ?_
        refine dn ?_
        refine sr ?_
        refine s_mv (v := .int .i64 r600) rfl ?_
        refine s_neq rfl rfl ?_
        refine dn ?_
        refine cw_cond rfl (fun hb602 => ?_) (fun hb602 => ?_)
        ·replace h := ift h (ct hb602)
         refine cw_draw 11 mixed [0, 1, 0, 4, 0, 28, 60, 124, 0, 508, 1020, 2047, 4095, 8191] [1, 3, 5, 7, 9] [0, 2, 4, 6, 8] (by kernel_rfl) (by kernel_rfl) (by kernel_rfl) (fun hM604 hM605 w603 hB_ => ?_)
         replace hC := hC.grow hB_
         refine aF 0 (.pointer (some ⟨b16, 0, none⟩)) rfl rfl (hM605 0 rfl) (rfl) (fun _ => by exact r_faddrB 0 Try.underlying95 rfl sc93.size (sx hS_ 4 rfl) rfl) (dbits 14 1) ?_
         refine aL 1 (v444) rfl rfl (hM604 1 rfl) (rfl) (fun _ hB_ => by exact r_loadS (hC.grow hB_) 1 (v444) rfl sc93 rfl rfl) (dbits 14 3) ?_
         refine aF 2 (.pointer (some ⟨b10, 0, none⟩)) rfl rfl (hM605 2 rfl) (rfl) (fun _ => by exact r_faddrB 0 Try.underlying95 rfl sc93.size (sx hS_ 2 rfl) rfl) (dbits 14 7) ?_
         refine aL 3 (u1_0) rfl rfl (hM604 3 rfl) (rfl) (fun _ hB_ => by exact r_loadS (hC.grow hB_) 3 (u1_0) rfl sc93 rfl rfl) (dbits 14 15) ?_
         refine aF 4 (.int .i64 s443.2.2) rfl rfl (hM605 4 rfl) (rfl) (fun _ => by exact r_mv (v := .int .i64 s443.2.2) (sx hS_ 6 rfl)) (dbits 14 31) ?_
         obtain ⟨⟨h0_606, h1_607⟩, h⟩ := h
         obtain ⟨Ad608, c609, hv610⟩ := sl_form (hC.getP 0 rfl) s443.2.2.toNat (show s443.2.2.toNat < a1.terms.length by omega)
         refine aL 5 (.pointer (some (Ad608.add (s443.2.2.toNat * 9)))) rfl rfl (hM604 5 rfl) (rfl) (fun _ hB_ => by exact r_iaddrS (len := a1.terms.length) Try.underlying93 ag114.size (by exact tr rfl hv610) rfl h0_606 h1_607) (dbits 14 63) ?_
         refine aF 6 (.pointer (some (Ad608.add (s443.2.2.toNat * 9 + 0)))) rfl rfl (hM605 6 rfl) (rfl) (fun _ => by exact r_faddrS (s443.2.2.toNat * 9 + 0) Try.underlying114 rfl ag49.size rfl rfl) (dbits 14 127) ?_
         refine aL 7 (.agg (List.toArray (A8.enc .u8 ((a1.terms.getD s443.2.2.toNat default).mono)))) rfl rfl (hM604 7 rfl) (rfl) (fun _ hB_ => by exact r_loadCA (A8.enc .u8 ((a1.terms.getD s443.2.2.toNat default).mono)) (cells_subS (o := 0) (k := 8) (sl_cellsE ((hC.grow hB_).getP 0 rfl) hv610 s443.2.2.toNat (show s443.2.2.toNat < a1.terms.length by omega)) rfl) ag49 rfl rfl) (dbits 14 255) ?_
         refine aF 8 (.int .i64 r600) rfl rfl (hM605 8 rfl) (rfl) (fun _ => by exact r_mv (v := .int .i64 r600) rfl) (dbits 14 511) ?_
         refine aL 9 (.agg (List.toArray (Term.enc (⟨(a1.terms.getD s443.2.2.toNat default).mono, r600⟩ : Term)))) rfl rfl (hM604 9 rfl) (rfl) (fun _ hB_ => by exact r_build [(0, .agg (List.toArray (A8.enc .u8 ((a1.terms.getD s443.2.2.toNat default).mono)))), (1, .int .i64 r600)] rfl (bl114_0flat_1int ((a1.terms.getD s443.2.2.toNat default).mono) r600  _)) (dbits 14 1023) ?_
         refine aO 10 rfl ?_
         refine s_bslice (sz := 9) hC [(0, .agg (List.toArray (Term.enc (⟨(a1.terms.getD s443.2.2.toNat default).mono, r600⟩ : Term))))] (ETerm.encs [(⟨(a1.terms.getD s443.2.2.toNat default).mono, r600⟩ : Term)]) rfl (fun _ => bs93_1 (⟨(a1.terms.getD s443.2.2.toNat default).mono, r600⟩ : Term) _) rfl (by decide) fun b611 w612 hB_ hC => ?_
         refine done ?_
         refine aK (by assumption) (dbits 14 2047) ?_
         refine ae_tail 11 (by decide) (by decide) (by kernel_rfl) (by kernel_rfl) rfl ?_
         obtain ⟨hm616, h⟩ := h
         refine s_app hC 1 Try.underlying93 el114 rfl (by decide) (by decide) rfl (own_rdr (hC.getM 0 rfl)) (fun q hq => Enc.encs_one' (E := ETerm) _ q hq) rfl rfl hm616 fun v614 w615 hC => ?_
         replace hC := own_re hC 1 ((s443.1 ++ [(⟨(a1.terms.getD s443.2.2.toNat default).mono, r600⟩ : Term)]).length) (ETerm.encs (s443.1 ++ [(⟨(a1.terms.getD s443.2.2.toNat default).mono, r600⟩ : Term)])) rfl (by simp) (by first | (simp [Enc.encs_append]; done) | simp [Enc.encs_append, Enc.encs])
         refine s_faddrB 0 Try.underlying95 rfl sc93.size (sx hS_ 4 rfl) rfl ?_
         refine s_store (v := v614) hC 2 [v614] [v614] rfl sc93.size rfl rfl (own_cellsV (hC.getM 1 rfl)) rfl (all_c (own_oneC (hC.getM 1 rfl)) rfl) (Nat.le_of_ble_eq_true rfl) rfl fun w617 hC => ?_
         refine done ?_
         refine qn_norm ?_
         refine then_norm ?_
         refine cw_region ?_
         refine s_mv (v := .int .i64 s443.2.2) (sx hS_ 6 rfl) ?_
         refine s_add rfl rfl ?_
         refine s_as (v := .int .i64 (IntKind.i64.wrap (s443.2.2 + 1))) rfl ?_
         refine done ?_
         refine blk_norm ?_
         refine blk_norm ?_
         replace hC := hC.sM [1, 2, 3, 4, 5] (M' := [own 114 9 v614 ((s443.1 ++ [(⟨(a1.terms.getD s443.2.2.toNat default).mono, r600⟩ : Term)]).length) (ETerm.encs (s443.1 ++ [(⟨(a1.terms.getD s443.2.2.toNat default).mono, r600⟩ : Term)])), blk b16 95 [v614], blk b13 95 [.slice none 0 0], blk b10 95 [u1_0], blk b7 95 [u0_0]]) (by decide) rfl
         exact hK448 (s443.1 ++ [(⟨(a1.terms.getD s443.2.2.toNat default).mono, r600⟩ : Term)], s443.2.1, IntKind.i64.wrap (s443.2.2 + 1)) _ _ ⟨v614, (sk (sx hS_ 0 rfl) (sk (sx hS_ 1 rfl) (sk (sx hS_ 2 rfl) (sk (sx hS_ 3 rfl) (sk (sx hS_ 4 rfl) (sk (sx hS_ 5 rfl) (sk rfl sn))))))), hC⟩ h
        ·replace h := iff_ h (cf hb602)
         refine wp_skip ?_
         refine then_norm ?_
         refine cw_region ?_
         refine s_mv (v := .int .i64 s443.2.2) (sx hS_ 6 rfl) ?_
         refine s_add rfl rfl ?_
         refine s_as (v := .int .i64 (IntKind.i64.wrap (s443.2.2 + 1))) rfl ?_
         refine done ?_
         refine blk_norm ?_
         refine blk_norm ?_
         exact hK448 (s443.1, s443.2.1, IntKind.i64.wrap (s443.2.2 + 1)) _ _ ⟨v444, (sk (sx hS_ 0 rfl) (sk (sx hS_ 1 rfl) (sk (sx hS_ 2 rfl) (sk (sx hS_ 3 rfl) (sk (sx hS_ 4 rfl) (sk (sx hS_ 5 rfl) (sk rfl sn))))))), hC⟩ h
       ·replace h := iff_ h (ne_t hb591)
        refine wp_seq ?_
        refine wp_seq ?_
        refine cw_draw 15 mixed [0, 1, 0, 7, 15, 31, 0, 0, 128, 0, 896, 1920, 3968, 8128, 16320, 32767, 65535, 131071] [1, 3, 5, 8, 10, 12] [0, 2, 4, 6, 7, 9, 11, 13] (by kernel_rfl) (by kernel_rfl) (by kernel_rfl) (fun hM619 hM620 w618 hB_ => ?_)
        replace hC := hC.grow hB_
        refine aF 0 (.pointer (some ⟨b7, 0, none⟩)) rfl rfl (hM620 0 rfl) (rfl) (fun _ => by exact r_faddrB 0 Try.underlying95 rfl sc93.size (sx hS_ 1 rfl) rfl) (dbits 18 1) ?_
        refine aL 1 (u0_0) rfl rfl (hM619 1 rfl) (rfl) (fun _ hB_ => by exact r_loadS (hC.grow hB_) 4 (u0_0) rfl sc93 rfl rfl) (dbits 18 3) ?_
        refine aF 2 (.int .i64 s443.2.1) rfl rfl (hM620 2 rfl) (rfl) (fun _ => by exact r_mv (v := .int .i64 s443.2.1) (sx hS_ 5 rfl)) (dbits 18 7) ?_
        obtain ⟨⟨h0_621, h1_622⟩, h⟩ := h
        obtain ⟨Ad623, c624, hv625⟩ := sl_form (hC.getP 1 rfl) s443.2.1.toNat (show s443.2.1.toNat < a0.terms.length by omega)
        refine aL 3 (.pointer (some (Ad623.add (s443.2.1.toNat * 9)))) rfl rfl (hM619 3 rfl) (rfl) (fun _ hB_ => by exact r_iaddrS (len := a0.terms.length) Try.underlying93 ag114.size (by exact tr rfl hv625) rfl h0_621 h1_622) (dbits 18 15) ?_
        refine aF 4 (.pointer (some (Ad623.add (s443.2.1.toNat * 9 + 8)))) rfl rfl (hM620 4 rfl) (rfl) (fun _ => by exact r_faddrS (s443.2.1.toNat * 9 + 8) Try.underlying114 rfl sc2.size rfl rfl) (dbits 18 31) ?_
        refine aL 5 (.int .i64 ((a0.terms.getD s443.2.1.toNat default).factor)) rfl rfl (hM619 5 rfl) (rfl) (fun _ hB_ => by exact r_loadCS (.int .i64 ((a0.terms.getD s443.2.1.toNat default).factor)) (cells_subS (o := 8) (k := 1) (sl_cellsE ((hC.grow hB_).getP 1 rfl) hv625 s443.2.1.toNat (show s443.2.1.toNat < a0.terms.length by omega)) rfl) sc2 rfl) (dbits 18 63) ?_
        refine aF 6 (.int .i64 a2) rfl rfl (hM620 6 rfl) (rfl) (fun _ => by exact r_mv (v := .int .i64 a2) (sx hS_ 0 rfl)) (dbits 18 127) ?_
        refine aF 7 (.pointer (some ⟨b10, 0, none⟩)) rfl rfl (hM620 7 rfl) (rfl) (fun _ => by exact r_faddrB 0 Try.underlying95 rfl sc93.size (sx hS_ 2 rfl) rfl) (dbits 18 255) ?_
        refine aL 8 (u1_0) rfl rfl (hM619 8 rfl) (rfl) (fun _ hB_ => by exact r_loadS (hC.grow hB_) 3 (u1_0) rfl sc93 rfl rfl) (dbits 18 511) ?_
        refine aF 9 (.int .i64 s443.2.2) rfl rfl (hM620 9 rfl) (rfl) (fun _ => by exact r_mv (v := .int .i64 s443.2.2) (sx hS_ 6 rfl)) (dbits 18 1023) ?_
        obtain ⟨⟨h0_626, h1_627⟩, h⟩ := h
        obtain ⟨Ad628, c629, hv630⟩ := sl_form (hC.getP 0 rfl) s443.2.2.toNat (show s443.2.2.toNat < a1.terms.length by omega)
        refine aL 10 (.pointer (some (Ad628.add (s443.2.2.toNat * 9)))) rfl rfl (hM619 10 rfl) (rfl) (fun _ hB_ => by exact r_iaddrS (len := a1.terms.length) Try.underlying93 ag114.size (by exact tr rfl hv630) rfl h0_626 h1_627) (dbits 18 2047) ?_
        refine aF 11 (.pointer (some (Ad628.add (s443.2.2.toNat * 9 + 8)))) rfl rfl (hM620 11 rfl) (rfl) (fun _ => by exact r_faddrS (s443.2.2.toNat * 9 + 8) Try.underlying114 rfl sc2.size rfl rfl) (dbits 18 4095) ?_
        refine aL 12 (.int .i64 ((a1.terms.getD s443.2.2.toNat default).factor)) rfl rfl (hM619 12 rfl) (rfl) (fun _ hB_ => by exact r_loadCS (.int .i64 ((a1.terms.getD s443.2.2.toNat default).factor)) (cells_subS (o := 8) (k := 1) (sl_cellsE ((hC.grow hB_).getP 0 rfl) hv630 s443.2.2.toNat (show s443.2.2.toNat < a1.terms.length by omega)) rfl) sc2 rfl) (dbits 18 8191) ?_
        refine aF 13 (.int .i64 (IntKind.i64.wrap (a2 * ((a1.terms.getD s443.2.2.toNat default).factor)))) rfl rfl (hM620 13 rfl) (rfl) (fun _ => by exact r_mul rfl rfl) (dbits 18 16383) ?_
        refine aO 14 rfl ?_
        refine s_call [.int .i64 (IntKind.i64.wrap (a2 * ((a1.terms.getD s443.2.2.toNat default).factor)))] _ Try.func122 rfl rfl rfl (c_spec_l01Mod (IntKind.i64.wrap (a2 * ((a1.terms.getD s443.2.2.toNat default).factor))) h _) (fun ret631 w633 hR632 => ?_)
        obtain ⟨r634, rfl, h, hB635⟩ := hR632
        refine ⟨_, rfl, ?_⟩
        replace hC := hC.grow hB635
        refine done ?_
        refine aK (by assumption) (dbits 18 32767) ?_
        refine ae_tail 15 (by decide) (by decide) (by kernel_rfl) (by kernel_rfl) rfl ?_
        refine s_add rfl rfl ?_
        refine s_call [.int .i64 (IntKind.i64.wrap (((a0.terms.getD s443.2.1.toNat default).factor) + r634))] _ Try.func122 rfl rfl rfl (c_spec_l01Mod (IntKind.i64.wrap (((a0.terms.getD s443.2.1.toNat default).factor) + r634)) h _) (fun ret636 w638 hR637 => ?_)
        obtain ⟨r639, rfl, h, hB640⟩ := hR637
        refine ⟨_, rfl, ?_⟩
        replace hC := hC.grow hB640
        refine s_as (v := .int .i64 r639) rfl ?_
        refine done ?_
        refine qn_norm ?_
        refine then_norm ?_
        refine sr ?_
        refine s_mv (v := .int .i64 r639) rfl ?_
        refine s_neq rfl rfl ?_
        refine dn ?_
        refine cw_cond rfl (fun hb641 => ?_) (fun hb641 => ?_)
        ·replace h := ift h (ct hb641)
         refine cw_draw 11 mixed [0, 1, 0, 4, 0, 28, 60, 124, 0, 508, 1020, 2047, 4095, 8191] [1, 3, 5, 7, 9] [0, 2, 4, 6, 8] (by kernel_rfl) (by kernel_rfl) (by kernel_rfl) (fun hM643 hM644 w642 hB_ => ?_)
         replace hC := hC.grow hB_
         refine aF 0 (.pointer (some ⟨b16, 0, none⟩)) rfl rfl (hM644 0 rfl) (rfl) (fun _ => by exact r_faddrB 0 Try.underlying95 rfl sc93.size (sx hS_ 4 rfl) rfl) (dbits 14 1) ?_
         refine aL 1 (v444) rfl rfl (hM643 1 rfl) (rfl) (fun _ hB_ => by exact r_loadS (hC.grow hB_) 1 (v444) rfl sc93 rfl rfl) (dbits 14 3) ?_
         refine aF 2 (.pointer (some ⟨b7, 0, none⟩)) rfl rfl (hM644 2 rfl) (rfl) (fun _ => by exact r_faddrB 0 Try.underlying95 rfl sc93.size (sx hS_ 1 rfl) rfl) (dbits 14 7) ?_
         refine aL 3 (u0_0) rfl rfl (hM643 3 rfl) (rfl) (fun _ hB_ => by exact r_loadS (hC.grow hB_) 4 (u0_0) rfl sc93 rfl rfl) (dbits 14 15) ?_
         refine aF 4 (.int .i64 s443.2.1) rfl rfl (hM644 4 rfl) (rfl) (fun _ => by exact r_mv (v := .int .i64 s443.2.1) (sx hS_ 5 rfl)) (dbits 14 31) ?_
         obtain ⟨⟨h0_645, h1_646⟩, h⟩ := h
         obtain ⟨Ad647, c648, hv649⟩ := sl_form (hC.getP 1 rfl) s443.2.1.toNat (show s443.2.1.toNat < a0.terms.length by omega)
         refine aL 5 (.pointer (some (Ad647.add (s443.2.1.toNat * 9)))) rfl rfl (hM643 5 rfl) (rfl) (fun _ hB_ => by exact r_iaddrS (len := a0.terms.length) Try.underlying93 ag114.size (by exact tr rfl hv649) rfl h0_645 h1_646) (dbits 14 63) ?_
         refine aF 6 (.pointer (some (Ad647.add (s443.2.1.toNat * 9 + 0)))) rfl rfl (hM644 6 rfl) (rfl) (fun _ => by exact r_faddrS (s443.2.1.toNat * 9 + 0) Try.underlying114 rfl ag49.size rfl rfl) (dbits 14 127) ?_
         refine aL 7 (.agg (List.toArray (A8.enc .u8 ((a0.terms.getD s443.2.1.toNat default).mono)))) rfl rfl (hM643 7 rfl) (rfl) (fun _ hB_ => by exact r_loadCA (A8.enc .u8 ((a0.terms.getD s443.2.1.toNat default).mono)) (cells_subS (o := 0) (k := 8) (sl_cellsE ((hC.grow hB_).getP 1 rfl) hv649 s443.2.1.toNat (show s443.2.1.toNat < a0.terms.length by omega)) rfl) ag49 rfl rfl) (dbits 14 255) ?_
         refine aF 8 (.int .i64 r639) rfl rfl (hM644 8 rfl) (rfl) (fun _ => by exact r_mv (v := .int .i64 r639) rfl) (dbits 14 511) ?_
         refine aL 9 (.agg (List.toArray (Term.enc (⟨(a0.terms.getD s443.2.1.toNat default).mono, r639⟩ : Term)))) rfl rfl (hM643 9 rfl) (rfl) (fun _ hB_ => by exact r_build [(0, .agg (List.toArray (A8.enc .u8 ((a0.terms.getD s443.2.1.toNat default).mono)))), (1, .int .i64 r639)] rfl (bl114_0flat_1int ((a0.terms.getD s443.2.1.toNat default).mono) r639  _)) (dbits 14 1023) ?_
         refine aO 10 rfl ?_
         refine s_bslice (sz := 9) hC [(0, .agg (List.toArray (Term.enc (⟨(a0.terms.getD s443.2.1.toNat default).mono, r639⟩ : Term))))] (ETerm.encs [(⟨(a0.terms.getD s443.2.1.toNat default).mono, r639⟩ : Term)]) rfl (fun _ => bs93_1 (⟨(a0.terms.getD s443.2.1.toNat default).mono, r639⟩ : Term) _) rfl (by decide) fun b650 w651 hB_ hC => ?_
         refine done ?_
         refine aK (by assumption) (dbits 14 2047) ?_
         refine ae_tail 11 (by decide) (by decide) (by kernel_rfl) (by kernel_rfl) rfl ?_
         obtain ⟨hm655, h⟩ := h
         refine s_app hC 1 Try.underlying93 el114 rfl (by decide) (by decide) rfl (own_rdr (hC.getM 0 rfl)) (fun q hq => Enc.encs_one' (E := ETerm) _ q hq) rfl rfl hm655 fun v653 w654 hC => ?_
         replace hC := own_re hC 1 ((s443.1 ++ [(⟨(a0.terms.getD s443.2.1.toNat default).mono, r639⟩ : Term)]).length) (ETerm.encs (s443.1 ++ [(⟨(a0.terms.getD s443.2.1.toNat default).mono, r639⟩ : Term)])) rfl (by simp) (by first | (simp [Enc.encs_append]; done) | simp [Enc.encs_append, Enc.encs])
         refine s_faddrB 0 Try.underlying95 rfl sc93.size (sx hS_ 4 rfl) rfl ?_
         refine s_store (v := v653) hC 2 [v653] [v653] rfl sc93.size rfl rfl (own_cellsV (hC.getM 1 rfl)) rfl (all_c (own_oneC (hC.getM 1 rfl)) rfl) (Nat.le_of_ble_eq_true rfl) rfl fun w656 hC => ?_
         refine done ?_
         refine qn_norm ?_
         refine then_norm ?_
         refine sr ?_
         refine s_mv (v := .int .i64 s443.2.1) (sx hS_ 5 rfl) ?_
         refine s_add rfl rfl ?_
         refine s_as (v := .int .i64 (IntKind.i64.wrap (s443.2.1 + 1))) rfl ?_
         refine dn ?_
         refine cw_region ?_
         refine s_mv (v := .int .i64 s443.2.2) (sx hS_ 6 rfl) ?_
         refine s_add rfl rfl ?_
         refine s_as (v := .int .i64 (IntKind.i64.wrap (s443.2.2 + 1))) rfl ?_
         refine done ?_
         refine blk_norm ?_
         refine blk_norm ?_
         replace hC := hC.sM [1, 2, 3, 4, 5] (M' := [own 114 9 v653 ((s443.1 ++ [(⟨(a0.terms.getD s443.2.1.toNat default).mono, r639⟩ : Term)]).length) (ETerm.encs (s443.1 ++ [(⟨(a0.terms.getD s443.2.1.toNat default).mono, r639⟩ : Term)])), blk b16 95 [v653], blk b13 95 [.slice none 0 0], blk b10 95 [u1_0], blk b7 95 [u0_0]]) (by decide) rfl
         exact hK448 (s443.1 ++ [(⟨(a0.terms.getD s443.2.1.toNat default).mono, r639⟩ : Term)], IntKind.i64.wrap (s443.2.1 + 1), IntKind.i64.wrap (s443.2.2 + 1)) _ _ ⟨v653, (sk (sx hS_ 0 rfl) (sk (sx hS_ 1 rfl) (sk (sx hS_ 2 rfl) (sk (sx hS_ 3 rfl) (sk (sx hS_ 4 rfl) (sk rfl (sk rfl sn))))))), hC⟩ h
        ·replace h := iff_ h (cf hb641)
         refine wp_skip ?_
         refine then_norm ?_
         refine sr ?_
         refine s_mv (v := .int .i64 s443.2.1) (sx hS_ 5 rfl) ?_
         refine s_add rfl rfl ?_
         refine s_as (v := .int .i64 (IntKind.i64.wrap (s443.2.1 + 1))) rfl ?_
         refine dn ?_
         refine cw_region ?_
         refine s_mv (v := .int .i64 s443.2.2) (sx hS_ 6 rfl) ?_
         refine s_add rfl rfl ?_
         refine s_as (v := .int .i64 (IntKind.i64.wrap (s443.2.2 + 1))) rfl ?_
         refine done ?_
         refine blk_norm ?_
         refine blk_norm ?_
         exact hK448 (s443.1, IntKind.i64.wrap (s443.2.1 + 1), IntKind.i64.wrap (s443.2.2 + 1)) _ _ ⟨v444, (sk (sx hS_ 0 rfl) (sk (sx hS_ 1 rfl) (sk (sx hS_ 2 rfl) (sk (sx hS_ 3 rfl) (sk (sx hS_ 4 rfl) (sk rfl (sk rfl sn))))))), hC⟩ h
   ·replace h := iff_ h (ne_t hb468)
    refine wp_exit (then_exit (then_exit (exit_in ?_)))
    refine then_norm ?_
    refine sr ?_
    refine s_loadA hC 1 [v444] rfl ag95 (sx hS_ 4 rfl) rfl rfl ?_
    refine s_store (v := .agg #[v444]) hC 2 [v444] [v444] rfl ag95.size (sx hS_ 3 rfl) rfl rfl rfl (all_c (own_oneC (hC.getM 0 rfl)) rfl) (Nat.le_of_ble_eq_true rfl) rfl fun w657 hC => ?_
    refine dn ?_
    refine wp_ret ?_
    refine ret1 (fn := Try.f69) rfl ?_ ⟨(⟨s443.1⟩ : Vc.Form), v444, (Option.toList (Value.ownBlock v444)), rfl, h, (form_join (own_item (hC.getM 0 rfl))), (own_fresh hC 0 rfl), hC.below⟩ (.inl rfl)
    exact res_cellA hC 2 rfl ag95 (sx hS_ 3 rfl) rfl
 ·skip
  replace hC := hC.pushNil 114 9
  exact ⟨.slice none 0 0, (sk rfl (sk rfl (sk rfl (sk rfl (sk rfl (sk rfl (sk rfl sn))))))), hC⟩
end Go.Proofs.Ytaagfepgbofmlaa
