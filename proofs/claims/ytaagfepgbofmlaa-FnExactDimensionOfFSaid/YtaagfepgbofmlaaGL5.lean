/- Printed by vcgen.py: functions of the program as predicates, and that the machine's calls meet them. -/
import Derived.Test.YtaagfepgbofmlaaGL5a
set_option linter.unusedVariables false
set_option linter.unusedSimpArgs false
set_option maxRecDepth 4000
set_option maxHeartbeats 4000000
namespace Go.Proofs.Ytaagfepgbofmlaa
open Go Go.RowKit Vc
def f_impl_DimensionOfF (a0 : Alg) (a1 : Int) (a2 : Int) (K : Int → Int → Prop) : Prop :=
 f_impl_isPage a1 (fun r11 => joinP (fun (jn30 : Int → Prop) => (if r11 = true then f_impl_isAsked a2 (fun r36 => f_impl_pageCode a0 r36 (fun r41 => jn30 r41)) else f_impl_pageCode a0 false (fun r46 => jn30 r46))) (fun (x29 : Int) => (if x29 = 0 then forN (fun i1522 (s1523 : Unit) next1525 => f_impl_monomials a0.degrees (IntKind.i64.wrap (([a2].getD i1522 default) - 1)) 120 (fun r1537 r1542 => (if ¬ (r1542 = true) then (if 3 ≠ 0 then K 0 3 else f_impl_monomials a0.degrees a2 120 (fun r1559 r1564 => forN (fun i1788 (s1789 : (List (A8 × Int))) next1791 => next1791 (mset s1789 (r1559.getD i1788 default) (i1788 : Int))) (fun (s1789 : (List (A8 × Int))) => forN (fun i1868 (s1869 : (List Bool)) next1872 => f_impl_power_length (r1559.getD i1868 default) (fun r1887 => (Room (s1869.length + 1) 1 ∧ next1872 (s1869 ++ [decide (r1887 ≥ a1)])))) (fun (s1869 : (List Bool)) => f_impl_count s1869 (fun r1899 => K r1899 0)) r1559.length 0 []) r1559.length 0 ([] : List (A8 × Int)))) else f_impl_monomials a0.degrees ([a2].getD i1522 default) 120 (fun r1904 r1909 => (if ¬ (r1909 = true) then (if 3 ≠ 0 then K 0 3 else f_impl_monomials a0.degrees a2 120 (fun r1926 r1931 => forN (fun i2155 (s2156 : (List (A8 × Int))) next2158 => next2158 (mset s2156 (r1926.getD i2155 default) (i2155 : Int))) (fun (s2156 : (List (A8 × Int))) => forN (fun i2235 (s2236 : (List Bool)) next2239 => f_impl_power_length (r1926.getD i2235 default) (fun r2254 => (Room (s2236.length + 1) 1 ∧ next2239 (s2236 ++ [decide (r2254 ≥ a1)])))) (fun (s2236 : (List Bool)) => f_impl_count s2236 (fun r2266 => K r2266 0)) r1926.length 0 []) r1926.length 0 ([] : List (A8 × Int)))) else f_impl_monomials a0.degrees (IntKind.i64.wrap (([a2].getD i1522 default) + 1)) 120 (fun r2271 r2276 => (if ¬ (r2276 = true) then (if 3 ≠ 0 then K 0 3 else f_impl_monomials a0.degrees a2 120 (fun r2293 r2298 => forN (fun i2522 (s2523 : (List (A8 × Int))) next2525 => next2525 (mset s2523 (r2293.getD i2522 default) (i2522 : Int))) (fun (s2523 : (List (A8 × Int))) => forN (fun i2602 (s2603 : (List Bool)) next2606 => f_impl_power_length (r2293.getD i2602 default) (fun r2621 => (Room (s2603.length + 1) 1 ∧ next2606 (s2603 ++ [decide (r2621 ≥ a1)])))) (fun (s2603 : (List Bool)) => f_impl_count s2603 (fun r2633 => K r2633 0)) r2293.length 0 []) r2293.length 0 ([] : List (A8 × Int)))) else next1525 ()))))))) (fun (s1523 : Unit) => (if 0 ≠ 0 then K 0 0 else f_impl_monomials a0.degrees a2 120 (fun r2646 r2651 => forN (fun i2875 (s2876 : (List (A8 × Int))) next2878 => next2878 (mset s2876 (r2646.getD i2875 default) (i2875 : Int))) (fun (s2876 : (List (A8 × Int))) => forN (fun i2955 (s2956 : (List Bool)) next2959 => f_impl_power_length (r2646.getD i2955 default) (fun r2974 => (Room (s2956.length + 1) 1 ∧ next2959 (s2956 ++ [decide (r2974 ≥ a1)])))) (fun (s2956 : (List Bool)) => f_impl_count s2956 (fun r2986 => K r2986 0)) r2646.length 0 []) r2646.length 0 ([] : List (A8 × Int))))) ([a2].length) 0 () else (if x29 ≠ 0 then K 0 x29 else f_impl_monomials a0.degrees a2 120 (fun r2998 r3003 => forN (fun i3227 (s3228 : (List (A8 × Int))) next3230 => next3230 (mset s3228 (r2998.getD i3227 default) (i3227 : Int))) (fun (s3228 : (List (A8 × Int))) => forN (fun i3307 (s3308 : (List Bool)) next3311 => f_impl_power_length (r2998.getD i3307 default) (fun r3326 => (Room (s3308.length + 1) 1 ∧ next3311 (s3308 ++ [decide (r3326 ≥ a1)])))) (fun (s3308 : (List Bool)) => f_impl_count s3308 (fun r3338 => K r3338 0)) r2998.length 0 []) r2998.length 0 ([] : List (A8 × Int)))))))
theorem c_impl_DimensionOfF (a0 : Alg) (a1 : Int) (a2 : Int) {u0_0 : Value} {u0_1 : Value} {fp0 : List Nat} {K : Int → Int → Prop} (h : f_impl_DimensionOfF a0 a1 a2 K) (w0 : World) (q0 : TAlg.rep a0 [u0_0, u0_1] fp0 w0) :
  Calls Try.prog 20 #[.agg #[u0_0, u0_1], .int .i64 a1, .int .i64 a2] w0 fun e w' => ∃ (r0 : Int) (r1 : Int), 
   e = .returned (.tuple #[.int .i64 r0, .int .i64 r1]) ∧ K r0 r1 ∧ Bel w0 w' := by
 unfold f_impl_DimensionOfF at h
 refine calls_of (args := [.agg #[u0_0, u0_1], .int .i64 a1, .int .i64 a2]) Try.func20 rfl 26 Try.ntmps20 (Nat.le_of_ble_eq_true rfl) ?_
 have hC := Ctx.start (X := Nox) w0 [Ty.item TAlg a0 [u0_0, u0_1] fp0] (by simp only [List.mem_cons, List.not_mem_nil, or_false, forall_eq_or_imp, forall_eq]; exact q0)
 have hp2 := (hC.getP 0 rfl)
 replace hC := hC.derive 0 rfl (Ty.item ((EI .i64).ty.sl) a0.degrees [u0_0] fp0) (fun _ => (alg_parts hp2).1) (fun _ hb_ => hb_)
 replace hC := hC.derive 1 rfl (Ty.item TForm.sl a0.images [u0_1] fp0) (fun _ => (alg_parts hp2).2) (fun _ hb_ => hb_)
 refine sr ?_
 refine s_box (v := .agg #[u0_0, u0_1]) hC [u0_0, u0_1] rfl rfl fun b5 w7 hB_ hC => ?_
 refine s_as (v := .int .i64 0) rfl ?_
 refine s_as (v := .int .i64 0) rfl ?_
 refine dn ?_
 refine sr ?_
 refine s_mv (v := .int .i64 a2) rfl ?_
 refine s_mv (v := .int .i64 a1) rfl ?_
 refine s_call [.int .i64 a1] _ Try.func63 rfl rfl rfl (c_impl_isPage a1 h _) (fun ret8 w10 hR9 => ?_)
 obtain ⟨r11, rfl, h, hB12⟩ := hR9
 refine ⟨_, rfl, ?_⟩
 replace hC := hC.grow hB12
 refine s_inline [.pointer (some ⟨b5, 0, none⟩), .int .i64 a2, .bool r11] Try.func57 rfl rfl 27 Try.ntmps57 (Nat.le_of_ble_eq_true rfl) rfl ?_
 refine sr ?_
 refine s_as (v := .pointer none) rfl ?_
 refine s_as (v := .int .i64 0) rfl ?_
 refine dn ?_
 refine wp_seq ?_
 obtain ⟨jn30, hj31, h⟩ := joinP_elim h
 refine reg_join (fun e_ w_ => ∃ (x29 : Int), Slots e_ [(0, .pointer (some ⟨b5, 0, none⟩)), (1, .int .i64 a2), (7, .int .i64 0), (8, .int .i64 x29)] ∧ Ctx Nox w0 w_ [blk b5 32 [u0_0, u0_1]] [Ty.item TForm.sl a0.images [u0_1] fp0, Ty.item ((EI .i64).ty.sl) a0.degrees [u0_0] fp0, Ty.item TAlg a0 [u0_0, u0_1] fp0] ∧ jn30 x29) ?_ ?_
 ·skip
  refine cw_region ?_
  refine s_mv (v := .pointer (some ⟨b5, 0, none⟩)) rfl ?_
  refine s_mv (v := .bool r11) rfl ?_
  refine s_mv (v := .bool r11) rfl ?_
  refine bsplit r11 (fun hb32 => ?_) (fun hb32 => ?_)
  ·replace h := ift h (hb32)
   refine guardOn 2 12 rfl rfl hb32 ?_
   refine s_mv (v := .int .i64 a2) rfl ?_
   refine guardOn 2 12 rfl rfl hb32 ?_
   refine s_call [.int .i64 a2] _ Try.func114 rfl rfl rfl (c_impl_isAsked a2 h _) (fun ret33 w35 hR34 => ?_)
   obtain ⟨r36, rfl, h, hB37⟩ := hR34
   refine ⟨_, rfl, ?_⟩
   replace hC := hC.grow hB37
   refine s_pick (v := .bool r36) (b := true) (tr rfl (congrArg _ hb32)) rfl ?_
   refine s_call [.pointer (some ⟨b5, 0, none⟩), .bool r36] _ Try.func113 rfl rfl rfl (c_impl_pageCode a0 r36 h _ (alg_mk (hC.getP 1 rfl) (hC.getP 0 rfl)) (hC.getM 0 rfl)) (fun ret38 w40 hR39 => ?_)
   obtain ⟨r41, rfl, h, hB42⟩ := hR39
   refine ⟨_, rfl, ?_⟩
   replace hC := hC.grow hB42
   refine s_as (v := .int .i64 r41) rfl ?_
   refine done ?_
   exact ⟨rfl, _, rfl, r41, (sk rfl (sk rfl (sk rfl (sk rfl sn)))), hC, h⟩
  ·replace h := iff_ h (ne_t hb32)
   refine guardOff (b := false) 2 12 rfl (tr rfl (congrArg _ hb32)) (by decide) ?_
   refine guardOff (b := false) 2 12 rfl (tr rfl (congrArg _ hb32)) (by decide) ?_
   refine s_pick (v := .bool false) (b := false) (tr rfl (congrArg _ hb32)) rfl ?_
   refine s_call [.pointer (some ⟨b5, 0, none⟩), .bool false] _ Try.func113 rfl rfl rfl (c_impl_pageCode a0 false h _ (alg_mk (hC.getP 1 rfl) (hC.getP 0 rfl)) (hC.getM 0 rfl)) (fun ret43 w45 hR44 => ?_)
   obtain ⟨r46, rfl, h, hB47⟩ := hR44
   refine ⟨_, rfl, ?_⟩
   replace hC := hC.grow hB47
   refine s_as (v := .int .i64 r46) rfl ?_
   refine done ?_
   exact ⟨rfl, _, rfl, r46, (sk rfl (sk rfl (sk rfl (sk rfl sn)))), hC, h⟩
 ·clear hC h
  rintro e_ w48 ⟨x29, hS_, hC, h⟩
  replace h := hj31 _ h
  refine then_norm ?_
  refine sr ?_
  refine s_mv (v := .pointer (some ⟨b5, 0, none⟩)) (sx hS_ 0 rfl) ?_
  refine s_inline [.pointer (some ⟨b5, 0, none⟩)] Try.func115 rfl rfl 7 Try.ntmps115 (Nat.le_of_ble_eq_true rfl) rfl ?_
  have hSi49 := hS_
  refine sr ?_
  refine s_as (v := .pointer none) rfl ?_
  refine dn ?_
  refine sr ?_
  refine s_mv (v := .pointer (some ⟨b5, 0, none⟩)) rfl ?_
  refine s_makeMap hC (vvI .i64) vvP fun b50 w52 hB_ hC => ?_
  refine s_build [(0, .pointer (some ⟨b5, 0, none⟩)), (1, .map (some b50))] rfl (bl164_0ptr_1map b5 b50  _) ?_
  refine s_box (v := .agg #[.pointer (some ⟨b5, 0, none⟩), .map (some b50)]) hC [.pointer (some ⟨b5, 0, none⟩), .map (some b50)] rfl rfl fun b53 w55 hB_ hC => ?_
  refine s_as (v := .pointer (some ⟨b53, 0, none⟩)) rfl ?_
  refine dn ?_
  refine wp_ret ?_
  refine ret1 (fn := Try.f115) (v := .pointer (some ⟨b53, 0, none⟩)) rfl (res_tmp rfl) ⟨_, rfl, ?_⟩ (.inl rfl)
  refine s_as (v := .pointer (some ⟨b53, 0, none⟩)) rfl ?_
  refine dn ?_
  refine wp_seq ?_
  refine sr ?_
  refine s_mv (v := .int .i64 x29) (slot hSi49 3 rfl) ?_
  refine s_eql rfl rfl ?_
  refine dn ?_
  refine cw_cond rfl (fun hb56 => ?_) (fun hb56 => ?_)
  ·replace h := ift h (ct hb56)
   refine cw_region ?_
   refine s_mv (v := .pointer (some ⟨b53, 0, none⟩)) rfl ?_
   refine s_mv (v := .int .i64 a2) (slot hSi49 1 rfl) ?_
   refine s_bslice (sz := 1) hC [(0, .int .i64 a2)] ((EI .i64).encs [a2]) rfl (fun _ => bs22_1 a2 _) rfl (by decide) fun b57 w58 hB_ hC => ?_
   refine s_inline [.pointer (some ⟨b53, 0, none⟩), .slice (some ⟨b57, 0, none⟩) 1 1] Try.func116 rfl rfl 32 Try.ntmps116 (Nat.le_of_ble_eq_true rfl) rfl ?_
   refine sr ?_
   refine s_as (v := .int .i64 0) rfl ?_
   refine dn ?_
   refine wp_seq ?_
   refine sr ?_
   refine s_mv (v := .slice (some ⟨b57, 0, none⟩) 1 1) rfl ?_
   obtain ⟨Ad60, c61, hv62⟩ := own_form (hC.getM 0 rfl)
   refine s_len Try.underlying22 (tr rfl hv62) ?_
   refine s_mv (v := .int .i64 0) rfl ?_
   refine dn ?_
   refine wp_block ?_
   have hN1524 : [a2].length ≤ 9223372036854775807 := own_max (hC.getM 0 rfl)
   refine loopN (S := Unit) _ _ (fun i1522 s1523 e_ w_ => Slots e_ [(0, .pointer (some ⟨b53, 0, none⟩)), (4, .int .i64 0), (7, .slice (some ⟨b57, 0, none⟩) 1 1), (8, .int .i64 ([a2].length : Int)), (9, .int .i64 (i1522 : Int))] ∧ Ctx Nox w0 w_ [own 2 1 (.slice (some ⟨b57, 0, none⟩) 1 1) ([a2].length) ((EI .i64).encs [a2]), blk b53 164 [.pointer (some ⟨b5, 0, none⟩), .map (some b50)], mapI (vvI .i64) vvP b50 ([] : List (Int × Nat)), blk b5 32 [u0_0, u0_1]] [Ty.item TForm.sl a0.images [u0_1] fp0, Ty.item ((EI .i64).ty.sl) a0.degrees [u0_0] fp0, Ty.item TAlg a0 [u0_0, u0_1] fp0]) ([a2].length) ?_ ?_ (s0 := ()) ?_ h
   ·clear hC h
    rintro i1522 s1523 e_ w1529 next1525 K1526 hi1528 ⟨hS_, hC⟩ h hK1527
    refine sr ?_
    refine s_lss (sx hS_ 4 rfl) (sx hS_ 3 rfl) ?_
    refine dn ?_
    refine wp_seq ?_
    refine cw_true rfl (decide_eq_true (by omega)) ?_
    refine wp_skip ?_
    refine then_norm ?_
    refine wp_seq ?_
    refine wp_block ?_
    refine sr ?_
    obtain ⟨Ad1530, c1531, hv1532⟩ := own_formE (hC.getM 0 rfl) (Nat.lt_of_le_of_lt (Nat.zero_le _) hi1528)
    refine s_iaddrO (i1522 * 1) Try.underlying22 sc2.size (tr (sx hS_ 2 rfl) hv1532) (sx hS_ 4 rfl) (Int.natCast_nonneg _) (Int.ofNat_lt.2 hi1528) rfl ?_
    refine s_loadCS (.int .i64 ([a2].getD i1522 default)) (own_cellsE (hC.getM 0 rfl) hv1532 i1522 hi1528) sc2 rfl ?_
    refine s_as (v := .int .i64 ([a2].getD i1522 default)) rfl ?_
    refine dn ?_
    refine sr ?_
    refine s_mv (v := .pointer (some ⟨b53, 0, none⟩)) (sx hS_ 0 rfl) ?_
    refine s_mv (v := .int .i64 ([a2].getD i1522 default)) rfl ?_
    refine s_sub rfl rfl ?_
    refine s_inline [.pointer (some ⟨b53, 0, none⟩), .int .i64 (IntKind.i64.wrap (([a2].getD i1522 default) - 1))] Try.func148 rfl rfl 20 Try.ntmps148 (Nat.le_of_ble_eq_true rfl) rfl ?_
    have hSi1533 := hS_
    refine sr ?_
    refine s_as (v := .bool false) rfl ?_
    refine dn ?_
    refine sr ?_
    refine s_mv (v := .pointer (some ⟨b53, 0, none⟩)) rfl ?_
    refine s_nilchk rfl ?_
    refine s_faddrB 0 Try.underlying164 rfl sc72.size rfl rfl ?_
    refine s_loadS hC 1 (.pointer (some ⟨b5, 0, none⟩)) rfl sc72 rfl rfl ?_
    refine s_nilchk rfl ?_
    refine s_faddrB 0 Try.underlying32 rfl sc22.size rfl rfl ?_
    refine s_loadS hC 3 (u0_0) rfl sc22 rfl rfl ?_
    refine s_mv (v := .int .i64 (IntKind.i64.wrap (([a2].getD i1522 default) - 1))) rfl ?_
    refine s_call [u0_0, .int .i64 (IntKind.i64.wrap (([a2].getD i1522 default) - 1)), .int .i64 120] _ Try.func91 rfl rfl rfl (c_impl_monomials a0.degrees (IntKind.i64.wrap (([a2].getD i1522 default) - 1)) 120 h _ (hC.getP 1 rfl)) (fun ret1534 w1536 hR1535 => ?_)
    obtain ⟨r1537, u1538, f1539, r1542, rfl, h, hr1540, hf1541, hB1543⟩ := hR1535
    refine ⟨_, rfl, ?_⟩
    replace hC := hC.push hB1543 (Tr.item (Tr.sl 101 ((EA .i64).tr)) r1537 [u1538] f1539) hr1540 hf1541
    obtain ⟨ho1545, hf1546⟩ := flat_tr (hC.getM 0 rfl).1
    subst hf1546
    replace hC := hC.recast (c := own 101 8 u1538 r1537.length ((EA .i64).encs r1537)) (fun _ h_ => h_) (fun _ => ho1545)
    refine s_mv (v := .tuple #[u1538, .bool r1542]) rfl ?_
    refine s_ext (v := u1538) rfl rfl ?_
    refine s_ext (v := .bool r1542) rfl rfl ?_
    refine s_as (v := u1538) rfl ?_
    refine s_as (v := .bool r1542) rfl ?_
    refine dn ?_
    refine sr ?_
    refine s_mv (v := .bool r1542) rfl ?_
    refine s_as (v := .bool r1542) rfl ?_
    refine dn ?_
    refine wp_ret ?_
    refine ret1 (fn := Try.f148) (v := .bool r1542) rfl (res_tmp rfl) ⟨_, rfl, ?_⟩ (.inl rfl)
    refine s_not rfl ?_
    refine s_mv (v := .bool (!r1542)) rfl ?_
    refine bsplit (!r1542) (fun hb1548 => ?_) (fun hb1548 => ?_)
    ·replace h := ift h (ne_t (not_t hb1548))
     refine guardOff (b := true) 5 18 rfl (tr rfl (congrArg _ hb1548)) (by decide) ?_
     refine guardOff (b := true) 5 18 rfl (tr rfl (congrArg _ hb1548)) (by decide) ?_
     refine guardOff (b := true) 5 18 rfl (tr rfl (congrArg _ hb1548)) (by decide) ?_
     refine guardOff (b := true) 5 18 rfl (tr rfl (congrArg _ hb1548)) (by decide) ?_
     refine s_pick (v := .bool true) (b := true) (tr rfl (congrArg _ hb1548)) rfl ?_
     refine s_mv (v := .bool true) rfl ?_
     refine guardOff (b := true) 11 24 rfl (tr rfl (congrArg _ rfl)) (by decide) ?_
     refine guardOff (b := true) 11 24 rfl (tr rfl (congrArg _ rfl)) (by decide) ?_
     refine guardOff (b := true) 11 24 rfl (tr rfl (congrArg _ rfl)) (by decide) ?_
     refine guardOff (b := true) 11 24 rfl (tr rfl (congrArg _ rfl)) (by decide) ?_
     refine guardOff (b := true) 11 24 rfl (tr rfl (congrArg _ rfl)) (by decide) ?_
     refine s_pick (v := .bool true) (b := true) rfl rfl ?_
     refine dn ?_
     refine cw_true rfl rfl ?_
     refine sr ?_
     refine s_as (v := .int .i64 3) rfl ?_
     refine dn ?_
     refine wp_ret (blk_ret (then_ret (then_ret (blk_ret (then_ret ?_)))))
     refine ret1 (fn := Try.f116) (v := .int .i64 3) rfl (res_tmp rfl) ⟨_, rfl, ?_⟩ (.inl rfl)
     refine s_as (v := .int .i64 3) rfl ?_
     refine dn ?_
     refine sr ?_
     refine s_mv (v := .pointer (some ⟨b53, 0, none⟩)) rfl ?_
     refine s_mv (v := .int .i64 3) rfl ?_
     refine s_as (v := .pointer (some ⟨b53, 0, none⟩)) rfl ?_
     refine s_as (v := .int .i64 3) rfl ?_
     refine dn ?_
     refine wp_ret ?_
     refine ret2 (fn := Try.f57) (v := .pointer (some ⟨b53, 0, none⟩)) (u := .int .i64 3) rfl (res_tmp rfl) (res_tmp rfl) ⟨_, rfl, ?_⟩ (.inl rfl)
     refine s_mv (v := .tuple #[.pointer (some ⟨b53, 0, none⟩), .int .i64 3]) rfl ?_
     refine s_ext (v := .pointer (some ⟨b53, 0, none⟩)) rfl rfl ?_
     refine s_ext (v := .int .i64 3) rfl rfl ?_
     refine s_as (v := .pointer (some ⟨b53, 0, none⟩)) rfl ?_
     refine s_as (v := .int .i64 3) rfl ?_
     refine dn ?_
     refine wp_seq ?_
     refine sr ?_
     refine s_mv (v := .int .i64 3) rfl ?_
     refine s_neq rfl rfl ?_
     refine dn ?_
     refine cw_cond rfl (fun hb1549 => ?_) (fun hb1549 => ?_)
     ·replace h := ift h (ct hb1549)
      refine sr ?_
      refine s_mv (v := .int .i64 3) rfl ?_
      refine s_as (v := .int .i64 0) rfl ?_
      refine s_as (v := .int .i64 3) rfl ?_
      refine dn ?_
      refine wp_ret (then_ret ?_)
      refine ret2 (fn := Try.f20) rfl ?_ ?_ ⟨0, 3, rfl, h, hC.below⟩ (.inl rfl)
      ·exact res_tmp rfl
      ·exact res_tmp rfl
     ·replace h := iff_ h (cf hb1549)
      refine wp_skip ?_
      refine then_norm ?_
      refine sr ?_
      refine s_mv (v := .pointer (some ⟨b53, 0, none⟩)) rfl ?_
      refine s_mv (v := .int .i64 a2) rfl ?_
      refine s_inline [.pointer (some ⟨b53, 0, none⟩), .int .i64 a2] Try.func65 rfl rfl 63 Try.ntmps65 (Nat.le_of_ble_eq_true rfl) rfl ?_
      refine sr ?_
      refine s_as (v := .pointer none) rfl ?_
      refine dn ?_
      refine wp_seq ?_
      refine sr ?_
      refine s_mv (v := .pointer (some ⟨b53, 0, none⟩)) rfl ?_
      refine s_nilchk rfl ?_
      refine s_faddrB 1 Try.underlying164 rfl sc162.size rfl rfl ?_
      refine s_loadS hC 2 (.map (some b50)) rfl sc162 rfl rfl ?_
      refine s_mv (v := .int .i64 a2) rfl ?_
      refine s_lookupE a2 (.pointer none) (hC.getM 3 rfl) kt2 Try.underlying162 z88 rfl rfl ?_
      refine s_mv (v := .tuple #[.pointer none, .bool false]) rfl ?_
      refine s_ext (v := .pointer none) rfl rfl ?_
      refine s_ext (v := .bool false) rfl rfl ?_
      refine s_as (v := .pointer none) rfl ?_
      refine s_as (v := .bool false) rfl ?_
      refine dn ?_
      refine sr ?_
      refine s_mv (v := .bool false) rfl ?_
      refine dn ?_
      refine cw_false rfl rfl ?_
      refine wp_skip ?_
      refine then_norm ?_
      refine sr ?_
      refine s_makeMap hC (kvA .i64) (vvI .i64) fun b1550 w1552 hB_ hC => ?_
      refine s_build [(1, .map (some b1550))] rfl (bl158_1map b1550  _) ?_
      refine s_box (v := .agg #[.slice none 0 0, .map (some b1550), .slice none 0 0, .slice none 0 0, .slice none 0 0, .slice none 0 0]) hC [.slice none 0 0, .map (some b1550), .slice none 0 0, .slice none 0 0, .slice none 0 0, .slice none 0 0] rfl rfl fun b1553 w1555 hB_ hC => ?_
      refine s_as (v := .pointer (some ⟨b1553, 0, none⟩)) rfl ?_
      refine dn ?_
      refine sr ?_
      refine s_mv (v := .pointer (some ⟨b1553, 0, none⟩)) rfl ?_
      refine s_mv (v := .pointer (some ⟨b53, 0, none⟩)) rfl ?_
      refine s_nilchk rfl ?_
      refine s_faddrB 0 Try.underlying164 rfl sc72.size rfl rfl ?_
      refine s_loadS hC 4 (.pointer (some ⟨b5, 0, none⟩)) rfl sc72 rfl rfl ?_
      refine s_nilchk rfl ?_
      refine s_faddrB 0 Try.underlying32 rfl sc22.size rfl rfl ?_
      refine s_loadS hC 6 (u0_0) rfl sc22 rfl rfl ?_
      refine s_mv (v := .int .i64 a2) rfl ?_
      refine s_call [u0_0, .int .i64 a2, .int .i64 120] _ Try.func91 rfl rfl rfl (c_impl_monomials a0.degrees a2 120 h _ (hC.getP 1 rfl)) (fun ret1556 w1558 hR1557 => ?_)
      obtain ⟨r1559, u1560, f1561, r1564, rfl, h, hr1562, hf1563, hB1565⟩ := hR1557
      refine ⟨_, rfl, ?_⟩
      replace hC := hC.push hB1565 (Tr.item (Tr.sl 101 ((EA .i64).tr)) r1559 [u1560] f1561) hr1562 hf1563
      obtain ⟨ho1567, hf1568⟩ := flat_tr (hC.getM 0 rfl).1
      subst hf1568
      replace hC := hC.recast (c := own 101 8 u1560 r1559.length ((EA .i64).encs r1559)) (fun _ h_ => h_) (fun _ => ho1567)
      refine s_mv (v := .tuple #[u1560, .bool r1564]) rfl ?_
      refine s_ext (v := u1560) rfl rfl ?_
      refine s_ext (v := .bool r1564) rfl rfl ?_
      refine s_nilchk rfl ?_
      refine s_faddrB 0 Try.underlying158 rfl sc121.size rfl rfl ?_
      refine s_store (v := u1560) hC 1 [u1560] [u1560, .map (some b1550), .slice none 0 0, .slice none 0 0, .slice none 0 0, .slice none 0 0] rfl sc121.size rfl rfl (own_cellsV (hC.getM 0 rfl)) rfl (all_c (own_oneC (hC.getM 0 rfl)) rfl) (Nat.le_of_ble_eq_true rfl) rfl fun w1570 hC => ?_
      refine dn ?_
      refine wp_seq ?_
      refine sr ?_
      refine s_mv (v := .pointer (some ⟨b1553, 0, none⟩)) rfl ?_
      refine s_nilchk rfl ?_
      refine s_faddrB 0 Try.underlying158 rfl sc121.size rfl rfl ?_
      refine s_loadS hC 1 (u1560) rfl sc121 rfl rfl ?_
      obtain ⟨Ad1571, c1572, hv1573⟩ := own_form (hC.getM 0 rfl)
      refine s_len Try.underlying121 (tr rfl hv1573) ?_
      refine s_mv (v := .int .i64 0) rfl ?_
      refine dn ?_
      refine wp_block ?_
      have hN1790 : r1559.length ≤ 9223372036854775807 := own_max (hC.getM 0 rfl)
      refine loopN (S := (List (A8 × Int))) _ _ (fun i1788 s1789 e_ w_ => Slots e_ [(0, .pointer (some ⟨b53, 0, none⟩)), (1, .int .i64 a2), (7, .pointer (some ⟨b1553, 0, none⟩)), (42, u1560), (43, .int .i64 (r1559.length : Int)), (44, .int .i64 (i1788 : Int))] ∧ Ctx Nox w0 w_ [own 101 8 u1560 r1559.length ((EA .i64).encs r1559), blk b1553 158 [u1560, .map (some b1550), .slice none 0 0, .slice none 0 0, .slice none 0 0, .slice none 0 0], mapI (kvA .i64) (vvI .i64) b1550 s1789, blk b53 164 [.pointer (some ⟨b5, 0, none⟩), .map (some b50)], mapI (vvI .i64) vvP b50 ([] : List (Int × Nat)), blk b5 32 [u0_0, u0_1]] [Ty.item TForm.sl a0.images [u0_1] fp0, Ty.item ((EI .i64).ty.sl) a0.degrees [u0_0] fp0, Ty.item TAlg a0 [u0_0, u0_1] fp0]) r1559.length ?_ ?_ (s0 := ([] : List (A8 × Int))) ?_ h
      ·clear hC h
       rintro i1788 s1789 e_ w1795 next1791 K1792 hi1794 ⟨hS_, hC⟩ h hK1793
       refine sr ?_
       refine s_lss (sx hS_ 5 rfl) (sx hS_ 4 rfl) ?_
       refine dn ?_
       refine wp_seq ?_
       refine cw_true rfl (decide_eq_true (by omega)) ?_
       refine wp_skip ?_
       refine then_norm ?_
       refine wp_seq ?_
       refine wp_block ?_
       refine sr ?_
       refine s_mv (v := .int .i64 (i1788 : Int)) (sx hS_ 5 rfl) ?_
       obtain ⟨Ad1796, c1797, hv1798⟩ := own_formE (hC.getM 0 rfl) (Nat.lt_of_le_of_lt (Nat.zero_le _) hi1794)
       refine s_iaddrO (i1788 * 8) Try.underlying121 ag101.size (tr (sx hS_ 3 rfl) hv1798) (sx hS_ 5 rfl) (Int.natCast_nonneg _) (Int.ofNat_lt.2 hi1794) rfl ?_
       refine s_loadCA (A8.enc .i64 (r1559.getD i1788 default)) (own_cellsE (hC.getM 0 rfl) hv1798 i1788 hi1794) ag101 rfl rfl ?_
       refine s_alloc hC (A8.enc .i64 A8.zero) z101 rfl fun b1799 w1801 hB_ hC => ?_
       refine s_as (v := .int .i64 (i1788 : Int)) rfl ?_
       refine s_store (v := .agg (List.toArray (A8.enc .i64 (r1559.getD i1788 default)))) hC 0 (A8.enc .i64 (r1559.getD i1788 default)) (A8.enc .i64 (r1559.getD i1788 default)) rfl ag101.size rfl rfl rfl rfl rfl (Nat.le_of_ble_eq_true rfl) rfl fun w1802 hC => ?_
       refine dn ?_
       refine cw_draw 6 mixed [0, 1, 3, 7, 0, 0, 63] [3, 4] [0, 1, 2, 5] (by kernel_rfl) (by kernel_rfl) (by kernel_rfl) (fun hM1804 hM1805 w1803 hB_ => ?_)
       replace hC := hC.grow hB_
       refine aF 0 (.pointer (some ⟨b1553, 0, none⟩)) rfl rfl (hM1805 0 rfl) (rfl) (fun _ => by exact r_mv (v := .pointer (some ⟨b1553, 0, none⟩)) (sx hS_ 2 rfl)) (dbits 7 1) ?_
       refine aF 1 (.pointer (some ⟨b1553, 0, none⟩)) rfl rfl (hM1805 1 rfl) (rfl) (fun _ => by exact r_nilchk rfl) (dbits 7 3) ?_
       refine aF 2 (.pointer (some ⟨b1553, 1, none⟩)) rfl rfl (hM1805 2 rfl) (rfl) (fun _ => by exact r_faddrB 1 Try.underlying158 rfl sc156.size rfl rfl) (dbits 7 7) ?_
       refine aL 3 (.map (some b1550)) rfl rfl (hM1804 3 rfl) (rfl) (fun _ hB_ => by exact r_loadS (hC.grow hB_) 2 (.map (some b1550)) rfl sc156 rfl rfl) (dbits 7 15) ?_
       refine aL 4 (.agg (List.toArray (A8.enc .i64 (r1559.getD i1788 default)))) rfl rfl (hM1804 4 rfl) (rfl) (fun _ hB_ => by exact r_loadA (hC.grow hB_) 0 (A8.enc .i64 (r1559.getD i1788 default)) rfl ag101 rfl rfl rfl) (dbits 7 31) ?_
       refine aF 5 (.int .i64 (i1788 : Int)) rfl rfl (hM1805 5 rfl) (rfl) (fun _ => by exact r_mv (v := .int .i64 (i1788 : Int)) rfl) (dbits 7 63) ?_
       refine ae_tail 6 (by decide) (by decide) (by kernel_rfl) (by kernel_rfl) rfl ?_
       refine s_mapset hC 3 (r1559.getD i1788 default) (i1788 : Int) rfl kt101 Try.underlying156 rfl rfl rfl (fun w1806 hC => ?_) (.inl rfl)
       refine done ?_
       refine qn_norm ?_
       refine blk_norm ?_
       refine then_norm ?_
       refine cw_region ?_
       refine s_add (sx hS_ 5 rfl) rfl ?_
       refine s_mv (v := .int .i64 (IntKind.i64.wrap ((i1788 : Int) + 1))) rfl ?_
       refine done ?_
       replace hC := hC.sM [1, 2, 3, 4, 5, 6] (M' := [own 101 8 u1560 r1559.length ((EA .i64).encs r1559), blk b1553 158 [u1560, .map (some b1550), .slice none 0 0, .slice none 0 0, .slice none 0 0, .slice none 0 0], mapI (kvA .i64) (vvI .i64) b1550 (mset s1789 (r1559.getD i1788 default) (i1788 : Int)), blk b53 164 [.pointer (some ⟨b5, 0, none⟩), .map (some b50)], mapI (vvI .i64) vvP b50 ([] : List (Int × Nat)), blk b5 32 [u0_0, u0_1]]) (by decide) rfl
       exact hK1793 (mset s1789 (r1559.getD i1788 default) (i1788 : Int)) _ _ ⟨(sk (sx hS_ 0 rfl) (sk (sx hS_ 1 rfl) (sk (sx hS_ 2 rfl) (sk (sx hS_ 3 rfl) (sk (sx hS_ 4 rfl) (sk (tr rfl (congrArg _ (wrap64_nat hi1794 hN1790))) sn)))))), hC⟩ h
      ·clear hC h
       rintro s1789 e_ w1807 K1792 ⟨hS_, hC⟩ h
       refine sr ?_
       refine s_lss (sx hS_ 5 rfl) (sx hS_ 4 rfl) ?_
       refine dn ?_
       refine wp_seq ?_
       refine cw_false rfl (decide_eq_false (by omega)) ?_
       refine wp_exit (then_exit (then_exit (exit_in ?_)))
       refine then_norm ?_
       refine sr ?_
       refine s_mv (v := .pointer (some ⟨b53, 0, none⟩)) (sx hS_ 0 rfl) ?_
       refine s_nilchk rfl ?_
       refine s_faddrB 1 Try.underlying164 rfl sc162.size rfl rfl ?_
       refine s_loadS hC 3 (.map (some b50)) rfl sc162 rfl rfl ?_
       refine s_mv (v := .int .i64 a2) (sx hS_ 1 rfl) ?_
       refine s_mv (v := .pointer (some ⟨b1553, 0, none⟩)) (sx hS_ 2 rfl) ?_
       refine s_mapset hC 4 a2 b1553 rfl kt2 Try.underlying162 rfl rfl rfl (fun w1808 hC => ?_) (.inl rfl)
       refine dn ?_
       refine sr ?_
       refine s_mv (v := .pointer (some ⟨b1553, 0, none⟩)) (sx hS_ 2 rfl) ?_
       refine s_as (v := .pointer (some ⟨b1553, 0, none⟩)) rfl ?_
       refine dn ?_
       refine wp_ret ?_
       refine ret1 (fn := Try.f65) (v := .pointer (some ⟨b1553, 0, none⟩)) rfl (res_tmp rfl) ⟨_, rfl, ?_⟩ (.inl rfl)
       refine s_mv (v := .int .i64 a1) rfl ?_
       refine s_inline [.pointer (some ⟨b1553, 0, none⟩), .int .i64 a1] Try.func66 rfl rfl 27 Try.ntmps66 (Nat.le_of_ble_eq_true rfl) rfl ?_
       refine sr ?_
       refine s_as (v := .slice none 0 0) rfl ?_
       refine dn ?_
       refine sr ?_
       refine s_bslice (sz := 1) hC [] (EB.encs []) rfl (fun _ => bs87_0  _) rfl (by decide) fun b1809 w1810 hB_ hC => ?_
       refine s_as (v := .slice (some ⟨b1809, 0, none⟩) 0 0) rfl ?_
       refine dn ?_
       refine wp_seq ?_
       refine sr ?_
       refine s_mv (v := .pointer (some ⟨b1553, 0, none⟩)) rfl ?_
       refine s_nilchk rfl ?_
       refine s_faddrB 0 Try.underlying158 rfl sc121.size rfl rfl ?_
       refine s_loadS hC 2 (u1560) rfl sc121 rfl rfl ?_
       obtain ⟨Ad1812, c1813, hv1814⟩ := own_form (hC.getM 1 rfl)
       refine s_len Try.underlying121 (tr rfl hv1814) ?_
       refine s_mv (v := .int .i64 0) rfl ?_
       refine dn ?_
       refine wp_block ?_
       have hN1871 : r1559.length ≤ 9223372036854775807 := own_max (hC.getM 1 rfl)
       refine loopN (S := (List Bool)) _ _ (fun i1868 s1869 e_ w_ => ∃ (v1870 : Value), Slots e_ [(1, .int .i64 a1), (4, .slice none 0 0), (5, v1870), (12, u1560), (13, .int .i64 (r1559.length : Int)), (14, .int .i64 (i1868 : Int))] ∧ Ctx Nox w0 w_ [own 4 1 v1870 s1869.length (EB.encs s1869), own 101 8 u1560 r1559.length ((EA .i64).encs r1559), blk b1553 158 [u1560, .map (some b1550), .slice none 0 0, .slice none 0 0, .slice none 0 0, .slice none 0 0], mapI (kvA .i64) (vvI .i64) b1550 s1789, blk b53 164 [.pointer (some ⟨b5, 0, none⟩), .map (some b50)], mapI (vvI .i64) vvP b50 (mset ([] : List (Int × Nat)) a2 b1553), blk b5 32 [u0_0, u0_1]] [Ty.item TForm.sl a0.images [u0_1] fp0, Ty.item ((EI .i64).ty.sl) a0.degrees [u0_0] fp0, Ty.item TAlg a0 [u0_0, u0_1] fp0]) r1559.length ?_ ?_ (s0 := []) ?_ h
       ·clear hC h
        rintro i1868 s1869 e_ w1876 next1872 K1873 hi1875 ⟨v1870, hS_, hC⟩ h hK1874
        refine sr ?_
        refine s_lss (sx hS_ 5 rfl) (sx hS_ 4 rfl) ?_
        refine dn ?_
        refine wp_seq ?_
        refine cw_true rfl (decide_eq_true (by omega)) ?_
        refine wp_skip ?_
        refine then_norm ?_
        refine wp_seq ?_
        refine wp_block ?_
        refine sr ?_
        obtain ⟨Ad1877, c1878, hv1879⟩ := own_formE (hC.getM 1 rfl) (Nat.lt_of_le_of_lt (Nat.zero_le _) hi1875)
        refine s_iaddrO (i1868 * 8) Try.underlying121 ag101.size (tr (sx hS_ 3 rfl) hv1879) (sx hS_ 5 rfl) (Int.natCast_nonneg _) (Int.ofNat_lt.2 hi1875) rfl ?_
        refine s_loadCA (A8.enc .i64 (r1559.getD i1868 default)) (own_cellsE (hC.getM 1 rfl) hv1879 i1868 hi1875) ag101 rfl rfl ?_
        refine s_alloc hC (A8.enc .i64 A8.zero) z101 rfl fun b1880 w1882 hB_ hC => ?_
        refine s_store (v := .agg (List.toArray (A8.enc .i64 (r1559.getD i1868 default)))) hC 0 (A8.enc .i64 (r1559.getD i1868 default)) (A8.enc .i64 (r1559.getD i1868 default)) rfl ag101.size rfl rfl rfl rfl rfl (Nat.le_of_ble_eq_true rfl) rfl fun w1883 hC => ?_
        refine dn ?_
        refine cw_region ?_
        refine s_mv (v := v1870) (sx hS_ 2 rfl) ?_
        refine s_loadA hC 0 (A8.enc .i64 (r1559.getD i1868 default)) rfl ag101 rfl rfl rfl ?_
        refine s_call [.agg (List.toArray (A8.enc .i64 (r1559.getD i1868 default)))] _ Try.func117 rfl rfl rfl (c_impl_power_length (r1559.getD i1868 default) h _) (fun ret1884 w1886 hR1885 => ?_)
        obtain ⟨r1887, rfl, h, hB1888⟩ := hR1885
        refine ⟨_, rfl, ?_⟩
        replace hC := hC.grow hB1888
        refine s_mv (v := .int .i64 a1) (sx hS_ 0 rfl) ?_
        refine s_geq rfl rfl ?_
        refine s_bslice (sz := 1) hC [(0, .bool (decide (r1887 ≥ a1)))] (EB.encs [decide (r1887 ≥ a1)]) rfl (fun _ => bs87_1 (decide (r1887 ≥ a1)) _) rfl (by decide) fun b1889 w1890 hB_ hC => ?_
        obtain ⟨hm1894, h⟩ := h
        refine s_app hC 2 Try.underlying87 el4 rfl (by decide) (by decide) rfl (own_rdr (hC.getM 0 rfl)) (fun q hq => Enc.encs_one' (E := EB) _ q hq) rfl rfl hm1894 fun v1892 w1893 hC => ?_
        replace hC := own_re hC 2 ((s1869 ++ [decide (r1887 ≥ a1)]).length) (EB.encs (s1869 ++ [decide (r1887 ≥ a1)])) rfl (by simp) (by first | (simp [Enc.encs_append]; done) | simp [Enc.encs_append, Enc.encs])
        refine s_as (v := v1892) rfl ?_
        refine done ?_
        refine blk_norm ?_
        refine then_norm ?_
        refine cw_region ?_
        refine s_add (sx hS_ 5 rfl) rfl ?_
        refine s_mv (v := .int .i64 (IntKind.i64.wrap ((i1868 : Int) + 1))) rfl ?_
        refine done ?_
        replace hC := hC.sM [2, 3, 4, 5, 6, 7, 8] (M' := [own 4 1 v1892 ((s1869 ++ [decide (r1887 ≥ a1)]).length) (EB.encs (s1869 ++ [decide (r1887 ≥ a1)])), own 101 8 u1560 r1559.length ((EA .i64).encs r1559), blk b1553 158 [u1560, .map (some b1550), .slice none 0 0, .slice none 0 0, .slice none 0 0, .slice none 0 0], mapI (kvA .i64) (vvI .i64) b1550 s1789, blk b53 164 [.pointer (some ⟨b5, 0, none⟩), .map (some b50)], mapI (vvI .i64) vvP b50 (mset ([] : List (Int × Nat)) a2 b1553), blk b5 32 [u0_0, u0_1]]) (by decide) rfl
        exact hK1874 (s1869 ++ [decide (r1887 ≥ a1)]) _ _ ⟨v1892, (sk (sx hS_ 0 rfl) (sk (sx hS_ 1 rfl) (sk rfl (sk (sx hS_ 3 rfl) (sk (sx hS_ 4 rfl) (sk (tr rfl (congrArg _ (wrap64_nat hi1875 hN1871))) sn)))))), hC⟩ h
       ·clear hC h
        rintro s1869 e_ w1895 K1873 ⟨v1870, hS_, hC⟩ h
        refine sr ?_
        refine s_lss (sx hS_ 5 rfl) (sx hS_ 4 rfl) ?_
        refine dn ?_
        refine wp_seq ?_
        refine cw_false rfl (decide_eq_false (by omega)) ?_
        refine wp_exit (then_exit (then_exit (exit_in ?_)))
        refine then_norm ?_
        refine sr ?_
        refine s_mv (v := v1870) (sx hS_ 2 rfl) ?_
        refine s_as (v := v1870) rfl ?_
        refine dn ?_
        refine wp_ret ?_
        refine ret1 (fn := Try.f66) (v := v1870) rfl (res_tmp rfl) ⟨_, rfl, ?_⟩ (.inl rfl)
        refine s_call [v1870] _ Try.func64 rfl rfl rfl (c_impl_count s1869 h _ (own_repE (hC.getM 0 rfl))) (fun ret1896 w1898 hR1897 => ?_)
        obtain ⟨r1899, rfl, h, hB1900⟩ := hR1897
        refine ⟨_, rfl, ?_⟩
        replace hC := hC.grow hB1900
        refine s_as (v := .int .i64 r1899) rfl ?_
        refine s_as (v := .int .i64 0) rfl ?_
        refine dn ?_
        refine wp_ret ?_
        refine ret2 (fn := Try.f20) rfl ?_ ?_ ⟨r1899, 0, rfl, h, hC.below⟩ (.inl rfl)
        ·exact res_tmp rfl
        ·exact res_tmp rfl
       ·skip
        exact ⟨.slice (some ⟨b1809, 0, none⟩) 0 0, (sk rfl (sk rfl (sk rfl (sk rfl (sk rfl (sk rfl sn)))))), hC⟩
      ·skip
       replace hC := hC.sM [0, 1, 2, 5, 6, 7] (M' := [own 101 8 u1560 r1559.length ((EA .i64).encs r1559), blk b1553 158 [u1560, .map (some b1550), .slice none 0 0, .slice none 0 0, .slice none 0 0, .slice none 0 0], mapI (kvA .i64) (vvI .i64) b1550 ([] : List (A8 × Int)), blk b53 164 [.pointer (some ⟨b5, 0, none⟩), .map (some b50)], mapI (vvI .i64) vvP b50 ([] : List (Int × Nat)), blk b5 32 [u0_0, u0_1]]) (by decide) rfl
       exact ⟨(sk rfl (sk rfl (sk rfl (sk rfl (sk rfl (sk rfl sn)))))), hC⟩
    ·replace h := iff_ h (not_not_intro ((not_f hb1548)))
     refine guardOn 5 18 rfl rfl hb1548 ?_
     refine s_mv (v := .pointer (some ⟨b53, 0, none⟩)) (slot hSi1533 0 rfl) ?_
     refine guardOn 5 18 rfl rfl hb1548 ?_
     refine s_mv (v := .int .i64 ([a2].getD i1522 default)) rfl ?_
     refine guardOn 5 18 rfl rfl hb1548 ?_
     refine s_inline [.pointer (some ⟨b53, 0, none⟩), .int .i64 ([a2].getD i1522 default)] Try.func148 rfl rfl 20 Try.ntmps148 (Nat.le_of_ble_eq_true rfl) rfl ?_
     refine sr ?_
     refine s_as (v := .bool false) rfl ?_
     refine dn ?_
     refine sr ?_
     refine s_mv (v := .pointer (some ⟨b53, 0, none⟩)) rfl ?_
     refine s_nilchk rfl ?_
     refine s_faddrB 0 Try.underlying164 rfl sc72.size rfl rfl ?_
     refine s_loadS hC 2 (.pointer (some ⟨b5, 0, none⟩)) rfl sc72 rfl rfl ?_
     refine s_nilchk rfl ?_
     refine s_faddrB 0 Try.underlying32 rfl sc22.size rfl rfl ?_
     refine s_loadS hC 4 (u0_0) rfl sc22 rfl rfl ?_
     refine s_mv (v := .int .i64 ([a2].getD i1522 default)) rfl ?_
     refine s_call [u0_0, .int .i64 ([a2].getD i1522 default), .int .i64 120] _ Try.func91 rfl rfl rfl (c_impl_monomials a0.degrees ([a2].getD i1522 default) 120 h _ (hC.getP 1 rfl)) (fun ret1901 w1903 hR1902 => ?_)
     obtain ⟨r1904, u1905, f1906, r1909, rfl, h, hr1907, hf1908, hB1910⟩ := hR1902
     refine ⟨_, rfl, ?_⟩
     replace hC := hC.push hB1910 (Tr.item (Tr.sl 101 ((EA .i64).tr)) r1904 [u1905] f1906) hr1907 hf1908
     obtain ⟨ho1912, hf1913⟩ := flat_tr (hC.getM 0 rfl).1
     subst hf1913
     replace hC := hC.recast (c := own 101 8 u1905 r1904.length ((EA .i64).encs r1904)) (fun _ h_ => h_) (fun _ => ho1912)
     refine s_mv (v := .tuple #[u1905, .bool r1909]) rfl ?_
     refine s_ext (v := u1905) rfl rfl ?_
     refine s_ext (v := .bool r1909) rfl rfl ?_
     refine s_as (v := u1905) rfl ?_
     refine s_as (v := .bool r1909) rfl ?_
     refine dn ?_
     refine sr ?_
     refine s_mv (v := .bool r1909) rfl ?_
     refine s_as (v := .bool r1909) rfl ?_
     refine dn ?_
     refine wp_ret ?_
     refine ret1 (fn := Try.f148) (v := .bool r1909) rfl (res_tmp rfl) ⟨_, rfl, ?_⟩ (.inl rfl)
     refine guardOn 5 18 rfl rfl hb1548 ?_
     refine s_not rfl ?_
     refine s_pick (v := .bool (!r1909)) (b := false) (tr rfl (congrArg _ hb1548)) rfl ?_
     refine s_mv (v := .bool (!r1909)) rfl ?_
     refine bsplit (!r1909) (fun hb1915 => ?_) (fun hb1915 => ?_)
     ·replace h := ift h (ne_t (not_t hb1915))
      refine guardOff (b := true) 11 24 rfl (tr rfl (congrArg _ hb1915)) (by decide) ?_
      refine guardOff (b := true) 11 24 rfl (tr rfl (congrArg _ hb1915)) (by decide) ?_
      refine guardOff (b := true) 11 24 rfl (tr rfl (congrArg _ hb1915)) (by decide) ?_
      refine guardOff (b := true) 11 24 rfl (tr rfl (congrArg _ hb1915)) (by decide) ?_
      refine guardOff (b := true) 11 24 rfl (tr rfl (congrArg _ hb1915)) (by decide) ?_
      refine s_pick (v := .bool true) (b := true) (tr rfl (congrArg _ hb1915)) rfl ?_
      refine dn ?_
      refine cw_true rfl rfl ?_
      refine sr ?_
      refine s_as (v := .int .i64 3) rfl ?_
      refine dn ?_
      refine wp_ret (blk_ret (then_ret (then_ret (blk_ret (then_ret ?_)))))
      refine ret1 (fn := Try.f116) (v := .int .i64 3) rfl (res_tmp rfl) ⟨_, rfl, ?_⟩ (.inl rfl)
      refine s_as (v := .int .i64 3) rfl ?_
      refine dn ?_
      refine sr ?_
      refine s_mv (v := .pointer (some ⟨b53, 0, none⟩)) rfl ?_
      refine s_mv (v := .int .i64 3) rfl ?_
      refine s_as (v := .pointer (some ⟨b53, 0, none⟩)) rfl ?_
      refine s_as (v := .int .i64 3) rfl ?_
      refine dn ?_
      refine wp_ret ?_
      refine ret2 (fn := Try.f57) (v := .pointer (some ⟨b53, 0, none⟩)) (u := .int .i64 3) rfl (res_tmp rfl) (res_tmp rfl) ⟨_, rfl, ?_⟩ (.inl rfl)
      refine s_mv (v := .tuple #[.pointer (some ⟨b53, 0, none⟩), .int .i64 3]) rfl ?_
      refine s_ext (v := .pointer (some ⟨b53, 0, none⟩)) rfl rfl ?_
      refine s_ext (v := .int .i64 3) rfl rfl ?_
      refine s_as (v := .pointer (some ⟨b53, 0, none⟩)) rfl ?_
      refine s_as (v := .int .i64 3) rfl ?_
      refine dn ?_
      refine wp_seq ?_
      refine sr ?_
      refine s_mv (v := .int .i64 3) rfl ?_
      refine s_neq rfl rfl ?_
      refine dn ?_
      refine cw_cond rfl (fun hb1916 => ?_) (fun hb1916 => ?_)
      ·replace h := ift h (ct hb1916)
       refine sr ?_
       refine s_mv (v := .int .i64 3) rfl ?_
       refine s_as (v := .int .i64 0) rfl ?_
       refine s_as (v := .int .i64 3) rfl ?_
       refine dn ?_
       refine wp_ret (then_ret ?_)
       refine ret2 (fn := Try.f20) rfl ?_ ?_ ⟨0, 3, rfl, h, hC.below⟩ (.inl rfl)
       ·exact res_tmp rfl
       ·exact res_tmp rfl
      ·replace h := iff_ h (cf hb1916)
       refine wp_skip ?_
       refine then_norm ?_
       refine sr ?_
       refine s_mv (v := .pointer (some ⟨b53, 0, none⟩)) rfl ?_
       refine s_mv (v := .int .i64 a2) rfl ?_
       refine s_inline [.pointer (some ⟨b53, 0, none⟩), .int .i64 a2] Try.func65 rfl rfl 63 Try.ntmps65 (Nat.le_of_ble_eq_true rfl) rfl ?_
       refine sr ?_
       refine s_as (v := .pointer none) rfl ?_
       refine dn ?_
       refine wp_seq ?_
       refine sr ?_
       refine s_mv (v := .pointer (some ⟨b53, 0, none⟩)) rfl ?_
       refine s_nilchk rfl ?_
       refine s_faddrB 1 Try.underlying164 rfl sc162.size rfl rfl ?_
       refine s_loadS hC 3 (.map (some b50)) rfl sc162 rfl rfl ?_
       refine s_mv (v := .int .i64 a2) rfl ?_
       refine s_lookupE a2 (.pointer none) (hC.getM 4 rfl) kt2 Try.underlying162 z88 rfl rfl ?_
       refine s_mv (v := .tuple #[.pointer none, .bool false]) rfl ?_
       refine s_ext (v := .pointer none) rfl rfl ?_
       refine s_ext (v := .bool false) rfl rfl ?_
       refine s_as (v := .pointer none) rfl ?_
       refine s_as (v := .bool false) rfl ?_
       refine dn ?_
       refine sr ?_
       refine s_mv (v := .bool false) rfl ?_
       refine dn ?_
       refine cw_false rfl rfl ?_
       refine wp_skip ?_
       refine then_norm ?_
       refine sr ?_
       refine s_makeMap hC (kvA .i64) (vvI .i64) fun b1917 w1919 hB_ hC => ?_
       refine s_build [(1, .map (some b1917))] rfl (bl158_1map b1917  _) ?_
       refine s_box (v := .agg #[.slice none 0 0, .map (some b1917), .slice none 0 0, .slice none 0 0, .slice none 0 0, .slice none 0 0]) hC [.slice none 0 0, .map (some b1917), .slice none 0 0, .slice none 0 0, .slice none 0 0, .slice none 0 0] rfl rfl fun b1920 w1922 hB_ hC => ?_
       refine s_as (v := .pointer (some ⟨b1920, 0, none⟩)) rfl ?_
       refine dn ?_
       refine sr ?_
       refine s_mv (v := .pointer (some ⟨b1920, 0, none⟩)) rfl ?_
       refine s_mv (v := .pointer (some ⟨b53, 0, none⟩)) rfl ?_
       refine s_nilchk rfl ?_
       refine s_faddrB 0 Try.underlying164 rfl sc72.size rfl rfl ?_
       refine s_loadS hC 5 (.pointer (some ⟨b5, 0, none⟩)) rfl sc72 rfl rfl ?_
       refine s_nilchk rfl ?_
       refine s_faddrB 0 Try.underlying32 rfl sc22.size rfl rfl ?_
       refine s_loadS hC 7 (u0_0) rfl sc22 rfl rfl ?_
       refine s_mv (v := .int .i64 a2) rfl ?_
       refine s_call [u0_0, .int .i64 a2, .int .i64 120] _ Try.func91 rfl rfl rfl (c_impl_monomials a0.degrees a2 120 h _ (hC.getP 1 rfl)) (fun ret1923 w1925 hR1924 => ?_)
       obtain ⟨r1926, u1927, f1928, r1931, rfl, h, hr1929, hf1930, hB1932⟩ := hR1924
       refine ⟨_, rfl, ?_⟩
       replace hC := hC.push hB1932 (Tr.item (Tr.sl 101 ((EA .i64).tr)) r1926 [u1927] f1928) hr1929 hf1930
       obtain ⟨ho1934, hf1935⟩ := flat_tr (hC.getM 0 rfl).1
       subst hf1935
       replace hC := hC.recast (c := own 101 8 u1927 r1926.length ((EA .i64).encs r1926)) (fun _ h_ => h_) (fun _ => ho1934)
       refine s_mv (v := .tuple #[u1927, .bool r1931]) rfl ?_
       refine s_ext (v := u1927) rfl rfl ?_
       refine s_ext (v := .bool r1931) rfl rfl ?_
       refine s_nilchk rfl ?_
       refine s_faddrB 0 Try.underlying158 rfl sc121.size rfl rfl ?_
       refine s_store (v := u1927) hC 1 [u1927] [u1927, .map (some b1917), .slice none 0 0, .slice none 0 0, .slice none 0 0, .slice none 0 0] rfl sc121.size rfl rfl (own_cellsV (hC.getM 0 rfl)) rfl (all_c (own_oneC (hC.getM 0 rfl)) rfl) (Nat.le_of_ble_eq_true rfl) rfl fun w1937 hC => ?_
       refine dn ?_
       refine wp_seq ?_
       refine sr ?_
       refine s_mv (v := .pointer (some ⟨b1920, 0, none⟩)) rfl ?_
       refine s_nilchk rfl ?_
       refine s_faddrB 0 Try.underlying158 rfl sc121.size rfl rfl ?_
       refine s_loadS hC 1 (u1927) rfl sc121 rfl rfl ?_
       obtain ⟨Ad1938, c1939, hv1940⟩ := own_form (hC.getM 0 rfl)
       refine s_len Try.underlying121 (tr rfl hv1940) ?_
       refine s_mv (v := .int .i64 0) rfl ?_
       refine dn ?_
       refine wp_block ?_
       have hN2157 : r1926.length ≤ 9223372036854775807 := own_max (hC.getM 0 rfl)
       refine loopN (S := (List (A8 × Int))) _ _ (fun i2155 s2156 e_ w_ => Slots e_ [(0, .pointer (some ⟨b53, 0, none⟩)), (1, .int .i64 a2), (7, .pointer (some ⟨b1920, 0, none⟩)), (42, u1927), (43, .int .i64 (r1926.length : Int)), (44, .int .i64 (i2155 : Int))] ∧ Ctx Nox w0 w_ [own 101 8 u1927 r1926.length ((EA .i64).encs r1926), blk b1920 158 [u1927, .map (some b1917), .slice none 0 0, .slice none 0 0, .slice none 0 0, .slice none 0 0], mapI (kvA .i64) (vvI .i64) b1917 s2156, blk b53 164 [.pointer (some ⟨b5, 0, none⟩), .map (some b50)], mapI (vvI .i64) vvP b50 ([] : List (Int × Nat)), blk b5 32 [u0_0, u0_1]] [Ty.item TForm.sl a0.images [u0_1] fp0, Ty.item ((EI .i64).ty.sl) a0.degrees [u0_0] fp0, Ty.item TAlg a0 [u0_0, u0_1] fp0]) r1926.length ?_ ?_ (s0 := ([] : List (A8 × Int))) ?_ h
       ·clear hC h
        rintro i2155 s2156 e_ w2162 next2158 K2159 hi2161 ⟨hS_, hC⟩ h hK2160
        refine sr ?_
        refine s_lss (sx hS_ 5 rfl) (sx hS_ 4 rfl) ?_
        refine dn ?_
        refine wp_seq ?_
        refine cw_true rfl (decide_eq_true (by omega)) ?_
        refine wp_skip ?_
        refine then_norm ?_
        refine wp_seq ?_
        refine wp_block ?_
        refine sr ?_
        refine s_mv (v := .int .i64 (i2155 : Int)) (sx hS_ 5 rfl) ?_
        obtain ⟨Ad2163, c2164, hv2165⟩ := own_formE (hC.getM 0 rfl) (Nat.lt_of_le_of_lt (Nat.zero_le _) hi2161)
        refine s_iaddrO (i2155 * 8) Try.underlying121 ag101.size (tr (sx hS_ 3 rfl) hv2165) (sx hS_ 5 rfl) (Int.natCast_nonneg _) (Int.ofNat_lt.2 hi2161) rfl ?_
        refine s_loadCA (A8.enc .i64 (r1926.getD i2155 default)) (own_cellsE (hC.getM 0 rfl) hv2165 i2155 hi2161) ag101 rfl rfl ?_
        refine s_alloc hC (A8.enc .i64 A8.zero) z101 rfl fun b2166 w2168 hB_ hC => ?_
        refine s_as (v := .int .i64 (i2155 : Int)) rfl ?_
        refine s_store (v := .agg (List.toArray (A8.enc .i64 (r1926.getD i2155 default)))) hC 0 (A8.enc .i64 (r1926.getD i2155 default)) (A8.enc .i64 (r1926.getD i2155 default)) rfl ag101.size rfl rfl rfl rfl rfl (Nat.le_of_ble_eq_true rfl) rfl fun w2169 hC => ?_
        refine dn ?_
        refine cw_draw 6 mixed [0, 1, 3, 7, 0, 0, 63] [3, 4] [0, 1, 2, 5] (by kernel_rfl) (by kernel_rfl) (by kernel_rfl) (fun hM2171 hM2172 w2170 hB_ => ?_)
        replace hC := hC.grow hB_
        refine aF 0 (.pointer (some ⟨b1920, 0, none⟩)) rfl rfl (hM2172 0 rfl) (rfl) (fun _ => by exact r_mv (v := .pointer (some ⟨b1920, 0, none⟩)) (sx hS_ 2 rfl)) (dbits 7 1) ?_
        refine aF 1 (.pointer (some ⟨b1920, 0, none⟩)) rfl rfl (hM2172 1 rfl) (rfl) (fun _ => by exact r_nilchk rfl) (dbits 7 3) ?_
        refine aF 2 (.pointer (some ⟨b1920, 1, none⟩)) rfl rfl (hM2172 2 rfl) (rfl) (fun _ => by exact r_faddrB 1 Try.underlying158 rfl sc156.size rfl rfl) (dbits 7 7) ?_
        refine aL 3 (.map (some b1917)) rfl rfl (hM2171 3 rfl) (rfl) (fun _ hB_ => by exact r_loadS (hC.grow hB_) 2 (.map (some b1917)) rfl sc156 rfl rfl) (dbits 7 15) ?_
        refine aL 4 (.agg (List.toArray (A8.enc .i64 (r1926.getD i2155 default)))) rfl rfl (hM2171 4 rfl) (rfl) (fun _ hB_ => by exact r_loadA (hC.grow hB_) 0 (A8.enc .i64 (r1926.getD i2155 default)) rfl ag101 rfl rfl rfl) (dbits 7 31) ?_
        refine aF 5 (.int .i64 (i2155 : Int)) rfl rfl (hM2172 5 rfl) (rfl) (fun _ => by exact r_mv (v := .int .i64 (i2155 : Int)) rfl) (dbits 7 63) ?_
        refine ae_tail 6 (by decide) (by decide) (by kernel_rfl) (by kernel_rfl) rfl ?_
        refine s_mapset hC 3 (r1926.getD i2155 default) (i2155 : Int) rfl kt101 Try.underlying156 rfl rfl rfl (fun w2173 hC => ?_) (.inl rfl)
        refine done ?_
        refine qn_norm ?_
        refine blk_norm ?_
        refine then_norm ?_
        refine cw_region ?_
        refine s_add (sx hS_ 5 rfl) rfl ?_
        refine s_mv (v := .int .i64 (IntKind.i64.wrap ((i2155 : Int) + 1))) rfl ?_
        refine done ?_
        replace hC := hC.sM [1, 2, 3, 4, 5, 6] (M' := [own 101 8 u1927 r1926.length ((EA .i64).encs r1926), blk b1920 158 [u1927, .map (some b1917), .slice none 0 0, .slice none 0 0, .slice none 0 0, .slice none 0 0], mapI (kvA .i64) (vvI .i64) b1917 (mset s2156 (r1926.getD i2155 default) (i2155 : Int)), blk b53 164 [.pointer (some ⟨b5, 0, none⟩), .map (some b50)], mapI (vvI .i64) vvP b50 ([] : List (Int × Nat)), blk b5 32 [u0_0, u0_1]]) (by decide) rfl
        exact hK2160 (mset s2156 (r1926.getD i2155 default) (i2155 : Int)) _ _ ⟨(sk (sx hS_ 0 rfl) (sk (sx hS_ 1 rfl) (sk (sx hS_ 2 rfl) (sk (sx hS_ 3 rfl) (sk (sx hS_ 4 rfl) (sk (tr rfl (congrArg _ (wrap64_nat hi2161 hN2157))) sn)))))), hC⟩ h
       ·clear hC h
        rintro s2156 e_ w2174 K2159 ⟨hS_, hC⟩ h
        refine sr ?_
        refine s_lss (sx hS_ 5 rfl) (sx hS_ 4 rfl) ?_
        refine dn ?_
        refine wp_seq ?_
        refine cw_false rfl (decide_eq_false (by omega)) ?_
        refine wp_exit (then_exit (then_exit (exit_in ?_)))
        refine then_norm ?_
        refine sr ?_
        refine s_mv (v := .pointer (some ⟨b53, 0, none⟩)) (sx hS_ 0 rfl) ?_
        refine s_nilchk rfl ?_
        refine s_faddrB 1 Try.underlying164 rfl sc162.size rfl rfl ?_
        refine s_loadS hC 3 (.map (some b50)) rfl sc162 rfl rfl ?_
        refine s_mv (v := .int .i64 a2) (sx hS_ 1 rfl) ?_
        refine s_mv (v := .pointer (some ⟨b1920, 0, none⟩)) (sx hS_ 2 rfl) ?_
        refine s_mapset hC 4 a2 b1920 rfl kt2 Try.underlying162 rfl rfl rfl (fun w2175 hC => ?_) (.inl rfl)
        refine dn ?_
        refine sr ?_
        refine s_mv (v := .pointer (some ⟨b1920, 0, none⟩)) (sx hS_ 2 rfl) ?_
        refine s_as (v := .pointer (some ⟨b1920, 0, none⟩)) rfl ?_
        refine dn ?_
        refine wp_ret ?_
        refine ret1 (fn := Try.f65) (v := .pointer (some ⟨b1920, 0, none⟩)) rfl (res_tmp rfl) ⟨_, rfl, ?_⟩ (.inl rfl)
        refine s_mv (v := .int .i64 a1) rfl ?_
        refine s_inline [.pointer (some ⟨b1920, 0, none⟩), .int .i64 a1] Try.func66 rfl rfl 27 Try.ntmps66 (Nat.le_of_ble_eq_true rfl) rfl ?_
        refine sr ?_
        refine s_as (v := .slice none 0 0) rfl ?_
        refine dn ?_
        refine sr ?_
        refine s_bslice (sz := 1) hC [] (EB.encs []) rfl (fun _ => bs87_0  _) rfl (by decide) fun b2176 w2177 hB_ hC => ?_
        refine s_as (v := .slice (some ⟨b2176, 0, none⟩) 0 0) rfl ?_
        refine dn ?_
        refine wp_seq ?_
        refine sr ?_
        refine s_mv (v := .pointer (some ⟨b1920, 0, none⟩)) rfl ?_
        refine s_nilchk rfl ?_
        refine s_faddrB 0 Try.underlying158 rfl sc121.size rfl rfl ?_
        refine s_loadS hC 2 (u1927) rfl sc121 rfl rfl ?_
        obtain ⟨Ad2179, c2180, hv2181⟩ := own_form (hC.getM 1 rfl)
        refine s_len Try.underlying121 (tr rfl hv2181) ?_
        refine s_mv (v := .int .i64 0) rfl ?_
        refine dn ?_
        refine wp_block ?_
        have hN2238 : r1926.length ≤ 9223372036854775807 := own_max (hC.getM 1 rfl)
        refine loopN (S := (List Bool)) _ _ (fun i2235 s2236 e_ w_ => ∃ (v2237 : Value), Slots e_ [(1, .int .i64 a1), (4, .slice none 0 0), (5, v2237), (12, u1927), (13, .int .i64 (r1926.length : Int)), (14, .int .i64 (i2235 : Int))] ∧ Ctx Nox w0 w_ [own 4 1 v2237 s2236.length (EB.encs s2236), own 101 8 u1927 r1926.length ((EA .i64).encs r1926), blk b1920 158 [u1927, .map (some b1917), .slice none 0 0, .slice none 0 0, .slice none 0 0, .slice none 0 0], mapI (kvA .i64) (vvI .i64) b1917 s2156, blk b53 164 [.pointer (some ⟨b5, 0, none⟩), .map (some b50)], mapI (vvI .i64) vvP b50 (mset ([] : List (Int × Nat)) a2 b1920), blk b5 32 [u0_0, u0_1]] [Ty.item TForm.sl a0.images [u0_1] fp0, Ty.item ((EI .i64).ty.sl) a0.degrees [u0_0] fp0, Ty.item TAlg a0 [u0_0, u0_1] fp0]) r1926.length ?_ ?_ (s0 := []) ?_ h
        ·clear hC h
         rintro i2235 s2236 e_ w2243 next2239 K2240 hi2242 ⟨v2237, hS_, hC⟩ h hK2241
         refine sr ?_
         refine s_lss (sx hS_ 5 rfl) (sx hS_ 4 rfl) ?_
         refine dn ?_
         refine wp_seq ?_
         refine cw_true rfl (decide_eq_true (by omega)) ?_
         refine wp_skip ?_
         refine then_norm ?_
         refine wp_seq ?_
         refine wp_block ?_
         refine sr ?_
         obtain ⟨Ad2244, c2245, hv2246⟩ := own_formE (hC.getM 1 rfl) (Nat.lt_of_le_of_lt (Nat.zero_le _) hi2242)
         refine s_iaddrO (i2235 * 8) Try.underlying121 ag101.size (tr (sx hS_ 3 rfl) hv2246) (sx hS_ 5 rfl) (Int.natCast_nonneg _) (Int.ofNat_lt.2 hi2242) rfl ?_
         refine s_loadCA (A8.enc .i64 (r1926.getD i2235 default)) (own_cellsE (hC.getM 1 rfl) hv2246 i2235 hi2242) ag101 rfl rfl ?_
         refine s_alloc hC (A8.enc .i64 A8.zero) z101 rfl fun b2247 w2249 hB_ hC => ?_
         refine s_store (v := .agg (List.toArray (A8.enc .i64 (r1926.getD i2235 default)))) hC 0 (A8.enc .i64 (r1926.getD i2235 default)) (A8.enc .i64 (r1926.getD i2235 default)) rfl ag101.size rfl rfl rfl rfl rfl (Nat.le_of_ble_eq_true rfl) rfl fun w2250 hC => ?_
         refine dn ?_
         refine cw_region ?_
         refine s_mv (v := v2237) (sx hS_ 2 rfl) ?_
         refine s_loadA hC 0 (A8.enc .i64 (r1926.getD i2235 default)) rfl ag101 rfl rfl rfl ?_
         refine s_call [.agg (List.toArray (A8.enc .i64 (r1926.getD i2235 default)))] _ Try.func117 rfl rfl rfl (c_impl_power_length (r1926.getD i2235 default) h _) (fun ret2251 w2253 hR2252 => ?_)
         obtain ⟨r2254, rfl, h, hB2255⟩ := hR2252
         refine ⟨_, rfl, ?_⟩
         replace hC := hC.grow hB2255
         refine s_mv (v := .int .i64 a1) (sx hS_ 0 rfl) ?_
         refine s_geq rfl rfl ?_
         refine s_bslice (sz := 1) hC [(0, .bool (decide (r2254 ≥ a1)))] (EB.encs [decide (r2254 ≥ a1)]) rfl (fun _ => bs87_1 (decide (r2254 ≥ a1)) _) rfl (by decide) fun b2256 w2257 hB_ hC => ?_
         obtain ⟨hm2261, h⟩ := h
         refine s_app hC 2 Try.underlying87 el4 rfl (by decide) (by decide) rfl (own_rdr (hC.getM 0 rfl)) (fun q hq => Enc.encs_one' (E := EB) _ q hq) rfl rfl hm2261 fun v2259 w2260 hC => ?_
         replace hC := own_re hC 2 ((s2236 ++ [decide (r2254 ≥ a1)]).length) (EB.encs (s2236 ++ [decide (r2254 ≥ a1)])) rfl (by simp) (by first | (simp [Enc.encs_append]; done) | simp [Enc.encs_append, Enc.encs])
         refine s_as (v := v2259) rfl ?_
         refine done ?_
         refine blk_norm ?_
         refine then_norm ?_
         refine cw_region ?_
         refine s_add (sx hS_ 5 rfl) rfl ?_
         refine s_mv (v := .int .i64 (IntKind.i64.wrap ((i2235 : Int) + 1))) rfl ?_
         refine done ?_
         replace hC := hC.sM [2, 3, 4, 5, 6, 7, 8] (M' := [own 4 1 v2259 ((s2236 ++ [decide (r2254 ≥ a1)]).length) (EB.encs (s2236 ++ [decide (r2254 ≥ a1)])), own 101 8 u1927 r1926.length ((EA .i64).encs r1926), blk b1920 158 [u1927, .map (some b1917), .slice none 0 0, .slice none 0 0, .slice none 0 0, .slice none 0 0], mapI (kvA .i64) (vvI .i64) b1917 s2156, blk b53 164 [.pointer (some ⟨b5, 0, none⟩), .map (some b50)], mapI (vvI .i64) vvP b50 (mset ([] : List (Int × Nat)) a2 b1920), blk b5 32 [u0_0, u0_1]]) (by decide) rfl
         exact hK2241 (s2236 ++ [decide (r2254 ≥ a1)]) _ _ ⟨v2259, (sk (sx hS_ 0 rfl) (sk (sx hS_ 1 rfl) (sk rfl (sk (sx hS_ 3 rfl) (sk (sx hS_ 4 rfl) (sk (tr rfl (congrArg _ (wrap64_nat hi2242 hN2238))) sn)))))), hC⟩ h
        ·clear hC h
         rintro s2236 e_ w2262 K2240 ⟨v2237, hS_, hC⟩ h
         refine sr ?_
         refine s_lss (sx hS_ 5 rfl) (sx hS_ 4 rfl) ?_
         refine dn ?_
         refine wp_seq ?_
         refine cw_false rfl (decide_eq_false (by omega)) ?_
         refine wp_exit (then_exit (then_exit (exit_in ?_)))
         refine then_norm ?_
         refine sr ?_
         refine s_mv (v := v2237) (sx hS_ 2 rfl) ?_
         refine s_as (v := v2237) rfl ?_
         refine dn ?_
         refine wp_ret ?_
         refine ret1 (fn := Try.f66) (v := v2237) rfl (res_tmp rfl) ⟨_, rfl, ?_⟩ (.inl rfl)
         refine s_call [v2237] _ Try.func64 rfl rfl rfl (c_impl_count s2236 h _ (own_repE (hC.getM 0 rfl))) (fun ret2263 w2265 hR2264 => ?_)
         obtain ⟨r2266, rfl, h, hB2267⟩ := hR2264
         refine ⟨_, rfl, ?_⟩
         replace hC := hC.grow hB2267
         refine s_as (v := .int .i64 r2266) rfl ?_
         refine s_as (v := .int .i64 0) rfl ?_
         refine dn ?_
         refine wp_ret ?_
         refine ret2 (fn := Try.f20) rfl ?_ ?_ ⟨r2266, 0, rfl, h, hC.below⟩ (.inl rfl)
         ·exact res_tmp rfl
         ·exact res_tmp rfl
        ·skip
         exact ⟨.slice (some ⟨b2176, 0, none⟩) 0 0, (sk rfl (sk rfl (sk rfl (sk rfl (sk rfl (sk rfl sn)))))), hC⟩
       ·skip
        replace hC := hC.sM [0, 1, 2, 6, 7, 8] (M' := [own 101 8 u1927 r1926.length ((EA .i64).encs r1926), blk b1920 158 [u1927, .map (some b1917), .slice none 0 0, .slice none 0 0, .slice none 0 0, .slice none 0 0], mapI (kvA .i64) (vvI .i64) b1917 ([] : List (A8 × Int)), blk b53 164 [.pointer (some ⟨b5, 0, none⟩), .map (some b50)], mapI (vvI .i64) vvP b50 ([] : List (Int × Nat)), blk b5 32 [u0_0, u0_1]]) (by decide) rfl
        exact ⟨(sk rfl (sk rfl (sk rfl (sk rfl (sk rfl (sk rfl sn)))))), hC⟩
     ·replace h := iff_ h (not_not_intro ((not_f hb1915)))
      refine guardOn 11 24 rfl rfl hb1915 ?_
      refine s_mv (v := .pointer (some ⟨b53, 0, none⟩)) (slot hSi1533 0 rfl) ?_
      refine guardOn 11 24 rfl rfl hb1915 ?_
      refine s_mv (v := .int .i64 ([a2].getD i1522 default)) rfl ?_
      refine guardOn 11 24 rfl rfl hb1915 ?_
      refine s_add rfl rfl ?_
      refine guardOn 11 24 rfl rfl hb1915 ?_
      refine s_inline [.pointer (some ⟨b53, 0, none⟩), .int .i64 (IntKind.i64.wrap (([a2].getD i1522 default) + 1))] Try.func148 rfl rfl 20 Try.ntmps148 (Nat.le_of_ble_eq_true rfl) rfl ?_
      refine sr ?_
      refine s_as (v := .bool false) rfl ?_
      refine dn ?_
      refine sr ?_
      refine s_mv (v := .pointer (some ⟨b53, 0, none⟩)) rfl ?_
      refine s_nilchk rfl ?_
      refine s_faddrB 0 Try.underlying164 rfl sc72.size rfl rfl ?_
      refine s_loadS hC 3 (.pointer (some ⟨b5, 0, none⟩)) rfl sc72 rfl rfl ?_
      refine s_nilchk rfl ?_
      refine s_faddrB 0 Try.underlying32 rfl sc22.size rfl rfl ?_
      refine s_loadS hC 5 (u0_0) rfl sc22 rfl rfl ?_
      refine s_mv (v := .int .i64 (IntKind.i64.wrap (([a2].getD i1522 default) + 1))) rfl ?_
      refine s_call [u0_0, .int .i64 (IntKind.i64.wrap (([a2].getD i1522 default) + 1)), .int .i64 120] _ Try.func91 rfl rfl rfl (c_impl_monomials a0.degrees (IntKind.i64.wrap (([a2].getD i1522 default) + 1)) 120 h _ (hC.getP 1 rfl)) (fun ret2268 w2270 hR2269 => ?_)
      obtain ⟨r2271, u2272, f2273, r2276, rfl, h, hr2274, hf2275, hB2277⟩ := hR2269
      refine ⟨_, rfl, ?_⟩
      replace hC := hC.push hB2277 (Tr.item (Tr.sl 101 ((EA .i64).tr)) r2271 [u2272] f2273) hr2274 hf2275
      obtain ⟨ho2279, hf2280⟩ := flat_tr (hC.getM 0 rfl).1
      subst hf2280
      replace hC := hC.recast (c := own 101 8 u2272 r2271.length ((EA .i64).encs r2271)) (fun _ h_ => h_) (fun _ => ho2279)
      refine s_mv (v := .tuple #[u2272, .bool r2276]) rfl ?_
      refine s_ext (v := u2272) rfl rfl ?_
      refine s_ext (v := .bool r2276) rfl rfl ?_
      refine s_as (v := u2272) rfl ?_
      refine s_as (v := .bool r2276) rfl ?_
      refine dn ?_
      refine sr ?_
      refine s_mv (v := .bool r2276) rfl ?_
      refine s_as (v := .bool r2276) rfl ?_
      refine dn ?_
      refine wp_ret ?_
      refine ret1 (fn := Try.f148) (v := .bool r2276) rfl (res_tmp rfl) ⟨_, rfl, ?_⟩ (.inl rfl)
      refine guardOn 11 24 rfl rfl hb1915 ?_
      refine s_not rfl ?_
      refine s_pick (v := .bool (!r2276)) (b := false) (tr rfl (congrArg _ hb1915)) rfl ?_
      refine dn ?_
      refine cw_cond rfl (fun hb2282 => ?_) (fun hb2282 => ?_)
      ·replace h := ift h (ne_t (not_t hb2282))
       refine sr ?_
       refine s_as (v := .int .i64 3) rfl ?_
       refine dn ?_
       refine wp_ret (blk_ret (then_ret (then_ret (blk_ret (then_ret ?_)))))
       refine ret1 (fn := Try.f116) (v := .int .i64 3) rfl (res_tmp rfl) ⟨_, rfl, ?_⟩ (.inl rfl)
       refine s_as (v := .int .i64 3) rfl ?_
       refine dn ?_
       refine sr ?_
       refine s_mv (v := .pointer (some ⟨b53, 0, none⟩)) rfl ?_
       refine s_mv (v := .int .i64 3) rfl ?_
       refine s_as (v := .pointer (some ⟨b53, 0, none⟩)) rfl ?_
       refine s_as (v := .int .i64 3) rfl ?_
       refine dn ?_
       refine wp_ret ?_
       refine ret2 (fn := Try.f57) (v := .pointer (some ⟨b53, 0, none⟩)) (u := .int .i64 3) rfl (res_tmp rfl) (res_tmp rfl) ⟨_, rfl, ?_⟩ (.inl rfl)
       refine s_mv (v := .tuple #[.pointer (some ⟨b53, 0, none⟩), .int .i64 3]) rfl ?_
       refine s_ext (v := .pointer (some ⟨b53, 0, none⟩)) rfl rfl ?_
       refine s_ext (v := .int .i64 3) rfl rfl ?_
       refine s_as (v := .pointer (some ⟨b53, 0, none⟩)) rfl ?_
       refine s_as (v := .int .i64 3) rfl ?_
       refine dn ?_
       refine wp_seq ?_
       refine sr ?_
       refine s_mv (v := .int .i64 3) rfl ?_
       refine s_neq rfl rfl ?_
       refine dn ?_
       refine cw_cond rfl (fun hb2283 => ?_) (fun hb2283 => ?_)
       ·replace h := ift h (ct hb2283)
        refine sr ?_
        refine s_mv (v := .int .i64 3) rfl ?_
        refine s_as (v := .int .i64 0) rfl ?_
        refine s_as (v := .int .i64 3) rfl ?_
        refine dn ?_
        refine wp_ret (then_ret ?_)
        refine ret2 (fn := Try.f20) rfl ?_ ?_ ⟨0, 3, rfl, h, hC.below⟩ (.inl rfl)
        ·exact res_tmp rfl
        ·exact res_tmp rfl
       ·replace h := iff_ h (cf hb2283)
        refine wp_skip ?_
        refine then_norm ?_
        refine sr ?_
        refine s_mv (v := .pointer (some ⟨b53, 0, none⟩)) rfl ?_
        refine s_mv (v := .int .i64 a2) rfl ?_
        refine s_inline [.pointer (some ⟨b53, 0, none⟩), .int .i64 a2] Try.func65 rfl rfl 63 Try.ntmps65 (Nat.le_of_ble_eq_true rfl) rfl ?_
        refine sr ?_
        refine s_as (v := .pointer none) rfl ?_
        refine dn ?_
        refine wp_seq ?_
        refine sr ?_
        refine s_mv (v := .pointer (some ⟨b53, 0, none⟩)) rfl ?_
        refine s_nilchk rfl ?_
        refine s_faddrB 1 Try.underlying164 rfl sc162.size rfl rfl ?_
        refine s_loadS hC 4 (.map (some b50)) rfl sc162 rfl rfl ?_
        refine s_mv (v := .int .i64 a2) rfl ?_
        refine s_lookupE a2 (.pointer none) (hC.getM 5 rfl) kt2 Try.underlying162 z88 rfl rfl ?_
        refine s_mv (v := .tuple #[.pointer none, .bool false]) rfl ?_
        refine s_ext (v := .pointer none) rfl rfl ?_
        refine s_ext (v := .bool false) rfl rfl ?_
        refine s_as (v := .pointer none) rfl ?_
        refine s_as (v := .bool false) rfl ?_
        refine dn ?_
        refine sr ?_
        refine s_mv (v := .bool false) rfl ?_
        refine dn ?_
        refine cw_false rfl rfl ?_
        refine wp_skip ?_
        refine then_norm ?_
        refine sr ?_
        refine s_makeMap hC (kvA .i64) (vvI .i64) fun b2284 w2286 hB_ hC => ?_
        refine s_build [(1, .map (some b2284))] rfl (bl158_1map b2284  _) ?_
        refine s_box (v := .agg #[.slice none 0 0, .map (some b2284), .slice none 0 0, .slice none 0 0, .slice none 0 0, .slice none 0 0]) hC [.slice none 0 0, .map (some b2284), .slice none 0 0, .slice none 0 0, .slice none 0 0, .slice none 0 0] rfl rfl fun b2287 w2289 hB_ hC => ?_
        refine s_as (v := .pointer (some ⟨b2287, 0, none⟩)) rfl ?_
        refine dn ?_
        refine sr ?_
        refine s_mv (v := .pointer (some ⟨b2287, 0, none⟩)) rfl ?_
        refine s_mv (v := .pointer (some ⟨b53, 0, none⟩)) rfl ?_
        refine s_nilchk rfl ?_
        refine s_faddrB 0 Try.underlying164 rfl sc72.size rfl rfl ?_
        refine s_loadS hC 6 (.pointer (some ⟨b5, 0, none⟩)) rfl sc72 rfl rfl ?_
        refine s_nilchk rfl ?_
        refine s_faddrB 0 Try.underlying32 rfl sc22.size rfl rfl ?_
        refine s_loadS hC 8 (u0_0) rfl sc22 rfl rfl ?_
        refine s_mv (v := .int .i64 a2) rfl ?_
        refine s_call [u0_0, .int .i64 a2, .int .i64 120] _ Try.func91 rfl rfl rfl (c_impl_monomials a0.degrees a2 120 h _ (hC.getP 1 rfl)) (fun ret2290 w2292 hR2291 => ?_)
        obtain ⟨r2293, u2294, f2295, r2298, rfl, h, hr2296, hf2297, hB2299⟩ := hR2291
        refine ⟨_, rfl, ?_⟩
        replace hC := hC.push hB2299 (Tr.item (Tr.sl 101 ((EA .i64).tr)) r2293 [u2294] f2295) hr2296 hf2297
        obtain ⟨ho2301, hf2302⟩ := flat_tr (hC.getM 0 rfl).1
        subst hf2302
        replace hC := hC.recast (c := own 101 8 u2294 r2293.length ((EA .i64).encs r2293)) (fun _ h_ => h_) (fun _ => ho2301)
        refine s_mv (v := .tuple #[u2294, .bool r2298]) rfl ?_
        refine s_ext (v := u2294) rfl rfl ?_
        refine s_ext (v := .bool r2298) rfl rfl ?_
        refine s_nilchk rfl ?_
        refine s_faddrB 0 Try.underlying158 rfl sc121.size rfl rfl ?_
        refine s_store (v := u2294) hC 1 [u2294] [u2294, .map (some b2284), .slice none 0 0, .slice none 0 0, .slice none 0 0, .slice none 0 0] rfl sc121.size rfl rfl (own_cellsV (hC.getM 0 rfl)) rfl (all_c (own_oneC (hC.getM 0 rfl)) rfl) (Nat.le_of_ble_eq_true rfl) rfl fun w2304 hC => ?_
        refine dn ?_
        refine wp_seq ?_
        refine sr ?_
        refine s_mv (v := .pointer (some ⟨b2287, 0, none⟩)) rfl ?_
        refine s_nilchk rfl ?_
        refine s_faddrB 0 Try.underlying158 rfl sc121.size rfl rfl ?_
        refine s_loadS hC 1 (u2294) rfl sc121 rfl rfl ?_
        obtain ⟨Ad2305, c2306, hv2307⟩ := own_form (hC.getM 0 rfl)
        refine s_len Try.underlying121 (tr rfl hv2307) ?_
        refine s_mv (v := .int .i64 0) rfl ?_
        refine dn ?_
        refine wp_block ?_
        have hN2524 : r2293.length ≤ 9223372036854775807 := own_max (hC.getM 0 rfl)
        refine loopN (S := (List (A8 × Int))) _ _ (fun i2522 s2523 e_ w_ => Slots e_ [(0, .pointer (some ⟨b53, 0, none⟩)), (1, .int .i64 a2), (7, .pointer (some ⟨b2287, 0, none⟩)), (42, u2294), (43, .int .i64 (r2293.length : Int)), (44, .int .i64 (i2522 : Int))] ∧ Ctx Nox w0 w_ [own 101 8 u2294 r2293.length ((EA .i64).encs r2293), blk b2287 158 [u2294, .map (some b2284), .slice none 0 0, .slice none 0 0, .slice none 0 0, .slice none 0 0], mapI (kvA .i64) (vvI .i64) b2284 s2523, blk b53 164 [.pointer (some ⟨b5, 0, none⟩), .map (some b50)], mapI (vvI .i64) vvP b50 ([] : List (Int × Nat)), blk b5 32 [u0_0, u0_1]] [Ty.item TForm.sl a0.images [u0_1] fp0, Ty.item ((EI .i64).ty.sl) a0.degrees [u0_0] fp0, Ty.item TAlg a0 [u0_0, u0_1] fp0]) r2293.length ?_ ?_ (s0 := ([] : List (A8 × Int))) ?_ h
        ·clear hC h
         rintro i2522 s2523 e_ w2529 next2525 K2526 hi2528 ⟨hS_, hC⟩ h hK2527
         refine sr ?_
         refine s_lss (sx hS_ 5 rfl) (sx hS_ 4 rfl) ?_
         refine dn ?_
         refine wp_seq ?_
         refine cw_true rfl (decide_eq_true (by omega)) ?_
         refine wp_skip ?_
         refine then_norm ?_
         refine wp_seq ?_
         refine wp_block ?_
         refine sr ?_
         refine s_mv (v := .int .i64 (i2522 : Int)) (sx hS_ 5 rfl) ?_
         obtain ⟨Ad2530, c2531, hv2532⟩ := own_formE (hC.getM 0 rfl) (Nat.lt_of_le_of_lt (Nat.zero_le _) hi2528)
         refine s_iaddrO (i2522 * 8) Try.underlying121 ag101.size (tr (sx hS_ 3 rfl) hv2532) (sx hS_ 5 rfl) (Int.natCast_nonneg _) (Int.ofNat_lt.2 hi2528) rfl ?_
         refine s_loadCA (A8.enc .i64 (r2293.getD i2522 default)) (own_cellsE (hC.getM 0 rfl) hv2532 i2522 hi2528) ag101 rfl rfl ?_
         refine s_alloc hC (A8.enc .i64 A8.zero) z101 rfl fun b2533 w2535 hB_ hC => ?_
         refine s_as (v := .int .i64 (i2522 : Int)) rfl ?_
         refine s_store (v := .agg (List.toArray (A8.enc .i64 (r2293.getD i2522 default)))) hC 0 (A8.enc .i64 (r2293.getD i2522 default)) (A8.enc .i64 (r2293.getD i2522 default)) rfl ag101.size rfl rfl rfl rfl rfl (Nat.le_of_ble_eq_true rfl) rfl fun w2536 hC => ?_
         refine dn ?_
         refine cw_draw 6 mixed [0, 1, 3, 7, 0, 0, 63] [3, 4] [0, 1, 2, 5] (by kernel_rfl) (by kernel_rfl) (by kernel_rfl) (fun hM2538 hM2539 w2537 hB_ => ?_)
         replace hC := hC.grow hB_
         refine aF 0 (.pointer (some ⟨b2287, 0, none⟩)) rfl rfl (hM2539 0 rfl) (rfl) (fun _ => by exact r_mv (v := .pointer (some ⟨b2287, 0, none⟩)) (sx hS_ 2 rfl)) (dbits 7 1) ?_
         refine aF 1 (.pointer (some ⟨b2287, 0, none⟩)) rfl rfl (hM2539 1 rfl) (rfl) (fun _ => by exact r_nilchk rfl) (dbits 7 3) ?_
         refine aF 2 (.pointer (some ⟨b2287, 1, none⟩)) rfl rfl (hM2539 2 rfl) (rfl) (fun _ => by exact r_faddrB 1 Try.underlying158 rfl sc156.size rfl rfl) (dbits 7 7) ?_
         refine aL 3 (.map (some b2284)) rfl rfl (hM2538 3 rfl) (rfl) (fun _ hB_ => by exact r_loadS (hC.grow hB_) 2 (.map (some b2284)) rfl sc156 rfl rfl) (dbits 7 15) ?_
         refine aL 4 (.agg (List.toArray (A8.enc .i64 (r2293.getD i2522 default)))) rfl rfl (hM2538 4 rfl) (rfl) (fun _ hB_ => by exact r_loadA (hC.grow hB_) 0 (A8.enc .i64 (r2293.getD i2522 default)) rfl ag101 rfl rfl rfl) (dbits 7 31) ?_
         refine aF 5 (.int .i64 (i2522 : Int)) rfl rfl (hM2539 5 rfl) (rfl) (fun _ => by exact r_mv (v := .int .i64 (i2522 : Int)) rfl) (dbits 7 63) ?_
         refine ae_tail 6 (by decide) (by decide) (by kernel_rfl) (by kernel_rfl) rfl ?_
         refine s_mapset hC 3 (r2293.getD i2522 default) (i2522 : Int) rfl kt101 Try.underlying156 rfl rfl rfl (fun w2540 hC => ?_) (.inl rfl)
         refine done ?_
         refine qn_norm ?_
         refine blk_norm ?_
         refine then_norm ?_
         refine cw_region ?_
         refine s_add (sx hS_ 5 rfl) rfl ?_
         refine s_mv (v := .int .i64 (IntKind.i64.wrap ((i2522 : Int) + 1))) rfl ?_
         refine done ?_
         replace hC := hC.sM [1, 2, 3, 4, 5, 6] (M' := [own 101 8 u2294 r2293.length ((EA .i64).encs r2293), blk b2287 158 [u2294, .map (some b2284), .slice none 0 0, .slice none 0 0, .slice none 0 0, .slice none 0 0], mapI (kvA .i64) (vvI .i64) b2284 (mset s2523 (r2293.getD i2522 default) (i2522 : Int)), blk b53 164 [.pointer (some ⟨b5, 0, none⟩), .map (some b50)], mapI (vvI .i64) vvP b50 ([] : List (Int × Nat)), blk b5 32 [u0_0, u0_1]]) (by decide) rfl
         exact hK2527 (mset s2523 (r2293.getD i2522 default) (i2522 : Int)) _ _ ⟨(sk (sx hS_ 0 rfl) (sk (sx hS_ 1 rfl) (sk (sx hS_ 2 rfl) (sk (sx hS_ 3 rfl) (sk (sx hS_ 4 rfl) (sk (tr rfl (congrArg _ (wrap64_nat hi2528 hN2524))) sn)))))), hC⟩ h
        ·clear hC h
         rintro s2523 e_ w2541 K2526 ⟨hS_, hC⟩ h
         refine sr ?_
         refine s_lss (sx hS_ 5 rfl) (sx hS_ 4 rfl) ?_
         refine dn ?_
         refine wp_seq ?_
         refine cw_false rfl (decide_eq_false (by omega)) ?_
         refine wp_exit (then_exit (then_exit (exit_in ?_)))
         refine then_norm ?_
         refine sr ?_
         refine s_mv (v := .pointer (some ⟨b53, 0, none⟩)) (sx hS_ 0 rfl) ?_
         refine s_nilchk rfl ?_
         refine s_faddrB 1 Try.underlying164 rfl sc162.size rfl rfl ?_
         refine s_loadS hC 3 (.map (some b50)) rfl sc162 rfl rfl ?_
         refine s_mv (v := .int .i64 a2) (sx hS_ 1 rfl) ?_
         refine s_mv (v := .pointer (some ⟨b2287, 0, none⟩)) (sx hS_ 2 rfl) ?_
         refine s_mapset hC 4 a2 b2287 rfl kt2 Try.underlying162 rfl rfl rfl (fun w2542 hC => ?_) (.inl rfl)
         refine dn ?_
         refine sr ?_
         refine s_mv (v := .pointer (some ⟨b2287, 0, none⟩)) (sx hS_ 2 rfl) ?_
         refine s_as (v := .pointer (some ⟨b2287, 0, none⟩)) rfl ?_
         refine dn ?_
         refine wp_ret ?_
         refine ret1 (fn := Try.f65) (v := .pointer (some ⟨b2287, 0, none⟩)) rfl (res_tmp rfl) ⟨_, rfl, ?_⟩ (.inl rfl)
         refine s_mv (v := .int .i64 a1) rfl ?_
         refine s_inline [.pointer (some ⟨b2287, 0, none⟩), .int .i64 a1] Try.func66 rfl rfl 27 Try.ntmps66 (Nat.le_of_ble_eq_true rfl) rfl ?_
         refine sr ?_
         refine s_as (v := .slice none 0 0) rfl ?_
         refine dn ?_
         refine sr ?_
         refine s_bslice (sz := 1) hC [] (EB.encs []) rfl (fun _ => bs87_0  _) rfl (by decide) fun b2543 w2544 hB_ hC => ?_
         refine s_as (v := .slice (some ⟨b2543, 0, none⟩) 0 0) rfl ?_
         refine dn ?_
         refine wp_seq ?_
         refine sr ?_
         refine s_mv (v := .pointer (some ⟨b2287, 0, none⟩)) rfl ?_
         refine s_nilchk rfl ?_
         refine s_faddrB 0 Try.underlying158 rfl sc121.size rfl rfl ?_
         refine s_loadS hC 2 (u2294) rfl sc121 rfl rfl ?_
         obtain ⟨Ad2546, c2547, hv2548⟩ := own_form (hC.getM 1 rfl)
         refine s_len Try.underlying121 (tr rfl hv2548) ?_
         refine s_mv (v := .int .i64 0) rfl ?_
         refine dn ?_
         refine wp_block ?_
         have hN2605 : r2293.length ≤ 9223372036854775807 := own_max (hC.getM 1 rfl)
         refine loopN (S := (List Bool)) _ _ (fun i2602 s2603 e_ w_ => ∃ (v2604 : Value), Slots e_ [(1, .int .i64 a1), (4, .slice none 0 0), (5, v2604), (12, u2294), (13, .int .i64 (r2293.length : Int)), (14, .int .i64 (i2602 : Int))] ∧ Ctx Nox w0 w_ [own 4 1 v2604 s2603.length (EB.encs s2603), own 101 8 u2294 r2293.length ((EA .i64).encs r2293), blk b2287 158 [u2294, .map (some b2284), .slice none 0 0, .slice none 0 0, .slice none 0 0, .slice none 0 0], mapI (kvA .i64) (vvI .i64) b2284 s2523, blk b53 164 [.pointer (some ⟨b5, 0, none⟩), .map (some b50)], mapI (vvI .i64) vvP b50 (mset ([] : List (Int × Nat)) a2 b2287), blk b5 32 [u0_0, u0_1]] [Ty.item TForm.sl a0.images [u0_1] fp0, Ty.item ((EI .i64).ty.sl) a0.degrees [u0_0] fp0, Ty.item TAlg a0 [u0_0, u0_1] fp0]) r2293.length ?_ ?_ (s0 := []) ?_ h
         ·clear hC h
          rintro i2602 s2603 e_ w2610 next2606 K2607 hi2609 ⟨v2604, hS_, hC⟩ h hK2608
          refine sr ?_
          refine s_lss (sx hS_ 5 rfl) (sx hS_ 4 rfl) ?_
          refine dn ?_
          refine wp_seq ?_
          refine cw_true rfl (decide_eq_true (by omega)) ?_
          refine wp_skip ?_
          refine then_norm ?_
          refine wp_seq ?_
          refine wp_block ?_
          refine sr ?_
          obtain ⟨Ad2611, c2612, hv2613⟩ := own_formE (hC.getM 1 rfl) (Nat.lt_of_le_of_lt (Nat.zero_le _) hi2609)
          refine s_iaddrO (i2602 * 8) Try.underlying121 ag101.size (tr (sx hS_ 3 rfl) hv2613) (sx hS_ 5 rfl) (Int.natCast_nonneg _) (Int.ofNat_lt.2 hi2609) rfl ?_
          refine s_loadCA (A8.enc .i64 (r2293.getD i2602 default)) (own_cellsE (hC.getM 1 rfl) hv2613 i2602 hi2609) ag101 rfl rfl ?_
          refine s_alloc hC (A8.enc .i64 A8.zero) z101 rfl fun b2614 w2616 hB_ hC => ?_
          refine s_store (v := .agg (List.toArray (A8.enc .i64 (r2293.getD i2602 default)))) hC 0 (A8.enc .i64 (r2293.getD i2602 default)) (A8.enc .i64 (r2293.getD i2602 default)) rfl ag101.size rfl rfl rfl rfl rfl (Nat.le_of_ble_eq_true rfl) rfl fun w2617 hC => ?_
          refine dn ?_
          refine cw_region ?_
          refine s_mv (v := v2604) (sx hS_ 2 rfl) ?_
          refine s_loadA hC 0 (A8.enc .i64 (r2293.getD i2602 default)) rfl ag101 rfl rfl rfl ?_
          refine s_call [.agg (List.toArray (A8.enc .i64 (r2293.getD i2602 default)))] _ Try.func117 rfl rfl rfl (c_impl_power_length (r2293.getD i2602 default) h _) (fun ret2618 w2620 hR2619 => ?_)
          obtain ⟨r2621, rfl, h, hB2622⟩ := hR2619
          refine ⟨_, rfl, ?_⟩
          replace hC := hC.grow hB2622
          refine s_mv (v := .int .i64 a1) (sx hS_ 0 rfl) ?_
          refine s_geq rfl rfl ?_
          refine s_bslice (sz := 1) hC [(0, .bool (decide (r2621 ≥ a1)))] (EB.encs [decide (r2621 ≥ a1)]) rfl (fun _ => bs87_1 (decide (r2621 ≥ a1)) _) rfl (by decide) fun b2623 w2624 hB_ hC => ?_
          obtain ⟨hm2628, h⟩ := h
          refine s_app hC 2 Try.underlying87 el4 rfl (by decide) (by decide) rfl (own_rdr (hC.getM 0 rfl)) (fun q hq => Enc.encs_one' (E := EB) _ q hq) rfl rfl hm2628 fun v2626 w2627 hC => ?_
          replace hC := own_re hC 2 ((s2603 ++ [decide (r2621 ≥ a1)]).length) (EB.encs (s2603 ++ [decide (r2621 ≥ a1)])) rfl (by simp) (by first | (simp [Enc.encs_append]; done) | simp [Enc.encs_append, Enc.encs])
          refine s_as (v := v2626) rfl ?_
          refine done ?_
          refine blk_norm ?_
          refine then_norm ?_
          refine cw_region ?_
          refine s_add (sx hS_ 5 rfl) rfl ?_
          refine s_mv (v := .int .i64 (IntKind.i64.wrap ((i2602 : Int) + 1))) rfl ?_
          refine done ?_
          replace hC := hC.sM [2, 3, 4, 5, 6, 7, 8] (M' := [own 4 1 v2626 ((s2603 ++ [decide (r2621 ≥ a1)]).length) (EB.encs (s2603 ++ [decide (r2621 ≥ a1)])), own 101 8 u2294 r2293.length ((EA .i64).encs r2293), blk b2287 158 [u2294, .map (some b2284), .slice none 0 0, .slice none 0 0, .slice none 0 0, .slice none 0 0], mapI (kvA .i64) (vvI .i64) b2284 s2523, blk b53 164 [.pointer (some ⟨b5, 0, none⟩), .map (some b50)], mapI (vvI .i64) vvP b50 (mset ([] : List (Int × Nat)) a2 b2287), blk b5 32 [u0_0, u0_1]]) (by decide) rfl
          exact hK2608 (s2603 ++ [decide (r2621 ≥ a1)]) _ _ ⟨v2626, (sk (sx hS_ 0 rfl) (sk (sx hS_ 1 rfl) (sk rfl (sk (sx hS_ 3 rfl) (sk (sx hS_ 4 rfl) (sk (tr rfl (congrArg _ (wrap64_nat hi2609 hN2605))) sn)))))), hC⟩ h
         ·clear hC h
          rintro s2603 e_ w2629 K2607 ⟨v2604, hS_, hC⟩ h
          refine sr ?_
          refine s_lss (sx hS_ 5 rfl) (sx hS_ 4 rfl) ?_
          refine dn ?_
          refine wp_seq ?_
          refine cw_false rfl (decide_eq_false (by omega)) ?_
          refine wp_exit (then_exit (then_exit (exit_in ?_)))
          refine then_norm ?_
          refine sr ?_
          refine s_mv (v := v2604) (sx hS_ 2 rfl) ?_
          refine s_as (v := v2604) rfl ?_
          refine dn ?_
          refine wp_ret ?_
          refine ret1 (fn := Try.f66) (v := v2604) rfl (res_tmp rfl) ⟨_, rfl, ?_⟩ (.inl rfl)
          refine s_call [v2604] _ Try.func64 rfl rfl rfl (c_impl_count s2603 h _ (own_repE (hC.getM 0 rfl))) (fun ret2630 w2632 hR2631 => ?_)
          obtain ⟨r2633, rfl, h, hB2634⟩ := hR2631
          refine ⟨_, rfl, ?_⟩
          replace hC := hC.grow hB2634
          refine s_as (v := .int .i64 r2633) rfl ?_
          refine s_as (v := .int .i64 0) rfl ?_
          refine dn ?_
          refine wp_ret ?_
          refine ret2 (fn := Try.f20) rfl ?_ ?_ ⟨r2633, 0, rfl, h, hC.below⟩ (.inl rfl)
          ·exact res_tmp rfl
          ·exact res_tmp rfl
         ·skip
          exact ⟨.slice (some ⟨b2543, 0, none⟩) 0 0, (sk rfl (sk rfl (sk rfl (sk rfl (sk rfl (sk rfl sn)))))), hC⟩
        ·skip
         replace hC := hC.sM [0, 1, 2, 7, 8, 9] (M' := [own 101 8 u2294 r2293.length ((EA .i64).encs r2293), blk b2287 158 [u2294, .map (some b2284), .slice none 0 0, .slice none 0 0, .slice none 0 0, .slice none 0 0], mapI (kvA .i64) (vvI .i64) b2284 ([] : List (A8 × Int)), blk b53 164 [.pointer (some ⟨b5, 0, none⟩), .map (some b50)], mapI (vvI .i64) vvP b50 ([] : List (Int × Nat)), blk b5 32 [u0_0, u0_1]]) (by decide) rfl
         exact ⟨(sk rfl (sk rfl (sk rfl (sk rfl (sk rfl (sk rfl sn)))))), hC⟩
      ·replace h := iff_ h (not_not_intro ((not_f hb2282)))
       refine wp_skip ?_
       refine blk_norm ?_
       refine then_norm ?_
       refine cw_region ?_
       refine s_add (slot hSi1533 4 rfl) rfl ?_
       refine s_mv (v := .int .i64 (IntKind.i64.wrap ((i1522 : Int) + 1))) rfl ?_
       refine done ?_
       replace hC := hC.sM [3, 4, 5, 6] (M' := [own 2 1 (.slice (some ⟨b57, 0, none⟩) 1 1) ([a2].length) ((EI .i64).encs [a2]), blk b53 164 [.pointer (some ⟨b5, 0, none⟩), .map (some b50)], mapI (vvI .i64) vvP b50 ([] : List (Int × Nat)), blk b5 32 [u0_0, u0_1]]) (by decide) rfl
       exact hK1527 () _ _ ⟨(sk (slot hSi1533 0 rfl) (sk (slot hSi1533 1 rfl) (sk (slot hSi1533 2 rfl) (sk (slot hSi1533 3 rfl) (sk (tr rfl (congrArg _ (wrap64_nat hi1528 hN1524))) sn))))), hC⟩ h
   ·clear hC h
    rintro s1523 e_ w2635 K1526 ⟨hS_, hC⟩ h
    refine sr ?_
    refine s_lss (sx hS_ 4 rfl) (sx hS_ 3 rfl) ?_
    refine dn ?_
    refine wp_seq ?_
    refine cw_false rfl (decide_eq_false (by omega)) ?_
    refine wp_exit (then_exit (then_exit (exit_in ?_)))
    refine then_norm ?_
    refine sr ?_
    refine s_as (v := .int .i64 0) rfl ?_
    refine dn ?_
    refine wp_ret ?_
    refine ret1 (fn := Try.f116) (v := .int .i64 0) rfl (res_tmp rfl) ⟨_, rfl, ?_⟩ (.inl rfl)
    refine s_as (v := .int .i64 0) rfl ?_
    refine dn ?_
    refine sr ?_
    refine s_mv (v := .pointer (some ⟨b53, 0, none⟩)) rfl ?_
    refine s_mv (v := .int .i64 0) rfl ?_
    refine s_as (v := .pointer (some ⟨b53, 0, none⟩)) rfl ?_
    refine s_as (v := .int .i64 0) rfl ?_
    refine dn ?_
    refine wp_ret ?_
    refine ret2 (fn := Try.f57) (v := .pointer (some ⟨b53, 0, none⟩)) (u := .int .i64 0) rfl (res_tmp rfl) (res_tmp rfl) ⟨_, rfl, ?_⟩ (.inl rfl)
    refine s_mv (v := .tuple #[.pointer (some ⟨b53, 0, none⟩), .int .i64 0]) rfl ?_
    refine s_ext (v := .pointer (some ⟨b53, 0, none⟩)) rfl rfl ?_
    refine s_ext (v := .int .i64 0) rfl rfl ?_
    refine s_as (v := .pointer (some ⟨b53, 0, none⟩)) rfl ?_
    refine s_as (v := .int .i64 0) rfl ?_
    refine dn ?_
    refine wp_seq ?_
    refine sr ?_
    refine s_mv (v := .int .i64 0) rfl ?_
    refine s_neq rfl rfl ?_
    refine dn ?_
    refine cw_cond rfl (fun hb2636 => ?_) (fun hb2636 => ?_)
    ·replace h := ift h (ct hb2636)
     refine sr ?_
     refine s_mv (v := .int .i64 0) rfl ?_
     refine s_as (v := .int .i64 0) rfl ?_
     refine s_as (v := .int .i64 0) rfl ?_
     refine dn ?_
     refine wp_ret (then_ret ?_)
     refine ret2 (fn := Try.f20) rfl ?_ ?_ ⟨0, 0, rfl, h, hC.below⟩ (.inl rfl)
     ·exact res_tmp rfl
     ·exact res_tmp rfl
    ·replace h := iff_ h (cf hb2636)
     refine wp_skip ?_
     refine then_norm ?_
     refine sr ?_
     refine s_mv (v := .pointer (some ⟨b53, 0, none⟩)) rfl ?_
     refine s_mv (v := .int .i64 a2) rfl ?_
     refine s_inline [.pointer (some ⟨b53, 0, none⟩), .int .i64 a2] Try.func65 rfl rfl 63 Try.ntmps65 (Nat.le_of_ble_eq_true rfl) rfl ?_
     refine sr ?_
     refine s_as (v := .pointer none) rfl ?_
     refine dn ?_
     refine wp_seq ?_
     refine sr ?_
     refine s_mv (v := .pointer (some ⟨b53, 0, none⟩)) rfl ?_
     refine s_nilchk rfl ?_
     refine s_faddrB 1 Try.underlying164 rfl sc162.size rfl rfl ?_
     refine s_loadS hC 1 (.map (some b50)) rfl sc162 rfl rfl ?_
     refine s_mv (v := .int .i64 a2) rfl ?_
     refine s_lookupE a2 (.pointer none) (hC.getM 2 rfl) kt2 Try.underlying162 z88 rfl rfl ?_
     refine s_mv (v := .tuple #[.pointer none, .bool false]) rfl ?_
     refine s_ext (v := .pointer none) rfl rfl ?_
     refine s_ext (v := .bool false) rfl rfl ?_
     refine s_as (v := .pointer none) rfl ?_
     refine s_as (v := .bool false) rfl ?_
     refine dn ?_
     refine sr ?_
     refine s_mv (v := .bool false) rfl ?_
     refine dn ?_
     refine cw_false rfl rfl ?_
     refine wp_skip ?_
     refine then_norm ?_
     refine sr ?_
     refine s_makeMap hC (kvA .i64) (vvI .i64) fun b2637 w2639 hB_ hC => ?_
     refine s_build [(1, .map (some b2637))] rfl (bl158_1map b2637  _) ?_
     refine s_box (v := .agg #[.slice none 0 0, .map (some b2637), .slice none 0 0, .slice none 0 0, .slice none 0 0, .slice none 0 0]) hC [.slice none 0 0, .map (some b2637), .slice none 0 0, .slice none 0 0, .slice none 0 0, .slice none 0 0] rfl rfl fun b2640 w2642 hB_ hC => ?_
     refine s_as (v := .pointer (some ⟨b2640, 0, none⟩)) rfl ?_
     refine dn ?_
     refine sr ?_
     refine s_mv (v := .pointer (some ⟨b2640, 0, none⟩)) rfl ?_
     refine s_mv (v := .pointer (some ⟨b53, 0, none⟩)) rfl ?_
     refine s_nilchk rfl ?_
     refine s_faddrB 0 Try.underlying164 rfl sc72.size rfl rfl ?_
     refine s_loadS hC 3 (.pointer (some ⟨b5, 0, none⟩)) rfl sc72 rfl rfl ?_
     refine s_nilchk rfl ?_
     refine s_faddrB 0 Try.underlying32 rfl sc22.size rfl rfl ?_
     refine s_loadS hC 5 (u0_0) rfl sc22 rfl rfl ?_
     refine s_mv (v := .int .i64 a2) rfl ?_
     refine s_call [u0_0, .int .i64 a2, .int .i64 120] _ Try.func91 rfl rfl rfl (c_impl_monomials a0.degrees a2 120 h _ (hC.getP 1 rfl)) (fun ret2643 w2645 hR2644 => ?_)
     obtain ⟨r2646, u2647, f2648, r2651, rfl, h, hr2649, hf2650, hB2652⟩ := hR2644
     refine ⟨_, rfl, ?_⟩
     replace hC := hC.push hB2652 (Tr.item (Tr.sl 101 ((EA .i64).tr)) r2646 [u2647] f2648) hr2649 hf2650
     obtain ⟨ho2654, hf2655⟩ := flat_tr (hC.getM 0 rfl).1
     subst hf2655
     replace hC := hC.recast (c := own 101 8 u2647 r2646.length ((EA .i64).encs r2646)) (fun _ h_ => h_) (fun _ => ho2654)
     refine s_mv (v := .tuple #[u2647, .bool r2651]) rfl ?_
     refine s_ext (v := u2647) rfl rfl ?_
     refine s_ext (v := .bool r2651) rfl rfl ?_
     refine s_nilchk rfl ?_
     refine s_faddrB 0 Try.underlying158 rfl sc121.size rfl rfl ?_
     refine s_store (v := u2647) hC 1 [u2647] [u2647, .map (some b2637), .slice none 0 0, .slice none 0 0, .slice none 0 0, .slice none 0 0] rfl sc121.size rfl rfl (own_cellsV (hC.getM 0 rfl)) rfl (all_c (own_oneC (hC.getM 0 rfl)) rfl) (Nat.le_of_ble_eq_true rfl) rfl fun w2657 hC => ?_
     refine dn ?_
     refine wp_seq ?_
     refine sr ?_
     refine s_mv (v := .pointer (some ⟨b2640, 0, none⟩)) rfl ?_
     refine s_nilchk rfl ?_
     refine s_faddrB 0 Try.underlying158 rfl sc121.size rfl rfl ?_
     refine s_loadS hC 1 (u2647) rfl sc121 rfl rfl ?_
     obtain ⟨Ad2658, c2659, hv2660⟩ := own_form (hC.getM 0 rfl)
     refine s_len Try.underlying121 (tr rfl hv2660) ?_
     refine s_mv (v := .int .i64 0) rfl ?_
     refine dn ?_
     refine wp_block ?_
     have hN2877 : r2646.length ≤ 9223372036854775807 := own_max (hC.getM 0 rfl)
     refine loopN (S := (List (A8 × Int))) _ _ (fun i2875 s2876 e_ w_ => Slots e_ [(0, .pointer (some ⟨b53, 0, none⟩)), (1, .int .i64 a2), (7, .pointer (some ⟨b2640, 0, none⟩)), (42, u2647), (43, .int .i64 (r2646.length : Int)), (44, .int .i64 (i2875 : Int))] ∧ Ctx Nox w0 w_ [own 101 8 u2647 r2646.length ((EA .i64).encs r2646), blk b2640 158 [u2647, .map (some b2637), .slice none 0 0, .slice none 0 0, .slice none 0 0, .slice none 0 0], mapI (kvA .i64) (vvI .i64) b2637 s2876, blk b53 164 [.pointer (some ⟨b5, 0, none⟩), .map (some b50)], mapI (vvI .i64) vvP b50 ([] : List (Int × Nat)), blk b5 32 [u0_0, u0_1]] [Ty.item TForm.sl a0.images [u0_1] fp0, Ty.item ((EI .i64).ty.sl) a0.degrees [u0_0] fp0, Ty.item TAlg a0 [u0_0, u0_1] fp0]) r2646.length ?_ ?_ (s0 := ([] : List (A8 × Int))) ?_ h
     ·clear hC h
      rintro i2875 s2876 e_ w2882 next2878 K2879 hi2881 ⟨hS_, hC⟩ h hK2880
      refine sr ?_
      refine s_lss (sx hS_ 5 rfl) (sx hS_ 4 rfl) ?_
      refine dn ?_
      refine wp_seq ?_
      refine cw_true rfl (decide_eq_true (by omega)) ?_
      refine wp_skip ?_
      refine then_norm ?_
      refine wp_seq ?_
      refine wp_block ?_
      refine sr ?_
      refine s_mv (v := .int .i64 (i2875 : Int)) (sx hS_ 5 rfl) ?_
      obtain ⟨Ad2883, c2884, hv2885⟩ := own_formE (hC.getM 0 rfl) (Nat.lt_of_le_of_lt (Nat.zero_le _) hi2881)
      refine s_iaddrO (i2875 * 8) Try.underlying121 ag101.size (tr (sx hS_ 3 rfl) hv2885) (sx hS_ 5 rfl) (Int.natCast_nonneg _) (Int.ofNat_lt.2 hi2881) rfl ?_
      refine s_loadCA (A8.enc .i64 (r2646.getD i2875 default)) (own_cellsE (hC.getM 0 rfl) hv2885 i2875 hi2881) ag101 rfl rfl ?_
      refine s_alloc hC (A8.enc .i64 A8.zero) z101 rfl fun b2886 w2888 hB_ hC => ?_
      refine s_as (v := .int .i64 (i2875 : Int)) rfl ?_
      refine s_store (v := .agg (List.toArray (A8.enc .i64 (r2646.getD i2875 default)))) hC 0 (A8.enc .i64 (r2646.getD i2875 default)) (A8.enc .i64 (r2646.getD i2875 default)) rfl ag101.size rfl rfl rfl rfl rfl (Nat.le_of_ble_eq_true rfl) rfl fun w2889 hC => ?_
      refine dn ?_
      refine cw_draw 6 mixed [0, 1, 3, 7, 0, 0, 63] [3, 4] [0, 1, 2, 5] (by kernel_rfl) (by kernel_rfl) (by kernel_rfl) (fun hM2891 hM2892 w2890 hB_ => ?_)
      replace hC := hC.grow hB_
      refine aF 0 (.pointer (some ⟨b2640, 0, none⟩)) rfl rfl (hM2892 0 rfl) (rfl) (fun _ => by exact r_mv (v := .pointer (some ⟨b2640, 0, none⟩)) (sx hS_ 2 rfl)) (dbits 7 1) ?_
      refine aF 1 (.pointer (some ⟨b2640, 0, none⟩)) rfl rfl (hM2892 1 rfl) (rfl) (fun _ => by exact r_nilchk rfl) (dbits 7 3) ?_
      refine aF 2 (.pointer (some ⟨b2640, 1, none⟩)) rfl rfl (hM2892 2 rfl) (rfl) (fun _ => by exact r_faddrB 1 Try.underlying158 rfl sc156.size rfl rfl) (dbits 7 7) ?_
      refine aL 3 (.map (some b2637)) rfl rfl (hM2891 3 rfl) (rfl) (fun _ hB_ => by exact r_loadS (hC.grow hB_) 2 (.map (some b2637)) rfl sc156 rfl rfl) (dbits 7 15) ?_
      refine aL 4 (.agg (List.toArray (A8.enc .i64 (r2646.getD i2875 default)))) rfl rfl (hM2891 4 rfl) (rfl) (fun _ hB_ => by exact r_loadA (hC.grow hB_) 0 (A8.enc .i64 (r2646.getD i2875 default)) rfl ag101 rfl rfl rfl) (dbits 7 31) ?_
      refine aF 5 (.int .i64 (i2875 : Int)) rfl rfl (hM2892 5 rfl) (rfl) (fun _ => by exact r_mv (v := .int .i64 (i2875 : Int)) rfl) (dbits 7 63) ?_
      refine ae_tail 6 (by decide) (by decide) (by kernel_rfl) (by kernel_rfl) rfl ?_
      refine s_mapset hC 3 (r2646.getD i2875 default) (i2875 : Int) rfl kt101 Try.underlying156 rfl rfl rfl (fun w2893 hC => ?_) (.inl rfl)
      refine done ?_
      refine qn_norm ?_
      refine blk_norm ?_
      refine then_norm ?_
      refine cw_region ?_
      refine s_add (sx hS_ 5 rfl) rfl ?_
      refine s_mv (v := .int .i64 (IntKind.i64.wrap ((i2875 : Int) + 1))) rfl ?_
      refine done ?_
      replace hC := hC.sM [1, 2, 3, 4, 5, 6] (M' := [own 101 8 u2647 r2646.length ((EA .i64).encs r2646), blk b2640 158 [u2647, .map (some b2637), .slice none 0 0, .slice none 0 0, .slice none 0 0, .slice none 0 0], mapI (kvA .i64) (vvI .i64) b2637 (mset s2876 (r2646.getD i2875 default) (i2875 : Int)), blk b53 164 [.pointer (some ⟨b5, 0, none⟩), .map (some b50)], mapI (vvI .i64) vvP b50 ([] : List (Int × Nat)), blk b5 32 [u0_0, u0_1]]) (by decide) rfl
      exact hK2880 (mset s2876 (r2646.getD i2875 default) (i2875 : Int)) _ _ ⟨(sk (sx hS_ 0 rfl) (sk (sx hS_ 1 rfl) (sk (sx hS_ 2 rfl) (sk (sx hS_ 3 rfl) (sk (sx hS_ 4 rfl) (sk (tr rfl (congrArg _ (wrap64_nat hi2881 hN2877))) sn)))))), hC⟩ h
     ·clear hC h
      rintro s2876 e_ w2894 K2879 ⟨hS_, hC⟩ h
      refine sr ?_
      refine s_lss (sx hS_ 5 rfl) (sx hS_ 4 rfl) ?_
      refine dn ?_
      refine wp_seq ?_
      refine cw_false rfl (decide_eq_false (by omega)) ?_
      refine wp_exit (then_exit (then_exit (exit_in ?_)))
      refine then_norm ?_
      refine sr ?_
      refine s_mv (v := .pointer (some ⟨b53, 0, none⟩)) (sx hS_ 0 rfl) ?_
      refine s_nilchk rfl ?_
      refine s_faddrB 1 Try.underlying164 rfl sc162.size rfl rfl ?_
      refine s_loadS hC 3 (.map (some b50)) rfl sc162 rfl rfl ?_
      refine s_mv (v := .int .i64 a2) (sx hS_ 1 rfl) ?_
      refine s_mv (v := .pointer (some ⟨b2640, 0, none⟩)) (sx hS_ 2 rfl) ?_
      refine s_mapset hC 4 a2 b2640 rfl kt2 Try.underlying162 rfl rfl rfl (fun w2895 hC => ?_) (.inl rfl)
      refine dn ?_
      refine sr ?_
      refine s_mv (v := .pointer (some ⟨b2640, 0, none⟩)) (sx hS_ 2 rfl) ?_
      refine s_as (v := .pointer (some ⟨b2640, 0, none⟩)) rfl ?_
      refine dn ?_
      refine wp_ret ?_
      refine ret1 (fn := Try.f65) (v := .pointer (some ⟨b2640, 0, none⟩)) rfl (res_tmp rfl) ⟨_, rfl, ?_⟩ (.inl rfl)
      refine s_mv (v := .int .i64 a1) rfl ?_
      refine s_inline [.pointer (some ⟨b2640, 0, none⟩), .int .i64 a1] Try.func66 rfl rfl 27 Try.ntmps66 (Nat.le_of_ble_eq_true rfl) rfl ?_
      refine sr ?_
      refine s_as (v := .slice none 0 0) rfl ?_
      refine dn ?_
      refine sr ?_
      refine s_bslice (sz := 1) hC [] (EB.encs []) rfl (fun _ => bs87_0  _) rfl (by decide) fun b2896 w2897 hB_ hC => ?_
      refine s_as (v := .slice (some ⟨b2896, 0, none⟩) 0 0) rfl ?_
      refine dn ?_
      refine wp_seq ?_
      refine sr ?_
      refine s_mv (v := .pointer (some ⟨b2640, 0, none⟩)) rfl ?_
      refine s_nilchk rfl ?_
      refine s_faddrB 0 Try.underlying158 rfl sc121.size rfl rfl ?_
      refine s_loadS hC 2 (u2647) rfl sc121 rfl rfl ?_
      obtain ⟨Ad2899, c2900, hv2901⟩ := own_form (hC.getM 1 rfl)
      refine s_len Try.underlying121 (tr rfl hv2901) ?_
      refine s_mv (v := .int .i64 0) rfl ?_
      refine dn ?_
      refine wp_block ?_
      have hN2958 : r2646.length ≤ 9223372036854775807 := own_max (hC.getM 1 rfl)
      refine loopN (S := (List Bool)) _ _ (fun i2955 s2956 e_ w_ => ∃ (v2957 : Value), Slots e_ [(1, .int .i64 a1), (4, .slice none 0 0), (5, v2957), (12, u2647), (13, .int .i64 (r2646.length : Int)), (14, .int .i64 (i2955 : Int))] ∧ Ctx Nox w0 w_ [own 4 1 v2957 s2956.length (EB.encs s2956), own 101 8 u2647 r2646.length ((EA .i64).encs r2646), blk b2640 158 [u2647, .map (some b2637), .slice none 0 0, .slice none 0 0, .slice none 0 0, .slice none 0 0], mapI (kvA .i64) (vvI .i64) b2637 s2876, blk b53 164 [.pointer (some ⟨b5, 0, none⟩), .map (some b50)], mapI (vvI .i64) vvP b50 (mset ([] : List (Int × Nat)) a2 b2640), blk b5 32 [u0_0, u0_1]] [Ty.item TForm.sl a0.images [u0_1] fp0, Ty.item ((EI .i64).ty.sl) a0.degrees [u0_0] fp0, Ty.item TAlg a0 [u0_0, u0_1] fp0]) r2646.length ?_ ?_ (s0 := []) ?_ h
      ·clear hC h
       rintro i2955 s2956 e_ w2963 next2959 K2960 hi2962 ⟨v2957, hS_, hC⟩ h hK2961
       refine sr ?_
       refine s_lss (sx hS_ 5 rfl) (sx hS_ 4 rfl) ?_
       refine dn ?_
       refine wp_seq ?_
       refine cw_true rfl (decide_eq_true (by omega)) ?_
       refine wp_skip ?_
       refine then_norm ?_
       refine wp_seq ?_
       refine wp_block ?_
       refine sr ?_
       obtain ⟨Ad2964, c2965, hv2966⟩ := own_formE (hC.getM 1 rfl) (Nat.lt_of_le_of_lt (Nat.zero_le _) hi2962)
       refine s_iaddrO (i2955 * 8) Try.underlying121 ag101.size (tr (sx hS_ 3 rfl) hv2966) (sx hS_ 5 rfl) (Int.natCast_nonneg _) (Int.ofNat_lt.2 hi2962) rfl ?_
       refine s_loadCA (A8.enc .i64 (r2646.getD i2955 default)) (own_cellsE (hC.getM 1 rfl) hv2966 i2955 hi2962) ag101 rfl rfl ?_
       refine s_alloc hC (A8.enc .i64 A8.zero) z101 rfl fun b2967 w2969 hB_ hC => ?_
       refine s_store (v := .agg (List.toArray (A8.enc .i64 (r2646.getD i2955 default)))) hC 0 (A8.enc .i64 (r2646.getD i2955 default)) (A8.enc .i64 (r2646.getD i2955 default)) rfl ag101.size rfl rfl rfl rfl rfl (Nat.le_of_ble_eq_true rfl) rfl fun w2970 hC => ?_
       refine dn ?_
       refine cw_region ?_
       refine s_mv (v := v2957) (sx hS_ 2 rfl) ?_
       refine s_loadA hC 0 (A8.enc .i64 (r2646.getD i2955 default)) rfl ag101 rfl rfl rfl ?_
       refine s_call [.agg (List.toArray (A8.enc .i64 (r2646.getD i2955 default)))] _ Try.func117 rfl rfl rfl (c_impl_power_length (r2646.getD i2955 default) h _) (fun ret2971 w2973 hR2972 => ?_)
       obtain ⟨r2974, rfl, h, hB2975⟩ := hR2972
       refine ⟨_, rfl, ?_⟩
       replace hC := hC.grow hB2975
       refine s_mv (v := .int .i64 a1) (sx hS_ 0 rfl) ?_
       refine s_geq rfl rfl ?_
       refine s_bslice (sz := 1) hC [(0, .bool (decide (r2974 ≥ a1)))] (EB.encs [decide (r2974 ≥ a1)]) rfl (fun _ => bs87_1 (decide (r2974 ≥ a1)) _) rfl (by decide) fun b2976 w2977 hB_ hC => ?_
       obtain ⟨hm2981, h⟩ := h
       refine s_app hC 2 Try.underlying87 el4 rfl (by decide) (by decide) rfl (own_rdr (hC.getM 0 rfl)) (fun q hq => Enc.encs_one' (E := EB) _ q hq) rfl rfl hm2981 fun v2979 w2980 hC => ?_
       replace hC := own_re hC 2 ((s2956 ++ [decide (r2974 ≥ a1)]).length) (EB.encs (s2956 ++ [decide (r2974 ≥ a1)])) rfl (by simp) (by first | (simp [Enc.encs_append]; done) | simp [Enc.encs_append, Enc.encs])
       refine s_as (v := v2979) rfl ?_
       refine done ?_
       refine blk_norm ?_
       refine then_norm ?_
       refine cw_region ?_
       refine s_add (sx hS_ 5 rfl) rfl ?_
       refine s_mv (v := .int .i64 (IntKind.i64.wrap ((i2955 : Int) + 1))) rfl ?_
       refine done ?_
       replace hC := hC.sM [2, 3, 4, 5, 6, 7, 8] (M' := [own 4 1 v2979 ((s2956 ++ [decide (r2974 ≥ a1)]).length) (EB.encs (s2956 ++ [decide (r2974 ≥ a1)])), own 101 8 u2647 r2646.length ((EA .i64).encs r2646), blk b2640 158 [u2647, .map (some b2637), .slice none 0 0, .slice none 0 0, .slice none 0 0, .slice none 0 0], mapI (kvA .i64) (vvI .i64) b2637 s2876, blk b53 164 [.pointer (some ⟨b5, 0, none⟩), .map (some b50)], mapI (vvI .i64) vvP b50 (mset ([] : List (Int × Nat)) a2 b2640), blk b5 32 [u0_0, u0_1]]) (by decide) rfl
       exact hK2961 (s2956 ++ [decide (r2974 ≥ a1)]) _ _ ⟨v2979, (sk (sx hS_ 0 rfl) (sk (sx hS_ 1 rfl) (sk rfl (sk (sx hS_ 3 rfl) (sk (sx hS_ 4 rfl) (sk (tr rfl (congrArg _ (wrap64_nat hi2962 hN2958))) sn)))))), hC⟩ h
      ·clear hC h
       rintro s2956 e_ w2982 K2960 ⟨v2957, hS_, hC⟩ h
       refine sr ?_
       refine s_lss (sx hS_ 5 rfl) (sx hS_ 4 rfl) ?_
       refine dn ?_
       refine wp_seq ?_
       refine cw_false rfl (decide_eq_false (by omega)) ?_
       refine wp_exit (then_exit (then_exit (exit_in ?_)))
       refine then_norm ?_
       refine sr ?_
       refine s_mv (v := v2957) (sx hS_ 2 rfl) ?_
       refine s_as (v := v2957) rfl ?_
       refine dn ?_
       refine wp_ret ?_
       refine ret1 (fn := Try.f66) (v := v2957) rfl (res_tmp rfl) ⟨_, rfl, ?_⟩ (.inl rfl)
       refine s_call [v2957] _ Try.func64 rfl rfl rfl (c_impl_count s2956 h _ (own_repE (hC.getM 0 rfl))) (fun ret2983 w2985 hR2984 => ?_)
       obtain ⟨r2986, rfl, h, hB2987⟩ := hR2984
       refine ⟨_, rfl, ?_⟩
       replace hC := hC.grow hB2987
       refine s_as (v := .int .i64 r2986) rfl ?_
       refine s_as (v := .int .i64 0) rfl ?_
       refine dn ?_
       refine wp_ret ?_
       refine ret2 (fn := Try.f20) rfl ?_ ?_ ⟨r2986, 0, rfl, h, hC.below⟩ (.inl rfl)
       ·exact res_tmp rfl
       ·exact res_tmp rfl
      ·skip
       exact ⟨.slice (some ⟨b2896, 0, none⟩) 0 0, (sk rfl (sk rfl (sk rfl (sk rfl (sk rfl (sk rfl sn)))))), hC⟩
     ·skip
      replace hC := hC.sM [0, 1, 2, 4, 5, 6] (M' := [own 101 8 u2647 r2646.length ((EA .i64).encs r2646), blk b2640 158 [u2647, .map (some b2637), .slice none 0 0, .slice none 0 0, .slice none 0 0, .slice none 0 0], mapI (kvA .i64) (vvI .i64) b2637 ([] : List (A8 × Int)), blk b53 164 [.pointer (some ⟨b5, 0, none⟩), .map (some b50)], mapI (vvI .i64) vvP b50 ([] : List (Int × Nat)), blk b5 32 [u0_0, u0_1]]) (by decide) rfl
      exact ⟨(sk rfl (sk rfl (sk rfl (sk rfl (sk rfl (sk rfl sn)))))), hC⟩
   ·skip
    exact ⟨(sk rfl (sk rfl (sk rfl (sk rfl (sk rfl sn))))), hC⟩
  ·replace h := iff_ h (cf hb56)
   refine wp_skip ?_
   refine then_norm ?_
   refine sr ?_
   refine s_mv (v := .pointer (some ⟨b53, 0, none⟩)) rfl ?_
   refine s_mv (v := .int .i64 x29) (slot hSi49 3 rfl) ?_
   refine s_as (v := .pointer (some ⟨b53, 0, none⟩)) rfl ?_
   refine s_as (v := .int .i64 x29) rfl ?_
   refine dn ?_
   refine wp_ret ?_
   refine ret2 (fn := Try.f57) (v := .pointer (some ⟨b53, 0, none⟩)) (u := .int .i64 x29) rfl (res_tmp rfl) (res_tmp rfl) ⟨_, rfl, ?_⟩ (.inl rfl)
   refine s_mv (v := .tuple #[.pointer (some ⟨b53, 0, none⟩), .int .i64 x29]) rfl ?_
   refine s_ext (v := .pointer (some ⟨b53, 0, none⟩)) rfl rfl ?_
   refine s_ext (v := .int .i64 x29) rfl rfl ?_
   refine s_as (v := .pointer (some ⟨b53, 0, none⟩)) rfl ?_
   refine s_as (v := .int .i64 x29) rfl ?_
   refine dn ?_
   refine wp_seq ?_
   refine sr ?_
   refine s_mv (v := .int .i64 x29) rfl ?_
   refine s_neq rfl rfl ?_
   refine dn ?_
   refine cw_cond rfl (fun hb2988 => ?_) (fun hb2988 => ?_)
   ·replace h := ift h (ct hb2988)
    refine sr ?_
    refine s_mv (v := .int .i64 x29) rfl ?_
    refine s_as (v := .int .i64 0) rfl ?_
    refine s_as (v := .int .i64 x29) rfl ?_
    refine dn ?_
    refine wp_ret (then_ret ?_)
    refine ret2 (fn := Try.f20) rfl ?_ ?_ ⟨0, x29, rfl, h, hC.below⟩ (.inl rfl)
    ·exact res_tmp rfl
    ·exact res_tmp rfl
   ·replace h := iff_ h (cf hb2988)
    refine wp_skip ?_
    refine then_norm ?_
    refine sr ?_
    refine s_mv (v := .pointer (some ⟨b53, 0, none⟩)) rfl ?_
    refine s_mv (v := .int .i64 a2) rfl ?_
    refine s_inline [.pointer (some ⟨b53, 0, none⟩), .int .i64 a2] Try.func65 rfl rfl 63 Try.ntmps65 (Nat.le_of_ble_eq_true rfl) rfl ?_
    refine sr ?_
    refine s_as (v := .pointer none) rfl ?_
    refine dn ?_
    refine wp_seq ?_
    refine sr ?_
    refine s_mv (v := .pointer (some ⟨b53, 0, none⟩)) rfl ?_
    refine s_nilchk rfl ?_
    refine s_faddrB 1 Try.underlying164 rfl sc162.size rfl rfl ?_
    refine s_loadS hC 0 (.map (some b50)) rfl sc162 rfl rfl ?_
    refine s_mv (v := .int .i64 a2) rfl ?_
    refine s_lookupE a2 (.pointer none) (hC.getM 1 rfl) kt2 Try.underlying162 z88 rfl rfl ?_
    refine s_mv (v := .tuple #[.pointer none, .bool false]) rfl ?_
    refine s_ext (v := .pointer none) rfl rfl ?_
    refine s_ext (v := .bool false) rfl rfl ?_
    refine s_as (v := .pointer none) rfl ?_
    refine s_as (v := .bool false) rfl ?_
    refine dn ?_
    refine sr ?_
    refine s_mv (v := .bool false) rfl ?_
    refine dn ?_
    refine cw_false rfl rfl ?_
    refine wp_skip ?_
    refine then_norm ?_
    refine sr ?_
    refine s_makeMap hC (kvA .i64) (vvI .i64) fun b2989 w2991 hB_ hC => ?_
    refine s_build [(1, .map (some b2989))] rfl (bl158_1map b2989  _) ?_
    refine s_box (v := .agg #[.slice none 0 0, .map (some b2989), .slice none 0 0, .slice none 0 0, .slice none 0 0, .slice none 0 0]) hC [.slice none 0 0, .map (some b2989), .slice none 0 0, .slice none 0 0, .slice none 0 0, .slice none 0 0] rfl rfl fun b2992 w2994 hB_ hC => ?_
    refine s_as (v := .pointer (some ⟨b2992, 0, none⟩)) rfl ?_
    refine dn ?_
    refine sr ?_
    refine s_mv (v := .pointer (some ⟨b2992, 0, none⟩)) rfl ?_
    refine s_mv (v := .pointer (some ⟨b53, 0, none⟩)) rfl ?_
    refine s_nilchk rfl ?_
    refine s_faddrB 0 Try.underlying164 rfl sc72.size rfl rfl ?_
    refine s_loadS hC 2 (.pointer (some ⟨b5, 0, none⟩)) rfl sc72 rfl rfl ?_
    refine s_nilchk rfl ?_
    refine s_faddrB 0 Try.underlying32 rfl sc22.size rfl rfl ?_
    refine s_loadS hC 4 (u0_0) rfl sc22 rfl rfl ?_
    refine s_mv (v := .int .i64 a2) rfl ?_
    refine s_call [u0_0, .int .i64 a2, .int .i64 120] _ Try.func91 rfl rfl rfl (c_impl_monomials a0.degrees a2 120 h _ (hC.getP 1 rfl)) (fun ret2995 w2997 hR2996 => ?_)
    obtain ⟨r2998, u2999, f3000, r3003, rfl, h, hr3001, hf3002, hB3004⟩ := hR2996
    refine ⟨_, rfl, ?_⟩
    replace hC := hC.push hB3004 (Tr.item (Tr.sl 101 ((EA .i64).tr)) r2998 [u2999] f3000) hr3001 hf3002
    obtain ⟨ho3006, hf3007⟩ := flat_tr (hC.getM 0 rfl).1
    subst hf3007
    replace hC := hC.recast (c := own 101 8 u2999 r2998.length ((EA .i64).encs r2998)) (fun _ h_ => h_) (fun _ => ho3006)
    refine s_mv (v := .tuple #[u2999, .bool r3003]) rfl ?_
    refine s_ext (v := u2999) rfl rfl ?_
    refine s_ext (v := .bool r3003) rfl rfl ?_
    refine s_nilchk rfl ?_
    refine s_faddrB 0 Try.underlying158 rfl sc121.size rfl rfl ?_
    refine s_store (v := u2999) hC 1 [u2999] [u2999, .map (some b2989), .slice none 0 0, .slice none 0 0, .slice none 0 0, .slice none 0 0] rfl sc121.size rfl rfl (own_cellsV (hC.getM 0 rfl)) rfl (all_c (own_oneC (hC.getM 0 rfl)) rfl) (Nat.le_of_ble_eq_true rfl) rfl fun w3009 hC => ?_
    refine dn ?_
    refine wp_seq ?_
    refine sr ?_
    refine s_mv (v := .pointer (some ⟨b2992, 0, none⟩)) rfl ?_
    refine s_nilchk rfl ?_
    refine s_faddrB 0 Try.underlying158 rfl sc121.size rfl rfl ?_
    refine s_loadS hC 1 (u2999) rfl sc121 rfl rfl ?_
    obtain ⟨Ad3010, c3011, hv3012⟩ := own_form (hC.getM 0 rfl)
    refine s_len Try.underlying121 (tr rfl hv3012) ?_
    refine s_mv (v := .int .i64 0) rfl ?_
    refine dn ?_
    refine wp_block ?_
    have hN3229 : r2998.length ≤ 9223372036854775807 := own_max (hC.getM 0 rfl)
    refine loopN (S := (List (A8 × Int))) _ _ (fun i3227 s3228 e_ w_ => Slots e_ [(0, .pointer (some ⟨b53, 0, none⟩)), (1, .int .i64 a2), (7, .pointer (some ⟨b2992, 0, none⟩)), (42, u2999), (43, .int .i64 (r2998.length : Int)), (44, .int .i64 (i3227 : Int))] ∧ Ctx Nox w0 w_ [own 101 8 u2999 r2998.length ((EA .i64).encs r2998), blk b2992 158 [u2999, .map (some b2989), .slice none 0 0, .slice none 0 0, .slice none 0 0, .slice none 0 0], mapI (kvA .i64) (vvI .i64) b2989 s3228, blk b53 164 [.pointer (some ⟨b5, 0, none⟩), .map (some b50)], mapI (vvI .i64) vvP b50 ([] : List (Int × Nat)), blk b5 32 [u0_0, u0_1]] [Ty.item TForm.sl a0.images [u0_1] fp0, Ty.item ((EI .i64).ty.sl) a0.degrees [u0_0] fp0, Ty.item TAlg a0 [u0_0, u0_1] fp0]) r2998.length ?_ ?_ (s0 := ([] : List (A8 × Int))) ?_ h
    ·clear hC h
     rintro i3227 s3228 e_ w3234 next3230 K3231 hi3233 ⟨hS_, hC⟩ h hK3232
     refine sr ?_
     refine s_lss (sx hS_ 5 rfl) (sx hS_ 4 rfl) ?_
     refine dn ?_
     refine wp_seq ?_
     refine cw_true rfl (decide_eq_true (by omega)) ?_
     refine wp_skip ?_
     refine then_norm ?_
     refine wp_seq ?_
     refine wp_block ?_
     refine sr ?_
     refine s_mv (v := .int .i64 (i3227 : Int)) (sx hS_ 5 rfl) ?_
     obtain ⟨Ad3235, c3236, hv3237⟩ := own_formE (hC.getM 0 rfl) (Nat.lt_of_le_of_lt (Nat.zero_le _) hi3233)
     refine s_iaddrO (i3227 * 8) Try.underlying121 ag101.size (tr (sx hS_ 3 rfl) hv3237) (sx hS_ 5 rfl) (Int.natCast_nonneg _) (Int.ofNat_lt.2 hi3233) rfl ?_
     refine s_loadCA (A8.enc .i64 (r2998.getD i3227 default)) (own_cellsE (hC.getM 0 rfl) hv3237 i3227 hi3233) ag101 rfl rfl ?_
     refine s_alloc hC (A8.enc .i64 A8.zero) z101 rfl fun b3238 w3240 hB_ hC => ?_
     refine s_as (v := .int .i64 (i3227 : Int)) rfl ?_
     refine s_store (v := .agg (List.toArray (A8.enc .i64 (r2998.getD i3227 default)))) hC 0 (A8.enc .i64 (r2998.getD i3227 default)) (A8.enc .i64 (r2998.getD i3227 default)) rfl ag101.size rfl rfl rfl rfl rfl (Nat.le_of_ble_eq_true rfl) rfl fun w3241 hC => ?_
     refine dn ?_
     refine cw_draw 6 mixed [0, 1, 3, 7, 0, 0, 63] [3, 4] [0, 1, 2, 5] (by kernel_rfl) (by kernel_rfl) (by kernel_rfl) (fun hM3243 hM3244 w3242 hB_ => ?_)
     replace hC := hC.grow hB_
     refine aF 0 (.pointer (some ⟨b2992, 0, none⟩)) rfl rfl (hM3244 0 rfl) (rfl) (fun _ => by exact r_mv (v := .pointer (some ⟨b2992, 0, none⟩)) (sx hS_ 2 rfl)) (dbits 7 1) ?_
     refine aF 1 (.pointer (some ⟨b2992, 0, none⟩)) rfl rfl (hM3244 1 rfl) (rfl) (fun _ => by exact r_nilchk rfl) (dbits 7 3) ?_
     refine aF 2 (.pointer (some ⟨b2992, 1, none⟩)) rfl rfl (hM3244 2 rfl) (rfl) (fun _ => by exact r_faddrB 1 Try.underlying158 rfl sc156.size rfl rfl) (dbits 7 7) ?_
     refine aL 3 (.map (some b2989)) rfl rfl (hM3243 3 rfl) (rfl) (fun _ hB_ => by exact r_loadS (hC.grow hB_) 2 (.map (some b2989)) rfl sc156 rfl rfl) (dbits 7 15) ?_
     refine aL 4 (.agg (List.toArray (A8.enc .i64 (r2998.getD i3227 default)))) rfl rfl (hM3243 4 rfl) (rfl) (fun _ hB_ => by exact r_loadA (hC.grow hB_) 0 (A8.enc .i64 (r2998.getD i3227 default)) rfl ag101 rfl rfl rfl) (dbits 7 31) ?_
     refine aF 5 (.int .i64 (i3227 : Int)) rfl rfl (hM3244 5 rfl) (rfl) (fun _ => by exact r_mv (v := .int .i64 (i3227 : Int)) rfl) (dbits 7 63) ?_
     refine ae_tail 6 (by decide) (by decide) (by kernel_rfl) (by kernel_rfl) rfl ?_
     refine s_mapset hC 3 (r2998.getD i3227 default) (i3227 : Int) rfl kt101 Try.underlying156 rfl rfl rfl (fun w3245 hC => ?_) (.inl rfl)
     refine done ?_
     refine qn_norm ?_
     refine blk_norm ?_
     refine then_norm ?_
     refine cw_region ?_
     refine s_add (sx hS_ 5 rfl) rfl ?_
     refine s_mv (v := .int .i64 (IntKind.i64.wrap ((i3227 : Int) + 1))) rfl ?_
     refine done ?_
     replace hC := hC.sM [1, 2, 3, 4, 5, 6] (M' := [own 101 8 u2999 r2998.length ((EA .i64).encs r2998), blk b2992 158 [u2999, .map (some b2989), .slice none 0 0, .slice none 0 0, .slice none 0 0, .slice none 0 0], mapI (kvA .i64) (vvI .i64) b2989 (mset s3228 (r2998.getD i3227 default) (i3227 : Int)), blk b53 164 [.pointer (some ⟨b5, 0, none⟩), .map (some b50)], mapI (vvI .i64) vvP b50 ([] : List (Int × Nat)), blk b5 32 [u0_0, u0_1]]) (by decide) rfl
     exact hK3232 (mset s3228 (r2998.getD i3227 default) (i3227 : Int)) _ _ ⟨(sk (sx hS_ 0 rfl) (sk (sx hS_ 1 rfl) (sk (sx hS_ 2 rfl) (sk (sx hS_ 3 rfl) (sk (sx hS_ 4 rfl) (sk (tr rfl (congrArg _ (wrap64_nat hi3233 hN3229))) sn)))))), hC⟩ h
    ·clear hC h
     rintro s3228 e_ w3246 K3231 ⟨hS_, hC⟩ h
     refine sr ?_
     refine s_lss (sx hS_ 5 rfl) (sx hS_ 4 rfl) ?_
     refine dn ?_
     refine wp_seq ?_
     refine cw_false rfl (decide_eq_false (by omega)) ?_
     refine wp_exit (then_exit (then_exit (exit_in ?_)))
     refine then_norm ?_
     refine sr ?_
     refine s_mv (v := .pointer (some ⟨b53, 0, none⟩)) (sx hS_ 0 rfl) ?_
     refine s_nilchk rfl ?_
     refine s_faddrB 1 Try.underlying164 rfl sc162.size rfl rfl ?_
     refine s_loadS hC 3 (.map (some b50)) rfl sc162 rfl rfl ?_
     refine s_mv (v := .int .i64 a2) (sx hS_ 1 rfl) ?_
     refine s_mv (v := .pointer (some ⟨b2992, 0, none⟩)) (sx hS_ 2 rfl) ?_
     refine s_mapset hC 4 a2 b2992 rfl kt2 Try.underlying162 rfl rfl rfl (fun w3247 hC => ?_) (.inl rfl)
     refine dn ?_
     refine sr ?_
     refine s_mv (v := .pointer (some ⟨b2992, 0, none⟩)) (sx hS_ 2 rfl) ?_
     refine s_as (v := .pointer (some ⟨b2992, 0, none⟩)) rfl ?_
     refine dn ?_
     refine wp_ret ?_
     refine ret1 (fn := Try.f65) (v := .pointer (some ⟨b2992, 0, none⟩)) rfl (res_tmp rfl) ⟨_, rfl, ?_⟩ (.inl rfl)
     refine s_mv (v := .int .i64 a1) rfl ?_
     refine s_inline [.pointer (some ⟨b2992, 0, none⟩), .int .i64 a1] Try.func66 rfl rfl 27 Try.ntmps66 (Nat.le_of_ble_eq_true rfl) rfl ?_
     refine sr ?_
     refine s_as (v := .slice none 0 0) rfl ?_
     refine dn ?_
     refine sr ?_
     refine s_bslice (sz := 1) hC [] (EB.encs []) rfl (fun _ => bs87_0  _) rfl (by decide) fun b3248 w3249 hB_ hC => ?_
     refine s_as (v := .slice (some ⟨b3248, 0, none⟩) 0 0) rfl ?_
     refine dn ?_
     refine wp_seq ?_
     refine sr ?_
     refine s_mv (v := .pointer (some ⟨b2992, 0, none⟩)) rfl ?_
     refine s_nilchk rfl ?_
     refine s_faddrB 0 Try.underlying158 rfl sc121.size rfl rfl ?_
     refine s_loadS hC 2 (u2999) rfl sc121 rfl rfl ?_
     obtain ⟨Ad3251, c3252, hv3253⟩ := own_form (hC.getM 1 rfl)
     refine s_len Try.underlying121 (tr rfl hv3253) ?_
     refine s_mv (v := .int .i64 0) rfl ?_
     refine dn ?_
     refine wp_block ?_
     have hN3310 : r2998.length ≤ 9223372036854775807 := own_max (hC.getM 1 rfl)
     refine loopN (S := (List Bool)) _ _ (fun i3307 s3308 e_ w_ => ∃ (v3309 : Value), Slots e_ [(1, .int .i64 a1), (4, .slice none 0 0), (5, v3309), (12, u2999), (13, .int .i64 (r2998.length : Int)), (14, .int .i64 (i3307 : Int))] ∧ Ctx Nox w0 w_ [own 4 1 v3309 s3308.length (EB.encs s3308), own 101 8 u2999 r2998.length ((EA .i64).encs r2998), blk b2992 158 [u2999, .map (some b2989), .slice none 0 0, .slice none 0 0, .slice none 0 0, .slice none 0 0], mapI (kvA .i64) (vvI .i64) b2989 s3228, blk b53 164 [.pointer (some ⟨b5, 0, none⟩), .map (some b50)], mapI (vvI .i64) vvP b50 (mset ([] : List (Int × Nat)) a2 b2992), blk b5 32 [u0_0, u0_1]] [Ty.item TForm.sl a0.images [u0_1] fp0, Ty.item ((EI .i64).ty.sl) a0.degrees [u0_0] fp0, Ty.item TAlg a0 [u0_0, u0_1] fp0]) r2998.length ?_ ?_ (s0 := []) ?_ h
     ·clear hC h
      rintro i3307 s3308 e_ w3315 next3311 K3312 hi3314 ⟨v3309, hS_, hC⟩ h hK3313
      refine sr ?_
      refine s_lss (sx hS_ 5 rfl) (sx hS_ 4 rfl) ?_
      refine dn ?_
      refine wp_seq ?_
      refine cw_true rfl (decide_eq_true (by omega)) ?_
      refine wp_skip ?_
      refine then_norm ?_
      refine wp_seq ?_
      refine wp_block ?_
      refine sr ?_
      obtain ⟨Ad3316, c3317, hv3318⟩ := own_formE (hC.getM 1 rfl) (Nat.lt_of_le_of_lt (Nat.zero_le _) hi3314)
      refine s_iaddrO (i3307 * 8) Try.underlying121 ag101.size (tr (sx hS_ 3 rfl) hv3318) (sx hS_ 5 rfl) (Int.natCast_nonneg _) (Int.ofNat_lt.2 hi3314) rfl ?_
      refine s_loadCA (A8.enc .i64 (r2998.getD i3307 default)) (own_cellsE (hC.getM 1 rfl) hv3318 i3307 hi3314) ag101 rfl rfl ?_
      refine s_alloc hC (A8.enc .i64 A8.zero) z101 rfl fun b3319 w3321 hB_ hC => ?_
      refine s_store (v := .agg (List.toArray (A8.enc .i64 (r2998.getD i3307 default)))) hC 0 (A8.enc .i64 (r2998.getD i3307 default)) (A8.enc .i64 (r2998.getD i3307 default)) rfl ag101.size rfl rfl rfl rfl rfl (Nat.le_of_ble_eq_true rfl) rfl fun w3322 hC => ?_
      refine dn ?_
      refine cw_region ?_
      refine s_mv (v := v3309) (sx hS_ 2 rfl) ?_
      refine s_loadA hC 0 (A8.enc .i64 (r2998.getD i3307 default)) rfl ag101 rfl rfl rfl ?_
      refine s_call [.agg (List.toArray (A8.enc .i64 (r2998.getD i3307 default)))] _ Try.func117 rfl rfl rfl (c_impl_power_length (r2998.getD i3307 default) h _) (fun ret3323 w3325 hR3324 => ?_)
      obtain ⟨r3326, rfl, h, hB3327⟩ := hR3324
      refine ⟨_, rfl, ?_⟩
      replace hC := hC.grow hB3327
      refine s_mv (v := .int .i64 a1) (sx hS_ 0 rfl) ?_
      refine s_geq rfl rfl ?_
      refine s_bslice (sz := 1) hC [(0, .bool (decide (r3326 ≥ a1)))] (EB.encs [decide (r3326 ≥ a1)]) rfl (fun _ => bs87_1 (decide (r3326 ≥ a1)) _) rfl (by decide) fun b3328 w3329 hB_ hC => ?_
      obtain ⟨hm3333, h⟩ := h
      refine s_app hC 2 Try.underlying87 el4 rfl (by decide) (by decide) rfl (own_rdr (hC.getM 0 rfl)) (fun q hq => Enc.encs_one' (E := EB) _ q hq) rfl rfl hm3333 fun v3331 w3332 hC => ?_
      replace hC := own_re hC 2 ((s3308 ++ [decide (r3326 ≥ a1)]).length) (EB.encs (s3308 ++ [decide (r3326 ≥ a1)])) rfl (by simp) (by first | (simp [Enc.encs_append]; done) | simp [Enc.encs_append, Enc.encs])
      refine s_as (v := v3331) rfl ?_
      refine done ?_
      refine blk_norm ?_
      refine then_norm ?_
      refine cw_region ?_
      refine s_add (sx hS_ 5 rfl) rfl ?_
      refine s_mv (v := .int .i64 (IntKind.i64.wrap ((i3307 : Int) + 1))) rfl ?_
      refine done ?_
      replace hC := hC.sM [2, 3, 4, 5, 6, 7, 8] (M' := [own 4 1 v3331 ((s3308 ++ [decide (r3326 ≥ a1)]).length) (EB.encs (s3308 ++ [decide (r3326 ≥ a1)])), own 101 8 u2999 r2998.length ((EA .i64).encs r2998), blk b2992 158 [u2999, .map (some b2989), .slice none 0 0, .slice none 0 0, .slice none 0 0, .slice none 0 0], mapI (kvA .i64) (vvI .i64) b2989 s3228, blk b53 164 [.pointer (some ⟨b5, 0, none⟩), .map (some b50)], mapI (vvI .i64) vvP b50 (mset ([] : List (Int × Nat)) a2 b2992), blk b5 32 [u0_0, u0_1]]) (by decide) rfl
      exact hK3313 (s3308 ++ [decide (r3326 ≥ a1)]) _ _ ⟨v3331, (sk (sx hS_ 0 rfl) (sk (sx hS_ 1 rfl) (sk rfl (sk (sx hS_ 3 rfl) (sk (sx hS_ 4 rfl) (sk (tr rfl (congrArg _ (wrap64_nat hi3314 hN3310))) sn)))))), hC⟩ h
     ·clear hC h
      rintro s3308 e_ w3334 K3312 ⟨v3309, hS_, hC⟩ h
      refine sr ?_
      refine s_lss (sx hS_ 5 rfl) (sx hS_ 4 rfl) ?_
      refine dn ?_
      refine wp_seq ?_
      refine cw_false rfl (decide_eq_false (by omega)) ?_
      refine wp_exit (then_exit (then_exit (exit_in ?_)))
      refine then_norm ?_
      refine sr ?_
      refine s_mv (v := v3309) (sx hS_ 2 rfl) ?_
      refine s_as (v := v3309) rfl ?_
      refine dn ?_
      refine wp_ret ?_
      refine ret1 (fn := Try.f66) (v := v3309) rfl (res_tmp rfl) ⟨_, rfl, ?_⟩ (.inl rfl)
      refine s_call [v3309] _ Try.func64 rfl rfl rfl (c_impl_count s3308 h _ (own_repE (hC.getM 0 rfl))) (fun ret3335 w3337 hR3336 => ?_)
      obtain ⟨r3338, rfl, h, hB3339⟩ := hR3336
      refine ⟨_, rfl, ?_⟩
      replace hC := hC.grow hB3339
      refine s_as (v := .int .i64 r3338) rfl ?_
      refine s_as (v := .int .i64 0) rfl ?_
      refine dn ?_
      refine wp_ret ?_
      refine ret2 (fn := Try.f20) rfl ?_ ?_ ⟨r3338, 0, rfl, h, hC.below⟩ (.inl rfl)
      ·exact res_tmp rfl
      ·exact res_tmp rfl
     ·skip
      exact ⟨.slice (some ⟨b3248, 0, none⟩) 0 0, (sk rfl (sk rfl (sk rfl (sk rfl (sk rfl (sk rfl sn)))))), hC⟩
    ·skip
     exact ⟨(sk rfl (sk rfl (sk rfl (sk rfl (sk rfl (sk rfl sn)))))), hC⟩
def f_laws_FnExactDimensionOfF (a0 : Alg) (a1 : Int) (a2 : Int) (K : Bool → Prop) : Prop :=
 f_laws_szAlgebra a0 1048576 (fun r11 => (if r11 < 0 then K true else f_laws_toAlgebra a0 (fun r17 => f_spec_DimensionOfF r17 a1 a2 (fun r36 r37 => f_laws_toAlgebra a0 (fun r42 => f_impl_DimensionOfF r42 a1 a2 (fun r65 r66 => (if r65 ≠ r36 then K false else (if r66 ≠ r37 then K false else f_laws_toAlgebra a0 (fun r76 => f_laws_eqAlgebra r42 r76 (fun r95 => (if ¬ (r95 = true) then K false else K true)))))))))))
theorem c_laws_FnExactDimensionOfF (a0 : Alg) (a1 : Int) (a2 : Int) {u0_0 : Value} {u0_1 : Value} {fp0 : List Nat} {K : Bool → Prop} (h : f_laws_FnExactDimensionOfF a0 a1 a2 K) (w0 : World) (q0 : TAlg.rep a0 [u0_0, u0_1] fp0 w0) :
  Calls Try.prog 5 #[.agg #[u0_0, u0_1], .int .i64 a1, .int .i64 a2] w0 fun e w' => ∃ (r0 : Bool), 
   e = .returned (.bool r0) ∧ K r0 ∧ Bel w0 w' := by
 unfold f_laws_FnExactDimensionOfF at h
 refine calls_of (args := [.agg #[u0_0, u0_1], .int .i64 a1, .int .i64 a2]) Try.func5 rfl 48 Try.ntmps5 (Nat.le_of_ble_eq_true rfl) ?_
 have hC := Ctx.start (X := Nox) w0 [Ty.item TAlg a0 [u0_0, u0_1] fp0] (by simp only [List.mem_cons, List.not_mem_nil, or_false, forall_eq_or_imp, forall_eq]; exact q0)
 have hp2 := (hC.getP 0 rfl)
 replace hC := hC.derive 0 rfl (Ty.item ((EI .i64).ty.sl) a0.degrees [u0_0] fp0) (fun _ => (alg_parts hp2).1) (fun _ hb_ => hb_)
 replace hC := hC.derive 1 rfl (Ty.item TForm.sl a0.images [u0_1] fp0) (fun _ => (alg_parts hp2).2) (fun _ hb_ => hb_)
 refine sr ?_
 refine s_box (v := .agg #[u0_0, u0_1]) hC [u0_0, u0_1] rfl rfl fun b5 w7 hB_ hC => ?_
 refine s_as (v := .bool false) rfl ?_
 refine dn ?_
 refine sr ?_
 refine s_as (v := .int .i64 1048576) rfl ?_
 refine dn ?_
 refine sr ?_
 refine s_loadA hC 0 [u0_0, u0_1] rfl ag25 rfl rfl rfl ?_
 refine s_mv (v := .int .i64 1048576) rfl ?_
 refine s_call [.agg #[u0_0, u0_1], .int .i64 1048576] _ Try.func8 rfl rfl rfl (c_laws_szAlgebra a0 1048576 h _ (alg_mk (hC.getP 1 rfl) (hC.getP 0 rfl))) (fun ret8 w10 hR9 => ?_)
 obtain ⟨r11, rfl, h, hB12⟩ := hR9
 refine ⟨_, rfl, ?_⟩
 replace hC := hC.grow hB12
 refine s_as (v := .int .i64 r11) rfl ?_
 refine dn ?_
 refine wp_seq ?_
 refine sr ?_
 refine s_mv (v := .int .i64 r11) rfl ?_
 refine s_lss rfl rfl ?_
 refine dn ?_
 refine cw_cond rfl (fun hb13 => ?_) (fun hb13 => ?_)
 ·replace h := ift h (ct hb13)
  refine sr ?_
  refine s_as (v := .bool true) rfl ?_
  refine dn ?_
  refine wp_ret (then_ret ?_)
  refine ret1 (fn := Try.f5) rfl ?_ ⟨true, rfl, h, hC.below⟩ (.inl rfl)
  exact res_tmp rfl
 ·replace h := iff_ h (cf hb13)
  refine wp_skip ?_
  refine then_norm ?_
  refine sr ?_
  refine s_loadA hC 0 [u0_0, u0_1] rfl ag25 rfl rfl rfl ?_
  refine s_call [.agg #[u0_0, u0_1]] _ Try.func10 rfl rfl rfl (c_laws_toAlgebra a0 h _ (alg_mk (hC.getP 1 rfl) (hC.getP 0 rfl))) (fun ret14 w16 hR15 => ?_)
  obtain ⟨r17, u18, u19, f20, rfl, h, hr21, hf22, hB23⟩ := hR15
  refine ⟨_, rfl, ?_⟩
  replace hC := hC.push hB23 (Tr.item (TrAlg 2 114 95) r17 [u18, u19] f20) hr21 hf22
  obtain ⟨f25, ho26, ho27, hs28, hs29, hd30⟩ := alg_split (hC.getM 0 rfl)
  replace hC := hC.split (a := own 2 1 u18 r17.degrees.length ((EI .i64).encs r17.degrees)) (b := Tr.item (Tr.sl 95 (TrForm 114)) r17.images [u19] f25) hs28 hs29 ⟨ho26, ho27, hd30⟩
  refine s_mv (v := .int .i64 a1) rfl ?_
  refine s_mv (v := .int .i64 a2) rfl ?_
  refine s_call [.agg #[u18, u19], .int .i64 a1, .int .i64 a2] _ Try.func19 rfl rfl rfl (c_spec_DimensionOfF r17 a1 a2 h _ (alg_mk (own_repE (hC.getM 0 rfl)) (Tr.trep _ (hC.getM 1 rfl).1))) (fun ret33 w35 hR34 => ?_)
  obtain ⟨r36, r37, rfl, h, hB38⟩ := hR34
  refine ⟨_, rfl, ?_⟩
  replace hC := hC.grow hB38
  refine s_mv (v := .tuple #[.int .i64 r36, .int .i64 r37]) rfl ?_
  refine s_ext (v := .int .i64 r36) rfl rfl ?_
  refine s_ext (v := .int .i64 r37) rfl rfl ?_
  refine s_as (v := .int .i64 r36) rfl ?_
  refine s_as (v := .int .i64 r37) rfl ?_
  refine dn ?_
  refine sr ?_
  refine s_loadA hC 2 [u0_0, u0_1] rfl ag25 rfl rfl rfl ?_
  refine s_call [.agg #[u0_0, u0_1]] _ Try.func10 rfl rfl rfl (c_laws_toAlgebra a0 h _ (alg_mk (hC.getP 1 rfl) (hC.getP 0 rfl))) (fun ret39 w41 hR40 => ?_)
  obtain ⟨r42, u43, u44, f45, rfl, h, hr46, hf47, hB48⟩ := hR40
  refine ⟨_, rfl, ?_⟩
  replace hC := hC.push hB48 (Tr.item (TrAlg 2 114 95) r42 [u43, u44] f45) hr46 hf47
  obtain ⟨f50, ho51, ho52, hs53, hs54, hd55⟩ := alg_split (hC.getM 0 rfl)
  replace hC := hC.split (a := own 2 1 u43 r42.degrees.length ((EI .i64).encs r42.degrees)) (b := Tr.item (Tr.sl 95 (TrForm 114)) r42.images [u44] f50) hs53 hs54 ⟨ho51, ho52, hd55⟩
  refine s_alloc hC [.slice none 0 0, .slice none 0 0] z32 rfl fun b58 w60 hB_ hC => ?_
  refine s_store (v := .agg #[u43, u44]) hC 0 [u43, u44] [u43, u44] rfl ag32.size rfl rfl rfl rfl (all_c (own_oneC (hC.getM 1 rfl)) (all_c (rep_oneC (Tr.trep _ (hC.getM 2 rfl).1)) rfl)) (Nat.le_of_ble_eq_true rfl) rfl fun w61 hC => ?_
  refine dn ?_
  refine sr ?_
  refine s_loadA hC 0 [u43, u44] rfl ag32 rfl rfl rfl ?_
  refine s_mv (v := .int .i64 a1) rfl ?_
  refine s_mv (v := .int .i64 a2) rfl ?_
  refine s_call [.agg #[u43, u44], .int .i64 a1, .int .i64 a2] _ Try.func20 rfl rfl rfl (c_impl_DimensionOfF r42 a1 a2 h _ (alg_mk (own_repE (hC.getM 1 rfl)) (Tr.trep _ (hC.getM 2 rfl).1))) (fun ret62 w64 hR63 => ?_)
  obtain ⟨r65, r66, rfl, h, hB67⟩ := hR63
  refine ⟨_, rfl, ?_⟩
  replace hC := hC.grow hB67
  refine s_mv (v := .tuple #[.int .i64 r65, .int .i64 r66]) rfl ?_
  refine s_ext (v := .int .i64 r65) rfl rfl ?_
  refine s_ext (v := .int .i64 r66) rfl rfl ?_
  refine s_as (v := .int .i64 r65) rfl ?_
  refine s_as (v := .int .i64 r66) rfl ?_
  refine dn ?_
  refine wp_seq ?_
  refine sr ?_
  refine s_mv (v := .int .i64 r65) rfl ?_
  refine s_mv (v := .int .i64 r36) rfl ?_
  refine s_neq rfl rfl ?_
  refine s_mv (v := .bool (decide (r65 ≠ r36))) rfl ?_
  refine bsplit (decide (r65 ≠ r36)) (fun hb68 => ?_) (fun hb68 => ?_)
  ·replace h := ift h (ct hb68)
   refine guardOff (b := true) 3 38 rfl (tr rfl (congrArg _ hb68)) (by decide) ?_
   refine guardOff (b := true) 3 38 rfl (tr rfl (congrArg _ hb68)) (by decide) ?_
   refine guardOff (b := true) 3 38 rfl (tr rfl (congrArg _ hb68)) (by decide) ?_
   refine s_pick (v := .bool true) (b := true) (tr rfl (congrArg _ hb68)) rfl ?_
   refine dn ?_
   refine cw_true rfl rfl ?_
   refine sr ?_
   refine s_as (v := .bool false) rfl ?_
   refine dn ?_
   refine wp_ret (then_ret ?_)
   refine ret1 (fn := Try.f5) rfl ?_ ⟨false, rfl, h, hC.below⟩ (.inl rfl)
   exact res_tmp rfl
  ·replace h := iff_ h (cf hb68)
   refine guardOn 3 38 rfl rfl hb68 ?_
   refine s_mv (v := .int .i64 r66) rfl ?_
   refine guardOn 3 38 rfl rfl hb68 ?_
   refine s_mv (v := .int .i64 r37) rfl ?_
   refine guardOn 3 38 rfl rfl hb68 ?_
   refine s_neq rfl rfl ?_
   refine s_pick (v := .bool (decide (r66 ≠ r37))) (b := false) (tr rfl (congrArg _ hb68)) rfl ?_
   refine dn ?_
   refine cw_cond rfl (fun hb69 => ?_) (fun hb69 => ?_)
   ·replace h := ift h (ct hb69)
    refine sr ?_
    refine s_as (v := .bool false) rfl ?_
    refine dn ?_
    refine wp_ret (then_ret ?_)
    refine ret1 (fn := Try.f5) rfl ?_ ⟨false, rfl, h, hC.below⟩ (.inl rfl)
    exact res_tmp rfl
   ·replace h := iff_ h (cf hb69)
    refine wp_skip ?_
    refine then_norm ?_
    refine wp_seq ?_
    refine wp_seq ?_
    refine cw_draw 3 mixed [0, 0, 2, 7, 15] [0, 1] [] (by kernel_rfl) (by kernel_rfl) (by kernel_rfl) (fun hM71 hM72 w70 hB_ => ?_)
    replace hC := hC.grow hB_
    refine aL 0 (.agg #[u43, u44]) rfl rfl (hM71 0 rfl) (rfl) (fun _ hB_ => by exact r_loadA (hC.grow hB_) 0 [u43, u44] rfl ag32 rfl rfl rfl) (dbits 5 1) ?_
    refine aL 1 (.agg #[u0_0, u0_1]) rfl rfl (hM71 1 rfl) (rfl) (fun _ hB_ => by exact r_loadA (hC.grow hB_) 5 [u0_0, u0_1] rfl ag25 rfl rfl rfl) (dbits 5 3) ?_
    refine aO 2 rfl ?_
    refine s_call [.agg #[u0_0, u0_1]] _ Try.func10 rfl rfl rfl (c_laws_toAlgebra a0 h _ (alg_mk (hC.getP 1 rfl) (hC.getP 0 rfl))) (fun ret73 w75 hR74 => ?_)
    obtain ⟨r76, u77, u78, f79, rfl, h, hr80, hf81, hB82⟩ := hR74
    refine ⟨_, rfl, ?_⟩
    replace hC := hC.push hB82 (Tr.item (TrAlg 2 114 95) r76 [u77, u78] f79) hr80 hf81
    obtain ⟨f84, ho85, ho86, hs87, hs88, hd89⟩ := alg_split (hC.getM 0 rfl)
    replace hC := hC.split (a := own 2 1 u77 r76.degrees.length ((EI .i64).encs r76.degrees)) (b := Tr.item (Tr.sl 95 (TrForm 114)) r76.images [u78] f84) hs87 hs88 ⟨ho85, ho86, hd89⟩
    refine done ?_
    refine aK (by assumption) (dbits 5 7) ?_
    refine ae_tail 3 (by decide) (by decide) (by kernel_rfl) (by kernel_rfl) rfl ?_
    refine s_call [.agg #[u43, u44], .agg #[u77, u78]] _ Try.func13 rfl rfl rfl (c_laws_eqAlgebra r42 r76 h _ (alg_mk (own_repE (hC.getM 3 rfl)) (Tr.trep _ (hC.getM 4 rfl).1)) (alg_mk (own_repE (hC.getM 0 rfl)) (Tr.trep _ (hC.getM 1 rfl).1))) (fun ret92 w94 hR93 => ?_)
    obtain ⟨r95, rfl, h, hB96⟩ := hR93
    refine ⟨_, rfl, ?_⟩
    replace hC := hC.grow hB96
    refine s_not rfl ?_
    refine done ?_
    refine qn_norm ?_
    refine then_norm ?_
    refine cw_cond rfl (fun hb97 => ?_) (fun hb97 => ?_)
    ·replace h := ift h (ne_t (not_t hb97))
     refine sr ?_
     refine s_as (v := .bool false) rfl ?_
     refine dn ?_
     refine wp_ret (then_ret ?_)
     refine ret1 (fn := Try.f5) rfl ?_ ⟨false, rfl, h, hC.below⟩ (.inl rfl)
     exact res_tmp rfl
    ·replace h := iff_ h (not_not_intro ((not_f hb97)))
     refine wp_skip ?_
     refine then_norm ?_
     refine sr ?_
     refine s_as (v := .bool true) rfl ?_
     refine dn ?_
     refine wp_ret ?_
     refine ret1 (fn := Try.f5) rfl ?_ ⟨true, rfl, h, hC.below⟩ (.inl rfl)
     exact res_tmp rfl
end Go.Proofs.Ytaagfepgbofmlaa
