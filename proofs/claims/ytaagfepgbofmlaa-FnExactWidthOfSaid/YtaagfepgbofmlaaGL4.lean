/- Printed by vcgen.py: functions of the program as predicates, and that the machine's calls meet them. -/
import Derived.Test.YtaagfepgbofmlaaGL4a
set_option linter.unusedVariables false
set_option linter.unusedSimpArgs false
set_option maxRecDepth 4000
set_option maxHeartbeats 4000000
namespace Go.Proofs.Ytaagfepgbofmlaa
open Go Go.RowKit Vc
def f_impl_WidthOf (a0 : Alg) (a1 : Int) (K : Int → Int → Prop) : Prop :=
 f_impl_isAsked a1 (fun r11 => f_impl_pageCode a0 r11 (fun r16 => (if r16 = 0 then forN (fun i1034 (s1035 : Unit) next1037 => f_impl_monomials a0.degrees (IntKind.i64.wrap (([a1].getD i1034 default) - 1)) 120 (fun r1049 r1054 => (if ¬ (r1054 = true) then (if 3 ≠ 0 then K 0 3 else f_impl_monomials a0.degrees a1 120 (fun r1071 r1076 => forN (fun i1224 (s1225 : (List (A8 × Int))) next1227 => next1227 (mset s1225 (r1071.getD i1224 default) (i1224 : Int))) (fun (s1225 : (List (A8 × Int))) => forN (fun i1278 (s1279 : Int) next1281 => f_impl_power_length (r1071.getD i1278 default) (fun r1296 => next1281 (if s1279 < r1296 then r1296 else s1279))) (fun (s1279 : Int) => K s1279 0) r1071.length 0 0) r1071.length 0 ([] : List (A8 × Int)))) else f_impl_monomials a0.degrees ([a1].getD i1034 default) 120 (fun r1302 r1307 => (if ¬ (r1307 = true) then (if 3 ≠ 0 then K 0 3 else f_impl_monomials a0.degrees a1 120 (fun r1324 r1329 => forN (fun i1477 (s1478 : (List (A8 × Int))) next1480 => next1480 (mset s1478 (r1324.getD i1477 default) (i1477 : Int))) (fun (s1478 : (List (A8 × Int))) => forN (fun i1531 (s1532 : Int) next1534 => f_impl_power_length (r1324.getD i1531 default) (fun r1549 => next1534 (if s1532 < r1549 then r1549 else s1532))) (fun (s1532 : Int) => K s1532 0) r1324.length 0 0) r1324.length 0 ([] : List (A8 × Int)))) else f_impl_monomials a0.degrees (IntKind.i64.wrap (([a1].getD i1034 default) + 1)) 120 (fun r1555 r1560 => (if ¬ (r1560 = true) then (if 3 ≠ 0 then K 0 3 else f_impl_monomials a0.degrees a1 120 (fun r1577 r1582 => forN (fun i1730 (s1731 : (List (A8 × Int))) next1733 => next1733 (mset s1731 (r1577.getD i1730 default) (i1730 : Int))) (fun (s1731 : (List (A8 × Int))) => forN (fun i1784 (s1785 : Int) next1787 => f_impl_power_length (r1577.getD i1784 default) (fun r1802 => next1787 (if s1785 < r1802 then r1802 else s1785))) (fun (s1785 : Int) => K s1785 0) r1577.length 0 0) r1577.length 0 ([] : List (A8 × Int)))) else next1037 ()))))))) (fun (s1035 : Unit) => (if 0 ≠ 0 then K 0 0 else f_impl_monomials a0.degrees a1 120 (fun r1816 r1821 => forN (fun i1969 (s1970 : (List (A8 × Int))) next1972 => next1972 (mset s1970 (r1816.getD i1969 default) (i1969 : Int))) (fun (s1970 : (List (A8 × Int))) => forN (fun i2023 (s2024 : Int) next2026 => f_impl_power_length (r1816.getD i2023 default) (fun r2041 => next2026 (if s2024 < r2041 then r2041 else s2024))) (fun (s2024 : Int) => K s2024 0) r1816.length 0 0) r1816.length 0 ([] : List (A8 × Int))))) ([a1].length) 0 () else (if r16 ≠ 0 then K 0 r16 else f_impl_monomials a0.degrees a1 120 (fun r2054 r2059 => forN (fun i2207 (s2208 : (List (A8 × Int))) next2210 => next2210 (mset s2208 (r2054.getD i2207 default) (i2207 : Int))) (fun (s2208 : (List (A8 × Int))) => forN (fun i2261 (s2262 : Int) next2264 => f_impl_power_length (r2054.getD i2261 default) (fun r2279 => next2264 (if s2262 < r2279 then r2279 else s2262))) (fun (s2262 : Int) => K s2262 0) r2054.length 0 0) r2054.length 0 ([] : List (A8 × Int)))))))
theorem c_impl_WidthOf (a0 : Alg) (a1 : Int) {u0_0 : Value} {u0_1 : Value} {fp0 : List Nat} {K : Int → Int → Prop} (h : f_impl_WidthOf a0 a1 K) (w0 : World) (q0 : TAlg.rep a0 [u0_0, u0_1] fp0 w0) :
  Calls Try.prog 18 #[.agg #[u0_0, u0_1], .int .i64 a1] w0 fun e w' => ∃ (r0 : Int) (r1 : Int), 
   e = .returned (.tuple #[.int .i64 r0, .int .i64 r1]) ∧ K r0 r1 ∧ Bel w0 w' := by
 unfold f_impl_WidthOf at h
 refine calls_of (args := [.agg #[u0_0, u0_1], .int .i64 a1]) Try.func18 rfl 19 Try.ntmps18 (Nat.le_of_ble_eq_true rfl) ?_
 have hC := Ctx.start (X := Nox) w0 [Ty.item TAlg a0 [u0_0, u0_1] fp0] (by simp only [List.mem_cons, List.not_mem_nil, or_false, forall_eq_or_imp, forall_eq]; exact q0)
 have hp2 := (hC.getP 0 rfl)
 replace hC := hC.derive 0 rfl (Ty.item ((EI .i64).ty.sl) a0.degrees [u0_0] fp0) (fun _ => (alg_parts hp2).1) (fun _ hb_ => hb_)
 replace hC := hC.derive 1 rfl (Ty.item TForm.sl a0.images [u0_1] fp0) (fun _ => (alg_parts hp2).2) (fun _ hb_ => hb_)
 refine sr ?_
 refine s_box (v := .agg #[u0_0, u0_1]) hC [u0_0, u0_1] rfl rfl fun b5 w7 hB_ hC => ?_
 refine s_as (v := .int .i64 0) rfl ?_
 refine s_as (v := .int .i64 0) rfl ?_
 refine dn ?_
 refine sr ?_
 refine s_mv (v := .int .i64 a1) rfl ?_
 refine s_inline [.pointer (some ⟨b5, 0, none⟩), .int .i64 a1, .bool true] Try.func57 rfl rfl 27 Try.ntmps57 (Nat.le_of_ble_eq_true rfl) rfl ?_
 refine sr ?_
 refine s_as (v := .pointer none) rfl ?_
 refine s_as (v := .int .i64 0) rfl ?_
 refine dn ?_
 refine sr ?_
 refine s_mv (v := .pointer (some ⟨b5, 0, none⟩)) rfl ?_
 refine s_mv (v := .bool true) rfl ?_
 refine s_mv (v := .bool true) rfl ?_
 refine guardOn 2 12 rfl rfl rfl ?_
 refine s_mv (v := .int .i64 a1) rfl ?_
 refine guardOn 2 12 rfl rfl rfl ?_
 refine s_call [.int .i64 a1] _ Try.func114 rfl rfl rfl (c_impl_isAsked a1 h _) (fun ret8 w10 hR9 => ?_)
 obtain ⟨r11, rfl, h, hB12⟩ := hR9
 refine ⟨_, rfl, ?_⟩
 replace hC := hC.grow hB12
 refine s_pick (v := .bool r11) (b := true) rfl rfl ?_
 refine s_call [.pointer (some ⟨b5, 0, none⟩), .bool r11] _ Try.func113 rfl rfl rfl (c_impl_pageCode a0 r11 h _ (alg_mk (hC.getP 1 rfl) (hC.getP 0 rfl)) (hC.getM 0 rfl)) (fun ret13 w15 hR14 => ?_)
 obtain ⟨r16, rfl, h, hB17⟩ := hR14
 refine ⟨_, rfl, ?_⟩
 replace hC := hC.grow hB17
 refine s_as (v := .int .i64 r16) rfl ?_
 refine dn ?_
 refine sr ?_
 refine s_mv (v := .pointer (some ⟨b5, 0, none⟩)) rfl ?_
 refine s_inline [.pointer (some ⟨b5, 0, none⟩)] Try.func115 rfl rfl 7 Try.ntmps115 (Nat.le_of_ble_eq_true rfl) rfl ?_
 refine sr ?_
 refine s_as (v := .pointer none) rfl ?_
 refine dn ?_
 refine sr ?_
 refine s_mv (v := .pointer (some ⟨b5, 0, none⟩)) rfl ?_
 refine s_makeMap hC (vvI .i64) vvP fun b18 w20 hB_ hC => ?_
 refine s_build [(0, .pointer (some ⟨b5, 0, none⟩)), (1, .map (some b18))] rfl (bl164_0ptr_1map b5 b18  _) ?_
 refine s_box (v := .agg #[.pointer (some ⟨b5, 0, none⟩), .map (some b18)]) hC [.pointer (some ⟨b5, 0, none⟩), .map (some b18)] rfl rfl fun b21 w23 hB_ hC => ?_
 refine s_as (v := .pointer (some ⟨b21, 0, none⟩)) rfl ?_
 refine dn ?_
 refine wp_ret ?_
 refine ret1 (fn := Try.f115) (v := .pointer (some ⟨b21, 0, none⟩)) rfl (res_tmp rfl) ⟨_, rfl, ?_⟩ (.inl rfl)
 refine s_as (v := .pointer (some ⟨b21, 0, none⟩)) rfl ?_
 refine dn ?_
 refine wp_seq ?_
 refine sr ?_
 refine s_mv (v := .int .i64 r16) rfl ?_
 refine s_eql rfl rfl ?_
 refine dn ?_
 refine cw_cond rfl (fun hb24 => ?_) (fun hb24 => ?_)
 ·replace h := ift h (ct hb24)
  refine cw_region ?_
  refine s_mv (v := .pointer (some ⟨b21, 0, none⟩)) rfl ?_
  refine s_mv (v := .int .i64 a1) rfl ?_
  refine s_bslice (sz := 1) hC [(0, .int .i64 a1)] ((EI .i64).encs [a1]) rfl (fun _ => bs22_1 a1 _) rfl (by decide) fun b25 w26 hB_ hC => ?_
  refine s_inline [.pointer (some ⟨b21, 0, none⟩), .slice (some ⟨b25, 0, none⟩) 1 1] Try.func116 rfl rfl 32 Try.ntmps116 (Nat.le_of_ble_eq_true rfl) rfl ?_
  refine sr ?_
  refine s_as (v := .int .i64 0) rfl ?_
  refine dn ?_
  refine wp_seq ?_
  refine sr ?_
  refine s_mv (v := .slice (some ⟨b25, 0, none⟩) 1 1) rfl ?_
  obtain ⟨Ad28, c29, hv30⟩ := own_form (hC.getM 0 rfl)
  refine s_len Try.underlying22 (tr rfl hv30) ?_
  refine s_mv (v := .int .i64 0) rfl ?_
  refine dn ?_
  refine wp_block ?_
  have hN1036 : [a1].length ≤ 9223372036854775807 := own_max (hC.getM 0 rfl)
  refine loopN (S := Unit) _ _ (fun i1034 s1035 e_ w_ => Slots e_ [(0, .pointer (some ⟨b21, 0, none⟩)), (4, .int .i64 0), (7, .slice (some ⟨b25, 0, none⟩) 1 1), (8, .int .i64 ([a1].length : Int)), (9, .int .i64 (i1034 : Int))] ∧ Ctx Nox w0 w_ [own 2 1 (.slice (some ⟨b25, 0, none⟩) 1 1) ([a1].length) ((EI .i64).encs [a1]), blk b21 164 [.pointer (some ⟨b5, 0, none⟩), .map (some b18)], mapI (vvI .i64) vvP b18 ([] : List (Int × Nat)), blk b5 32 [u0_0, u0_1]] [Ty.item TForm.sl a0.images [u0_1] fp0, Ty.item ((EI .i64).ty.sl) a0.degrees [u0_0] fp0, Ty.item TAlg a0 [u0_0, u0_1] fp0]) ([a1].length) ?_ ?_ (s0 := ()) ?_ h
  ·clear hC h
   rintro i1034 s1035 e_ w1041 next1037 K1038 hi1040 ⟨hS_, hC⟩ h hK1039
   refine sr ?_
   refine s_lss (sx hS_ 4 rfl) (sx hS_ 3 rfl) ?_
   refine dn ?_
   refine wp_seq ?_
   refine cw_true rfl (decide_eq_true (by omega)) ?_
   refine wp_skip ?_
   refine then_norm ?_
   refine wp_seq ?_
   refine wp_block ?_
   refine sr ?_
   obtain ⟨Ad1042, c1043, hv1044⟩ := own_formE (hC.getM 0 rfl) (Nat.lt_of_le_of_lt (Nat.zero_le _) hi1040)
   refine s_iaddrO (i1034 * 1) Try.underlying22 sc2.size (tr (sx hS_ 2 rfl) hv1044) (sx hS_ 4 rfl) (Int.natCast_nonneg _) (Int.ofNat_lt.2 hi1040) rfl ?_
   refine s_loadCS (.int .i64 ([a1].getD i1034 default)) (own_cellsE (hC.getM 0 rfl) hv1044 i1034 hi1040) sc2 rfl ?_
   refine s_as (v := .int .i64 ([a1].getD i1034 default)) rfl ?_
   refine dn ?_
   refine sr ?_
   refine s_mv (v := .pointer (some ⟨b21, 0, none⟩)) (sx hS_ 0 rfl) ?_
   refine s_mv (v := .int .i64 ([a1].getD i1034 default)) rfl ?_
   refine s_sub rfl rfl ?_
   refine s_inline [.pointer (some ⟨b21, 0, none⟩), .int .i64 (IntKind.i64.wrap (([a1].getD i1034 default) - 1))] Try.func148 rfl rfl 20 Try.ntmps148 (Nat.le_of_ble_eq_true rfl) rfl ?_
   have hSi1045 := hS_
   refine sr ?_
   refine s_as (v := .bool false) rfl ?_
   refine dn ?_
   refine sr ?_
   refine s_mv (v := .pointer (some ⟨b21, 0, none⟩)) rfl ?_
   refine s_nilchk rfl ?_
   refine s_faddrB 0 Try.underlying164 rfl sc72.size rfl rfl ?_
   refine s_loadS hC 1 (.pointer (some ⟨b5, 0, none⟩)) rfl sc72 rfl rfl ?_
   refine s_nilchk rfl ?_
   refine s_faddrB 0 Try.underlying32 rfl sc22.size rfl rfl ?_
   refine s_loadS hC 3 (u0_0) rfl sc22 rfl rfl ?_
   refine s_mv (v := .int .i64 (IntKind.i64.wrap (([a1].getD i1034 default) - 1))) rfl ?_
   refine s_call [u0_0, .int .i64 (IntKind.i64.wrap (([a1].getD i1034 default) - 1)), .int .i64 120] _ Try.func91 rfl rfl rfl (c_impl_monomials a0.degrees (IntKind.i64.wrap (([a1].getD i1034 default) - 1)) 120 h _ (hC.getP 1 rfl)) (fun ret1046 w1048 hR1047 => ?_)
   obtain ⟨r1049, u1050, f1051, r1054, rfl, h, hr1052, hf1053, hB1055⟩ := hR1047
   refine ⟨_, rfl, ?_⟩
   replace hC := hC.push hB1055 (Tr.item (Tr.sl 101 ((EA .i64).tr)) r1049 [u1050] f1051) hr1052 hf1053
   obtain ⟨ho1057, hf1058⟩ := flat_tr (hC.getM 0 rfl).1
   subst hf1058
   replace hC := hC.recast (c := own 101 8 u1050 r1049.length ((EA .i64).encs r1049)) (fun _ h_ => h_) (fun _ => ho1057)
   refine s_mv (v := .tuple #[u1050, .bool r1054]) rfl ?_
   refine s_ext (v := u1050) rfl rfl ?_
   refine s_ext (v := .bool r1054) rfl rfl ?_
   refine s_as (v := u1050) rfl ?_
   refine s_as (v := .bool r1054) rfl ?_
   refine dn ?_
   refine sr ?_
   refine s_mv (v := .bool r1054) rfl ?_
   refine s_as (v := .bool r1054) rfl ?_
   refine dn ?_
   refine wp_ret ?_
   refine ret1 (fn := Try.f148) (v := .bool r1054) rfl (res_tmp rfl) ⟨_, rfl, ?_⟩ (.inl rfl)
   refine s_not rfl ?_
   refine s_mv (v := .bool (!r1054)) rfl ?_
   refine bsplit (!r1054) (fun hb1060 => ?_) (fun hb1060 => ?_)
   ·replace h := ift h (ne_t (not_t hb1060))
    refine guardOff (b := true) 5 18 rfl (tr rfl (congrArg _ hb1060)) (by decide) ?_
    refine guardOff (b := true) 5 18 rfl (tr rfl (congrArg _ hb1060)) (by decide) ?_
    refine guardOff (b := true) 5 18 rfl (tr rfl (congrArg _ hb1060)) (by decide) ?_
    refine guardOff (b := true) 5 18 rfl (tr rfl (congrArg _ hb1060)) (by decide) ?_
    refine s_pick (v := .bool true) (b := true) (tr rfl (congrArg _ hb1060)) rfl ?_
    refine s_mv (v := .bool true) rfl ?_
    refine guardOff (b := true) 11 24 rfl (tr rfl (congrArg _ rfl)) (by decide) ?_
    refine guardOff (b := true) 11 24 rfl (tr rfl (congrArg _ rfl)) (by decide) ?_
    refine guardOff (b := true) 11 24 rfl (tr rfl (congrArg _ rfl)) (by decide) ?_
    refine guardOff (b := true) 11 24 rfl (tr rfl (congrArg _ rfl)) (by decide) ?_
    refine guardOff (b := true) 11 24 rfl (tr rfl (congrArg _ rfl)) (by decide) ?_
    refine s_pick (v := .bool true) (b := true) rfl rfl ?_
    refine dn ?_
    refine cw_true rfl rfl ?_
    refine sr ?_
    refine s_as (v := .int .i64 3) rfl ?_
    refine dn ?_
    refine wp_ret (blk_ret (then_ret (then_ret (blk_ret (then_ret ?_)))))
    refine ret1 (fn := Try.f116) (v := .int .i64 3) rfl (res_tmp rfl) ⟨_, rfl, ?_⟩ (.inl rfl)
    refine s_as (v := .int .i64 3) rfl ?_
    refine dn ?_
    refine sr ?_
    refine s_mv (v := .pointer (some ⟨b21, 0, none⟩)) rfl ?_
    refine s_mv (v := .int .i64 3) rfl ?_
    refine s_as (v := .pointer (some ⟨b21, 0, none⟩)) rfl ?_
    refine s_as (v := .int .i64 3) rfl ?_
    refine dn ?_
    refine wp_ret ?_
    refine ret2 (fn := Try.f57) (v := .pointer (some ⟨b21, 0, none⟩)) (u := .int .i64 3) rfl (res_tmp rfl) (res_tmp rfl) ⟨_, rfl, ?_⟩ (.inl rfl)
    refine s_mv (v := .tuple #[.pointer (some ⟨b21, 0, none⟩), .int .i64 3]) rfl ?_
    refine s_ext (v := .pointer (some ⟨b21, 0, none⟩)) rfl rfl ?_
    refine s_ext (v := .int .i64 3) rfl rfl ?_
    refine s_as (v := .pointer (some ⟨b21, 0, none⟩)) rfl ?_
    refine s_as (v := .int .i64 3) rfl ?_
    refine dn ?_
    refine wp_seq ?_
    refine sr ?_
    refine s_mv (v := .int .i64 3) rfl ?_
    refine s_neq rfl rfl ?_
    refine dn ?_
    refine cw_cond rfl (fun hb1061 => ?_) (fun hb1061 => ?_)
    ·replace h := ift h (ct hb1061)
     refine sr ?_
     refine s_mv (v := .int .i64 3) rfl ?_
     refine s_as (v := .int .i64 0) rfl ?_
     refine s_as (v := .int .i64 3) rfl ?_
     refine dn ?_
     refine wp_ret (then_ret ?_)
     refine ret2 (fn := Try.f18) rfl ?_ ?_ ⟨0, 3, rfl, h, hC.below⟩ (.inl rfl)
     ·exact res_tmp rfl
     ·exact res_tmp rfl
    ·replace h := iff_ h (cf hb1061)
     refine wp_skip ?_
     refine then_norm ?_
     refine sr ?_
     refine s_mv (v := .pointer (some ⟨b21, 0, none⟩)) rfl ?_
     refine s_mv (v := .int .i64 a1) rfl ?_
     refine s_inline [.pointer (some ⟨b21, 0, none⟩), .int .i64 a1] Try.func58 rfl rfl 25 Try.ntmps58 (Nat.le_of_ble_eq_true rfl) rfl ?_
     refine sr ?_
     refine s_as (v := .int .i64 0) rfl ?_
     refine dn ?_
     refine sr ?_
     refine s_as (v := .int .i64 0) rfl ?_
     refine dn ?_
     refine wp_seq ?_
     refine sr ?_
     refine s_mv (v := .pointer (some ⟨b21, 0, none⟩)) rfl ?_
     refine s_mv (v := .int .i64 a1) rfl ?_
     refine s_inline [.pointer (some ⟨b21, 0, none⟩), .int .i64 a1] Try.func65 rfl rfl 63 Try.ntmps65 (Nat.le_of_ble_eq_true rfl) rfl ?_
     refine sr ?_
     refine s_as (v := .pointer none) rfl ?_
     refine dn ?_
     refine wp_seq ?_
     refine sr ?_
     refine s_mv (v := .pointer (some ⟨b21, 0, none⟩)) rfl ?_
     refine s_nilchk rfl ?_
     refine s_faddrB 1 Try.underlying164 rfl sc162.size rfl rfl ?_
     refine s_loadS hC 2 (.map (some b18)) rfl sc162 rfl rfl ?_
     refine s_mv (v := .int .i64 a1) rfl ?_
     refine s_lookupE a1 (.pointer none) (hC.getM 3 rfl) kt2 Try.underlying162 z88 rfl rfl ?_
     refine s_mv (v := .tuple #[.pointer none, .bool false]) rfl ?_
     refine s_ext (v := .pointer none) rfl rfl ?_
     refine s_ext (v := .bool false) rfl rfl ?_
     refine s_as (v := .pointer none) rfl ?_
     refine s_as (v := .bool false) rfl ?_
     refine dn ?_
     refine sr ?_
     refine s_mv (v := .bool false) rfl ?_
     refine dn ?_
     refine cw_false rfl rfl ?_
     refine wp_skip ?_
     refine then_norm ?_
     refine sr ?_
     refine s_makeMap hC (kvA .i64) (vvI .i64) fun b1062 w1064 hB_ hC => ?_
     refine s_build [(1, .map (some b1062))] rfl (bl158_1map b1062  _) ?_
     refine s_box (v := .agg #[.slice none 0 0, .map (some b1062), .slice none 0 0, .slice none 0 0, .slice none 0 0, .slice none 0 0]) hC [.slice none 0 0, .map (some b1062), .slice none 0 0, .slice none 0 0, .slice none 0 0, .slice none 0 0] rfl rfl fun b1065 w1067 hB_ hC => ?_
     refine s_as (v := .pointer (some ⟨b1065, 0, none⟩)) rfl ?_
     refine dn ?_
     refine sr ?_
     refine s_mv (v := .pointer (some ⟨b1065, 0, none⟩)) rfl ?_
     refine s_mv (v := .pointer (some ⟨b21, 0, none⟩)) rfl ?_
     refine s_nilchk rfl ?_
     refine s_faddrB 0 Try.underlying164 rfl sc72.size rfl rfl ?_
     refine s_loadS hC 4 (.pointer (some ⟨b5, 0, none⟩)) rfl sc72 rfl rfl ?_
     refine s_nilchk rfl ?_
     refine s_faddrB 0 Try.underlying32 rfl sc22.size rfl rfl ?_
     refine s_loadS hC 6 (u0_0) rfl sc22 rfl rfl ?_
     refine s_mv (v := .int .i64 a1) rfl ?_
     refine s_call [u0_0, .int .i64 a1, .int .i64 120] _ Try.func91 rfl rfl rfl (c_impl_monomials a0.degrees a1 120 h _ (hC.getP 1 rfl)) (fun ret1068 w1070 hR1069 => ?_)
     obtain ⟨r1071, u1072, f1073, r1076, rfl, h, hr1074, hf1075, hB1077⟩ := hR1069
     refine ⟨_, rfl, ?_⟩
     replace hC := hC.push hB1077 (Tr.item (Tr.sl 101 ((EA .i64).tr)) r1071 [u1072] f1073) hr1074 hf1075
     obtain ⟨ho1079, hf1080⟩ := flat_tr (hC.getM 0 rfl).1
     subst hf1080
     replace hC := hC.recast (c := own 101 8 u1072 r1071.length ((EA .i64).encs r1071)) (fun _ h_ => h_) (fun _ => ho1079)
     refine s_mv (v := .tuple #[u1072, .bool r1076]) rfl ?_
     refine s_ext (v := u1072) rfl rfl ?_
     refine s_ext (v := .bool r1076) rfl rfl ?_
     refine s_nilchk rfl ?_
     refine s_faddrB 0 Try.underlying158 rfl sc121.size rfl rfl ?_
     refine s_store (v := u1072) hC 1 [u1072] [u1072, .map (some b1062), .slice none 0 0, .slice none 0 0, .slice none 0 0, .slice none 0 0] rfl sc121.size rfl rfl (own_cellsV (hC.getM 0 rfl)) rfl (all_c (own_oneC (hC.getM 0 rfl)) rfl) (Nat.le_of_ble_eq_true rfl) rfl fun w1082 hC => ?_
     refine dn ?_
     refine wp_seq ?_
     refine sr ?_
     refine s_mv (v := .pointer (some ⟨b1065, 0, none⟩)) rfl ?_
     refine s_nilchk rfl ?_
     refine s_faddrB 0 Try.underlying158 rfl sc121.size rfl rfl ?_
     refine s_loadS hC 1 (u1072) rfl sc121 rfl rfl ?_
     obtain ⟨Ad1083, c1084, hv1085⟩ := own_form (hC.getM 0 rfl)
     refine s_len Try.underlying121 (tr rfl hv1085) ?_
     refine s_mv (v := .int .i64 0) rfl ?_
     refine dn ?_
     refine wp_block ?_
     have hN1226 : r1071.length ≤ 9223372036854775807 := own_max (hC.getM 0 rfl)
     refine loopN (S := (List (A8 × Int))) _ _ (fun i1224 s1225 e_ w_ => Slots e_ [(0, .pointer (some ⟨b21, 0, none⟩)), (1, .int .i64 a1), (7, .pointer (some ⟨b1065, 0, none⟩)), (42, u1072), (43, .int .i64 (r1071.length : Int)), (44, .int .i64 (i1224 : Int))] ∧ Ctx Nox w0 w_ [own 101 8 u1072 r1071.length ((EA .i64).encs r1071), blk b1065 158 [u1072, .map (some b1062), .slice none 0 0, .slice none 0 0, .slice none 0 0, .slice none 0 0], mapI (kvA .i64) (vvI .i64) b1062 s1225, blk b21 164 [.pointer (some ⟨b5, 0, none⟩), .map (some b18)], mapI (vvI .i64) vvP b18 ([] : List (Int × Nat)), blk b5 32 [u0_0, u0_1]] [Ty.item TForm.sl a0.images [u0_1] fp0, Ty.item ((EI .i64).ty.sl) a0.degrees [u0_0] fp0, Ty.item TAlg a0 [u0_0, u0_1] fp0]) r1071.length ?_ ?_ (s0 := ([] : List (A8 × Int))) ?_ h
     ·clear hC h
      rintro i1224 s1225 e_ w1231 next1227 K1228 hi1230 ⟨hS_, hC⟩ h hK1229
      refine sr ?_
      refine s_lss (sx hS_ 5 rfl) (sx hS_ 4 rfl) ?_
      refine dn ?_
      refine wp_seq ?_
      refine cw_true rfl (decide_eq_true (by omega)) ?_
      refine wp_skip ?_
      refine then_norm ?_
      refine wp_seq ?_
      refine wp_block ?_
      refine sr ?_
      refine s_mv (v := .int .i64 (i1224 : Int)) (sx hS_ 5 rfl) ?_
      obtain ⟨Ad1232, c1233, hv1234⟩ := own_formE (hC.getM 0 rfl) (Nat.lt_of_le_of_lt (Nat.zero_le _) hi1230)
      refine s_iaddrO (i1224 * 8) Try.underlying121 ag101.size (tr (sx hS_ 3 rfl) hv1234) (sx hS_ 5 rfl) (Int.natCast_nonneg _) (Int.ofNat_lt.2 hi1230) rfl ?_
      refine s_loadCA (A8.enc .i64 (r1071.getD i1224 default)) (own_cellsE (hC.getM 0 rfl) hv1234 i1224 hi1230) ag101 rfl rfl ?_
      refine s_alloc hC (A8.enc .i64 A8.zero) z101 rfl fun b1235 w1237 hB_ hC => ?_
      refine s_as (v := .int .i64 (i1224 : Int)) rfl ?_
      refine s_store (v := .agg (List.toArray (A8.enc .i64 (r1071.getD i1224 default)))) hC 0 (A8.enc .i64 (r1071.getD i1224 default)) (A8.enc .i64 (r1071.getD i1224 default)) rfl ag101.size rfl rfl rfl rfl rfl (Nat.le_of_ble_eq_true rfl) rfl fun w1238 hC => ?_
      refine dn ?_
      refine cw_draw 6 mixed [0, 1, 3, 7, 0, 0, 63] [3, 4] [0, 1, 2, 5] (by kernel_rfl) (by kernel_rfl) (by kernel_rfl) (fun hM1240 hM1241 w1239 hB_ => ?_)
      replace hC := hC.grow hB_
      refine aF 0 (.pointer (some ⟨b1065, 0, none⟩)) rfl rfl (hM1241 0 rfl) (rfl) (fun _ => by exact r_mv (v := .pointer (some ⟨b1065, 0, none⟩)) (sx hS_ 2 rfl)) (dbits 7 1) ?_
      refine aF 1 (.pointer (some ⟨b1065, 0, none⟩)) rfl rfl (hM1241 1 rfl) (rfl) (fun _ => by exact r_nilchk rfl) (dbits 7 3) ?_
      refine aF 2 (.pointer (some ⟨b1065, 1, none⟩)) rfl rfl (hM1241 2 rfl) (rfl) (fun _ => by exact r_faddrB 1 Try.underlying158 rfl sc156.size rfl rfl) (dbits 7 7) ?_
      refine aL 3 (.map (some b1062)) rfl rfl (hM1240 3 rfl) (rfl) (fun _ hB_ => by exact r_loadS (hC.grow hB_) 2 (.map (some b1062)) rfl sc156 rfl rfl) (dbits 7 15) ?_
      refine aL 4 (.agg (List.toArray (A8.enc .i64 (r1071.getD i1224 default)))) rfl rfl (hM1240 4 rfl) (rfl) (fun _ hB_ => by exact r_loadA (hC.grow hB_) 0 (A8.enc .i64 (r1071.getD i1224 default)) rfl ag101 rfl rfl rfl) (dbits 7 31) ?_
      refine aF 5 (.int .i64 (i1224 : Int)) rfl rfl (hM1241 5 rfl) (rfl) (fun _ => by exact r_mv (v := .int .i64 (i1224 : Int)) rfl) (dbits 7 63) ?_
      refine ae_tail 6 (by decide) (by decide) (by kernel_rfl) (by kernel_rfl) rfl ?_
      refine s_mapset hC 3 (r1071.getD i1224 default) (i1224 : Int) rfl kt101 Try.underlying156 rfl rfl rfl (fun w1242 hC => ?_) (.inl rfl)
      refine done ?_
      refine qn_norm ?_
      refine blk_norm ?_
      refine then_norm ?_
      refine cw_region ?_
      refine s_add (sx hS_ 5 rfl) rfl ?_
      refine s_mv (v := .int .i64 (IntKind.i64.wrap ((i1224 : Int) + 1))) rfl ?_
      refine done ?_
      replace hC := hC.sM [1, 2, 3, 4, 5, 6] (M' := [own 101 8 u1072 r1071.length ((EA .i64).encs r1071), blk b1065 158 [u1072, .map (some b1062), .slice none 0 0, .slice none 0 0, .slice none 0 0, .slice none 0 0], mapI (kvA .i64) (vvI .i64) b1062 (mset s1225 (r1071.getD i1224 default) (i1224 : Int)), blk b21 164 [.pointer (some ⟨b5, 0, none⟩), .map (some b18)], mapI (vvI .i64) vvP b18 ([] : List (Int × Nat)), blk b5 32 [u0_0, u0_1]]) (by decide) rfl
      exact hK1229 (mset s1225 (r1071.getD i1224 default) (i1224 : Int)) _ _ ⟨(sk (sx hS_ 0 rfl) (sk (sx hS_ 1 rfl) (sk (sx hS_ 2 rfl) (sk (sx hS_ 3 rfl) (sk (sx hS_ 4 rfl) (sk (tr rfl (congrArg _ (wrap64_nat hi1230 hN1226))) sn)))))), hC⟩ h
     ·clear hC h
      rintro s1225 e_ w1243 K1228 ⟨hS_, hC⟩ h
      refine sr ?_
      refine s_lss (sx hS_ 5 rfl) (sx hS_ 4 rfl) ?_
      refine dn ?_
      refine wp_seq ?_
      refine cw_false rfl (decide_eq_false (by omega)) ?_
      refine wp_exit (then_exit (then_exit (exit_in ?_)))
      refine then_norm ?_
      refine sr ?_
      refine s_mv (v := .pointer (some ⟨b21, 0, none⟩)) (sx hS_ 0 rfl) ?_
      refine s_nilchk rfl ?_
      refine s_faddrB 1 Try.underlying164 rfl sc162.size rfl rfl ?_
      refine s_loadS hC 3 (.map (some b18)) rfl sc162 rfl rfl ?_
      refine s_mv (v := .int .i64 a1) (sx hS_ 1 rfl) ?_
      refine s_mv (v := .pointer (some ⟨b1065, 0, none⟩)) (sx hS_ 2 rfl) ?_
      refine s_mapset hC 4 a1 b1065 rfl kt2 Try.underlying162 rfl rfl rfl (fun w1244 hC => ?_) (.inl rfl)
      refine dn ?_
      refine sr ?_
      refine s_mv (v := .pointer (some ⟨b1065, 0, none⟩)) (sx hS_ 2 rfl) ?_
      refine s_as (v := .pointer (some ⟨b1065, 0, none⟩)) rfl ?_
      refine dn ?_
      refine wp_ret ?_
      refine ret1 (fn := Try.f65) (v := .pointer (some ⟨b1065, 0, none⟩)) rfl (res_tmp rfl) ⟨_, rfl, ?_⟩ (.inl rfl)
      refine s_nilchk rfl ?_
      refine s_faddrB 0 Try.underlying158 rfl sc121.size rfl rfl ?_
      refine s_loadS hC 1 (u1072) rfl sc121 rfl rfl ?_
      obtain ⟨Ad1245, c1246, hv1247⟩ := own_form (hC.getM 0 rfl)
      refine s_len Try.underlying121 (tr rfl hv1247) ?_
      refine s_mv (v := .int .i64 0) rfl ?_
      refine dn ?_
      refine wp_block ?_
      have hN1280 : r1071.length ≤ 9223372036854775807 := own_max (hC.getM 0 rfl)
      refine loopN (S := Int) _ _ (fun i1278 s1279 e_ w_ => Slots e_ [(4, .int .i64 0), (5, .int .i64 s1279), (13, u1072), (14, .int .i64 (r1071.length : Int)), (15, .int .i64 (i1278 : Int))] ∧ Ctx Nox w0 w_ [own 101 8 u1072 r1071.length ((EA .i64).encs r1071), blk b21 164 [.pointer (some ⟨b5, 0, none⟩), .map (some b18)], mapI (vvI .i64) vvP b18 (mset ([] : List (Int × Nat)) a1 b1065), blk b5 32 [u0_0, u0_1]] [Ty.item TForm.sl a0.images [u0_1] fp0, Ty.item ((EI .i64).ty.sl) a0.degrees [u0_0] fp0, Ty.item TAlg a0 [u0_0, u0_1] fp0]) r1071.length ?_ ?_ (s0 := 0) ?_ h
      ·clear hC h
       rintro i1278 s1279 e_ w1285 next1281 K1282 hi1284 ⟨hS_, hC⟩ h hK1283
       refine sr ?_
       refine s_lss (sx hS_ 4 rfl) (sx hS_ 3 rfl) ?_
       refine dn ?_
       refine wp_seq ?_
       refine cw_true rfl (decide_eq_true (by omega)) ?_
       refine wp_skip ?_
       refine then_norm ?_
       refine wp_seq ?_
       refine wp_block ?_
       refine sr ?_
       obtain ⟨Ad1286, c1287, hv1288⟩ := own_formE (hC.getM 0 rfl) (Nat.lt_of_le_of_lt (Nat.zero_le _) hi1284)
       refine s_iaddrO (i1278 * 8) Try.underlying121 ag101.size (tr (sx hS_ 2 rfl) hv1288) (sx hS_ 4 rfl) (Int.natCast_nonneg _) (Int.ofNat_lt.2 hi1284) rfl ?_
       refine s_loadCA (A8.enc .i64 (r1071.getD i1278 default)) (own_cellsE (hC.getM 0 rfl) hv1288 i1278 hi1284) ag101 rfl rfl ?_
       refine s_alloc hC (A8.enc .i64 A8.zero) z101 rfl fun b1289 w1291 hB_ hC => ?_
       refine s_store (v := .agg (List.toArray (A8.enc .i64 (r1071.getD i1278 default)))) hC 0 (A8.enc .i64 (r1071.getD i1278 default)) (A8.enc .i64 (r1071.getD i1278 default)) rfl ag101.size rfl rfl rfl rfl rfl (Nat.le_of_ble_eq_true rfl) rfl fun w1292 hC => ?_
       refine dn ?_
       refine cw_region ?_
       refine s_mv (v := .int .i64 s1279) (sx hS_ 1 rfl) ?_
       refine s_loadA hC 0 (A8.enc .i64 (r1071.getD i1278 default)) rfl ag101 rfl rfl rfl ?_
       refine s_call [.agg (List.toArray (A8.enc .i64 (r1071.getD i1278 default)))] _ Try.func117 rfl rfl rfl (c_impl_power_length (r1071.getD i1278 default) h _) (fun ret1293 w1295 hR1294 => ?_)
       obtain ⟨r1296, rfl, h, hB1297⟩ := hR1294
       refine ⟨_, rfl, ?_⟩
       replace hC := hC.grow hB1297
       refine s_max rfl rfl ?_
       refine s_as (v := .int .i64 (if s1279 < r1296 then r1296 else s1279)) rfl ?_
       refine done ?_
       refine blk_norm ?_
       refine then_norm ?_
       refine cw_region ?_
       refine s_add (sx hS_ 4 rfl) rfl ?_
       refine s_mv (v := .int .i64 (IntKind.i64.wrap ((i1278 : Int) + 1))) rfl ?_
       refine done ?_
       replace hC := hC.sM [1, 2, 3, 4] (M' := [own 101 8 u1072 r1071.length ((EA .i64).encs r1071), blk b21 164 [.pointer (some ⟨b5, 0, none⟩), .map (some b18)], mapI (vvI .i64) vvP b18 (mset ([] : List (Int × Nat)) a1 b1065), blk b5 32 [u0_0, u0_1]]) (by decide) rfl
       exact hK1283 (if s1279 < r1296 then r1296 else s1279) _ _ ⟨(sk (sx hS_ 0 rfl) (sk rfl (sk (sx hS_ 2 rfl) (sk (sx hS_ 3 rfl) (sk (tr rfl (congrArg _ (wrap64_nat hi1284 hN1280))) sn))))), hC⟩ h
      ·clear hC h
       rintro s1279 e_ w1298 K1282 ⟨hS_, hC⟩ h
       refine sr ?_
       refine s_lss (sx hS_ 4 rfl) (sx hS_ 3 rfl) ?_
       refine dn ?_
       refine wp_seq ?_
       refine cw_false rfl (decide_eq_false (by omega)) ?_
       refine wp_exit (then_exit (then_exit (exit_in ?_)))
       refine then_norm ?_
       refine sr ?_
       refine s_mv (v := .int .i64 s1279) (sx hS_ 1 rfl) ?_
       refine s_as (v := .int .i64 s1279) rfl ?_
       refine dn ?_
       refine wp_ret ?_
       refine ret1 (fn := Try.f58) (v := .int .i64 s1279) rfl (res_tmp rfl) ⟨_, rfl, ?_⟩ (.inl rfl)
       refine s_as (v := .int .i64 s1279) rfl ?_
       refine s_as (v := .int .i64 0) rfl ?_
       refine dn ?_
       refine wp_ret ?_
       refine ret2 (fn := Try.f18) rfl ?_ ?_ ⟨s1279, 0, rfl, h, hC.below⟩ (.inl rfl)
       ·exact res_tmp rfl
       ·exact res_tmp rfl
      ·skip
       replace hC := hC.sM [0, 3, 4, 5] (M' := [own 101 8 u1072 r1071.length ((EA .i64).encs r1071), blk b21 164 [.pointer (some ⟨b5, 0, none⟩), .map (some b18)], mapI (vvI .i64) vvP b18 (mset ([] : List (Int × Nat)) a1 b1065), blk b5 32 [u0_0, u0_1]]) (by decide) rfl
       exact ⟨(sk rfl (sk rfl (sk rfl (sk rfl (sk rfl sn))))), hC⟩
     ·skip
      replace hC := hC.sM [0, 1, 2, 5, 6, 7] (M' := [own 101 8 u1072 r1071.length ((EA .i64).encs r1071), blk b1065 158 [u1072, .map (some b1062), .slice none 0 0, .slice none 0 0, .slice none 0 0, .slice none 0 0], mapI (kvA .i64) (vvI .i64) b1062 ([] : List (A8 × Int)), blk b21 164 [.pointer (some ⟨b5, 0, none⟩), .map (some b18)], mapI (vvI .i64) vvP b18 ([] : List (Int × Nat)), blk b5 32 [u0_0, u0_1]]) (by decide) rfl
      exact ⟨(sk rfl (sk rfl (sk rfl (sk rfl (sk rfl (sk rfl sn)))))), hC⟩
   ·replace h := iff_ h (not_not_intro ((not_f hb1060)))
    refine guardOn 5 18 rfl rfl hb1060 ?_
    refine s_mv (v := .pointer (some ⟨b21, 0, none⟩)) (slot hSi1045 0 rfl) ?_
    refine guardOn 5 18 rfl rfl hb1060 ?_
    refine s_mv (v := .int .i64 ([a1].getD i1034 default)) rfl ?_
    refine guardOn 5 18 rfl rfl hb1060 ?_
    refine s_inline [.pointer (some ⟨b21, 0, none⟩), .int .i64 ([a1].getD i1034 default)] Try.func148 rfl rfl 20 Try.ntmps148 (Nat.le_of_ble_eq_true rfl) rfl ?_
    refine sr ?_
    refine s_as (v := .bool false) rfl ?_
    refine dn ?_
    refine sr ?_
    refine s_mv (v := .pointer (some ⟨b21, 0, none⟩)) rfl ?_
    refine s_nilchk rfl ?_
    refine s_faddrB 0 Try.underlying164 rfl sc72.size rfl rfl ?_
    refine s_loadS hC 2 (.pointer (some ⟨b5, 0, none⟩)) rfl sc72 rfl rfl ?_
    refine s_nilchk rfl ?_
    refine s_faddrB 0 Try.underlying32 rfl sc22.size rfl rfl ?_
    refine s_loadS hC 4 (u0_0) rfl sc22 rfl rfl ?_
    refine s_mv (v := .int .i64 ([a1].getD i1034 default)) rfl ?_
    refine s_call [u0_0, .int .i64 ([a1].getD i1034 default), .int .i64 120] _ Try.func91 rfl rfl rfl (c_impl_monomials a0.degrees ([a1].getD i1034 default) 120 h _ (hC.getP 1 rfl)) (fun ret1299 w1301 hR1300 => ?_)
    obtain ⟨r1302, u1303, f1304, r1307, rfl, h, hr1305, hf1306, hB1308⟩ := hR1300
    refine ⟨_, rfl, ?_⟩
    replace hC := hC.push hB1308 (Tr.item (Tr.sl 101 ((EA .i64).tr)) r1302 [u1303] f1304) hr1305 hf1306
    obtain ⟨ho1310, hf1311⟩ := flat_tr (hC.getM 0 rfl).1
    subst hf1311
    replace hC := hC.recast (c := own 101 8 u1303 r1302.length ((EA .i64).encs r1302)) (fun _ h_ => h_) (fun _ => ho1310)
    refine s_mv (v := .tuple #[u1303, .bool r1307]) rfl ?_
    refine s_ext (v := u1303) rfl rfl ?_
    refine s_ext (v := .bool r1307) rfl rfl ?_
    refine s_as (v := u1303) rfl ?_
    refine s_as (v := .bool r1307) rfl ?_
    refine dn ?_
    refine sr ?_
    refine s_mv (v := .bool r1307) rfl ?_
    refine s_as (v := .bool r1307) rfl ?_
    refine dn ?_
    refine wp_ret ?_
    refine ret1 (fn := Try.f148) (v := .bool r1307) rfl (res_tmp rfl) ⟨_, rfl, ?_⟩ (.inl rfl)
    refine guardOn 5 18 rfl rfl hb1060 ?_
    refine s_not rfl ?_
    refine s_pick (v := .bool (!r1307)) (b := false) (tr rfl (congrArg _ hb1060)) rfl ?_
    refine s_mv (v := .bool (!r1307)) rfl ?_
    refine bsplit (!r1307) (fun hb1313 => ?_) (fun hb1313 => ?_)
    ·replace h := ift h (ne_t (not_t hb1313))
     refine guardOff (b := true) 11 24 rfl (tr rfl (congrArg _ hb1313)) (by decide) ?_
     refine guardOff (b := true) 11 24 rfl (tr rfl (congrArg _ hb1313)) (by decide) ?_
     refine guardOff (b := true) 11 24 rfl (tr rfl (congrArg _ hb1313)) (by decide) ?_
     refine guardOff (b := true) 11 24 rfl (tr rfl (congrArg _ hb1313)) (by decide) ?_
     refine guardOff (b := true) 11 24 rfl (tr rfl (congrArg _ hb1313)) (by decide) ?_
     refine s_pick (v := .bool true) (b := true) (tr rfl (congrArg _ hb1313)) rfl ?_
     refine dn ?_
     refine cw_true rfl rfl ?_
     refine sr ?_
     refine s_as (v := .int .i64 3) rfl ?_
     refine dn ?_
     refine wp_ret (blk_ret (then_ret (then_ret (blk_ret (then_ret ?_)))))
     refine ret1 (fn := Try.f116) (v := .int .i64 3) rfl (res_tmp rfl) ⟨_, rfl, ?_⟩ (.inl rfl)
     refine s_as (v := .int .i64 3) rfl ?_
     refine dn ?_
     refine sr ?_
     refine s_mv (v := .pointer (some ⟨b21, 0, none⟩)) rfl ?_
     refine s_mv (v := .int .i64 3) rfl ?_
     refine s_as (v := .pointer (some ⟨b21, 0, none⟩)) rfl ?_
     refine s_as (v := .int .i64 3) rfl ?_
     refine dn ?_
     refine wp_ret ?_
     refine ret2 (fn := Try.f57) (v := .pointer (some ⟨b21, 0, none⟩)) (u := .int .i64 3) rfl (res_tmp rfl) (res_tmp rfl) ⟨_, rfl, ?_⟩ (.inl rfl)
     refine s_mv (v := .tuple #[.pointer (some ⟨b21, 0, none⟩), .int .i64 3]) rfl ?_
     refine s_ext (v := .pointer (some ⟨b21, 0, none⟩)) rfl rfl ?_
     refine s_ext (v := .int .i64 3) rfl rfl ?_
     refine s_as (v := .pointer (some ⟨b21, 0, none⟩)) rfl ?_
     refine s_as (v := .int .i64 3) rfl ?_
     refine dn ?_
     refine wp_seq ?_
     refine sr ?_
     refine s_mv (v := .int .i64 3) rfl ?_
     refine s_neq rfl rfl ?_
     refine dn ?_
     refine cw_cond rfl (fun hb1314 => ?_) (fun hb1314 => ?_)
     ·replace h := ift h (ct hb1314)
      refine sr ?_
      refine s_mv (v := .int .i64 3) rfl ?_
      refine s_as (v := .int .i64 0) rfl ?_
      refine s_as (v := .int .i64 3) rfl ?_
      refine dn ?_
      refine wp_ret (then_ret ?_)
      refine ret2 (fn := Try.f18) rfl ?_ ?_ ⟨0, 3, rfl, h, hC.below⟩ (.inl rfl)
      ·exact res_tmp rfl
      ·exact res_tmp rfl
     ·replace h := iff_ h (cf hb1314)
      refine wp_skip ?_
      refine then_norm ?_
      refine sr ?_
      refine s_mv (v := .pointer (some ⟨b21, 0, none⟩)) rfl ?_
      refine s_mv (v := .int .i64 a1) rfl ?_
      refine s_inline [.pointer (some ⟨b21, 0, none⟩), .int .i64 a1] Try.func58 rfl rfl 25 Try.ntmps58 (Nat.le_of_ble_eq_true rfl) rfl ?_
      refine sr ?_
      refine s_as (v := .int .i64 0) rfl ?_
      refine dn ?_
      refine sr ?_
      refine s_as (v := .int .i64 0) rfl ?_
      refine dn ?_
      refine wp_seq ?_
      refine sr ?_
      refine s_mv (v := .pointer (some ⟨b21, 0, none⟩)) rfl ?_
      refine s_mv (v := .int .i64 a1) rfl ?_
      refine s_inline [.pointer (some ⟨b21, 0, none⟩), .int .i64 a1] Try.func65 rfl rfl 63 Try.ntmps65 (Nat.le_of_ble_eq_true rfl) rfl ?_
      refine sr ?_
      refine s_as (v := .pointer none) rfl ?_
      refine dn ?_
      refine wp_seq ?_
      refine sr ?_
      refine s_mv (v := .pointer (some ⟨b21, 0, none⟩)) rfl ?_
      refine s_nilchk rfl ?_
      refine s_faddrB 1 Try.underlying164 rfl sc162.size rfl rfl ?_
      refine s_loadS hC 3 (.map (some b18)) rfl sc162 rfl rfl ?_
      refine s_mv (v := .int .i64 a1) rfl ?_
      refine s_lookupE a1 (.pointer none) (hC.getM 4 rfl) kt2 Try.underlying162 z88 rfl rfl ?_
      refine s_mv (v := .tuple #[.pointer none, .bool false]) rfl ?_
      refine s_ext (v := .pointer none) rfl rfl ?_
      refine s_ext (v := .bool false) rfl rfl ?_
      refine s_as (v := .pointer none) rfl ?_
      refine s_as (v := .bool false) rfl ?_
      refine dn ?_
      refine sr ?_
      refine s_mv (v := .bool false) rfl ?_
      refine dn ?_
      refine cw_false rfl rfl ?_
      refine wp_skip ?_
      refine then_norm ?_
      refine sr ?_
      refine s_makeMap hC (kvA .i64) (vvI .i64) fun b1315 w1317 hB_ hC => ?_
      refine s_build [(1, .map (some b1315))] rfl (bl158_1map b1315  _) ?_
      refine s_box (v := .agg #[.slice none 0 0, .map (some b1315), .slice none 0 0, .slice none 0 0, .slice none 0 0, .slice none 0 0]) hC [.slice none 0 0, .map (some b1315), .slice none 0 0, .slice none 0 0, .slice none 0 0, .slice none 0 0] rfl rfl fun b1318 w1320 hB_ hC => ?_
      refine s_as (v := .pointer (some ⟨b1318, 0, none⟩)) rfl ?_
      refine dn ?_
      refine sr ?_
      refine s_mv (v := .pointer (some ⟨b1318, 0, none⟩)) rfl ?_
      refine s_mv (v := .pointer (some ⟨b21, 0, none⟩)) rfl ?_
      refine s_nilchk rfl ?_
      refine s_faddrB 0 Try.underlying164 rfl sc72.size rfl rfl ?_
      refine s_loadS hC 5 (.pointer (some ⟨b5, 0, none⟩)) rfl sc72 rfl rfl ?_
      refine s_nilchk rfl ?_
      refine s_faddrB 0 Try.underlying32 rfl sc22.size rfl rfl ?_
      refine s_loadS hC 7 (u0_0) rfl sc22 rfl rfl ?_
      refine s_mv (v := .int .i64 a1) rfl ?_
      refine s_call [u0_0, .int .i64 a1, .int .i64 120] _ Try.func91 rfl rfl rfl (c_impl_monomials a0.degrees a1 120 h _ (hC.getP 1 rfl)) (fun ret1321 w1323 hR1322 => ?_)
      obtain ⟨r1324, u1325, f1326, r1329, rfl, h, hr1327, hf1328, hB1330⟩ := hR1322
      refine ⟨_, rfl, ?_⟩
      replace hC := hC.push hB1330 (Tr.item (Tr.sl 101 ((EA .i64).tr)) r1324 [u1325] f1326) hr1327 hf1328
      obtain ⟨ho1332, hf1333⟩ := flat_tr (hC.getM 0 rfl).1
      subst hf1333
      replace hC := hC.recast (c := own 101 8 u1325 r1324.length ((EA .i64).encs r1324)) (fun _ h_ => h_) (fun _ => ho1332)
      refine s_mv (v := .tuple #[u1325, .bool r1329]) rfl ?_
      refine s_ext (v := u1325) rfl rfl ?_
      refine s_ext (v := .bool r1329) rfl rfl ?_
      refine s_nilchk rfl ?_
      refine s_faddrB 0 Try.underlying158 rfl sc121.size rfl rfl ?_
      refine s_store (v := u1325) hC 1 [u1325] [u1325, .map (some b1315), .slice none 0 0, .slice none 0 0, .slice none 0 0, .slice none 0 0] rfl sc121.size rfl rfl (own_cellsV (hC.getM 0 rfl)) rfl (all_c (own_oneC (hC.getM 0 rfl)) rfl) (Nat.le_of_ble_eq_true rfl) rfl fun w1335 hC => ?_
      refine dn ?_
      refine wp_seq ?_
      refine sr ?_
      refine s_mv (v := .pointer (some ⟨b1318, 0, none⟩)) rfl ?_
      refine s_nilchk rfl ?_
      refine s_faddrB 0 Try.underlying158 rfl sc121.size rfl rfl ?_
      refine s_loadS hC 1 (u1325) rfl sc121 rfl rfl ?_
      obtain ⟨Ad1336, c1337, hv1338⟩ := own_form (hC.getM 0 rfl)
      refine s_len Try.underlying121 (tr rfl hv1338) ?_
      refine s_mv (v := .int .i64 0) rfl ?_
      refine dn ?_
      refine wp_block ?_
      have hN1479 : r1324.length ≤ 9223372036854775807 := own_max (hC.getM 0 rfl)
      refine loopN (S := (List (A8 × Int))) _ _ (fun i1477 s1478 e_ w_ => Slots e_ [(0, .pointer (some ⟨b21, 0, none⟩)), (1, .int .i64 a1), (7, .pointer (some ⟨b1318, 0, none⟩)), (42, u1325), (43, .int .i64 (r1324.length : Int)), (44, .int .i64 (i1477 : Int))] ∧ Ctx Nox w0 w_ [own 101 8 u1325 r1324.length ((EA .i64).encs r1324), blk b1318 158 [u1325, .map (some b1315), .slice none 0 0, .slice none 0 0, .slice none 0 0, .slice none 0 0], mapI (kvA .i64) (vvI .i64) b1315 s1478, blk b21 164 [.pointer (some ⟨b5, 0, none⟩), .map (some b18)], mapI (vvI .i64) vvP b18 ([] : List (Int × Nat)), blk b5 32 [u0_0, u0_1]] [Ty.item TForm.sl a0.images [u0_1] fp0, Ty.item ((EI .i64).ty.sl) a0.degrees [u0_0] fp0, Ty.item TAlg a0 [u0_0, u0_1] fp0]) r1324.length ?_ ?_ (s0 := ([] : List (A8 × Int))) ?_ h
      ·clear hC h
       rintro i1477 s1478 e_ w1484 next1480 K1481 hi1483 ⟨hS_, hC⟩ h hK1482
       refine sr ?_
       refine s_lss (sx hS_ 5 rfl) (sx hS_ 4 rfl) ?_
       refine dn ?_
       refine wp_seq ?_
       refine cw_true rfl (decide_eq_true (by omega)) ?_
       refine wp_skip ?_
       refine then_norm ?_
       refine wp_seq ?_
       refine wp_block ?_
       refine sr ?_
       refine s_mv (v := .int .i64 (i1477 : Int)) (sx hS_ 5 rfl) ?_
       obtain ⟨Ad1485, c1486, hv1487⟩ := own_formE (hC.getM 0 rfl) (Nat.lt_of_le_of_lt (Nat.zero_le _) hi1483)
       refine s_iaddrO (i1477 * 8) Try.underlying121 ag101.size (tr (sx hS_ 3 rfl) hv1487) (sx hS_ 5 rfl) (Int.natCast_nonneg _) (Int.ofNat_lt.2 hi1483) rfl ?_
       refine s_loadCA (A8.enc .i64 (r1324.getD i1477 default)) (own_cellsE (hC.getM 0 rfl) hv1487 i1477 hi1483) ag101 rfl rfl ?_
       refine s_alloc hC (A8.enc .i64 A8.zero) z101 rfl fun b1488 w1490 hB_ hC => ?_
       refine s_as (v := .int .i64 (i1477 : Int)) rfl ?_
       refine s_store (v := .agg (List.toArray (A8.enc .i64 (r1324.getD i1477 default)))) hC 0 (A8.enc .i64 (r1324.getD i1477 default)) (A8.enc .i64 (r1324.getD i1477 default)) rfl ag101.size rfl rfl rfl rfl rfl (Nat.le_of_ble_eq_true rfl) rfl fun w1491 hC => ?_
       refine dn ?_
       refine cw_draw 6 mixed [0, 1, 3, 7, 0, 0, 63] [3, 4] [0, 1, 2, 5] (by kernel_rfl) (by kernel_rfl) (by kernel_rfl) (fun hM1493 hM1494 w1492 hB_ => ?_)
       replace hC := hC.grow hB_
       refine aF 0 (.pointer (some ⟨b1318, 0, none⟩)) rfl rfl (hM1494 0 rfl) (rfl) (fun _ => by exact r_mv (v := .pointer (some ⟨b1318, 0, none⟩)) (sx hS_ 2 rfl)) (dbits 7 1) ?_
       refine aF 1 (.pointer (some ⟨b1318, 0, none⟩)) rfl rfl (hM1494 1 rfl) (rfl) (fun _ => by exact r_nilchk rfl) (dbits 7 3) ?_
       refine aF 2 (.pointer (some ⟨b1318, 1, none⟩)) rfl rfl (hM1494 2 rfl) (rfl) (fun _ => by exact r_faddrB 1 Try.underlying158 rfl sc156.size rfl rfl) (dbits 7 7) ?_
       refine aL 3 (.map (some b1315)) rfl rfl (hM1493 3 rfl) (rfl) (fun _ hB_ => by exact r_loadS (hC.grow hB_) 2 (.map (some b1315)) rfl sc156 rfl rfl) (dbits 7 15) ?_
       refine aL 4 (.agg (List.toArray (A8.enc .i64 (r1324.getD i1477 default)))) rfl rfl (hM1493 4 rfl) (rfl) (fun _ hB_ => by exact r_loadA (hC.grow hB_) 0 (A8.enc .i64 (r1324.getD i1477 default)) rfl ag101 rfl rfl rfl) (dbits 7 31) ?_
       refine aF 5 (.int .i64 (i1477 : Int)) rfl rfl (hM1494 5 rfl) (rfl) (fun _ => by exact r_mv (v := .int .i64 (i1477 : Int)) rfl) (dbits 7 63) ?_
       refine ae_tail 6 (by decide) (by decide) (by kernel_rfl) (by kernel_rfl) rfl ?_
       refine s_mapset hC 3 (r1324.getD i1477 default) (i1477 : Int) rfl kt101 Try.underlying156 rfl rfl rfl (fun w1495 hC => ?_) (.inl rfl)
       refine done ?_
       refine qn_norm ?_
       refine blk_norm ?_
       refine then_norm ?_
       refine cw_region ?_
       refine s_add (sx hS_ 5 rfl) rfl ?_
       refine s_mv (v := .int .i64 (IntKind.i64.wrap ((i1477 : Int) + 1))) rfl ?_
       refine done ?_
       replace hC := hC.sM [1, 2, 3, 4, 5, 6] (M' := [own 101 8 u1325 r1324.length ((EA .i64).encs r1324), blk b1318 158 [u1325, .map (some b1315), .slice none 0 0, .slice none 0 0, .slice none 0 0, .slice none 0 0], mapI (kvA .i64) (vvI .i64) b1315 (mset s1478 (r1324.getD i1477 default) (i1477 : Int)), blk b21 164 [.pointer (some ⟨b5, 0, none⟩), .map (some b18)], mapI (vvI .i64) vvP b18 ([] : List (Int × Nat)), blk b5 32 [u0_0, u0_1]]) (by decide) rfl
       exact hK1482 (mset s1478 (r1324.getD i1477 default) (i1477 : Int)) _ _ ⟨(sk (sx hS_ 0 rfl) (sk (sx hS_ 1 rfl) (sk (sx hS_ 2 rfl) (sk (sx hS_ 3 rfl) (sk (sx hS_ 4 rfl) (sk (tr rfl (congrArg _ (wrap64_nat hi1483 hN1479))) sn)))))), hC⟩ h
      ·clear hC h
       rintro s1478 e_ w1496 K1481 ⟨hS_, hC⟩ h
       refine sr ?_
       refine s_lss (sx hS_ 5 rfl) (sx hS_ 4 rfl) ?_
       refine dn ?_
       refine wp_seq ?_
       refine cw_false rfl (decide_eq_false (by omega)) ?_
       refine wp_exit (then_exit (then_exit (exit_in ?_)))
       refine then_norm ?_
       refine sr ?_
       refine s_mv (v := .pointer (some ⟨b21, 0, none⟩)) (sx hS_ 0 rfl) ?_
       refine s_nilchk rfl ?_
       refine s_faddrB 1 Try.underlying164 rfl sc162.size rfl rfl ?_
       refine s_loadS hC 3 (.map (some b18)) rfl sc162 rfl rfl ?_
       refine s_mv (v := .int .i64 a1) (sx hS_ 1 rfl) ?_
       refine s_mv (v := .pointer (some ⟨b1318, 0, none⟩)) (sx hS_ 2 rfl) ?_
       refine s_mapset hC 4 a1 b1318 rfl kt2 Try.underlying162 rfl rfl rfl (fun w1497 hC => ?_) (.inl rfl)
       refine dn ?_
       refine sr ?_
       refine s_mv (v := .pointer (some ⟨b1318, 0, none⟩)) (sx hS_ 2 rfl) ?_
       refine s_as (v := .pointer (some ⟨b1318, 0, none⟩)) rfl ?_
       refine dn ?_
       refine wp_ret ?_
       refine ret1 (fn := Try.f65) (v := .pointer (some ⟨b1318, 0, none⟩)) rfl (res_tmp rfl) ⟨_, rfl, ?_⟩ (.inl rfl)
       refine s_nilchk rfl ?_
       refine s_faddrB 0 Try.underlying158 rfl sc121.size rfl rfl ?_
       refine s_loadS hC 1 (u1325) rfl sc121 rfl rfl ?_
       obtain ⟨Ad1498, c1499, hv1500⟩ := own_form (hC.getM 0 rfl)
       refine s_len Try.underlying121 (tr rfl hv1500) ?_
       refine s_mv (v := .int .i64 0) rfl ?_
       refine dn ?_
       refine wp_block ?_
       have hN1533 : r1324.length ≤ 9223372036854775807 := own_max (hC.getM 0 rfl)
       refine loopN (S := Int) _ _ (fun i1531 s1532 e_ w_ => Slots e_ [(4, .int .i64 0), (5, .int .i64 s1532), (13, u1325), (14, .int .i64 (r1324.length : Int)), (15, .int .i64 (i1531 : Int))] ∧ Ctx Nox w0 w_ [own 101 8 u1325 r1324.length ((EA .i64).encs r1324), blk b21 164 [.pointer (some ⟨b5, 0, none⟩), .map (some b18)], mapI (vvI .i64) vvP b18 (mset ([] : List (Int × Nat)) a1 b1318), blk b5 32 [u0_0, u0_1]] [Ty.item TForm.sl a0.images [u0_1] fp0, Ty.item ((EI .i64).ty.sl) a0.degrees [u0_0] fp0, Ty.item TAlg a0 [u0_0, u0_1] fp0]) r1324.length ?_ ?_ (s0 := 0) ?_ h
       ·clear hC h
        rintro i1531 s1532 e_ w1538 next1534 K1535 hi1537 ⟨hS_, hC⟩ h hK1536
        refine sr ?_
        refine s_lss (sx hS_ 4 rfl) (sx hS_ 3 rfl) ?_
        refine dn ?_
        refine wp_seq ?_
        refine cw_true rfl (decide_eq_true (by omega)) ?_
        refine wp_skip ?_
        refine then_norm ?_
        refine wp_seq ?_
        refine wp_block ?_
        refine sr ?_
        obtain ⟨Ad1539, c1540, hv1541⟩ := own_formE (hC.getM 0 rfl) (Nat.lt_of_le_of_lt (Nat.zero_le _) hi1537)
        refine s_iaddrO (i1531 * 8) Try.underlying121 ag101.size (tr (sx hS_ 2 rfl) hv1541) (sx hS_ 4 rfl) (Int.natCast_nonneg _) (Int.ofNat_lt.2 hi1537) rfl ?_
        refine s_loadCA (A8.enc .i64 (r1324.getD i1531 default)) (own_cellsE (hC.getM 0 rfl) hv1541 i1531 hi1537) ag101 rfl rfl ?_
        refine s_alloc hC (A8.enc .i64 A8.zero) z101 rfl fun b1542 w1544 hB_ hC => ?_
        refine s_store (v := .agg (List.toArray (A8.enc .i64 (r1324.getD i1531 default)))) hC 0 (A8.enc .i64 (r1324.getD i1531 default)) (A8.enc .i64 (r1324.getD i1531 default)) rfl ag101.size rfl rfl rfl rfl rfl (Nat.le_of_ble_eq_true rfl) rfl fun w1545 hC => ?_
        refine dn ?_
        refine cw_region ?_
        refine s_mv (v := .int .i64 s1532) (sx hS_ 1 rfl) ?_
        refine s_loadA hC 0 (A8.enc .i64 (r1324.getD i1531 default)) rfl ag101 rfl rfl rfl ?_
        refine s_call [.agg (List.toArray (A8.enc .i64 (r1324.getD i1531 default)))] _ Try.func117 rfl rfl rfl (c_impl_power_length (r1324.getD i1531 default) h _) (fun ret1546 w1548 hR1547 => ?_)
        obtain ⟨r1549, rfl, h, hB1550⟩ := hR1547
        refine ⟨_, rfl, ?_⟩
        replace hC := hC.grow hB1550
        refine s_max rfl rfl ?_
        refine s_as (v := .int .i64 (if s1532 < r1549 then r1549 else s1532)) rfl ?_
        refine done ?_
        refine blk_norm ?_
        refine then_norm ?_
        refine cw_region ?_
        refine s_add (sx hS_ 4 rfl) rfl ?_
        refine s_mv (v := .int .i64 (IntKind.i64.wrap ((i1531 : Int) + 1))) rfl ?_
        refine done ?_
        replace hC := hC.sM [1, 2, 3, 4] (M' := [own 101 8 u1325 r1324.length ((EA .i64).encs r1324), blk b21 164 [.pointer (some ⟨b5, 0, none⟩), .map (some b18)], mapI (vvI .i64) vvP b18 (mset ([] : List (Int × Nat)) a1 b1318), blk b5 32 [u0_0, u0_1]]) (by decide) rfl
        exact hK1536 (if s1532 < r1549 then r1549 else s1532) _ _ ⟨(sk (sx hS_ 0 rfl) (sk rfl (sk (sx hS_ 2 rfl) (sk (sx hS_ 3 rfl) (sk (tr rfl (congrArg _ (wrap64_nat hi1537 hN1533))) sn))))), hC⟩ h
       ·clear hC h
        rintro s1532 e_ w1551 K1535 ⟨hS_, hC⟩ h
        refine sr ?_
        refine s_lss (sx hS_ 4 rfl) (sx hS_ 3 rfl) ?_
        refine dn ?_
        refine wp_seq ?_
        refine cw_false rfl (decide_eq_false (by omega)) ?_
        refine wp_exit (then_exit (then_exit (exit_in ?_)))
        refine then_norm ?_
        refine sr ?_
        refine s_mv (v := .int .i64 s1532) (sx hS_ 1 rfl) ?_
        refine s_as (v := .int .i64 s1532) rfl ?_
        refine dn ?_
        refine wp_ret ?_
        refine ret1 (fn := Try.f58) (v := .int .i64 s1532) rfl (res_tmp rfl) ⟨_, rfl, ?_⟩ (.inl rfl)
        refine s_as (v := .int .i64 s1532) rfl ?_
        refine s_as (v := .int .i64 0) rfl ?_
        refine dn ?_
        refine wp_ret ?_
        refine ret2 (fn := Try.f18) rfl ?_ ?_ ⟨s1532, 0, rfl, h, hC.below⟩ (.inl rfl)
        ·exact res_tmp rfl
        ·exact res_tmp rfl
       ·skip
        replace hC := hC.sM [0, 3, 4, 5] (M' := [own 101 8 u1325 r1324.length ((EA .i64).encs r1324), blk b21 164 [.pointer (some ⟨b5, 0, none⟩), .map (some b18)], mapI (vvI .i64) vvP b18 (mset ([] : List (Int × Nat)) a1 b1318), blk b5 32 [u0_0, u0_1]]) (by decide) rfl
        exact ⟨(sk rfl (sk rfl (sk rfl (sk rfl (sk rfl sn))))), hC⟩
      ·skip
       replace hC := hC.sM [0, 1, 2, 6, 7, 8] (M' := [own 101 8 u1325 r1324.length ((EA .i64).encs r1324), blk b1318 158 [u1325, .map (some b1315), .slice none 0 0, .slice none 0 0, .slice none 0 0, .slice none 0 0], mapI (kvA .i64) (vvI .i64) b1315 ([] : List (A8 × Int)), blk b21 164 [.pointer (some ⟨b5, 0, none⟩), .map (some b18)], mapI (vvI .i64) vvP b18 ([] : List (Int × Nat)), blk b5 32 [u0_0, u0_1]]) (by decide) rfl
       exact ⟨(sk rfl (sk rfl (sk rfl (sk rfl (sk rfl (sk rfl sn)))))), hC⟩
    ·replace h := iff_ h (not_not_intro ((not_f hb1313)))
     refine guardOn 11 24 rfl rfl hb1313 ?_
     refine s_mv (v := .pointer (some ⟨b21, 0, none⟩)) (slot hSi1045 0 rfl) ?_
     refine guardOn 11 24 rfl rfl hb1313 ?_
     refine s_mv (v := .int .i64 ([a1].getD i1034 default)) rfl ?_
     refine guardOn 11 24 rfl rfl hb1313 ?_
     refine s_add rfl rfl ?_
     refine guardOn 11 24 rfl rfl hb1313 ?_
     refine s_inline [.pointer (some ⟨b21, 0, none⟩), .int .i64 (IntKind.i64.wrap (([a1].getD i1034 default) + 1))] Try.func148 rfl rfl 20 Try.ntmps148 (Nat.le_of_ble_eq_true rfl) rfl ?_
     refine sr ?_
     refine s_as (v := .bool false) rfl ?_
     refine dn ?_
     refine sr ?_
     refine s_mv (v := .pointer (some ⟨b21, 0, none⟩)) rfl ?_
     refine s_nilchk rfl ?_
     refine s_faddrB 0 Try.underlying164 rfl sc72.size rfl rfl ?_
     refine s_loadS hC 3 (.pointer (some ⟨b5, 0, none⟩)) rfl sc72 rfl rfl ?_
     refine s_nilchk rfl ?_
     refine s_faddrB 0 Try.underlying32 rfl sc22.size rfl rfl ?_
     refine s_loadS hC 5 (u0_0) rfl sc22 rfl rfl ?_
     refine s_mv (v := .int .i64 (IntKind.i64.wrap (([a1].getD i1034 default) + 1))) rfl ?_
     refine s_call [u0_0, .int .i64 (IntKind.i64.wrap (([a1].getD i1034 default) + 1)), .int .i64 120] _ Try.func91 rfl rfl rfl (c_impl_monomials a0.degrees (IntKind.i64.wrap (([a1].getD i1034 default) + 1)) 120 h _ (hC.getP 1 rfl)) (fun ret1552 w1554 hR1553 => ?_)
     obtain ⟨r1555, u1556, f1557, r1560, rfl, h, hr1558, hf1559, hB1561⟩ := hR1553
     refine ⟨_, rfl, ?_⟩
     replace hC := hC.push hB1561 (Tr.item (Tr.sl 101 ((EA .i64).tr)) r1555 [u1556] f1557) hr1558 hf1559
     obtain ⟨ho1563, hf1564⟩ := flat_tr (hC.getM 0 rfl).1
     subst hf1564
     replace hC := hC.recast (c := own 101 8 u1556 r1555.length ((EA .i64).encs r1555)) (fun _ h_ => h_) (fun _ => ho1563)
     refine s_mv (v := .tuple #[u1556, .bool r1560]) rfl ?_
     refine s_ext (v := u1556) rfl rfl ?_
     refine s_ext (v := .bool r1560) rfl rfl ?_
     refine s_as (v := u1556) rfl ?_
     refine s_as (v := .bool r1560) rfl ?_
     refine dn ?_
     refine sr ?_
     refine s_mv (v := .bool r1560) rfl ?_
     refine s_as (v := .bool r1560) rfl ?_
     refine dn ?_
     refine wp_ret ?_
     refine ret1 (fn := Try.f148) (v := .bool r1560) rfl (res_tmp rfl) ⟨_, rfl, ?_⟩ (.inl rfl)
     refine guardOn 11 24 rfl rfl hb1313 ?_
     refine s_not rfl ?_
     refine s_pick (v := .bool (!r1560)) (b := false) (tr rfl (congrArg _ hb1313)) rfl ?_
     refine dn ?_
     refine cw_cond rfl (fun hb1566 => ?_) (fun hb1566 => ?_)
     ·replace h := ift h (ne_t (not_t hb1566))
      refine sr ?_
      refine s_as (v := .int .i64 3) rfl ?_
      refine dn ?_
      refine wp_ret (blk_ret (then_ret (then_ret (blk_ret (then_ret ?_)))))
      refine ret1 (fn := Try.f116) (v := .int .i64 3) rfl (res_tmp rfl) ⟨_, rfl, ?_⟩ (.inl rfl)
      refine s_as (v := .int .i64 3) rfl ?_
      refine dn ?_
      refine sr ?_
      refine s_mv (v := .pointer (some ⟨b21, 0, none⟩)) rfl ?_
      refine s_mv (v := .int .i64 3) rfl ?_
      refine s_as (v := .pointer (some ⟨b21, 0, none⟩)) rfl ?_
      refine s_as (v := .int .i64 3) rfl ?_
      refine dn ?_
      refine wp_ret ?_
      refine ret2 (fn := Try.f57) (v := .pointer (some ⟨b21, 0, none⟩)) (u := .int .i64 3) rfl (res_tmp rfl) (res_tmp rfl) ⟨_, rfl, ?_⟩ (.inl rfl)
      refine s_mv (v := .tuple #[.pointer (some ⟨b21, 0, none⟩), .int .i64 3]) rfl ?_
      refine s_ext (v := .pointer (some ⟨b21, 0, none⟩)) rfl rfl ?_
      refine s_ext (v := .int .i64 3) rfl rfl ?_
      refine s_as (v := .pointer (some ⟨b21, 0, none⟩)) rfl ?_
      refine s_as (v := .int .i64 3) rfl ?_
      refine dn ?_
      refine wp_seq ?_
      refine sr ?_
      refine s_mv (v := .int .i64 3) rfl ?_
      refine s_neq rfl rfl ?_
      refine dn ?_
      refine cw_cond rfl (fun hb1567 => ?_) (fun hb1567 => ?_)
      ·replace h := ift h (ct hb1567)
       refine sr ?_
       refine s_mv (v := .int .i64 3) rfl ?_
       refine s_as (v := .int .i64 0) rfl ?_
       refine s_as (v := .int .i64 3) rfl ?_
       refine dn ?_
       refine wp_ret (then_ret ?_)
       refine ret2 (fn := Try.f18) rfl ?_ ?_ ⟨0, 3, rfl, h, hC.below⟩ (.inl rfl)
       ·exact res_tmp rfl
       ·exact res_tmp rfl
      ·replace h := iff_ h (cf hb1567)
       refine wp_skip ?_
       refine then_norm ?_
       refine sr ?_
       refine s_mv (v := .pointer (some ⟨b21, 0, none⟩)) rfl ?_
       refine s_mv (v := .int .i64 a1) rfl ?_
       refine s_inline [.pointer (some ⟨b21, 0, none⟩), .int .i64 a1] Try.func58 rfl rfl 25 Try.ntmps58 (Nat.le_of_ble_eq_true rfl) rfl ?_
       refine sr ?_
       refine s_as (v := .int .i64 0) rfl ?_
       refine dn ?_
       refine sr ?_
       refine s_as (v := .int .i64 0) rfl ?_
       refine dn ?_
       refine wp_seq ?_
       refine sr ?_
       refine s_mv (v := .pointer (some ⟨b21, 0, none⟩)) rfl ?_
       refine s_mv (v := .int .i64 a1) rfl ?_
       refine s_inline [.pointer (some ⟨b21, 0, none⟩), .int .i64 a1] Try.func65 rfl rfl 63 Try.ntmps65 (Nat.le_of_ble_eq_true rfl) rfl ?_
       refine sr ?_
       refine s_as (v := .pointer none) rfl ?_
       refine dn ?_
       refine wp_seq ?_
       refine sr ?_
       refine s_mv (v := .pointer (some ⟨b21, 0, none⟩)) rfl ?_
       refine s_nilchk rfl ?_
       refine s_faddrB 1 Try.underlying164 rfl sc162.size rfl rfl ?_
       refine s_loadS hC 4 (.map (some b18)) rfl sc162 rfl rfl ?_
       refine s_mv (v := .int .i64 a1) rfl ?_
       refine s_lookupE a1 (.pointer none) (hC.getM 5 rfl) kt2 Try.underlying162 z88 rfl rfl ?_
       refine s_mv (v := .tuple #[.pointer none, .bool false]) rfl ?_
       refine s_ext (v := .pointer none) rfl rfl ?_
       refine s_ext (v := .bool false) rfl rfl ?_
       refine s_as (v := .pointer none) rfl ?_
       refine s_as (v := .bool false) rfl ?_
       refine dn ?_
       refine sr ?_
       refine s_mv (v := .bool false) rfl ?_
       refine dn ?_
       refine cw_false rfl rfl ?_
       refine wp_skip ?_
       refine then_norm ?_
       refine sr ?_
       refine s_makeMap hC (kvA .i64) (vvI .i64) fun b1568 w1570 hB_ hC => ?_
       refine s_build [(1, .map (some b1568))] rfl (bl158_1map b1568  _) ?_
       refine s_box (v := .agg #[.slice none 0 0, .map (some b1568), .slice none 0 0, .slice none 0 0, .slice none 0 0, .slice none 0 0]) hC [.slice none 0 0, .map (some b1568), .slice none 0 0, .slice none 0 0, .slice none 0 0, .slice none 0 0] rfl rfl fun b1571 w1573 hB_ hC => ?_
       refine s_as (v := .pointer (some ⟨b1571, 0, none⟩)) rfl ?_
       refine dn ?_
       refine sr ?_
       refine s_mv (v := .pointer (some ⟨b1571, 0, none⟩)) rfl ?_
       refine s_mv (v := .pointer (some ⟨b21, 0, none⟩)) rfl ?_
       refine s_nilchk rfl ?_
       refine s_faddrB 0 Try.underlying164 rfl sc72.size rfl rfl ?_
       refine s_loadS hC 6 (.pointer (some ⟨b5, 0, none⟩)) rfl sc72 rfl rfl ?_
       refine s_nilchk rfl ?_
       refine s_faddrB 0 Try.underlying32 rfl sc22.size rfl rfl ?_
       refine s_loadS hC 8 (u0_0) rfl sc22 rfl rfl ?_
       refine s_mv (v := .int .i64 a1) rfl ?_
       refine s_call [u0_0, .int .i64 a1, .int .i64 120] _ Try.func91 rfl rfl rfl (c_impl_monomials a0.degrees a1 120 h _ (hC.getP 1 rfl)) (fun ret1574 w1576 hR1575 => ?_)
       obtain ⟨r1577, u1578, f1579, r1582, rfl, h, hr1580, hf1581, hB1583⟩ := hR1575
       refine ⟨_, rfl, ?_⟩
       replace hC := hC.push hB1583 (Tr.item (Tr.sl 101 ((EA .i64).tr)) r1577 [u1578] f1579) hr1580 hf1581
       obtain ⟨ho1585, hf1586⟩ := flat_tr (hC.getM 0 rfl).1
       subst hf1586
       replace hC := hC.recast (c := own 101 8 u1578 r1577.length ((EA .i64).encs r1577)) (fun _ h_ => h_) (fun _ => ho1585)
       refine s_mv (v := .tuple #[u1578, .bool r1582]) rfl ?_
       refine s_ext (v := u1578) rfl rfl ?_
       refine s_ext (v := .bool r1582) rfl rfl ?_
       refine s_nilchk rfl ?_
       refine s_faddrB 0 Try.underlying158 rfl sc121.size rfl rfl ?_
       refine s_store (v := u1578) hC 1 [u1578] [u1578, .map (some b1568), .slice none 0 0, .slice none 0 0, .slice none 0 0, .slice none 0 0] rfl sc121.size rfl rfl (own_cellsV (hC.getM 0 rfl)) rfl (all_c (own_oneC (hC.getM 0 rfl)) rfl) (Nat.le_of_ble_eq_true rfl) rfl fun w1588 hC => ?_
       refine dn ?_
       refine wp_seq ?_
       refine sr ?_
       refine s_mv (v := .pointer (some ⟨b1571, 0, none⟩)) rfl ?_
       refine s_nilchk rfl ?_
       refine s_faddrB 0 Try.underlying158 rfl sc121.size rfl rfl ?_
       refine s_loadS hC 1 (u1578) rfl sc121 rfl rfl ?_
       obtain ⟨Ad1589, c1590, hv1591⟩ := own_form (hC.getM 0 rfl)
       refine s_len Try.underlying121 (tr rfl hv1591) ?_
       refine s_mv (v := .int .i64 0) rfl ?_
       refine dn ?_
       refine wp_block ?_
       have hN1732 : r1577.length ≤ 9223372036854775807 := own_max (hC.getM 0 rfl)
       refine loopN (S := (List (A8 × Int))) _ _ (fun i1730 s1731 e_ w_ => Slots e_ [(0, .pointer (some ⟨b21, 0, none⟩)), (1, .int .i64 a1), (7, .pointer (some ⟨b1571, 0, none⟩)), (42, u1578), (43, .int .i64 (r1577.length : Int)), (44, .int .i64 (i1730 : Int))] ∧ Ctx Nox w0 w_ [own 101 8 u1578 r1577.length ((EA .i64).encs r1577), blk b1571 158 [u1578, .map (some b1568), .slice none 0 0, .slice none 0 0, .slice none 0 0, .slice none 0 0], mapI (kvA .i64) (vvI .i64) b1568 s1731, blk b21 164 [.pointer (some ⟨b5, 0, none⟩), .map (some b18)], mapI (vvI .i64) vvP b18 ([] : List (Int × Nat)), blk b5 32 [u0_0, u0_1]] [Ty.item TForm.sl a0.images [u0_1] fp0, Ty.item ((EI .i64).ty.sl) a0.degrees [u0_0] fp0, Ty.item TAlg a0 [u0_0, u0_1] fp0]) r1577.length ?_ ?_ (s0 := ([] : List (A8 × Int))) ?_ h
       ·clear hC h
        rintro i1730 s1731 e_ w1737 next1733 K1734 hi1736 ⟨hS_, hC⟩ h hK1735
        refine sr ?_
        refine s_lss (sx hS_ 5 rfl) (sx hS_ 4 rfl) ?_
        refine dn ?_
        refine wp_seq ?_
        refine cw_true rfl (decide_eq_true (by omega)) ?_
        refine wp_skip ?_
        refine then_norm ?_
        refine wp_seq ?_
        refine wp_block ?_
        refine sr ?_
        refine s_mv (v := .int .i64 (i1730 : Int)) (sx hS_ 5 rfl) ?_
        obtain ⟨Ad1738, c1739, hv1740⟩ := own_formE (hC.getM 0 rfl) (Nat.lt_of_le_of_lt (Nat.zero_le _) hi1736)
        refine s_iaddrO (i1730 * 8) Try.underlying121 ag101.size (tr (sx hS_ 3 rfl) hv1740) (sx hS_ 5 rfl) (Int.natCast_nonneg _) (Int.ofNat_lt.2 hi1736) rfl ?_
        refine s_loadCA (A8.enc .i64 (r1577.getD i1730 default)) (own_cellsE (hC.getM 0 rfl) hv1740 i1730 hi1736) ag101 rfl rfl ?_
        refine s_alloc hC (A8.enc .i64 A8.zero) z101 rfl fun b1741 w1743 hB_ hC => ?_
        refine s_as (v := .int .i64 (i1730 : Int)) rfl ?_
        refine s_store (v := .agg (List.toArray (A8.enc .i64 (r1577.getD i1730 default)))) hC 0 (A8.enc .i64 (r1577.getD i1730 default)) (A8.enc .i64 (r1577.getD i1730 default)) rfl ag101.size rfl rfl rfl rfl rfl (Nat.le_of_ble_eq_true rfl) rfl fun w1744 hC => ?_
        refine dn ?_
        refine cw_draw 6 mixed [0, 1, 3, 7, 0, 0, 63] [3, 4] [0, 1, 2, 5] (by kernel_rfl) (by kernel_rfl) (by kernel_rfl) (fun hM1746 hM1747 w1745 hB_ => ?_)
        replace hC := hC.grow hB_
        refine aF 0 (.pointer (some ⟨b1571, 0, none⟩)) rfl rfl (hM1747 0 rfl) (rfl) (fun _ => by exact r_mv (v := .pointer (some ⟨b1571, 0, none⟩)) (sx hS_ 2 rfl)) (dbits 7 1) ?_
        refine aF 1 (.pointer (some ⟨b1571, 0, none⟩)) rfl rfl (hM1747 1 rfl) (rfl) (fun _ => by exact r_nilchk rfl) (dbits 7 3) ?_
        refine aF 2 (.pointer (some ⟨b1571, 1, none⟩)) rfl rfl (hM1747 2 rfl) (rfl) (fun _ => by exact r_faddrB 1 Try.underlying158 rfl sc156.size rfl rfl) (dbits 7 7) ?_
        refine aL 3 (.map (some b1568)) rfl rfl (hM1746 3 rfl) (rfl) (fun _ hB_ => by exact r_loadS (hC.grow hB_) 2 (.map (some b1568)) rfl sc156 rfl rfl) (dbits 7 15) ?_
        refine aL 4 (.agg (List.toArray (A8.enc .i64 (r1577.getD i1730 default)))) rfl rfl (hM1746 4 rfl) (rfl) (fun _ hB_ => by exact r_loadA (hC.grow hB_) 0 (A8.enc .i64 (r1577.getD i1730 default)) rfl ag101 rfl rfl rfl) (dbits 7 31) ?_
        refine aF 5 (.int .i64 (i1730 : Int)) rfl rfl (hM1747 5 rfl) (rfl) (fun _ => by exact r_mv (v := .int .i64 (i1730 : Int)) rfl) (dbits 7 63) ?_
        refine ae_tail 6 (by decide) (by decide) (by kernel_rfl) (by kernel_rfl) rfl ?_
        refine s_mapset hC 3 (r1577.getD i1730 default) (i1730 : Int) rfl kt101 Try.underlying156 rfl rfl rfl (fun w1748 hC => ?_) (.inl rfl)
        refine done ?_
        refine qn_norm ?_
        refine blk_norm ?_
        refine then_norm ?_
        refine cw_region ?_
        refine s_add (sx hS_ 5 rfl) rfl ?_
        refine s_mv (v := .int .i64 (IntKind.i64.wrap ((i1730 : Int) + 1))) rfl ?_
        refine done ?_
        replace hC := hC.sM [1, 2, 3, 4, 5, 6] (M' := [own 101 8 u1578 r1577.length ((EA .i64).encs r1577), blk b1571 158 [u1578, .map (some b1568), .slice none 0 0, .slice none 0 0, .slice none 0 0, .slice none 0 0], mapI (kvA .i64) (vvI .i64) b1568 (mset s1731 (r1577.getD i1730 default) (i1730 : Int)), blk b21 164 [.pointer (some ⟨b5, 0, none⟩), .map (some b18)], mapI (vvI .i64) vvP b18 ([] : List (Int × Nat)), blk b5 32 [u0_0, u0_1]]) (by decide) rfl
        exact hK1735 (mset s1731 (r1577.getD i1730 default) (i1730 : Int)) _ _ ⟨(sk (sx hS_ 0 rfl) (sk (sx hS_ 1 rfl) (sk (sx hS_ 2 rfl) (sk (sx hS_ 3 rfl) (sk (sx hS_ 4 rfl) (sk (tr rfl (congrArg _ (wrap64_nat hi1736 hN1732))) sn)))))), hC⟩ h
       ·clear hC h
        rintro s1731 e_ w1749 K1734 ⟨hS_, hC⟩ h
        refine sr ?_
        refine s_lss (sx hS_ 5 rfl) (sx hS_ 4 rfl) ?_
        refine dn ?_
        refine wp_seq ?_
        refine cw_false rfl (decide_eq_false (by omega)) ?_
        refine wp_exit (then_exit (then_exit (exit_in ?_)))
        refine then_norm ?_
        refine sr ?_
        refine s_mv (v := .pointer (some ⟨b21, 0, none⟩)) (sx hS_ 0 rfl) ?_
        refine s_nilchk rfl ?_
        refine s_faddrB 1 Try.underlying164 rfl sc162.size rfl rfl ?_
        refine s_loadS hC 3 (.map (some b18)) rfl sc162 rfl rfl ?_
        refine s_mv (v := .int .i64 a1) (sx hS_ 1 rfl) ?_
        refine s_mv (v := .pointer (some ⟨b1571, 0, none⟩)) (sx hS_ 2 rfl) ?_
        refine s_mapset hC 4 a1 b1571 rfl kt2 Try.underlying162 rfl rfl rfl (fun w1750 hC => ?_) (.inl rfl)
        refine dn ?_
        refine sr ?_
        refine s_mv (v := .pointer (some ⟨b1571, 0, none⟩)) (sx hS_ 2 rfl) ?_
        refine s_as (v := .pointer (some ⟨b1571, 0, none⟩)) rfl ?_
        refine dn ?_
        refine wp_ret ?_
        refine ret1 (fn := Try.f65) (v := .pointer (some ⟨b1571, 0, none⟩)) rfl (res_tmp rfl) ⟨_, rfl, ?_⟩ (.inl rfl)
        refine s_nilchk rfl ?_
        refine s_faddrB 0 Try.underlying158 rfl sc121.size rfl rfl ?_
        refine s_loadS hC 1 (u1578) rfl sc121 rfl rfl ?_
        obtain ⟨Ad1751, c1752, hv1753⟩ := own_form (hC.getM 0 rfl)
        refine s_len Try.underlying121 (tr rfl hv1753) ?_
        refine s_mv (v := .int .i64 0) rfl ?_
        refine dn ?_
        refine wp_block ?_
        have hN1786 : r1577.length ≤ 9223372036854775807 := own_max (hC.getM 0 rfl)
        refine loopN (S := Int) _ _ (fun i1784 s1785 e_ w_ => Slots e_ [(4, .int .i64 0), (5, .int .i64 s1785), (13, u1578), (14, .int .i64 (r1577.length : Int)), (15, .int .i64 (i1784 : Int))] ∧ Ctx Nox w0 w_ [own 101 8 u1578 r1577.length ((EA .i64).encs r1577), blk b21 164 [.pointer (some ⟨b5, 0, none⟩), .map (some b18)], mapI (vvI .i64) vvP b18 (mset ([] : List (Int × Nat)) a1 b1571), blk b5 32 [u0_0, u0_1]] [Ty.item TForm.sl a0.images [u0_1] fp0, Ty.item ((EI .i64).ty.sl) a0.degrees [u0_0] fp0, Ty.item TAlg a0 [u0_0, u0_1] fp0]) r1577.length ?_ ?_ (s0 := 0) ?_ h
        ·clear hC h
         rintro i1784 s1785 e_ w1791 next1787 K1788 hi1790 ⟨hS_, hC⟩ h hK1789
         refine sr ?_
         refine s_lss (sx hS_ 4 rfl) (sx hS_ 3 rfl) ?_
         refine dn ?_
         refine wp_seq ?_
         refine cw_true rfl (decide_eq_true (by omega)) ?_
         refine wp_skip ?_
         refine then_norm ?_
         refine wp_seq ?_
         refine wp_block ?_
         refine sr ?_
         obtain ⟨Ad1792, c1793, hv1794⟩ := own_formE (hC.getM 0 rfl) (Nat.lt_of_le_of_lt (Nat.zero_le _) hi1790)
         refine s_iaddrO (i1784 * 8) Try.underlying121 ag101.size (tr (sx hS_ 2 rfl) hv1794) (sx hS_ 4 rfl) (Int.natCast_nonneg _) (Int.ofNat_lt.2 hi1790) rfl ?_
         refine s_loadCA (A8.enc .i64 (r1577.getD i1784 default)) (own_cellsE (hC.getM 0 rfl) hv1794 i1784 hi1790) ag101 rfl rfl ?_
         refine s_alloc hC (A8.enc .i64 A8.zero) z101 rfl fun b1795 w1797 hB_ hC => ?_
         refine s_store (v := .agg (List.toArray (A8.enc .i64 (r1577.getD i1784 default)))) hC 0 (A8.enc .i64 (r1577.getD i1784 default)) (A8.enc .i64 (r1577.getD i1784 default)) rfl ag101.size rfl rfl rfl rfl rfl (Nat.le_of_ble_eq_true rfl) rfl fun w1798 hC => ?_
         refine dn ?_
         refine cw_region ?_
         refine s_mv (v := .int .i64 s1785) (sx hS_ 1 rfl) ?_
         refine s_loadA hC 0 (A8.enc .i64 (r1577.getD i1784 default)) rfl ag101 rfl rfl rfl ?_
         refine s_call [.agg (List.toArray (A8.enc .i64 (r1577.getD i1784 default)))] _ Try.func117 rfl rfl rfl (c_impl_power_length (r1577.getD i1784 default) h _) (fun ret1799 w1801 hR1800 => ?_)
         obtain ⟨r1802, rfl, h, hB1803⟩ := hR1800
         refine ⟨_, rfl, ?_⟩
         replace hC := hC.grow hB1803
         refine s_max rfl rfl ?_
         refine s_as (v := .int .i64 (if s1785 < r1802 then r1802 else s1785)) rfl ?_
         refine done ?_
         refine blk_norm ?_
         refine then_norm ?_
         refine cw_region ?_
         refine s_add (sx hS_ 4 rfl) rfl ?_
         refine s_mv (v := .int .i64 (IntKind.i64.wrap ((i1784 : Int) + 1))) rfl ?_
         refine done ?_
         replace hC := hC.sM [1, 2, 3, 4] (M' := [own 101 8 u1578 r1577.length ((EA .i64).encs r1577), blk b21 164 [.pointer (some ⟨b5, 0, none⟩), .map (some b18)], mapI (vvI .i64) vvP b18 (mset ([] : List (Int × Nat)) a1 b1571), blk b5 32 [u0_0, u0_1]]) (by decide) rfl
         exact hK1789 (if s1785 < r1802 then r1802 else s1785) _ _ ⟨(sk (sx hS_ 0 rfl) (sk rfl (sk (sx hS_ 2 rfl) (sk (sx hS_ 3 rfl) (sk (tr rfl (congrArg _ (wrap64_nat hi1790 hN1786))) sn))))), hC⟩ h
        ·clear hC h
         rintro s1785 e_ w1804 K1788 ⟨hS_, hC⟩ h
         refine sr ?_
         refine s_lss (sx hS_ 4 rfl) (sx hS_ 3 rfl) ?_
         refine dn ?_
         refine wp_seq ?_
         refine cw_false rfl (decide_eq_false (by omega)) ?_
         refine wp_exit (then_exit (then_exit (exit_in ?_)))
         refine then_norm ?_
         refine sr ?_
         refine s_mv (v := .int .i64 s1785) (sx hS_ 1 rfl) ?_
         refine s_as (v := .int .i64 s1785) rfl ?_
         refine dn ?_
         refine wp_ret ?_
         refine ret1 (fn := Try.f58) (v := .int .i64 s1785) rfl (res_tmp rfl) ⟨_, rfl, ?_⟩ (.inl rfl)
         refine s_as (v := .int .i64 s1785) rfl ?_
         refine s_as (v := .int .i64 0) rfl ?_
         refine dn ?_
         refine wp_ret ?_
         refine ret2 (fn := Try.f18) rfl ?_ ?_ ⟨s1785, 0, rfl, h, hC.below⟩ (.inl rfl)
         ·exact res_tmp rfl
         ·exact res_tmp rfl
        ·skip
         replace hC := hC.sM [0, 3, 4, 5] (M' := [own 101 8 u1578 r1577.length ((EA .i64).encs r1577), blk b21 164 [.pointer (some ⟨b5, 0, none⟩), .map (some b18)], mapI (vvI .i64) vvP b18 (mset ([] : List (Int × Nat)) a1 b1571), blk b5 32 [u0_0, u0_1]]) (by decide) rfl
         exact ⟨(sk rfl (sk rfl (sk rfl (sk rfl (sk rfl sn))))), hC⟩
       ·skip
        replace hC := hC.sM [0, 1, 2, 7, 8, 9] (M' := [own 101 8 u1578 r1577.length ((EA .i64).encs r1577), blk b1571 158 [u1578, .map (some b1568), .slice none 0 0, .slice none 0 0, .slice none 0 0, .slice none 0 0], mapI (kvA .i64) (vvI .i64) b1568 ([] : List (A8 × Int)), blk b21 164 [.pointer (some ⟨b5, 0, none⟩), .map (some b18)], mapI (vvI .i64) vvP b18 ([] : List (Int × Nat)), blk b5 32 [u0_0, u0_1]]) (by decide) rfl
        exact ⟨(sk rfl (sk rfl (sk rfl (sk rfl (sk rfl (sk rfl sn)))))), hC⟩
     ·replace h := iff_ h (not_not_intro ((not_f hb1566)))
      refine wp_skip ?_
      refine blk_norm ?_
      refine then_norm ?_
      refine cw_region ?_
      refine s_add (slot hSi1045 4 rfl) rfl ?_
      refine s_mv (v := .int .i64 (IntKind.i64.wrap ((i1034 : Int) + 1))) rfl ?_
      refine done ?_
      replace hC := hC.sM [3, 4, 5, 6] (M' := [own 2 1 (.slice (some ⟨b25, 0, none⟩) 1 1) ([a1].length) ((EI .i64).encs [a1]), blk b21 164 [.pointer (some ⟨b5, 0, none⟩), .map (some b18)], mapI (vvI .i64) vvP b18 ([] : List (Int × Nat)), blk b5 32 [u0_0, u0_1]]) (by decide) rfl
      exact hK1039 () _ _ ⟨(sk (slot hSi1045 0 rfl) (sk (slot hSi1045 1 rfl) (sk (slot hSi1045 2 rfl) (sk (slot hSi1045 3 rfl) (sk (tr rfl (congrArg _ (wrap64_nat hi1040 hN1036))) sn))))), hC⟩ h
  ·clear hC h
   rintro s1035 e_ w1805 K1038 ⟨hS_, hC⟩ h
   refine sr ?_
   refine s_lss (sx hS_ 4 rfl) (sx hS_ 3 rfl) ?_
   refine dn ?_
   refine wp_seq ?_
   refine cw_false rfl (decide_eq_false (by omega)) ?_
   refine wp_exit (then_exit (then_exit (exit_in ?_)))
   refine then_norm ?_
   refine sr ?_
   refine s_as (v := .int .i64 0) rfl ?_
   refine dn ?_
   refine wp_ret ?_
   refine ret1 (fn := Try.f116) (v := .int .i64 0) rfl (res_tmp rfl) ⟨_, rfl, ?_⟩ (.inl rfl)
   refine s_as (v := .int .i64 0) rfl ?_
   refine dn ?_
   refine sr ?_
   refine s_mv (v := .pointer (some ⟨b21, 0, none⟩)) rfl ?_
   refine s_mv (v := .int .i64 0) rfl ?_
   refine s_as (v := .pointer (some ⟨b21, 0, none⟩)) rfl ?_
   refine s_as (v := .int .i64 0) rfl ?_
   refine dn ?_
   refine wp_ret ?_
   refine ret2 (fn := Try.f57) (v := .pointer (some ⟨b21, 0, none⟩)) (u := .int .i64 0) rfl (res_tmp rfl) (res_tmp rfl) ⟨_, rfl, ?_⟩ (.inl rfl)
   refine s_mv (v := .tuple #[.pointer (some ⟨b21, 0, none⟩), .int .i64 0]) rfl ?_
   refine s_ext (v := .pointer (some ⟨b21, 0, none⟩)) rfl rfl ?_
   refine s_ext (v := .int .i64 0) rfl rfl ?_
   refine s_as (v := .pointer (some ⟨b21, 0, none⟩)) rfl ?_
   refine s_as (v := .int .i64 0) rfl ?_
   refine dn ?_
   refine wp_seq ?_
   refine sr ?_
   refine s_mv (v := .int .i64 0) rfl ?_
   refine s_neq rfl rfl ?_
   refine dn ?_
   refine cw_cond rfl (fun hb1806 => ?_) (fun hb1806 => ?_)
   ·replace h := ift h (ct hb1806)
    refine sr ?_
    refine s_mv (v := .int .i64 0) rfl ?_
    refine s_as (v := .int .i64 0) rfl ?_
    refine s_as (v := .int .i64 0) rfl ?_
    refine dn ?_
    refine wp_ret (then_ret ?_)
    refine ret2 (fn := Try.f18) rfl ?_ ?_ ⟨0, 0, rfl, h, hC.below⟩ (.inl rfl)
    ·exact res_tmp rfl
    ·exact res_tmp rfl
   ·replace h := iff_ h (cf hb1806)
    refine wp_skip ?_
    refine then_norm ?_
    refine sr ?_
    refine s_mv (v := .pointer (some ⟨b21, 0, none⟩)) rfl ?_
    refine s_mv (v := .int .i64 a1) rfl ?_
    refine s_inline [.pointer (some ⟨b21, 0, none⟩), .int .i64 a1] Try.func58 rfl rfl 25 Try.ntmps58 (Nat.le_of_ble_eq_true rfl) rfl ?_
    refine sr ?_
    refine s_as (v := .int .i64 0) rfl ?_
    refine dn ?_
    refine sr ?_
    refine s_as (v := .int .i64 0) rfl ?_
    refine dn ?_
    refine wp_seq ?_
    refine sr ?_
    refine s_mv (v := .pointer (some ⟨b21, 0, none⟩)) rfl ?_
    refine s_mv (v := .int .i64 a1) rfl ?_
    refine s_inline [.pointer (some ⟨b21, 0, none⟩), .int .i64 a1] Try.func65 rfl rfl 63 Try.ntmps65 (Nat.le_of_ble_eq_true rfl) rfl ?_
    refine sr ?_
    refine s_as (v := .pointer none) rfl ?_
    refine dn ?_
    refine wp_seq ?_
    refine sr ?_
    refine s_mv (v := .pointer (some ⟨b21, 0, none⟩)) rfl ?_
    refine s_nilchk rfl ?_
    refine s_faddrB 1 Try.underlying164 rfl sc162.size rfl rfl ?_
    refine s_loadS hC 1 (.map (some b18)) rfl sc162 rfl rfl ?_
    refine s_mv (v := .int .i64 a1) rfl ?_
    refine s_lookupE a1 (.pointer none) (hC.getM 2 rfl) kt2 Try.underlying162 z88 rfl rfl ?_
    refine s_mv (v := .tuple #[.pointer none, .bool false]) rfl ?_
    refine s_ext (v := .pointer none) rfl rfl ?_
    refine s_ext (v := .bool false) rfl rfl ?_
    refine s_as (v := .pointer none) rfl ?_
    refine s_as (v := .bool false) rfl ?_
    refine dn ?_
    refine sr ?_
    refine s_mv (v := .bool false) rfl ?_
    refine dn ?_
    refine cw_false rfl rfl ?_
    refine wp_skip ?_
    refine then_norm ?_
    refine sr ?_
    refine s_makeMap hC (kvA .i64) (vvI .i64) fun b1807 w1809 hB_ hC => ?_
    refine s_build [(1, .map (some b1807))] rfl (bl158_1map b1807  _) ?_
    refine s_box (v := .agg #[.slice none 0 0, .map (some b1807), .slice none 0 0, .slice none 0 0, .slice none 0 0, .slice none 0 0]) hC [.slice none 0 0, .map (some b1807), .slice none 0 0, .slice none 0 0, .slice none 0 0, .slice none 0 0] rfl rfl fun b1810 w1812 hB_ hC => ?_
    refine s_as (v := .pointer (some ⟨b1810, 0, none⟩)) rfl ?_
    refine dn ?_
    refine sr ?_
    refine s_mv (v := .pointer (some ⟨b1810, 0, none⟩)) rfl ?_
    refine s_mv (v := .pointer (some ⟨b21, 0, none⟩)) rfl ?_
    refine s_nilchk rfl ?_
    refine s_faddrB 0 Try.underlying164 rfl sc72.size rfl rfl ?_
    refine s_loadS hC 3 (.pointer (some ⟨b5, 0, none⟩)) rfl sc72 rfl rfl ?_
    refine s_nilchk rfl ?_
    refine s_faddrB 0 Try.underlying32 rfl sc22.size rfl rfl ?_
    refine s_loadS hC 5 (u0_0) rfl sc22 rfl rfl ?_
    refine s_mv (v := .int .i64 a1) rfl ?_
    refine s_call [u0_0, .int .i64 a1, .int .i64 120] _ Try.func91 rfl rfl rfl (c_impl_monomials a0.degrees a1 120 h _ (hC.getP 1 rfl)) (fun ret1813 w1815 hR1814 => ?_)
    obtain ⟨r1816, u1817, f1818, r1821, rfl, h, hr1819, hf1820, hB1822⟩ := hR1814
    refine ⟨_, rfl, ?_⟩
    replace hC := hC.push hB1822 (Tr.item (Tr.sl 101 ((EA .i64).tr)) r1816 [u1817] f1818) hr1819 hf1820
    obtain ⟨ho1824, hf1825⟩ := flat_tr (hC.getM 0 rfl).1
    subst hf1825
    replace hC := hC.recast (c := own 101 8 u1817 r1816.length ((EA .i64).encs r1816)) (fun _ h_ => h_) (fun _ => ho1824)
    refine s_mv (v := .tuple #[u1817, .bool r1821]) rfl ?_
    refine s_ext (v := u1817) rfl rfl ?_
    refine s_ext (v := .bool r1821) rfl rfl ?_
    refine s_nilchk rfl ?_
    refine s_faddrB 0 Try.underlying158 rfl sc121.size rfl rfl ?_
    refine s_store (v := u1817) hC 1 [u1817] [u1817, .map (some b1807), .slice none 0 0, .slice none 0 0, .slice none 0 0, .slice none 0 0] rfl sc121.size rfl rfl (own_cellsV (hC.getM 0 rfl)) rfl (all_c (own_oneC (hC.getM 0 rfl)) rfl) (Nat.le_of_ble_eq_true rfl) rfl fun w1827 hC => ?_
    refine dn ?_
    refine wp_seq ?_
    refine sr ?_
    refine s_mv (v := .pointer (some ⟨b1810, 0, none⟩)) rfl ?_
    refine s_nilchk rfl ?_
    refine s_faddrB 0 Try.underlying158 rfl sc121.size rfl rfl ?_
    refine s_loadS hC 1 (u1817) rfl sc121 rfl rfl ?_
    obtain ⟨Ad1828, c1829, hv1830⟩ := own_form (hC.getM 0 rfl)
    refine s_len Try.underlying121 (tr rfl hv1830) ?_
    refine s_mv (v := .int .i64 0) rfl ?_
    refine dn ?_
    refine wp_block ?_
    have hN1971 : r1816.length ≤ 9223372036854775807 := own_max (hC.getM 0 rfl)
    refine loopN (S := (List (A8 × Int))) _ _ (fun i1969 s1970 e_ w_ => Slots e_ [(0, .pointer (some ⟨b21, 0, none⟩)), (1, .int .i64 a1), (7, .pointer (some ⟨b1810, 0, none⟩)), (42, u1817), (43, .int .i64 (r1816.length : Int)), (44, .int .i64 (i1969 : Int))] ∧ Ctx Nox w0 w_ [own 101 8 u1817 r1816.length ((EA .i64).encs r1816), blk b1810 158 [u1817, .map (some b1807), .slice none 0 0, .slice none 0 0, .slice none 0 0, .slice none 0 0], mapI (kvA .i64) (vvI .i64) b1807 s1970, blk b21 164 [.pointer (some ⟨b5, 0, none⟩), .map (some b18)], mapI (vvI .i64) vvP b18 ([] : List (Int × Nat)), blk b5 32 [u0_0, u0_1]] [Ty.item TForm.sl a0.images [u0_1] fp0, Ty.item ((EI .i64).ty.sl) a0.degrees [u0_0] fp0, Ty.item TAlg a0 [u0_0, u0_1] fp0]) r1816.length ?_ ?_ (s0 := ([] : List (A8 × Int))) ?_ h
    ·clear hC h
     rintro i1969 s1970 e_ w1976 next1972 K1973 hi1975 ⟨hS_, hC⟩ h hK1974
     refine sr ?_
     refine s_lss (sx hS_ 5 rfl) (sx hS_ 4 rfl) ?_
     refine dn ?_
     refine wp_seq ?_
     refine cw_true rfl (decide_eq_true (by omega)) ?_
     refine wp_skip ?_
     refine then_norm ?_
     refine wp_seq ?_
     refine wp_block ?_
     refine sr ?_
     refine s_mv (v := .int .i64 (i1969 : Int)) (sx hS_ 5 rfl) ?_
     obtain ⟨Ad1977, c1978, hv1979⟩ := own_formE (hC.getM 0 rfl) (Nat.lt_of_le_of_lt (Nat.zero_le _) hi1975)
     refine s_iaddrO (i1969 * 8) Try.underlying121 ag101.size (tr (sx hS_ 3 rfl) hv1979) (sx hS_ 5 rfl) (Int.natCast_nonneg _) (Int.ofNat_lt.2 hi1975) rfl ?_
     refine s_loadCA (A8.enc .i64 (r1816.getD i1969 default)) (own_cellsE (hC.getM 0 rfl) hv1979 i1969 hi1975) ag101 rfl rfl ?_
     refine s_alloc hC (A8.enc .i64 A8.zero) z101 rfl fun b1980 w1982 hB_ hC => ?_
     refine s_as (v := .int .i64 (i1969 : Int)) rfl ?_
     refine s_store (v := .agg (List.toArray (A8.enc .i64 (r1816.getD i1969 default)))) hC 0 (A8.enc .i64 (r1816.getD i1969 default)) (A8.enc .i64 (r1816.getD i1969 default)) rfl ag101.size rfl rfl rfl rfl rfl (Nat.le_of_ble_eq_true rfl) rfl fun w1983 hC => ?_
     refine dn ?_
     refine cw_draw 6 mixed [0, 1, 3, 7, 0, 0, 63] [3, 4] [0, 1, 2, 5] (by kernel_rfl) (by kernel_rfl) (by kernel_rfl) (fun hM1985 hM1986 w1984 hB_ => ?_)
     replace hC := hC.grow hB_
     refine aF 0 (.pointer (some ⟨b1810, 0, none⟩)) rfl rfl (hM1986 0 rfl) (rfl) (fun _ => by exact r_mv (v := .pointer (some ⟨b1810, 0, none⟩)) (sx hS_ 2 rfl)) (dbits 7 1) ?_
     refine aF 1 (.pointer (some ⟨b1810, 0, none⟩)) rfl rfl (hM1986 1 rfl) (rfl) (fun _ => by exact r_nilchk rfl) (dbits 7 3) ?_
     refine aF 2 (.pointer (some ⟨b1810, 1, none⟩)) rfl rfl (hM1986 2 rfl) (rfl) (fun _ => by exact r_faddrB 1 Try.underlying158 rfl sc156.size rfl rfl) (dbits 7 7) ?_
     refine aL 3 (.map (some b1807)) rfl rfl (hM1985 3 rfl) (rfl) (fun _ hB_ => by exact r_loadS (hC.grow hB_) 2 (.map (some b1807)) rfl sc156 rfl rfl) (dbits 7 15) ?_
     refine aL 4 (.agg (List.toArray (A8.enc .i64 (r1816.getD i1969 default)))) rfl rfl (hM1985 4 rfl) (rfl) (fun _ hB_ => by exact r_loadA (hC.grow hB_) 0 (A8.enc .i64 (r1816.getD i1969 default)) rfl ag101 rfl rfl rfl) (dbits 7 31) ?_
     refine aF 5 (.int .i64 (i1969 : Int)) rfl rfl (hM1986 5 rfl) (rfl) (fun _ => by exact r_mv (v := .int .i64 (i1969 : Int)) rfl) (dbits 7 63) ?_
     refine ae_tail 6 (by decide) (by decide) (by kernel_rfl) (by kernel_rfl) rfl ?_
     refine s_mapset hC 3 (r1816.getD i1969 default) (i1969 : Int) rfl kt101 Try.underlying156 rfl rfl rfl (fun w1987 hC => ?_) (.inl rfl)
     refine done ?_
     refine qn_norm ?_
     refine blk_norm ?_
     refine then_norm ?_
     refine cw_region ?_
     refine s_add (sx hS_ 5 rfl) rfl ?_
     refine s_mv (v := .int .i64 (IntKind.i64.wrap ((i1969 : Int) + 1))) rfl ?_
     refine done ?_
     replace hC := hC.sM [1, 2, 3, 4, 5, 6] (M' := [own 101 8 u1817 r1816.length ((EA .i64).encs r1816), blk b1810 158 [u1817, .map (some b1807), .slice none 0 0, .slice none 0 0, .slice none 0 0, .slice none 0 0], mapI (kvA .i64) (vvI .i64) b1807 (mset s1970 (r1816.getD i1969 default) (i1969 : Int)), blk b21 164 [.pointer (some ⟨b5, 0, none⟩), .map (some b18)], mapI (vvI .i64) vvP b18 ([] : List (Int × Nat)), blk b5 32 [u0_0, u0_1]]) (by decide) rfl
     exact hK1974 (mset s1970 (r1816.getD i1969 default) (i1969 : Int)) _ _ ⟨(sk (sx hS_ 0 rfl) (sk (sx hS_ 1 rfl) (sk (sx hS_ 2 rfl) (sk (sx hS_ 3 rfl) (sk (sx hS_ 4 rfl) (sk (tr rfl (congrArg _ (wrap64_nat hi1975 hN1971))) sn)))))), hC⟩ h
    ·clear hC h
     rintro s1970 e_ w1988 K1973 ⟨hS_, hC⟩ h
     refine sr ?_
     refine s_lss (sx hS_ 5 rfl) (sx hS_ 4 rfl) ?_
     refine dn ?_
     refine wp_seq ?_
     refine cw_false rfl (decide_eq_false (by omega)) ?_
     refine wp_exit (then_exit (then_exit (exit_in ?_)))
     refine then_norm ?_
     refine sr ?_
     refine s_mv (v := .pointer (some ⟨b21, 0, none⟩)) (sx hS_ 0 rfl) ?_
     refine s_nilchk rfl ?_
     refine s_faddrB 1 Try.underlying164 rfl sc162.size rfl rfl ?_
     refine s_loadS hC 3 (.map (some b18)) rfl sc162 rfl rfl ?_
     refine s_mv (v := .int .i64 a1) (sx hS_ 1 rfl) ?_
     refine s_mv (v := .pointer (some ⟨b1810, 0, none⟩)) (sx hS_ 2 rfl) ?_
     refine s_mapset hC 4 a1 b1810 rfl kt2 Try.underlying162 rfl rfl rfl (fun w1989 hC => ?_) (.inl rfl)
     refine dn ?_
     refine sr ?_
     refine s_mv (v := .pointer (some ⟨b1810, 0, none⟩)) (sx hS_ 2 rfl) ?_
     refine s_as (v := .pointer (some ⟨b1810, 0, none⟩)) rfl ?_
     refine dn ?_
     refine wp_ret ?_
     refine ret1 (fn := Try.f65) (v := .pointer (some ⟨b1810, 0, none⟩)) rfl (res_tmp rfl) ⟨_, rfl, ?_⟩ (.inl rfl)
     refine s_nilchk rfl ?_
     refine s_faddrB 0 Try.underlying158 rfl sc121.size rfl rfl ?_
     refine s_loadS hC 1 (u1817) rfl sc121 rfl rfl ?_
     obtain ⟨Ad1990, c1991, hv1992⟩ := own_form (hC.getM 0 rfl)
     refine s_len Try.underlying121 (tr rfl hv1992) ?_
     refine s_mv (v := .int .i64 0) rfl ?_
     refine dn ?_
     refine wp_block ?_
     have hN2025 : r1816.length ≤ 9223372036854775807 := own_max (hC.getM 0 rfl)
     refine loopN (S := Int) _ _ (fun i2023 s2024 e_ w_ => Slots e_ [(4, .int .i64 0), (5, .int .i64 s2024), (13, u1817), (14, .int .i64 (r1816.length : Int)), (15, .int .i64 (i2023 : Int))] ∧ Ctx Nox w0 w_ [own 101 8 u1817 r1816.length ((EA .i64).encs r1816), blk b21 164 [.pointer (some ⟨b5, 0, none⟩), .map (some b18)], mapI (vvI .i64) vvP b18 (mset ([] : List (Int × Nat)) a1 b1810), blk b5 32 [u0_0, u0_1]] [Ty.item TForm.sl a0.images [u0_1] fp0, Ty.item ((EI .i64).ty.sl) a0.degrees [u0_0] fp0, Ty.item TAlg a0 [u0_0, u0_1] fp0]) r1816.length ?_ ?_ (s0 := 0) ?_ h
     ·clear hC h
      rintro i2023 s2024 e_ w2030 next2026 K2027 hi2029 ⟨hS_, hC⟩ h hK2028
      refine sr ?_
      refine s_lss (sx hS_ 4 rfl) (sx hS_ 3 rfl) ?_
      refine dn ?_
      refine wp_seq ?_
      refine cw_true rfl (decide_eq_true (by omega)) ?_
      refine wp_skip ?_
      refine then_norm ?_
      refine wp_seq ?_
      refine wp_block ?_
      refine sr ?_
      obtain ⟨Ad2031, c2032, hv2033⟩ := own_formE (hC.getM 0 rfl) (Nat.lt_of_le_of_lt (Nat.zero_le _) hi2029)
      refine s_iaddrO (i2023 * 8) Try.underlying121 ag101.size (tr (sx hS_ 2 rfl) hv2033) (sx hS_ 4 rfl) (Int.natCast_nonneg _) (Int.ofNat_lt.2 hi2029) rfl ?_
      refine s_loadCA (A8.enc .i64 (r1816.getD i2023 default)) (own_cellsE (hC.getM 0 rfl) hv2033 i2023 hi2029) ag101 rfl rfl ?_
      refine s_alloc hC (A8.enc .i64 A8.zero) z101 rfl fun b2034 w2036 hB_ hC => ?_
      refine s_store (v := .agg (List.toArray (A8.enc .i64 (r1816.getD i2023 default)))) hC 0 (A8.enc .i64 (r1816.getD i2023 default)) (A8.enc .i64 (r1816.getD i2023 default)) rfl ag101.size rfl rfl rfl rfl rfl (Nat.le_of_ble_eq_true rfl) rfl fun w2037 hC => ?_
      refine dn ?_
      refine cw_region ?_
      refine s_mv (v := .int .i64 s2024) (sx hS_ 1 rfl) ?_
      refine s_loadA hC 0 (A8.enc .i64 (r1816.getD i2023 default)) rfl ag101 rfl rfl rfl ?_
      refine s_call [.agg (List.toArray (A8.enc .i64 (r1816.getD i2023 default)))] _ Try.func117 rfl rfl rfl (c_impl_power_length (r1816.getD i2023 default) h _) (fun ret2038 w2040 hR2039 => ?_)
      obtain ⟨r2041, rfl, h, hB2042⟩ := hR2039
      refine ⟨_, rfl, ?_⟩
      replace hC := hC.grow hB2042
      refine s_max rfl rfl ?_
      refine s_as (v := .int .i64 (if s2024 < r2041 then r2041 else s2024)) rfl ?_
      refine done ?_
      refine blk_norm ?_
      refine then_norm ?_
      refine cw_region ?_
      refine s_add (sx hS_ 4 rfl) rfl ?_
      refine s_mv (v := .int .i64 (IntKind.i64.wrap ((i2023 : Int) + 1))) rfl ?_
      refine done ?_
      replace hC := hC.sM [1, 2, 3, 4] (M' := [own 101 8 u1817 r1816.length ((EA .i64).encs r1816), blk b21 164 [.pointer (some ⟨b5, 0, none⟩), .map (some b18)], mapI (vvI .i64) vvP b18 (mset ([] : List (Int × Nat)) a1 b1810), blk b5 32 [u0_0, u0_1]]) (by decide) rfl
      exact hK2028 (if s2024 < r2041 then r2041 else s2024) _ _ ⟨(sk (sx hS_ 0 rfl) (sk rfl (sk (sx hS_ 2 rfl) (sk (sx hS_ 3 rfl) (sk (tr rfl (congrArg _ (wrap64_nat hi2029 hN2025))) sn))))), hC⟩ h
     ·clear hC h
      rintro s2024 e_ w2043 K2027 ⟨hS_, hC⟩ h
      refine sr ?_
      refine s_lss (sx hS_ 4 rfl) (sx hS_ 3 rfl) ?_
      refine dn ?_
      refine wp_seq ?_
      refine cw_false rfl (decide_eq_false (by omega)) ?_
      refine wp_exit (then_exit (then_exit (exit_in ?_)))
      refine then_norm ?_
      refine sr ?_
      refine s_mv (v := .int .i64 s2024) (sx hS_ 1 rfl) ?_
      refine s_as (v := .int .i64 s2024) rfl ?_
      refine dn ?_
      refine wp_ret ?_
      refine ret1 (fn := Try.f58) (v := .int .i64 s2024) rfl (res_tmp rfl) ⟨_, rfl, ?_⟩ (.inl rfl)
      refine s_as (v := .int .i64 s2024) rfl ?_
      refine s_as (v := .int .i64 0) rfl ?_
      refine dn ?_
      refine wp_ret ?_
      refine ret2 (fn := Try.f18) rfl ?_ ?_ ⟨s2024, 0, rfl, h, hC.below⟩ (.inl rfl)
      ·exact res_tmp rfl
      ·exact res_tmp rfl
     ·skip
      replace hC := hC.sM [0, 3, 4, 5] (M' := [own 101 8 u1817 r1816.length ((EA .i64).encs r1816), blk b21 164 [.pointer (some ⟨b5, 0, none⟩), .map (some b18)], mapI (vvI .i64) vvP b18 (mset ([] : List (Int × Nat)) a1 b1810), blk b5 32 [u0_0, u0_1]]) (by decide) rfl
      exact ⟨(sk rfl (sk rfl (sk rfl (sk rfl (sk rfl sn))))), hC⟩
    ·skip
     replace hC := hC.sM [0, 1, 2, 4, 5, 6] (M' := [own 101 8 u1817 r1816.length ((EA .i64).encs r1816), blk b1810 158 [u1817, .map (some b1807), .slice none 0 0, .slice none 0 0, .slice none 0 0, .slice none 0 0], mapI (kvA .i64) (vvI .i64) b1807 ([] : List (A8 × Int)), blk b21 164 [.pointer (some ⟨b5, 0, none⟩), .map (some b18)], mapI (vvI .i64) vvP b18 ([] : List (Int × Nat)), blk b5 32 [u0_0, u0_1]]) (by decide) rfl
     exact ⟨(sk rfl (sk rfl (sk rfl (sk rfl (sk rfl (sk rfl sn)))))), hC⟩
  ·skip
   exact ⟨(sk rfl (sk rfl (sk rfl (sk rfl (sk rfl sn))))), hC⟩
 ·replace h := iff_ h (cf hb24)
  refine wp_skip ?_
  refine then_norm ?_
  refine sr ?_
  refine s_mv (v := .pointer (some ⟨b21, 0, none⟩)) rfl ?_
  refine s_mv (v := .int .i64 r16) rfl ?_
  refine s_as (v := .pointer (some ⟨b21, 0, none⟩)) rfl ?_
  refine s_as (v := .int .i64 r16) rfl ?_
  refine dn ?_
  refine wp_ret ?_
  refine ret2 (fn := Try.f57) (v := .pointer (some ⟨b21, 0, none⟩)) (u := .int .i64 r16) rfl (res_tmp rfl) (res_tmp rfl) ⟨_, rfl, ?_⟩ (.inl rfl)
  refine s_mv (v := .tuple #[.pointer (some ⟨b21, 0, none⟩), .int .i64 r16]) rfl ?_
  refine s_ext (v := .pointer (some ⟨b21, 0, none⟩)) rfl rfl ?_
  refine s_ext (v := .int .i64 r16) rfl rfl ?_
  refine s_as (v := .pointer (some ⟨b21, 0, none⟩)) rfl ?_
  refine s_as (v := .int .i64 r16) rfl ?_
  refine dn ?_
  refine wp_seq ?_
  refine sr ?_
  refine s_mv (v := .int .i64 r16) rfl ?_
  refine s_neq rfl rfl ?_
  refine dn ?_
  refine cw_cond rfl (fun hb2044 => ?_) (fun hb2044 => ?_)
  ·replace h := ift h (ct hb2044)
   refine sr ?_
   refine s_mv (v := .int .i64 r16) rfl ?_
   refine s_as (v := .int .i64 0) rfl ?_
   refine s_as (v := .int .i64 r16) rfl ?_
   refine dn ?_
   refine wp_ret (then_ret ?_)
   refine ret2 (fn := Try.f18) rfl ?_ ?_ ⟨0, r16, rfl, h, hC.below⟩ (.inl rfl)
   ·exact res_tmp rfl
   ·exact res_tmp rfl
  ·replace h := iff_ h (cf hb2044)
   refine wp_skip ?_
   refine then_norm ?_
   refine sr ?_
   refine s_mv (v := .pointer (some ⟨b21, 0, none⟩)) rfl ?_
   refine s_mv (v := .int .i64 a1) rfl ?_
   refine s_inline [.pointer (some ⟨b21, 0, none⟩), .int .i64 a1] Try.func58 rfl rfl 25 Try.ntmps58 (Nat.le_of_ble_eq_true rfl) rfl ?_
   refine sr ?_
   refine s_as (v := .int .i64 0) rfl ?_
   refine dn ?_
   refine sr ?_
   refine s_as (v := .int .i64 0) rfl ?_
   refine dn ?_
   refine wp_seq ?_
   refine sr ?_
   refine s_mv (v := .pointer (some ⟨b21, 0, none⟩)) rfl ?_
   refine s_mv (v := .int .i64 a1) rfl ?_
   refine s_inline [.pointer (some ⟨b21, 0, none⟩), .int .i64 a1] Try.func65 rfl rfl 63 Try.ntmps65 (Nat.le_of_ble_eq_true rfl) rfl ?_
   refine sr ?_
   refine s_as (v := .pointer none) rfl ?_
   refine dn ?_
   refine wp_seq ?_
   refine sr ?_
   refine s_mv (v := .pointer (some ⟨b21, 0, none⟩)) rfl ?_
   refine s_nilchk rfl ?_
   refine s_faddrB 1 Try.underlying164 rfl sc162.size rfl rfl ?_
   refine s_loadS hC 0 (.map (some b18)) rfl sc162 rfl rfl ?_
   refine s_mv (v := .int .i64 a1) rfl ?_
   refine s_lookupE a1 (.pointer none) (hC.getM 1 rfl) kt2 Try.underlying162 z88 rfl rfl ?_
   refine s_mv (v := .tuple #[.pointer none, .bool false]) rfl ?_
   refine s_ext (v := .pointer none) rfl rfl ?_
   refine s_ext (v := .bool false) rfl rfl ?_
   refine s_as (v := .pointer none) rfl ?_
   refine s_as (v := .bool false) rfl ?_
   refine dn ?_
   refine sr ?_
   refine s_mv (v := .bool false) rfl ?_
   refine dn ?_
   refine cw_false rfl rfl ?_
   refine wp_skip ?_
   refine then_norm ?_
   refine sr ?_
   refine s_makeMap hC (kvA .i64) (vvI .i64) fun b2045 w2047 hB_ hC => ?_
   refine s_build [(1, .map (some b2045))] rfl (bl158_1map b2045  _) ?_
   refine s_box (v := .agg #[.slice none 0 0, .map (some b2045), .slice none 0 0, .slice none 0 0, .slice none 0 0, .slice none 0 0]) hC [.slice none 0 0, .map (some b2045), .slice none 0 0, .slice none 0 0, .slice none 0 0, .slice none 0 0] rfl rfl fun b2048 w2050 hB_ hC => ?_
   refine s_as (v := .pointer (some ⟨b2048, 0, none⟩)) rfl ?_
   refine dn ?_
   refine sr ?_
   refine s_mv (v := .pointer (some ⟨b2048, 0, none⟩)) rfl ?_
   refine s_mv (v := .pointer (some ⟨b21, 0, none⟩)) rfl ?_
   refine s_nilchk rfl ?_
   refine s_faddrB 0 Try.underlying164 rfl sc72.size rfl rfl ?_
   refine s_loadS hC 2 (.pointer (some ⟨b5, 0, none⟩)) rfl sc72 rfl rfl ?_
   refine s_nilchk rfl ?_
   refine s_faddrB 0 Try.underlying32 rfl sc22.size rfl rfl ?_
   refine s_loadS hC 4 (u0_0) rfl sc22 rfl rfl ?_
   refine s_mv (v := .int .i64 a1) rfl ?_
   refine s_call [u0_0, .int .i64 a1, .int .i64 120] _ Try.func91 rfl rfl rfl (c_impl_monomials a0.degrees a1 120 h _ (hC.getP 1 rfl)) (fun ret2051 w2053 hR2052 => ?_)
   obtain ⟨r2054, u2055, f2056, r2059, rfl, h, hr2057, hf2058, hB2060⟩ := hR2052
   refine ⟨_, rfl, ?_⟩
   replace hC := hC.push hB2060 (Tr.item (Tr.sl 101 ((EA .i64).tr)) r2054 [u2055] f2056) hr2057 hf2058
   obtain ⟨ho2062, hf2063⟩ := flat_tr (hC.getM 0 rfl).1
   subst hf2063
   replace hC := hC.recast (c := own 101 8 u2055 r2054.length ((EA .i64).encs r2054)) (fun _ h_ => h_) (fun _ => ho2062)
   refine s_mv (v := .tuple #[u2055, .bool r2059]) rfl ?_
   refine s_ext (v := u2055) rfl rfl ?_
   refine s_ext (v := .bool r2059) rfl rfl ?_
   refine s_nilchk rfl ?_
   refine s_faddrB 0 Try.underlying158 rfl sc121.size rfl rfl ?_
   refine s_store (v := u2055) hC 1 [u2055] [u2055, .map (some b2045), .slice none 0 0, .slice none 0 0, .slice none 0 0, .slice none 0 0] rfl sc121.size rfl rfl (own_cellsV (hC.getM 0 rfl)) rfl (all_c (own_oneC (hC.getM 0 rfl)) rfl) (Nat.le_of_ble_eq_true rfl) rfl fun w2065 hC => ?_
   refine dn ?_
   refine wp_seq ?_
   refine sr ?_
   refine s_mv (v := .pointer (some ⟨b2048, 0, none⟩)) rfl ?_
   refine s_nilchk rfl ?_
   refine s_faddrB 0 Try.underlying158 rfl sc121.size rfl rfl ?_
   refine s_loadS hC 1 (u2055) rfl sc121 rfl rfl ?_
   obtain ⟨Ad2066, c2067, hv2068⟩ := own_form (hC.getM 0 rfl)
   refine s_len Try.underlying121 (tr rfl hv2068) ?_
   refine s_mv (v := .int .i64 0) rfl ?_
   refine dn ?_
   refine wp_block ?_
   have hN2209 : r2054.length ≤ 9223372036854775807 := own_max (hC.getM 0 rfl)
   refine loopN (S := (List (A8 × Int))) _ _ (fun i2207 s2208 e_ w_ => Slots e_ [(0, .pointer (some ⟨b21, 0, none⟩)), (1, .int .i64 a1), (7, .pointer (some ⟨b2048, 0, none⟩)), (42, u2055), (43, .int .i64 (r2054.length : Int)), (44, .int .i64 (i2207 : Int))] ∧ Ctx Nox w0 w_ [own 101 8 u2055 r2054.length ((EA .i64).encs r2054), blk b2048 158 [u2055, .map (some b2045), .slice none 0 0, .slice none 0 0, .slice none 0 0, .slice none 0 0], mapI (kvA .i64) (vvI .i64) b2045 s2208, blk b21 164 [.pointer (some ⟨b5, 0, none⟩), .map (some b18)], mapI (vvI .i64) vvP b18 ([] : List (Int × Nat)), blk b5 32 [u0_0, u0_1]] [Ty.item TForm.sl a0.images [u0_1] fp0, Ty.item ((EI .i64).ty.sl) a0.degrees [u0_0] fp0, Ty.item TAlg a0 [u0_0, u0_1] fp0]) r2054.length ?_ ?_ (s0 := ([] : List (A8 × Int))) ?_ h
   ·clear hC h
    rintro i2207 s2208 e_ w2214 next2210 K2211 hi2213 ⟨hS_, hC⟩ h hK2212
    refine sr ?_
    refine s_lss (sx hS_ 5 rfl) (sx hS_ 4 rfl) ?_
    refine dn ?_
    refine wp_seq ?_
    refine cw_true rfl (decide_eq_true (by omega)) ?_
    refine wp_skip ?_
    refine then_norm ?_
    refine wp_seq ?_
    refine wp_block ?_
    refine sr ?_
    refine s_mv (v := .int .i64 (i2207 : Int)) (sx hS_ 5 rfl) ?_
    obtain ⟨Ad2215, c2216, hv2217⟩ := own_formE (hC.getM 0 rfl) (Nat.lt_of_le_of_lt (Nat.zero_le _) hi2213)
    refine s_iaddrO (i2207 * 8) Try.underlying121 ag101.size (tr (sx hS_ 3 rfl) hv2217) (sx hS_ 5 rfl) (Int.natCast_nonneg _) (Int.ofNat_lt.2 hi2213) rfl ?_
    refine s_loadCA (A8.enc .i64 (r2054.getD i2207 default)) (own_cellsE (hC.getM 0 rfl) hv2217 i2207 hi2213) ag101 rfl rfl ?_
    refine s_alloc hC (A8.enc .i64 A8.zero) z101 rfl fun b2218 w2220 hB_ hC => ?_
    refine s_as (v := .int .i64 (i2207 : Int)) rfl ?_
    refine s_store (v := .agg (List.toArray (A8.enc .i64 (r2054.getD i2207 default)))) hC 0 (A8.enc .i64 (r2054.getD i2207 default)) (A8.enc .i64 (r2054.getD i2207 default)) rfl ag101.size rfl rfl rfl rfl rfl (Nat.le_of_ble_eq_true rfl) rfl fun w2221 hC => ?_
    refine dn ?_
    refine cw_draw 6 mixed [0, 1, 3, 7, 0, 0, 63] [3, 4] [0, 1, 2, 5] (by kernel_rfl) (by kernel_rfl) (by kernel_rfl) (fun hM2223 hM2224 w2222 hB_ => ?_)
    replace hC := hC.grow hB_
    refine aF 0 (.pointer (some ⟨b2048, 0, none⟩)) rfl rfl (hM2224 0 rfl) (rfl) (fun _ => by exact r_mv (v := .pointer (some ⟨b2048, 0, none⟩)) (sx hS_ 2 rfl)) (dbits 7 1) ?_
    refine aF 1 (.pointer (some ⟨b2048, 0, none⟩)) rfl rfl (hM2224 1 rfl) (rfl) (fun _ => by exact r_nilchk rfl) (dbits 7 3) ?_
    refine aF 2 (.pointer (some ⟨b2048, 1, none⟩)) rfl rfl (hM2224 2 rfl) (rfl) (fun _ => by exact r_faddrB 1 Try.underlying158 rfl sc156.size rfl rfl) (dbits 7 7) ?_
    refine aL 3 (.map (some b2045)) rfl rfl (hM2223 3 rfl) (rfl) (fun _ hB_ => by exact r_loadS (hC.grow hB_) 2 (.map (some b2045)) rfl sc156 rfl rfl) (dbits 7 15) ?_
    refine aL 4 (.agg (List.toArray (A8.enc .i64 (r2054.getD i2207 default)))) rfl rfl (hM2223 4 rfl) (rfl) (fun _ hB_ => by exact r_loadA (hC.grow hB_) 0 (A8.enc .i64 (r2054.getD i2207 default)) rfl ag101 rfl rfl rfl) (dbits 7 31) ?_
    refine aF 5 (.int .i64 (i2207 : Int)) rfl rfl (hM2224 5 rfl) (rfl) (fun _ => by exact r_mv (v := .int .i64 (i2207 : Int)) rfl) (dbits 7 63) ?_
    refine ae_tail 6 (by decide) (by decide) (by kernel_rfl) (by kernel_rfl) rfl ?_
    refine s_mapset hC 3 (r2054.getD i2207 default) (i2207 : Int) rfl kt101 Try.underlying156 rfl rfl rfl (fun w2225 hC => ?_) (.inl rfl)
    refine done ?_
    refine qn_norm ?_
    refine blk_norm ?_
    refine then_norm ?_
    refine cw_region ?_
    refine s_add (sx hS_ 5 rfl) rfl ?_
    refine s_mv (v := .int .i64 (IntKind.i64.wrap ((i2207 : Int) + 1))) rfl ?_
    refine done ?_
    replace hC := hC.sM [1, 2, 3, 4, 5, 6] (M' := [own 101 8 u2055 r2054.length ((EA .i64).encs r2054), blk b2048 158 [u2055, .map (some b2045), .slice none 0 0, .slice none 0 0, .slice none 0 0, .slice none 0 0], mapI (kvA .i64) (vvI .i64) b2045 (mset s2208 (r2054.getD i2207 default) (i2207 : Int)), blk b21 164 [.pointer (some ⟨b5, 0, none⟩), .map (some b18)], mapI (vvI .i64) vvP b18 ([] : List (Int × Nat)), blk b5 32 [u0_0, u0_1]]) (by decide) rfl
    exact hK2212 (mset s2208 (r2054.getD i2207 default) (i2207 : Int)) _ _ ⟨(sk (sx hS_ 0 rfl) (sk (sx hS_ 1 rfl) (sk (sx hS_ 2 rfl) (sk (sx hS_ 3 rfl) (sk (sx hS_ 4 rfl) (sk (tr rfl (congrArg _ (wrap64_nat hi2213 hN2209))) sn)))))), hC⟩ h
   ·clear hC h
    rintro s2208 e_ w2226 K2211 ⟨hS_, hC⟩ h
    refine sr ?_
    refine s_lss (sx hS_ 5 rfl) (sx hS_ 4 rfl) ?_
    refine dn ?_
    refine wp_seq ?_
    refine cw_false rfl (decide_eq_false (by omega)) ?_
    refine wp_exit (then_exit (then_exit (exit_in ?_)))
    refine then_norm ?_
    refine sr ?_
    refine s_mv (v := .pointer (some ⟨b21, 0, none⟩)) (sx hS_ 0 rfl) ?_
    refine s_nilchk rfl ?_
    refine s_faddrB 1 Try.underlying164 rfl sc162.size rfl rfl ?_
    refine s_loadS hC 3 (.map (some b18)) rfl sc162 rfl rfl ?_
    refine s_mv (v := .int .i64 a1) (sx hS_ 1 rfl) ?_
    refine s_mv (v := .pointer (some ⟨b2048, 0, none⟩)) (sx hS_ 2 rfl) ?_
    refine s_mapset hC 4 a1 b2048 rfl kt2 Try.underlying162 rfl rfl rfl (fun w2227 hC => ?_) (.inl rfl)
    refine dn ?_
    refine sr ?_
    refine s_mv (v := .pointer (some ⟨b2048, 0, none⟩)) (sx hS_ 2 rfl) ?_
    refine s_as (v := .pointer (some ⟨b2048, 0, none⟩)) rfl ?_
    refine dn ?_
    refine wp_ret ?_
    refine ret1 (fn := Try.f65) (v := .pointer (some ⟨b2048, 0, none⟩)) rfl (res_tmp rfl) ⟨_, rfl, ?_⟩ (.inl rfl)
    refine s_nilchk rfl ?_
    refine s_faddrB 0 Try.underlying158 rfl sc121.size rfl rfl ?_
    refine s_loadS hC 1 (u2055) rfl sc121 rfl rfl ?_
    obtain ⟨Ad2228, c2229, hv2230⟩ := own_form (hC.getM 0 rfl)
    refine s_len Try.underlying121 (tr rfl hv2230) ?_
    refine s_mv (v := .int .i64 0) rfl ?_
    refine dn ?_
    refine wp_block ?_
    have hN2263 : r2054.length ≤ 9223372036854775807 := own_max (hC.getM 0 rfl)
    refine loopN (S := Int) _ _ (fun i2261 s2262 e_ w_ => Slots e_ [(4, .int .i64 0), (5, .int .i64 s2262), (13, u2055), (14, .int .i64 (r2054.length : Int)), (15, .int .i64 (i2261 : Int))] ∧ Ctx Nox w0 w_ [own 101 8 u2055 r2054.length ((EA .i64).encs r2054), blk b21 164 [.pointer (some ⟨b5, 0, none⟩), .map (some b18)], mapI (vvI .i64) vvP b18 (mset ([] : List (Int × Nat)) a1 b2048), blk b5 32 [u0_0, u0_1]] [Ty.item TForm.sl a0.images [u0_1] fp0, Ty.item ((EI .i64).ty.sl) a0.degrees [u0_0] fp0, Ty.item TAlg a0 [u0_0, u0_1] fp0]) r2054.length ?_ ?_ (s0 := 0) ?_ h
    ·clear hC h
     rintro i2261 s2262 e_ w2268 next2264 K2265 hi2267 ⟨hS_, hC⟩ h hK2266
     refine sr ?_
     refine s_lss (sx hS_ 4 rfl) (sx hS_ 3 rfl) ?_
     refine dn ?_
     refine wp_seq ?_
     refine cw_true rfl (decide_eq_true (by omega)) ?_
     refine wp_skip ?_
     refine then_norm ?_
     refine wp_seq ?_
     refine wp_block ?_
     refine sr ?_
     obtain ⟨Ad2269, c2270, hv2271⟩ := own_formE (hC.getM 0 rfl) (Nat.lt_of_le_of_lt (Nat.zero_le _) hi2267)
     refine s_iaddrO (i2261 * 8) Try.underlying121 ag101.size (tr (sx hS_ 2 rfl) hv2271) (sx hS_ 4 rfl) (Int.natCast_nonneg _) (Int.ofNat_lt.2 hi2267) rfl ?_
     refine s_loadCA (A8.enc .i64 (r2054.getD i2261 default)) (own_cellsE (hC.getM 0 rfl) hv2271 i2261 hi2267) ag101 rfl rfl ?_
     refine s_alloc hC (A8.enc .i64 A8.zero) z101 rfl fun b2272 w2274 hB_ hC => ?_
     refine s_store (v := .agg (List.toArray (A8.enc .i64 (r2054.getD i2261 default)))) hC 0 (A8.enc .i64 (r2054.getD i2261 default)) (A8.enc .i64 (r2054.getD i2261 default)) rfl ag101.size rfl rfl rfl rfl rfl (Nat.le_of_ble_eq_true rfl) rfl fun w2275 hC => ?_
     refine dn ?_
     refine cw_region ?_
     refine s_mv (v := .int .i64 s2262) (sx hS_ 1 rfl) ?_
     refine s_loadA hC 0 (A8.enc .i64 (r2054.getD i2261 default)) rfl ag101 rfl rfl rfl ?_
     refine s_call [.agg (List.toArray (A8.enc .i64 (r2054.getD i2261 default)))] _ Try.func117 rfl rfl rfl (c_impl_power_length (r2054.getD i2261 default) h _) (fun ret2276 w2278 hR2277 => ?_)
     obtain ⟨r2279, rfl, h, hB2280⟩ := hR2277
     refine ⟨_, rfl, ?_⟩
     replace hC := hC.grow hB2280
     refine s_max rfl rfl ?_
     refine s_as (v := .int .i64 (if s2262 < r2279 then r2279 else s2262)) rfl ?_
     refine done ?_
     refine blk_norm ?_
     refine then_norm ?_
     refine cw_region ?_
     refine s_add (sx hS_ 4 rfl) rfl ?_
     refine s_mv (v := .int .i64 (IntKind.i64.wrap ((i2261 : Int) + 1))) rfl ?_
     refine done ?_
     replace hC := hC.sM [1, 2, 3, 4] (M' := [own 101 8 u2055 r2054.length ((EA .i64).encs r2054), blk b21 164 [.pointer (some ⟨b5, 0, none⟩), .map (some b18)], mapI (vvI .i64) vvP b18 (mset ([] : List (Int × Nat)) a1 b2048), blk b5 32 [u0_0, u0_1]]) (by decide) rfl
     exact hK2266 (if s2262 < r2279 then r2279 else s2262) _ _ ⟨(sk (sx hS_ 0 rfl) (sk rfl (sk (sx hS_ 2 rfl) (sk (sx hS_ 3 rfl) (sk (tr rfl (congrArg _ (wrap64_nat hi2267 hN2263))) sn))))), hC⟩ h
    ·clear hC h
     rintro s2262 e_ w2281 K2265 ⟨hS_, hC⟩ h
     refine sr ?_
     refine s_lss (sx hS_ 4 rfl) (sx hS_ 3 rfl) ?_
     refine dn ?_
     refine wp_seq ?_
     refine cw_false rfl (decide_eq_false (by omega)) ?_
     refine wp_exit (then_exit (then_exit (exit_in ?_)))
     refine then_norm ?_
     refine sr ?_
     refine s_mv (v := .int .i64 s2262) (sx hS_ 1 rfl) ?_
     refine s_as (v := .int .i64 s2262) rfl ?_
     refine dn ?_
     refine wp_ret ?_
     refine ret1 (fn := Try.f58) (v := .int .i64 s2262) rfl (res_tmp rfl) ⟨_, rfl, ?_⟩ (.inl rfl)
     refine s_as (v := .int .i64 s2262) rfl ?_
     refine s_as (v := .int .i64 0) rfl ?_
     refine dn ?_
     refine wp_ret ?_
     refine ret2 (fn := Try.f18) rfl ?_ ?_ ⟨s2262, 0, rfl, h, hC.below⟩ (.inl rfl)
     ·exact res_tmp rfl
     ·exact res_tmp rfl
    ·skip
     replace hC := hC.sM [0, 3, 4, 5] (M' := [own 101 8 u2055 r2054.length ((EA .i64).encs r2054), blk b21 164 [.pointer (some ⟨b5, 0, none⟩), .map (some b18)], mapI (vvI .i64) vvP b18 (mset ([] : List (Int × Nat)) a1 b2048), blk b5 32 [u0_0, u0_1]]) (by decide) rfl
     exact ⟨(sk rfl (sk rfl (sk rfl (sk rfl (sk rfl sn))))), hC⟩
   ·skip
    exact ⟨(sk rfl (sk rfl (sk rfl (sk rfl (sk rfl (sk rfl sn)))))), hC⟩
def f_laws_FnExactWidthOf (a0 : Alg) (a1 : Int) (K : Bool → Prop) : Prop :=
 f_laws_szAlgebra a0 1048576 (fun r11 => (if r11 < 0 then K true else f_laws_toAlgebra a0 (fun r17 => f_spec_WidthOf r17 a1 (fun r36 r37 => f_laws_toAlgebra a0 (fun r42 => f_impl_WidthOf r42 a1 (fun r65 r66 => (if r65 ≠ r36 then K false else (if r66 ≠ r37 then K false else f_laws_toAlgebra a0 (fun r76 => f_laws_eqAlgebra r42 r76 (fun r95 => (if ¬ (r95 = true) then K false else K true)))))))))))
theorem c_laws_FnExactWidthOf (a0 : Alg) (a1 : Int) {u0_0 : Value} {u0_1 : Value} {fp0 : List Nat} {K : Bool → Prop} (h : f_laws_FnExactWidthOf a0 a1 K) (w0 : World) (q0 : TAlg.rep a0 [u0_0, u0_1] fp0 w0) :
  Calls Try.prog 4 #[.agg #[u0_0, u0_1], .int .i64 a1] w0 fun e w' => ∃ (r0 : Bool), 
   e = .returned (.bool r0) ∧ K r0 ∧ Bel w0 w' := by
 unfold f_laws_FnExactWidthOf at h
 refine calls_of (args := [.agg #[u0_0, u0_1], .int .i64 a1]) Try.func4 rfl 44 Try.ntmps4 (Nat.le_of_ble_eq_true rfl) ?_
 have hC := Ctx.start (X := Nox) w0 [Ty.item TAlg a0 [u0_0, u0_1] fp0] (by simp only [List.mem_cons, List.not_mem_nil, or_false, forall_eq_or_imp, forall_eq]; exact q0)
 have hp2 := (hC.getP 0 rfl)
 replace hC := hC.derive 0 rfl (Ty.item ((EI .i64).ty.sl) a0.degrees [u0_0] fp0) (fun _ => (alg_parts hp2).1) (fun _ hb_ => hb_)
 replace hC := hC.derive 1 rfl (Ty.item TForm.sl a0.images [u0_1] fp0) (fun _ => (alg_parts hp2).2) (fun _ hb_ => hb_)
 refine sr ?_
 refine s_box (v := .agg #[u0_0, u0_1]) hC [u0_0, u0_1] rfl rfl fun b5 w7 hB_ hC => ?_
 refine s_as (v := .bool false) rfl ?_
 refine dn ?_
 refine sr ?_
 refine s_as (v := .int .i64 1048576) rfl ?_
 refine dn ?_
 refine sr ?_
 refine s_loadA hC 0 [u0_0, u0_1] rfl ag25 rfl rfl rfl ?_
 refine s_mv (v := .int .i64 1048576) rfl ?_
 refine s_call [.agg #[u0_0, u0_1], .int .i64 1048576] _ Try.func8 rfl rfl rfl (c_laws_szAlgebra a0 1048576 h _ (alg_mk (hC.getP 1 rfl) (hC.getP 0 rfl))) (fun ret8 w10 hR9 => ?_)
 obtain ⟨r11, rfl, h, hB12⟩ := hR9
 refine ⟨_, rfl, ?_⟩
 replace hC := hC.grow hB12
 refine s_as (v := .int .i64 r11) rfl ?_
 refine dn ?_
 refine wp_seq ?_
 refine sr ?_
 refine s_mv (v := .int .i64 r11) rfl ?_
 refine s_lss rfl rfl ?_
 refine dn ?_
 refine cw_cond rfl (fun hb13 => ?_) (fun hb13 => ?_)
 ·replace h := ift h (ct hb13)
  refine sr ?_
  refine s_as (v := .bool true) rfl ?_
  refine dn ?_
  refine wp_ret (then_ret ?_)
  refine ret1 (fn := Try.f4) rfl ?_ ⟨true, rfl, h, hC.below⟩ (.inl rfl)
  exact res_tmp rfl
 ·replace h := iff_ h (cf hb13)
  refine wp_skip ?_
  refine then_norm ?_
  refine sr ?_
  refine s_loadA hC 0 [u0_0, u0_1] rfl ag25 rfl rfl rfl ?_
  refine s_call [.agg #[u0_0, u0_1]] _ Try.func10 rfl rfl rfl (c_laws_toAlgebra a0 h _ (alg_mk (hC.getP 1 rfl) (hC.getP 0 rfl))) (fun ret14 w16 hR15 => ?_)
  obtain ⟨r17, u18, u19, f20, rfl, h, hr21, hf22, hB23⟩ := hR15
  refine ⟨_, rfl, ?_⟩
  replace hC := hC.push hB23 (Tr.item (TrAlg 2 114 95) r17 [u18, u19] f20) hr21 hf22
  obtain ⟨f25, ho26, ho27, hs28, hs29, hd30⟩ := alg_split (hC.getM 0 rfl)
  replace hC := hC.split (a := own 2 1 u18 r17.degrees.length ((EI .i64).encs r17.degrees)) (b := Tr.item (Tr.sl 95 (TrForm 114)) r17.images [u19] f25) hs28 hs29 ⟨ho26, ho27, hd30⟩
  refine s_mv (v := .int .i64 a1) rfl ?_
  refine s_call [.agg #[u18, u19], .int .i64 a1] _ Try.func17 rfl rfl rfl (c_spec_WidthOf r17 a1 h _ (alg_mk (own_repE (hC.getM 0 rfl)) (Tr.trep _ (hC.getM 1 rfl).1))) (fun ret33 w35 hR34 => ?_)
  obtain ⟨r36, r37, rfl, h, hB38⟩ := hR34
  refine ⟨_, rfl, ?_⟩
  replace hC := hC.grow hB38
  refine s_mv (v := .tuple #[.int .i64 r36, .int .i64 r37]) rfl ?_
  refine s_ext (v := .int .i64 r36) rfl rfl ?_
  refine s_ext (v := .int .i64 r37) rfl rfl ?_
  refine s_as (v := .int .i64 r36) rfl ?_
  refine s_as (v := .int .i64 r37) rfl ?_
  refine dn ?_
  refine sr ?_
  refine s_loadA hC 2 [u0_0, u0_1] rfl ag25 rfl rfl rfl ?_
  refine s_call [.agg #[u0_0, u0_1]] _ Try.func10 rfl rfl rfl (c_laws_toAlgebra a0 h _ (alg_mk (hC.getP 1 rfl) (hC.getP 0 rfl))) (fun ret39 w41 hR40 => ?_)
  obtain ⟨r42, u43, u44, f45, rfl, h, hr46, hf47, hB48⟩ := hR40
  refine ⟨_, rfl, ?_⟩
  replace hC := hC.push hB48 (Tr.item (TrAlg 2 114 95) r42 [u43, u44] f45) hr46 hf47
  obtain ⟨f50, ho51, ho52, hs53, hs54, hd55⟩ := alg_split (hC.getM 0 rfl)
  replace hC := hC.split (a := own 2 1 u43 r42.degrees.length ((EI .i64).encs r42.degrees)) (b := Tr.item (Tr.sl 95 (TrForm 114)) r42.images [u44] f50) hs53 hs54 ⟨ho51, ho52, hd55⟩
  refine s_alloc hC [.slice none 0 0, .slice none 0 0] z32 rfl fun b58 w60 hB_ hC => ?_
  refine s_store (v := .agg #[u43, u44]) hC 0 [u43, u44] [u43, u44] rfl ag32.size rfl rfl rfl rfl (all_c (own_oneC (hC.getM 1 rfl)) (all_c (rep_oneC (Tr.trep _ (hC.getM 2 rfl).1)) rfl)) (Nat.le_of_ble_eq_true rfl) rfl fun w61 hC => ?_
  refine dn ?_
  refine sr ?_
  refine s_loadA hC 0 [u43, u44] rfl ag32 rfl rfl rfl ?_
  refine s_mv (v := .int .i64 a1) rfl ?_
  refine s_call [.agg #[u43, u44], .int .i64 a1] _ Try.func18 rfl rfl rfl (c_impl_WidthOf r42 a1 h _ (alg_mk (own_repE (hC.getM 1 rfl)) (Tr.trep _ (hC.getM 2 rfl).1))) (fun ret62 w64 hR63 => ?_)
  obtain ⟨r65, r66, rfl, h, hB67⟩ := hR63
  refine ⟨_, rfl, ?_⟩
  replace hC := hC.grow hB67
  refine s_mv (v := .tuple #[.int .i64 r65, .int .i64 r66]) rfl ?_
  refine s_ext (v := .int .i64 r65) rfl rfl ?_
  refine s_ext (v := .int .i64 r66) rfl rfl ?_
  refine s_as (v := .int .i64 r65) rfl ?_
  refine s_as (v := .int .i64 r66) rfl ?_
  refine dn ?_
  refine wp_seq ?_
  refine sr ?_
  refine s_mv (v := .int .i64 r65) rfl ?_
  refine s_mv (v := .int .i64 r36) rfl ?_
  refine s_neq rfl rfl ?_
  refine s_mv (v := .bool (decide (r65 ≠ r36))) rfl ?_
  refine bsplit (decide (r65 ≠ r36)) (fun hb68 => ?_) (fun hb68 => ?_)
  ·replace h := ift h (ct hb68)
   refine guardOff (b := true) 3 34 rfl (tr rfl (congrArg _ hb68)) (by decide) ?_
   refine guardOff (b := true) 3 34 rfl (tr rfl (congrArg _ hb68)) (by decide) ?_
   refine guardOff (b := true) 3 34 rfl (tr rfl (congrArg _ hb68)) (by decide) ?_
   refine s_pick (v := .bool true) (b := true) (tr rfl (congrArg _ hb68)) rfl ?_
   refine dn ?_
   refine cw_true rfl rfl ?_
   refine sr ?_
   refine s_as (v := .bool false) rfl ?_
   refine dn ?_
   refine wp_ret (then_ret ?_)
   refine ret1 (fn := Try.f4) rfl ?_ ⟨false, rfl, h, hC.below⟩ (.inl rfl)
   exact res_tmp rfl
  ·replace h := iff_ h (cf hb68)
   refine guardOn 3 34 rfl rfl hb68 ?_
   refine s_mv (v := .int .i64 r66) rfl ?_
   refine guardOn 3 34 rfl rfl hb68 ?_
   refine s_mv (v := .int .i64 r37) rfl ?_
   refine guardOn 3 34 rfl rfl hb68 ?_
   refine s_neq rfl rfl ?_
   refine s_pick (v := .bool (decide (r66 ≠ r37))) (b := false) (tr rfl (congrArg _ hb68)) rfl ?_
   refine dn ?_
   refine cw_cond rfl (fun hb69 => ?_) (fun hb69 => ?_)
   ·replace h := ift h (ct hb69)
    refine sr ?_
    refine s_as (v := .bool false) rfl ?_
    refine dn ?_
    refine wp_ret (then_ret ?_)
    refine ret1 (fn := Try.f4) rfl ?_ ⟨false, rfl, h, hC.below⟩ (.inl rfl)
    exact res_tmp rfl
   ·replace h := iff_ h (cf hb69)
    refine wp_skip ?_
    refine then_norm ?_
    refine wp_seq ?_
    refine wp_seq ?_
    refine cw_draw 3 mixed [0, 0, 2, 7, 15] [0, 1] [] (by kernel_rfl) (by kernel_rfl) (by kernel_rfl) (fun hM71 hM72 w70 hB_ => ?_)
    replace hC := hC.grow hB_
    refine aL 0 (.agg #[u43, u44]) rfl rfl (hM71 0 rfl) (rfl) (fun _ hB_ => by exact r_loadA (hC.grow hB_) 0 [u43, u44] rfl ag32 rfl rfl rfl) (dbits 5 1) ?_
    refine aL 1 (.agg #[u0_0, u0_1]) rfl rfl (hM71 1 rfl) (rfl) (fun _ hB_ => by exact r_loadA (hC.grow hB_) 5 [u0_0, u0_1] rfl ag25 rfl rfl rfl) (dbits 5 3) ?_
    refine aO 2 rfl ?_
    refine s_call [.agg #[u0_0, u0_1]] _ Try.func10 rfl rfl rfl (c_laws_toAlgebra a0 h _ (alg_mk (hC.getP 1 rfl) (hC.getP 0 rfl))) (fun ret73 w75 hR74 => ?_)
    obtain ⟨r76, u77, u78, f79, rfl, h, hr80, hf81, hB82⟩ := hR74
    refine ⟨_, rfl, ?_⟩
    replace hC := hC.push hB82 (Tr.item (TrAlg 2 114 95) r76 [u77, u78] f79) hr80 hf81
    obtain ⟨f84, ho85, ho86, hs87, hs88, hd89⟩ := alg_split (hC.getM 0 rfl)
    replace hC := hC.split (a := own 2 1 u77 r76.degrees.length ((EI .i64).encs r76.degrees)) (b := Tr.item (Tr.sl 95 (TrForm 114)) r76.images [u78] f84) hs87 hs88 ⟨ho85, ho86, hd89⟩
    refine done ?_
    refine aK (by assumption) (dbits 5 7) ?_
    refine ae_tail 3 (by decide) (by decide) (by kernel_rfl) (by kernel_rfl) rfl ?_
    refine s_call [.agg #[u43, u44], .agg #[u77, u78]] _ Try.func13 rfl rfl rfl (c_laws_eqAlgebra r42 r76 h _ (alg_mk (own_repE (hC.getM 3 rfl)) (Tr.trep _ (hC.getM 4 rfl).1)) (alg_mk (own_repE (hC.getM 0 rfl)) (Tr.trep _ (hC.getM 1 rfl).1))) (fun ret92 w94 hR93 => ?_)
    obtain ⟨r95, rfl, h, hB96⟩ := hR93
    refine ⟨_, rfl, ?_⟩
    replace hC := hC.grow hB96
    refine s_not rfl ?_
    refine done ?_
    refine qn_norm ?_
    refine then_norm ?_
    refine cw_cond rfl (fun hb97 => ?_) (fun hb97 => ?_)
    ·replace h := ift h (ne_t (not_t hb97))
     refine sr ?_
     refine s_as (v := .bool false) rfl ?_
     refine dn ?_
     refine wp_ret (then_ret ?_)
     refine ret1 (fn := Try.f4) rfl ?_ ⟨false, rfl, h, hC.below⟩ (.inl rfl)
     exact res_tmp rfl
    ·replace h := iff_ h (not_not_intro ((not_f hb97)))
     refine wp_skip ?_
     refine then_norm ?_
     refine sr ?_
     refine s_as (v := .bool true) rfl ?_
     refine dn ?_
     refine wp_ret ?_
     refine ret1 (fn := Try.f4) rfl ?_ ⟨true, rfl, h, hC.below⟩ (.inl rfl)
     exact res_tmp rfl
end Go.Proofs.Ytaagfepgbofmlaa
