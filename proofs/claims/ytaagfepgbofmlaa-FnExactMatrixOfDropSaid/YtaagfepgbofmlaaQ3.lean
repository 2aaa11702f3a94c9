import Derived.Test.YtaagfepgbofmlaaQ2
set_option linter.unusedVariables false
set_option linter.unusedSimpArgs false
set_option maxRecDepth 4000
set_option maxHeartbeats 4000000
namespace Go.Proofs.Ytaagfepgbofmlaa
open Go Go.RowKit Vc
def Zfb (a0 : A8) (a1 : List Int) (a2 : A8) (K : A8 → Int → Prop) : Prop :=
 Yy (fun i10 (s12 : Int) nx10 => (if Int.tmod (a1.getD i10 default) 2 = 0 then nx10 s12 else ((0 ≤ (i10 : Int) ∧ (i10 : Int) < 8) ∧ (if a0.get i10 > 0 then ((0 ≤ (i10 : Int) ∧ (i10 : Int) < 8) ∧ (if a2.get i10 > 0 then K A8.zero 0 else ((0 ≤ (i10 : Int) ∧ (i10 : Int) < 8) ∧ nx10 s12))) else ((0 ≤ (i10 : Int) ∧ (i10 : Int) < 8) ∧ (if a2.get i10 > 0 then Xf (fun (s10 : Int × Int) nx11 => (if s10.1 < (a1.length : Int) then ((0 ≤ s10.1 ∧ s10.1 < (a1.length : Int)) ∧ ((0 ≤ s10.1 ∧ s10.1 < 8) ∧ nx11 (IntKind.i64.wrap (s10.1 + 1), IntKind.i64.wrap (s10.2 + (IntKind.i64.wrap ((Int.tmod (a1.getD s10.1.toNat default) 2) * (a0.get s10.1.toNat))))))) else nx10 s10.2)) (IntKind.i64.wrap ((i10 : Int) + 1), s12) else nx10 s12)))))) (fun (s12 : Int) => Yy (fun i11 (s11 : A8) nx12 => nx12 (s11.set i11 (IntKind.i64.wrap ((s11.get i11) + (a2.get i11))))) (fun (s11 : A8) => (if Int.tmod s12 2 = 1 then K s11 (-1) else K s11 1)) 8 0 a0) a1.length 0 0
theorem Zqn (a0 : A8) (a1 : List Int) (a2 : A8) {u1_0 : Value} {fp1 : List Nat} {K : A8 → Int → Prop} (h : Zfb a0 a1 a2 K) (w0 : World) (q1 : ((EI .i64).ty.sl).rep a1 [u1_0] fp1 w0) :
  Calls Try.prog 80 #[.agg (List.toArray (A8.enc .i64 a0)), u1_0, .agg (List.toArray (A8.enc .i64 a2))] w0 fun e w' => ∃ (r0 : A8) (r1 : Int), 
   e = .returned (.tuple #[.agg (List.toArray (A8.enc .i64 r0)), .int .i64 r1]) ∧ K r0 r1 ∧ Bel w0 w' := by
 unfold Zfb at h
 refine Z6 (args := [.agg (List.toArray (A8.enc .i64 a0)), u1_0, .agg (List.toArray (A8.enc .i64 a2))]) Try.func80 rfl 75 Try.ntmps80 (Nat.le_of_ble_eq_true rfl) ?_
 have hC := Ctx.start (X := Nox) w0 [Ty.item ((EI .i64).ty.sl) a1 [u1_0] fp1] (by simp only [List.mem_cons, List.not_mem_nil, or_false, forall_eq_or_imp, forall_eq]; exact q1)
 refine sr (Ye (v := .agg (List.toArray (A8.enc .i64 a0))) hC (A8.enc .i64 a0) rfl rfl fun b2 w4 hB_ hC => Ye (v := .agg (List.toArray (A8.enc .i64 a2))) hC (A8.enc .i64 a2) rfl rfl fun b5 w7 hB_ hC => Yf hC (A8.enc .i64 A8.zero) Jt rfl fun b8 w10 hB_ hC => Zc (v := .int .i64 0) rfl (dn (sr (Zc (v := .int .i64 0) rfl (dn (wp_seq (sr (Zb (v := u1_0) rfl ?_))))))))
 obtain ⟨Ad11, c10, hv12⟩ := Z2 (hC.getP 0 rfl)
 refine Z0 Try.underlying22 (tr rfl hv12) (Zb (v := .int .i64 0) rfl (dn (wp_block ?_)))
 have hN10 : a1.length ≤ 9223372036854775807 := Xv (hC.getP 0 rfl)
 refine Y6 (S := Int) _ _ (fun i10 s12 e_ w_ => Z4 e_ [(1, u1_0), (3, .pointer (some ⟨b2, 0, none⟩)), (5, .pointer (some ⟨b5, 0, none⟩)), (6, .pointer (some ⟨b8, 0, none⟩)), (8, .int .i64 s12), (13, u1_0), (14, .int .i64 (a1.length : Int)), (15, .int .i64 (i10 : Int))] ∧ Ctx Nox w0 w_ [blk b8 101 (A8.enc .i64 A8.zero), blk b5 101 (A8.enc .i64 a2), blk b2 101 (A8.enc .i64 a0)] [Ty.item ((EI .i64).ty.sl) a1 [u1_0] fp1]) a1.length ?_ ?_ (s0 := 0) ?_ h
 ·clear hC h
  rintro i10 s12 e_ w11 nx10 K10 hi10 ⟨hS_, hC⟩ h hK10
  rw [ue hS_]
  refine sr (Zs rfl rfl (dn (wp_seq (Yq rfl (decide_eq_true (by omega)) (wp_skip (Zd (wp_seq (wp_block (sr (Zb (v := .int .i64 (i10 : Int)) rfl ?_))))))))))
  obtain ⟨Ad12, c11, hv10⟩ := Z9 (hC.getP 0 rfl) i10 hi10
  refine Xe (len := a1.length) Try.underlying22 sc2.size (tr rfl hv10) rfl (Int.natCast_nonneg _) (Int.ofNat_lt.2 hi10) (X5 (.int .i64 (a1.getD i10 default)) (Yk (hC.getP 0 rfl) hv10 i10 hi10) sc2 rfl (Zc (v := .int .i64 (i10 : Int)) rfl (Zc (v := .int .i64 (a1.getD i10 default)) rfl (dn (wp_seq (sr (Zb (v := .int .i64 (a1.getD i10 default)) rfl (Jk rfl rfl (by decide) (Jl rfl rfl (dn ?_))))))))))
  refine Zr rfl (fun hb12 => ?_) (fun hb12 => ?_)
  ·replace h := ift h (ct hb12)
   refine wp_exit (Zl (Yc ?_))
   refine Zd (Zk (Zq rfl rfl (Zb (v := .int .i64 (IntKind.i64.wrap ((i10 : Int) + 1))) rfl (done ?_))))
   exact hK10 s12 _ _ ⟨(sl ⟨rfl, rfl, rfl, rfl, rfl, rfl, rfl, (tr rfl (congrArg _ (Yi hi10 hN10))), trivial⟩), hC⟩ h
  ·replace h := Zi h (cf hb12)
   refine wp_skip (Zd (wp_seq (sr (Zb (v := .int .i64 (i10 : Int)) rfl ?_))))
   obtain ⟨⟨h10, h11⟩, h⟩ := h
   refine Y1 i10 Try.underlying101 sc3.size rfl rfl h10 h11 (by omega) (Z8 hC 2 (.int .i64 (a0.get i10)) rfl sc3 rfl (A8.enc_get _ _ (show i10 < 8 by omega)) (Jm rfl rfl (Zb (v := .bool (decide (a0.get i10 > 0))) rfl ?_)))
   refine Xa (decide (a0.get i10 > 0)) (fun hb10 => ?_) (fun hb10 => ?_)
   ·replace h := ift h (ct hb10)
    refine Zm 4 27 rfl rfl hb10 (Zb (v := .int .i64 (i10 : Int)) rfl (Zm 4 27 rfl rfl hb10 ?_))
    obtain ⟨⟨h12, h13⟩, h⟩ := h
    refine Y1 i10 Try.underlying101 sc3.size rfl rfl h12 h13 (by omega) (Zm 4 27 rfl rfl hb10 (Z8 hC 1 (.int .i64 (a2.get i10)) rfl sc3 rfl (A8.enc_get _ _ (show i10 < 8 by omega)) (Zm 4 27 rfl rfl hb10 (Jm rfl rfl (Yb (v := .bool (decide (a2.get i10 > 0))) (b := true) (tr rfl (congrArg _ hb10)) rfl (dn ?_))))))
    refine Zr rfl (fun hb11 => ?_) (fun hb11 => ?_)
    ·replace h := ift h (ct hb11)
     refine sr (Jd [] rfl (Ze3   _) (Zu (v := .agg (List.toArray (A8.enc .i64 A8.zero))) hC 0 (A8.enc .i64 A8.zero) (A8.enc .i64 A8.zero) rfl ag101.size rfl rfl rfl rfl rfl (Nat.le_of_ble_eq_true rfl) rfl fun w12 hC => Zc (v := .int .i64 0) rfl (dn ?_)))
     refine wp_ret (Zj (Yd (Zj (Zj (Yd (Zj ?_))))))
     refine Jn (fn := Try.f80) rfl ?_ ?_ ⟨A8.zero, 0, rfl, h, hC.below⟩ (.inl rfl)
     ·exact J3 hC 0 rfl ag101 rfl rfl
     ·exact Zh rfl
    ·replace h := Zi h (cf hb11)
     refine wp_skip (Zd (sr (Zb (v := .int .i64 (i10 : Int)) rfl ?_)))
     obtain ⟨⟨h14, h15⟩, h⟩ := h
     refine Y1 i10 Try.underlying101 sc3.size rfl rfl h14 h15 (by omega) (Z8 hC 1 (.int .i64 (a2.get i10)) rfl sc3 rfl (A8.enc_get _ _ (show i10 < 8 by omega)) (Jm rfl rfl (dn (Yj rfl hb11 (wp_skip (Zt (Zd (Zk (Zq rfl rfl (Zb (v := .int .i64 (IntKind.i64.wrap ((i10 : Int) + 1))) rfl (done ?_)))))))))))
     exact hK10 s12 _ _ ⟨(sl ⟨rfl, rfl, rfl, rfl, rfl, rfl, rfl, (tr rfl (congrArg _ (Yi hi10 hN10))), trivial⟩), hC⟩ h
   ·replace h := Zi h (cf hb10)
    refine Zn (b := false) 4 27 rfl (tr rfl (congrArg _ hb10)) (by decide) (Zn (b := false) 4 27 rfl (tr rfl (congrArg _ hb10)) (by decide) (Zn (b := false) 4 27 rfl (tr rfl (congrArg _ hb10)) (by decide) (Zn (b := false) 4 27 rfl (tr rfl (congrArg _ hb10)) (by decide) (Yb (v := .bool false) (b := false) (tr rfl (congrArg _ hb10)) rfl (dn (Yj rfl rfl (wp_skip (Zd (sr (Zb (v := .int .i64 (i10 : Int)) rfl ?_))))))))))
    obtain ⟨⟨h16, h17⟩, h⟩ := h
    refine Y1 i10 Try.underlying101 sc3.size rfl rfl h16 h17 (by omega) (Z8 hC 1 (.int .i64 (a2.get i10)) rfl sc3 rfl (A8.enc_get _ _ (show i10 < 8 by omega)) (Jm rfl rfl (dn ?_)))
    refine Zr rfl (fun hb13 => ?_) (fun hb13 => ?_)
    ·replace h := ift h (ct hb13)
     refine sr (Zb (v := .int .i64 (i10 : Int)) rfl (Zq rfl rfl (Zc (v := .int .i64 (IntKind.i64.wrap ((i10 : Int) + 1))) rfl (dn (wp_block ?_)))))
     refine Xu (S := Int × Int) _ (fun s10 e_ w_ => Z4 e_ [(1, u1_0), (3, .pointer (some ⟨b2, 0, none⟩)), (5, .pointer (some ⟨b5, 0, none⟩)), (6, .pointer (some ⟨b8, 0, none⟩)), (8, .int .i64 s10.2), (11, .int .i64 s10.1), (13, u1_0), (14, .int .i64 (a1.length : Int)), (15, .int .i64 (i10 : Int))] ∧ Ctx Nox w0 w_ [blk b8 101 (A8.enc .i64 A8.zero), blk b5 101 (A8.enc .i64 a2), blk b2 101 (A8.enc .i64 a0)] [Ty.item ((EI .i64).ty.sl) a1 [u1_0] fp1]) ?_ (s0 := (IntKind.i64.wrap ((i10 : Int) + 1), s12)) ?_ h
     ·clear hC h
      rintro s10 e_ w13 nx11 K12 ⟨hS_, hC⟩ h hK11
      rw [ue hS_]
      refine wp_seq (sr (Zb (v := .int .i64 s10.1) rfl (Zb (v := u1_0) rfl ?_)))
      obtain ⟨Ad13, c12, hv13⟩ := Z2 (hC.getP 0 rfl)
      refine Z0 Try.underlying22 (tr rfl hv13) (Zs rfl rfl (dn ?_))
      refine Zr rfl (fun hb14 => ?_) (fun hb14 => ?_)
      ·replace h := ift h (ct hb14)
       refine wp_skip (Zd (wp_seq (wp_block ?_)))
       refine Ym 10 Yg [0, 0, 0, 6, 14, 30, 0, 64, 192, 510, 1023, 2047] [3, 4, 7, 8] [0, 1, 2, 5, 6, 9] (by kernel_rfl) (by kernel_rfl) (by kernel_rfl) (fun hM11 hM10 w14 hB_ => ?_)
       replace hC := hC.grow hB_
       refine aF 0 (.int .i64 s10.2) rfl rfl (hM10 0 rfl) (rfl) (fun _ => by exact Zg (v := .int .i64 s10.2) rfl) (Za 12 1) (aF 1 (u1_0) rfl rfl (hM10 1 rfl) (rfl) (fun _ => by exact Zg (v := u1_0) rfl) (Za 12 3) (aF 2 (.int .i64 s10.1) rfl rfl (hM10 2 rfl) (rfl) (fun _ => by exact Zg (v := .int .i64 s10.1) rfl) (Za 12 7) ?_))
       obtain ⟨⟨h18, h19⟩, h⟩ := h
       obtain ⟨Ad10, c13, hv11⟩ := Z9 (hC.getP 0 rfl) s10.1.toNat (show s10.1.toNat < a1.length by omega)
       refine aL 3 (.pointer (some (Ad10.add (s10.1.toNat * 1)))) rfl rfl (hM11 3 rfl) (rfl) (fun _ hB_ => by exact Yv (len := a1.length) Try.underlying22 sc2.size (by exact tr rfl hv11) rfl h18 h19) (Za 12 15) (aL 4 (.int .i64 (a1.getD s10.1.toNat default)) rfl rfl (hM11 4 rfl) (rfl) (fun _ hB_ => by exact Jf (.int .i64 (a1.getD s10.1.toNat default)) (Yk ((hC.grow hB_).getP 0 rfl) hv11 s10.1.toNat (show s10.1.toNat < a1.length by omega)) sc2 rfl) (Za 12 31) (aF 5 (.int .i64 (Int.tmod (a1.getD s10.1.toNat default) 2)) rfl rfl (hM10 5 rfl) (rfl) (fun _ => by exact Znt rfl rfl (by decide)) (Za 12 63) (aF 6 (.int .i64 s10.1) rfl rfl (hM10 6 rfl) (rfl) (fun _ => by exact Zg (v := .int .i64 s10.1) rfl) (Za 12 127) ?_)))
       obtain ⟨⟨h20, h21⟩, h⟩ := h
       refine aL 7 (.pointer (some ⟨b2, s10.1.toNat, none⟩)) rfl rfl (hM11 7 rfl) (rfl) (fun _ hB_ => by exact Jy s10.1.toNat Try.underlying101 sc3.size rfl rfl h20 h21 (by omega)) (Za 12 255) (aL 8 (.int .i64 (a0.get s10.1.toNat)) rfl rfl (hM11 8 rfl) (rfl) (fun _ hB_ => by exact Z5 (hC.grow hB_) 2 (.int .i64 (a0.get s10.1.toNat)) rfl sc3 rfl (A8.enc_get _ _ (show s10.1.toNat < 8 by omega))) (Za 12 511) (aF 9 (.int .i64 (IntKind.i64.wrap ((Int.tmod (a1.getD s10.1.toNat default) 2) * (a0.get s10.1.toNat)))) rfl rfl (hM10 9 rfl) (rfl) (fun _ => by exact Zbh rfl rfl) (Za 12 1023) (Zv 10 (by decide) (by decide) (by kernel_rfl) (by kernel_rfl) rfl (Zq rfl rfl (Zc (v := .int .i64 (IntKind.i64.wrap (s10.2 + (IntKind.i64.wrap ((Int.tmod (a1.getD s10.1.toNat default) 2) * (a0.get s10.1.toNat)))))) rfl (done (Zw (Zt (Zd (Zk (Zb (v := .int .i64 s10.1) rfl ?_)))))))))))
       refine Zq rfl rfl (Zc (v := .int .i64 (IntKind.i64.wrap (s10.1 + 1))) rfl (done ?_))
       exact hK11 (IntKind.i64.wrap (s10.1 + 1), IntKind.i64.wrap (s10.2 + (IntKind.i64.wrap ((Int.tmod (a1.getD s10.1.toNat default) 2) * (a0.get s10.1.toNat))))) _ _ ⟨(sl ⟨rfl, rfl, rfl, rfl, rfl, rfl, rfl, rfl, rfl, trivial⟩), hC⟩ h
      ·replace h := Zi h (cf hb14)
       refine wp_exit (Zl (Zl (Yc ?_)))
       refine Zt (Zd (Zk (Zq rfl rfl (Zb (v := .int .i64 (IntKind.i64.wrap ((i10 : Int) + 1))) rfl (done ?_)))))
       exact hK10 s10.2 _ _ ⟨(sl ⟨rfl, rfl, rfl, rfl, rfl, rfl, rfl, (tr rfl (congrArg _ (Yi hi10 hN10))), trivial⟩), hC⟩ h
     ·skip
      exact ⟨(sl ⟨rfl, rfl, rfl, rfl, rfl, rfl, rfl, rfl, rfl, trivial⟩), hC⟩
    ·replace h := Zi h (cf hb13)
     refine wp_skip (Zt (Zd (Zk (Zq rfl rfl (Zb (v := .int .i64 (IntKind.i64.wrap ((i10 : Int) + 1))) rfl (done ?_))))))
     exact hK10 s12 _ _ ⟨(sl ⟨rfl, rfl, rfl, rfl, rfl, rfl, rfl, (tr rfl (congrArg _ (Yi hi10 hN10))), trivial⟩), hC⟩ h
 ·clear hC h
  rintro s12 e_ w15 K10 ⟨hS_, hC⟩ h
  rw [ue hS_]
  refine sr (Zs rfl rfl (dn (wp_seq (Yj rfl (decide_eq_false (by omega)) ?_))))
  refine wp_exit (Zl (Zl (Yc ?_)))
  refine Zd (wp_seq (sr (Zb (v := .int .i64 0) rfl (dn (wp_block ?_)))))
  refine Y6 (S := A8) _ _ (fun i11 s11 e_ w_ => Z4 e_ [(3, .pointer (some ⟨b2, 0, none⟩)), (5, .pointer (some ⟨b5, 0, none⟩)), (6, .pointer (some ⟨b8, 0, none⟩)), (8, .int .i64 s12), (58, .int .i64 (i11 : Int))] ∧ Ctx Nox w0 w_ [blk b8 101 (A8.enc .i64 A8.zero), blk b5 101 (A8.enc .i64 a2), blk b2 101 (A8.enc .i64 s11)] [Ty.item ((EI .i64).ty.sl) a1 [u1_0] fp1]) 8 ?_ ?_ (s0 := a0) ?_ h
  ·clear hC h
   rintro i11 s11 e_ w16 nx12 K11 hi11 ⟨hS_, hC⟩ h hK12
   rw [ue hS_]
   refine sr (Zs rfl rfl (dn (wp_seq (Yq rfl (decide_eq_true (by omega)) (wp_skip (Zd (wp_seq (wp_block (sr (Zb (v := .int .i64 (i11 : Int)) rfl (Zc (v := .int .i64 (i11 : Int)) rfl ?_)))))))))))
   refine dn ?_
   refine Ym 6 Yg [0, 1, 3, 0, 8, 24, 63, 127, 255] [1, 2, 4, 5] [0, 3] (by kernel_rfl) (by kernel_rfl) (by kernel_rfl) (fun hM12 hM13 w17 hB_ => ?_)
   replace hC := hC.grow hB_
   refine aF 0 (.int .i64 (i11 : Int)) rfl rfl (hM13 0 rfl) (rfl) (fun _ => by exact Zg (v := .int .i64 (i11 : Int)) rfl) (Za 9 1) (aL 1 (.pointer (some ⟨b2, i11, none⟩)) rfl rfl (hM12 1 rfl) (rfl) (fun _ hB_ => by exact Jy i11 Try.underlying101 sc3.size rfl rfl (Int.natCast_nonneg _) (by omega) (by omega)) (Za 9 3) (aL 2 (.int .i64 (s11.get i11)) rfl rfl (hM12 2 rfl) (rfl) (fun _ hB_ => by exact Z5 (hC.grow hB_) 2 (.int .i64 (s11.get i11)) rfl sc3 rfl (A8.enc_get _ _ hi11)) (Za 9 7) (aF 3 (.int .i64 (i11 : Int)) rfl rfl (hM13 3 rfl) (rfl) (fun _ => by exact Zg (v := .int .i64 (i11 : Int)) rfl) (Za 9 15) (aL 4 (.pointer (some ⟨b5, i11, none⟩)) rfl rfl (hM12 4 rfl) (rfl) (fun _ hB_ => by exact Jy i11 Try.underlying101 sc3.size rfl rfl (Int.natCast_nonneg _) (by omega) (by omega)) (Za 9 31) (aL 5 (.int .i64 (a2.get i11)) rfl rfl (hM12 5 rfl) (rfl) (fun _ hB_ => by exact Z5 (hC.grow hB_) 1 (.int .i64 (a2.get i11)) rfl sc3 rfl (A8.enc_get _ _ hi11)) (Za 9 63) (Zv 6 (by decide) (by decide) (by kernel_rfl) (by kernel_rfl) rfl (Zq rfl rfl (Y1 i11 Try.underlying101 sc3.size rfl rfl (Int.natCast_nonneg _) (by omega) (by omega) (Zu (v := .int .i64 (IntKind.i64.wrap ((s11.get i11) + (a2.get i11)))) hC 2 [.int .i64 (IntKind.i64.wrap ((s11.get i11) + (a2.get i11)))] (A8.enc .i64 (s11.set i11 (IntKind.i64.wrap ((s11.get i11) + (a2.get i11))))) rfl sc3.size rfl rfl rfl rfl rfl hi11 (A8.enc_set _ _ _ hi11) fun w18 hC => done ?_)))))))))
   refine Zw (Zt (Zd (Zk (Zq rfl rfl (Zb (v := .int .i64 (IntKind.i64.wrap ((i11 : Int) + 1))) rfl (done ?_))))))
   exact hK12 (s11.set i11 (IntKind.i64.wrap ((s11.get i11) + (a2.get i11)))) _ _ ⟨(sl ⟨rfl, rfl, rfl, rfl, (tr rfl (congrArg _ (Yi hi11 (by decide)))), trivial⟩), hC⟩ h
  ·clear hC h
   rintro s11 e_ w19 K11 ⟨hS_, hC⟩ h
   rw [ue hS_]
   refine sr (Zs rfl rfl (dn (wp_seq (Yj rfl (decide_eq_false (by omega)) ?_))))
   refine wp_exit (Zl (Zl (Yc ?_)))
   refine Zd (wp_seq (sr (Zb (v := .int .i64 s12) rfl (Jk rfl rfl (by decide) (Jl rfl rfl (dn ?_))))))
   refine Zr rfl (fun hb15 => ?_) (fun hb15 => ?_)
   ·replace h := ift h (ct hb15)
    refine sr (Ys hC 2 (A8.enc .i64 s11) rfl ag101 rfl rfl rfl (Zu (v := .agg (List.toArray (A8.enc .i64 s11))) hC 0 (A8.enc .i64 s11) (A8.enc .i64 s11) rfl ag101.size rfl rfl rfl rfl rfl (Nat.le_of_ble_eq_true rfl) rfl fun w20 hC => Zc (v := .int .i64 (-1)) rfl (dn ?_)))
    refine wp_ret (Zj ?_)
    refine Jn (fn := Try.f80) rfl ?_ ?_ ⟨s11, (-1), rfl, h, hC.below⟩ (.inl rfl)
    ·exact J3 hC 0 rfl ag101 rfl rfl
    ·exact Zh rfl
   ·replace h := Zi h (cf hb15)
    refine wp_skip (Zd (sr (Ys hC 2 (A8.enc .i64 s11) rfl ag101 rfl rfl rfl (Zu (v := .agg (List.toArray (A8.enc .i64 s11))) hC 0 (A8.enc .i64 s11) (A8.enc .i64 s11) rfl ag101.size rfl rfl rfl rfl rfl (Nat.le_of_ble_eq_true rfl) rfl fun w21 hC => Zc (v := .int .i64 1) rfl (dn (wp_ret ?_))))))
    refine Jn (fn := Try.f80) rfl ?_ ?_ ⟨s11, 1, rfl, h, hC.below⟩ (.inl rfl)
    ·exact J3 hC 0 rfl ag101 rfl rfl
    ·exact Zh rfl
  ·skip
   exact ⟨(sl ⟨rfl, rfl, rfl, rfl, rfl, trivial⟩), hC⟩
 ·skip
  exact ⟨(sl ⟨rfl, rfl, rfl, rfl, rfl, rfl, rfl, rfl, trivial⟩), hC⟩
def Zdp (a0 : List (A8 × Int)) (a1 : A8) (a2 : Int) (K : List (A8 × Int) → Prop) : Prop :=
 Zaa (IntKind.i64.wrap (((Xm a0 a1).getD 0) + a2)) (fun r8 => (if r8 ≠ 0 then K (Zy a0 a1 r8) else K (Ji a0 a1)))
theorem Zl2 (a0 : List (A8 × Int)) (a1 : A8) (a2 : Int) {b0 : Nat} {K : List (A8 × Int) → Prop} (h : Zdp a0 a1 a2 K) (w0 : World) (q0 : (Ze (kvA .i64) (vvI .i64) b0 a0).holds w0) :
  Calls Try.prog 160 #[.map (some b0), .agg (List.toArray (A8.enc .i64 a1)), .int .i64 a2] w0 fun e w' => ∃ (m0 : List (A8 × Int)), 
   e = .returned (.tuple #[]) ∧ K m0 ∧ (Ze (kvA .i64) (vvI .i64) b0 m0).holds w' ∧ BelB b0 w0 w' := by
 unfold Zdp at h
 refine Z6 (args := [.map (some b0), .agg (List.toArray (A8.enc .i64 a1)), .int .i64 a2]) Try.func160 rfl 20 Try.ntmps160 (Nat.le_of_ble_eq_true rfl) ?_
 have hC := Ctx.start1 w0 b0 (it := Ze (kvA .i64) (vvI .i64) b0 a0) rfl [] q0 (by simp) (by simp)
 refine sr (Ye (v := .agg (List.toArray (A8.enc .i64 a1))) hC (A8.enc .i64 a1) rfl rfl fun b2 w4 hB_ hC => dn (sr (Zb (v := .map (some b0)) rfl (Ys hC 0 (A8.enc .i64 a1) rfl ag101 rfl rfl rfl (Zol a1 0 (hC.getM 1 rfl) Yx Try.underlying99 z2 rfl rfl (Zb (v := .int .i64 a2) rfl (Zq rfl rfl ?_)))))))
 refine Zf [.int .i64 (IntKind.i64.wrap (((Xm a0 a1).getD 0) + a2))] _ Try.func159 rfl rfl rfl (Zhf (IntKind.i64.wrap (((Xm a0 a1).getD 0) + a2)) h _) (fun ret5 w7 hR6 => ?_)
 obtain ⟨r8, rfl, h, hB9⟩ := hR6
 refine ⟨_, rfl, ?_⟩
 replace hC := hC.grow hB9
 refine Zc (v := .int .i64 r8) rfl (dn (sr (Zb (v := .int .i64 r8) rfl (Xj rfl rfl (dn ?_)))))
 refine Zr rfl (fun hb10 => ?_) (fun hb10 => ?_)
 ·replace h := ift h (ct hb10)
  refine Zk (Zb (v := .map (some b0)) rfl (Ys hC 0 (A8.enc .i64 a1) rfl ag101 rfl rfl rfl (Zb (v := .int .i64 r8) rfl ?_)))
  refine Ziq hC 1 a1 r8 rfl Yx Try.underlying99 rfl rfl rfl (fun w10 hC => ?_) (.inl rfl)
  refine done ?_
  refine Zb2 (fn := Try.f160) rfl  ⟨Zy a0 a1 r8, rfl, h, (hC.getM 1 rfl), hC.belB⟩ (.inr rfl)
 ·replace h := Zi h (cf hb10)
  refine Zk (Zb (v := .map (some b0)) rfl (Ys hC 0 (A8.enc .i64 a1) rfl ag101 rfl rfl rfl (Zok hC 1 a1 rfl Yx Try.underlying99 rfl rfl rfl fun w11 hC => done ?_)))
  refine Zb2 (fn := Try.f160) rfl  ⟨Ji a0 a1, rfl, h, (hC.getM 1 rfl), hC.belB⟩ (.inr rfl)
def Zc1 (a0 : Vc.Form) (K : List (A8 × Int) → Prop) : Prop :=
 Yy (fun i10 (s10 : (List (A8 × Int))) nx10 => Zcb ((a0.terms.getD i10 default).mono) (fun r10 => nx10 (Zy s10 r10 ((a0.terms.getD i10 default).factor)))) (fun (s10 : (List (A8 × Int))) => K s10) a0.terms.length 0 ([] : List (A8 × Int))
theorem Zje (a0 : Vc.Form) {u0_0 : Value} {fp0 : List Nat} {K : List (A8 × Int) → Prop} (h : Zc1 a0 K) (w0 : World) (q0 : TForm.rep a0 [u0_0] fp0 w0) :
  Calls Try.prog 140 #[.agg #[u0_0]] w0 fun e w' => ∃ (r0 : List (A8 × Int)) (zb0 : Nat), 
   e = .returned (.map (some zb0)) ∧ K r0 ∧ (Ze (kvA .i64) (vvI .i64) zb0 r0).holds w' ∧ w0.heap.size ≤ zb0 ∧ Bel w0 w' := by
 unfold Zc1 at h
 refine Z6 (args := [.agg #[u0_0]]) Try.func140 rfl 22 Try.ntmps140 (Nat.le_of_ble_eq_true rfl) ?_
 have hC := Ctx.start (X := Nox) w0 [Ty.item TForm a0 [u0_0] fp0] (by simp only [List.mem_cons, List.not_mem_nil, or_false, forall_eq_or_imp, forall_eq]; exact q0)
 have hp2 := (hC.getP 0 rfl)
 replace hC := hC.derive 0 rfl (Ty.item ETerm.ty.sl a0.terms [u0_0] fp0) (fun _ => (Xb hp2)) (fun _ hb_ => hb_)
 refine sr (Ye (v := .agg #[u0_0]) hC [u0_0] rfl rfl fun b4 w6 hB_ hC => Zc (v := .map none) rfl (dn (sr (Zen hC (kvA .i64) (vvI .i64) fun b7 w9 hB_ hC => Zc (v := .map (some b7)) rfl (dn (wp_seq (sr (Z1 0 Try.underlying95 rfl sc93.size rfl rfl (Z8 hC 1 (u0_0) rfl sc93 rfl rfl ?_)))))))))
 obtain ⟨Ad10, c10, hv11⟩ := Z2 (hC.getP 0 rfl)
 refine Z0 Try.underlying93 (tr rfl hv11) (Zb (v := .int .i64 0) rfl (dn (wp_block ?_)))
 have hN10 : a0.terms.length ≤ 9223372036854775807 := Xv (hC.getP 0 rfl)
 refine Y6 (S := (List (A8 × Int))) _ _ (fun i10 s10 e_ w_ => Z4 e_ [(3, .map (some b7)), (8, u0_0), (9, .int .i64 (a0.terms.length : Int)), (10, .int .i64 (i10 : Int))] ∧ Ctx Nox w0 w_ [Ze (kvA .i64) (vvI .i64) b7 s10] [Ty.item ETerm.ty.sl a0.terms [u0_0] fp0, Ty.item TForm a0 [u0_0] fp0]) a0.terms.length ?_ ?_ (s0 := ([] : List (A8 × Int))) ?_ h
 ·clear hC h
  rintro i10 s10 e_ w10 nx10 K10 hi10 ⟨hS_, hC⟩ h hK10
  rw [ue hS_]
  refine sr (Zs rfl rfl (dn (wp_seq (Yq rfl (decide_eq_true (by omega)) (wp_skip (Zd (wp_seq (wp_block (sr ?_)))))))))
  obtain ⟨Ad11, c11, hv10⟩ := Z9 (hC.getP 0 rfl) i10 hi10
  refine Xe (len := a0.terms.length) Try.underlying93 ag114.size (tr rfl hv10) rfl (Int.natCast_nonneg _) (Int.ofNat_lt.2 hi10) (Zak (Term.enc (a0.terms.getD i10 default)) (Yk (hC.getP 0 rfl) hv10 i10 hi10) ag114 rfl rfl (Yf hC (Term.enc (⟨A8.zero, 0⟩ : Term)) Zdn rfl fun b10 w11 hB_ hC => Zu (v := .agg (List.toArray (Term.enc (a0.terms.getD i10 default)))) hC 0 (Term.enc (a0.terms.getD i10 default)) (Term.enc (a0.terms.getD i10 default)) rfl ag114.size rfl rfl rfl rfl rfl (Nat.le_of_ble_eq_true rfl) rfl fun w12 hC => dn ?_))
  refine Ym 6 Yg [0, 0, 2, 6, 0, 16, 63] [2, 5] [0, 1, 4] (by kernel_rfl) (by kernel_rfl) (by kernel_rfl) (fun hM11 hM10 w13 hB_ => ?_)
  replace hC := hC.grow hB_
  refine aF 0 (.map (some b7)) rfl rfl (hM10 0 rfl) (rfl) (fun _ => by exact Zg (v := .map (some b7)) rfl) (Za 7 1) (aF 1 (.pointer (some ⟨b10, 0, none⟩)) rfl rfl (hM10 1 rfl) (rfl) (fun _ => by exact Z7 0 Try.underlying114 rfl ag49.size rfl rfl) (Za 7 3) (aL 2 (.agg (List.toArray (A8.enc .u8 ((a0.terms.getD i10 default).mono)))) rfl rfl (hM11 2 rfl) (rfl) (fun _ hB_ => by exact Yu (hC.grow hB_) 0 (A8.enc .u8 ((a0.terms.getD i10 default).mono)) rfl ag49 rfl rfl rfl) (Za 7 7) (aF 4 (.pointer (some ⟨b10, 8, none⟩)) rfl rfl (hM10 4 rfl) (rfl) (fun _ => by exact Z7 8 Try.underlying114 rfl sc2.size rfl rfl) (Za 7 23) (aL 5 (.int .i64 ((a0.terms.getD i10 default).factor)) rfl rfl (hM11 5 rfl) (rfl) (fun _ hB_ => by exact Z5 (hC.grow hB_) 0 (.int .i64 ((a0.terms.getD i10 default).factor)) rfl sc2 rfl rfl) (Za 7 55) (aO 3 rfl ?_)))))
  refine Zf [.agg (List.toArray (A8.enc .u8 ((a0.terms.getD i10 default).mono)))] _ Try.func79 rfl rfl rfl (Zhg ((a0.terms.getD i10 default).mono) h _) (fun ret10 w14 hR10 => ?_)
  obtain ⟨r10, rfl, h, hB10⟩ := hR10
  refine ⟨_, rfl, ?_⟩
  replace hC := hC.grow hB10
  refine done (aK (by assumption) (Za 7 63) (Zv 6 (by decide) (by decide) (by kernel_rfl) (by kernel_rfl) rfl ?_))
  refine Ziq hC 1 r10 ((a0.terms.getD i10 default).factor) rfl Yx Try.underlying99 rfl rfl rfl (fun w15 hC => ?_) (.inl rfl)
  refine done (Zw (Zt (Zd (Zk (Zq rfl rfl (Zb (v := .int .i64 (IntKind.i64.wrap ((i10 : Int) + 1))) rfl (done ?_)))))))
  replace hC := hC.sM [1] (M' := [Ze (kvA .i64) (vvI .i64) b7 (Zy s10 r10 ((a0.terms.getD i10 default).factor))]) (by decide) rfl
  exact hK10 (Zy s10 r10 ((a0.terms.getD i10 default).factor)) _ _ ⟨(sl ⟨rfl, rfl, rfl, (tr rfl (congrArg _ (Yi hi10 hN10))), trivial⟩), hC⟩ h
 ·clear hC h
  rintro s10 e_ w16 K10 ⟨hS_, hC⟩ h
  rw [ue hS_]
  refine sr (Zs rfl rfl (dn (wp_seq (Yj rfl (decide_eq_false (by omega)) ?_))))
  refine wp_exit (Zl (Zl (Yc ?_)))
  refine Zd (sr (Zb (v := .map (some b7)) rfl (Zc (v := .map (some b7)) rfl (dn (wp_ret ?_)))))
  refine Zo (fn := Try.f140) rfl ?_ ⟨s10, b7, rfl, h, (hC.getM 0 rfl), (Zem hC 0 rfl), hC.below⟩ (.inl rfl)
  exact Zh rfl
 ·skip
  replace hC := hC.sM [0] (M' := [Ze (kvA .i64) (vvI .i64) b7 ([] : List (A8 × Int))]) (by decide) rfl
  exact ⟨(sl ⟨rfl, rfl, rfl, rfl, trivial⟩), hC⟩
def Zhh (a0 : A8) (a1 : A8) (K : Int → Prop) : Prop :=
 Yy (fun i10 (s10 : Unit) nx10 => (if a0.get i10 ≠ a1.get i10 then K (IntKind.i64.wrap ((a1.get i10) - (a0.get i10))) else nx10 ())) (fun (s10 : Unit) => K 0) 8 0 ()
theorem Zqo (a0 : A8) (a1 : A8)  {K : Int → Prop} (h : Zhh a0 a1 K) (w0 : World)  :
  Calls Try.prog 142 #[.agg (List.toArray (A8.enc .i64 a0)), .agg (List.toArray (A8.enc .i64 a1))] w0 fun e w' => ∃ (r0 : Int), 
   e = .returned (.int .i64 r0) ∧ K r0 ∧ Bel w0 w' := by
 unfold Zhh at h
 refine Z6 (args := [.agg (List.toArray (A8.enc .i64 a0)), .agg (List.toArray (A8.enc .i64 a1))]) Try.func142 rfl 24 Try.ntmps142 (Nat.le_of_ble_eq_true rfl) ?_
 have hC := Ctx.start (X := Nox) w0 [] (by simp)
 refine sr (Ye (v := .agg (List.toArray (A8.enc .i64 a0))) hC (A8.enc .i64 a0) rfl rfl fun b1 w3 hB_ hC => Ye (v := .agg (List.toArray (A8.enc .i64 a1))) hC (A8.enc .i64 a1) rfl rfl fun b4 w6 hB_ hC => Zc (v := .int .i64 0) rfl (dn (wp_seq (sr (Zb (v := .int .i64 0) rfl (dn (wp_block ?_)))))))
 refine Y6 (S := Unit) _ _ (fun i10 s10 e_ w_ => Z4 e_ [(2, .pointer (some ⟨b1, 0, none⟩)), (3, .pointer (some ⟨b4, 0, none⟩)), (6, .int .i64 (i10 : Int))] ∧ Ctx Nox w0 w_ [blk b4 101 (A8.enc .i64 a1), blk b1 101 (A8.enc .i64 a0)] []) 8 ?_ ?_ (s0 := ()) ?_ h
 ·clear hC h
  rintro i10 s10 e_ w10 nx10 K10 hi10 ⟨hS_, hC⟩ h hK10
  rw [ue hS_]
  refine sr (Zs rfl rfl (dn (wp_seq (Yq rfl (decide_eq_true (by omega)) (wp_skip (Zd (wp_seq (wp_block (sr (Zb (v := .int .i64 (i10 : Int)) rfl (Zc (v := .int .i64 (i10 : Int)) rfl ?_)))))))))))
  refine dn (wp_seq ?_)
  refine Ym 6 Yg [0, 1, 3, 0, 8, 24, 63] [1, 2, 4, 5] [0, 3] (by kernel_rfl) (by kernel_rfl) (by kernel_rfl) (fun hM10 hM12 w11 hB_ => ?_)
  replace hC := hC.grow hB_
  refine aF 0 (.int .i64 (i10 : Int)) rfl rfl (hM12 0 rfl) (rfl) (fun _ => by exact Zg (v := .int .i64 (i10 : Int)) rfl) (Za 7 1) (aL 1 (.pointer (some ⟨b1, i10, none⟩)) rfl rfl (hM10 1 rfl) (rfl) (fun _ hB_ => by exact Jy i10 Try.underlying101 sc3.size rfl rfl (Int.natCast_nonneg _) (by omega) (by omega)) (Za 7 3) (aL 2 (.int .i64 (a0.get i10)) rfl rfl (hM10 2 rfl) (rfl) (fun _ hB_ => by exact Z5 (hC.grow hB_) 1 (.int .i64 (a0.get i10)) rfl sc3 rfl (A8.enc_get _ _ hi10)) (Za 7 7) (aF 3 (.int .i64 (i10 : Int)) rfl rfl (hM12 3 rfl) (rfl) (fun _ => by exact Zg (v := .int .i64 (i10 : Int)) rfl) (Za 7 15) (aL 4 (.pointer (some ⟨b4, i10, none⟩)) rfl rfl (hM10 4 rfl) (rfl) (fun _ hB_ => by exact Jy i10 Try.underlying101 sc3.size rfl rfl (Int.natCast_nonneg _) (by omega) (by omega)) (Za 7 31) (aL 5 (.int .i64 (a1.get i10)) rfl rfl (hM10 5 rfl) (rfl) (fun _ hB_ => by exact Z5 (hC.grow hB_) 0 (.int .i64 (a1.get i10)) rfl sc3 rfl (A8.enc_get _ _ hi10)) (Za 7 63) (Zv 6 (by decide) (by decide) (by kernel_rfl) (by kernel_rfl) rfl (Xj rfl rfl (done (Zw (Zd ?_))))))))))
  refine Zr rfl (fun hb10 => ?_) (fun hb10 => ?_)
  ·replace h := ift h (ct hb10)
   refine wp_seq ?_
   refine Ym 6 Yg [0, 1, 3, 0, 8, 24, 63, 127] [1, 2, 4, 5] [0, 3] (by kernel_rfl) (by kernel_rfl) (by kernel_rfl) (fun hM11 hM13 w12 hB_ => ?_)
   replace hC := hC.grow hB_
   refine aF 0 (.int .i64 (i10 : Int)) rfl rfl (hM13 0 rfl) (rfl) (fun _ => by exact Zg (v := .int .i64 (i10 : Int)) rfl) (Za 8 1) (aL 1 (.pointer (some ⟨b4, i10, none⟩)) rfl rfl (hM11 1 rfl) (rfl) (fun _ hB_ => by exact Jy i10 Try.underlying101 sc3.size rfl rfl (Int.natCast_nonneg _) (by omega) (by omega)) (Za 8 3) (aL 2 (.int .i64 (a1.get i10)) rfl rfl (hM11 2 rfl) (rfl) (fun _ hB_ => by exact Z5 (hC.grow hB_) 0 (.int .i64 (a1.get i10)) rfl sc3 rfl (A8.enc_get _ _ hi10)) (Za 8 7) (aF 3 (.int .i64 (i10 : Int)) rfl rfl (hM13 3 rfl) (rfl) (fun _ => by exact Zg (v := .int .i64 (i10 : Int)) rfl) (Za 8 15) (aL 4 (.pointer (some ⟨b1, i10, none⟩)) rfl rfl (hM11 4 rfl) (rfl) (fun _ hB_ => by exact Jy i10 Try.underlying101 sc3.size rfl rfl (Int.natCast_nonneg _) (by omega) (by omega)) (Za 8 31) (aL 5 (.int .i64 (a0.get i10)) rfl rfl (hM11 5 rfl) (rfl) (fun _ hB_ => by exact Z5 (hC.grow hB_) 1 (.int .i64 (a0.get i10)) rfl sc3 rfl (A8.enc_get _ _ hi10)) (Za 8 63) (Zv 6 (by decide) (by decide) (by kernel_rfl) (by kernel_rfl) rfl (J5 rfl rfl (Zc (v := .int .i64 (IntKind.i64.wrap ((a1.get i10) - (a0.get i10)))) rfl (done (Zw (Zd ?_)))))))))))
   refine wp_ret (Yd (Zj (Zj (Yd (Zj ?_)))))
   refine Zo (fn := Try.f142) rfl ?_ ⟨IntKind.i64.wrap ((a1.get i10) - (a0.get i10)), rfl, h, hC.below⟩ (.inl rfl)
   exact Zh rfl
  ·replace h := Zi h (cf hb10)
   refine wp_skip (Zt (Zd (Zk (Zq rfl rfl (Zb (v := .int .i64 (IntKind.i64.wrap ((i10 : Int) + 1))) rfl (done ?_))))))
   exact hK10 () _ _ ⟨(sl ⟨rfl, rfl, (tr rfl (congrArg _ (Yi hi10 (by decide)))), trivial⟩), hC⟩ h
 ·clear hC h
  rintro s10 e_ w13 K10 ⟨hS_, hC⟩ h
  rw [ue hS_]
  refine sr (Zs rfl rfl (dn (wp_seq (Yj rfl (decide_eq_false (by omega)) ?_))))
  refine wp_exit (Zl (Zl (Yc ?_)))
  refine Zd (sr (Zc (v := .int .i64 0) rfl (dn (wp_ret ?_))))
  refine Zo (fn := Try.f142) rfl ?_ ⟨0, rfl, h, hC.below⟩ (.inl rfl)
  exact Zh rfl
 ·skip
  exact ⟨(sl ⟨rfl, rfl, rfl, trivial⟩), hC⟩
def Zab (a0 : List (A8 × Int)) (a1 : List (A8 × Int)) (a2 : Int) (K : List (A8 × Int) → Prop) : Prop :=
 Zbd (fun (q10 : A8 × Int) (s10 : (List (A8 × Int))) nx10 => Zdp s10 q10.1 (Int.tmod (IntKind.i64.wrap (q10.2 * a2)) 10007) (fun m10 => nx10 m10)) (fun (s10 : (List (A8 × Int))) => K s10) a1.length a1 a0
theorem Zhi (a0 : List (A8 × Int)) (a1 : List (A8 × Int)) (a2 : Int) {b0 : Nat} {b1 : Nat} {K : List (A8 × Int) → Prop} (h : Zab a0 a1 a2 K) (w0 : World) (q0 : (Ze (kvA .i64) (vvI .i64) b0 a0).holds w0) (d1 : ∀ c, c ∈ [b1] → c ≠ b0) (q1 : (Ze (kvA .i64) (vvI .i64) b1 a1).holds w0) :
  Calls Try.prog 143 #[.map (some b0), .map (some b1), .int .i64 a2] w0 fun e w' => ∃ (m0 : List (A8 × Int)), 
   e = .returned (.tuple #[]) ∧ K m0 ∧ (Ze (kvA .i64) (vvI .i64) b0 m0).holds w' ∧ BelB b0 w0 w' := by
 unfold Zab at h
 refine Z6 (args := [.map (some b0), .map (some b1), .int .i64 a2]) Try.func143 rfl 22 Try.ntmps143 (Nat.le_of_ble_eq_true rfl) ?_
 have hC := Ctx.start1 w0 b0 (it := Ze (kvA .i64) (vvI .i64) b0 a0) rfl [Ze (kvA .i64) (vvI .i64) b1 a1] q0 (by simp only [List.mem_cons, List.not_mem_nil, or_false, forall_eq_or_imp, forall_eq]; exact q1) (by simp only [List.mem_cons, List.not_mem_nil, or_false, forall_eq_or_imp, forall_eq]; exact d1)
 refine sr (Zb (v := .map (some b1)) rfl (Zeo hC 0 rfl Try.underlying99 rfl fun r3 es4 ck5 w10 hB_ hn6 hbn7 hC => dn (wp_block ?_)))
 refine Zes (S := (List (A8 × Int))) _ _ (fun l11 s10 e_ w_ => ∃ (la10 : Option MapEntry), Z4 e_ [(0, .map (some b0)), (2, .int .i64 a2), (9, .pointer (some ⟨r3, 0, none⟩))] ∧ Ctx (fun c_ => c_ = b0) w0 w_ [itI (kvA .i64) (vvI .i64) r3 b1 es4 ck5 la10 l11, Ze (kvA .i64) (vvI .i64) b0 s10] [Y0 b1 es4 ck5, Ze (kvA .i64) (vvI .i64) b1 a1]) ?_ (l0 := a1) (s0 := a0) ?_ h
 ·clear hC h
  rintro l11 s10 e_ w11 nx10 K10 ⟨la10, hS_, hC⟩ h hK10
  rw [ue hS_]
  refine sr ?_
  refine Zep hC 0 0 rfl rfl hn6 hbn7 rfl (fun hr10 => ?_) (fun q10 l10 ent10 w12 hp10 hk10 hv10 hC => ?_)
  ·replace h := h.1 hr10
   refine Xd (v := .bool false) rfl rfl (dn (wp_seq (Yj rfl rfl ?_)))
   refine wp_exit (Zl (Zl (Yc ?_)))
   refine Zb2 (fn := Try.f143) rfl  ⟨s10, rfl, h, (hC.getM 1 rfl), hC.belB⟩ (.inr rfl)
  ·replace h := h.2 q10 l10 hp10
   refine Xd (v := .bool true) rfl rfl (dn (wp_seq (Yq rfl rfl (wp_skip (Zd (wp_block (sr (Zeq hC 0 0 q10 rfl rfl hn6 rfl hk10 hv10 (Xd (v := .agg (List.toArray (A8.enc .i64 q10.1))) rfl rfl (Xd (v := .int .i64 q10.2) rfl rfl (Yf hC (A8.enc .i64 A8.zero) Jt rfl fun b10 w13 hB_ hC => ?_)))))))))))
   refine Zu (v := .agg (List.toArray (A8.enc .i64 q10.1))) hC 0 (A8.enc .i64 q10.1) (A8.enc .i64 q10.1) rfl ag101.size rfl rfl rfl rfl rfl (Nat.le_of_ble_eq_true rfl) rfl fun w14 hC => Zc (v := .int .i64 q10.2) rfl (dn (Zk (Zb (v := .map (some b0)) rfl (Ys hC 0 (A8.enc .i64 q10.1) rfl ag101 rfl rfl rfl (Zb (v := .int .i64 q10.2) rfl (Zb (v := .int .i64 a2) rfl (Zad rfl rfl (Jk rfl rfl (by decide) ?_))))))))
   refine Zf [.map (some b0), .agg (List.toArray (A8.enc .i64 q10.1)), .int .i64 (Int.tmod (IntKind.i64.wrap (q10.2 * a2)) 10007)] _ Try.func160 rfl rfl rfl (Zl2 s10 q10.1 (Int.tmod (IntKind.i64.wrap (q10.2 * a2)) 10007) h _ (hC.getM 2 rfl)) (fun ret10 w15 hR10 => ?_)
   obtain ⟨m10, rfl, h, hm10, hB10⟩ := hR10
   refine ⟨_, rfl, ?_⟩
   replace hC := hC.turnB 2 rfl hB10 rfl rfl hm10
   refine done (Zt ?_)
   replace hC := hC.sM [1, 2] (M' := [itI (kvA .i64) (vvI .i64) r3 b1 es4 ck5 (some ent10) l10, Ze (kvA .i64) (vvI .i64) b0 m10]) (by decide) rfl
   exact hK10 q10 l10 m10 _ _ hp10 ⟨(some ent10), (sl ⟨rfl, rfl, rfl, trivial⟩), hC⟩ h
 ·skip
  exact ⟨none, (sl ⟨rfl, rfl, rfl, trivial⟩), hC⟩
def X4 (a0 : List (A8 × Int)) (a1 : List Int) (a2 : List (A8 × Int)) (K : List (A8 × Int) → Prop) : Prop :=
 Zbd (fun (q10 : A8 × Int) (s11 : (List (A8 × Int))) nx11 => Zbd (fun (q11 : A8 × Int) (s10 : (List (A8 × Int))) nx10 => Zfb q10.1 a1 q11.1 (fun r10 r11 => (if r11 ≠ 0 then Zdp s10 r10 (Int.tmod (IntKind.i64.wrap ((IntKind.i64.wrap (r11 * q10.2)) * q11.2)) 10007) (fun m10 => nx10 m10) else nx10 s10))) (fun (s10 : (List (A8 × Int))) => nx11 s10) a2.length a2 s11) (fun (s11 : (List (A8 × Int))) => K s11) a0.length a0 ([] : List (A8 × Int))
theorem Yr (a0 : List (A8 × Int)) (a1 : List Int) (a2 : List (A8 × Int)) {b0 : Nat} {b2 : Nat} {u1_0 : Value} {fp1 : List Nat} {K : List (A8 × Int) → Prop} (h : X4 a0 a1 a2 K) (w0 : World) (q0 : (Ze (kvA .i64) (vvI .i64) b0 a0).holds w0) (q1 : ((EI .i64).ty.sl).rep a1 [u1_0] fp1 w0) (q2 : (Ze (kvA .i64) (vvI .i64) b2 a2).holds w0) :
  Calls Try.prog 158 #[.map (some b0), u1_0, .map (some b2)] w0 fun e w' => ∃ (r0 : List (A8 × Int)) (zb0 : Nat), 
   e = .returned (.map (some zb0)) ∧ K r0 ∧ (Ze (kvA .i64) (vvI .i64) zb0 r0).holds w' ∧ w0.heap.size ≤ zb0 ∧ Bel w0 w' := by
 unfold X4 at h
 refine Z6 (args := [.map (some b0), u1_0, .map (some b2)]) Try.func158 rfl 48 Try.ntmps158 (Nat.le_of_ble_eq_true rfl) ?_
 have hC := Ctx.start (X := Nox) w0 [Ty.item ((EI .i64).ty.sl) a1 [u1_0] fp1, Ze (kvA .i64) (vvI .i64) b0 a0, Ze (kvA .i64) (vvI .i64) b2 a2] (by simp only [List.mem_cons, List.not_mem_nil, or_false, forall_eq_or_imp, forall_eq]; exact ⟨q1, q0, q2⟩)
 refine sr (Zc (v := .map none) rfl (dn (sr (Zen hC (kvA .i64) (vvI .i64) fun b4 w6 hB_ hC => Zc (v := .map (some b4)) rfl (dn (wp_seq (sr (Zb (v := .map (some b0)) rfl (Zeo hC 1 rfl Try.underlying99 rfl fun r7 es8 ck9 w10 hB_ hn10 hbn10 hC => dn ?_)))))))))
 refine wp_block ?_
 refine Zes (S := (List (A8 × Int))) _ _ (fun l12 s11 e_ w_ => ∃ (la10 : Option MapEntry), Z4 e_ [(1, u1_0), (2, .map (some b2)), (7, .map (some b4)), (16, .pointer (some ⟨r7, 0, none⟩))] ∧ Ctx Nox w0 w_ [itI (kvA .i64) (vvI .i64) r7 b0 es8 ck9 la10 l12, Ze (kvA .i64) (vvI .i64) b4 s11] [Y0 b0 es8 ck9, Ty.item ((EI .i64).ty.sl) a1 [u1_0] fp1, Ze (kvA .i64) (vvI .i64) b0 a0, Ze (kvA .i64) (vvI .i64) b2 a2]) ?_ (l0 := a0) (s0 := ([] : List (A8 × Int))) ?_ h
 ·clear hC h
  rintro l12 s11 e_ w11 nx11 K10 ⟨la10, hS_, hC⟩ h hK11
  rw [ue hS_]
  refine sr ?_
  refine Zep hC 0 0 rfl rfl hn10 hbn10 rfl (fun hr10 => ?_) (fun q10 l10 ent10 w12 hp11 hk10 hv10 hC => ?_)
  ·replace h := h.1 hr10
   refine Xd (v := .bool false) rfl rfl (dn (wp_seq (Yj rfl rfl ?_)))
   refine wp_exit (Zl (Zl (Yc ?_)))
   refine Zd (sr (Zb (v := .map (some b4)) rfl (Zc (v := .map (some b4)) rfl (dn (wp_ret ?_)))))
   refine Zo (fn := Try.f158) rfl ?_ ⟨s11, b4, rfl, h, (hC.getM 1 rfl), (Zem hC 1 rfl), hC.below⟩ (.inl rfl)
   exact Zh rfl
  ·replace h := h.2 q10 l10 hp11
   refine Xd (v := .bool true) rfl rfl (dn (wp_seq (Yq rfl rfl (wp_skip (Zd (wp_block (sr (Zeq hC 0 0 q10 rfl rfl hn10 rfl hk10 hv10 (Xd (v := .agg (List.toArray (A8.enc .i64 q10.1))) rfl rfl (Xd (v := .int .i64 q10.2) rfl rfl (Yf hC (A8.enc .i64 A8.zero) Jt rfl fun b10 w13 hB_ hC => ?_)))))))))))
   refine Zu (v := .agg (List.toArray (A8.enc .i64 q10.1))) hC 0 (A8.enc .i64 q10.1) (A8.enc .i64 q10.1) rfl ag101.size rfl rfl rfl rfl rfl (Nat.le_of_ble_eq_true rfl) rfl fun w14 hC => Zc (v := .int .i64 q10.2) rfl (dn (sr (Zb (v := .map (some b2)) rfl (Zeo hC 3 rfl Try.underlying99 rfl fun r12 es10 ck10 w15 hB_ hn11 hbn11 hC => dn (wp_block ?_)))))
   refine Zes (S := (List (A8 × Int))) _ _ (fun l13 s10 e_ w_ => ∃ (la11 : Option MapEntry), Z4 e_ [(1, u1_0), (2, .map (some b2)), (7, .map (some b4)), (8, .pointer (some ⟨b10, 0, none⟩)), (9, .int .i64 q10.2), (16, .pointer (some ⟨r7, 0, none⟩)), (23, .pointer (some ⟨r12, 0, none⟩))] ∧ Ctx Nox w0 w_ [itI (kvA .i64) (vvI .i64) r12 b2 es10 ck10 la11 l13, blk b10 101 (A8.enc .i64 q10.1), itI (kvA .i64) (vvI .i64) r7 b0 es8 ck9 (some ent10) l10, Ze (kvA .i64) (vvI .i64) b4 s10] [Y0 b2 es10 ck10, Y0 b0 es8 ck9, Ty.item ((EI .i64).ty.sl) a1 [u1_0] fp1, Ze (kvA .i64) (vvI .i64) b0 a0, Ze (kvA .i64) (vvI .i64) b2 a2]) ?_ (l0 := a2) (s0 := s11) ?_ h
   ·clear hC h
    rintro l13 s10 e_ w16 nx10 K11 ⟨la11, hS_, hC⟩ h hK10
    rw [ue hS_]
    refine sr ?_
    refine Zep hC 0 0 rfl rfl hn11 hbn11 rfl (fun hr11 => ?_) (fun q11 l11 ent11 w17 hp10 hk11 hv11 hC => ?_)
    ·replace h := h.1 hr11
     refine Xd (v := .bool false) rfl rfl (dn (wp_seq (Yj rfl rfl ?_)))
     refine wp_exit (Zl (Zl (Yc ?_)))
     refine Zt ?_
     replace hC := hC.sM [2, 3] (M' := [itI (kvA .i64) (vvI .i64) r7 b0 es8 ck9 (some ent10) l10, Ze (kvA .i64) (vvI .i64) b4 s10]) (by decide) rfl
     replace hC := hC.sP [1, 2, 3, 4] (Ps' := [Y0 b0 es8 ck9, Ty.item ((EI .i64).ty.sl) a1 [u1_0] fp1, Ze (kvA .i64) (vvI .i64) b0 a0, Ze (kvA .i64) (vvI .i64) b2 a2]) rfl
     exact hK11 q10 l10 s10 _ _ hp11 ⟨(some ent10), (sl ⟨rfl, rfl, rfl, rfl, trivial⟩), hC⟩ h
    ·replace h := h.2 q11 l11 hp10
     refine Xd (v := .bool true) rfl rfl (dn (wp_seq (Yq rfl rfl (wp_skip (Zd (wp_block (sr (Zeq hC 0 0 q11 rfl rfl hn11 rfl hk11 hv11 (Xd (v := .agg (List.toArray (A8.enc .i64 q11.1))) rfl rfl (Xd (v := .int .i64 q11.2) rfl rfl (Yf hC (A8.enc .i64 A8.zero) Jt rfl fun b11 w18 hB_ hC => ?_)))))))))))
     refine Zu (v := .agg (List.toArray (A8.enc .i64 q11.1))) hC 0 (A8.enc .i64 q11.1) (A8.enc .i64 q11.1) rfl ag101.size rfl rfl rfl rfl rfl (Nat.le_of_ble_eq_true rfl) rfl fun w19 hC => Zc (v := .int .i64 q11.2) rfl (dn (sr (Ys hC 2 (A8.enc .i64 q10.1) rfl ag101 rfl rfl rfl (Zb (v := u1_0) rfl (Ys hC 0 (A8.enc .i64 q11.1) rfl ag101 rfl rfl rfl ?_)))))
     refine Zf [.agg (List.toArray (A8.enc .i64 q10.1)), u1_0, .agg (List.toArray (A8.enc .i64 q11.1))] _ Try.func80 rfl rfl rfl (Zqn q10.1 a1 q11.1 h _ (hC.getP 2 rfl)) (fun ret10 w20 hR10 => ?_)
     obtain ⟨r10, r11, rfl, h, hB10⟩ := hR10
     refine ⟨_, rfl, ?_⟩
     replace hC := hC.grow hB10
     refine Zb (v := .tuple #[.agg (List.toArray (A8.enc .i64 r10)), .int .i64 r11]) rfl (Xd (v := .agg (List.toArray (A8.enc .i64 r10))) rfl rfl (Xd (v := .int .i64 r11) rfl rfl (Yf hC (A8.enc .i64 A8.zero) Jt rfl fun b12 w21 hB_ hC => Zu (v := .agg (List.toArray (A8.enc .i64 r10))) hC 0 (A8.enc .i64 r10) (A8.enc .i64 r10) rfl ag101.size rfl rfl rfl rfl rfl (Nat.le_of_ble_eq_true rfl) rfl fun w22 hC => Zc (v := .int .i64 r11) rfl (dn (sr (Zb (v := .int .i64 r11) rfl (Xj rfl rfl (dn ?_))))))))
     refine Zr rfl (fun hb10 => ?_) (fun hb10 => ?_)
     ·replace h := ift h (ct hb10)
      refine Zk (Zb (v := .map (some b4)) rfl (Ys hC 0 (A8.enc .i64 r10) rfl ag101 rfl rfl rfl (Zb (v := .int .i64 r11) rfl (Zb (v := .int .i64 q10.2) rfl (Zad rfl rfl (Zb (v := .int .i64 q11.2) rfl (Zad rfl rfl (Jk rfl rfl (by decide) ?_))))))))
      refine Zf [.map (some b4), .agg (List.toArray (A8.enc .i64 r10)), .int .i64 (Int.tmod (IntKind.i64.wrap ((IntKind.i64.wrap (r11 * q10.2)) * q11.2)) 10007)] _ Try.func160 rfl rfl rfl (Zl2 s10 r10 (Int.tmod (IntKind.i64.wrap ((IntKind.i64.wrap (r11 * q10.2)) * q11.2)) 10007) h _ (hC.getM 5 rfl)) (fun ret11 w23 hR11 => ?_)
      obtain ⟨m10, rfl, h, hm10, hB11⟩ := hR11
      refine ⟨_, rfl, ?_⟩
      replace hC := hC.turnB 5 rfl hB11 rfl rfl hm10
      refine done (Zt ?_)
      replace hC := hC.sM [2, 3, 4, 5] (M' := [itI (kvA .i64) (vvI .i64) r12 b2 es10 ck10 (some ent11) l11, blk b10 101 (A8.enc .i64 q10.1), itI (kvA .i64) (vvI .i64) r7 b0 es8 ck9 (some ent10) l10, Ze (kvA .i64) (vvI .i64) b4 m10]) (by decide) rfl
      exact hK10 q11 l11 m10 _ _ hp10 ⟨(some ent11), (sl ⟨rfl, rfl, rfl, rfl, rfl, rfl, rfl, trivial⟩), hC⟩ h
     ·replace h := Zi h (cf hb10)
      refine wp_skip (Zt ?_)
      replace hC := hC.sM [2, 3, 4, 5] (M' := [itI (kvA .i64) (vvI .i64) r12 b2 es10 ck10 (some ent11) l11, blk b10 101 (A8.enc .i64 q10.1), itI (kvA .i64) (vvI .i64) r7 b0 es8 ck9 (some ent10) l10, Ze (kvA .i64) (vvI .i64) b4 s10]) (by decide) rfl
      exact hK10 q11 l11 s10 _ _ hp10 ⟨(some ent11), (sl ⟨rfl, rfl, rfl, rfl, rfl, rfl, rfl, trivial⟩), hC⟩ h
   ·skip
    exact ⟨none, (sl ⟨rfl, rfl, rfl, rfl, rfl, rfl, rfl, trivial⟩), hC⟩
 ·skip
  exact ⟨none, (sl ⟨rfl, rfl, rfl, rfl, trivial⟩), hC⟩
def Zc2 (a0 : Int) (a1 : Int) (a2 : Int) (K : Bool → Prop) : Prop :=
 (if a0 ≥ a1 then K (decide (a0 ≤ a2)) else K false)
theorem Zjf (a0 : Int) (a1 : Int) (a2 : Int)  {K : Bool → Prop} (h : Zc2 a0 a1 a2 K) (w0 : World)  :
  Calls Try.prog 48 #[.int .i64 a0, .int .i64 a1, .int .i64 a2] w0 fun e w' => ∃ (r0 : Bool), 
   e = .returned (.bool r0) ∧ K r0 ∧ Bel w0 w' := by
 unfold Zc2 at h
 refine Z6 (args := [.int .i64 a0, .int .i64 a1, .int .i64 a2]) Try.func48 rfl 15 Try.ntmps48 (Nat.le_of_ble_eq_true rfl) ?_
 have hC := Ctx.start (X := Nox) w0 [] (by simp)
 refine sr (Zc (v := .bool false) rfl (dn (sr (Zb (v := .int .i64 a0) rfl (Zb (v := .int .i64 a1) rfl (Zai rfl rfl (Zb (v := .bool (decide (a0 ≥ a1))) rfl ?_)))))))
 refine Xa (decide (a0 ≥ a1)) (fun hb1 => ?_) (fun hb1 => ?_)
 ·replace h := ift h (ct hb1)
  refine Zm 3 10 rfl rfl hb1 (Zb (v := .int .i64 a0) rfl (Zm 3 10 rfl rfl hb1 (Zb (v := .int .i64 a2) rfl (Zm 3 10 rfl rfl hb1 (Zbi rfl rfl (Yb (v := .bool (decide (a0 ≤ a2))) (b := true) (tr rfl (congrArg _ hb1)) rfl (Zc (v := .bool (decide (a0 ≤ a2))) rfl (dn (wp_ret ?_)))))))))
  refine Zo (fn := Try.f48) rfl ?_ ⟨decide (a0 ≤ a2), rfl, h, hC.below⟩ (.inl rfl)
  exact Zh rfl
 ·replace h := Zi h (cf hb1)
  refine Zn (b := false) 3 10 rfl (tr rfl (congrArg _ hb1)) (by decide) (Zn (b := false) 3 10 rfl (tr rfl (congrArg _ hb1)) (by decide) (Zn (b := false) 3 10 rfl (tr rfl (congrArg _ hb1)) (by decide) (Yb (v := .bool false) (b := false) (tr rfl (congrArg _ hb1)) rfl (Zc (v := .bool false) rfl (dn (wp_ret ?_))))))
  refine Zo (fn := Try.f48) rfl ?_ ⟨false, rfl, h, hC.below⟩ (.inl rfl)
  exact Zh rfl
def Zhj (a0 : List Int) (p1 : Int → (Bool → Prop) → Prop) (K : Int → Prop) : Prop :=
 Yy (fun i10 (s10 : Unit) nx10 => p1 (a0.getD i10 default) (fun r10 => (if r10 = true then K (i10 : Int) else nx10 ()))) (fun (s10 : Unit) => K (-1)) a0.length 0 ()
theorem Zqp (a0 : List Int) (p1 : Int → (Bool → Prop) → Prop) {u0_0 : Value} {fp0 : List Nat} {K : Int → Prop} (h : Zhj a0 p1 K) (w0 : World) (q0 : ((EI .i64).ty.sl).rep a0 [u0_0] fp0 w0) {g1 : Nat} {cp1 : List Value} {fn1 : Func} (hf1 : Try.prog.funcs[g1]? = some fn1) (hb1 : fn1.body.isNone = false) (hn1 : (fn1.name == "runtime.NumGoroutine") = false) (hp1 : ∀ (y0 : Int) (K_ : Bool → Prop) (w_ : World), Bel w0 w_ → p1 y0 K_ → Calls Try.prog g1 (List.toArray ([.int .i64 y0] ++ cp1)) w_ fun e w' => ∃ (z0 : Bool), e = .returned (.bool z0) ∧ K_ z0 ∧ Bel w_ w') :
  Calls Try.prog 126 #[u0_0, .func (.func g1) #[] (List.toArray cp1)] w0 fun e w' => ∃ (r0 : Int), 
   e = .returned (.int .i64 r0) ∧ K r0 ∧ Bel w0 w' := by
 unfold Zhj at h
 refine Z6 (args := [u0_0, .func (.func g1) #[] (List.toArray cp1)]) Try.func126 rfl 19 Try.ntmps126 (Nat.le_of_ble_eq_true rfl) ?_
 have hC := Ctx.start (X := Nox) w0 [Ty.item ((EI .i64).ty.sl) a0 [u0_0] fp0] (by simp only [List.mem_cons, List.not_mem_nil, or_false, forall_eq_or_imp, forall_eq]; exact q0)
 refine sr (Zc (v := .int .i64 0) rfl (dn (wp_seq (sr (Zb (v := u0_0) rfl ?_)))))
 obtain ⟨Ad2, c3, hv4⟩ := Z2 (hC.getP 0 rfl)
 refine Z0 Try.underlying22 (tr rfl hv4) (Zb (v := .int .i64 0) rfl (dn (wp_block ?_)))
 have hN10 : a0.length ≤ 9223372036854775807 := Xv (hC.getP 0 rfl)
 refine Y6 (S := Unit) _ _ (fun i10 s10 e_ w_ => Z4 e_ [(0, u0_0), (1, .func (.func g1) #[] (List.toArray cp1)), (7, .int .i64 (a0.length : Int)), (8, .int .i64 (i10 : Int))] ∧ Ctx Nox w0 w_ [] [Ty.item ((EI .i64).ty.sl) a0 [u0_0] fp0]) a0.length ?_ ?_ (s0 := ()) ?_ h
 ·clear hC h
  rintro i10 s10 e_ w10 nx10 K10 hi10 ⟨hS_, hC⟩ h hK10
  rw [ue hS_]
  refine sr (Zs rfl rfl (dn (wp_seq (Yq rfl (decide_eq_true (by omega)) (wp_skip (Zd (wp_seq (wp_block (sr (Zb (v := .int .i64 (i10 : Int)) rfl (Zc (v := .int .i64 (i10 : Int)) rfl ?_)))))))))))
  refine dn (sr (Zb (v := .func (.func g1) #[] (List.toArray cp1)) rfl (Zb (v := u0_0) rfl (Zb (v := .int .i64 (i10 : Int)) rfl ?_))))
  obtain ⟨Ad10, c10, hv10⟩ := Z9 (hC.getP 0 rfl) i10 hi10
  refine Xe (len := a0.length) Try.underlying22 sc2.size (tr rfl hv10) rfl (Int.natCast_nonneg _) (Int.ofNat_lt.2 hi10) (X5 (.int .i64 (a0.getD i10 default)) (Yk (hC.getP 0 rfl) hv10 i10 hi10) sc2 rfl ?_)
  refine Zky [.int .i64 (a0.getD i10 default)] _ rfl hf1 hb1 hn1 rfl (hp1 _ _ _ hC.below  h) (fun ret10 w11 hR10 => ?_)
  obtain ⟨r10, rfl, h, hB10⟩ := hR10
  refine ⟨_, rfl, ?_⟩
  replace hC := hC.grow hB10
  refine dn ?_
  refine Zr rfl (fun hb10 => ?_) (fun hb10 => ?_)
  ·replace h := ift h (hb10)
   refine sr (Zb (v := .int .i64 (i10 : Int)) rfl (Zc (v := .int .i64 (i10 : Int)) rfl (dn ?_)))
   refine wp_ret (Yd (Zj (Zj (Yd (Zj ?_)))))
   refine Zo (fn := Try.f126) rfl ?_ ⟨(i10 : Int), rfl, h, hC.below⟩ (.inl rfl)
   exact Zh rfl
  ·replace h := Zi h (Xq hb10)
   refine wp_skip (Zt (Zd (Zk (Zq rfl rfl (Zb (v := .int .i64 (IntKind.i64.wrap ((i10 : Int) + 1))) rfl (done ?_))))))
   exact hK10 () _ _ ⟨(sl ⟨rfl, rfl, rfl, (tr rfl (congrArg _ (Yi hi10 hN10))), trivial⟩), hC⟩ h
 ·clear hC h
  rintro s10 e_ w12 K10 ⟨hS_, hC⟩ h
  rw [ue hS_]
  refine sr (Zs rfl rfl (dn (wp_seq (Yj rfl (decide_eq_false (by omega)) ?_))))
  refine wp_exit (Zl (Zl (Yc ?_)))
  refine Zd (sr (Zc (v := .int .i64 (-1)) rfl (dn (wp_ret ?_))))
  refine Zo (fn := Try.f126) rfl ?_ ⟨(-1), rfl, h, hC.below⟩ (.inl rfl)
  exact Zh rfl
 ·skip
  exact ⟨(sl ⟨rfl, rfl, rfl, rfl, trivial⟩), hC⟩
def Zhk (a0 : List Int) (p1 : Int → (Bool → Prop) → Prop) (K : Bool → Prop) : Prop :=
 Zhj a0 p1 (fun r5 => K (decide (r5 ≥ 0)))
theorem Zqq (a0 : List Int) (p1 : Int → (Bool → Prop) → Prop) {u0_0 : Value} {fp0 : List Nat} {K : Bool → Prop} (h : Zhk a0 p1 K) (w0 : World) (q0 : ((EI .i64).ty.sl).rep a0 [u0_0] fp0 w0) {g1 : Nat} {cp1 : List Value} {fn1 : Func} (hf1 : Try.prog.funcs[g1]? = some fn1) (hb1 : fn1.body.isNone = false) (hn1 : (fn1.name == "runtime.NumGoroutine") = false) (hp1 : ∀ (y0 : Int) (K_ : Bool → Prop) (w_ : World), Bel w0 w_ → p1 y0 K_ → Calls Try.prog g1 (List.toArray ([.int .i64 y0] ++ cp1)) w_ fun e w' => ∃ (z0 : Bool), e = .returned (.bool z0) ∧ K_ z0 ∧ Bel w_ w') :
  Calls Try.prog 85 #[u0_0, .func (.func g1) #[] (List.toArray cp1)] w0 fun e w' => ∃ (r0 : Bool), 
   e = .returned (.bool r0) ∧ K r0 ∧ Bel w0 w' := by
 unfold Zhk at h
 refine Z6 (args := [u0_0, .func (.func g1) #[] (List.toArray cp1)]) Try.func85 rfl 9 Try.ntmps85 (Nat.le_of_ble_eq_true rfl) ?_
 have hC := Ctx.start (X := Nox) w0 [Ty.item ((EI .i64).ty.sl) a0 [u0_0] fp0] (by simp only [List.mem_cons, List.not_mem_nil, or_false, forall_eq_or_imp, forall_eq]; exact q0)
 refine sr (Zc (v := .bool false) rfl (dn (sr (Zb (v := u0_0) rfl (Zb (v := .func (.func g1) #[] (List.toArray cp1)) rfl ?_)))))
 refine Zf [u0_0, .func (.func g1) #[] (List.toArray cp1)] _ Try.func126 rfl rfl rfl (Zqp a0 p1 h _ (hC.getP 0 rfl) hf1 hb1 hn1 (fun x0_ K_ w_ hb_ => hp1 x0_ K_ w_ (Zk1 hC.below hb_))) (fun Jn w4 hR3 => ?_)
 obtain ⟨r5, rfl, h, hB6⟩ := hR3
 refine ⟨_, rfl, ?_⟩
 replace hC := hC.grow hB6
 refine Zai rfl rfl (Zc (v := .bool (decide (r5 ≥ 0))) rfl (dn (wp_ret ?_)))
 refine Zo (fn := Try.f85) rfl ?_ ⟨decide (r5 ≥ 0), rfl, h, hC.below⟩ (.inl rfl)
 exact Zh rfl
def Zfc (a0 : Int) (K : Bool → Prop) : Prop :=
 Zc2 a0 1 12 (fun r4 => K (!r4))
theorem Zqr (a0 : Int)  {K : Bool → Prop} (h : Zfc a0 K) (w0 : World)  :
  Calls Try.prog 86 #[.int .i64 a0] w0 fun e w' => ∃ (r0 : Bool), 
   e = .returned (.bool r0) ∧ K r0 ∧ Bel w0 w' := by
 unfold Zfc at h
 refine Z6 (args := [.int .i64 a0]) Try.func86 rfl 6 Try.ntmps86 (Nat.le_of_ble_eq_true rfl) ?_
 have hC := Ctx.start (X := Nox) w0 [] (by simp)
 refine sr (Zc (v := .bool false) rfl (dn (sr (Zb (v := .int .i64 a0) rfl ?_))))
 refine Zf [.int .i64 a0, .int .i64 1, .int .i64 12] _ Try.func48 rfl rfl rfl (Zjf a0 1 12 h _) (fun Zo w3 hR2 => ?_)
 obtain ⟨r4, rfl, h, hB5⟩ := hR2
 refine ⟨_, rfl, ?_⟩
 replace hC := hC.grow hB5
 refine X0 rfl (Zc (v := .bool (!r4)) rfl (dn (wp_ret ?_)))
 refine Zo (fn := Try.f86) rfl ?_ ⟨!r4, rfl, h, hC.below⟩ (.inl rfl)
 exact Zh rfl
def Zfd (a0 : List Int) (K : Bool → Prop) : Prop :=
 (if (a0.length : Int) ≤ 8 then Zhk a0 Zfc (fun r9 => K (!r9)) else K false)
theorem Zqs (a0 : List Int) {u0_0 : Value} {fp0 : List Nat} {K : Bool → Prop} (h : Zfd a0 K) (w0 : World) (q0 : ((EI .i64).ty.sl).rep a0 [u0_0] fp0 w0) :
  Calls Try.prog 30 #[u0_0] w0 fun e w' => ∃ (r0 : Bool), 
   e = .returned (.bool r0) ∧ K r0 ∧ Bel w0 w' := by
 unfold Zfd at h
 refine Z6 (args := [u0_0]) Try.func30 rfl 11 Try.ntmps30 (Nat.le_of_ble_eq_true rfl) ?_
 have hC := Ctx.start (X := Nox) w0 [Ty.item ((EI .i64).ty.sl) a0 [u0_0] fp0] (by simp only [List.mem_cons, List.not_mem_nil, or_false, forall_eq_or_imp, forall_eq]; exact q0)
 refine sr (Zc (v := .bool false) rfl (dn (sr (Zb (v := u0_0) rfl ?_))))
 obtain ⟨Ad2, c3, hv4⟩ := Z2 (hC.getP 0 rfl)
 refine Z0 Try.underlying22 (tr rfl hv4) (Zbi rfl rfl (Zb (v := .bool (decide ((a0.length : Int) ≤ 8))) rfl ?_))
 refine Xa (decide ((a0.length : Int) ≤ 8)) (fun hb5 => ?_) (fun hb5 => ?_)
 ·replace h := ift h (ct hb5)
  refine Zm 3 6 rfl rfl hb5 (Zb (v := u0_0) rfl (Zm 3 6 rfl rfl hb5 ?_))
  refine Zf [u0_0, .func (.func 86) #[] (List.toArray [])] _ Try.func85 rfl rfl rfl (Zqq a0 Zfc h _ (hC.getP 0 rfl) Try.func86 rfl rfl (fun x0_ K_ w_ _ hq_ => Zqr x0_ hq_ w_)) (fun ret6 w8 hR7 => ?_)
  obtain ⟨r9, rfl, h, hB10⟩ := hR7
  refine ⟨_, rfl, ?_⟩
  replace hC := hC.grow hB10
  refine Zm 3 6 rfl rfl hb5 (X0 rfl (Yb (v := .bool (!r9)) (b := true) (tr rfl (congrArg _ hb5)) rfl (Zc (v := .bool (!r9)) rfl (dn (wp_ret ?_)))))
  refine Zo (fn := Try.f30) rfl ?_ ⟨!r9, rfl, h, hC.below⟩ (.inl rfl)
  exact Zh rfl
 ·replace h := Zi h (cf hb5)
  refine Zn (b := false) 3 6 rfl (tr rfl (congrArg _ hb5)) (by decide) (Zn (b := false) 3 6 rfl (tr rfl (congrArg _ hb5)) (by decide) (Zn (b := false) 3 6 rfl (tr rfl (congrArg _ hb5)) (by decide) (Yb (v := .bool false) (b := false) (tr rfl (congrArg _ hb5)) rfl (Zc (v := .bool false) rfl (dn (wp_ret ?_))))))
  refine Zo (fn := Try.f30) rfl ?_ ⟨false, rfl, h, hC.below⟩ (.inl rfl)
  exact Zh rfl
def Zfe (a0 : List Int) (a1 : A8) (K : Bool → Prop) : Prop :=
 Yy (fun i10 (s10 : Unit) nx10 => (if (i10 : Int) < (a0.length : Int) then ((0 ≤ (i10 : Int) ∧ (i10 : Int) < (a0.length : Int)) ∧ (if Int.tmod (a0.getD i10 default) 2 = 1 then (if a1.get i10 > 1 then K false else nx10 ()) else (if a1.get i10 > 20 then K false else nx10 ()))) else (if a1.get i10 > 0 then K false else nx10 ()))) (fun (s10 : Unit) => K true) 8 0 ()
theorem Zqt (a0 : List Int) (a1 : A8) {u0_0 : Value} {fp0 : List Nat} {K : Bool → Prop} (h : Zfe a0 a1 K) (w0 : World) (q0 : ((EI .i64).ty.sl).rep a0 [u0_0] fp0 w0) :
  Calls Try.prog 84 #[u0_0, .agg (List.toArray (A8.enc .u8 a1))] w0 fun e w' => ∃ (r0 : Bool), 
   e = .returned (.bool r0) ∧ K r0 ∧ Bel w0 w' := by
 unfold Zfe at h
 refine Z6 (args := [u0_0, .agg (List.toArray (A8.enc .u8 a1))]) Try.func84 rfl 27 Try.ntmps84 (Nat.le_of_ble_eq_true rfl) ?_
 have hC := Ctx.start (X := Nox) w0 [Ty.item ((EI .i64).ty.sl) a0 [u0_0] fp0] (by simp only [List.mem_cons, List.not_mem_nil, or_false, forall_eq_or_imp, forall_eq]; exact q0)
 refine sr (Ye (v := .agg (List.toArray (A8.enc .u8 a1))) hC (A8.enc .u8 a1) rfl rfl fun b2 w4 hB_ hC => Zc (v := .bool false) rfl (dn (wp_seq (sr (Ys hC 0 (A8.enc .u8 a1) rfl ag49 rfl rfl rfl (Zb (v := .int .i64 0) rfl (dn (wp_block ?_))))))))
 refine Y6 (S := Unit) _ _ (fun i10 s10 e_ w_ => Z4 e_ [(0, u0_0), (8, .agg (List.toArray (A8.enc .u8 a1))), (9, .int .i64 (i10 : Int))] ∧ Ctx Nox w0 w_ [] [Ty.item ((EI .i64).ty.sl) a0 [u0_0] fp0]) 8 ?_ ?_ (s0 := ()) ?_ h
 ·clear hC h
  rintro i10 s10 e_ w10 nx10 K10 hi10 ⟨hS_, hC⟩ h hK10
  rw [ue hS_]
  refine sr (Zs rfl rfl (dn (wp_seq (Yq rfl (decide_eq_true (by omega)) (wp_skip (Zd (wp_seq (wp_block (sr (Zb (v := .int .i64 (i10 : Int)) rfl (Zif (.int .u8 (a1.get i10)) Try.underlying49 rfl rfl (Int.natCast_nonneg _) (by omega) sc5 (A8.enc_get _ _ hi10) ?_)))))))))))
  refine Zc (v := .int .i64 (i10 : Int)) rfl (Zc (v := .int .u8 (a1.get i10)) rfl (dn (sr (Zc (v := .int .u8 0) rfl (dn (wp_seq (sr (Zb (v := .int .i64 (i10 : Int)) rfl (Zb (v := u0_0) rfl ?_)))))))))
  obtain ⟨Ad10, c10, hv11⟩ := Z2 (hC.getP 0 rfl)
  refine Z0 Try.underlying22 (tr rfl hv11) (Zs rfl rfl (dn ?_))
  refine Zr rfl (fun hb10 => ?_) (fun hb10 => ?_)
  ·replace h := ift h (ct hb10)
   refine sr (Zc (v := .int .u8 20) rfl (dn (sr (Zb (v := u0_0) rfl (Zb (v := .int .i64 (i10 : Int)) rfl ?_)))))
   obtain ⟨⟨h10, h11⟩, h⟩ := h
   obtain ⟨Ad11, c11, hv10⟩ := Z9 (hC.getP 0 rfl) i10 (show i10 < a0.length by omega)
   refine Xe (len := a0.length) Try.underlying22 sc2.size (tr rfl hv10) rfl h10 h11 (X5 (.int .i64 (a0.getD i10 default)) (Yk (hC.getP 0 rfl) hv10 i10 (show i10 < a0.length by omega)) sc2 rfl (Jk rfl rfl (by decide) (Jl rfl rfl (dn ?_))))
   refine Zr rfl (fun hb11 => ?_) (fun hb11 => ?_)
   ·replace h := ift h (ct hb11)
    refine Zk (Zc (v := .int .u8 1) rfl (dn (sr (Zb (v := .int .u8 (a1.get i10)) rfl (Zb (v := .int .u8 1) rfl (Jm rfl rfl (dn ?_)))))))
    refine Zr rfl (fun hb12 => ?_) (fun hb12 => ?_)
    ·replace h := ift h (ct hb12)
     refine sr (Zc (v := .bool false) rfl (dn ?_))
     refine wp_ret (Yd (Zj (Zj (Yd (Zj ?_)))))
     refine Zo (fn := Try.f84) rfl ?_ ⟨false, rfl, h, hC.below⟩ (.inl rfl)
     exact Zh rfl
    ·replace h := Zi h (cf hb12)
     refine wp_skip (Zt (Zd (Zk (Zq rfl rfl (Zb (v := .int .i64 (IntKind.i64.wrap ((i10 : Int) + 1))) rfl (done ?_))))))
     exact hK10 () _ _ ⟨(sl ⟨rfl, rfl, (tr rfl (congrArg _ (Yi hi10 (by decide)))), trivial⟩), hC⟩ h
   ·replace h := Zi h (cf hb11)
    refine wp_skip (Zd (sr (Zb (v := .int .u8 (a1.get i10)) rfl (Zb (v := .int .u8 20) rfl (Jm rfl rfl (dn ?_))))))
    refine Zr rfl (fun hb13 => ?_) (fun hb13 => ?_)
    ·replace h := ift h (ct hb13)
     refine sr (Zc (v := .bool false) rfl (dn ?_))
     refine wp_ret (Yd (Zj (Zj (Yd (Zj ?_)))))
     refine Zo (fn := Try.f84) rfl ?_ ⟨false, rfl, h, hC.below⟩ (.inl rfl)
     exact Zh rfl
    ·replace h := Zi h (cf hb13)
     refine wp_skip (Zt (Zd (Zk (Zq rfl rfl (Zb (v := .int .i64 (IntKind.i64.wrap ((i10 : Int) + 1))) rfl (done ?_))))))
     exact hK10 () _ _ ⟨(sl ⟨rfl, rfl, (tr rfl (congrArg _ (Yi hi10 (by decide)))), trivial⟩), hC⟩ h
  ·replace h := Zi h (cf hb10)
   refine wp_skip (Zd (sr (Zb (v := .int .u8 (a1.get i10)) rfl (Zb (v := .int .u8 0) rfl (Jm rfl rfl (dn ?_))))))
   refine Zr rfl (fun hb14 => ?_) (fun hb14 => ?_)
   ·replace h := ift h (ct hb14)
    refine sr (Zc (v := .bool false) rfl (dn ?_))
    refine wp_ret (Yd (Zj (Zj (Yd (Zj ?_)))))
    refine Zo (fn := Try.f84) rfl ?_ ⟨false, rfl, h, hC.below⟩ (.inl rfl)
    exact Zh rfl
   ·replace h := Zi h (cf hb14)
    refine wp_skip (Zt (Zd (Zk (Zq rfl rfl (Zb (v := .int .i64 (IntKind.i64.wrap ((i10 : Int) + 1))) rfl (done ?_))))))
    exact hK10 () _ _ ⟨(sl ⟨rfl, rfl, (tr rfl (congrArg _ (Yi hi10 (by decide)))), trivial⟩), hC⟩ h
 ·clear hC h
  rintro s10 e_ w11 K10 ⟨hS_, hC⟩ h
  rw [ue hS_]
  refine sr (Zs rfl rfl (dn (wp_seq (Yj rfl (decide_eq_false (by omega)) ?_))))
  refine wp_exit (Zl (Zl (Yc ?_)))
  refine Zd (sr (Zc (v := .bool true) rfl (dn (wp_ret ?_))))
  refine Zo (fn := Try.f84) rfl ?_ ⟨true, rfl, h, hC.below⟩ (.inl rfl)
  exact Zh rfl
 ·skip
  replace hC := hC.sM [] (M' := []) (by decide) rfl
  exact ⟨(sl ⟨rfl, rfl, rfl, trivial⟩), hC⟩
def Zhl (a0 : Int) (K : Bool → Prop) : Prop :=
 Zc2 a0 1 10006 (fun r4 => K r4)
theorem Zqu (a0 : Int)  {K : Bool → Prop} (h : Zhl a0 K) (w0 : World)  :
  Calls Try.prog 93 #[.int .i64 a0] w0 fun e w' => ∃ (r0 : Bool), 
   e = .returned (.bool r0) ∧ K r0 ∧ Bel w0 w' := by
 unfold Zhl at h
 refine Z6 (args := [.int .i64 a0]) Try.func93 rfl 5 Try.ntmps93 (Nat.le_of_ble_eq_true rfl) ?_
 have hC := Ctx.start (X := Nox) w0 [] (by simp)
 refine sr (Zc (v := .bool false) rfl (dn (sr (Zb (v := .int .i64 a0) rfl ?_))))
 refine Zf [.int .i64 a0, .int .i64 1, .int .i64 10006] _ Try.func48 rfl rfl rfl (Zjf a0 1 10006 h _) (fun Zo w3 hR2 => ?_)
 obtain ⟨r4, rfl, h, hB5⟩ := hR2
 refine ⟨_, rfl, ?_⟩
 replace hC := hC.grow hB5
 refine Zc (v := .bool r4) rfl (dn (wp_ret ?_))
 refine Zo (fn := Try.f93) rfl ?_ ⟨r4, rfl, h, hC.below⟩ (.inl rfl)
 exact Zh rfl
def Zdq (a0 : List Int) (a1 : Vc.Form) (K : Bool → Prop) : Prop :=
 (if (a1.terms.length : Int) > 400 then K false else Yy (fun i10 (s10 : Unit) nx10 => Zfe a0 ((a1.terms.getD i10 default).mono) (fun r10 => (if ¬ (r10 = true) then K false else Zhl ((a1.terms.getD i10 default).factor) (fun r13 => (if ¬ (r13 = true) then K false else (if (i10 : Int) > 0 then ((0 ≤ IntKind.i64.wrap ((i10 : Int) - 1) ∧ IntKind.i64.wrap ((i10 : Int) - 1) < (a1.terms.length : Int)) ∧ Zcb ((a1.terms.getD ((IntKind.i64.wrap ((i10 : Int) - 1)).toNat) default).mono) (fun r11 => Zcb ((a1.terms.getD i10 default).mono) (fun r12 => Zhh r11 r12 (fun r14 => (if r14 ≥ 0 then K false else nx10 ()))))) else nx10 ())))))) (fun (s10 : Unit) => K true) a1.terms.length 0 ())
theorem Zl3 (a0 : List Int) (a1 : Vc.Form) {u0_0 : Value} {u1_0 : Value} {fp0 : List Nat} {fp1 : List Nat} {K : Bool → Prop} (h : Zdq a0 a1 K) (w0 : World) (q0 : ((EI .i64).ty.sl).rep a0 [u0_0] fp0 w0) (q1 : TForm.rep a1 [u1_0] fp1 w0) :
  Calls Try.prog 106 #[u0_0, .agg #[u1_0]] w0 fun e w' => ∃ (r0 : Bool), 
   e = .returned (.bool r0) ∧ K r0 ∧ Bel w0 w' := by
 unfold Zdq at h
 refine Z6 (args := [u0_0, .agg #[u1_0]]) Try.func106 rfl 48 Try.ntmps106 (Nat.le_of_ble_eq_true rfl) ?_
 have hC := Ctx.start (X := Nox) w0 [Ty.item ((EI .i64).ty.sl) a0 [u0_0] fp0, Ty.item TForm a1 [u1_0] fp1] (by simp only [List.mem_cons, List.not_mem_nil, or_false, forall_eq_or_imp, forall_eq]; exact ⟨q0, q1⟩)
 have hp3 := (hC.getP 1 rfl)
 replace hC := hC.derive 1 rfl (Ty.item ETerm.ty.sl a1.terms [u1_0] fp1) (fun _ => (Xb hp3)) (fun _ hb_ => hb_)
 refine sr (Ye (v := .agg #[u1_0]) hC [u1_0] rfl rfl fun b5 w7 hB_ hC => Zc (v := .bool false) rfl (dn (wp_seq (sr (Z1 0 Try.underlying95 rfl sc93.size rfl rfl (Z8 hC 0 (u1_0) rfl sc93 rfl rfl ?_))))))
 obtain ⟨Ad8, c9, hv12⟩ := Z2 (hC.getP 0 rfl)
 refine Z0 Try.underlying93 (tr rfl hv12) (Jm rfl rfl (dn ?_))
 refine Zr rfl (fun hb12 => ?_) (fun hb12 => ?_)
 ·replace h := ift h (ct hb12)
  refine sr (Zc (v := .bool false) rfl (dn ?_))
  refine wp_ret (Zj ?_)
  refine Zo (fn := Try.f106) rfl ?_ ⟨false, rfl, h, hC.below⟩ (.inl rfl)
  exact Zh rfl
 ·replace h := Zi h (cf hb12)
  refine wp_skip (Zd (wp_seq (sr (Z1 0 Try.underlying95 rfl sc93.size rfl rfl (Z8 hC 0 (u1_0) rfl sc93 rfl rfl ?_)))))
  obtain ⟨Ad11, c10, hv13⟩ := Z2 (hC.getP 0 rfl)
  refine Z0 Try.underlying93 (tr rfl hv13) (Zb (v := .int .i64 0) rfl (dn (wp_block ?_)))
  have hN10 : a1.terms.length ≤ 9223372036854775807 := Xv (hC.getP 0 rfl)
  refine Y6 (S := Unit) _ _ (fun i10 s10 e_ w_ => Z4 e_ [(0, u0_0), (3, .pointer (some ⟨b5, 0, none⟩)), (12, u1_0), (13, .int .i64 (a1.terms.length : Int)), (14, .int .i64 (i10 : Int))] ∧ Ctx Nox w0 w_ [blk b5 95 [u1_0]] [Ty.item ETerm.ty.sl a1.terms [u1_0] fp1, Ty.item ((EI .i64).ty.sl) a0 [u0_0] fp0, Ty.item TForm a1 [u1_0] fp1]) a1.terms.length ?_ ?_ (s0 := ()) ?_ h
  ·clear hC h
   rintro i10 s10 e_ w10 nx10 K10 hi10 ⟨hS_, hC⟩ h hK10
   rw [ue hS_]
   refine sr (Zs rfl rfl (dn (wp_seq (Yq rfl (decide_eq_true (by omega)) (wp_skip (Zd (wp_seq (wp_block (sr (Zb (v := .int .i64 (i10 : Int)) rfl ?_))))))))))
   obtain ⟨Ad12, c11, hv10⟩ := Z9 (hC.getP 0 rfl) i10 hi10
   refine Xe (len := a1.terms.length) Try.underlying93 ag114.size (tr rfl hv10) rfl (Int.natCast_nonneg _) (Int.ofNat_lt.2 hi10) (Zak (Term.enc (a1.terms.getD i10 default)) (Yk (hC.getP 0 rfl) hv10 i10 hi10) ag114 rfl rfl (Yf hC (Term.enc (⟨A8.zero, 0⟩ : Term)) Zdn rfl fun b10 w11 hB_ hC => Zc (v := .int .i64 (i10 : Int)) rfl (Zu (v := .agg (List.toArray (Term.enc (a1.terms.getD i10 default)))) hC 0 (Term.enc (a1.terms.getD i10 default)) (Term.enc (a1.terms.getD i10 default)) rfl ag114.size rfl rfl rfl rfl rfl (Nat.le_of_ble_eq_true rfl) rfl fun w12 hC => dn (wp_seq (sr (Zb (v := u0_0) rfl (Z1 0 Try.underlying114 rfl ag49.size rfl rfl (Ys hC 0 (A8.enc .u8 ((a1.terms.getD i10 default).mono)) rfl ag49 rfl rfl rfl ?_))))))))
   refine Zf [u0_0, .agg (List.toArray (A8.enc .u8 ((a1.terms.getD i10 default).mono)))] _ Try.func84 rfl rfl rfl (Zqt a0 ((a1.terms.getD i10 default).mono) h _ (hC.getP 1 rfl)) (fun ret10 w13 hR10 => ?_)
   obtain ⟨r10, rfl, h, hB10⟩ := hR10
   refine ⟨_, rfl, ?_⟩
   replace hC := hC.grow hB10
   refine X0 rfl (Zb (v := .bool (!r10)) rfl ?_)
   refine Xa (!r10) (fun hb11 => ?_) (fun hb11 => ?_)
   ·replace h := ift h (Xq (X6 hb11))
    refine Zn (b := true) 5 24 rfl (tr rfl (congrArg _ hb11)) (by decide) (Zn (b := true) 5 24 rfl (tr rfl (congrArg _ hb11)) (by decide) (Zn (b := true) 5 24 rfl (tr rfl (congrArg _ hb11)) (by decide) (Zn (b := true) 5 24 rfl (tr rfl (congrArg _ hb11)) (by decide) (Yb (v := .bool true) (b := true) (tr rfl (congrArg _ hb11)) rfl (dn (Yq rfl rfl (sr (Zc (v := .bool false) rfl (dn ?_)))))))))
    refine wp_ret (Zj (Yd (Zj (Zj (Yd (Zj ?_))))))
    refine Zo (fn := Try.f106) rfl ?_ ⟨false, rfl, h, hC.below⟩ (.inl rfl)
    exact Zh rfl
   ·replace h := Zi h (not_not_intro ((X7 hb11)))
    refine Zm 5 24 rfl rfl hb11 (Z1 8 Try.underlying114 rfl sc2.size rfl rfl (Zm 5 24 rfl rfl hb11 (Z8 hC 0 (.int .i64 ((a1.terms.getD i10 default).factor)) rfl sc2 rfl rfl (Zm 5 24 rfl rfl hb11 ?_))))
    refine Zf [.int .i64 ((a1.terms.getD i10 default).factor)] _ Try.func93 rfl rfl rfl (Zqu ((a1.terms.getD i10 default).factor) h _) (fun ret11 w14 hR11 => ?_)
    obtain ⟨r13, rfl, h, hB11⟩ := hR11
    refine ⟨_, rfl, ?_⟩
    replace hC := hC.grow hB11
    refine Zm 5 24 rfl rfl hb11 (X0 rfl (Yb (v := .bool (!r13)) (b := false) (tr rfl (congrArg _ hb11)) rfl (dn ?_)))
    refine Zr rfl (fun hb13 => ?_) (fun hb13 => ?_)
    ·replace h := ift h (Xq (X6 hb13))
     refine sr (Zc (v := .bool false) rfl (dn ?_))
     refine wp_ret (Zj (Yd (Zj (Zj (Yd (Zj ?_))))))
     refine Zo (fn := Try.f106) rfl ?_ ⟨false, rfl, h, hC.below⟩ (.inl rfl)
     exact Zh rfl
    ·replace h := Zi h (not_not_intro ((X7 hb13)))
     refine wp_skip (Zd (wp_seq ?_))
     refine Ym 13 Yg [0, 1, 3, 7, 15, 7, 39, 127, 255, 511, 1023, 7, 2055, 8191, 16383, 32767, 65535] [4, 7, 9, 12] [0, 1, 2, 3, 4, 5, 6, 7, 8, 9, 10, 11, 12] (by kernel_rfl) (by kernel_rfl) (by kernel_rfl) (fun hM11 hM10 w15 hB_ => ?_)
     replace hC := hC.grow hB_
     refine aF 0 (.int .i64 (i10 : Int)) rfl rfl (hM10 0 rfl) (rfl) (fun _ => by exact Zg (v := .int .i64 (i10 : Int)) rfl) (Za 17 1) (aF 1 (.bool (decide ((i10 : Int) > 0))) rfl rfl (hM10 1 rfl) (rfl) (fun _ => by exact Zkj rfl rfl) (Za 17 3) (aF 2 (.bool (decide ((i10 : Int) > 0))) rfl rfl (hM10 2 rfl) (rfl) (fun _ => by exact Zg (v := .bool (decide ((i10 : Int) > 0))) rfl) (Za 17 7) ?_))
     refine Xa (decide ((i10 : Int) > 0)) (fun hb10 => ?_) (fun hb10 => ?_)
     ·replace h := ift h (ct hb10)
      refine aF 3 (.pointer (some ⟨b5, 0, none⟩)) rfl rfl (hM10 3 rfl) (Yn 2 32 rfl rfl hb10) (fun _ => by exact Z7 0 Try.underlying95 rfl sc93.size rfl rfl) (Za 17 15) (aL 4 (u1_0) rfl rfl (hM11 4 rfl) (Yn 2 32 rfl rfl hb10) (fun _ hB_ => by exact Z5 (hC.grow hB_) 1 (u1_0) rfl sc93 rfl rfl) (Za 17 31) (aF 5 (.int .i64 (i10 : Int)) rfl rfl (hM10 5 rfl) (Yn 2 32 rfl rfl hb10) (fun _ => by exact Zg (v := .int .i64 (i10 : Int)) rfl) (Za 17 63) (aF 6 (.int .i64 (IntKind.i64.wrap ((i10 : Int) - 1))) rfl rfl (hM10 6 rfl) (Yn 2 32 rfl rfl hb10) (fun _ => by exact Zb1 rfl rfl) (Za 17 127) ?_)))
      obtain ⟨⟨h10, h11⟩, h⟩ := h
      obtain ⟨Ad10, c12, hv11⟩ := Z9 (hC.getP 0 rfl) ((IntKind.i64.wrap ((i10 : Int) - 1)).toNat) (show (IntKind.i64.wrap ((i10 : Int) - 1)).toNat < a1.terms.length by omega)
      refine aL 7 (.pointer (some (Ad10.add ((IntKind.i64.wrap ((i10 : Int) - 1)).toNat * 9)))) rfl rfl (hM11 7 rfl) (Yn 2 32 rfl rfl hb10) (fun _ hB_ => by exact Yv (len := a1.terms.length) Try.underlying93 ag114.size (by exact tr rfl hv11) rfl h10 h11) (Za 17 255) (aF 8 (.pointer (some (Ad10.add ((IntKind.i64.wrap ((i10 : Int) - 1)).toNat * 9 + 0)))) rfl rfl (hM10 8 rfl) (Yn 2 32 rfl rfl hb10) (fun _ => by exact Zaj ((IntKind.i64.wrap ((i10 : Int) - 1)).toNat * 9 + 0) Try.underlying114 rfl ag49.size rfl rfl) (Za 17 511) (aL 9 (.agg (List.toArray (A8.enc .u8 ((a1.terms.getD ((IntKind.i64.wrap ((i10 : Int) - 1)).toNat) default).mono)))) rfl rfl (hM11 9 rfl) (Yn 2 32 rfl rfl hb10) (fun _ hB_ => by exact Xw (A8.enc .u8 ((a1.terms.getD ((IntKind.i64.wrap ((i10 : Int) - 1)).toNat) default).mono)) (Jq (o := 0) (k := 8) (Yk ((hC.grow hB_).getP 0 rfl) hv11 ((IntKind.i64.wrap ((i10 : Int) - 1)).toNat) (show (IntKind.i64.wrap ((i10 : Int) - 1)).toNat < a1.terms.length by omega)) rfl) ag49 rfl rfl) (Za 17 1023) (aF 11 (.pointer (some ⟨b10, 0, none⟩)) rfl rfl (hM10 11 rfl) (Yn 2 32 rfl rfl hb10) (fun _ => by exact Z7 0 Try.underlying114 rfl ag49.size rfl rfl) (Za 17 3071) (aL 12 (.agg (List.toArray (A8.enc .u8 ((a1.terms.getD i10 default).mono)))) rfl rfl (hM11 12 rfl) (Yn 2 32 rfl rfl hb10) (fun _ hB_ => by exact Yu (hC.grow hB_) 0 (A8.enc .u8 ((a1.terms.getD i10 default).mono)) rfl ag49 rfl rfl rfl) (Za 17 7167) ?_))))
      refine aO 10 rfl (Zm 2 32 rfl rfl hb10 ?_)
      refine Zf [.agg (List.toArray (A8.enc .u8 ((a1.terms.getD ((IntKind.i64.wrap ((i10 : Int) - 1)).toNat) default).mono)))] _ Try.func79 rfl rfl rfl (Zhg ((a1.terms.getD ((IntKind.i64.wrap ((i10 : Int) - 1)).toNat) default).mono) h _) (fun ret12 w16 hR12 => ?_)
      obtain ⟨r11, rfl, h, hB12⟩ := hR12
      refine ⟨_, rfl, ?_⟩
      replace hC := hC.grow hB12
      refine done (aK (by assumption) (Za 17 8191) (Zv 13 (by decide) (by decide) (by kernel_rfl) (by kernel_rfl) rfl (Zm 2 32 rfl rfl hb10 ?_)))
      refine Zf [.agg (List.toArray (A8.enc .u8 ((a1.terms.getD i10 default).mono)))] _ Try.func79 rfl rfl rfl (Zhg ((a1.terms.getD i10 default).mono) h _) (fun ret13 w17 hR13 => ?_)
      obtain ⟨r12, rfl, h, hB13⟩ := hR13
      refine ⟨_, rfl, ?_⟩
      replace hC := hC.grow hB13
      refine Zm 2 32 rfl rfl hb10 ?_
      refine Zf [.agg (List.toArray (A8.enc .i64 r11)), .agg (List.toArray (A8.enc .i64 r12))] _ Try.func142 rfl rfl rfl (Zqo r11 r12 h _) (fun ret14 w18 hR14 => ?_)
      obtain ⟨r14, rfl, h, hB14⟩ := hR14
      refine ⟨_, rfl, ?_⟩
      replace hC := hC.grow hB14
      refine Zm 2 32 rfl rfl hb10 (Zai rfl rfl (Yb (v := .bool (decide (r14 ≥ 0))) (b := true) (tr rfl (congrArg _ hb10)) rfl (done (Zw (Zd ?_)))))
      refine Zr rfl (fun hb14 => ?_) (fun hb14 => ?_)
      ·replace h := ift h (ct hb14)
       refine sr (Zc (v := .bool false) rfl (dn ?_))
       refine wp_ret (Yd (Zj (Zj (Yd (Zj ?_)))))
       refine Zo (fn := Try.f106) rfl ?_ ⟨false, rfl, h, hC.below⟩ (.inl rfl)
       exact Zh rfl
      ·replace h := Zi h (cf hb14)
       refine wp_skip (Zt (Zd (Zk (Zq rfl rfl (Zb (v := .int .i64 (IntKind.i64.wrap ((i10 : Int) + 1))) rfl (done ?_))))))
       replace hC := hC.sM [1] (M' := [blk b5 95 [u1_0]]) (by decide) rfl
       exact hK10 () _ _ ⟨(sl ⟨rfl, rfl, rfl, rfl, (tr rfl (congrArg _ (Yi hi10 hN10))), trivial⟩), hC⟩ h
     ·replace h := Zi h (cf hb10)
      refine Zp Z3 3 undef rfl rfl (by kernel_rfl) (hM10 3 rfl) (fun w_ => .inr ⟨Yh (b := false) 2 32 rfl (tr rfl (congrArg _ hb10)) (by decide), rfl⟩) (l9 := (Za 17 15)) (by kernel_rfl) (Zp Z3 4 undef rfl rfl (by kernel_rfl) (hM10 4 rfl) (fun w_ => .inr ⟨Yh (b := false) 2 32 rfl (tr rfl (congrArg _ hb10)) (by decide), rfl⟩) (l9 := (Za 17 31)) (by kernel_rfl) (Zp Z3 5 undef rfl rfl (by kernel_rfl) (hM10 5 rfl) (fun w_ => .inr ⟨Yh (b := false) 2 32 rfl (tr rfl (congrArg _ hb10)) (by decide), rfl⟩) (l9 := (Za 17 63)) (by kernel_rfl) (Zp Z3 6 undef rfl rfl (by kernel_rfl) (hM10 6 rfl) (fun w_ => .inr ⟨Yh (b := false) 2 32 rfl (tr rfl (congrArg _ hb10)) (by decide), rfl⟩) (l9 := (Za 17 127)) (by kernel_rfl) (Zp Z3 7 undef rfl rfl (by kernel_rfl) (hM10 7 rfl) (fun w_ => .inr ⟨Yh (b := false) 2 32 rfl (tr rfl (congrArg _ hb10)) (by decide), rfl⟩) (l9 := (Za 17 255)) (by kernel_rfl) (Zp Z3 8 undef rfl rfl (by kernel_rfl) (hM10 8 rfl) (fun w_ => .inr ⟨Yh (b := false) 2 32 rfl (tr rfl (congrArg _ hb10)) (by decide), rfl⟩) (l9 := (Za 17 511)) (by kernel_rfl) (Zp Z3 9 undef rfl rfl (by kernel_rfl) (hM10 9 rfl) (fun w_ => .inr ⟨Yh (b := false) 2 32 rfl (tr rfl (congrArg _ hb10)) (by decide), rfl⟩) (l9 := (Za 17 1023)) (by kernel_rfl) (Zp Z3 10 undef rfl rfl (by kernel_rfl) (hM10 10 rfl) (fun w_ => .inr ⟨Yh (b := false) 2 32 rfl (tr rfl (congrArg _ hb10)) (by decide), rfl⟩) (l9 := (Za 17 2047)) (by kernel_rfl) ?_)))))))
      refine Zp Z3 11 undef rfl rfl (by kernel_rfl) (hM10 11 rfl) (fun w_ => .inr ⟨Yh (b := false) 2 32 rfl (tr rfl (congrArg _ hb10)) (by decide), rfl⟩) (l9 := (Za 17 4095)) (by kernel_rfl) (Zp Z3 12 undef rfl rfl (by kernel_rfl) (hM10 12 rfl) (fun w_ => .inr ⟨Yh (b := false) 2 32 rfl (tr rfl (congrArg _ hb10)) (by decide), rfl⟩) (l9 := (Za 17 8191)) (by kernel_rfl) (Zv 13 (by decide) (by decide) (by kernel_rfl) (by kernel_rfl) rfl (Zn (b := false) 2 32 rfl (tr rfl (congrArg _ hb10)) (by decide) (Zn (b := false) 2 32 rfl (tr rfl (congrArg _ hb10)) (by decide) (Zn (b := false) 2 32 rfl (tr rfl (congrArg _ hb10)) (by decide) (Yb (v := .bool false) (b := false) (tr rfl (congrArg _ hb10)) rfl (done (Zw (Zd (Yj rfl rfl (wp_skip ?_)))))))))))
      refine Zt (Zd (Zk (Zq rfl rfl (Zb (v := .int .i64 (IntKind.i64.wrap ((i10 : Int) + 1))) rfl (done ?_)))))
      replace hC := hC.sM [1] (M' := [blk b5 95 [u1_0]]) (by decide) rfl
      exact hK10 () _ _ ⟨(sl ⟨rfl, rfl, rfl, rfl, (tr rfl (congrArg _ (Yi hi10 hN10))), trivial⟩), hC⟩ h
  ·clear hC h
   rintro s10 e_ w19 K10 ⟨hS_, hC⟩ h
   rw [ue hS_]
   refine sr (Zs rfl rfl (dn (wp_seq (Yj rfl (decide_eq_false (by omega)) ?_))))
   refine wp_exit (Zl (Zl (Yc ?_)))
   refine Zd (sr (Zc (v := .bool true) rfl (dn (wp_ret ?_))))
   refine Zo (fn := Try.f106) rfl ?_ ⟨true, rfl, h, hC.below⟩ (.inl rfl)
   exact Zh rfl
  ·skip
   exact ⟨(sl ⟨rfl, rfl, rfl, rfl, rfl, trivial⟩), hC⟩
def Zdr (a0 : A8) (a1 : List Int) (K : Int → Prop) : Prop :=
 Yy (fun i10 (s10 : Int) nx10 => ((0 ≤ (i10 : Int) ∧ (i10 : Int) < 8) ∧ nx10 (IntKind.i64.wrap (s10 + (IntKind.i64.wrap ((a1.getD i10 default) * (a0.get i10))))))) (fun (s10 : Int) => K s10) a1.length 0 0
theorem Zl4 (a0 : A8) (a1 : List Int) {u1_0 : Value} {fp1 : List Nat} {K : Int → Prop} (h : Zdr a0 a1 K) (w0 : World) (q1 : ((EI .i64).ty.sl).rep a1 [u1_0] fp1 w0) :
  Calls Try.prog 87 #[.agg (List.toArray (A8.enc .i64 a0)), u1_0] w0 fun e w' => ∃ (r0 : Int), 
   e = .returned (.int .i64 r0) ∧ K r0 ∧ Bel w0 w' := by
 unfold Zdr at h
 refine Z6 (args := [.agg (List.toArray (A8.enc .i64 a0)), u1_0]) Try.func87 rfl 24 Try.ntmps87 (Nat.le_of_ble_eq_true rfl) ?_
 have hC := Ctx.start (X := Nox) w0 [Ty.item ((EI .i64).ty.sl) a1 [u1_0] fp1] (by simp only [List.mem_cons, List.not_mem_nil, or_false, forall_eq_or_imp, forall_eq]; exact q1)
 refine sr (Ye (v := .agg (List.toArray (A8.enc .i64 a0))) hC (A8.enc .i64 a0) rfl rfl fun b2 w4 hB_ hC => Zc (v := .int .i64 0) rfl (dn (sr (Zc (v := .int .i64 0) rfl (dn (wp_seq (sr (Zb (v := u1_0) rfl ?_))))))))
 obtain ⟨Ad5, c6, hv7⟩ := Z2 (hC.getP 0 rfl)
 refine Z0 Try.underlying22 (tr rfl hv7) (Zb (v := .int .i64 0) rfl (dn (wp_block ?_)))
 have hN10 : a1.length ≤ 9223372036854775807 := Xv (hC.getP 0 rfl)
 refine Y6 (S := Int) _ _ (fun i10 s10 e_ w_ => Z4 e_ [(2, .pointer (some ⟨b2, 0, none⟩)), (5, .int .i64 s10), (8, u1_0), (9, .int .i64 (a1.length : Int)), (10, .int .i64 (i10 : Int))] ∧ Ctx Nox w0 w_ [blk b2 101 (A8.enc .i64 a0)] [Ty.item ((EI .i64).ty.sl) a1 [u1_0] fp1]) a1.length ?_ ?_ (s0 := 0) ?_ h
 ·clear hC h
  rintro i10 s10 e_ w10 nx10 K10 hi10 ⟨hS_, hC⟩ h hK10
  rw [ue hS_]
  refine sr (Zs rfl rfl (dn (wp_seq (Yq rfl (decide_eq_true (by omega)) (wp_skip (Zd (wp_seq (wp_block (sr (Zb (v := .int .i64 (i10 : Int)) rfl ?_))))))))))
  obtain ⟨Ad10, c10, hv10⟩ := Z9 (hC.getP 0 rfl) i10 hi10
  refine Xe (len := a1.length) Try.underlying22 sc2.size (tr rfl hv10) rfl (Int.natCast_nonneg _) (Int.ofNat_lt.2 hi10) (X5 (.int .i64 (a1.getD i10 default)) (Yk (hC.getP 0 rfl) hv10 i10 hi10) sc2 rfl (Zc (v := .int .i64 (i10 : Int)) rfl (Zc (v := .int .i64 (a1.getD i10 default)) rfl (dn (Zk (Zb (v := .int .i64 s10) rfl (Zb (v := .int .i64 (a1.getD i10 default)) rfl (Zb (v := .int .i64 (i10 : Int)) rfl ?_))))))))
  obtain ⟨⟨h10, h11⟩, h⟩ := h
  refine Y1 i10 Try.underlying101 sc3.size rfl rfl h10 h11 (by omega) (Z8 hC 0 (.int .i64 (a0.get i10)) rfl sc3 rfl (A8.enc_get _ _ (show i10 < 8 by omega)) (Zad rfl rfl (Zq rfl rfl (Zc (v := .int .i64 (IntKind.i64.wrap (s10 + (IntKind.i64.wrap ((a1.getD i10 default) * (a0.get i10)))))) rfl (done (Zt (Zd (Zk (Zq rfl rfl (Zb (v := .int .i64 (IntKind.i64.wrap ((i10 : Int) + 1))) rfl (done ?_)))))))))))
  exact hK10 (IntKind.i64.wrap (s10 + (IntKind.i64.wrap ((a1.getD i10 default) * (a0.get i10))))) _ _ ⟨(sl ⟨rfl, rfl, rfl, rfl, (tr rfl (congrArg _ (Yi hi10 hN10))), trivial⟩), hC⟩ h
 ·clear hC h
  rintro s10 e_ w11 K10 ⟨hS_, hC⟩ h
  rw [ue hS_]
  refine sr (Zs rfl rfl (dn (wp_seq (Yj rfl (decide_eq_false (by omega)) ?_))))
  refine wp_exit (Zl (Zl (Yc ?_)))
  refine Zd (sr (Zb (v := .int .i64 s10) rfl (Zc (v := .int .i64 s10) rfl (dn (wp_ret ?_)))))
  refine Zo (fn := Try.f87) rfl ?_ ⟨s10, rfl, h, hC.below⟩ (.inl rfl)
  exact Zh rfl
 ·skip
  exact ⟨(sl ⟨rfl, rfl, rfl, rfl, rfl, trivial⟩), hC⟩
def Zff (a0 : List Int) (a1 : Vc.Form) (K : Int → Bool → Prop) : Prop :=
 Yy (fun i10 (s10 : Int) nx10 => Zcb ((a1.terms.getD i10 default).mono) (fun r11 => Zdr r11 a0 (fun r10 => (if s10 ≥ 0 then (if r10 ≠ s10 then K 0 false else nx10 r10) else nx10 r10)))) (fun (s10 : Int) => K s10 true) a1.terms.length 0 (-1)
theorem Zqv (a0 : List Int) (a1 : Vc.Form) {u0_0 : Value} {u1_0 : Value} {fp0 : List Nat} {fp1 : List Nat} {K : Int → Bool → Prop} (h : Zff a0 a1 K) (w0 : World) (q0 : ((EI .i64).ty.sl).rep a0 [u0_0] fp0 w0) (q1 : TForm.rep a1 [u1_0] fp1 w0) :
  Calls Try.prog 156 #[u0_0, .agg #[u1_0]] w0 fun e w' => ∃ (r0 : Int) (r1 : Bool), 
   e = .returned (.tuple #[.int .i64 r0, .bool r1]) ∧ K r0 r1 ∧ Bel w0 w' := by
 unfold Zff at h
 refine Z6 (args := [u0_0, .agg #[u1_0]]) Try.func156 rfl 32 Try.ntmps156 (Nat.le_of_ble_eq_true rfl) ?_
 have hC := Ctx.start (X := Nox) w0 [Ty.item ((EI .i64).ty.sl) a0 [u0_0] fp0, Ty.item TForm a1 [u1_0] fp1] (by simp only [List.mem_cons, List.not_mem_nil, or_false, forall_eq_or_imp, forall_eq]; exact ⟨q0, q1⟩)
 have hp3 := (hC.getP 1 rfl)
 replace hC := hC.derive 1 rfl (Ty.item ETerm.ty.sl a1.terms [u1_0] fp1) (fun _ => (Xb hp3)) (fun _ hb_ => hb_)
 refine sr (Ye (v := .agg #[u1_0]) hC [u1_0] rfl rfl fun b5 w7 hB_ hC => Zc (v := .int .i64 0) rfl (Zc (v := .bool false) rfl (dn (sr (Zc (v := .int .i64 (-1)) rfl (dn (wp_seq (sr (Z1 0 Try.underlying95 rfl sc93.size rfl rfl (Z8 hC 0 (u1_0) rfl sc93 rfl rfl ?_))))))))))
 obtain ⟨Ad8, c9, hv11⟩ := Z2 (hC.getP 0 rfl)
 refine Z0 Try.underlying93 (tr rfl hv11) (Zb (v := .int .i64 0) rfl (dn (wp_block ?_)))
 have hN10 : a1.terms.length ≤ 9223372036854775807 := Xv (hC.getP 0 rfl)
 refine Y6 (S := Int) _ _ (fun i10 s10 e_ w_ => Z4 e_ [(0, u0_0), (6, .int .i64 s10), (11, u1_0), (12, .int .i64 (a1.terms.length : Int)), (13, .int .i64 (i10 : Int))] ∧ Ctx Nox w0 w_ [] [Ty.item ETerm.ty.sl a1.terms [u1_0] fp1, Ty.item ((EI .i64).ty.sl) a0 [u0_0] fp0, Ty.item TForm a1 [u1_0] fp1]) a1.terms.length ?_ ?_ (s0 := (-1)) ?_ h
 ·clear hC h
  rintro i10 s10 e_ w10 nx10 K10 hi10 ⟨hS_, hC⟩ h hK10
  rw [ue hS_]
  refine sr (Zs rfl rfl (dn (wp_seq (Yq rfl (decide_eq_true (by omega)) (wp_skip (Zd (wp_seq (wp_block (sr ?_)))))))))
  obtain ⟨Ad10, c10, hv10⟩ := Z9 (hC.getP 0 rfl) i10 hi10
  refine Xe (len := a1.terms.length) Try.underlying93 ag114.size (tr rfl hv10) rfl (Int.natCast_nonneg _) (Int.ofNat_lt.2 hi10) (Zak (Term.enc (a1.terms.getD i10 default)) (Yk (hC.getP 0 rfl) hv10 i10 hi10) ag114 rfl rfl (Yf hC (Term.enc (⟨A8.zero, 0⟩ : Term)) Zdn rfl fun b10 w11 hB_ hC => Zu (v := .agg (List.toArray (Term.enc (a1.terms.getD i10 default)))) hC 0 (Term.enc (a1.terms.getD i10 default)) (Term.enc (a1.terms.getD i10 default)) rfl ag114.size rfl rfl rfl rfl rfl (Nat.le_of_ble_eq_true rfl) rfl fun w12 hC => dn (sr (Z1 0 Try.underlying114 rfl ag49.size rfl rfl (Ys hC 0 (A8.enc .u8 ((a1.terms.getD i10 default).mono)) rfl ag49 rfl rfl rfl ?_)))))
  refine Zf [.agg (List.toArray (A8.enc .u8 ((a1.terms.getD i10 default).mono)))] _ Try.func79 rfl rfl rfl (Zhg ((a1.terms.getD i10 default).mono) h _) (fun ret10 w13 hR10 => ?_)
  obtain ⟨r11, rfl, h, hB10⟩ := hR10
  refine ⟨_, rfl, ?_⟩
  replace hC := hC.grow hB10
  refine Zb (v := u0_0) rfl ?_
  refine Zf [.agg (List.toArray (A8.enc .i64 r11)), u0_0] _ Try.func87 rfl rfl rfl (Zl4 r11 a0 h _ (hC.getP 1 rfl)) (fun ret11 w14 hR11 => ?_)
  obtain ⟨r10, rfl, h, hB11⟩ := hR11
  refine ⟨_, rfl, ?_⟩
  replace hC := hC.grow hB11
  refine Zc (v := .int .i64 r10) rfl (dn (wp_seq (sr (Zb (v := .int .i64 s10) rfl (Zai rfl rfl (Zb (v := .bool (decide (s10 ≥ 0))) rfl ?_))))))
  refine Xa (decide (s10 ≥ 0)) (fun hb10 => ?_) (fun hb10 => ?_)
  ·replace h := ift h (ct hb10)
   refine Zm 2 24 rfl rfl hb10 (Zb (v := .int .i64 r10) rfl (Zm 2 24 rfl rfl hb10 (Zb (v := .int .i64 s10) rfl (Zm 2 24 rfl rfl hb10 (Xj rfl rfl (Yb (v := .bool (decide (r10 ≠ s10))) (b := true) (tr rfl (congrArg _ hb10)) rfl (dn ?_)))))))
   refine Zr rfl (fun hb11 => ?_) (fun hb11 => ?_)
   ·replace h := ift h (ct hb11)
    refine sr (Zc (v := .int .i64 0) rfl (Zc (v := .bool false) rfl (dn ?_)))
    refine wp_ret (Zj (Yd (Zj (Zj (Yd (Zj ?_))))))
    refine Jn (fn := Try.f156) rfl ?_ ?_ ⟨0, false, rfl, h, hC.below⟩ (.inl rfl)
    ·exact Zh rfl
    ·exact Zh rfl
   ·replace h := Zi h (cf hb11)
    refine wp_skip (Zd (Zk (Zb (v := .int .i64 r10) rfl (Zc (v := .int .i64 r10) rfl (done (Zt (Zd (Zk (Zq rfl rfl (Zb (v := .int .i64 (IntKind.i64.wrap ((i10 : Int) + 1))) rfl (done ?_)))))))))))
    replace hC := hC.sM [] (M' := []) (by decide) rfl
    exact hK10 r10 _ _ ⟨(sl ⟨rfl, rfl, rfl, rfl, (tr rfl (congrArg _ (Yi hi10 hN10))), trivial⟩), hC⟩ h
  ·replace h := Zi h (cf hb10)
   refine Zn (b := false) 2 24 rfl (tr rfl (congrArg _ hb10)) (by decide) (Zn (b := false) 2 24 rfl (tr rfl (congrArg _ hb10)) (by decide) (Zn (b := false) 2 24 rfl (tr rfl (congrArg _ hb10)) (by decide) (Yb (v := .bool false) (b := false) (tr rfl (congrArg _ hb10)) rfl (dn (Yj rfl rfl (wp_skip (Zd (Zk (Zb (v := .int .i64 r10) rfl (Zc (v := .int .i64 r10) rfl (done ?_)))))))))))
   refine Zt (Zd (Zk (Zq rfl rfl (Zb (v := .int .i64 (IntKind.i64.wrap ((i10 : Int) + 1))) rfl (done ?_)))))
   replace hC := hC.sM [] (M' := []) (by decide) rfl
   exact hK10 r10 _ _ ⟨(sl ⟨rfl, rfl, rfl, rfl, (tr rfl (congrArg _ (Yi hi10 hN10))), trivial⟩), hC⟩ h
 ·clear hC h
  rintro s10 e_ w15 K10 ⟨hS_, hC⟩ h
  rw [ue hS_]
  refine sr (Zs rfl rfl (dn (wp_seq (Yj rfl (decide_eq_false (by omega)) ?_))))
  refine wp_exit (Zl (Zl (Yc ?_)))
  refine Zd (sr (Zb (v := .int .i64 s10) rfl (Zc (v := .int .i64 s10) rfl (Zc (v := .bool true) rfl (dn (wp_ret ?_))))))
  refine Jn (fn := Try.f156) rfl ?_ ?_ ⟨s10, true, rfl, h, hC.below⟩ (.inl rfl)
  ·exact Zh rfl
  ·exact Zh rfl
 ·skip
  replace hC := hC.sM [] (M' := []) (by decide) rfl
  exact ⟨(sl ⟨rfl, rfl, rfl, rfl, rfl, trivial⟩), hC⟩
def Zfg (a0 : List Int) (a1 : Vc.Form) (a2 : Int) (K : Bool → Prop) : Prop :=
 Zff a0 a1 (fun r10 r11 => (if r11 = true then (if r10 = (-1) then K true else K (decide (r10 = a2))) else K false))
theorem Zqw (a0 : List Int) (a1 : Vc.Form) (a2 : Int) {u0_0 : Value} {u1_0 : Value} {fp0 : List Nat} {fp1 : List Nat} {K : Bool → Prop} (h : Zfg a0 a1 a2 K) (w0 : World) (q0 : ((EI .i64).ty.sl).rep a0 [u0_0] fp0 w0) (q1 : TForm.rep a1 [u1_0] fp1 w0) :
  Calls Try.prog 137 #[u0_0, .agg #[u1_0], .int .i64 a2] w0 fun e w' => ∃ (r0 : Bool), 
   e = .returned (.bool r0) ∧ K r0 ∧ Bel w0 w' := by
 unfold Zfg at h
 refine Z6 (args := [u0_0, .agg #[u1_0], .int .i64 a2]) Try.func137 rfl 25 Try.ntmps137 (Nat.le_of_ble_eq_true rfl) ?_
 have hC := Ctx.start (X := Nox) w0 [Ty.item ((EI .i64).ty.sl) a0 [u0_0] fp0, Ty.item TForm a1 [u1_0] fp1] (by simp only [List.mem_cons, List.not_mem_nil, or_false, forall_eq_or_imp, forall_eq]; exact ⟨q0, q1⟩)
 have hp3 := (hC.getP 1 rfl)
 replace hC := hC.derive 1 rfl (Ty.item ETerm.ty.sl a1.terms [u1_0] fp1) (fun _ => (Xb hp3)) (fun _ hb_ => hb_)
 refine sr (Ye (v := .agg #[u1_0]) hC [u1_0] rfl rfl fun b5 w7 hB_ hC => Zc (v := .bool false) rfl (dn (sr (Zb (v := u0_0) rfl (Ys hC 0 [u1_0] rfl ag95 rfl rfl rfl ?_)))))
 refine Zf [u0_0, .agg #[u1_0]] _ Try.func156 rfl rfl rfl (Zqv a0 a1 h _ (hC.getP 1 rfl) (Yl (hC.getP 0 rfl))) (fun ret8 w10 hR9 => ?_)
 obtain ⟨r10, r11, rfl, h, hB10⟩ := hR9
 refine ⟨_, rfl, ?_⟩
 replace hC := hC.grow hB10
 refine Zb (v := .tuple #[.int .i64 r10, .bool r11]) rfl (Xd (v := .int .i64 r10) rfl rfl (Xd (v := .bool r11) rfl rfl (Zc (v := .int .i64 r10) rfl (Zc (v := .bool r11) rfl (dn (sr (Zb (v := .bool r11) rfl (Zb (v := .bool r11) rfl ?_))))))))
 refine Xa r11 (fun hb10 => ?_) (fun hb10 => ?_)
 ·replace h := ift h (hb10)
  refine Zm 1 16 rfl rfl hb10 (Zb (v := .int .i64 r10) rfl (Zm 1 16 rfl rfl hb10 (Jl rfl rfl (Zm 1 16 rfl rfl hb10 (Zb (v := .bool (decide (r10 = (-1)))) rfl ?_)))))
  refine Xa (decide (r10 = (-1))) (fun hb11 => ?_) (fun hb11 => ?_)
  ·replace h := ift h (ct hb11)
   refine Zn (b := true) 4 19 rfl (tr rfl (congrArg _ hb11)) (by decide) (Zn (b := true) 4 19 rfl (tr rfl (congrArg _ hb11)) (by decide) (Zn (b := true) 4 19 rfl (tr rfl (congrArg _ hb11)) (by decide) (Zm 1 16 rfl rfl hb10 (Yb (v := .bool true) (b := true) (tr rfl (congrArg _ hb11)) rfl (Yb (v := .bool true) (b := true) (tr rfl (congrArg _ hb10)) rfl (Zc (v := .bool true) rfl (dn (wp_ret ?_))))))))
   refine Zo (fn := Try.f137) rfl ?_ ⟨true, rfl, h, hC.below⟩ (.inl rfl)
   exact Zh rfl
  ·replace h := Zi h (cf hb11)
   refine Zm 4 19 rfl rfl hb11 (Zb (v := .int .i64 r10) rfl (Zm 4 19 rfl rfl hb11 (Zb (v := .int .i64 a2) rfl (Zm 4 19 rfl rfl hb11 (Jl rfl rfl (Zm 1 16 rfl rfl hb10 (Yb (v := .bool (decide (r10 = a2))) (b := false) (tr rfl (congrArg _ hb11)) rfl (Yb (v := .bool (decide (r10 = a2))) (b := true) (tr rfl (congrArg _ hb10)) rfl (Zc (v := .bool (decide (r10 = a2))) rfl (dn (wp_ret ?_)))))))))))
   refine Zo (fn := Try.f137) rfl ?_ ⟨decide (r10 = a2), rfl, h, hC.below⟩ (.inl rfl)
   exact Zh rfl
 ·replace h := Zi h (Xq hb10)
  refine Zn (b := false) 1 16 rfl (tr rfl (congrArg _ hb10)) (by decide) (Zn (b := false) 1 16 rfl (tr rfl (congrArg _ hb10)) (by decide) (Zn (b := false) 1 16 rfl (tr rfl (congrArg _ hb10)) (by decide) (J1 4 19 rfl rfl (J1 4 19 rfl rfl (J1 4 19 rfl rfl (Zn (b := false) 1 16 rfl (tr rfl (congrArg _ hb10)) (by decide) (Yb (v := .bool false) (b := false) (tr rfl (congrArg _ hb10)) rfl (Zc (v := .bool false) rfl (dn (wp_ret ?_))))))))))
  refine Zo (fn := Try.f137) rfl ?_ ⟨false, rfl, h, hC.below⟩ (.inl rfl)
  exact Zh rfl
def Zfh (a0 : Alg) (K : List (Option (List (A8 × Int))) → Prop) : Prop :=
 Yy (fun i10 (s10 : (List (Option (List (A8 × Int))))) nx10 => Zc1 (a0.images.getD i10 default) (fun r10 => ((0 ≤ (i10 : Int) ∧ (i10 : Int) < 8) ∧ nx10 (s10.set i10 (some r10))))) (fun (s10 : (List (Option (List (A8 × Int))))) => K s10) a0.images.length 0 (List.replicate 8 none : List (Option (List (A8 × Int))))
theorem Zqx (a0 : Alg) {b0 : Nat} {u0_0 : Value} {u0_1 : Value} {fp0 : List Nat} {K : List (Option (List (A8 × Int))) → Prop} (h : Zfh a0 K) (w0 : World) (q0 : TAlg.rep a0 [u0_0, u0_1] fp0 w0) (qb0 : (blk b0 32 [u0_0, u0_1]).holds w0) :
  Calls Try.prog 157 #[.pointer (some ⟨b0, 0, none⟩)] w0 fun e w' => ∃ (r0 : List (Option (List (A8 × Int)))) (zc0 : List Value) (fz0 : List Nat), 
   e = .returned (.agg (List.toArray zc0)) ∧ K r0 ∧ (Xt (kvA .i64) (vvI .i64) 8).rep r0 zc0 fz0 w' ∧ (∀ b, b ∈ fz0 → w0.heap.size ≤ b) ∧ Bel w0 w' := by
 unfold Zfh at h
 refine Z6 (args := [.pointer (some ⟨b0, 0, none⟩)]) Try.func157 rfl 23 Try.ntmps157 (Nat.le_of_ble_eq_true rfl) ?_
 have hC := Ctx.start (X := Nox) w0 [Ty.item TAlg a0 [u0_0, u0_1] fp0, blk b0 32 [u0_0, u0_1]] (by simp only [List.mem_cons, List.not_mem_nil, or_false, forall_eq_or_imp, forall_eq]; exact ⟨q0, qb0⟩)
 have hp3 := (hC.getP 0 rfl)
 replace hC := hC.derive 0 rfl (Ty.item ((EI .i64).ty.sl) a0.degrees [u0_0] fp0) (fun _ => (Yt hp3).1) (fun _ hb_ => hb_)
 replace hC := hC.derive 1 rfl (Ty.item TForm.sl a0.images [u0_1] fp0) (fun _ => (Yt hp3).2) (fun _ hb_ => hb_)
 refine sr (Yf hC (List.replicate 8 (Value.map none)) Zja rfl fun b6 w8 hB_ hC => dn (sr (Jd (v := .agg (List.toArray (List.replicate 8 (Value.map none)))) [] rfl (Zqg _) (Yf hC (List.replicate 8 (Value.map none)) Zja rfl fun b9 w10 hB_ hC => ?_))))
 replace hC := hC.pushE (Ty.item (Xt (kvA .i64) (vvI .i64) 8) (List.replicate 8 none : List (Option (List (A8 × Int)))) (List.replicate 8 (Value.map none)) []) (Zhc (kvA .i64) (vvI .i64) 8 _) rfl
 replace hC := hC.pushE (Ty.item (Xt (kvA .i64) (vvI .i64) 8) (List.replicate 8 none : List (Option (List (A8 × Int)))) (List.replicate 8 (Value.map none)) []) (Zhc (kvA .i64) (vvI .i64) 8 _) rfl
 have hl10 := Zby (hC.getP 1 rfl)
 have hl11 := Zby (hC.getP 0 rfl)
 refine Zu (v := .agg (List.toArray (List.replicate 8 (Value.map none)))) hC 0 (List.replicate 8 (Value.map none)) (List.replicate 8 (Value.map none)) rfl ag205.size rfl rfl rfl hl11 (Zi7 (hC.getP 0 rfl)) (by rw [hl10]; exact Nat.le_refl _) (Zi8 (hl11.trans hl10.symm)) fun w11 hC => dn (wp_seq (sr (Zb (v := .pointer (some ⟨b0, 0, none⟩)) rfl (J2 rfl (Z1 1 Try.underlying32 rfl sc30.size rfl rfl (Zbl (u0_1) (hC.getP 5 rfl) sc30 rfl rfl ?_))))))
 obtain ⟨Ad10, c10, hv11⟩ := Z2 (hC.getP 2 rfl)
 refine Z0 Try.underlying30 (tr rfl hv11) (Zb (v := .int .i64 0) rfl (dn (wp_block ?_)))
 have hN10 : a0.images.length ≤ 9223372036854775807 := Xv (hC.getP 2 rfl)
 refine Y6 (S := (List (Option (List (A8 × Int))))) _ _ (fun i10 s10 e_ w_ => ∃ (v10 : List Value), ∃ (f10 : List Nat), Z4 e_ [(2, .pointer (some ⟨b6, 0, none⟩)), (3, .pointer (some ⟨b9, 0, none⟩)), (10, u0_1), (11, .int .i64 (a0.images.length : Int)), (12, .int .i64 (i10 : Int))] ∧ (∀ b, b ∈ f10 → w0.heap.size ≤ b) ∧ Ctx Nox w0 w_ [blk b9 205 v10, blk b6 205 (List.replicate 8 (Value.map none))] [Ty.item (Xt (kvA .i64) (vvI .i64) 8) s10 v10 f10, Ty.item TForm.sl a0.images [u0_1] fp0, Ty.item ((EI .i64).ty.sl) a0.degrees [u0_0] fp0, Ty.item TAlg a0 [u0_0, u0_1] fp0, blk b0 32 [u0_0, u0_1]]) a0.images.length ?_ ?_ (s0 := (List.replicate 8 none : List (Option (List (A8 × Int))))) ?_ h
 ·clear hC h
  rintro i10 s10 e_ w12 nx10 K10 hi10 ⟨v10, f10, hS_, hq10, hC⟩ h hK10
  rw [ue hS_]
  refine sr (Zs rfl rfl (dn (wp_seq (Yq rfl (decide_eq_true (by omega)) (wp_skip (Zd (wp_seq (wp_block (sr (Zb (v := .int .i64 (i10 : Int)) rfl ?_))))))))))
  obtain ⟨Ad11, c11, hv10⟩ := Z9 (hC.getP 1 rfl) i10 hi10
  refine Xe (len := a0.images.length) Try.underlying30 ag95.size (tr rfl hv10) rfl (Int.natCast_nonneg _) (Int.ofNat_lt.2 hi10) ?_
  obtain ⟨cs_, hl12, hc10, hr10⟩ := X9 (hC.getP 1 rfl) hv10 i10 hi10
  obtain ⟨u10, rfl⟩ := List.length_eq_one_iff.1 hl12
  clear hl12
  rw [X3 _ _ hi10] at hr10
  have hp10 := hr10
  replace hC := hC.derive 1 rfl (Ty.item ETerm.ty.sl ((a0.images.getD i10 default).terms) [u10] fp0) (fun _ => (Xb hp10)) (fun _ hb_ => hb_)
  refine Zak [u10] hc10 ag95 rfl rfl (Yf hC [.slice none 0 0] z95 rfl fun b11 w13 hB_ hC => Zc (v := .int .i64 (i10 : Int)) rfl (Zu (v := .agg #[u10]) hC 0 [u10] [u10] rfl ag95.size rfl rfl rfl rfl (Y3 (Zbc (hC.getP 0 rfl)) rfl) (Nat.le_of_ble_eq_true rfl) rfl fun w14 hC => dn (Zk (Zb (v := .int .i64 (i10 : Int)) rfl (Ys hC 0 [u10] rfl ag95 rfl rfl rfl ?_)))))
  refine Zf [.agg #[u10]] _ Try.func140 rfl rfl rfl (Zje (a0.images.getD i10 default) h _ (Yl (hC.getP 0 rfl))) (fun ret10 w15 hR10 => ?_)
  obtain ⟨r10, b10, rfl, h, hr11, hf10, hB10⟩ := hR10
  refine ⟨_, rfl, ?_⟩
  replace hC := hC.push hB10 (Ze (kvA .i64) (vvI .i64) b10 r10) hr11 (fun b_ hb_ => by obtain rfl := List.mem_singleton.1 hb_; exact hf10)
  obtain ⟨⟨h10, h11⟩, h⟩ := h
  refine Y1 i10 Try.underlying205 sc99.size rfl rfl h10 h11 (by omega) ?_
  have hf11 := Zem hC 0 rfl
  replace hC := hC.thaw 0 rfl (Ze (kvA .i64) (vvI .i64) b10 r10) id (fun _ hb_ => hb_)
  replace hC := hC.joinP 0 2 rfl rfl (Ty.item (Xt (kvA .i64) (vvI .i64) 8) (s10.set i10 (some r10)) (v10.set i10 (Value.map (some b10))) (b10 :: f10)) (fun a_ b_ => Zp4 b_ a_) (fun c_ hc_ => (List.mem_cons.1 hc_).elim (fun h_ => .inl (by rw [h_]; exact List.mem_singleton.2 rfl)) .inr)
  have hs10 : ∀ b, b ∈ (b10 :: f10) → w0.heap.size ≤ b := (fun b hb => (List.mem_cons.1 hb).elim (fun h_ => by rw [h_]; exact hf11) (fun hb => hq10 b hb))
  have hl13 := Zby (hC.getP 3 rfl)
  refine Zu (v := .map (some b10)) hC 1 [.map (some b10)] (v10.set i10 (Value.map (some b10))) rfl sc99.size rfl rfl rfl rfl rfl (by rw [hl13]; omega) (Zp8 (by rw [hl13]; omega) (by omega)) fun w16 hC => done (Zt (Zd (Zk (Zq rfl rfl (Zb (v := .int .i64 (IntKind.i64.wrap ((i10 : Int) + 1))) rfl (done ?_))))))
  replace hC := hC.sM [1, 2] (M' := [blk b9 205 (v10.set i10 (Value.map (some b10))), blk b6 205 (List.replicate 8 (Value.map none))]) (by decide) rfl
  replace hC := hC.sP [0, 4, 5, 6, 7] (Ps' := [Ty.item (Xt (kvA .i64) (vvI .i64) 8) (s10.set i10 (some r10)) (v10.set i10 (Value.map (some b10))) (b10 :: f10), Ty.item TForm.sl a0.images [u0_1] fp0, Ty.item ((EI .i64).ty.sl) a0.degrees [u0_0] fp0, Ty.item TAlg a0 [u0_0, u0_1] fp0, blk b0 32 [u0_0, u0_1]]) rfl
  exact hK10 (s10.set i10 (some r10)) _ _ ⟨v10.set i10 (Value.map (some b10)), (b10 :: f10), (sl ⟨rfl, rfl, rfl, rfl, (tr rfl (congrArg _ (Yi hi10 hN10))), trivial⟩), hs10, hC⟩ h
 ·clear hC h
  rintro s10 e_ w17 K10 ⟨v10, f10, hS_, hq10, hC⟩ h
  rw [ue hS_]
  refine sr (Zs rfl rfl (dn (wp_seq (Yj rfl (decide_eq_false (by omega)) ?_))))
  refine wp_exit (Zl (Zl (Yc ?_)))
  refine Zd (sr ?_)
  have hl14 := Zby (hC.getP 0 rfl)
  refine Ys hC 0 v10 rfl ag205 rfl (Zp6 hl14) hl14 ?_
  replace hC := hC.pushE (Ty.item (Xt (kvA .i64) (vvI .i64) 8) (List.replicate 8 none : List (Option (List (A8 × Int)))) (List.replicate 8 (Value.map none)) []) (Zhc (kvA .i64) (vvI .i64) 8 _) rfl
  have hl15 := Zby (hC.getP 0 rfl)
  have hl16 := Zby (hC.getP 1 rfl)
  refine Zu (v := .agg (List.toArray v10)) hC 1 v10 v10 rfl ag205.size rfl rfl rfl hl16 (Zi7 (hC.getP 1 rfl)) (by rw [hl15]; exact Nat.le_refl _) (Zi8 (hl16.trans hl15.symm)) fun w18 hC => dn (wp_ret ?_)
  refine Zo (fn := Try.f157) rfl ?_ ⟨s10, v10, f10, rfl, h, (hC.getP 1 rfl), (fun b hb => hq10 b hb), hC.below⟩ (.inl rfl)
  exact J3 hC 1 rfl ag205 rfl (Zby (hC.getP 1 rfl))
 ·skip
  replace hC := hC.sP [0, 2, 3, 4, 5] (Ps' := [Ty.item (Xt (kvA .i64) (vvI .i64) 8) (List.replicate 8 none : List (Option (List (A8 × Int)))) (List.replicate 8 (Value.map none)) [], Ty.item TForm.sl a0.images [u0_1] fp0, Ty.item ((EI .i64).ty.sl) a0.degrees [u0_0] fp0, Ty.item TAlg a0 [u0_0, u0_1] fp0, blk b0 32 [u0_0, u0_1]]) rfl
  exact ⟨List.replicate 8 (Value.map none), [], (sl ⟨rfl, rfl, rfl, rfl, rfl, trivial⟩), (fun b hb => absurd hb (by simp)), hC⟩
def Zds (a0 : Alg) (a1 : List (A8 × Int)) (K : List (A8 × Int) → Prop) : Prop :=
 Zfh a0 (fun r11 => Zbd (fun (q10 : A8 × Int) (s12 : (List (A8 × Int))) nx11 => Yy (fun i10 (s10 : A8 × (List (A8 × Int)) × Int) nx10 => (if q10.1.get i10 > 0 then Xf (fun (s11 : A8 × Int) nx12 => (if s11.2 < IntKind.i64.wrap ((i10 : Int) + 1) then ((0 ≤ s11.2 ∧ s11.2 < 8) ∧ nx12 (s11.1.set s11.2.toNat 0, IntKind.i64.wrap (s11.2 + 1))) else (∃ ml10, r11[i10]? = some (some ml10) ∧ X4 (Zy ([] : List (A8 × Int)) (s10.1.set i10 (IntKind.i64.wrap ((q10.1.get i10) - 1))) 1) a0.degrees ml10 (fun r14 => X4 r14 a0.degrees (Zy ([] : List (A8 × Int)) s11.1 1) (fun r13 => Zaa (IntKind.i64.wrap ((IntKind.i64.wrap (s10.2.2 * q10.2)) * (q10.1.get i10))) (fun r12 => Zab s10.2.1 r13 r12 (fun m10 => (if (i10 : Int) < (a0.degrees.length : Int) then ((0 ≤ (i10 : Int) ∧ (i10 : Int) < (a0.degrees.length : Int)) ∧ (if Int.tmod (a0.degrees.getD i10 default) 2 = 1 then (if Int.tmod (q10.1.get i10) 2 = 1 then nx10 (s10.1.set i10 (q10.1.get i10), m10, IntKind.i64.wrap (0 - s10.2.2)) else nx10 (s10.1.set i10 (q10.1.get i10), m10, s10.2.2)) else nx10 (s10.1.set i10 (q10.1.get i10), m10, s10.2.2))) else nx10 (s10.1.set i10 (q10.1.get i10), m10, s10.2.2))))))))) (q10.1, 0) else (if (i10 : Int) < (a0.degrees.length : Int) then ((0 ≤ (i10 : Int) ∧ (i10 : Int) < (a0.degrees.length : Int)) ∧ (if Int.tmod (a0.degrees.getD i10 default) 2 = 1 then (if Int.tmod (q10.1.get i10) 2 = 1 then nx10 (s10.1.set i10 (q10.1.get i10), s10.2.1, IntKind.i64.wrap (0 - s10.2.2)) else nx10 (s10.1.set i10 (q10.1.get i10), s10.2.1, s10.2.2)) else nx10 (s10.1.set i10 (q10.1.get i10), s10.2.1, s10.2.2))) else nx10 (s10.1.set i10 (q10.1.get i10), s10.2.1, s10.2.2)))) (fun (s10 : A8 × (List (A8 × Int)) × Int) => nx11 s10.2.1) 8 0 (A8.zero, s12, 1)) (fun (s12 : (List (A8 × Int))) => K s12) a1.length a1 ([] : List (A8 × Int)))
theorem Zl5 (a0 : Alg) (a1 : List (A8 × Int)) {b0 : Nat} {b1 : Nat} {u0_0 : Value} {u0_1 : Value} {fp0 : List Nat} {K : List (A8 × Int) → Prop} (h : Zds a0 a1 K) (w0 : World) (q0 : TAlg.rep a0 [u0_0, u0_1] fp0 w0) (qb0 : (blk b0 32 [u0_0, u0_1]).holds w0) (q1 : (Ze (kvA .i64) (vvI .i64) b1 a1).holds w0) :
  Calls Try.prog 139 #[.pointer (some ⟨b0, 0, none⟩), .map (some b1)] w0 fun e w' => ∃ (r0 : List (A8 × Int)) (zb0 : Nat), 
   e = .returned (.map (some zb0)) ∧ K r0 ∧ (Ze (kvA .i64) (vvI .i64) zb0 r0).holds w' ∧ w0.heap.size ≤ zb0 ∧ Bel w0 w' := by
 unfold Zds at h
 refine Z6 (args := [.pointer (some ⟨b0, 0, none⟩), .map (some b1)]) Try.func139 rfl 107 Try.ntmps139 (Nat.le_of_ble_eq_true rfl) ?_
 have hC := Ctx.start (X := Nox) w0 [Ty.item TAlg a0 [u0_0, u0_1] fp0, blk b0 32 [u0_0, u0_1], Ze (kvA .i64) (vvI .i64) b1 a1] (by simp only [List.mem_cons, List.not_mem_nil, or_false, forall_eq_or_imp, forall_eq]; exact ⟨q0, qb0, q1⟩)
 have hp4 := (hC.getP 0 rfl)
 replace hC := hC.derive 0 rfl (Ty.item ((EI .i64).ty.sl) a0.degrees [u0_0] fp0) (fun _ => (Yt hp4).1) (fun _ hb_ => hb_)
 replace hC := hC.derive 1 rfl (Ty.item TForm.sl a0.images [u0_1] fp0) (fun _ => (Yt hp4).2) (fun _ hb_ => hb_)
 refine sr (Zc (v := .map none) rfl (dn (sr (Zen hC (kvA .i64) (vvI .i64) fun b7 w9 hB_ hC => Zb (v := .pointer (some ⟨b0, 0, none⟩)) rfl ?_))))
 refine Zf [.pointer (some ⟨b0, 0, none⟩)] _ Try.func157 rfl rfl rfl (Zqx a0 h _ (Xr (hC.getP 1 rfl) (hC.getP 0 rfl)) (hC.getP 3 rfl)) (fun ret10 w11 hR10 => ?_)
 obtain ⟨r11, cs10, f10, rfl, h, hr10, hf10, hB10⟩ := hR10
 refine ⟨_, rfl, ?_⟩
 have hs10 := Zod hC.size hf10
 replace hC := hC.pushR hB10 (Ty.item (Xt (kvA .i64) (vvI .i64) 8) r11 cs10 f10) hr10 (fun b hb => .inl (hf10 b hb))
 refine Yf hC (List.replicate 8 (Value.map none)) Zja rfl fun b10 w12 hB_ hC => Zc (v := .map (some b7)) rfl ?_
 replace hC := hC.pushE (Ty.item (Xt (kvA .i64) (vvI .i64) 8) (List.replicate 8 none : List (Option (List (A8 × Int)))) (List.replicate 8 (Value.map none)) []) (Zhc (kvA .i64) (vvI .i64) 8 _) rfl
 have hl10 := Zby (hC.getP 0 rfl)
 have hl11 := Zby (hC.getP 1 rfl)
 refine Zu (v := .agg (List.toArray cs10)) hC 0 cs10 cs10 rfl ag205.size rfl rfl rfl hl11 (Zi7 (hC.getP 1 rfl)) (by rw [hl10]; exact Nat.le_refl _) (Zi8 (hl11.trans hl10.symm)) fun w13 hC => dn (wp_seq (sr (Zb (v := .map (some b1)) rfl (Zeo hC 6 rfl Try.underlying99 rfl fun r10 es10 ck10 w14 hB_ hn10 hbn10 hC => dn (wp_block ?_)))))
 refine Zes (S := (List (A8 × Int))) _ _ (fun l11 s12 e_ w_ => ∃ (la10 : Option MapEntry), Z4 e_ [(0, .pointer (some ⟨b0, 0, none⟩)), (5, .map (some b7)), (6, .pointer (some ⟨b10, 0, none⟩)), (21, .pointer (some ⟨r10, 0, none⟩))] ∧ Ctx Nox w0 w_ [itI (kvA .i64) (vvI .i64) r10 b1 es10 ck10 la10 l11, blk b10 205 cs10, Ze (kvA .i64) (vvI .i64) b7 s12] [Y0 b1 es10 ck10, Ty.item (Xt (kvA .i64) (vvI .i64) 8) r11 cs10 f10, Ty.item TForm.sl a0.images [u0_1] fp0, Ty.item ((EI .i64).ty.sl) a0.degrees [u0_0] fp0, Ty.item TAlg a0 [u0_0, u0_1] fp0, blk b0 32 [u0_0, u0_1], Ze (kvA .i64) (vvI .i64) b1 a1]) ?_ (l0 := a1) (s0 := ([] : List (A8 × Int))) ?_ h
 ·clear hC h
  rintro l11 s12 e_ w15 nx11 K11 ⟨la10, hS_, hC⟩ h hK11
  rw [ue hS_]
  refine sr ?_
  refine Zep hC 0 0 rfl rfl hn10 hbn10 rfl (fun hr11 => ?_) (fun q10 l10 ent10 w16 hp10 hk10 hv12 hC => ?_)
  ·replace h := h.1 hr11
   refine Xd (v := .bool false) rfl rfl (dn (wp_seq (Yj rfl rfl ?_)))
   refine wp_exit (Zl (Zl (Yc ?_)))
   refine Zd (sr (Zb (v := .map (some b7)) rfl (Zc (v := .map (some b7)) rfl (dn (wp_ret ?_)))))
   refine Zo (fn := Try.f139) rfl ?_ ⟨s12, b7, rfl, h, (hC.getM 2 rfl), (Zem hC 2 rfl), hC.below⟩ (.inl rfl)
   exact Zh rfl
  ·replace h := h.2 q10 l10 hp10
   refine Xd (v := .bool true) rfl rfl (dn (wp_seq (Yq rfl rfl (wp_skip (Zd (wp_block (sr (Zeq hC 0 0 q10 rfl rfl hn10 rfl hk10 hv12 (Xd (v := .agg (List.toArray (A8.enc .i64 q10.1))) rfl rfl (Xd (v := .int .i64 q10.2) rfl rfl (Yf hC (A8.enc .i64 A8.zero) Jt rfl fun b11 w17 hB_ hC => ?_)))))))))))
   refine Zu (v := .agg (List.toArray (A8.enc .i64 q10.1))) hC 0 (A8.enc .i64 q10.1) (A8.enc .i64 q10.1) rfl ag101.size rfl rfl rfl rfl rfl (Nat.le_of_ble_eq_true rfl) rfl fun w18 hC => Zc (v := .int .i64 q10.2) rfl (dn (sr (Jd [] rfl (Ze3   _) (Yf hC (A8.enc .i64 A8.zero) Jt rfl fun b12 w19 hB_ hC => Zu (v := .agg (List.toArray (A8.enc .i64 A8.zero))) hC 0 (A8.enc .i64 A8.zero) (A8.enc .i64 A8.zero) rfl ag101.size rfl rfl rfl rfl rfl (Nat.le_of_ble_eq_true rfl) rfl fun w20 hC => Zc (v := .int .i64 1) rfl (dn (sr (Ys hC 1 (A8.enc .i64 q10.1) rfl ag101 rfl rfl rfl (Zb (v := .int .i64 0) rfl ?_))))))))
   refine dn (wp_block ?_)
   refine Y6 (S := A8 × (List (A8 × Int)) × Int) _ _ (fun i10 s10 e_ w_ => Z4 e_ [(0, .pointer (some ⟨b0, 0, none⟩)), (5, .map (some b7)), (6, .pointer (some ⟨b10, 0, none⟩)), (7, .pointer (some ⟨b11, 0, none⟩)), (8, .int .i64 q10.2), (9, .pointer (some ⟨b12, 0, none⟩)), (10, .int .i64 s10.2.2), (21, .pointer (some ⟨r10, 0, none⟩)), (28, .agg (List.toArray (A8.enc .i64 q10.1))), (29, .int .i64 (i10 : Int))] ∧ Ctx Nox w0 w_ [blk b12 101 (A8.enc .i64 s10.1), blk b11 101 (A8.enc .i64 q10.1), itI (kvA .i64) (vvI .i64) r10 b1 es10 ck10 (some ent10) l10, blk b10 205 cs10, Ze (kvA .i64) (vvI .i64) b7 s10.2.1] [Y0 b1 es10 ck10, Ty.item (Xt (kvA .i64) (vvI .i64) 8) r11 cs10 f10, Ty.item TForm.sl a0.images [u0_1] fp0, Ty.item ((EI .i64).ty.sl) a0.degrees [u0_0] fp0, Ty.item TAlg a0 [u0_0, u0_1] fp0, blk b0 32 [u0_0, u0_1], Ze (kvA .i64) (vvI .i64) b1 a1]) 8 ?_ ?_ (s0 := (A8.zero, s12, 1)) ?_ h
   ·clear hC h
    rintro i10 s10 e_ w21 nx10 K10 hi10 ⟨hS_, hC⟩ h hK10
    rw [ue hS_]
    refine sr (Zs rfl rfl (dn (wp_seq (Yq rfl (decide_eq_true (by omega)) (wp_skip (Zd (wp_seq (wp_block (sr (Zb (v := .int .i64 (i10 : Int)) rfl (Zif (.int .i64 (q10.1.get i10)) Try.underlying101 rfl rfl (Int.natCast_nonneg _) (by omega) sc3 (A8.enc_get _ _ hi10) ?_)))))))))))
    refine Zc (v := .int .i64 (i10 : Int)) rfl (Zc (v := .int .i64 (q10.1.get i10)) rfl (dn (wp_seq (sr (Zb (v := .int .i64 (q10.1.get i10)) rfl (Jm rfl rfl (dn ?_)))))))
    refine Zr rfl (fun hb14 => ?_) (fun hb14 => ?_)
    ·replace h := ift h (ct hb14)
     refine sr (Ys hC 1 (A8.enc .i64 q10.1) rfl ag101 rfl rfl rfl (Yf hC (A8.enc .i64 A8.zero) Jt rfl fun b32 w22 hB_ hC => Zu (v := .agg (List.toArray (A8.enc .i64 q10.1))) hC 0 (A8.enc .i64 q10.1) (A8.enc .i64 q10.1) rfl ag101.size rfl rfl rfl rfl rfl (Nat.le_of_ble_eq_true rfl) rfl fun w23 hC => dn (wp_seq (sr (Zb (v := .int .i64 (i10 : Int)) rfl (Zq rfl rfl (Zb (v := .int .i64 0) rfl (dn (wp_block ?_)))))))))
     refine Xu (S := A8 × Int) _ (fun s11 e_ w_ => Z4 e_ [(0, .pointer (some ⟨b0, 0, none⟩)), (5, .map (some b7)), (6, .pointer (some ⟨b10, 0, none⟩)), (7, .pointer (some ⟨b11, 0, none⟩)), (8, .int .i64 q10.2), (9, .pointer (some ⟨b12, 0, none⟩)), (10, .int .i64 s10.2.2), (11, .int .i64 (i10 : Int)), (12, .int .i64 (q10.1.get i10)), (13, .pointer (some ⟨b32, 0, none⟩)), (21, .pointer (some ⟨r10, 0, none⟩)), (28, .agg (List.toArray (A8.enc .i64 q10.1))), (29, .int .i64 (i10 : Int)), (37, .int .i64 (IntKind.i64.wrap ((i10 : Int) + 1))), (38, .int .i64 s11.2)] ∧ Ctx Nox w0 w_ [blk b32 101 (A8.enc .i64 s11.1), blk b12 101 (A8.enc .i64 s10.1), blk b11 101 (A8.enc .i64 q10.1), itI (kvA .i64) (vvI .i64) r10 b1 es10 ck10 (some ent10) l10, blk b10 205 cs10, Ze (kvA .i64) (vvI .i64) b7 s10.2.1] [Y0 b1 es10 ck10, Ty.item (Xt (kvA .i64) (vvI .i64) 8) r11 cs10 f10, Ty.item TForm.sl a0.images [u0_1] fp0, Ty.item ((EI .i64).ty.sl) a0.degrees [u0_0] fp0, Ty.item TAlg a0 [u0_0, u0_1] fp0, blk b0 32 [u0_0, u0_1], Ze (kvA .i64) (vvI .i64) b1 a1]) ?_ (s0 := (q10.1, 0)) ?_ h
     ·clear hC h
      rintro s11 e_ w24 nx12 K12 ⟨hS_, hC⟩ h hK12
      rw [ue hS_]
      refine sr (Zs rfl rfl (dn (wp_seq ?_)))
      refine Zr rfl (fun hb15 => ?_) (fun hb15 => ?_)
      ·replace h := ift h (ct hb15)
       refine wp_skip (Zd (wp_seq (wp_block (sr (Zb (v := .int .i64 s11.2) rfl (Zc (v := .int .i64 s11.2) rfl (dn (Zk (Zb (v := .int .i64 s11.2) rfl ?_)))))))))
       obtain ⟨⟨h10, h11⟩, h⟩ := h
       refine Y1 s11.2.toNat Try.underlying101 sc3.size rfl rfl h10 h11 (by omega) (Zu (v := .int .i64 0) hC 0 [.int .i64 0] (A8.enc .i64 (s11.1.set s11.2.toNat 0)) rfl sc3.size rfl rfl rfl rfl rfl (show s11.2.toNat < 8 by omega) (A8.enc_set _ _ _ (show s11.2.toNat < 8 by omega)) fun w25 hC => done (Zt (Zd (Zk (Zq rfl rfl (Zb (v := .int .i64 (IntKind.i64.wrap (s11.2 + 1))) rfl (done ?_)))))))
       exact hK12 (s11.1.set s11.2.toNat 0, IntKind.i64.wrap (s11.2 + 1)) _ _ ⟨(sl ⟨rfl, rfl, rfl, rfl, rfl, rfl, rfl, rfl, rfl, rfl, rfl, rfl, rfl, rfl, rfl, trivial⟩), hC⟩ h
      ·replace h := Zi h (cf hb15)
       refine wp_exit (Zl (Zl (Yc ?_)))
       refine Zd (sr (Ys hC 1 (A8.enc .i64 s10.1) rfl ag101 rfl rfl rfl (Yf hC (A8.enc .i64 A8.zero) Jt rfl fun b43 w26 hB_ hC => Zu (v := .agg (List.toArray (A8.enc .i64 s10.1))) hC 0 (A8.enc .i64 s10.1) (A8.enc .i64 s10.1) rfl ag101.size rfl rfl rfl rfl rfl (Nat.le_of_ble_eq_true rfl) rfl fun w27 hC => dn (sr (Zb (v := .int .i64 (i10 : Int)) rfl (Zb (v := .int .i64 (q10.1.get i10)) rfl (J5 rfl rfl (Y1 i10 Try.underlying101 sc3.size rfl rfl (Int.natCast_nonneg _) (by omega) (by omega) (Zu (v := .int .i64 (IntKind.i64.wrap ((q10.1.get i10) - 1))) hC 0 [.int .i64 (IntKind.i64.wrap ((q10.1.get i10) - 1))] (A8.enc .i64 (s10.1.set i10 (IntKind.i64.wrap ((q10.1.get i10) - 1)))) rfl sc3.size rfl rfl rfl rfl rfl hi10 (A8.enc_set _ _ _ hi10) fun w28 hC => ?_)))))))))
       refine dn (wp_seq ?_)
       refine Zdk 20 Yg [0, 0, 3, 7, 0, 16, 48, 112, 0, 256, 768, 2047, 0, 4096, 12288, 28672, 0, 0, 196608, 458752, 1048575, 2097151] [1, 7, 9, 10, 15, 17] [3, 4, 5, 6, 8, 12, 13, 14, 19] (by kernel_rfl) (by kernel_rfl) (by kernel_rfl) (fun hM11 hM10 w10 hB_ => ?_)
       replace hC := hC.grow hB_
       have hN_ : w10.heap.size ≤ w10.heap.size := Nat.le_refl _
       refine Jo (Ya _) 1 (.agg (List.toArray (A8.enc .i64 (s10.1.set i10 (IntKind.i64.wrap ((q10.1.get i10) - 1)))))) rfl rfl (by kernel_rfl) (hM11 1 rfl) (fun w_ hB_ => .inl ⟨rfl, by exact Yu (hC.grow (J7 hB_)) 0 (A8.enc .i64 (s10.1.set i10 (IntKind.i64.wrap ((q10.1.get i10) - 1)))) rfl ag101 rfl rfl rfl⟩) (l9 := (Za 22 2)) (by kernel_rfl) (Zp (Ya _) 4 (.pointer (some ⟨b0, 0, none⟩)) rfl rfl (by kernel_rfl) (hM10 4 rfl) (fun w_ => .inl ⟨rfl, by exact Zg (v := .pointer (some ⟨b0, 0, none⟩)) rfl⟩) (l9 := (Za 22 18)) (by kernel_rfl) (Zp (Ya _) 5 (.pointer (some ⟨b0, 0, none⟩)) rfl rfl (by kernel_rfl) (hM10 5 rfl) (fun w_ => .inl ⟨rfl, by exact Jx rfl⟩) (l9 := (Za 22 50)) (by kernel_rfl) (Zp (Ya _) 6 (.pointer (some ⟨b0, 0, none⟩)) rfl rfl (by kernel_rfl) (hM10 6 rfl) (fun w_ => .inl ⟨rfl, by exact Z7 0 Try.underlying32 rfl sc22.size rfl rfl⟩) (l9 := (Za 22 114)) (by kernel_rfl) (Jo (Ya _) 7 (u0_0) rfl rfl (by kernel_rfl) (hM11 7 rfl) (fun w_ hB_ => .inl ⟨rfl, by exact Zan (u0_0) ((hC.grow (J7 hB_)).getP 5 rfl) sc22 rfl rfl⟩) (l9 := (Za 22 242)) (by kernel_rfl) (Zp (Ya _) 8 (.int .i64 (i10 : Int)) rfl rfl (by kernel_rfl) (hM10 8 rfl) (fun w_ => .inl ⟨rfl, by exact Zg (v := .int .i64 (i10 : Int)) rfl⟩) (l9 := (Za 22 498)) (by kernel_rfl) (Jo (Ya _) 9 (.pointer (some ⟨b10, i10, none⟩)) rfl rfl (by kernel_rfl) (hM11 9 rfl) (fun w_ hB_ => .inl ⟨rfl, by exact Jy i10 Try.underlying205 sc99.size rfl rfl (Int.natCast_nonneg _) (by omega) (by omega)⟩) (l9 := (Za 22 1010)) (by kernel_rfl) ?_))))))
       obtain ⟨ml10, hl12, h⟩ := h
       obtain ⟨b13, hb18, hbf10, hm10⟩ := Zp5 (hC.getP 1 rfl) hl12
       replace hC := hC.derive 1 rfl (Ze (kvA .i64) (vvI .i64) b13 ml10) (fun _ => hm10) (fun c_ hc_ => by obtain rfl := List.mem_singleton.1 hc_; exact hbf10)
       refine Jo (Ya _) 10 (.map (some b13)) rfl rfl (by kernel_rfl) (hM11 10 rfl) (fun w_ hB_ => .inl ⟨rfl, by exact Z5 (hC.grow (J7 hB_)) 5 (.map (some b13)) rfl sc99 rfl (Zp7 hb18 (by omega))⟩) (l9 := (Za 22 2034)) (by kernel_rfl) (Zp (Ya _) 12 (.pointer (some ⟨b0, 0, none⟩)) rfl rfl (by kernel_rfl) (hM10 12 rfl) (fun w_ => .inl ⟨rfl, by exact Zg (v := .pointer (some ⟨b0, 0, none⟩)) rfl⟩) (l9 := (Za 22 6130)) (by kernel_rfl) (Zp (Ya _) 13 (.pointer (some ⟨b0, 0, none⟩)) rfl rfl (by kernel_rfl) (hM10 13 rfl) (fun w_ => .inl ⟨rfl, by exact Jx rfl⟩) (l9 := (Za 22 14322)) (by kernel_rfl) (Zp (Ya _) 14 (.pointer (some ⟨b0, 0, none⟩)) rfl rfl (by kernel_rfl) (hM10 14 rfl) (fun w_ => .inl ⟨rfl, by exact Z7 0 Try.underlying32 rfl sc22.size rfl rfl⟩) (l9 := (Za 22 30706)) (by kernel_rfl) (Jo (Ya _) 15 (u0_0) rfl rfl (by kernel_rfl) (hM11 15 rfl) (fun w_ hB_ => .inl ⟨rfl, by exact Zan (u0_0) ((hC.grow (J7 hB_)).getP 6 rfl) sc22 rfl rfl⟩) (l9 := (Za 22 63474)) (by kernel_rfl) (Jo (Ya _) 17 (.agg (List.toArray (A8.enc .i64 s11.1))) rfl rfl (by kernel_rfl) (hM11 17 rfl) (fun w_ hB_ => .inl ⟨rfl, by exact Yu (hC.grow (J7 hB_)) 1 (A8.enc .i64 s11.1) rfl ag101 rfl rfl rfl⟩) (l9 := (Za 22 194546)) (by kernel_rfl) ?_)))))
       refine Zbb (fun e_ w_ => ∃ (b19 : Nat), ∃ (r15 : List (A8 × Int)), Z4 e_ [(0, .pointer (some ⟨b0, 0, none⟩)), (5, .map (some b7)), (6, .pointer (some ⟨b10, 0, none⟩)), (7, .pointer (some ⟨b11, 0, none⟩)), (8, .int .i64 q10.2), (9, .pointer (some ⟨b12, 0, none⟩)), (10, .int .i64 s10.2.2), (11, .int .i64 (i10 : Int)), (12, .int .i64 (q10.1.get i10)), (16, .map (some b19)), (21, .pointer (some ⟨r10, 0, none⟩)), (28, .agg (List.toArray (A8.enc .i64 q10.1))), (29, .int .i64 (i10 : Int))] ∧ Ctx Nox w0 w_ [Ze (kvA .i64) (vvI .i64) b19 r15, blk b12 101 (A8.enc .i64 s10.1), blk b11 101 (A8.enc .i64 q10.1), itI (kvA .i64) (vvI .i64) r10 b1 es10 ck10 (some ent10) l10, blk b10 205 cs10, Ze (kvA .i64) (vvI .i64) b7 s10.2.1] [Y0 b1 es10 ck10, Ty.item (Xt (kvA .i64) (vvI .i64) 8) r11 cs10 f10, Ty.item TForm.sl a0.images [u0_1] fp0, Ty.item ((EI .i64).ty.sl) a0.degrees [u0_0] fp0, Ty.item TAlg a0 [u0_0, u0_1] fp0, blk b0 32 [u0_0, u0_1], Ze (kvA .i64) (vvI .i64) b1 a1] ∧ (Zaa (IntKind.i64.wrap ((IntKind.i64.wrap (s10.2.2 * q10.2)) * (q10.1.get i10))) (fun r12 => Zab s10.2.1 r15 r12 (fun m10 => (if (i10 : Int) < (a0.degrees.length : Int) then ((0 ≤ (i10 : Int) ∧ (i10 : Int) < (a0.degrees.length : Int)) ∧ (if Int.tmod (a0.degrees.getD i10 default) 2 = 1 then (if Int.tmod (q10.1.get i10) 2 = 1 then nx10 (s10.1.set i10 (q10.1.get i10), m10, IntKind.i64.wrap (0 - s10.2.2)) else nx10 (s10.1.set i10 (q10.1.get i10), m10, s10.2.2)) else nx10 (s10.1.set i10 (q10.1.get i10), m10, s10.2.2))) else nx10 (s10.1.set i10 (q10.1.get i10), m10, s10.2.2)))))) ?_ ?_
       ·clear hC h
        rintro e_ w29 ⟨b19, r15, hS_, hC, h⟩
        rw [ue hS_]
        refine Zd (Zk (Zb (v := .map (some b7)) rfl (Zb (v := .map (some b19)) rfl (Zb (v := .int .i64 s10.2.2) rfl (Zb (v := .int .i64 q10.2) rfl (Zad rfl rfl (Zb (v := .int .i64 (q10.1.get i10)) rfl (Zad rfl rfl ?_))))))))
        refine Zf [.int .i64 (IntKind.i64.wrap ((IntKind.i64.wrap (s10.2.2 * q10.2)) * (q10.1.get i10)))] _ Try.func159 rfl rfl rfl (Zhf (IntKind.i64.wrap ((IntKind.i64.wrap (s10.2.2 * q10.2)) * (q10.1.get i10))) h _) (fun ret11 w30 hR11 => ?_)
        obtain ⟨r12, rfl, h, hB11⟩ := hR11
        refine ⟨_, rfl, ?_⟩
        replace hC := hC.grow hB11
        refine Zf [.map (some b7), .map (some b19), .int .i64 r12] _ Try.func143 rfl rfl rfl (Zhi s10.2.1 r15 r12 h _ (hC.getM 5 rfl) (fun c_ hc_ e_ => hC.mm 0 5 rfl rfl (by decide) c_ hc_ (List.mem_singleton.2 e_)) (hC.getM 0 rfl)) (fun ret12 w31 hR12 => ?_)
        obtain ⟨m10, rfl, h, hm11, hB12⟩ := hR12
        refine ⟨_, rfl, ?_⟩
        replace hC := hC.turnB 5 rfl hB12 rfl rfl hm11
        refine dn (sr (Zb (v := .int .i64 (i10 : Int)) rfl (Zb (v := .int .i64 (q10.1.get i10)) rfl (Y1 i10 Try.underlying101 sc3.size rfl rfl (Int.natCast_nonneg _) (by omega) (by omega) (Zu (v := .int .i64 (q10.1.get i10)) hC 1 [.int .i64 (q10.1.get i10)] (A8.enc .i64 (s10.1.set i10 (q10.1.get i10))) rfl sc3.size rfl rfl rfl rfl rfl hi10 (A8.enc_set _ _ _ hi10) fun w32 hC => dn (sr (Zb (v := .int .i64 (i10 : Int)) rfl (Zb (v := .pointer (some ⟨b0, 0, none⟩)) rfl (J2 rfl (Z1 0 Try.underlying32 rfl sc22.size rfl rfl ?_))))))))))
        refine Zbl (u0_0) (hC.getP 5 rfl) sc22 rfl rfl ?_
        obtain ⟨Ad10, c10, hv13⟩ := Z2 (hC.getP 3 rfl)
        refine Z0 Try.underlying22 (tr rfl hv13) (Zs rfl rfl (Zb (v := .bool (decide ((i10 : Int) < (a0.degrees.length : Int)))) rfl ?_))
        refine Xa (decide ((i10 : Int) < (a0.degrees.length : Int))) (fun hb10 => ?_) (fun hb10 => ?_)
        ·replace h := ift h (ct hb10)
         refine Zm 7 87 rfl rfl hb10 (Zb (v := .pointer (some ⟨b0, 0, none⟩)) rfl (Zm 7 87 rfl rfl hb10 (J2 rfl (Zm 7 87 rfl rfl hb10 (Z1 0 Try.underlying32 rfl sc22.size rfl rfl (Zm 7 87 rfl rfl hb10 (Zbl (u0_0) (hC.getP 5 rfl) sc22 rfl rfl (Zm 7 87 rfl rfl hb10 (Zb (v := .int .i64 (i10 : Int)) rfl (Zm 7 87 rfl rfl hb10 ?_))))))))))
         obtain ⟨⟨h12, h13⟩, h⟩ := h
         obtain ⟨Ad11, c11, hv10⟩ := Z9 (hC.getP 3 rfl) i10 (show i10 < a0.degrees.length by omega)
         refine Xe (len := a0.degrees.length) Try.underlying22 sc2.size (tr rfl hv10) rfl h12 h13 (Zm 7 87 rfl rfl hb10 (X5 (.int .i64 (a0.degrees.getD i10 default)) (Yk (hC.getP 3 rfl) hv10 i10 (show i10 < a0.degrees.length by omega)) sc2 rfl (Zm 7 87 rfl rfl hb10 (Jk rfl rfl (by decide) (Zm 7 87 rfl rfl hb10 (Jl rfl rfl (Yb (v := .bool (decide (Int.tmod (a0.degrees.getD i10 default) 2 = 1))) (b := true) (tr rfl (congrArg _ hb10)) rfl (Zb (v := .bool (decide (Int.tmod (a0.degrees.getD i10 default) 2 = 1))) rfl ?_))))))))
         refine Xa (decide (Int.tmod (a0.degrees.getD i10 default) 2 = 1)) (fun hb12 => ?_) (fun hb12 => ?_)
         ·replace h := ift h (ct hb12)
          refine Zm 18 98 rfl rfl hb12 (Zb (v := .int .i64 (q10.1.get i10)) rfl (Zm 18 98 rfl rfl hb12 (Jk rfl rfl (by decide) (Zm 18 98 rfl rfl hb12 (Jl rfl rfl (Yb (v := .bool (decide (Int.tmod (q10.1.get i10) 2 = 1))) (b := true) (tr rfl (congrArg _ hb12)) rfl (dn ?_)))))))
          refine Zr rfl (fun hb16 => ?_) (fun hb16 => ?_)
          ·replace h := ift h (ct hb16)
           refine Zk (Zb (v := .int .i64 s10.2.2) rfl (Zea rfl (Zc (v := .int .i64 (IntKind.i64.wrap (0 - s10.2.2))) rfl (done (Zt (Zd (Zk (Zq rfl rfl (Zb (v := .int .i64 (IntKind.i64.wrap ((i10 : Int) + 1))) rfl (done ?_))))))))))
           replace hC := hC.sM [1, 2, 3, 4, 5] (M' := [blk b12 101 (A8.enc .i64 (s10.1.set i10 (q10.1.get i10))), blk b11 101 (A8.enc .i64 q10.1), itI (kvA .i64) (vvI .i64) r10 b1 es10 ck10 (some ent10) l10, blk b10 205 cs10, Ze (kvA .i64) (vvI .i64) b7 m10]) (by decide) rfl
           exact hK10 (s10.1.set i10 (q10.1.get i10), m10, IntKind.i64.wrap (0 - s10.2.2)) _ _ ⟨(sl ⟨rfl, rfl, rfl, rfl, rfl, rfl, rfl, rfl, rfl, (tr rfl (congrArg _ (Yi hi10 (by decide)))), trivial⟩), hC⟩ h
          ·replace h := Zi h (cf hb16)
           refine wp_skip (Zt (Zd (Zk (Zq rfl rfl (Zb (v := .int .i64 (IntKind.i64.wrap ((i10 : Int) + 1))) rfl (done ?_))))))
           replace hC := hC.sM [1, 2, 3, 4, 5] (M' := [blk b12 101 (A8.enc .i64 (s10.1.set i10 (q10.1.get i10))), blk b11 101 (A8.enc .i64 q10.1), itI (kvA .i64) (vvI .i64) r10 b1 es10 ck10 (some ent10) l10, blk b10 205 cs10, Ze (kvA .i64) (vvI .i64) b7 m10]) (by decide) rfl
           exact hK10 (s10.1.set i10 (q10.1.get i10), m10, s10.2.2) _ _ ⟨(sl ⟨rfl, rfl, rfl, rfl, rfl, rfl, rfl, rfl, rfl, (tr rfl (congrArg _ (Yi hi10 (by decide)))), trivial⟩), hC⟩ h
         ·replace h := Zi h (cf hb12)
          refine Zn (b := false) 18 98 rfl (tr rfl (congrArg _ hb12)) (by decide) (Zn (b := false) 18 98 rfl (tr rfl (congrArg _ hb12)) (by decide) (Zn (b := false) 18 98 rfl (tr rfl (congrArg _ hb12)) (by decide) (Yb (v := .bool false) (b := false) (tr rfl (congrArg _ hb12)) rfl (dn (Yj rfl rfl (wp_skip (Zt (Zd (Zk (Zq rfl rfl (Zb (v := .int .i64 (IntKind.i64.wrap ((i10 : Int) + 1))) rfl ?_)))))))))))
          refine done ?_
          replace hC := hC.sM [1, 2, 3, 4, 5] (M' := [blk b12 101 (A8.enc .i64 (s10.1.set i10 (q10.1.get i10))), blk b11 101 (A8.enc .i64 q10.1), itI (kvA .i64) (vvI .i64) r10 b1 es10 ck10 (some ent10) l10, blk b10 205 cs10, Ze (kvA .i64) (vvI .i64) b7 m10]) (by decide) rfl
          exact hK10 (s10.1.set i10 (q10.1.get i10), m10, s10.2.2) _ _ ⟨(sl ⟨rfl, rfl, rfl, rfl, rfl, rfl, rfl, rfl, rfl, (tr rfl (congrArg _ (Yi hi10 (by decide)))), trivial⟩), hC⟩ h
        ·replace h := Zi h (cf hb10)
         refine Zn (b := false) 7 87 rfl (tr rfl (congrArg _ hb10)) (by decide) (Zn (b := false) 7 87 rfl (tr rfl (congrArg _ hb10)) (by decide) (Zn (b := false) 7 87 rfl (tr rfl (congrArg _ hb10)) (by decide) (Zn (b := false) 7 87 rfl (tr rfl (congrArg _ hb10)) (by decide) (Zn (b := false) 7 87 rfl (tr rfl (congrArg _ hb10)) (by decide) (Zn (b := false) 7 87 rfl (tr rfl (congrArg _ hb10)) (by decide) (Zn (b := false) 7 87 rfl (tr rfl (congrArg _ hb10)) (by decide) (Zn (b := false) 7 87 rfl (tr rfl (congrArg _ hb10)) (by decide) (Zn (b := false) 7 87 rfl (tr rfl (congrArg _ hb10)) (by decide) (Yb (v := .bool false) (b := false) (tr rfl (congrArg _ hb10)) rfl (Zb (v := .bool false) rfl (Zn (b := false) 18 98 rfl (tr rfl (congrArg _ rfl)) (by decide) ?_)))))))))))
         refine Zn (b := false) 18 98 rfl (tr rfl (congrArg _ rfl)) (by decide) (Zn (b := false) 18 98 rfl (tr rfl (congrArg _ rfl)) (by decide) (Yb (v := .bool false) (b := false) rfl rfl (dn (Yj rfl rfl (wp_skip (Zt (Zd (Zk (Zq rfl rfl (Zb (v := .int .i64 (IntKind.i64.wrap ((i10 : Int) + 1))) rfl (done ?_)))))))))))
         replace hC := hC.sM [1, 2, 3, 4, 5] (M' := [blk b12 101 (A8.enc .i64 (s10.1.set i10 (q10.1.get i10))), blk b11 101 (A8.enc .i64 q10.1), itI (kvA .i64) (vvI .i64) r10 b1 es10 ck10 (some ent10) l10, blk b10 205 cs10, Ze (kvA .i64) (vvI .i64) b7 m10]) (by decide) rfl
         exact hK10 (s10.1.set i10 (q10.1.get i10), m10, s10.2.2) _ _ ⟨(sl ⟨rfl, rfl, rfl, rfl, rfl, rfl, rfl, rfl, rfl, (tr rfl (congrArg _ (Yi hi10 (by decide)))), trivial⟩), hC⟩ h
       refine Xc 0 16 rfl rfl (by kernel_rfl) ?_ ?_
       ·skip
        refine J0 hC (kvA .i64) (vvI .i64) fun b14 w33 hn_ hB_ hC => ?_
        have hnb_b12976 := Nat.le_trans hN_ hn_
        refine done ?_
        refine Zx (Yp hN_ (by assumption)) hN_ (l9 := (Za 22 194547)) (by kernel_rfl) (fun hN_ => ?_)
        refine Xc 2 16 rfl rfl (by kernel_rfl) ?_ ?_
        ·skip
         refine Y4 hC 0 (s10.1.set i10 (IntKind.i64.wrap ((q10.1.get i10) - 1))) 1 rfl Yx Try.underlying99 rfl rfl rfl (fun w34 hBB_ hC => ?_) (.inr rfl)
         refine done ?_
         refine Zx (Yw hN_ hnb_b12976 hBB_) hN_ (l9 := (Za 22 194551)) (by kernel_rfl) (fun hN_ => ?_)
         refine Zp (Ya _) 3 (.map (some b14)) rfl rfl (by kernel_rfl) (hM10 3 rfl) (fun w_ => .inl ⟨rfl, by exact Zg (v := .map (some b14)) rfl⟩) (l9 := (Za 22 194559)) (by kernel_rfl) ?_
         refine Xc 11 16 rfl rfl (by kernel_rfl) ?_ ?_
         ·skip
          refine Zf [.map (some b14), u0_0, .map (some b13)] _ Try.func158 rfl rfl rfl (Yr (Zy ([] : List (A8 × Int)) (s10.1.set i10 (IntKind.i64.wrap ((q10.1.get i10) - 1))) 1) a0.degrees ml10 h _ (hC.getM 0 rfl) (hC.getP 4 rfl) (hC.getP 0 rfl)) (fun ret13 w35 hR13 => ?_)
          obtain ⟨r14, b33, rfl, h, hr12, hf11, hB13⟩ := hR13
          refine ⟨_, rfl, ?_⟩
          replace hC := hC.push hB13 (Ze (kvA .i64) (vvI .i64) b33 r14) hr12 (fun b_ hb_ => by obtain rfl := List.mem_singleton.1 hb_; exact hf11)
          refine done ?_
          refine Zx (Yp hN_ (by assumption)) hN_ (l9 := (Za 22 196607)) (by kernel_rfl) (fun hN_ => ?_)
          refine aO 16 rfl (J0 hC (kvA .i64) (vvI .i64) fun b30 w36 hn_ hB_ hC => ?_)
          have hnb_b12989 := Nat.le_trans hN_ hn_
          refine done ?_
          refine Zx (Yp hN_ (by assumption)) hN_ (l9 := (Za 22 262143)) (by kernel_rfl) (fun hN_ => ?_)
          refine aO 18 rfl ?_
          refine Y4 hC 0 s11.1 1 rfl Yx Try.underlying99 rfl rfl rfl (fun w37 hBB_ hC => ?_) (.inr rfl)
          refine done ?_
          refine Zx (Yw hN_ hnb_b12989 hBB_) hN_ (l9 := (Za 22 524287)) (by kernel_rfl) (fun hN_ => ?_)
          refine Zp (Ya _) 19 (.map (some b30)) rfl rfl (by kernel_rfl) (hM10 19 rfl) (fun w_ => .inl ⟨rfl, by exact Zg (v := .map (some b30)) rfl⟩) (l9 := (Za 22 1048575)) (by kernel_rfl) (Zv 20 (by decide) (by decide) (by kernel_rfl) (by kernel_rfl) rfl ?_)
          refine Zf [.map (some b33), u0_0, .map (some b30)] _ Try.func158 rfl rfl rfl (Yr r14 a0.degrees (Zy ([] : List (A8 × Int)) s11.1 1) h _ (hC.getM 1 rfl) (hC.getP 4 rfl) (hC.getM 0 rfl)) (fun ret14 w38 hR14 => ?_)
          obtain ⟨r13, b20, rfl, h, hr13, hf12, hB14⟩ := hR14
          refine ⟨_, rfl, ?_⟩
          replace hC := hC.push hB14 (Ze (kvA .i64) (vvI .i64) b20 r13) hr13 (fun b_ hb_ => by obtain rfl := List.mem_singleton.1 hb_; exact hf12)
          refine Zc (v := .map (some b20)) rfl (done (Zw ?_))
          replace hC := hC.sM [0, 6, 7, 8, 9, 10] (M' := [Ze (kvA .i64) (vvI .i64) b20 r13, blk b12 101 (A8.enc .i64 s10.1), blk b11 101 (A8.enc .i64 q10.1), itI (kvA .i64) (vvI .i64) r10 b1 es10 ck10 (some ent10) l10, blk b10 205 cs10, Ze (kvA .i64) (vvI .i64) b7 s10.2.1]) (by decide) rfl
          replace hC := hC.sP [1, 2, 3, 4, 5, 6, 7] (Ps' := [Y0 b1 es10 ck10, Ty.item (Xt (kvA .i64) (vvI .i64) 8) r11 cs10 f10, Ty.item TForm.sl a0.images [u0_1] fp0, Ty.item ((EI .i64).ty.sl) a0.degrees [u0_0] fp0, Ty.item TAlg a0 [u0_0, u0_1] fp0, blk b0 32 [u0_0, u0_1], Ze (kvA .i64) (vvI .i64) b1 a1]) rfl
          exact ⟨rfl, _, rfl, ⟨b20, r13, (sl ⟨rfl, rfl, rfl, rfl, rfl, rfl, rfl, rfl, rfl, rfl, rfl, rfl, rfl, trivial⟩), hC, h⟩⟩
         ·skip
          refine J0 hC (kvA .i64) (vvI .i64) fun b18 w39 hn_ hB_ hC => ?_
          have hnb_b13002 := Nat.le_trans hN_ hn_
          refine done ?_
          refine Zx (Yp hN_ (by assumption)) hN_ (l9 := (Za 22 260095)) (by kernel_rfl) (fun hN_ => ?_)
          refine Xc 11 18 rfl rfl (by kernel_rfl) ?_ ?_
          ·skip
           refine Zf [.map (some b14), u0_0, .map (some b13)] _ Try.func158 rfl rfl rfl (Yr (Zy ([] : List (A8 × Int)) (s10.1.set i10 (IntKind.i64.wrap ((q10.1.get i10) - 1))) 1) a0.degrees ml10 h _ (hC.getM 1 rfl) (hC.getP 4 rfl) (hC.getP 0 rfl)) (fun ret15 w40 hR15 => ?_)
           obtain ⟨r25, b34, rfl, h, hr14, hf13, hB15⟩ := hR15
           refine ⟨_, rfl, ?_⟩
           replace hC := hC.push hB15 (Ze (kvA .i64) (vvI .i64) b34 r25) hr14 (fun b_ hb_ => by obtain rfl := List.mem_singleton.1 hb_; exact hf13)
           refine done ?_
           refine Zx (Yp hN_ (by assumption)) hN_ (l9 := (Za 22 262143)) (by kernel_rfl) (fun hN_ => ?_)
           refine aO 18 rfl ?_
           refine Y4 hC 1 s11.1 1 rfl Yx Try.underlying99 rfl rfl rfl (fun w41 hBB_ hC => ?_) (.inr rfl)
           refine done ?_
           refine Zx (Yw hN_ hnb_b13002 hBB_) hN_ (l9 := (Za 22 524287)) (by kernel_rfl) (fun hN_ => ?_)
           refine Zp (Ya _) 19 (.map (some b18)) rfl rfl (by kernel_rfl) (hM10 19 rfl) (fun w_ => .inl ⟨rfl, by exact Zg (v := .map (some b18)) rfl⟩) (l9 := (Za 22 1048575)) (by kernel_rfl) (Zv 20 (by decide) (by decide) (by kernel_rfl) (by kernel_rfl) rfl ?_)
           refine Zf [.map (some b34), u0_0, .map (some b18)] _ Try.func158 rfl rfl rfl (Yr r25 a0.degrees (Zy ([] : List (A8 × Int)) s11.1 1) h _ (hC.getM 0 rfl) (hC.getP 4 rfl) (hC.getM 1 rfl)) (fun ret16 w42 hR16 => ?_)
           obtain ⟨r16, b21, rfl, h, hr15, hf14, hB16⟩ := hR16
           refine ⟨_, rfl, ?_⟩
           replace hC := hC.push hB16 (Ze (kvA .i64) (vvI .i64) b21 r16) hr15 (fun b_ hb_ => by obtain rfl := List.mem_singleton.1 hb_; exact hf14)
           refine Zc (v := .map (some b21)) rfl (done (Zw ?_))
           replace hC := hC.sM [0, 6, 7, 8, 9, 10] (M' := [Ze (kvA .i64) (vvI .i64) b21 r16, blk b12 101 (A8.enc .i64 s10.1), blk b11 101 (A8.enc .i64 q10.1), itI (kvA .i64) (vvI .i64) r10 b1 es10 ck10 (some ent10) l10, blk b10 205 cs10, Ze (kvA .i64) (vvI .i64) b7 s10.2.1]) (by decide) rfl
           replace hC := hC.sP [1, 2, 3, 4, 5, 6, 7] (Ps' := [Y0 b1 es10 ck10, Ty.item (Xt (kvA .i64) (vvI .i64) 8) r11 cs10 f10, Ty.item TForm.sl a0.images [u0_1] fp0, Ty.item ((EI .i64).ty.sl) a0.degrees [u0_0] fp0, Ty.item TAlg a0 [u0_0, u0_1] fp0, blk b0 32 [u0_0, u0_1], Ze (kvA .i64) (vvI .i64) b1 a1]) rfl
           exact ⟨rfl, _, rfl, ⟨b21, r16, (sl ⟨rfl, rfl, rfl, rfl, rfl, rfl, rfl, rfl, rfl, rfl, rfl, rfl, rfl, trivial⟩), hC, h⟩⟩
          ·skip
           refine Y4 hC 0 s11.1 1 rfl Yx Try.underlying99 rfl rfl rfl (fun w43 hBB_ hC => ?_) (.inr rfl)
           refine done ?_
           refine Zx (Yw hN_ hnb_b13002 hBB_) hN_ (l9 := (Za 22 522239)) (by kernel_rfl) (fun hN_ => ?_)
           refine Zp (Ya _) 19 (.map (some b18)) rfl rfl (by kernel_rfl) (hM10 19 rfl) (fun w_ => .inl ⟨rfl, by exact Zg (v := .map (some b18)) rfl⟩) (l9 := (Za 22 1046527)) (by kernel_rfl) (aO 11 rfl ?_)
           refine Zf [.map (some b14), u0_0, .map (some b13)] _ Try.func158 rfl rfl rfl (Yr (Zy ([] : List (A8 × Int)) (s10.1.set i10 (IntKind.i64.wrap ((q10.1.get i10) - 1))) 1) a0.degrees ml10 h _ (hC.getM 1 rfl) (hC.getP 4 rfl) (hC.getP 0 rfl)) (fun ret17 w44 hR17 => ?_)
           obtain ⟨r26, b35, rfl, h, hr16, hf15, hB17⟩ := hR17
           refine ⟨_, rfl, ?_⟩
           replace hC := hC.push hB17 (Ze (kvA .i64) (vvI .i64) b35 r26) hr16 (fun b_ hb_ => by obtain rfl := List.mem_singleton.1 hb_; exact hf15)
           refine done ?_
           refine Zx (Yp hN_ (by assumption)) hN_ (l9 := (Za 22 1048575)) (by kernel_rfl) (fun hN_ => ?_)
           refine Zv 20 (by decide) (by decide) (by kernel_rfl) (by kernel_rfl) rfl ?_
           refine Zf [.map (some b35), u0_0, .map (some b18)] _ Try.func158 rfl rfl rfl (Yr r26 a0.degrees (Zy ([] : List (A8 × Int)) s11.1 1) h _ (hC.getM 0 rfl) (hC.getP 4 rfl) (hC.getM 1 rfl)) (fun ret18 w45 hR18 => ?_)
           obtain ⟨r17, b22, rfl, h, hr17, hf16, hB18⟩ := hR18
           refine ⟨_, rfl, ?_⟩
           replace hC := hC.push hB18 (Ze (kvA .i64) (vvI .i64) b22 r17) hr17 (fun b_ hb_ => by obtain rfl := List.mem_singleton.1 hb_; exact hf16)
           refine Zc (v := .map (some b22)) rfl (done (Zw ?_))
           replace hC := hC.sM [0, 6, 7, 8, 9, 10] (M' := [Ze (kvA .i64) (vvI .i64) b22 r17, blk b12 101 (A8.enc .i64 s10.1), blk b11 101 (A8.enc .i64 q10.1), itI (kvA .i64) (vvI .i64) r10 b1 es10 ck10 (some ent10) l10, blk b10 205 cs10, Ze (kvA .i64) (vvI .i64) b7 s10.2.1]) (by decide) rfl
           replace hC := hC.sP [1, 2, 3, 4, 5, 6, 7] (Ps' := [Y0 b1 es10 ck10, Ty.item (Xt (kvA .i64) (vvI .i64) 8) r11 cs10 f10, Ty.item TForm.sl a0.images [u0_1] fp0, Ty.item ((EI .i64).ty.sl) a0.degrees [u0_0] fp0, Ty.item TAlg a0 [u0_0, u0_1] fp0, blk b0 32 [u0_0, u0_1], Ze (kvA .i64) (vvI .i64) b1 a1]) rfl
           exact ⟨rfl, _, rfl, ⟨b22, r17, (sl ⟨rfl, rfl, rfl, rfl, rfl, rfl, rfl, rfl, rfl, rfl, rfl, rfl, rfl, trivial⟩), hC, h⟩⟩
        ·skip
         refine J0 hC (kvA .i64) (vvI .i64) fun b16 w46 hn_ hB_ hC => ?_
         have hnb_b13043 := Nat.le_trans hN_ hn_
         refine done ?_
         refine Zx (Yp hN_ (by assumption)) hN_ (l9 := (Za 22 260083)) (by kernel_rfl) (fun hN_ => ?_)
         refine Xc 2 18 rfl rfl (by kernel_rfl) ?_ ?_
         ·skip
          refine Y4 hC 1 (s10.1.set i10 (IntKind.i64.wrap ((q10.1.get i10) - 1))) 1 rfl Yx Try.underlying99 rfl rfl rfl (fun w47 hBB_ hC => ?_) (.inr rfl)
          refine done ?_
          refine Zx (Yw hN_ hnb_b12976 hBB_) hN_ (l9 := (Za 22 260087)) (by kernel_rfl) (fun hN_ => ?_)
          refine Zp (Ya _) 3 (.map (some b14)) rfl rfl (by kernel_rfl) (hM10 3 rfl) (fun w_ => .inl ⟨rfl, by exact Zg (v := .map (some b14)) rfl⟩) (l9 := (Za 22 260095)) (by kernel_rfl) ?_
          refine Xc 11 18 rfl rfl (by kernel_rfl) ?_ ?_
          ·skip
           refine Zf [.map (some b14), u0_0, .map (some b13)] _ Try.func158 rfl rfl rfl (Yr (Zy ([] : List (A8 × Int)) (s10.1.set i10 (IntKind.i64.wrap ((q10.1.get i10) - 1))) 1) a0.degrees ml10 h _ (hC.getM 1 rfl) (hC.getP 4 rfl) (hC.getP 0 rfl)) (fun ret19 w48 hR19 => ?_)
           obtain ⟨r27, b36, rfl, h, hr18, hf17, hB19⟩ := hR19
           refine ⟨_, rfl, ?_⟩
           replace hC := hC.push hB19 (Ze (kvA .i64) (vvI .i64) b36 r27) hr18 (fun b_ hb_ => by obtain rfl := List.mem_singleton.1 hb_; exact hf17)
           refine done ?_
           refine Zx (Yp hN_ (by assumption)) hN_ (l9 := (Za 22 262143)) (by kernel_rfl) (fun hN_ => ?_)
           refine aO 18 rfl ?_
           refine Y4 hC 1 s11.1 1 rfl Yx Try.underlying99 rfl rfl rfl (fun w49 hBB_ hC => ?_) (.inr rfl)
           refine done ?_
           refine Zx (Yw hN_ hnb_b13043 hBB_) hN_ (l9 := (Za 22 524287)) (by kernel_rfl) (fun hN_ => ?_)
           refine Zp (Ya _) 19 (.map (some b16)) rfl rfl (by kernel_rfl) (hM10 19 rfl) (fun w_ => .inl ⟨rfl, by exact Zg (v := .map (some b16)) rfl⟩) (l9 := (Za 22 1048575)) (by kernel_rfl) (Zv 20 (by decide) (by decide) (by kernel_rfl) (by kernel_rfl) rfl ?_)
           refine Zf [.map (some b36), u0_0, .map (some b16)] _ Try.func158 rfl rfl rfl (Yr r27 a0.degrees (Zy ([] : List (A8 × Int)) s11.1 1) h _ (hC.getM 0 rfl) (hC.getP 4 rfl) (hC.getM 1 rfl)) (fun ret20 w50 hR20 => ?_)
           obtain ⟨r18, b23, rfl, h, hr19, hf18, hB20⟩ := hR20
           refine ⟨_, rfl, ?_⟩
           replace hC := hC.push hB20 (Ze (kvA .i64) (vvI .i64) b23 r18) hr19 (fun b_ hb_ => by obtain rfl := List.mem_singleton.1 hb_; exact hf18)
           refine Zc (v := .map (some b23)) rfl (done (Zw ?_))
           replace hC := hC.sM [0, 6, 7, 8, 9, 10] (M' := [Ze (kvA .i64) (vvI .i64) b23 r18, blk b12 101 (A8.enc .i64 s10.1), blk b11 101 (A8.enc .i64 q10.1), itI (kvA .i64) (vvI .i64) r10 b1 es10 ck10 (some ent10) l10, blk b10 205 cs10, Ze (kvA .i64) (vvI .i64) b7 s10.2.1]) (by decide) rfl
           replace hC := hC.sP [1, 2, 3, 4, 5, 6, 7] (Ps' := [Y0 b1 es10 ck10, Ty.item (Xt (kvA .i64) (vvI .i64) 8) r11 cs10 f10, Ty.item TForm.sl a0.images [u0_1] fp0, Ty.item ((EI .i64).ty.sl) a0.degrees [u0_0] fp0, Ty.item TAlg a0 [u0_0, u0_1] fp0, blk b0 32 [u0_0, u0_1], Ze (kvA .i64) (vvI .i64) b1 a1]) rfl
           exact ⟨rfl, _, rfl, ⟨b23, r18, (sl ⟨rfl, rfl, rfl, rfl, rfl, rfl, rfl, rfl, rfl, rfl, rfl, rfl, rfl, trivial⟩), hC, h⟩⟩
          ·skip
           refine Y4 hC 0 s11.1 1 rfl Yx Try.underlying99 rfl rfl rfl (fun w51 hBB_ hC => ?_) (.inr rfl)
           refine done ?_
           refine Zx (Yw hN_ hnb_b13043 hBB_) hN_ (l9 := (Za 22 522239)) (by kernel_rfl) (fun hN_ => ?_)
           refine Zp (Ya _) 19 (.map (some b16)) rfl rfl (by kernel_rfl) (hM10 19 rfl) (fun w_ => .inl ⟨rfl, by exact Zg (v := .map (some b16)) rfl⟩) (l9 := (Za 22 1046527)) (by kernel_rfl) (aO 11 rfl ?_)
           refine Zf [.map (some b14), u0_0, .map (some b13)] _ Try.func158 rfl rfl rfl (Yr (Zy ([] : List (A8 × Int)) (s10.1.set i10 (IntKind.i64.wrap ((q10.1.get i10) - 1))) 1) a0.degrees ml10 h _ (hC.getM 1 rfl) (hC.getP 4 rfl) (hC.getP 0 rfl)) (fun ret21 w52 hR21 => ?_)
           obtain ⟨r28, b37, rfl, h, hr20, hf19, hB21⟩ := hR21
           refine ⟨_, rfl, ?_⟩
           replace hC := hC.push hB21 (Ze (kvA .i64) (vvI .i64) b37 r28) hr20 (fun b_ hb_ => by obtain rfl := List.mem_singleton.1 hb_; exact hf19)
           refine done ?_
           refine Zx (Yp hN_ (by assumption)) hN_ (l9 := (Za 22 1048575)) (by kernel_rfl) (fun hN_ => ?_)
           refine Zv 20 (by decide) (by decide) (by kernel_rfl) (by kernel_rfl) rfl ?_
           refine Zf [.map (some b37), u0_0, .map (some b16)] _ Try.func158 rfl rfl rfl (Yr r28 a0.degrees (Zy ([] : List (A8 × Int)) s11.1 1) h _ (hC.getM 0 rfl) (hC.getP 4 rfl) (hC.getM 1 rfl)) (fun ret22 w53 hR22 => ?_)
           obtain ⟨r19, b24, rfl, h, hr21, hf20, hB22⟩ := hR22
           refine ⟨_, rfl, ?_⟩
           replace hC := hC.push hB22 (Ze (kvA .i64) (vvI .i64) b24 r19) hr21 (fun b_ hb_ => by obtain rfl := List.mem_singleton.1 hb_; exact hf20)
           refine Zc (v := .map (some b24)) rfl (done (Zw ?_))
           replace hC := hC.sM [0, 6, 7, 8, 9, 10] (M' := [Ze (kvA .i64) (vvI .i64) b24 r19, blk b12 101 (A8.enc .i64 s10.1), blk b11 101 (A8.enc .i64 q10.1), itI (kvA .i64) (vvI .i64) r10 b1 es10 ck10 (some ent10) l10, blk b10 205 cs10, Ze (kvA .i64) (vvI .i64) b7 s10.2.1]) (by decide) rfl
           replace hC := hC.sP [1, 2, 3, 4, 5, 6, 7] (Ps' := [Y0 b1 es10 ck10, Ty.item (Xt (kvA .i64) (vvI .i64) 8) r11 cs10 f10, Ty.item TForm.sl a0.images [u0_1] fp0, Ty.item ((EI .i64).ty.sl) a0.degrees [u0_0] fp0, Ty.item TAlg a0 [u0_0, u0_1] fp0, blk b0 32 [u0_0, u0_1], Ze (kvA .i64) (vvI .i64) b1 a1]) rfl
           exact ⟨rfl, _, rfl, ⟨b24, r19, (sl ⟨rfl, rfl, rfl, rfl, rfl, rfl, rfl, rfl, rfl, rfl, rfl, rfl, rfl, trivial⟩), hC, h⟩⟩
         ·skip
          refine Y4 hC 0 s11.1 1 rfl Yx Try.underlying99 rfl rfl rfl (fun w54 hBB_ hC => ?_) (.inr rfl)
          refine done ?_
          refine Zx (Yw hN_ hnb_b13043 hBB_) hN_ (l9 := (Za 22 522227)) (by kernel_rfl) (fun hN_ => ?_)
          refine Zp (Ya _) 19 (.map (some b16)) rfl rfl (by kernel_rfl) (hM10 19 rfl) (fun w_ => .inl ⟨rfl, by exact Zg (v := .map (some b16)) rfl⟩) (l9 := (Za 22 1046515)) (by kernel_rfl) (aO 2 rfl ?_)
          refine Y4 hC 1 (s10.1.set i10 (IntKind.i64.wrap ((q10.1.get i10) - 1))) 1 rfl Yx Try.underlying99 rfl rfl rfl (fun w55 hBB_ hC => ?_) (.inr rfl)
          refine done ?_
          refine Zx (Yw hN_ hnb_b12976 hBB_) hN_ (l9 := (Za 22 1046519)) (by kernel_rfl) (fun hN_ => ?_)
          refine Zp (Ya _) 3 (.map (some b14)) rfl rfl (by kernel_rfl) (hM10 3 rfl) (fun w_ => .inl ⟨rfl, by exact Zg (v := .map (some b14)) rfl⟩) (l9 := (Za 22 1046527)) (by kernel_rfl) (aO 11 rfl ?_)
          refine Zf [.map (some b14), u0_0, .map (some b13)] _ Try.func158 rfl rfl rfl (Yr (Zy ([] : List (A8 × Int)) (s10.1.set i10 (IntKind.i64.wrap ((q10.1.get i10) - 1))) 1) a0.degrees ml10 h _ (hC.getM 1 rfl) (hC.getP 4 rfl) (hC.getP 0 rfl)) (fun ret23 w56 hR23 => ?_)
          obtain ⟨r29, b38, rfl, h, hr22, hf21, hB23⟩ := hR23
          refine ⟨_, rfl, ?_⟩
          replace hC := hC.push hB23 (Ze (kvA .i64) (vvI .i64) b38 r29) hr22 (fun b_ hb_ => by obtain rfl := List.mem_singleton.1 hb_; exact hf21)
          refine done ?_
          refine Zx (Yp hN_ (by assumption)) hN_ (l9 := (Za 22 1048575)) (by kernel_rfl) (fun hN_ => ?_)
          refine Zv 20 (by decide) (by decide) (by kernel_rfl) (by kernel_rfl) rfl ?_
          refine Zf [.map (some b38), u0_0, .map (some b16)] _ Try.func158 rfl rfl rfl (Yr r29 a0.degrees (Zy ([] : List (A8 × Int)) s11.1 1) h _ (hC.getM 0 rfl) (hC.getP 4 rfl) (hC.getM 1 rfl)) (fun ret24 w57 hR24 => ?_)
          obtain ⟨r20, b25, rfl, h, hr23, hf22, hB24⟩ := hR24
          refine ⟨_, rfl, ?_⟩
          replace hC := hC.push hB24 (Ze (kvA .i64) (vvI .i64) b25 r20) hr23 (fun b_ hb_ => by obtain rfl := List.mem_singleton.1 hb_; exact hf22)
          refine Zc (v := .map (some b25)) rfl (done (Zw ?_))
          replace hC := hC.sM [0, 6, 7, 8, 9, 10] (M' := [Ze (kvA .i64) (vvI .i64) b25 r20, blk b12 101 (A8.enc .i64 s10.1), blk b11 101 (A8.enc .i64 q10.1), itI (kvA .i64) (vvI .i64) r10 b1 es10 ck10 (some ent10) l10, blk b10 205 cs10, Ze (kvA .i64) (vvI .i64) b7 s10.2.1]) (by decide) rfl
          replace hC := hC.sP [1, 2, 3, 4, 5, 6, 7] (Ps' := [Y0 b1 es10 ck10, Ty.item (Xt (kvA .i64) (vvI .i64) 8) r11 cs10 f10, Ty.item TForm.sl a0.images [u0_1] fp0, Ty.item ((EI .i64).ty.sl) a0.degrees [u0_0] fp0, Ty.item TAlg a0 [u0_0, u0_1] fp0, blk b0 32 [u0_0, u0_1], Ze (kvA .i64) (vvI .i64) b1 a1]) rfl
          exact ⟨rfl, _, rfl, ⟨b25, r20, (sl ⟨rfl, rfl, rfl, rfl, rfl, rfl, rfl, rfl, rfl, rfl, rfl, rfl, rfl, trivial⟩), hC, h⟩⟩
       ·skip
        refine J0 hC (kvA .i64) (vvI .i64) fun b15 w58 hn_ hB_ hC => ?_
        have hnb_b13105 := Nat.le_trans hN_ hn_
        refine done ?_
        refine Zx (Yp hN_ (by assumption)) hN_ (l9 := (Za 22 260082)) (by kernel_rfl) (fun hN_ => ?_)
        refine Xc 0 18 rfl rfl (by kernel_rfl) ?_ ?_
        ·skip
         refine J0 hC (kvA .i64) (vvI .i64) fun b17 w59 hn_ hB_ hC => ?_
         have hnb_b13108 := Nat.le_trans hN_ hn_
         refine done ?_
         refine Zx (Yp hN_ (by assumption)) hN_ (l9 := (Za 22 260083)) (by kernel_rfl) (fun hN_ => ?_)
         refine Xc 2 18 rfl rfl (by kernel_rfl) ?_ ?_
         ·skip
          refine Y4 hC 0 (s10.1.set i10 (IntKind.i64.wrap ((q10.1.get i10) - 1))) 1 rfl Yx Try.underlying99 rfl rfl rfl (fun w60 hBB_ hC => ?_) (.inr rfl)
          refine done ?_
          refine Zx (Yw hN_ hnb_b13108 hBB_) hN_ (l9 := (Za 22 260087)) (by kernel_rfl) (fun hN_ => ?_)
          refine Zp (Ya _) 3 (.map (some b17)) rfl rfl (by kernel_rfl) (hM10 3 rfl) (fun w_ => .inl ⟨rfl, by exact Zg (v := .map (some b17)) rfl⟩) (l9 := (Za 22 260095)) (by kernel_rfl) ?_
          refine Xc 11 18 rfl rfl (by kernel_rfl) ?_ ?_
          ·skip
           refine Zf [.map (some b17), u0_0, .map (some b13)] _ Try.func158 rfl rfl rfl (Yr (Zy ([] : List (A8 × Int)) (s10.1.set i10 (IntKind.i64.wrap ((q10.1.get i10) - 1))) 1) a0.degrees ml10 h _ (hC.getM 0 rfl) (hC.getP 4 rfl) (hC.getP 0 rfl)) (fun ret25 w61 hR25 => ?_)
           obtain ⟨r30, b39, rfl, h, hr24, hf23, hB25⟩ := hR25
           refine ⟨_, rfl, ?_⟩
           replace hC := hC.push hB25 (Ze (kvA .i64) (vvI .i64) b39 r30) hr24 (fun b_ hb_ => by obtain rfl := List.mem_singleton.1 hb_; exact hf23)
           refine done ?_
           refine Zx (Yp hN_ (by assumption)) hN_ (l9 := (Za 22 262143)) (by kernel_rfl) (fun hN_ => ?_)
           refine aO 18 rfl ?_
           refine Y4 hC 2 s11.1 1 rfl Yx Try.underlying99 rfl rfl rfl (fun w62 hBB_ hC => ?_) (.inr rfl)
           refine done ?_
           refine Zx (Yw hN_ hnb_b13105 hBB_) hN_ (l9 := (Za 22 524287)) (by kernel_rfl) (fun hN_ => ?_)
           refine Zp (Ya _) 19 (.map (some b15)) rfl rfl (by kernel_rfl) (hM10 19 rfl) (fun w_ => .inl ⟨rfl, by exact Zg (v := .map (some b15)) rfl⟩) (l9 := (Za 22 1048575)) (by kernel_rfl) (Zv 20 (by decide) (by decide) (by kernel_rfl) (by kernel_rfl) rfl ?_)
           refine Zf [.map (some b39), u0_0, .map (some b15)] _ Try.func158 rfl rfl rfl (Yr r30 a0.degrees (Zy ([] : List (A8 × Int)) s11.1 1) h _ (hC.getM 0 rfl) (hC.getP 4 rfl) (hC.getM 2 rfl)) (fun ret26 w63 hR26 => ?_)
           obtain ⟨r21, b26, rfl, h, hr25, hf24, hB26⟩ := hR26
           refine ⟨_, rfl, ?_⟩
           replace hC := hC.push hB26 (Ze (kvA .i64) (vvI .i64) b26 r21) hr25 (fun b_ hb_ => by obtain rfl := List.mem_singleton.1 hb_; exact hf24)
           refine Zc (v := .map (some b26)) rfl (done (Zw ?_))
           replace hC := hC.sM [0, 6, 7, 8, 9, 10] (M' := [Ze (kvA .i64) (vvI .i64) b26 r21, blk b12 101 (A8.enc .i64 s10.1), blk b11 101 (A8.enc .i64 q10.1), itI (kvA .i64) (vvI .i64) r10 b1 es10 ck10 (some ent10) l10, blk b10 205 cs10, Ze (kvA .i64) (vvI .i64) b7 s10.2.1]) (by decide) rfl
           replace hC := hC.sP [1, 2, 3, 4, 5, 6, 7] (Ps' := [Y0 b1 es10 ck10, Ty.item (Xt (kvA .i64) (vvI .i64) 8) r11 cs10 f10, Ty.item TForm.sl a0.images [u0_1] fp0, Ty.item ((EI .i64).ty.sl) a0.degrees [u0_0] fp0, Ty.item TAlg a0 [u0_0, u0_1] fp0, blk b0 32 [u0_0, u0_1], Ze (kvA .i64) (vvI .i64) b1 a1]) rfl
           exact ⟨rfl, _, rfl, ⟨b26, r21, (sl ⟨rfl, rfl, rfl, rfl, rfl, rfl, rfl, rfl, rfl, rfl, rfl, rfl, rfl, trivial⟩), hC, h⟩⟩
          ·skip
           refine Y4 hC 1 s11.1 1 rfl Yx Try.underlying99 rfl rfl rfl (fun w64 hBB_ hC => ?_) (.inr rfl)
           refine done ?_
           refine Zx (Yw hN_ hnb_b13105 hBB_) hN_ (l9 := (Za 22 522239)) (by kernel_rfl) (fun hN_ => ?_)
           refine Zp (Ya _) 19 (.map (some b15)) rfl rfl (by kernel_rfl) (hM10 19 rfl) (fun w_ => .inl ⟨rfl, by exact Zg (v := .map (some b15)) rfl⟩) (l9 := (Za 22 1046527)) (by kernel_rfl) (aO 11 rfl ?_)
           refine Zf [.map (some b17), u0_0, .map (some b13)] _ Try.func158 rfl rfl rfl (Yr (Zy ([] : List (A8 × Int)) (s10.1.set i10 (IntKind.i64.wrap ((q10.1.get i10) - 1))) 1) a0.degrees ml10 h _ (hC.getM 0 rfl) (hC.getP 4 rfl) (hC.getP 0 rfl)) (fun ret27 w65 hR27 => ?_)
           obtain ⟨r31, b40, rfl, h, hr26, hf25, hB27⟩ := hR27
           refine ⟨_, rfl, ?_⟩
           replace hC := hC.push hB27 (Ze (kvA .i64) (vvI .i64) b40 r31) hr26 (fun b_ hb_ => by obtain rfl := List.mem_singleton.1 hb_; exact hf25)
           refine done ?_
           refine Zx (Yp hN_ (by assumption)) hN_ (l9 := (Za 22 1048575)) (by kernel_rfl) (fun hN_ => ?_)
           refine Zv 20 (by decide) (by decide) (by kernel_rfl) (by kernel_rfl) rfl ?_
           refine Zf [.map (some b40), u0_0, .map (some b15)] _ Try.func158 rfl rfl rfl (Yr r31 a0.degrees (Zy ([] : List (A8 × Int)) s11.1 1) h _ (hC.getM 0 rfl) (hC.getP 4 rfl) (hC.getM 2 rfl)) (fun ret28 w66 hR28 => ?_)
           obtain ⟨r22, b27, rfl, h, hr27, hf26, hB28⟩ := hR28
           refine ⟨_, rfl, ?_⟩
           replace hC := hC.push hB28 (Ze (kvA .i64) (vvI .i64) b27 r22) hr27 (fun b_ hb_ => by obtain rfl := List.mem_singleton.1 hb_; exact hf26)
           refine Zc (v := .map (some b27)) rfl (done (Zw ?_))
           replace hC := hC.sM [0, 6, 7, 8, 9, 10] (M' := [Ze (kvA .i64) (vvI .i64) b27 r22, blk b12 101 (A8.enc .i64 s10.1), blk b11 101 (A8.enc .i64 q10.1), itI (kvA .i64) (vvI .i64) r10 b1 es10 ck10 (some ent10) l10, blk b10 205 cs10, Ze (kvA .i64) (vvI .i64) b7 s10.2.1]) (by decide) rfl
           replace hC := hC.sP [1, 2, 3, 4, 5, 6, 7] (Ps' := [Y0 b1 es10 ck10, Ty.item (Xt (kvA .i64) (vvI .i64) 8) r11 cs10 f10, Ty.item TForm.sl a0.images [u0_1] fp0, Ty.item ((EI .i64).ty.sl) a0.degrees [u0_0] fp0, Ty.item TAlg a0 [u0_0, u0_1] fp0, blk b0 32 [u0_0, u0_1], Ze (kvA .i64) (vvI .i64) b1 a1]) rfl
           exact ⟨rfl, _, rfl, ⟨b27, r22, (sl ⟨rfl, rfl, rfl, rfl, rfl, rfl, rfl, rfl, rfl, rfl, rfl, rfl, rfl, trivial⟩), hC, h⟩⟩
         ·skip
          refine Y4 hC 1 s11.1 1 rfl Yx Try.underlying99 rfl rfl rfl (fun w67 hBB_ hC => ?_) (.inr rfl)
          refine done ?_
          refine Zx (Yw hN_ hnb_b13105 hBB_) hN_ (l9 := (Za 22 522227)) (by kernel_rfl) (fun hN_ => ?_)
          refine Zp (Ya _) 19 (.map (some b15)) rfl rfl (by kernel_rfl) (hM10 19 rfl) (fun w_ => .inl ⟨rfl, by exact Zg (v := .map (some b15)) rfl⟩) (l9 := (Za 22 1046515)) (by kernel_rfl) (aO 2 rfl ?_)
          refine Y4 hC 0 (s10.1.set i10 (IntKind.i64.wrap ((q10.1.get i10) - 1))) 1 rfl Yx Try.underlying99 rfl rfl rfl (fun w68 hBB_ hC => ?_) (.inr rfl)
          refine done ?_
          refine Zx (Yw hN_ hnb_b13108 hBB_) hN_ (l9 := (Za 22 1046519)) (by kernel_rfl) (fun hN_ => ?_)
          refine Zp (Ya _) 3 (.map (some b17)) rfl rfl (by kernel_rfl) (hM10 3 rfl) (fun w_ => .inl ⟨rfl, by exact Zg (v := .map (some b17)) rfl⟩) (l9 := (Za 22 1046527)) (by kernel_rfl) (aO 11 rfl ?_)
          refine Zf [.map (some b17), u0_0, .map (some b13)] _ Try.func158 rfl rfl rfl (Yr (Zy ([] : List (A8 × Int)) (s10.1.set i10 (IntKind.i64.wrap ((q10.1.get i10) - 1))) 1) a0.degrees ml10 h _ (hC.getM 0 rfl) (hC.getP 4 rfl) (hC.getP 0 rfl)) (fun ret29 w69 hR29 => ?_)
          obtain ⟨r32, b41, rfl, h, hr28, hf27, hB29⟩ := hR29
          refine ⟨_, rfl, ?_⟩
          replace hC := hC.push hB29 (Ze (kvA .i64) (vvI .i64) b41 r32) hr28 (fun b_ hb_ => by obtain rfl := List.mem_singleton.1 hb_; exact hf27)
          refine done ?_
          refine Zx (Yp hN_ (by assumption)) hN_ (l9 := (Za 22 1048575)) (by kernel_rfl) (fun hN_ => ?_)
          refine Zv 20 (by decide) (by decide) (by kernel_rfl) (by kernel_rfl) rfl ?_
          refine Zf [.map (some b41), u0_0, .map (some b15)] _ Try.func158 rfl rfl rfl (Yr r32 a0.degrees (Zy ([] : List (A8 × Int)) s11.1 1) h _ (hC.getM 0 rfl) (hC.getP 4 rfl) (hC.getM 2 rfl)) (fun ret30 w70 hR30 => ?_)
          obtain ⟨r23, b28, rfl, h, hr29, hf28, hB30⟩ := hR30
          refine ⟨_, rfl, ?_⟩
          replace hC := hC.push hB30 (Ze (kvA .i64) (vvI .i64) b28 r23) hr29 (fun b_ hb_ => by obtain rfl := List.mem_singleton.1 hb_; exact hf28)
          refine Zc (v := .map (some b28)) rfl (done (Zw ?_))
          replace hC := hC.sM [0, 6, 7, 8, 9, 10] (M' := [Ze (kvA .i64) (vvI .i64) b28 r23, blk b12 101 (A8.enc .i64 s10.1), blk b11 101 (A8.enc .i64 q10.1), itI (kvA .i64) (vvI .i64) r10 b1 es10 ck10 (some ent10) l10, blk b10 205 cs10, Ze (kvA .i64) (vvI .i64) b7 s10.2.1]) (by decide) rfl
          replace hC := hC.sP [1, 2, 3, 4, 5, 6, 7] (Ps' := [Y0 b1 es10 ck10, Ty.item (Xt (kvA .i64) (vvI .i64) 8) r11 cs10 f10, Ty.item TForm.sl a0.images [u0_1] fp0, Ty.item ((EI .i64).ty.sl) a0.degrees [u0_0] fp0, Ty.item TAlg a0 [u0_0, u0_1] fp0, blk b0 32 [u0_0, u0_1], Ze (kvA .i64) (vvI .i64) b1 a1]) rfl
          exact ⟨rfl, _, rfl, ⟨b28, r23, (sl ⟨rfl, rfl, rfl, rfl, rfl, rfl, rfl, rfl, rfl, rfl, rfl, rfl, rfl, trivial⟩), hC, h⟩⟩
        ·skip
         refine Y4 hC 0 s11.1 1 rfl Yx Try.underlying99 rfl rfl rfl (fun w71 hBB_ hC => ?_) (.inr rfl)
         refine done ?_
         refine Zx (Yw hN_ hnb_b13105 hBB_) hN_ (l9 := (Za 22 522226)) (by kernel_rfl) (fun hN_ => ?_)
         refine Zp (Ya _) 19 (.map (some b15)) rfl rfl (by kernel_rfl) (hM10 19 rfl) (fun w_ => .inl ⟨rfl, by exact Zg (v := .map (some b15)) rfl⟩) (l9 := (Za 22 1046514)) (by kernel_rfl) (aO 0 rfl (J0 hC (kvA .i64) (vvI .i64) fun b31 w72 hn_ hB_ hC => ?_))
         have hnb_b13171 := Nat.le_trans hN_ hn_
         refine done ?_
         refine Zx (Yp hN_ (by assumption)) hN_ (l9 := (Za 22 1046515)) (by kernel_rfl) (fun hN_ => ?_)
         refine aO 2 rfl ?_
         refine Y4 hC 0 (s10.1.set i10 (IntKind.i64.wrap ((q10.1.get i10) - 1))) 1 rfl Yx Try.underlying99 rfl rfl rfl (fun w73 hBB_ hC => ?_) (.inr rfl)
         refine done ?_
         refine Zx (Yw hN_ hnb_b13171 hBB_) hN_ (l9 := (Za 22 1046519)) (by kernel_rfl) (fun hN_ => ?_)
         refine Zp (Ya _) 3 (.map (some b31)) rfl rfl (by kernel_rfl) (hM10 3 rfl) (fun w_ => .inl ⟨rfl, by exact Zg (v := .map (some b31)) rfl⟩) (l9 := (Za 22 1046527)) (by kernel_rfl) (aO 11 rfl ?_)
         refine Zf [.map (some b31), u0_0, .map (some b13)] _ Try.func158 rfl rfl rfl (Yr (Zy ([] : List (A8 × Int)) (s10.1.set i10 (IntKind.i64.wrap ((q10.1.get i10) - 1))) 1) a0.degrees ml10 h _ (hC.getM 0 rfl) (hC.getP 4 rfl) (hC.getP 0 rfl)) (fun ret31 w74 hR31 => ?_)
         obtain ⟨r33, b42, rfl, h, hr30, hf29, hB31⟩ := hR31
         refine ⟨_, rfl, ?_⟩
         replace hC := hC.push hB31 (Ze (kvA .i64) (vvI .i64) b42 r33) hr30 (fun b_ hb_ => by obtain rfl := List.mem_singleton.1 hb_; exact hf29)
         refine done ?_
         refine Zx (Yp hN_ (by assumption)) hN_ (l9 := (Za 22 1048575)) (by kernel_rfl) (fun hN_ => ?_)
         refine Zv 20 (by decide) (by decide) (by kernel_rfl) (by kernel_rfl) rfl ?_
         refine Zf [.map (some b42), u0_0, .map (some b15)] _ Try.func158 rfl rfl rfl (Yr r33 a0.degrees (Zy ([] : List (A8 × Int)) s11.1 1) h _ (hC.getM 0 rfl) (hC.getP 4 rfl) (hC.getM 2 rfl)) (fun ret32 w75 hR32 => ?_)
         obtain ⟨r24, b29, rfl, h, hr31, hf30, hB32⟩ := hR32
         refine ⟨_, rfl, ?_⟩
         replace hC := hC.push hB32 (Ze (kvA .i64) (vvI .i64) b29 r24) hr31 (fun b_ hb_ => by obtain rfl := List.mem_singleton.1 hb_; exact hf30)
         refine Zc (v := .map (some b29)) rfl (done (Zw ?_))
         replace hC := hC.sM [0, 6, 7, 8, 9, 10] (M' := [Ze (kvA .i64) (vvI .i64) b29 r24, blk b12 101 (A8.enc .i64 s10.1), blk b11 101 (A8.enc .i64 q10.1), itI (kvA .i64) (vvI .i64) r10 b1 es10 ck10 (some ent10) l10, blk b10 205 cs10, Ze (kvA .i64) (vvI .i64) b7 s10.2.1]) (by decide) rfl
         replace hC := hC.sP [1, 2, 3, 4, 5, 6, 7] (Ps' := [Y0 b1 es10 ck10, Ty.item (Xt (kvA .i64) (vvI .i64) 8) r11 cs10 f10, Ty.item TForm.sl a0.images [u0_1] fp0, Ty.item ((EI .i64).ty.sl) a0.degrees [u0_0] fp0, Ty.item TAlg a0 [u0_0, u0_1] fp0, blk b0 32 [u0_0, u0_1], Ze (kvA .i64) (vvI .i64) b1 a1]) rfl
         exact ⟨rfl, _, rfl, ⟨b29, r24, (sl ⟨rfl, rfl, rfl, rfl, rfl, rfl, rfl, rfl, rfl, rfl, rfl, rfl, rfl, trivial⟩), hC, h⟩⟩
     ·skip
      exact ⟨(sl ⟨rfl, rfl, rfl, rfl, rfl, rfl, rfl, rfl, rfl, rfl, rfl, rfl, rfl, rfl, rfl, trivial⟩), hC⟩
    ·replace h := Zi h (cf hb14)
     refine wp_skip (Zd (sr (Zb (v := .int .i64 (i10 : Int)) rfl (Zb (v := .int .i64 (q10.1.get i10)) rfl (Y1 i10 Try.underlying101 sc3.size rfl rfl (Int.natCast_nonneg _) (by omega) (by omega) (Zu (v := .int .i64 (q10.1.get i10)) hC 0 [.int .i64 (q10.1.get i10)] (A8.enc .i64 (s10.1.set i10 (q10.1.get i10))) rfl sc3.size rfl rfl rfl rfl rfl hi10 (A8.enc_set _ _ _ hi10) fun w76 hC => dn (sr (Zb (v := .int .i64 (i10 : Int)) rfl (Zb (v := .pointer (some ⟨b0, 0, none⟩)) rfl (J2 rfl ?_))))))))))
     refine Z1 0 Try.underlying32 rfl sc22.size rfl rfl (Zbl (u0_0) (hC.getP 5 rfl) sc22 rfl rfl ?_)
     obtain ⟨Ad12, c12, hv14⟩ := Z2 (hC.getP 3 rfl)
     refine Z0 Try.underlying22 (tr rfl hv14) (Zs rfl rfl (Zb (v := .bool (decide ((i10 : Int) < (a0.degrees.length : Int)))) rfl ?_))
     refine Xa (decide ((i10 : Int) < (a0.degrees.length : Int))) (fun hb11 => ?_) (fun hb11 => ?_)
     ·replace h := ift h (ct hb11)
      refine Zm 7 87 rfl rfl hb11 (Zb (v := .pointer (some ⟨b0, 0, none⟩)) rfl (Zm 7 87 rfl rfl hb11 (J2 rfl (Zm 7 87 rfl rfl hb11 (Z1 0 Try.underlying32 rfl sc22.size rfl rfl (Zm 7 87 rfl rfl hb11 (Zbl (u0_0) (hC.getP 5 rfl) sc22 rfl rfl (Zm 7 87 rfl rfl hb11 (Zb (v := .int .i64 (i10 : Int)) rfl (Zm 7 87 rfl rfl hb11 ?_))))))))))
      obtain ⟨⟨h14, h15⟩, h⟩ := h
      obtain ⟨Ad13, c13, hv11⟩ := Z9 (hC.getP 3 rfl) i10 (show i10 < a0.degrees.length by omega)
      refine Xe (len := a0.degrees.length) Try.underlying22 sc2.size (tr rfl hv11) rfl h14 h15 (Zm 7 87 rfl rfl hb11 (X5 (.int .i64 (a0.degrees.getD i10 default)) (Yk (hC.getP 3 rfl) hv11 i10 (show i10 < a0.degrees.length by omega)) sc2 rfl (Zm 7 87 rfl rfl hb11 (Jk rfl rfl (by decide) (Zm 7 87 rfl rfl hb11 (Jl rfl rfl (Yb (v := .bool (decide (Int.tmod (a0.degrees.getD i10 default) 2 = 1))) (b := true) (tr rfl (congrArg _ hb11)) rfl (Zb (v := .bool (decide (Int.tmod (a0.degrees.getD i10 default) 2 = 1))) rfl ?_))))))))
      refine Xa (decide (Int.tmod (a0.degrees.getD i10 default) 2 = 1)) (fun hb13 => ?_) (fun hb13 => ?_)
      ·replace h := ift h (ct hb13)
       refine Zm 18 98 rfl rfl hb13 (Zb (v := .int .i64 (q10.1.get i10)) rfl (Zm 18 98 rfl rfl hb13 (Jk rfl rfl (by decide) (Zm 18 98 rfl rfl hb13 (Jl rfl rfl (Yb (v := .bool (decide (Int.tmod (q10.1.get i10) 2 = 1))) (b := true) (tr rfl (congrArg _ hb13)) rfl (dn ?_)))))))
       refine Zr rfl (fun hb17 => ?_) (fun hb17 => ?_)
       ·replace h := ift h (ct hb17)
        refine Zk (Zb (v := .int .i64 s10.2.2) rfl (Zea rfl (Zc (v := .int .i64 (IntKind.i64.wrap (0 - s10.2.2))) rfl (done (Zt (Zd (Zk (Zq rfl rfl (Zb (v := .int .i64 (IntKind.i64.wrap ((i10 : Int) + 1))) rfl (done ?_))))))))))
        exact hK10 (s10.1.set i10 (q10.1.get i10), s10.2.1, IntKind.i64.wrap (0 - s10.2.2)) _ _ ⟨(sl ⟨rfl, rfl, rfl, rfl, rfl, rfl, rfl, rfl, rfl, (tr rfl (congrArg _ (Yi hi10 (by decide)))), trivial⟩), hC⟩ h
       ·replace h := Zi h (cf hb17)
        refine wp_skip (Zt (Zd (Zk (Zq rfl rfl (Zb (v := .int .i64 (IntKind.i64.wrap ((i10 : Int) + 1))) rfl (done ?_))))))
        exact hK10 (s10.1.set i10 (q10.1.get i10), s10.2.1, s10.2.2) _ _ ⟨(sl ⟨rfl, rfl, rfl, rfl, rfl, rfl, rfl, rfl, rfl, (tr rfl (congrArg _ (Yi hi10 (by decide)))), trivial⟩), hC⟩ h
      ·replace h := Zi h (cf hb13)
       refine Zn (b := false) 18 98 rfl (tr rfl (congrArg _ hb13)) (by decide) (Zn (b := false) 18 98 rfl (tr rfl (congrArg _ hb13)) (by decide) (Zn (b := false) 18 98 rfl (tr rfl (congrArg _ hb13)) (by decide) (Yb (v := .bool false) (b := false) (tr rfl (congrArg _ hb13)) rfl (dn (Yj rfl rfl (wp_skip (Zt (Zd (Zk (Zq rfl rfl (Zb (v := .int .i64 (IntKind.i64.wrap ((i10 : Int) + 1))) rfl ?_)))))))))))
       refine done ?_
       exact hK10 (s10.1.set i10 (q10.1.get i10), s10.2.1, s10.2.2) _ _ ⟨(sl ⟨rfl, rfl, rfl, rfl, rfl, rfl, rfl, rfl, rfl, (tr rfl (congrArg _ (Yi hi10 (by decide)))), trivial⟩), hC⟩ h
     ·replace h := Zi h (cf hb11)
      refine Zn (b := false) 7 87 rfl (tr rfl (congrArg _ hb11)) (by decide) (Zn (b := false) 7 87 rfl (tr rfl (congrArg _ hb11)) (by decide) (Zn (b := false) 7 87 rfl (tr rfl (congrArg _ hb11)) (by decide) (Zn (b := false) 7 87 rfl (tr rfl (congrArg _ hb11)) (by decide) (Zn (b := false) 7 87 rfl (tr rfl (congrArg _ hb11)) (by decide) (Zn (b := false) 7 87 rfl (tr rfl (congrArg _ hb11)) (by decide) (Zn (b := false) 7 87 rfl (tr rfl (congrArg _ hb11)) (by decide) (Zn (b := false) 7 87 rfl (tr rfl (congrArg _ hb11)) (by decide) (Zn (b := false) 7 87 rfl (tr rfl (congrArg _ hb11)) (by decide) (Yb (v := .bool false) (b := false) (tr rfl (congrArg _ hb11)) rfl (Zb (v := .bool false) rfl (Zn (b := false) 18 98 rfl (tr rfl (congrArg _ rfl)) (by decide) ?_)))))))))))
      refine Zn (b := false) 18 98 rfl (tr rfl (congrArg _ rfl)) (by decide) (Zn (b := false) 18 98 rfl (tr rfl (congrArg _ rfl)) (by decide) (Yb (v := .bool false) (b := false) rfl rfl (dn (Yj rfl rfl (wp_skip (Zt (Zd (Zk (Zq rfl rfl (Zb (v := .int .i64 (IntKind.i64.wrap ((i10 : Int) + 1))) rfl (done ?_)))))))))))
      exact hK10 (s10.1.set i10 (q10.1.get i10), s10.2.1, s10.2.2) _ _ ⟨(sl ⟨rfl, rfl, rfl, rfl, rfl, rfl, rfl, rfl, rfl, (tr rfl (congrArg _ (Yi hi10 (by decide)))), trivial⟩), hC⟩ h
   ·clear hC h
    rintro s10 e_ w77 K10 ⟨hS_, hC⟩ h
    rw [ue hS_]
    refine sr (Zs rfl rfl (dn (wp_seq (Yj rfl (decide_eq_false (by omega)) ?_))))
    refine wp_exit (Zl (Zl (Yc ?_)))
    refine Zt ?_
    replace hC := hC.sM [2, 3, 4] (M' := [itI (kvA .i64) (vvI .i64) r10 b1 es10 ck10 (some ent10) l10, blk b10 205 cs10, Ze (kvA .i64) (vvI .i64) b7 s10.2.1]) (by decide) rfl
    exact hK11 q10 l10 s10.2.1 _ _ hp10 ⟨(some ent10), (sl ⟨rfl, rfl, rfl, rfl, trivial⟩), hC⟩ h
   ·skip
    exact ⟨(sl ⟨rfl, rfl, rfl, rfl, rfl, rfl, rfl, rfl, rfl, rfl, trivial⟩), hC⟩
 ·skip
  replace hC := hC.sP [0, 2, 3, 4, 5, 6, 7] (Ps' := [Y0 b1 es10 ck10, Ty.item (Xt (kvA .i64) (vvI .i64) 8) r11 cs10 f10, Ty.item TForm.sl a0.images [u0_1] fp0, Ty.item ((EI .i64).ty.sl) a0.degrees [u0_0] fp0, Ty.item TAlg a0 [u0_0, u0_1] fp0, blk b0 32 [u0_0, u0_1], Ze (kvA .i64) (vvI .i64) b1 a1]) rfl
  exact ⟨none, (sl ⟨rfl, rfl, rfl, rfl, trivial⟩), hC⟩
def Zfi (a0 : A8) (K : A8 → Prop) : Prop :=
 Yy (fun i10 (s10 : A8) nx10 => nx10 (s10.set i10 (a0.get i10))) (fun (s10 : A8) => K s10) 8 0 A8.zero
theorem Zqy (a0 : A8)  {K : A8 → Prop} (h : Zfi a0 K) (w0 : World)  :
  Calls Try.prog 171 #[.agg (List.toArray (A8.enc .u8 a0))] w0 fun e w' => ∃ (r0 : A8), 
   e = .returned (.agg (List.toArray (A8.enc .u8 r0))) ∧ K r0 ∧ Bel w0 w' := by
 unfold Zfi at h
 refine Z6 (args := [.agg (List.toArray (A8.enc .u8 a0))]) Try.func171 rfl 15 Try.ntmps171 (Nat.le_of_ble_eq_true rfl) ?_
 have hC := Ctx.start (X := Nox) w0 [] (by simp)
 refine sr (Ye (v := .agg (List.toArray (A8.enc .u8 a0))) hC (A8.enc .u8 a0) rfl rfl fun b1 w3 hB_ hC => Yf hC (A8.enc .u8 A8.zero) z49 rfl fun b4 w6 hB_ hC => dn (sr (Yf hC (A8.enc .u8 A8.zero) z49 rfl fun b7 w9 hB_ hC => dn (wp_seq (sr (Zc (v := .int .i64 0) rfl (dn (wp_block ?_))))))))
 refine Y6 (S := A8) _ _ (fun i10 s10 e_ w_ => Z4 e_ [(1, .pointer (some ⟨b1, 0, none⟩)), (2, .pointer (some ⟨b4, 0, none⟩)), (3, .pointer (some ⟨b7, 0, none⟩)), (4, .int .i64 (i10 : Int))] ∧ Ctx Nox w0 w_ [blk b7 49 (A8.enc .u8 s10), blk b4 49 (A8.enc .u8 A8.zero), blk b1 48 (A8.enc .u8 a0)] []) 8 ?_ ?_ (s0 := A8.zero) ?_ h
 ·clear hC h
  rintro i10 s10 e_ w10 nx10 K10 hi10 ⟨hS_, hC⟩ h hK10
  rw [ue hS_]
  refine wp_seq (sr (Zb (v := .int .i64 (i10 : Int)) rfl (Zs rfl rfl (dn (Yq rfl (decide_eq_true (by omega)) (wp_skip (Zd (wp_seq (wp_block (Zk (Zb (v := .int .i64 (i10 : Int)) rfl ?_)))))))))))
  refine Zb (v := .int .i64 (i10 : Int)) rfl (Y1 i10 Try.underlying48 sc5.size rfl rfl (Int.natCast_nonneg _) (by omega) (by omega) (Z8 hC 2 (.int .u8 (a0.get i10)) rfl sc5 rfl (A8.enc_get _ _ hi10) (Y1 i10 Try.underlying49 sc5.size rfl rfl (Int.natCast_nonneg _) (by omega) (by omega) (Zu (v := .int .u8 (a0.get i10)) hC 0 [.int .u8 (a0.get i10)] (A8.enc .u8 (s10.set i10 (a0.get i10))) rfl sc5.size rfl rfl rfl rfl rfl hi10 (A8.enc_set _ _ _ hi10) fun w11 hC => done (Zt (Zd (Zk (Zb (v := .int .i64 (i10 : Int)) rfl (Zq rfl rfl (Zc (v := .int .i64 (IntKind.i64.wrap ((i10 : Int) + 1))) rfl ?_))))))))))
  refine done ?_
  exact hK10 (s10.set i10 (a0.get i10)) _ _ ⟨(sl ⟨rfl, rfl, rfl, (tr rfl (congrArg _ (Yi hi10 (by decide)))), trivial⟩), hC⟩ h
 ·clear hC h
  rintro s10 e_ w12 K10 ⟨hS_, hC⟩ h
  rw [ue hS_]
  refine wp_seq (sr (Zb (v := .int .i64 8) rfl (Zs rfl rfl (dn (Yj rfl (decide_eq_false (by omega)) ?_)))))
  refine wp_exit (Zl (Zl (Yc ?_)))
  refine Zd (sr (Ys hC 0 (A8.enc .u8 s10) rfl ag49 rfl rfl rfl (Zu (v := .agg (List.toArray (A8.enc .u8 s10))) hC 1 (A8.enc .u8 s10) (A8.enc .u8 s10) rfl ag49.size rfl rfl rfl rfl rfl (Nat.le_of_ble_eq_true rfl) rfl fun w13 hC => dn (wp_ret ?_))))
  refine Zo (fn := Try.f171) rfl ?_ ⟨s10, rfl, h, hC.below⟩ (.inl rfl)
  exact J3 hC 1 rfl ag49 rfl rfl
 ·skip
  exact ⟨(sl ⟨rfl, rfl, rfl, rfl, trivial⟩), hC⟩
def Zfj (a0 : List Int) (K : List Int → Prop) : Prop :=
 ((0 ≤ (a0.length : Int) ∧ (a0.length : Int) * 8 ≤ 281474976710656) ∧ Yy (fun i10 (s10 : (List Int)) nx10 => ((0 ≤ (i10 : Int) ∧ (i10 : Int) < (s10.length : Int)) ∧ nx10 (s10.set i10 (a0.getD i10 default)))) (fun (s10 : (List Int)) => K s10) a0.length 0 (List.replicate ((a0.length : Int).toNat) (0 : Int)))
theorem Zqz (a0 : List Int) {u0_0 : Value} {fp0 : List Nat} {K : List Int → Prop} (h : Zfj a0 K) (w0 : World) (q0 : ((EI .i64).ty.sl).rep a0 [u0_0] fp0 w0) :
  Calls Try.prog 43 #[u0_0] w0 fun e w' => ∃ (r0 : List Int) (z0_0 : Value) (fz0 : List Nat), 
   e = .returned (z0_0) ∧ K r0 ∧ (Tr.item (Tr.sl 2 ((EI .i64).tr)) r0 [z0_0] fz0).holds w' ∧ (∀ b, b ∈ fz0 → w0.heap.size ≤ b) ∧ Bel w0 w' := by
 unfold Zfj at h
 refine Z6 (args := [u0_0]) Try.func43 rfl 22 Try.ntmps43 (Nat.le_of_ble_eq_true rfl) ?_
 have hC := Ctx.start (X := Nox) w0 [Ty.item ((EI .i64).ty.sl) a0 [u0_0] fp0] (by simp only [List.mem_cons, List.not_mem_nil, or_false, forall_eq_or_imp, forall_eq]; exact q0)
 refine sr (Zc (v := .slice none 0 0) rfl (dn (sr (Zb (v := u0_0) rfl ?_))))
 obtain ⟨Ad2, c3, hv4⟩ := Z2 (hC.getP 0 rfl)
 refine Z0 Try.underlying22 (tr rfl hv4) ?_
 obtain ⟨hm7, h⟩ := h
 refine Zee (sz := 1) hC ((EI .i64).encs (List.replicate ((a0.length : Int).toNat) (0 : Int))) Try.underlying22 el2 (tr rfl (congrArg (Value.int .i64) (Int.toNat_of_nonneg hm7.1).symm)) (tr rfl (congrArg (Value.int .i64) (Int.toNat_of_nonneg hm7.1).symm)) (by omega) (by omega) (Zeg (E := (EI .i64)) _ _) fun v5 w6 hB_ hC => ?_
 replace hC := J8 hC 0 ((List.replicate ((a0.length : Int).toNat) (0 : Int)).length) ((EI .i64).encs (List.replicate ((a0.length : Int).toNat) (0 : Int))) rfl (by simp) rfl
 refine Zc (v := v5) rfl (dn (wp_seq (sr (Zc (v := .int .i64 0) rfl (dn (wp_block ?_))))))
 have hN10 : a0.length ≤ 9223372036854775807 := Xv (hC.getP 0 rfl)
 refine Y6 (S := (List Int)) _ _ (fun i10 s10 e_ w_ => ∃ (v10 : Value), Z4 e_ [(0, u0_0), (3, v10), (4, .int .i64 (i10 : Int))] ∧ Ctx Nox w0 w_ [own 2 1 v10 s10.length ((EI .i64).encs s10)] [Ty.item ((EI .i64).ty.sl) a0 [u0_0] fp0]) a0.length ?_ ?_ (s0 := (List.replicate ((a0.length : Int).toNat) (0 : Int))) ?_ h
 ·clear hC h
  rintro i10 s10 e_ w10 nx10 K10 hi10 ⟨v10, hS_, hC⟩ h hK10
  rw [ue hS_]
  refine wp_seq (sr (Zb (v := .int .i64 (i10 : Int)) rfl (Zb (v := u0_0) rfl ?_)))
  obtain ⟨Ad10, c10, hv12⟩ := Z2 (hC.getP 0 rfl)
  refine Z0 Try.underlying22 (tr rfl hv12) (Zs rfl rfl (dn (Yq rfl (decide_eq_true (by omega)) (wp_skip (Zd (wp_seq (wp_block (Zk (Zb (v := v10) rfl (Zb (v := .int .i64 (i10 : Int)) rfl (Zb (v := u0_0) rfl ?_)))))))))))
  refine Zb (v := .int .i64 (i10 : Int)) rfl ?_
  obtain ⟨Ad11, c11, hv10⟩ := Z9 (hC.getP 0 rfl) i10 hi10
  refine Xe (len := a0.length) Try.underlying22 sc2.size (tr rfl hv10) rfl (Int.natCast_nonneg _) (Int.ofNat_lt.2 hi10) (X5 (.int .i64 (a0.getD i10 default)) (Yk (hC.getP 0 rfl) hv10 i10 hi10) sc2 rfl ?_)
  obtain ⟨⟨h10, h11⟩, h⟩ := h
  obtain ⟨Ad12, c12, hv11⟩ := Zav (hC.getM 0 rfl) (Nat.lt_of_le_of_lt (Nat.zero_le _) (show i10 < s10.length by omega))
  refine Zaw (i10 * 1) Try.underlying22 sc2.size (tr rfl hv11) rfl h10 h11 rfl (Zcl (v := .int .i64 (a0.getD i10 default)) hC 0 [.int .i64 (a0.getD i10 default)] ((EI .i64).encs (s10.set i10 (a0.getD i10 default))) rfl hv11 sc2.size rfl rfl rfl rfl rfl (by rw [Enc.encs_len]; exact Za3 (sz := 1) (show i10 < s10.length by omega)) (Zef _ _ _ (show i10 < s10.length by omega)) fun w11 hC => ?_)
  replace hC := J8 hC 0 ((s10.set i10 (a0.getD i10 default)).length) ((EI .i64).encs (s10.set i10 (a0.getD i10 default))) rfl (by simp) rfl
  refine done (Zt (Zd (Zk (Zb (v := .int .i64 (i10 : Int)) rfl (Zq rfl rfl (Zc (v := .int .i64 (IntKind.i64.wrap ((i10 : Int) + 1))) rfl (done ?_)))))))
  exact hK10 (s10.set i10 (a0.getD i10 default)) _ _ ⟨v10, (sl ⟨rfl, rfl, (tr rfl (congrArg _ (Yi hi10 hN10))), trivial⟩), hC⟩ h
 ·clear hC h
  rintro s10 e_ w12 K10 ⟨v10, hS_, hC⟩ h
  rw [ue hS_]
  refine wp_seq (sr (Zb (v := .int .i64 (a0.length : Int)) rfl (Zb (v := u0_0) rfl ?_)))
  obtain ⟨Ad13, c13, hv13⟩ := Z2 (hC.getP 0 rfl)
  refine Z0 Try.underlying22 (tr rfl hv13) (Zs rfl rfl (dn (Yj rfl (decide_eq_false (by omega)) ?_)))
  refine wp_exit (Zl (Zl (Yc ?_)))
  refine Zd (sr (Zb (v := v10) rfl (Zc (v := v10) rfl (dn (wp_ret ?_)))))
  refine Zo (fn := Try.f43) rfl ?_ ⟨s10, v10, (Option.toList (Value.ownBlock v10)), rfl, h, (Js (hC.getM 0 rfl)), (Zae hC 0 rfl), hC.below⟩ (.inl rfl)
  exact Zh rfl
 ·skip
  exact ⟨v5, (sl ⟨rfl, rfl, rfl, trivial⟩), hC⟩
def Zfk (a0 : A8) (a1 : A8) (K : Bool → Prop) : Prop :=
 Yy (fun i10 (s10 : Unit) nx10 => (if a0.get i10 ≠ a1.get i10 then K false else nx10 ())) (fun (s10 : Unit) => K true) 8 0 ()
theorem Zq0 (a0 : A8) (a1 : A8)  {K : Bool → Prop} (h : Zfk a0 a1 K) (w0 : World)  :
  Calls Try.prog 172 #[.agg (List.toArray (A8.enc .u8 a0)), .agg (List.toArray (A8.enc .u8 a1))] w0 fun e w' => ∃ (r0 : Bool), 
   e = .returned (.bool r0) ∧ K r0 ∧ Bel w0 w' := by
 unfold Zfk at h
 refine Z6 (args := [.agg (List.toArray (A8.enc .u8 a0)), .agg (List.toArray (A8.enc .u8 a1))]) Try.func172 rfl 17 Try.ntmps172 (Nat.le_of_ble_eq_true rfl) ?_
 have hC := Ctx.start (X := Nox) w0 [] (by simp)
 refine sr (Ye (v := .agg (List.toArray (A8.enc .u8 a0))) hC (A8.enc .u8 a0) rfl rfl fun b1 w3 hB_ hC => Ye (v := .agg (List.toArray (A8.enc .u8 a1))) hC (A8.enc .u8 a1) rfl rfl fun b4 w6 hB_ hC => Zc (v := .bool false) rfl (dn (wp_seq (sr (Zc (v := .int .i64 0) rfl (dn (wp_block ?_)))))))
 refine Y6 (S := Unit) _ _ (fun i10 s10 e_ w_ => Z4 e_ [(2, .pointer (some ⟨b1, 0, none⟩)), (3, .pointer (some ⟨b4, 0, none⟩)), (5, .int .i64 (i10 : Int))] ∧ Ctx Nox w0 w_ [blk b4 49 (A8.enc .u8 a1), blk b1 49 (A8.enc .u8 a0)] []) 8 ?_ ?_ (s0 := ()) ?_ h
 ·clear hC h
  rintro i10 s10 e_ w10 nx10 K10 hi10 ⟨hS_, hC⟩ h hK10
  rw [ue hS_]
  refine wp_seq (sr (Zb (v := .int .i64 (i10 : Int)) rfl (Zs rfl rfl (dn (Yq rfl (decide_eq_true (by omega)) (wp_skip (Zd (wp_seq (wp_block (wp_seq ?_))))))))))
  refine Ym 6 Yg [0, 1, 3, 0, 8, 24, 63] [1, 2, 4, 5] [0, 3] (by kernel_rfl) (by kernel_rfl) (by kernel_rfl) (fun hM10 hM11 w11 hB_ => ?_)
  replace hC := hC.grow hB_
  refine aF 0 (.int .i64 (i10 : Int)) rfl rfl (hM11 0 rfl) (rfl) (fun _ => by exact Zg (v := .int .i64 (i10 : Int)) rfl) (Za 7 1) (aL 1 (.pointer (some ⟨b1, i10, none⟩)) rfl rfl (hM10 1 rfl) (rfl) (fun _ hB_ => by exact Jy i10 Try.underlying49 sc5.size rfl rfl (Int.natCast_nonneg _) (by omega) (by omega)) (Za 7 3) (aL 2 (.int .u8 (a0.get i10)) rfl rfl (hM10 2 rfl) (rfl) (fun _ hB_ => by exact Z5 (hC.grow hB_) 1 (.int .u8 (a0.get i10)) rfl sc5 rfl (A8.enc_get _ _ hi10)) (Za 7 7) (aF 3 (.int .i64 (i10 : Int)) rfl rfl (hM11 3 rfl) (rfl) (fun _ => by exact Zg (v := .int .i64 (i10 : Int)) rfl) (Za 7 15) (aL 4 (.pointer (some ⟨b4, i10, none⟩)) rfl rfl (hM10 4 rfl) (rfl) (fun _ hB_ => by exact Jy i10 Try.underlying49 sc5.size rfl rfl (Int.natCast_nonneg _) (by omega) (by omega)) (Za 7 31) (aL 5 (.int .u8 (a1.get i10)) rfl rfl (hM10 5 rfl) (rfl) (fun _ hB_ => by exact Z5 (hC.grow hB_) 0 (.int .u8 (a1.get i10)) rfl sc5 rfl (A8.enc_get _ _ hi10)) (Za 7 63) (Zv 6 (by decide) (by decide) (by kernel_rfl) (by kernel_rfl) rfl (Xj rfl rfl (done (Zw (Zd ?_))))))))))
  refine Zr rfl (fun hb10 => ?_) (fun hb10 => ?_)
  ·replace h := ift h (ct hb10)
   refine sr (Zc (v := .bool false) rfl (dn ?_))
   refine wp_ret (Yd (Zj (Zj (Yd (Zj ?_)))))
   refine Zo (fn := Try.f172) rfl ?_ ⟨false, rfl, h, hC.below⟩ (.inl rfl)
   exact Zh rfl
  ·replace h := Zi h (cf hb10)
   refine wp_skip (Zt (Zd (Zk (Zb (v := .int .i64 (i10 : Int)) rfl (Zq rfl rfl (Zc (v := .int .i64 (IntKind.i64.wrap ((i10 : Int) + 1))) rfl (done ?_)))))))
   exact hK10 () _ _ ⟨(sl ⟨rfl, rfl, (tr rfl (congrArg _ (Yi hi10 (by decide)))), trivial⟩), hC⟩ h
 ·clear hC h
  rintro s10 e_ w12 K10 ⟨hS_, hC⟩ h
  rw [ue hS_]
  refine wp_seq (sr (Zb (v := .int .i64 8) rfl (Zs rfl rfl (dn (Yj rfl (decide_eq_false (by omega)) ?_)))))
  refine wp_exit (Zl (Zl (Yc ?_)))
  refine Zd (sr (Zc (v := .bool true) rfl (dn (wp_ret ?_))))
  refine Zo (fn := Try.f172) rfl ?_ ⟨true, rfl, h, hC.below⟩ (.inl rfl)
  exact Zh rfl
 ·skip
  exact ⟨(sl ⟨rfl, rfl, rfl, trivial⟩), hC⟩
def Zdt (a0 : List Int) (a1 : List Int) (K : Bool → Prop) : Prop :=
 (if (a0.length : Int) ≠ (a1.length : Int) then K false else Yy (fun i10 (s10 : Unit) nx10 => ((0 ≤ (i10 : Int) ∧ (i10 : Int) < (a1.length : Int)) ∧ (if a0.getD i10 default ≠ a1.getD i10 default then K false else nx10 ()))) (fun (s10 : Unit) => K true) a0.length 0 ())
theorem Zl6 (a0 : List Int) (a1 : List Int) {u0_0 : Value} {u1_0 : Value} {fp0 : List Nat} {fp1 : List Nat} {K : Bool → Prop} (h : Zdt a0 a1 K) (w0 : World) (q0 : ((EI .i64).ty.sl).rep a0 [u0_0] fp0 w0) (q1 : ((EI .i64).ty.sl).rep a1 [u1_0] fp1 w0) :
  Calls Try.prog 50 #[u0_0, u1_0] w0 fun e w' => ∃ (r0 : Bool), 
   e = .returned (.bool r0) ∧ K r0 ∧ Bel w0 w' := by
 unfold Zdt at h
 refine Z6 (args := [u0_0, u1_0]) Try.func50 rfl 26 Try.ntmps50 (Nat.le_of_ble_eq_true rfl) ?_
 have hC := Ctx.start (X := Nox) w0 [Ty.item ((EI .i64).ty.sl) a0 [u0_0] fp0, Ty.item ((EI .i64).ty.sl) a1 [u1_0] fp1] (by simp only [List.mem_cons, List.not_mem_nil, or_false, forall_eq_or_imp, forall_eq]; exact ⟨q0, q1⟩)
 refine sr (Zc (v := .bool false) rfl (dn (wp_seq (sr (Zb (v := u0_0) rfl ?_)))))
 obtain ⟨Ad3, c4, hv5⟩ := Z2 (hC.getP 0 rfl)
 refine Z0 Try.underlying22 (tr rfl hv5) (Zb (v := u1_0) rfl ?_)
 obtain ⟨Ad6, c7, hv8⟩ := Z2 (hC.getP 1 rfl)
 refine Z0 Try.underlying22 (tr rfl hv8) (Xj rfl rfl (dn ?_))
 refine Zr rfl (fun hb9 => ?_) (fun hb9 => ?_)
 ·replace h := ift h (ct hb9)
  refine sr (Zc (v := .bool false) rfl (dn ?_))
  refine wp_ret (Zj ?_)
  refine Zo (fn := Try.f50) rfl ?_ ⟨false, rfl, h, hC.below⟩ (.inl rfl)
  exact Zh rfl
 ·replace h := Zi h (cf hb9)
  refine wp_skip (Zd (wp_seq (sr (Zc (v := .int .i64 0) rfl (dn (wp_block ?_))))))
  have hN10 : a0.length ≤ 9223372036854775807 := Xv (hC.getP 0 rfl)
  refine Y6 (S := Unit) _ _ (fun i10 s10 e_ w_ => Z4 e_ [(0, u0_0), (1, u1_0), (5, .int .i64 (i10 : Int))] ∧ Ctx Nox w0 w_ [] [Ty.item ((EI .i64).ty.sl) a0 [u0_0] fp0, Ty.item ((EI .i64).ty.sl) a1 [u1_0] fp1]) a0.length ?_ ?_ (s0 := ()) ?_ h
  ·clear hC h
   rintro i10 s10 e_ w10 nx10 K10 hi10 ⟨hS_, hC⟩ h hK10
   rw [ue hS_]
   refine wp_seq (sr (Zb (v := .int .i64 (i10 : Int)) rfl (Zb (v := u0_0) rfl ?_)))
   obtain ⟨Ad12, c10, hv12⟩ := Z2 (hC.getP 0 rfl)
   refine Z0 Try.underlying22 (tr rfl hv12) (Zs rfl rfl (dn (Yq rfl (decide_eq_true (by omega)) (wp_skip (Zd (wp_seq (wp_block (wp_seq ?_))))))))
   refine Ym 8 Yg [0, 0, 3, 7, 0, 0, 48, 112, 255] [2, 3, 6, 7] [0, 1, 4, 5] (by kernel_rfl) (by kernel_rfl) (by kernel_rfl) (fun hM10 hM11 w11 hB_ => ?_)
   replace hC := hC.grow hB_
   refine aF 0 (u0_0) rfl rfl (hM11 0 rfl) (rfl) (fun _ => by exact Zg (v := u0_0) rfl) (Za 9 1) (aF 1 (.int .i64 (i10 : Int)) rfl rfl (hM11 1 rfl) (rfl) (fun _ => by exact Zg (v := .int .i64 (i10 : Int)) rfl) (Za 9 3) ?_)
   obtain ⟨Ad10, c11, hv10⟩ := Z9 (hC.getP 0 rfl) i10 hi10
   refine aL 2 (.pointer (some (Ad10.add (i10 * 1)))) rfl rfl (hM10 2 rfl) (rfl) (fun _ hB_ => by exact Yv (len := a0.length) Try.underlying22 sc2.size (by exact tr rfl hv10) rfl (Int.natCast_nonneg _) (Int.ofNat_lt.2 hi10)) (Za 9 7) (aL 3 (.int .i64 (a0.getD i10 default)) rfl rfl (hM10 3 rfl) (rfl) (fun _ hB_ => by exact Jf (.int .i64 (a0.getD i10 default)) (Yk ((hC.grow hB_).getP 0 rfl) hv10 i10 hi10) sc2 rfl) (Za 9 15) (aF 4 (u1_0) rfl rfl (hM11 4 rfl) (rfl) (fun _ => by exact Zg (v := u1_0) rfl) (Za 9 31) (aF 5 (.int .i64 (i10 : Int)) rfl rfl (hM11 5 rfl) (rfl) (fun _ => by exact Zg (v := .int .i64 (i10 : Int)) rfl) (Za 9 63) ?_)))
   obtain ⟨⟨h10, h11⟩, h⟩ := h
   obtain ⟨Ad11, c12, hv11⟩ := Z9 (hC.getP 1 rfl) i10 (show i10 < a1.length by omega)
   refine aL 6 (.pointer (some (Ad11.add (i10 * 1)))) rfl rfl (hM10 6 rfl) (rfl) (fun _ hB_ => by exact Yv (len := a1.length) Try.underlying22 sc2.size (by exact tr rfl hv11) rfl h10 h11) (Za 9 127) (aL 7 (.int .i64 (a1.getD i10 default)) rfl rfl (hM10 7 rfl) (rfl) (fun _ hB_ => by exact Jf (.int .i64 (a1.getD i10 default)) (Yk ((hC.grow hB_).getP 1 rfl) hv11 i10 (show i10 < a1.length by omega)) sc2 rfl) (Za 9 255) (Zv 8 (by decide) (by decide) (by kernel_rfl) (by kernel_rfl) rfl (Xj rfl rfl (done (Zw (Zd ?_))))))
   refine Zr rfl (fun hb10 => ?_) (fun hb10 => ?_)
   ·replace h := ift h (ct hb10)
    refine sr (Zc (v := .bool false) rfl (dn ?_))
    refine wp_ret (Yd (Zj (Zj (Yd (Zj ?_)))))
    refine Zo (fn := Try.f50) rfl ?_ ⟨false, rfl, h, hC.below⟩ (.inl rfl)
    exact Zh rfl
   ·replace h := Zi h (cf hb10)
    refine wp_skip (Zt (Zd (Zk (Zb (v := .int .i64 (i10 : Int)) rfl (Zq rfl rfl (Zc (v := .int .i64 (IntKind.i64.wrap ((i10 : Int) + 1))) rfl (done ?_)))))))
    exact hK10 () _ _ ⟨(sl ⟨rfl, rfl, (tr rfl (congrArg _ (Yi hi10 hN10))), trivial⟩), hC⟩ h
  ·clear hC h
   rintro s10 e_ w12 K10 ⟨hS_, hC⟩ h
   rw [ue hS_]
   refine wp_seq (sr (Zb (v := .int .i64 (a0.length : Int)) rfl (Zb (v := u0_0) rfl ?_)))
   obtain ⟨Ad13, c13, hv13⟩ := Z2 (hC.getP 0 rfl)
   refine Z0 Try.underlying22 (tr rfl hv13) (Zs rfl rfl (dn (Yj rfl (decide_eq_false (by omega)) ?_)))
   refine wp_exit (Zl (Zl (Yc ?_)))
   refine Zd (sr (Zc (v := .bool true) rfl (dn (wp_ret ?_))))
   refine Zo (fn := Try.f50) rfl ?_ ⟨true, rfl, h, hC.below⟩ (.inl rfl)
   exact Zh rfl
  ·skip
   exact ⟨(sl ⟨rfl, rfl, rfl, trivial⟩), hC⟩
def Zfl (a0 : Term) (K : Term → Prop) : Prop :=
 Zfi a0.mono (fun r10 => K (⟨r10, a0.factor⟩ : Term))
theorem Zq1 (a0 : Term)  {K : Term → Prop} (h : Zfl a0 K) (w0 : World)  :
  Calls Try.prog 155 #[.agg (List.toArray (Term.enc a0))] w0 fun e w' => ∃ (r0 : Term), 
   e = .returned (.agg (List.toArray (Term.enc r0))) ∧ K r0 ∧ Bel w0 w' := by
 unfold Zfl at h
 refine Z6 (args := [.agg (List.toArray (Term.enc a0))]) Try.func155 rfl 12 Try.ntmps155 (Nat.le_of_ble_eq_true rfl) ?_
 have hC := Ctx.start (X := Nox) w0 [] (by simp)
 refine sr (Ye (v := .agg (List.toArray (Term.enc a0))) hC (Term.enc a0) rfl rfl fun b1 w3 hB_ hC => Yf hC (Term.enc (⟨A8.zero, 0⟩ : Term)) Zdn rfl fun b4 w6 hB_ hC => dn (sr (Yf hC (Term.enc (⟨A8.zero, 0⟩ : Term)) Zdn rfl fun b7 w9 hB_ hC => dn (sr (Z1 0 Try.underlying204 rfl ag48.size rfl rfl (Ys hC 2 (A8.enc .u8 a0.mono) rfl ag48 rfl rfl rfl ?_))))))
 refine Zf [.agg (List.toArray (A8.enc .u8 a0.mono))] _ Try.func171 rfl rfl rfl (Zqy a0.mono h _) (fun ret10 w10 hR10 => ?_)
 obtain ⟨r10, rfl, h, hB10⟩ := hR10
 refine ⟨_, rfl, ?_⟩
 replace hC := hC.grow hB10
 refine Z1 0 Try.underlying114 rfl ag49.size rfl rfl (Zu (v := .agg (List.toArray (A8.enc .u8 r10))) hC 0 (A8.enc .u8 r10) (Term.enc (⟨r10, 0⟩ : Term)) rfl ag49.size rfl rfl rfl rfl rfl (Nat.le_of_ble_eq_true rfl) rfl fun w11 hC => dn (sr (Z1 8 Try.underlying204 rfl sc2.size rfl rfl (Z8 hC 2 (.int .i64 a0.factor) rfl sc2 rfl rfl (Z1 8 Try.underlying114 rfl sc2.size rfl rfl (Zu (v := .int .i64 a0.factor) hC 0 [.int .i64 a0.factor] (Term.enc (⟨r10, a0.factor⟩ : Term)) rfl sc2.size rfl rfl rfl rfl rfl (Nat.le_of_ble_eq_true rfl) rfl fun w12 hC => dn (sr (Ys hC 0 (Term.enc (⟨r10, a0.factor⟩ : Term)) rfl ag114 rfl rfl rfl (Zu (v := .agg (List.toArray (Term.enc (⟨r10, a0.factor⟩ : Term)))) hC 1 (Term.enc (⟨r10, a0.factor⟩ : Term)) (Term.enc (⟨r10, a0.factor⟩ : Term)) rfl ag114.size rfl rfl rfl rfl rfl (Nat.le_of_ble_eq_true rfl) rfl fun w13 hC => ?_)))))))))
 refine dn (wp_ret ?_)
 refine Zo (fn := Try.f155) rfl ?_ ⟨(⟨r10, a0.factor⟩ : Term), rfl, h, hC.below⟩ (.inl rfl)
 exact J3 hC 1 rfl ag114 rfl rfl
def Zfm (a0 : List Term) (K : List Term → Prop) : Prop :=
 ((0 ≤ (a0.length : Int) ∧ (a0.length : Int) * 16 ≤ 281474976710656) ∧ Yy (fun i10 (s10 : (List Term)) nx10 => Zfl (a0.getD i10 default) (fun r10 => ((0 ≤ (i10 : Int) ∧ (i10 : Int) < (s10.length : Int)) ∧ nx10 (s10.set i10 r10)))) (fun (s10 : (List Term)) => K s10) a0.length 0 (List.replicate ((a0.length : Int).toNat) ((⟨A8.zero, 0⟩ : Term) : Term)))
theorem Zq2 (a0 : List Term) {u0_0 : Value} {fp0 : List Nat} {K : List Term → Prop} (h : Zfm a0 K) (w0 : World) (q0 : ETerm.ty.sl.rep a0 [u0_0] fp0 w0) :
  Calls Try.prog 136 #[u0_0] w0 fun e w' => ∃ (r0 : List Term) (z0_0 : Value) (fz0 : List Nat), 
   e = .returned (z0_0) ∧ K r0 ∧ (Tr.item (Tr.sl 114 ETerm.tr) r0 [z0_0] fz0).holds w' ∧ (∀ b, b ∈ fz0 → w0.heap.size ≤ b) ∧ Bel w0 w' := by
 unfold Zfm at h
 refine Z6 (args := [u0_0]) Try.func136 rfl 23 Try.ntmps136 (Nat.le_of_ble_eq_true rfl) ?_
 have hC := Ctx.start (X := Nox) w0 [Ty.item ETerm.ty.sl a0 [u0_0] fp0] (by simp only [List.mem_cons, List.not_mem_nil, or_false, forall_eq_or_imp, forall_eq]; exact q0)
 refine sr (Zc (v := .slice none 0 0) rfl (dn (sr (Zb (v := u0_0) rfl ?_))))
 obtain ⟨Ad2, c3, hv4⟩ := Z2 (hC.getP 0 rfl)
 refine Z0 Try.underlying126 (tr rfl hv4) ?_
 obtain ⟨hm7, h⟩ := h
 refine Zee (sz := 9) hC (ETerm.encs (List.replicate ((a0.length : Int).toNat) ((⟨A8.zero, 0⟩ : Term) : Term))) Try.underlying93 Ze2 (tr rfl (congrArg (Value.int .i64) (Int.toNat_of_nonneg hm7.1).symm)) (tr rfl (congrArg (Value.int .i64) (Int.toNat_of_nonneg hm7.1).symm)) (by omega) (by omega) (Zeg (E := ETerm) _ _) fun v5 w6 hB_ hC => ?_
 replace hC := J8 hC 0 ((List.replicate ((a0.length : Int).toNat) ((⟨A8.zero, 0⟩ : Term) : Term)).length) (ETerm.encs (List.replicate ((a0.length : Int).toNat) ((⟨A8.zero, 0⟩ : Term) : Term))) rfl (by simp) rfl
 refine Zc (v := v5) rfl (dn (wp_seq (sr (Zc (v := .int .i64 0) rfl (dn (wp_block ?_))))))
 have hN10 : a0.length ≤ 9223372036854775807 := Xv (hC.getP 0 rfl)
 refine Y6 (S := (List Term)) _ _ (fun i10 s10 e_ w_ => ∃ (v10 : Value), Z4 e_ [(0, u0_0), (3, v10), (4, .int .i64 (i10 : Int))] ∧ Ctx Nox w0 w_ [own 114 9 v10 s10.length (ETerm.encs s10)] [Ty.item ETerm.ty.sl a0 [u0_0] fp0]) a0.length ?_ ?_ (s0 := (List.replicate ((a0.length : Int).toNat) ((⟨A8.zero, 0⟩ : Term) : Term))) ?_ h
 ·clear hC h
  rintro i10 s10 e_ w10 nx10 K10 hi10 ⟨v10, hS_, hC⟩ h hK10
  rw [ue hS_]
  refine wp_seq (sr (Zb (v := .int .i64 (i10 : Int)) rfl (Zb (v := u0_0) rfl ?_)))
  obtain ⟨Ad10, c10, hv12⟩ := Z2 (hC.getP 0 rfl)
  refine Z0 Try.underlying126 (tr rfl hv12) (Zs rfl rfl (dn (Yq rfl (decide_eq_true (by omega)) (wp_skip (Zd (wp_seq (wp_block (Zk (Zb (v := v10) rfl (Zb (v := .int .i64 (i10 : Int)) rfl (Zb (v := u0_0) rfl ?_)))))))))))
  refine Zb (v := .int .i64 (i10 : Int)) rfl ?_
  obtain ⟨Ad11, c11, hv10⟩ := Z9 (hC.getP 0 rfl) i10 hi10
  refine Xe (len := a0.length) Try.underlying126 ag204.size (tr rfl hv10) rfl (Int.natCast_nonneg _) (Int.ofNat_lt.2 hi10) (Zak (Term.enc (a0.getD i10 default)) (Yk (hC.getP 0 rfl) hv10 i10 hi10) ag204 rfl rfl ?_)
  refine Zf [.agg (List.toArray (Term.enc (a0.getD i10 default)))] _ Try.func155 rfl rfl rfl (Zq1 (a0.getD i10 default) h _) (fun ret10 w11 hR10 => ?_)
  obtain ⟨r10, rfl, h, hB10⟩ := hR10
  refine ⟨_, rfl, ?_⟩
  replace hC := hC.grow hB10
  obtain ⟨⟨h10, h11⟩, h⟩ := h
  obtain ⟨Ad12, c12, hv11⟩ := Zav (hC.getM 0 rfl) (Nat.lt_of_le_of_lt (Nat.zero_le _) (show i10 < s10.length by omega))
  refine Zaw (i10 * 9) Try.underlying93 ag114.size (tr rfl hv11) rfl h10 h11 rfl (Zcl (v := .agg (List.toArray (Term.enc r10))) hC 0 (Term.enc r10) (ETerm.encs (s10.set i10 r10)) rfl hv11 ag114.size rfl rfl rfl rfl rfl (by rw [Enc.encs_len]; exact Za3 (sz := 9) (show i10 < s10.length by omega)) (Zef _ _ _ (show i10 < s10.length by omega)) fun w12 hC => ?_)
  replace hC := J8 hC 0 ((s10.set i10 r10).length) (ETerm.encs (s10.set i10 r10)) rfl (by simp) rfl
  refine done (Zt (Zd (Zk (Zb (v := .int .i64 (i10 : Int)) rfl (Zq rfl rfl (Zc (v := .int .i64 (IntKind.i64.wrap ((i10 : Int) + 1))) rfl (done ?_)))))))
  exact hK10 (s10.set i10 r10) _ _ ⟨v10, (sl ⟨rfl, rfl, (tr rfl (congrArg _ (Yi hi10 hN10))), trivial⟩), hC⟩ h
 ·clear hC h
  rintro s10 e_ w13 K10 ⟨v10, hS_, hC⟩ h
  rw [ue hS_]
  refine wp_seq (sr (Zb (v := .int .i64 (a0.length : Int)) rfl (Zb (v := u0_0) rfl ?_)))
  obtain ⟨Ad13, c13, hv13⟩ := Z2 (hC.getP 0 rfl)
  refine Z0 Try.underlying126 (tr rfl hv13) (Zs rfl rfl (dn (Yj rfl (decide_eq_false (by omega)) ?_)))
  refine wp_exit (Zl (Zl (Yc ?_)))
  refine Zd (sr (Zb (v := v10) rfl (Zc (v := v10) rfl (dn (wp_ret ?_)))))
  refine Zo (fn := Try.f136) rfl ?_ ⟨s10, v10, (Option.toList (Value.ownBlock v10)), rfl, h, (Js (hC.getM 0 rfl)), (Zae hC 0 rfl), hC.below⟩ (.inl rfl)
  exact Zh rfl
 ·skip
  exact ⟨v5, (sl ⟨rfl, rfl, rfl, trivial⟩), hC⟩
def Zfn (a0 : Vc.Form) (K : Vc.Form → Prop) : Prop :=
 Zfm a0.terms (fun r10 => K (⟨r10⟩ : Vc.Form))
theorem Zq3 (a0 : Vc.Form) {u0_0 : Value} {fp0 : List Nat} {K : Vc.Form → Prop} (h : Zfn a0 K) (w0 : World) (q0 : TForm.rep a0 [u0_0] fp0 w0) :
  Calls Try.prog 102 #[.agg #[u0_0]] w0 fun e w' => ∃ (r0 : Vc.Form) (z0_0 : Value) (fz0 : List Nat), 
   e = .returned (.agg #[z0_0]) ∧ K r0 ∧ (Tr.item (Zz 114) r0 [z0_0] fz0).holds w' ∧ (∀ b, b ∈ fz0 → w0.heap.size ≤ b) ∧ Bel w0 w' := by
 unfold Zfn at h
 refine Z6 (args := [.agg #[u0_0]]) Try.func102 rfl 9 Try.ntmps102 (Nat.le_of_ble_eq_true rfl) ?_
 have hC := Ctx.start (X := Nox) w0 [Ty.item TForm a0 [u0_0] fp0] (by simp only [List.mem_cons, List.not_mem_nil, or_false, forall_eq_or_imp, forall_eq]; exact q0)
 have hp2 := (hC.getP 0 rfl)
 replace hC := hC.derive 0 rfl (Ty.item ETerm.ty.sl a0.terms [u0_0] fp0) (fun _ => (Xb hp2)) (fun _ hb_ => hb_)
 refine sr (Ye (v := .agg #[u0_0]) hC [u0_0] rfl rfl fun b4 w6 hB_ hC => Yf hC [.slice none 0 0] z95 rfl fun b7 w9 hB_ hC => dn (sr (Yf hC [.slice none 0 0] z95 rfl fun b10 w10 hB_ hC => dn (sr (Z1 0 Try.underlying128 rfl sc126.size rfl rfl (Z8 hC 2 (u0_0) rfl sc126 rfl rfl ?_))))))
 refine Zf [u0_0] _ Try.func136 rfl rfl rfl (Zq2 a0.terms h _ (hC.getP 0 rfl)) (fun ret10 w11 hR10 => ?_)
 obtain ⟨r10, u10, f10, rfl, h, hr10, hf10, hB10⟩ := hR10
 refine ⟨_, rfl, ?_⟩
 replace hC := hC.push hB10 (Tr.item (Tr.sl 114 ETerm.tr) r10 [u10] f10) hr10 hf10
 obtain ⟨ho10, hf11⟩ := Zat (hC.getM 0 rfl).1
 subst hf11
 replace hC := hC.recast (c := own 114 9 u10 r10.length (ETerm.encs r10)) (fun _ h_ => h_) (fun _ => ho10)
 refine Z1 0 Try.underlying95 rfl sc93.size rfl rfl (Zu (v := u10) hC 1 [u10] [u10] rfl sc93.size rfl rfl (Zcm (hC.getM 0 rfl)) rfl (Y3 (Xl (hC.getM 0 rfl)) rfl) (Nat.le_of_ble_eq_true rfl) rfl fun w12 hC => dn (sr (Ys hC 1 [u10] rfl ag95 rfl rfl rfl (Zu (v := .agg #[u10]) hC 2 [u10] [u10] rfl ag95.size rfl rfl rfl rfl (Y3 (Xl (hC.getM 0 rfl)) rfl) (Nat.le_of_ble_eq_true rfl) rfl fun w13 hC => dn (wp_ret ?_)))))
 refine Zo (fn := Try.f102) rfl ?_ ⟨(⟨r10⟩ : Vc.Form), u10, (Option.toList (Value.ownBlock u10)), rfl, h, (Zau (Js (hC.getM 0 rfl))), (Zae hC 0 rfl), hC.below⟩ (.inl rfl)
 exact J3 hC 2 rfl ag95 rfl rfl
def Zfo (a0 : Term) (a1 : Term) (K : Bool → Prop) : Prop :=
 Zfk a0.mono a1.mono (fun r10 => (if ¬ (r10 = true) then K false else (if a0.factor ≠ a1.factor then K false else K true)))
theorem Zq4 (a0 : Term) (a1 : Term)  {K : Bool → Prop} (h : Zfo a0 a1 K) (w0 : World)  :
  Calls Try.prog 161 #[.agg (List.toArray (Term.enc a0)), .agg (List.toArray (Term.enc a1))] w0 fun e w' => ∃ (r0 : Bool), 
   e = .returned (.bool r0) ∧ K r0 ∧ Bel w0 w' := by
 unfold Zfo at h
 refine Z6 (args := [.agg (List.toArray (Term.enc a0)), .agg (List.toArray (Term.enc a1))]) Try.func161 rfl 16 Try.ntmps161 (Nat.le_of_ble_eq_true rfl) ?_
 have hC := Ctx.start (X := Nox) w0 [] (by simp)
 refine sr (Ye (v := .agg (List.toArray (Term.enc a0))) hC (Term.enc a0) rfl rfl fun b1 w3 hB_ hC => Ye (v := .agg (List.toArray (Term.enc a1))) hC (Term.enc a1) rfl rfl fun b4 w6 hB_ hC => Zc (v := .bool false) rfl (dn (wp_seq (sr (Z1 0 Try.underlying114 rfl ag49.size rfl rfl (Ys hC 1 (A8.enc .u8 a0.mono) rfl ag49 rfl rfl rfl (Z1 0 Try.underlying114 rfl ag49.size rfl rfl (Ys hC 0 (A8.enc .u8 a1.mono) rfl ag49 rfl rfl rfl ?_))))))))
 refine Zf [.agg (List.toArray (A8.enc .u8 a0.mono)), .agg (List.toArray (A8.enc .u8 a1.mono))] _ Try.func172 rfl rfl rfl (Zq0 a0.mono a1.mono h _) (fun ret7 w9 hR8 => ?_)
 obtain ⟨r10, rfl, h, hB10⟩ := hR8
 refine ⟨_, rfl, ?_⟩
 replace hC := hC.grow hB10
 refine X0 rfl (dn ?_)
 refine Zr rfl (fun hb10 => ?_) (fun hb10 => ?_)
 ·replace h := ift h (Xq (X6 hb10))
  refine sr (Zc (v := .bool false) rfl (dn ?_))
  refine wp_ret (Zj ?_)
  refine Zo (fn := Try.f161) rfl ?_ ⟨false, rfl, h, hC.below⟩ (.inl rfl)
  exact Zh rfl
 ·replace h := Zi h (not_not_intro ((X7 hb10)))
  refine wp_skip (Zd (wp_seq (sr (Z1 8 Try.underlying114 rfl sc2.size rfl rfl (Z8 hC 1 (.int .i64 a0.factor) rfl sc2 rfl rfl (Z1 8 Try.underlying114 rfl sc2.size rfl rfl (Z8 hC 0 (.int .i64 a1.factor) rfl sc2 rfl rfl (Xj rfl rfl (dn ?_)))))))))
  refine Zr rfl (fun hb11 => ?_) (fun hb11 => ?_)
  ·replace h := ift h (ct hb11)
   refine sr (Zc (v := .bool false) rfl (dn ?_))
   refine wp_ret (Zj ?_)
   refine Zo (fn := Try.f161) rfl ?_ ⟨false, rfl, h, hC.below⟩ (.inl rfl)
   exact Zh rfl
  ·replace h := Zi h (cf hb11)
   refine wp_skip (Zd (sr (Zc (v := .bool true) rfl (dn (wp_ret ?_)))))
   refine Zo (fn := Try.f161) rfl ?_ ⟨true, rfl, h, hC.below⟩ (.inl rfl)
   exact Zh rfl
def Zhm (a0 : List Term) (a1 : List Term) (K : Bool → Prop) : Prop :=
 (if (a0.length : Int) ≠ (a1.length : Int) then K false else Yy (fun i10 (s10 : Unit) nx10 => ((0 ≤ (i10 : Int) ∧ (i10 : Int) < (a1.length : Int)) ∧ Zfo (a0.getD i10 default) (a1.getD i10 default) (fun r10 => (if ¬ (r10 = true) then K false else nx10 ())))) (fun (s10 : Unit) => K true) a0.length 0 ())
theorem Zq5 (a0 : List Term) (a1 : List Term) {u0_0 : Value} {u1_0 : Value} {fp0 : List Nat} {fp1 : List Nat} {K : Bool → Prop} (h : Zhm a0 a1 K) (w0 : World) (q0 : ETerm.ty.sl.rep a0 [u0_0] fp0 w0) (q1 : ETerm.ty.sl.rep a1 [u1_0] fp1 w0) :
  Calls Try.prog 146 #[u0_0, u1_0] w0 fun e w' => ∃ (r0 : Bool), 
   e = .returned (.bool r0) ∧ K r0 ∧ Bel w0 w' := by
 unfold Zhm at h
 refine Z6 (args := [u0_0, u1_0]) Try.func146 rfl 27 Try.ntmps146 (Nat.le_of_ble_eq_true rfl) ?_
 have hC := Ctx.start (X := Nox) w0 [Ty.item ETerm.ty.sl a0 [u0_0] fp0, Ty.item ETerm.ty.sl a1 [u1_0] fp1] (by simp only [List.mem_cons, List.not_mem_nil, or_false, forall_eq_or_imp, forall_eq]; exact ⟨q0, q1⟩)
 refine sr (Zc (v := .bool false) rfl (dn (wp_seq (sr (Zb (v := u0_0) rfl ?_)))))
 obtain ⟨Ad3, c4, hv5⟩ := Z2 (hC.getP 0 rfl)
 refine Z0 Try.underlying93 (tr rfl hv5) (Zb (v := u1_0) rfl ?_)
 obtain ⟨Ad6, c7, hv8⟩ := Z2 (hC.getP 1 rfl)
 refine Z0 Try.underlying93 (tr rfl hv8) (Xj rfl rfl (dn ?_))
 refine Zr rfl (fun hb9 => ?_) (fun hb9 => ?_)
 ·replace h := ift h (ct hb9)
  refine sr (Zc (v := .bool false) rfl (dn ?_))
  refine wp_ret (Zj ?_)
  refine Zo (fn := Try.f146) rfl ?_ ⟨false, rfl, h, hC.below⟩ (.inl rfl)
  exact Zh rfl
 ·replace h := Zi h (cf hb9)
  refine wp_skip (Zd (wp_seq (sr (Zc (v := .int .i64 0) rfl (dn (wp_block ?_))))))
  have hN10 : a0.length ≤ 9223372036854775807 := Xv (hC.getP 0 rfl)
  refine Y6 (S := Unit) _ _ (fun i10 s10 e_ w_ => Z4 e_ [(0, u0_0), (1, u1_0), (5, .int .i64 (i10 : Int))] ∧ Ctx Nox w0 w_ [] [Ty.item ETerm.ty.sl a0 [u0_0] fp0, Ty.item ETerm.ty.sl a1 [u1_0] fp1]) a0.length ?_ ?_ (s0 := ()) ?_ h
  ·clear hC h
   rintro i10 s10 e_ w10 nx10 K10 hi10 ⟨hS_, hC⟩ h hK10
   rw [ue hS_]
   refine wp_seq (sr (Zb (v := .int .i64 (i10 : Int)) rfl (Zb (v := u0_0) rfl ?_)))
   obtain ⟨Ad12, c10, hv12⟩ := Z2 (hC.getP 0 rfl)
   refine Z0 Try.underlying93 (tr rfl hv12) (Zs rfl rfl (dn (Yq rfl (decide_eq_true (by omega)) (wp_skip (Zd (wp_seq (wp_block (wp_seq ?_))))))))
   refine Ym 8 Yg [0, 0, 3, 7, 0, 0, 48, 112, 255, 511] [2, 3, 6, 7] [0, 1, 4, 5] (by kernel_rfl) (by kernel_rfl) (by kernel_rfl) (fun hM10 hM11 w11 hB_ => ?_)
   replace hC := hC.grow hB_
   refine aF 0 (u0_0) rfl rfl (hM11 0 rfl) (rfl) (fun _ => by exact Zg (v := u0_0) rfl) (Za 10 1) (aF 1 (.int .i64 (i10 : Int)) rfl rfl (hM11 1 rfl) (rfl) (fun _ => by exact Zg (v := .int .i64 (i10 : Int)) rfl) (Za 10 3) ?_)
   obtain ⟨Ad10, c11, hv10⟩ := Z9 (hC.getP 0 rfl) i10 hi10
   refine aL 2 (.pointer (some (Ad10.add (i10 * 9)))) rfl rfl (hM10 2 rfl) (rfl) (fun _ hB_ => by exact Yv (len := a0.length) Try.underlying93 ag114.size (by exact tr rfl hv10) rfl (Int.natCast_nonneg _) (Int.ofNat_lt.2 hi10)) (Za 10 7) (aL 3 (.agg (List.toArray (Term.enc (a0.getD i10 default)))) rfl rfl (hM10 3 rfl) (rfl) (fun _ hB_ => by exact Xw (Term.enc (a0.getD i10 default)) (Yk ((hC.grow hB_).getP 0 rfl) hv10 i10 hi10) ag114 rfl rfl) (Za 10 15) (aF 4 (u1_0) rfl rfl (hM11 4 rfl) (rfl) (fun _ => by exact Zg (v := u1_0) rfl) (Za 10 31) (aF 5 (.int .i64 (i10 : Int)) rfl rfl (hM11 5 rfl) (rfl) (fun _ => by exact Zg (v := .int .i64 (i10 : Int)) rfl) (Za 10 63) ?_)))
   obtain ⟨⟨h10, h11⟩, h⟩ := h
   obtain ⟨Ad11, c12, hv11⟩ := Z9 (hC.getP 1 rfl) i10 (show i10 < a1.length by omega)
   refine aL 6 (.pointer (some (Ad11.add (i10 * 9)))) rfl rfl (hM10 6 rfl) (rfl) (fun _ hB_ => by exact Yv (len := a1.length) Try.underlying93 ag114.size (by exact tr rfl hv11) rfl h10 h11) (Za 10 127) (aL 7 (.agg (List.toArray (Term.enc (a1.getD i10 default)))) rfl rfl (hM10 7 rfl) (rfl) (fun _ hB_ => by exact Xw (Term.enc (a1.getD i10 default)) (Yk ((hC.grow hB_).getP 1 rfl) hv11 i10 (show i10 < a1.length by omega)) ag114 rfl rfl) (Za 10 255) (Zv 8 (by decide) (by decide) (by kernel_rfl) (by kernel_rfl) rfl ?_))
   refine Zf [.agg (List.toArray (Term.enc (a0.getD i10 default))), .agg (List.toArray (Term.enc (a1.getD i10 default)))] _ Try.func161 rfl rfl rfl (Zq4 (a0.getD i10 default) (a1.getD i10 default) h _) (fun ret10 w12 hR10 => ?_)
   obtain ⟨r10, rfl, h, hB10⟩ := hR10
   refine ⟨_, rfl, ?_⟩
   replace hC := hC.grow hB10
   refine X0 rfl (done (Zw (Zd ?_)))
   refine Zr rfl (fun hb10 => ?_) (fun hb10 => ?_)
   ·replace h := ift h (Xq (X6 hb10))
    refine sr (Zc (v := .bool false) rfl (dn ?_))
    refine wp_ret (Yd (Zj (Zj (Yd (Zj ?_)))))
    refine Zo (fn := Try.f146) rfl ?_ ⟨false, rfl, h, hC.below⟩ (.inl rfl)
    exact Zh rfl
   ·replace h := Zi h (not_not_intro ((X7 hb10)))
    refine wp_skip (Zt (Zd (Zk (Zb (v := .int .i64 (i10 : Int)) rfl (Zq rfl rfl (Zc (v := .int .i64 (IntKind.i64.wrap ((i10 : Int) + 1))) rfl (done ?_)))))))
    exact hK10 () _ _ ⟨(sl ⟨rfl, rfl, (tr rfl (congrArg _ (Yi hi10 hN10))), trivial⟩), hC⟩ h
  ·clear hC h
   rintro s10 e_ w13 K10 ⟨hS_, hC⟩ h
   rw [ue hS_]
   refine wp_seq (sr (Zb (v := .int .i64 (a0.length : Int)) rfl (Zb (v := u0_0) rfl ?_)))
   obtain ⟨Ad13, c13, hv13⟩ := Z2 (hC.getP 0 rfl)
   refine Z0 Try.underlying93 (tr rfl hv13) (Zs rfl rfl (dn (Yj rfl (decide_eq_false (by omega)) ?_)))
   refine wp_exit (Zl (Zl (Yc ?_)))
   refine Zd (sr (Zc (v := .bool true) rfl (dn (wp_ret ?_))))
   refine Zo (fn := Try.f146) rfl ?_ ⟨true, rfl, h, hC.below⟩ (.inl rfl)
   exact Zh rfl
  ·skip
   exact ⟨(sl ⟨rfl, rfl, rfl, trivial⟩), hC⟩
def Zfp (a0 : Vc.Form) (a1 : Vc.Form) (K : Bool → Prop) : Prop :=
 Zhm a0.terms a1.terms (fun r10 => (if ¬ (r10 = true) then K false else K true))
theorem Zq6 (a0 : Vc.Form) (a1 : Vc.Form) {u0_0 : Value} {u1_0 : Value} {fp0 : List Nat} {fp1 : List Nat} {K : Bool → Prop} (h : Zfp a0 a1 K) (w0 : World) (q0 : TForm.rep a0 [u0_0] fp0 w0) (q1 : TForm.rep a1 [u1_0] fp1 w0) :
  Calls Try.prog 110 #[.agg #[u0_0], .agg #[u1_0]] w0 fun e w' => ∃ (r0 : Bool), 
   e = .returned (.bool r0) ∧ K r0 ∧ Bel w0 w' := by
 unfold Zfp at h
 refine Z6 (args := [.agg #[u0_0], .agg #[u1_0]]) Try.func110 rfl 11 Try.ntmps110 (Nat.le_of_ble_eq_true rfl) ?_
 have hC := Ctx.start (X := Nox) w0 [Ty.item TForm a0 [u0_0] fp0, Ty.item TForm a1 [u1_0] fp1] (by simp only [List.mem_cons, List.not_mem_nil, or_false, forall_eq_or_imp, forall_eq]; exact ⟨q0, q1⟩)
 have hp3 := (hC.getP 0 rfl)
 replace hC := hC.derive 0 rfl (Ty.item ETerm.ty.sl a0.terms [u0_0] fp0) (fun _ => (Xb hp3)) (fun _ hb_ => hb_)
 have hp5 := (hC.getP 2 rfl)
 replace hC := hC.derive 2 rfl (Ty.item ETerm.ty.sl a1.terms [u1_0] fp1) (fun _ => (Xb hp5)) (fun _ hb_ => hb_)
 refine sr (Ye (v := .agg #[u0_0]) hC [u0_0] rfl rfl fun b7 w9 hB_ hC => Ye (v := .agg #[u1_0]) hC [u1_0] rfl rfl fun b10 w10 hB_ hC => Zc (v := .bool false) rfl (dn (wp_seq (sr (Z1 0 Try.underlying95 rfl sc93.size rfl rfl (Z8 hC 1 (u0_0) rfl sc93 rfl rfl (Z1 0 Try.underlying95 rfl sc93.size rfl rfl (Z8 hC 0 (u1_0) rfl sc93 rfl rfl ?_))))))))
 refine Zf [u0_0, u1_0] _ Try.func146 rfl rfl rfl (Zq5 a0.terms a1.terms h _ (hC.getP 1 rfl) (hC.getP 0 rfl)) (fun ret10 w11 hR10 => ?_)
 obtain ⟨r10, rfl, h, hB10⟩ := hR10
 refine ⟨_, rfl, ?_⟩
 replace hC := hC.grow hB10
 refine X0 rfl (dn ?_)
 refine Zr rfl (fun hb10 => ?_) (fun hb10 => ?_)
 ·replace h := ift h (Xq (X6 hb10))
  refine sr (Zc (v := .bool false) rfl (dn ?_))
  refine wp_ret (Zj ?_)
  refine Zo (fn := Try.f110) rfl ?_ ⟨false, rfl, h, hC.below⟩ (.inl rfl)
  exact Zh rfl
 ·replace h := Zi h (not_not_intro ((X7 hb10)))
  refine wp_skip (Zd (sr (Zc (v := .bool true) rfl (dn (wp_ret ?_)))))
  refine Zo (fn := Try.f110) rfl ?_ ⟨true, rfl, h, hC.below⟩ (.inl rfl)
  exact Zh rfl
def Zhn (a0 : List Vc.Form) (a1 : List Vc.Form) (K : Bool → Prop) : Prop :=
 (if (a0.length : Int) ≠ (a1.length : Int) then K false else Yy (fun i10 (s10 : Unit) nx10 => ((0 ≤ (i10 : Int) ∧ (i10 : Int) < (a1.length : Int)) ∧ Zfp (a0.getD i10 default) (a1.getD i10 default) (fun r10 => (if ¬ (r10 = true) then K false else nx10 ())))) (fun (s10 : Unit) => K true) a0.length 0 ())
theorem Zq7 (a0 : List Vc.Form) (a1 : List Vc.Form) {u0_0 : Value} {u1_0 : Value} {fp0 : List Nat} {fp1 : List Nat} {K : Bool → Prop} (h : Zhn a0 a1 K) (w0 : World) (q0 : TForm.sl.rep a0 [u0_0] fp0 w0) (q1 : TForm.sl.rep a1 [u1_0] fp1 w0) :
  Calls Try.prog 51 #[u0_0, u1_0] w0 fun e w' => ∃ (r0 : Bool), 
   e = .returned (.bool r0) ∧ K r0 ∧ Bel w0 w' := by
 unfold Zhn at h
 refine Z6 (args := [u0_0, u1_0]) Try.func51 rfl 27 Try.ntmps51 (Nat.le_of_ble_eq_true rfl) ?_
 have hC := Ctx.start (X := Nox) w0 [Ty.item TForm.sl a0 [u0_0] fp0, Ty.item TForm.sl a1 [u1_0] fp1] (by simp only [List.mem_cons, List.not_mem_nil, or_false, forall_eq_or_imp, forall_eq]; exact ⟨q0, q1⟩)
 refine sr (Zc (v := .bool false) rfl (dn (wp_seq (sr (Zb (v := u0_0) rfl ?_)))))
 obtain ⟨Ad3, c4, hv5⟩ := Z2 (hC.getP 0 rfl)
 refine Z0 Try.underlying30 (tr rfl hv5) (Zb (v := u1_0) rfl ?_)
 obtain ⟨Ad6, c7, hv8⟩ := Z2 (hC.getP 1 rfl)
 refine Z0 Try.underlying30 (tr rfl hv8) (Xj rfl rfl (dn ?_))
 refine Zr rfl (fun hb9 => ?_) (fun hb9 => ?_)
 ·replace h := ift h (ct hb9)
  refine sr (Zc (v := .bool false) rfl (dn ?_))
  refine wp_ret (Zj ?_)
  refine Zo (fn := Try.f51) rfl ?_ ⟨false, rfl, h, hC.below⟩ (.inl rfl)
  exact Zh rfl
 ·replace h := Zi h (cf hb9)
  refine wp_skip (Zd (wp_seq (sr (Zc (v := .int .i64 0) rfl (dn (wp_block ?_))))))
  have hN10 : a0.length ≤ 9223372036854775807 := Xv (hC.getP 0 rfl)
  refine Y6 (S := Unit) _ _ (fun i10 s10 e_ w_ => Z4 e_ [(0, u0_0), (1, u1_0), (5, .int .i64 (i10 : Int))] ∧ Ctx Nox w0 w_ [] [Ty.item TForm.sl a0 [u0_0] fp0, Ty.item TForm.sl a1 [u1_0] fp1]) a0.length ?_ ?_ (s0 := ()) ?_ h
  ·clear hC h
   rintro i10 s10 e_ w10 nx10 K10 hi10 ⟨hS_, hC⟩ h hK10
   rw [ue hS_]
   refine wp_seq (sr (Zb (v := .int .i64 (i10 : Int)) rfl (Zb (v := u0_0) rfl ?_)))
   obtain ⟨Ad12, c10, hv12⟩ := Z2 (hC.getP 0 rfl)
   refine Z0 Try.underlying30 (tr rfl hv12) (Zs rfl rfl (dn (Yq rfl (decide_eq_true (by omega)) (wp_skip (Zd (wp_seq (wp_block (wp_seq ?_))))))))
   refine Ym 8 Yg [0, 0, 3, 7, 0, 0, 48, 112, 255, 511] [2, 3, 6, 7] [0, 1, 4, 5] (by kernel_rfl) (by kernel_rfl) (by kernel_rfl) (fun hM10 hM11 w11 hB_ => ?_)
   replace hC := hC.grow hB_
   refine aF 0 (u0_0) rfl rfl (hM11 0 rfl) (rfl) (fun _ => by exact Zg (v := u0_0) rfl) (Za 10 1) (aF 1 (.int .i64 (i10 : Int)) rfl rfl (hM11 1 rfl) (rfl) (fun _ => by exact Zg (v := .int .i64 (i10 : Int)) rfl) (Za 10 3) ?_)
   obtain ⟨Ad10, c11, hv10⟩ := Z9 (hC.getP 0 rfl) i10 hi10
   refine aL 2 (.pointer (some (Ad10.add (i10 * 1)))) rfl rfl (hM10 2 rfl) (rfl) (fun _ hB_ => by exact Yv (len := a0.length) Try.underlying30 ag95.size (by exact tr rfl hv10) rfl (Int.natCast_nonneg _) (Int.ofNat_lt.2 hi10)) (Za 10 7) ?_
   obtain ⟨cs_, hl10, hc10, hr10⟩ := X9 (hC.getP 0 rfl) hv10 i10 hi10
   obtain ⟨u10, rfl⟩ := List.length_eq_one_iff.1 hl10
   clear hl10
   rw [X3 _ _ hi10] at hr10
   have hp10 := hr10
   replace hC := hC.derive 0 rfl (Ty.item ETerm.ty.sl ((a0.getD i10 default).terms) [u10] fp0) (fun _ => (Xb hp10)) (fun _ hb_ => hb_)
   refine aL 3 (.agg #[u10]) rfl rfl (hM10 3 rfl) (rfl) (fun _ hB_ => by exact Xw [u10] (J9 hB_ hc10) ag95 rfl rfl) (Za 10 15) (aF 4 (u1_0) rfl rfl (hM11 4 rfl) (rfl) (fun _ => by exact Zg (v := u1_0) rfl) (Za 10 31) (aF 5 (.int .i64 (i10 : Int)) rfl rfl (hM11 5 rfl) (rfl) (fun _ => by exact Zg (v := .int .i64 (i10 : Int)) rfl) (Za 10 63) ?_))
   obtain ⟨⟨h10, h11⟩, h⟩ := h
   obtain ⟨Ad11, c12, hv11⟩ := Z9 (hC.getP 2 rfl) i10 (show i10 < a1.length by omega)
   refine aL 6 (.pointer (some (Ad11.add (i10 * 1)))) rfl rfl (hM10 6 rfl) (rfl) (fun _ hB_ => by exact Yv (len := a1.length) Try.underlying30 ag95.size (by exact tr rfl hv11) rfl h10 h11) (Za 10 127) ?_
   obtain ⟨cs_, hl11, hc11, hr11⟩ := X9 (hC.getP 2 rfl) hv11 i10 (show i10 < a1.length by omega)
   obtain ⟨u11, rfl⟩ := List.length_eq_one_iff.1 hl11
   clear hl11
   rw [X3 _ _ (show i10 < a1.length by omega)] at hr11
   have hp11 := hr11
   replace hC := hC.derive 2 rfl (Ty.item ETerm.ty.sl ((a1.getD i10 default).terms) [u11] fp1) (fun _ => (Xb hp11)) (fun _ hb_ => hb_)
   refine aL 7 (.agg #[u11]) rfl rfl (hM10 7 rfl) (rfl) (fun _ hB_ => by exact Xw [u11] (J9 hB_ hc11) ag95 rfl rfl) (Za 10 255) (Zv 8 (by decide) (by decide) (by kernel_rfl) (by kernel_rfl) rfl ?_)
   refine Zf [.agg #[u10], .agg #[u11]] _ Try.func110 rfl rfl rfl (Zq6 (a0.getD i10 default) (a1.getD i10 default) h _ (Yl (hC.getP 1 rfl)) (Yl (hC.getP 0 rfl))) (fun ret10 w12 hR10 => ?_)
   obtain ⟨r10, rfl, h, hB10⟩ := hR10
   refine ⟨_, rfl, ?_⟩
   replace hC := hC.grow hB10
   refine X0 rfl (done (Zw (Zd ?_)))
   refine Zr rfl (fun hb10 => ?_) (fun hb10 => ?_)
   ·replace h := ift h (Xq (X6 hb10))
    refine sr (Zc (v := .bool false) rfl (dn ?_))
    refine wp_ret (Yd (Zj (Zj (Yd (Zj ?_)))))
    refine Zo (fn := Try.f51) rfl ?_ ⟨false, rfl, h, hC.below⟩ (.inl rfl)
    exact Zh rfl
   ·replace h := Zi h (not_not_intro ((X7 hb10)))
    refine wp_skip (Zt (Zd (Zk (Zb (v := .int .i64 (i10 : Int)) rfl (Zq rfl rfl (Zc (v := .int .i64 (IntKind.i64.wrap ((i10 : Int) + 1))) rfl (done ?_)))))))
    replace hC := hC.sP [2, 3] (Ps' := [Ty.item TForm.sl a0 [u0_0] fp0, Ty.item TForm.sl a1 [u1_0] fp1]) rfl
    exact hK10 () _ _ ⟨(sl ⟨rfl, rfl, (tr rfl (congrArg _ (Yi hi10 hN10))), trivial⟩), hC⟩ h
  ·clear hC h
   rintro s10 e_ w13 K10 ⟨hS_, hC⟩ h
   rw [ue hS_]
   refine wp_seq (sr (Zb (v := .int .i64 (a0.length : Int)) rfl (Zb (v := u0_0) rfl ?_)))
   obtain ⟨Ad13, c13, hv13⟩ := Z2 (hC.getP 0 rfl)
   refine Z0 Try.underlying30 (tr rfl hv13) (Zs rfl rfl (dn (Yj rfl (decide_eq_false (by omega)) ?_)))
   refine wp_exit (Zl (Zl (Yc ?_)))
   refine Zd (sr (Zc (v := .bool true) rfl (dn (wp_ret ?_))))
   refine Zo (fn := Try.f51) rfl ?_ ⟨true, rfl, h, hC.below⟩ (.inl rfl)
   exact Zh rfl
  ·skip
   exact ⟨(sl ⟨rfl, rfl, rfl, trivial⟩), hC⟩
def Zfq (a0 : List Term) (a1 : Int) (K : Int → List Term → Prop) : Prop :=
 Xf (fun (s10 : (List Term) × Int × Int) nx10 => (if s10.2.2 < (s10.1.length : Int) then Yy (fun i10 (s11 : (List Term) × Int) nx11 => ((0 ≤ s10.2.2 ∧ s10.2.2 < (s11.1.length : Int)) ∧ nx11 (s11.1.set s10.2.2.toNat (⟨((s11.1.getD s10.2.2.toNat default).mono).set i10 (IntKind.u8.wrap s11.2), (s11.1.getD s10.2.2.toNat default).factor⟩ : Term), IntKind.i64.wrap (s11.2 + 1)))) (fun (s11 : (List Term) × Int) => ((0 ≤ s10.2.2 ∧ s10.2.2 < (s11.1.length : Int)) ∧ nx10 (s11.1.set s10.2.2.toNat (⟨(s11.1.getD s10.2.2.toNat default).mono, s11.2⟩ : Term), IntKind.i64.wrap (s11.2 + 1), IntKind.i64.wrap (s10.2.2 + 1)))) 8 0 (s10.1, s10.2.1) else K s10.2.1 s10.1)) (a0, a1, 0)
theorem Zq8 (a0 : List Term) (a1 : Int) {u0_0 : Value} {K : Int → List Term → Prop} (h : Zfq a0 a1 K) (w0 : World) (qw0 : (own 114 9 u0_0 a0.length (ETerm.encs a0)).holds w0) :
  Calls Try.prog 111 #[u0_0, .int .i64 a1] w0 fun e w' => ∃ (r0 : Int) (mw : List Term), 
   e = .returned (.int .i64 r0) ∧ K r0 mw ∧ (own 114 9 u0_0 mw.length (ETerm.encs mw)).holds w' ∧ BelO ((Option.toList (Value.ownBlock u0_0))) w0 w' := by
 unfold Zfq at h
 refine Z6 (args := [u0_0, .int .i64 a1]) Try.func111 rfl 35 Try.ntmps111 (Nat.le_of_ble_eq_true rfl) ?_
 have hC := Ctx.startL w0 ((Option.toList (Value.ownBlock u0_0))) [own 114 9 u0_0 a0.length (ETerm.encs a0)] [] (by simp only [List.mem_cons, List.not_mem_nil, or_false, forall_eq_or_imp, forall_eq]; exact qw0) (by simp) (by simp only [List.mem_cons, List.not_mem_nil, or_false, forall_eq_or_imp, forall_eq]; exact fun b hb => hb) (List.pairwise_singleton _ _) (by simp)
 refine sr (Zc (v := .int .i64 0) rfl (dn (wp_seq (sr (Zc (v := .int .i64 0) rfl (dn (wp_block ?_)))))))
 refine Xu (S := (List Term) × Int × Int) _ (fun s10 e_ w_ => Z4 e_ [(0, u0_0), (1, .int .i64 s10.2.1), (5, .int .i64 s10.2.2)] ∧ Ctx (fun c_ => c_ ∈ (Option.toList (Value.ownBlock u0_0))) w0 w_ [own 114 9 u0_0 s10.1.length (ETerm.encs s10.1)] []) ?_ (s0 := (a0, a1, 0)) ?_ h
 ·clear hC h
  rintro s10 e_ w10 nx10 K11 ⟨hS_, hC⟩ h hK10
  rw [ue hS_]
  refine wp_seq (sr (Zb (v := .int .i64 s10.2.2) rfl (Zb (v := u0_0) rfl ?_)))
  obtain ⟨Ad10, c10, hv12⟩ := J6 (hC.getM 0 rfl)
  refine Z0 Try.underlying93 (tr rfl hv12) (Zs rfl rfl (dn ?_))
  refine Zr rfl (fun hb10 => ?_) (fun hb10 => ?_)
  ·replace h := ift h (ct hb10)
   refine wp_skip (Zd (wp_seq (wp_block (wp_seq (sr (Zc (v := .int .i64 0) rfl (dn (wp_block ?_))))))))
   refine Y6 (S := (List Term) × Int) _ _ (fun i10 s11 e_ w_ => Z4 e_ [(0, u0_0), (1, .int .i64 s11.2), (5, .int .i64 s10.2.2), (6, .int .i64 (i10 : Int))] ∧ Ctx (fun c_ => c_ ∈ (Option.toList (Value.ownBlock u0_0))) w0 w_ [own 114 9 u0_0 s11.1.length (ETerm.encs s11.1)] []) 8 ?_ ?_ (s0 := (s10.1, s10.2.1)) ?_ h
   ·clear hC h
    rintro i10 s11 e_ w11 nx11 K10 hi10 ⟨hS_, hC⟩ h hK11
    rw [ue hS_]
    refine wp_seq (sr (Zb (v := .int .i64 (i10 : Int)) rfl (Zs rfl rfl (dn (Yq rfl (decide_eq_true (by omega)) (wp_skip (Zd (wp_seq (wp_block (sr (Zb (v := u0_0) rfl ?_)))))))))))
    refine Zb (v := .int .i64 s10.2.2) rfl (Zb (v := .int .i64 (i10 : Int)) rfl (Zb (v := .int .i64 s11.2) rfl (Zec Try.underlying3 Try.underlying5 rfl ?_)))
    obtain ⟨⟨h10, h11⟩, h⟩ := h
    obtain ⟨Ad11, c11, hv10⟩ := Zav (hC.getM 0 rfl) (Nat.lt_of_le_of_lt (Nat.zero_le _) (show s10.2.2.toNat < s11.1.length by omega))
    refine Zaw (s10.2.2.toNat * 9) Try.underlying93 ag114.size (tr rfl hv10) rfl h10 h11 rfl (Z1 (s10.2.2.toNat * 9 + 0) Try.underlying114 rfl ag49.size rfl rfl (Y1 (s10.2.2.toNat * 9 + 0 + i10) Try.underlying49 sc5.size rfl rfl (Int.natCast_nonneg _) (by omega) (by omega) (Zcl (v := .int .u8 (IntKind.u8.wrap s11.2)) hC 0 [.int .u8 (IntKind.u8.wrap s11.2)] (ETerm.encs (s11.1.set s10.2.2.toNat (⟨((s11.1.getD s10.2.2.toNat default).mono).set i10 (IntKind.u8.wrap s11.2), (s11.1.getD s10.2.2.toNat default).factor⟩ : Term))) rfl hv10 sc5.size rfl rfl rfl rfl rfl (by rw [Enc.encs_len]; have := Za3 (sz := 9) (show s10.2.2.toNat < s11.1.length by omega); have h9 : i10 + 1 ≤ 9 := (show i10 + 1 ≤ 9 by omega); have e9 : ETerm.sz = 9 := rfl; rw [e9]; omega) (Zlu (E := ETerm) (o := i10) (show s10.2.2.toNat < s11.1.length by omega) (show i10 + 1 ≤ 9 by omega) (Zpw hi10)) fun w12 hC => ?_)))
    replace hC := J8 hC 0 ((s11.1.set s10.2.2.toNat (⟨((s11.1.getD s10.2.2.toNat default).mono).set i10 (IntKind.u8.wrap s11.2), (s11.1.getD s10.2.2.toNat default).factor⟩ : Term)).length) (ETerm.encs (s11.1.set s10.2.2.toNat (⟨((s11.1.getD s10.2.2.toNat default).mono).set i10 (IntKind.u8.wrap s11.2), (s11.1.getD s10.2.2.toNat default).factor⟩ : Term))) rfl (by simp) rfl
    refine dn (Zk (Zb (v := .int .i64 s11.2) rfl (Zq rfl rfl (Zc (v := .int .i64 (IntKind.i64.wrap (s11.2 + 1))) rfl (done (Zt (Zd (Zk (Zb (v := .int .i64 (i10 : Int)) rfl (Zq rfl rfl (Zc (v := .int .i64 (IntKind.i64.wrap ((i10 : Int) + 1))) rfl ?_)))))))))))
    refine done ?_
    exact hK11 (s11.1.set s10.2.2.toNat (⟨((s11.1.getD s10.2.2.toNat default).mono).set i10 (IntKind.u8.wrap s11.2), (s11.1.getD s10.2.2.toNat default).factor⟩ : Term), IntKind.i64.wrap (s11.2 + 1)) _ _ ⟨(sl ⟨rfl, rfl, rfl, (tr rfl (congrArg _ (Yi hi10 (by decide)))), trivial⟩), hC⟩ h
   ·clear hC h
    rintro s11 e_ w13 K10 ⟨hS_, hC⟩ h
    rw [ue hS_]
    refine wp_seq (sr (Zb (v := .int .i64 8) rfl (Zs rfl rfl (dn (Yj rfl (decide_eq_false (by omega)) ?_)))))
    refine wp_exit (Zl (Zl (Yc ?_)))
    refine Zd (sr (Zb (v := u0_0) rfl (Zb (v := .int .i64 s10.2.2) rfl (Zb (v := .int .i64 s11.2) rfl ?_))))
    obtain ⟨⟨h12, h13⟩, h⟩ := h
    obtain ⟨Ad12, c12, hv11⟩ := Zav (hC.getM 0 rfl) (Nat.lt_of_le_of_lt (Nat.zero_le _) (show s10.2.2.toNat < s11.1.length by omega))
    refine Zaw (s10.2.2.toNat * 9) Try.underlying93 ag114.size (tr rfl hv11) rfl h12 h13 rfl (Z1 (s10.2.2.toNat * 9 + 8) Try.underlying114 rfl sc2.size rfl rfl (Zcl (v := .int .i64 s11.2) hC 0 [.int .i64 s11.2] (ETerm.encs (s11.1.set s10.2.2.toNat (⟨(s11.1.getD s10.2.2.toNat default).mono, s11.2⟩ : Term))) rfl hv11 sc2.size rfl rfl rfl rfl rfl (by rw [Enc.encs_len]; have := Za3 (sz := 9) (show s10.2.2.toNat < s11.1.length by omega); have h9 : 8 + 1 ≤ 9 := (Nat.le_of_ble_eq_true rfl); have e9 : ETerm.sz = 9 := rfl; rw [e9]; omega) (Zlu (E := ETerm) (o := 8) (show s10.2.2.toNat < s11.1.length by omega) (Nat.le_of_ble_eq_true rfl) rfl) fun w14 hC => ?_))
    replace hC := J8 hC 0 ((s11.1.set s10.2.2.toNat (⟨(s11.1.getD s10.2.2.toNat default).mono, s11.2⟩ : Term)).length) (ETerm.encs (s11.1.set s10.2.2.toNat (⟨(s11.1.getD s10.2.2.toNat default).mono, s11.2⟩ : Term))) rfl (by simp) rfl
    refine dn (Zk (Zb (v := .int .i64 s11.2) rfl (Zq rfl rfl (Zc (v := .int .i64 (IntKind.i64.wrap (s11.2 + 1))) rfl (done (Zt (Zd (Zk (Zb (v := .int .i64 s10.2.2) rfl (Zq rfl rfl (Zc (v := .int .i64 (IntKind.i64.wrap (s10.2.2 + 1))) rfl ?_)))))))))))
    refine done ?_
    exact hK10 (s11.1.set s10.2.2.toNat (⟨(s11.1.getD s10.2.2.toNat default).mono, s11.2⟩ : Term), IntKind.i64.wrap (s11.2 + 1), IntKind.i64.wrap (s10.2.2 + 1)) _ _ ⟨(sl ⟨rfl, rfl, rfl, trivial⟩), hC⟩ h
   ·skip
    exact ⟨(sl ⟨rfl, rfl, rfl, rfl, trivial⟩), hC⟩
  ·replace h := Zi h (cf hb10)
   refine wp_exit (Zl (Zl (Yc ?_)))
   refine Zd (sr (Zb (v := .int .i64 s10.2.1) rfl (Zc (v := .int .i64 s10.2.1) rfl (dn (wp_ret ?_)))))
   refine Zo (fn := Try.f111) rfl ?_ ⟨s10.2.1, s10.1, rfl, h, (hC.getM 0 rfl), hC.belO⟩ (.inl rfl)
   exact Zh rfl
 ·skip
  exact ⟨(sl ⟨rfl, rfl, rfl, trivial⟩), hC⟩
end Go.Proofs.Ytaagfepgbofmlaa
set_option linter.unusedVariables false
set_option linter.unusedSimpArgs false
set_option maxRecDepth 4000
set_option maxHeartbeats 4000000
namespace Go.Proofs.Ytaagfepgbofmlaa
open Go Go.RowKit Vc
def Zc3 (a0 : Bool) (a1 : Int) (K : Int → Prop) : Prop :=
 (if a0 = true then K a1 else K 0)
theorem Zjg (a0 : Bool) (a1 : Int)  {K : Int → Prop} (h : Zc3 a0 a1 K) (w0 : World)  :
  Calls Try.prog 47 #[.bool a0, .int .i64 a1] w0 fun e w' => ∃ (r0 : Int), 
   e = .returned (.int .i64 r0) ∧ K r0 ∧ Bel w0 w' := by
 unfold Zc3 at h
 refine Z6 (args := [.bool a0, .int .i64 a1]) Try.func47 rfl 7 Try.ntmps47 (Nat.le_of_ble_eq_true rfl) ?_
 have hC := Ctx.start (X := Nox) w0 [] (by simp)
 refine sr (Zc (v := .int .i64 0) rfl (dn (wp_seq (sr (Zb (v := .bool a0) rfl (dn ?_))))))
 refine Zr rfl (fun hb1 => ?_) (fun hb1 => ?_)
 ·replace h := ift h (hb1)
  refine sr (Zb (v := .int .i64 a1) rfl (Zc (v := .int .i64 a1) rfl (dn ?_)))
  refine wp_ret (Zj ?_)
  refine Zo (fn := Try.f47) rfl ?_ ⟨a1, rfl, h, hC.below⟩ (.inl rfl)
  exact Zh rfl
 ·replace h := Zi h (Xq hb1)
  refine wp_skip (Zd (sr (Zc (v := .int .i64 0) rfl (dn (wp_ret ?_)))))
  refine Zo (fn := Try.f47) rfl ?_ ⟨0, rfl, h, hC.below⟩ (.inl rfl)
  exact Zh rfl
end Go.Proofs.Ytaagfepgbofmlaa
set_option linter.unusedVariables false
set_option linter.unusedSimpArgs false
namespace Go.Proofs.Ytaagfepgbofmlaa
open Go Vc
theorem Zjh {a b c : Int} {K : Bool → Prop} (h : K (decide (b ≤ a ∧ a ≤ c))) : Zcy a b c K := by
  unfold Zcy
  split
  · rename_i h1; simpa [show b ≤ a from h1] using h
  · rename_i h1; simpa [show ¬ b ≤ a from h1] using h
theorem Zq9 {ds : List Int} {K : Bool → Prop} (h : K (decide (OkDeg ds))) : Ze4 ds K := by
  unfold Ze4
  refine Xg (fun i _ => ∀ j, j < i → 1 ≤ ds.getD j default ∧ ds.getD j default ≤ 12) ds.length ?_ ?_ _ _ _ (by omega) (by intro j hj; omega)
  · intro i s next hi hI hn
    refine Zjh ?_
    split
    · rename_i h1
      have : ¬ OkDeg ds := fun hd => h1 (by simpa using hd.2 i hi)
      simpa [this] using h
    · rename_i h1
      refine hn _ fun j hj => ?_
      by_cases hji : j = i
      · subst hji; simpa using h1
      · exact hI j (by omega)
  · intro s hI
    have : (decide ((ds.length : Int) ≤ 8)) = decide (OkDeg ds) := by
      rw [decide_eq_decide]; unfold OkDeg
      constructor
      · intro h8; exact ⟨by omega, hI⟩
      · intro h8; have := h8.1; omega
    rw [this]; exact h
theorem Zra {ds : List Int} {a : A8} {K : Bool → Prop} (ha : ∀ i, i < 8 → 0 ≤ a.get i) (hl : ds.length ≤ 8) (h : K (decide (OkMono ds a))) : Ze5 ds a K := by
  unfold Ze5
  refine Xg (fun i _ => ∀ j, j < i → (j < ds.length → a.get j ≤ 20 ∧ (Int.tmod (ds.getD j default) 2 ≠ 0 → a.get j ≤ 1)) ∧ (ds.length ≤ j → a.get j = 0)) 8 ?_ ?_ _ _ _ (by omega) (by intro j hj; omega)
  · intro i s next hi hI hn
    have no : ¬ ((i < ds.length → a.get i ≤ 20 ∧ (Int.tmod (ds.getD i default) 2 ≠ 0 → a.get i ≤ 1)) ∧ (ds.length ≤ i → a.get i = 0)) → K false := by
      intro hno
      have : ¬ OkMono ds a := fun hm => hno (hm i hi)
      simpa [this] using h
    have yes : ((i < ds.length → a.get i ≤ 20 ∧ (Int.tmod (ds.getD i default) 2 ≠ 0 → a.get i ≤ 1)) ∧ (ds.length ≤ i → a.get i = 0)) → next () := by
      intro hy
      refine hn _ fun j hj => ?_
      by_cases hji : j = i
      · subst hji; exact hy
      · exact hI j (by omega)
    split
    · split
      · exact no (by intro q; have := q.2 (by omega); contradiction)
      · rename_i q
        exact yes ⟨by omega, by intro _; simpa using q⟩
    · split
      · exact no (by intro q; have := (q.1 (by omega)).1; omega)
      · refine ⟨by omega, ?_⟩
        split
        · split
          · exact no (by intro q; rename_i q1 q2; have := (q.1 (by omega)).2 q1; omega)
          · exact yes ⟨fun _ => ⟨by omega, fun _ => by omega⟩, by omega⟩
        · rename_i q1
          exact yes ⟨fun _ => ⟨by omega, fun q2 => absurd q2 q1⟩, by omega⟩
  · intro s hI
    have : OkMono ds a := fun i hi => hI i hi
    simpa [this] using h
theorem Zrb {ds : List Int} {a : A8} {K : Bool → Prop} (hd : OkDeg ds) (ha : ∀ i, i < 8 → 0 ≤ a.get i) (h : K (decide (OkMono ds a))) : Zfe ds a K := by
  unfold Zfe
  refine Xg (fun i _ => ∀ j, j < i → (j < ds.length → a.get j ≤ 20 ∧ (Int.tmod (ds.getD j default) 2 ≠ 0 → a.get j ≤ 1)) ∧ (ds.length ≤ j → a.get j = 0)) 8 ?_ ?_ _ _ _ (by omega) (by intro j hj; omega)
  · intro i s next hi hI hn
    have hai := ha i hi
    have no : ¬ ((i < ds.length → a.get i ≤ 20 ∧ (Int.tmod (ds.getD i default) 2 ≠ 0 → a.get i ≤ 1)) ∧ (ds.length ≤ i → a.get i = 0)) → K false := by
      intro hno
      have : ¬ OkMono ds a := fun hm => hno (hm i hi)
      simpa [this] using h
    have yes : ((i < ds.length → a.get i ≤ 20 ∧ (Int.tmod (ds.getD i default) 2 ≠ 0 → a.get i ≤ 1)) ∧ (ds.length ≤ i → a.get i = 0)) → next () := by
      intro hy
      refine hn _ fun j hj => ?_
      by_cases hji : j = i
      · subst hji; exact hy
      · exact hI j (by omega)
    split
    · refine ⟨by omega, ?_⟩
      rename_i hl
      have hod := hd.odd (show i < ds.length by omega)
      split
      · rename_i h1
        split
        · exact no (by intro q; have := (q.1 (by omega)).2 (by omega); omega)
        · exact yes ⟨fun _ => ⟨by omega, fun _ => by omega⟩, by omega⟩
      · rename_i h1
        split
        · exact no (by intro q; have := (q.1 (by omega)).1; omega)
        · exact yes ⟨fun _ => ⟨by omega, fun q => by omega⟩, by omega⟩
    · split
      · exact no (by intro q; have := q.2 (by omega); omega)
      · exact yes ⟨by omega, fun _ => by omega⟩
  · intro s hI
    have : OkMono ds a := fun i hi => hI i hi
    simpa [this] using h
theorem Zho {a b c : Int} {K : Bool → Prop} (h : K (decide (b ≤ a ∧ a ≤ c))) : Zc2 a b c K := by
  unfold Zc2
  split
  · rename_i h1; simpa [show b ≤ a from h1] using h
  · rename_i h1; simpa [show ¬ b ≤ a from h1] using h
theorem Zrc {ds : List Int} {K : Bool → Prop} (h : K (decide (OkDeg ds))) : Zfd ds K := by
  unfold Zfd
  split
  · rename_i h8
    unfold Zhk Zhj
    refine Xg (fun i _ => ∀ j, j < i → 1 ≤ ds.getD j default ∧ ds.getD j default ≤ 12) ds.length ?_ ?_ _ _ _ (by omega) (by intro j hj; omega)
    · intro i s next hi hI hn
      unfold Zfc
      refine Zho ?_
      dsimp only
      split
      · rename_i h1
        have : ¬ OkDeg ds := fun hd => by have := hd.2 i hi; simp only [Bool.not_eq_true', decide_eq_false_iff_not] at h1; exact h1 this
        simpa [this, show (i : Int) ≥ 0 by omega] using h
      · rename_i h1
        refine hn _ fun j hj => ?_
        by_cases hji : j = i
        · subst hji; simp only [Bool.not_eq_true', decide_eq_false_iff_not, Decidable.not_not] at h1; exact h1
        · exact hI j (by omega)
    · intro s hI
      have : OkDeg ds := ⟨by omega, hI⟩
      simpa [this] using h
  · have : ¬ OkDeg ds := fun hd => by have := hd.1; omega
    simpa [this] using h
theorem Zhp {a : A8} {K : A8 → Prop} (ha : Zao .u8 a) (h : K a) : Zcb a K := by
  unfold Zcb
  refine Xg (fun i (s : A8) => ∀ j, j < 8 → s.get j = if j < i then a.get j else 0) 8 ?_ ?_ _ _ _ (by omega) (by intro j hj; simp [A8.get_zero])
  · intro i s next hi hI hn
    have := Zit (Ziu ha hi)
    rw [i64_in _ (by omega)]
    refine hn _ fun j hj => ?_
    rw [A8.get_set hi]
    by_cases hji : j = i
    · subst hji; simp
    · rw [if_neg hji, hI j hj]
      by_cases hj2 : j < i
      · rw [if_pos hj2, if_pos (by omega)]
      · rw [if_neg hj2, if_neg (by omega)]
  · intro s hI
    have : s = a := A8.ext_get fun i hi => by rw [hI i hi, if_pos hi]
    rw [this]; exact h
theorem Zrd {a : A8} {K : A8 → Prop} (h : K a) : Zfi a K := by
  unfold Zfi
  refine Xg (fun i (s : A8) => ∀ j, j < 8 → s.get j = if j < i then a.get j else 0) 8 ?_ ?_ _ _ _ (by omega) (by intro j hj; simp [A8.get_zero])
  · intro i s next hi hI hn
    refine hn _ fun j hj => ?_
    rw [A8.get_set hi]
    by_cases hji : j = i
    · subst hji; simp
    · rw [if_neg hji, hI j hj]
      by_cases hj2 : j < i
      · rw [if_pos hj2, if_pos (by omega)]
      · rw [if_neg hj2, if_neg (by omega)]
  · intro s hI
    have : s = a := A8.ext_get fun i hi => by rw [hI i hi, if_pos hi]
    rw [this]; exact h
theorem Zre {ds : List Int} {K : List Int → Prop} (hl : ds.length ≤ 1048576) (h : K ds) : Zfj ds K := by
  unfold Zfj
  refine ⟨by omega, ?_⟩
  refine Xg (fun i (s : List Int) => s.length = ds.length ∧ ∀ j, j < i → s.getD j default = ds.getD j default) ds.length ?_ ?_ _ _ _ (by omega) (by simp)
  · intro i s next hi hI hn
    refine ⟨by omega, hn _ ⟨by simpa using hI.1, fun j hj => ?_⟩⟩
    by_cases hji : j = i
    · subst hji; simp [List.getD, hI.1, hi]
    · rw [← hI.2 j (by omega)]; simp [List.getD, List.getElem?_set_ne (fun e => hji e.symm)]
  · intro s hI
    have : s = ds := by
      apply List.ext_getElem hI.1
      intro i h1 h2
      have := hI.2 i h2
      simpa [List.getD, h1, h2] using this
    rw [this]; exact h
theorem Zrf {a b : A8} {K : Bool → Prop} (h : K (decide (a = b))) : Zfk a b K := by
  unfold Zfk
  refine Xg (fun i _ => ∀ j, j < i → a.get j = b.get j) 8 ?_ ?_ _ _ _ (by omega) (by intro j hj; omega)
  · intro i s next hi hI hn
    split
    · rename_i h1
      have : ¬ a = b := fun e => h1 (by rw [e])
      simpa [this] using h
    · rename_i h1
      refine hn _ fun j hj => ?_
      by_cases hji : j = i
      · subst hji; simpa using h1
      · exact hI j (by omega)
  · intro s hI
    have : a = b := A8.ext_get hI
    simpa [this] using h
theorem Zl7 {a b : List Int} {K : Bool → Prop} (h : K (decide (a = b))) : Zdt a b K := by
  unfold Zdt
  split
  · rename_i h1
    have : ¬ a = b := fun e => h1 (by rw [e])
    simpa [this] using h
  · rename_i h1
    have hl : a.length = b.length := by omega
    refine Xg (fun i _ => ∀ j, j < i → a.getD j default = b.getD j default) a.length ?_ ?_ _ _ _ (by omega) (by intro j hj; omega)
    · intro i s next hi hI hn
      refine ⟨by omega, ?_⟩
      split
      · rename_i h1
        have : ¬ a = b := fun e => h1 (by rw [e])
        simpa [this] using h
      · rename_i h1
        refine hn _ fun j hj => ?_
        by_cases hji : j = i
        · subst hji; simpa using h1
        · exact hI j (by omega)
    · intro s hI
      have : a = b := by
        apply List.ext_getElem hl
        intro i h1 h2
        have := hI i h1
        simpa [List.getD, h1, h2] using this
      simpa [this] using h
end Go.Proofs.Ytaagfepgbofmlaa
set_option linter.unusedVariables false
set_option linter.unusedSimpArgs false
namespace Go.Proofs.Ytaagfepgbofmlaa
open Go Vc
theorem Zhq {ds : List Int} {a : A8} (h : Xs ds a) (hl : ds.length ≤ 8) {i : Nat} (hi : i < ds.length) (ho : Int.tmod (ds.getD i default) 2 ≠ 0) : a.get i ≤ 1 := ((h i (by omega)).1 hi).2 ho
theorem Zrg {ds : List Int} {a b s : A8} (ha : Xs ds a) (hb : Xs ds b) (hl : ds.length ≤ 8) (h : ∀ j, j < 8 → s.get j = if j < ds.length then a.get j + b.get j else 0) : s = a.add b := by
  refine A8.ext_get fun i hi => ?_
  rw [h i hi, A8.get_add]
  split
  · rfl
  · rw [(ha i hi).2 (by omega), (hb i hi).2 (by omega)]; rfl
theorem Zrh {ds : List Int} {a b : A8} {K : A8 → Int → Prop} (hd : OkDeg ds) (ha : Xs ds a) (hb : Xs ds b) (pa : ∀ i, i < 8 → 0 ≤ a.get i) (pb : ∀ i, i < 8 → 0 ≤ b.get i)
    (h : K (Yz ds a b).1 (Yz ds a b).2) : Ze6 ds a b K := by
  have h8 := hd.1
  unfold Ze6
  refine Xg (fun i (s : A8 × Int) => (∀ j, j < i → j < ds.length → Int.tmod (ds.getD j default) 2 ≠ 0 → ¬ (0 < a.get j ∧ 0 < b.get j)) ∧ (∀ j, j < 8 → s.1.get j = if j < i then a.get j + b.get j else 0) ∧ (s.2 = 1 ∨ s.2 = -1) ∧ s.2 * sg (Zaf ds a b (ds.length - i) i) = sg (Zaf ds a b ds.length 0)) ds.length ?_ ?_ _ _ _ (by omega) ⟨by intro j hj; omega, by intro j hj; simp [A8.get_zero], by simp, by simp⟩
  · rintro i ⟨s1, s2⟩ next hi ⟨h1, h2, h3, h4⟩ hn
    have hi8 : i < 8 := by omega
    have pai := pa i hi8
    have pbi := pb i hi8
    have a20 := ((ha i hi8).1 hi).1
    have b20 := ((hb i hi8).1 hi).1
    have hr : ds.length - i = (ds.length - (i + 1)) + 1 := by omega
    rw [hr] at h4
    simp only [Zaf] at h4
    dsimp only at h1 h2 h3 h4 ⊢
    have hw : IntKind.u8.wrap (a.get i + b.get i) = a.get i + b.get i := Zg4 _ (by omega)
    rw [hw]
    have hset : ∀ j, j < 8 → (s1.set i (a.get i + b.get i)).get j = if j < i + 1 then a.get j + b.get j else 0 := by
      intro j hj
      rw [A8.get_set hi8]
      by_cases hji : j = i
      · subst hji; simp
      · rw [if_neg hji, h2 j hj]
        by_cases hj2 : j < i
        · rw [if_pos hj2, if_pos (by omega)]
        · rw [if_neg hj2, if_neg (by omega)]
    refine ⟨by omega, by omega, by omega, ?_⟩
    split
    · rename_i he
      rw [if_pos (.inl he), Int.zero_add] at h4
      refine hn _ ⟨fun j hj hjl ho => ?_, hset, h3, h4⟩
      by_cases hji : j = i
      · subst hji; exact absurd he ho
      · exact h1 j (by omega) hjl ho
    · rename_i he
      have a1 := Zhq ha h8 hi he
      have b1 := Zhq hb h8 hi he
      refine ⟨by omega, ?_⟩
      rw [A8.get_set hi8, if_pos rfl]
      split
      · rename_i hc
        have : Clash ds a b := ⟨i, hi, he, by omega, by omega⟩
        simpa [Yz, this] using h
      · rename_i hc
        have hnc : ∀ j, j < i + 1 → j < ds.length → Int.tmod (ds.getD j default) 2 ≠ 0 → ¬ (0 < a.get j ∧ 0 < b.get j) := by
          intro j hj hjl ho
          by_cases hji : j = i
          · subst hji; omega
          · exact h1 j (by omega) hjl ho
        rw [i64_in _ (by omega)]
        refine X1 (fun (t : Int × Int) => ((i : Int) + 1 ≤ t.1 ∧ t.1 ≤ ds.length) ∧ (t.2 = 1 ∨ t.2 = -1) ∧ (b.get i = 1 → t.2 * sg (Zax ds a (ds.length - t.1.toNat) t.1.toNat) = s2 * sg (Zax ds a (ds.length - (i + 1)) (i + 1))) ∧ (b.get i ≠ 1 → t.2 = s2)) (fun t => ds.length - t.1.toNat) ?_ ⟨by omega, h3, fun _ => by rw [show ((i : Int) + 1).toNat = i + 1 by omega], fun _ => rfl⟩
        rintro ⟨j, c⟩ next' ⟨⟨q1, q2⟩, q3, q4, q5⟩ hn'
        dsimp only at q1 q2 q3 q4 q5 ⊢
        split
        · rename_i hj
          refine ⟨by omega, ?_⟩
          split
          · rename_i hb1
            have hjn : j.toNat < ds.length := by omega
            refine ⟨by omega, ?_⟩
            have q4 := q4 hb1
            have hr2 : ds.length - j.toNat = (ds.length - (j.toNat + 1)) + 1 := by omega
            rw [hr2] at q4
            simp only [Zax] at q4
            have hj1 : (j + 1).toNat = j.toNat + 1 := by omega
            rw [i64_in (j + 1) (by omega)]
            have pj := pa j.toNat (by omega)
            split
            · rename_i ho
              have aj := Zhq ha h8 hjn ho
              have od := hd.odd hjn
              have od1 : Int.tmod (ds.getD j.toNat default) 2 = 1 := by omega
              rw [od1, Int.one_mul] at q4
              refine ⟨by omega, ?_⟩
              split
              · rename_i haj
                rw [haj, Int.add_comm, Zo1] at q4
                rw [i64_in (0 - c) (by omega)]
                refine hn' _ ⟨⟨by dsimp only; omega, by dsimp only; omega⟩, by dsimp only; omega, fun _ => ?_, fun hne => absurd hb1 hne⟩ (by dsimp only; omega)
                dsimp only
                rw [hj1, Int.zero_sub, Int.neg_mul, ← Int.mul_neg]; exact q4
              · rename_i haj
                rw [show a.get j.toNat = 0 by omega, Int.zero_add] at q4
                refine hn' _ ⟨⟨by dsimp only; omega, by dsimp only; omega⟩, q3, fun _ => ?_, fun hne => absurd hb1 hne⟩ (by dsimp only; omega)
                dsimp only
                rw [hj1]; exact q4
            · rename_i ho
              rw [show Int.tmod (ds.getD j.toNat default) 2 = 0 by simpa using ho, Int.zero_mul, Int.zero_add] at q4
              refine hn' _ ⟨⟨by dsimp only; omega, by dsimp only; omega⟩, q3, fun _ => ?_, fun hne => absurd hb1 hne⟩ (by dsimp only; omega)
              dsimp only
              rw [hj1]; exact q4
          · rename_i hb1
            refine hn _ ⟨hnc, hset, q3, ?_⟩
            rw [if_pos (.inr (by omega)), Int.zero_add] at h4
            dsimp only
            rw [q5 hb1]; exact h4
        · rename_i hj
          refine hn _ ⟨hnc, hset, q3, ?_⟩
          dsimp only
          by_cases hb1 : b.get i = 1
          · have q4 := q4 hb1
            rw [show ds.length - j.toNat = 0 by omega] at q4
            simp only [Zax] at q4
            rw [show sg 0 = 1 from rfl, Int.mul_one] at q4
            rw [if_neg (by omega), Zg5, ← Int.mul_assoc] at h4
            rw [q4]; exact h4
          · rw [if_pos (.inr (by omega)), Int.zero_add] at h4
            rw [q5 hb1]; exact h4
  · rintro ⟨s1, s2⟩ ⟨h1, h2, h3, h4⟩
    have hnc : ¬ Clash ds a b := fun ⟨i, hi, ho, hp⟩ => h1 i hi hi ho hp
    rw [Nat.sub_self] at h4
    simp only [Zaf] at h4
    rw [show sg 0 = 1 from rfl, Int.mul_one] at h4
    have hs : s1 = a.add b := Zrg ha hb h8 h2
    dsimp only at h4 ⊢
    rw [hs, h4]
    simpa [Yz, hnc] using h
theorem Zri {ds : List Int} {a b : A8} {K : A8 → Int → Prop} (hd : OkDeg ds) (ha : Xs ds a) (hb : Xs ds b) (pa : ∀ i, i < 8 → 0 ≤ a.get i) (pb : ∀ i, i < 8 → 0 ≤ b.get i)
    (h : K (Yz ds a b).1 (Yz ds a b).2) : Zfb a ds b K := by
  have h8 := hd.1
  have bnd : ∀ (x : A8), Xs ds x → ∀ i, i < 8 → x.get i ≤ 100 := by
    intro x hx i hi
    by_cases hl : i < ds.length
    · exact ((hx i hi).1 hl).1
    · rw [(hx i hi).2 (by omega)]; omega
  unfold Zfb
  refine Xg (fun i (c : Int) => (∀ j, j < i → j < ds.length → Int.tmod (ds.getD j default) 2 ≠ 0 → ¬ (0 < a.get j ∧ 0 < b.get j)) ∧ (0 ≤ c ∧ c ≤ 8 * i) ∧ c + Zaf ds a b (ds.length - i) i = Zaf ds a b ds.length 0) ds.length ?_ ?_ _ _ _ (by omega) ⟨by intro j hj; omega, by omega, by simp⟩
  · rintro i c next hi ⟨h1, h2, h4⟩ hn
    have hi8 : i < 8 := by omega
    have pai := pa i hi8
    have pbi := pb i hi8
    have hr : ds.length - i = (ds.length - (i + 1)) + 1 := by omega
    rw [hr] at h4
    simp only [Zaf] at h4
    split
    · rename_i he
      rw [if_pos (.inl he), Int.zero_add] at h4
      refine hn _ ⟨fun j hj hjl ho => ?_, by omega, h4⟩
      by_cases hji : j = i
      · subst hji; exact absurd he ho
      · exact h1 j (by omega) hjl ho
    · rename_i he
      refine ⟨by omega, ?_⟩
      have hnc : ¬ (0 < a.get i ∧ 0 < b.get i) → ∀ j, j < i + 1 → j < ds.length → Int.tmod (ds.getD j default) 2 ≠ 0 → ¬ (0 < a.get j ∧ 0 < b.get j) := by
        intro hno j hj hjl ho
        by_cases hji : j = i
        · subst hji; exact hno
        · exact h1 j (by omega) hjl ho
      split
      · rename_i hap
        refine ⟨by omega, ?_⟩
        split
        · rename_i hbp
          have : Clash ds a b := ⟨i, hi, he, by omega, by omega⟩
          simpa [Yz, this] using h
        · rename_i hbp
          rw [if_pos (.inr (by omega)), Int.zero_add] at h4
          exact ⟨by omega, hn _ ⟨hnc (by omega), by omega, h4⟩⟩
      · rename_i hap
        refine ⟨by omega, ?_⟩
        split
        · rename_i hbp
          have he0 : ¬ (Int.tmod (ds.getD i default) 2 = 0 ∨ b.get i ≤ 0) := by rintro (q | q); exact he q; omega
          rw [if_neg he0] at h4
          rw [i64_in _ (by omega)]
          refine X1 (fun (t : Int × Int) => ((i : Int) + 1 ≤ t.1 ∧ t.1 ≤ ds.length) ∧ (0 ≤ t.2 ∧ t.2 ≤ 8 * i + (t.1 - (i + 1))) ∧ t.2 + Zax ds a (ds.length - t.1.toNat) t.1.toNat = c + Zax ds a (ds.length - (i + 1)) (i + 1)) (fun t => ds.length - t.1.toNat) ?_ ⟨by omega, by omega, by rw [show ((i : Int) + 1).toNat = i + 1 by omega]⟩
          rintro ⟨j, d⟩ next' ⟨⟨q1, q2⟩, q3, q4⟩ hn'
          dsimp only at q1 q2 q3 q4 ⊢
          split
          · rename_i hj
            have hjn : j.toNat < ds.length := by omega
            refine ⟨by omega, by omega, ?_⟩
            have hr2 : ds.length - j.toNat = (ds.length - (j.toNat + 1)) + 1 := by omega
            rw [hr2] at q4
            simp only [Zax] at q4
            have hj1 : (j + 1).toNat = j.toNat + 1 := by omega
            have pj := pa j.toNat (by omega)
            have hm : 0 ≤ Int.tmod (ds.getD j.toNat default) 2 * a.get j.toNat ∧ Int.tmod (ds.getD j.toNat default) 2 * a.get j.toNat ≤ 1 := by
              rcases hd.odd hjn with od | od
              · rw [od]; omega
              · have := Zhq ha h8 hjn (by omega)
                rw [od]; omega
            rw [i64_in (Int.tmod (ds.getD j.toNat default) 2 * a.get j.toNat) (by omega), i64_in (d + Int.tmod (ds.getD j.toNat default) 2 * a.get j.toNat) (by omega), i64_in (j + 1) (by omega)]
            refine hn' _ ⟨⟨by dsimp only; omega, by dsimp only; omega⟩, by dsimp only; omega, ?_⟩ (by dsimp only; omega)
            dsimp only
            rw [hj1]; omega
          · rename_i hj
            rw [show ds.length - j.toNat = 0 by omega] at q4
            simp only [Zax] at q4
            refine hn _ ⟨hnc (by omega), by omega, by omega⟩
        · rename_i hbp
          rw [if_pos (.inr (by omega)), Int.zero_add] at h4
          exact hn _ ⟨hnc (by omega), by omega, h4⟩
  · rintro c ⟨h1, h2, h4⟩
    have hnc : ¬ Clash ds a b := fun ⟨i, hi, ho, hp⟩ => h1 i hi hi ho hp
    rw [Nat.sub_self] at h4
    simp only [Zaf, Int.add_zero] at h4
    refine Xg (fun i (s : A8) => ∀ j, j < 8 → s.get j = if j < i then a.get j + b.get j else a.get j) 8 ?_ ?_ _ _ _ (by omega) (by intro j hj; simp)
    · intro i s next hi hI hn
      have e1 := hI i hi
      rw [if_neg (by omega)] at e1
      have := bnd a ha i hi
      have := bnd b hb i hi
      have := pa i hi
      have := pb i hi
      rw [e1, i64_in _ (by omega)]
      refine hn _ fun j hj => ?_
      rw [A8.get_set hi]
      by_cases hji : j = i
      · subst hji; simp
      · rw [if_neg hji, hI j hj]
        by_cases hj2 : j < i
        · rw [if_pos hj2, if_pos (by omega)]
        · rw [if_neg hj2, if_neg (by omega)]
    · intro s hI
      have hs : s = a.add b := A8.ext_get fun i hi => by rw [hI i hi, if_pos hi, A8.get_add]
      have hj : Yz ds a b = (a.add b, sg c) := by simp [Yz, hnc, h4]
      rw [hj] at h
      rw [hs]
      split
      · rename_i ho
        have : sg c = -1 := by unfold sg; rw [Int.tmod_eq_emod_of_nonneg (by omega)] at ho; rw [if_neg (by omega)]
        rw [this] at h; exact h
      · rename_i ho
        have : sg c = 1 := by unfold sg; rw [Int.tmod_eq_emod_of_nonneg (by omega)] at ho; rw [if_pos (by omega)]
        rw [this] at h; exact h
end Go.Proofs.Ytaagfepgbofmlaa
set_option linter.unusedVariables false
set_option linter.unusedSimpArgs false
namespace Go.Proofs.Ytaagfepgbofmlaa
open Go Vc
end Go.Proofs.Ytaagfepgbofmlaa
set_option linter.unusedVariables false
set_option linter.unusedSimpArgs false
namespace Vc
open Go Go.RowKit Go.ChangeShapes Go.WideShapes Go.ChangeAt
section
variable {H : Type} {enc : TypeId × Value → H} {P : Program} {W : World}
end
end Vc
