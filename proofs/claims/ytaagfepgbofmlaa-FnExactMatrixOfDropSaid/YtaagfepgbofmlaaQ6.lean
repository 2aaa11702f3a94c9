import Derived.Test.YtaagfepgbofmlaaQ5
set_option linter.unusedVariables false
set_option linter.unusedSimpArgs false
set_option maxRecDepth 4000
set_option maxHeartbeats 4000000
namespace Go.Proofs.Ytaagfepgbofmlaa
open Go Go.RowKit Vc
def Zge (a0 : Vc.Derive) (a1 : List (A8 × Int)) (K : List (A8 × Int) → Prop) : Prop :=
 Zbd (fun (q10 : A8 × Int) (s13 : (List (A8 × Int))) nx13 => Yy (fun i10 (s10 : A8 × (List (A8 × Int))) nx10 => ((0 ≤ (i10 : Int) ∧ (i10 : Int) < 8) ∧ (if q10.1.get i10 > 0 then Zdr s10.1 a0.alg.degrees (fun r37 => (if Int.tmod (IntKind.i64.wrap (a0.drop * r37)) 2 = 1 then Xf (fun (s11 : A8 × Int) nx11 => (if s11.2 < IntKind.i64.wrap ((i10 : Int) + 1) then ((0 ≤ s11.2 ∧ s11.2 < 8) ∧ nx11 (s11.1.set s11.2.toNat 0, IntKind.i64.wrap (s11.2 + 1))) else ((0 ≤ (i10 : Int) ∧ (i10 : Int) < 8) ∧ ((0 ≤ (i10 : Int) ∧ (i10 : Int) < (a0.images.length : Int)) ∧ X4 (Zy ([] : List (A8 × Int)) (s10.1.set i10 (IntKind.i64.wrap ((q10.1.get i10) - 1))) 1) a0.alg.degrees (a0.images.getD i10 default) (fun r15 => X4 r15 a0.alg.degrees (Zy ([] : List (A8 × Int)) s11.1 1) (fun r13 => Zaa (IntKind.i64.wrap ((IntKind.i64.wrap ((-1) * q10.2)) * (q10.1.get i10))) (fun r11 => Zab s10.2 r13 r11 (fun m10 => ((0 ≤ (i10 : Int) ∧ (i10 : Int) < 8) ∧ nx10 (s10.1.set i10 (q10.1.get i10), m10)))))))))) (q10.1, 0) else Xf (fun (s12 : A8 × Int) nx12 => (if s12.2 < IntKind.i64.wrap ((i10 : Int) + 1) then ((0 ≤ s12.2 ∧ s12.2 < 8) ∧ nx12 (s12.1.set s12.2.toNat 0, IntKind.i64.wrap (s12.2 + 1))) else ((0 ≤ (i10 : Int) ∧ (i10 : Int) < 8) ∧ ((0 ≤ (i10 : Int) ∧ (i10 : Int) < (a0.images.length : Int)) ∧ X4 (Zy ([] : List (A8 × Int)) (s10.1.set i10 (IntKind.i64.wrap ((q10.1.get i10) - 1))) 1) a0.alg.degrees (a0.images.getD i10 default) (fun r16 => X4 r16 a0.alg.degrees (Zy ([] : List (A8 × Int)) s12.1 1) (fun r14 => Zaa (IntKind.i64.wrap ((IntKind.i64.wrap (1 * q10.2)) * (q10.1.get i10))) (fun r12 => Zab s10.2 r14 r12 (fun m11 => ((0 ≤ (i10 : Int) ∧ (i10 : Int) < 8) ∧ nx10 (s10.1.set i10 (q10.1.get i10), m11)))))))))) (q10.1, 0))) else ((0 ≤ (i10 : Int) ∧ (i10 : Int) < 8) ∧ nx10 (s10.1.set i10 (q10.1.get i10), s10.2))))) (fun (s10 : A8 × (List (A8 × Int))) => nx13 s10.2) a0.alg.degrees.length 0 (A8.zero, s13)) (fun (s13 : (List (A8 × Int))) => K s13) a1.length a1 ([] : List (A8 × Int))
theorem Ztw (a0 : Vc.Derive) (a1 : List (A8 × Int)) {b0 : Nat} {b1 : Nat} {u0_0 : Value} {u0_1 : Value} {u0_2 : Value} {fp0 : List Nat} {K : List (A8 × Int) → Prop} (h : Zge a0 a1 K) (w0 : World) (q0 : (Xk 32).rep a0 [u0_0, u0_1, u0_2] fp0 w0) (qb0 : (blk b0 150 [u0_0, u0_1, u0_2]).holds w0) (q1 : (Ze (kvA .i64) (vvI .i64) b1 a1).holds w0) :
  Calls Try.prog 144 #[.pointer (some ⟨b0, 0, none⟩), .map (some b1)] w0 fun e w' => ∃ (r0 : List (A8 × Int)) (zb0 : Nat), 
   e = .returned (.map (some zb0)) ∧ K r0 ∧ (Ze (kvA .i64) (vvI .i64) zb0 r0).holds w' ∧ w0.heap.size ≤ zb0 ∧ Bel w0 w' := by
 unfold Zge at h
 refine Z6 (args := [.pointer (some ⟨b0, 0, none⟩), .map (some b1)]) Try.func144 rfl 98 Try.ntmps144 (Nat.le_of_ble_eq_true rfl) ?_
 have hC := Ctx.start (X := Nox) w0 [Ty.item (Xk 32) a0 [u0_0, u0_1, u0_2] fp0, blk b0 150 [u0_0, u0_1, u0_2], Ze (kvA .i64) (vvI .i64) b1 a1] (by simp only [List.mem_cons, List.not_mem_nil, or_false, forall_eq_or_imp, forall_eq]; exact ⟨q0, qb0, q1⟩)
 have hp4 := (hC.getP 0 rfl)
 obtain ⟨b5, u6, u7, rfl, rfl, hbf8, hk9, ha10, hi11⟩ := Zmm hp4
 have hp10 := ha10
 replace hC := hC.derive 0 rfl (Ty.item ((EI .i64).ty.sl) a0.alg.degrees [u6] fp0) (fun _ => (Yt hp10).1) (fun _ hb_ => hb_)
 replace hC := hC.derive 1 rfl (Ty.item TForm.sl a0.alg.images [u7] fp0) (fun _ => (Yt hp10).2) (fun _ hb_ => hb_)
 replace hC := hC.derive 2 rfl (blk b5 32 [u6, u7]) (fun _ => hk9) (fun c_ hc_ => by obtain rfl := List.mem_singleton.1 hc_; exact hbf8)
 replace hC := hC.derive 3 rfl (Ty.item ((Xo (kvA .i64) (vvI .i64)).sl) a0.images [u0_2] fp0) (fun _ => hi11) (fun _ hb_ => hb_)
 refine sr (Zc (v := .map none) rfl (dn (wp_seq ?_)))
 refine Ym 9 Yg [0, 0, 2, 6, 14, 30, 62, 126, 1, 511] [4, 7] [1, 2, 3, 5, 6, 8] (by kernel_rfl) (by kernel_rfl) (by kernel_rfl) (fun hM16 hM12 w14 hB_ => ?_)
 replace hC := hC.grow hB_
 refine aF 1 (.pointer (some ⟨b0, 0, none⟩)) rfl rfl (hM12 1 rfl) (rfl) (fun _ => by exact Zg (v := .pointer (some ⟨b0, 0, none⟩)) rfl) (Za 10 2) (aF 2 (.pointer (some ⟨b0, 0, none⟩)) rfl rfl (hM12 2 rfl) (rfl) (fun _ => by exact Jx rfl) (Za 10 6) (aF 3 (.pointer (some ⟨b0, 0, none⟩)) rfl rfl (hM12 3 rfl) (rfl) (fun _ => by exact Z7 0 Try.underlying150 rfl sc72.size rfl rfl) (Za 10 14) (aL 4 (.pointer (some ⟨b5, 0, none⟩)) rfl rfl (hM16 4 rfl) (rfl) (fun _ hB_ => by exact Zan (.pointer (some ⟨b5, 0, none⟩)) ((hC.grow hB_).getP 5 rfl) sc72 rfl rfl) (Za 10 30) (aF 5 (.pointer (some ⟨b5, 0, none⟩)) rfl rfl (hM12 5 rfl) (rfl) (fun _ => by exact Jx rfl) (Za 10 62) (aF 6 (.pointer (some ⟨b5, 0, none⟩)) rfl rfl (hM12 6 rfl) (rfl) (fun _ => by exact Z7 0 Try.underlying32 rfl sc22.size rfl rfl) (Za 10 126) (aL 7 (u6) rfl rfl (hM16 7 rfl) (rfl) (fun _ hB_ => by exact Zan (u6) ((hC.grow hB_).getP 1 rfl) sc22 rfl rfl) (Za 10 254) (aO 0 rfl (Zen hC (kvA .i64) (vvI .i64) fun b10 w15 hB_ hC => done (aK (by assumption) (Za 10 255) (aF 8 (.map (some b10)) rfl rfl (hM12 8 rfl) (rfl) (fun _ => by exact Zgn (v := .map (some b10)) rfl) (Za 10 511) ?_))))))))))
 refine Zv 9 (by decide) (by decide) (by kernel_rfl) (by kernel_rfl) rfl (Zc (v := u6) rfl (done (Zw (Zd (wp_seq (sr (Zb (v := .map (some b1)) rfl (Zeo hC 6 rfl Try.underlying99 rfl fun r10 es10 ck10 w16 hB_ hn10 hbn10 hC => dn (wp_block ?_)))))))))
 refine Zes (S := (List (A8 × Int))) _ _ (fun l11 s13 e_ w_ => ∃ (la10 : Option MapEntry), Z4 e_ [(0, .pointer (some ⟨b0, 0, none⟩)), (5, .map (some b10)), (6, u6), (26, .pointer (some ⟨r10, 0, none⟩))] ∧ Ctx Nox w0 w_ [itI (kvA .i64) (vvI .i64) r10 b1 es10 ck10 la10 l11, Ze (kvA .i64) (vvI .i64) b10 s13] [Y0 b1 es10 ck10, Ty.item ((Xo (kvA .i64) (vvI .i64)).sl) a0.images [u0_2] fp0, blk b5 32 [u6, u7], Ty.item TForm.sl a0.alg.images [u7] fp0, Ty.item ((EI .i64).ty.sl) a0.alg.degrees [u6] fp0, Ty.item (Xk 32) a0 [.pointer (some ⟨b5, 0, none⟩), .int .i64 a0.drop, u0_2] fp0, blk b0 150 [.pointer (some ⟨b5, 0, none⟩), .int .i64 a0.drop, u0_2], Ze (kvA .i64) (vvI .i64) b1 a1]) ?_ (l0 := a1) (s0 := ([] : List (A8 × Int))) ?_ h
 ·clear hC h
  rintro l11 s13 e_ w17 nx13 K11 ⟨la10, hS_, hC⟩ h hK11
  rw [ue hS_]
  refine sr ?_
  refine Zep hC 0 0 rfl rfl hn10 hbn10 rfl (fun hr12 => ?_) (fun q10 l10 ent10 w18 hp11 hk10 hv12 hC => ?_)
  ·replace h := h.1 hr12
   refine Xd (v := .bool false) rfl rfl (dn (wp_seq (Yj rfl rfl ?_)))
   refine wp_exit (Zl (Zl (Yc ?_)))
   refine Zd (sr (Zb (v := .map (some b10)) rfl (Zc (v := .map (some b10)) rfl (dn (wp_ret ?_)))))
   refine Zo (fn := Try.f144) rfl ?_ ⟨s13, b10, rfl, h, (hC.getM 1 rfl), (Zem hC 1 rfl), hC.below⟩ (.inl rfl)
   exact Zh rfl
  ·replace h := h.2 q10 l10 hp11
   refine Xd (v := .bool true) rfl rfl (dn (wp_seq (Yq rfl rfl (wp_skip (Zd (wp_block (sr (Zeq hC 0 0 q10 rfl rfl hn10 rfl hk10 hv12 (Xd (v := .agg (List.toArray (A8.enc .i64 q10.1))) rfl rfl (Xd (v := .int .i64 q10.2) rfl rfl (Yf hC (A8.enc .i64 A8.zero) Jt rfl fun b11 w19 hB_ hC => ?_)))))))))))
   refine Zu (v := .agg (List.toArray (A8.enc .i64 q10.1))) hC 0 (A8.enc .i64 q10.1) (A8.enc .i64 q10.1) rfl ag101.size rfl rfl rfl rfl rfl (Nat.le_of_ble_eq_true rfl) rfl fun w20 hC => Zc (v := .int .i64 q10.2) rfl (dn (sr (Jd [] rfl (Ze3   _) (Yf hC (A8.enc .i64 A8.zero) Jt rfl fun b12 w21 hB_ hC => Zu (v := .agg (List.toArray (A8.enc .i64 A8.zero))) hC 0 (A8.enc .i64 A8.zero) (A8.enc .i64 A8.zero) rfl ag101.size rfl rfl rfl rfl rfl (Nat.le_of_ble_eq_true rfl) rfl fun w22 hC => dn (sr (Zb (v := u6) rfl ?_))))))
   obtain ⟨Ad12, c10, hv13⟩ := Z2 (hC.getP 4 rfl)
   refine Z0 Try.underlying22 (tr rfl hv13) (Zb (v := .int .i64 0) rfl (dn (wp_block ?_)))
   have hN10 : a0.alg.degrees.length ≤ 9223372036854775807 := Xv (hC.getP 4 rfl)
   refine Y6 (S := A8 × (List (A8 × Int))) _ _ (fun i10 s10 e_ w_ => Z4 e_ [(0, .pointer (some ⟨b0, 0, none⟩)), (5, .map (some b10)), (6, u6), (7, .pointer (some ⟨b11, 0, none⟩)), (8, .int .i64 q10.2), (9, .pointer (some ⟨b12, 0, none⟩)), (26, .pointer (some ⟨r10, 0, none⟩)), (34, .int .i64 (a0.alg.degrees.length : Int)), (35, .int .i64 (i10 : Int))] ∧ Ctx Nox w0 w_ [blk b12 101 (A8.enc .i64 s10.1), blk b11 101 (A8.enc .i64 q10.1), itI (kvA .i64) (vvI .i64) r10 b1 es10 ck10 (some ent10) l10, Ze (kvA .i64) (vvI .i64) b10 s10.2] [Y0 b1 es10 ck10, Ty.item ((Xo (kvA .i64) (vvI .i64)).sl) a0.images [u0_2] fp0, blk b5 32 [u6, u7], Ty.item TForm.sl a0.alg.images [u7] fp0, Ty.item ((EI .i64).ty.sl) a0.alg.degrees [u6] fp0, Ty.item (Xk 32) a0 [.pointer (some ⟨b5, 0, none⟩), .int .i64 a0.drop, u0_2] fp0, blk b0 150 [.pointer (some ⟨b5, 0, none⟩), .int .i64 a0.drop, u0_2], Ze (kvA .i64) (vvI .i64) b1 a1]) a0.alg.degrees.length ?_ ?_ (s0 := (A8.zero, s13)) ?_ h
   ·clear hC h
    rintro i10 s10 e_ w23 nx10 K10 hi10 ⟨hS_, hC⟩ h hK10
    rw [ue hS_]
    refine sr (Zs rfl rfl (dn (wp_seq (Yq rfl (decide_eq_true (by omega)) (wp_skip (Zd (wp_seq (wp_block (sr (Zb (v := .int .i64 (i10 : Int)) rfl (Zc (v := .int .i64 (i10 : Int)) rfl ?_)))))))))))
    refine dn (sr (Zb (v := .int .i64 (i10 : Int)) rfl ?_))
    obtain ⟨⟨h10, h11⟩, h⟩ := h
    refine Y1 i10 Try.underlying101 sc3.size rfl rfl h10 h11 (by omega) (Z8 hC 1 (.int .i64 (q10.1.get i10)) rfl sc3 rfl (A8.enc_get _ _ (show i10 < 8 by omega)) (Zc (v := .int .i64 (q10.1.get i10)) rfl (dn (wp_seq (sr (Zb (v := .int .i64 (q10.1.get i10)) rfl (Jm rfl rfl (dn ?_))))))))
    refine Zr rfl (fun hb10 => ?_) (fun hb10 => ?_)
    ·replace h := ift h (ct hb10)
     refine sr (Zc (v := .int .i64 1) rfl (dn (wp_seq (wp_seq ?_))))
     refine Ym 7 Yg [0, 1, 3, 7, 0, 0, 48, 127, 255, 511] [3, 4] [0, 1, 2, 5] (by kernel_rfl) (by kernel_rfl) (by kernel_rfl) (fun hM17 hM15 w24 hB_ => ?_)
     replace hC := hC.grow hB_
     refine aF 0 (.pointer (some ⟨b0, 0, none⟩)) rfl rfl (hM15 0 rfl) (rfl) (fun _ => by exact Zg (v := .pointer (some ⟨b0, 0, none⟩)) rfl) (Za 10 1) (aF 1 (.pointer (some ⟨b0, 0, none⟩)) rfl rfl (hM15 1 rfl) (rfl) (fun _ => by exact Jx rfl) (Za 10 3) (aF 2 (.pointer (some ⟨b0, 1, none⟩)) rfl rfl (hM15 2 rfl) (rfl) (fun _ => by exact Z7 1 Try.underlying150 rfl sc2.size rfl rfl) (Za 10 7) (aL 3 (.int .i64 a0.drop) rfl rfl (hM17 3 rfl) (rfl) (fun _ hB_ => by exact Zan (.int .i64 a0.drop) ((hC.grow hB_).getP 6 rfl) sc2 rfl rfl) (Za 10 15) (aL 4 (.agg (List.toArray (A8.enc .i64 s10.1))) rfl rfl (hM17 4 rfl) (rfl) (fun _ hB_ => by exact Yu (hC.grow hB_) 0 (A8.enc .i64 s10.1) rfl ag101 rfl rfl rfl) (Za 10 31) (aF 5 (u6) rfl rfl (hM15 5 rfl) (rfl) (fun _ => by exact Zg (v := u6) rfl) (Za 10 63) (aO 6 rfl ?_))))))
     refine Zf [.agg (List.toArray (A8.enc .i64 s10.1)), u6] _ Try.func87 rfl rfl rfl (Zl4 s10.1 a0.alg.degrees h _ (hC.getP 4 rfl)) (fun ret10 w25 hR10 => ?_)
     obtain ⟨r37, rfl, h, hB10⟩ := hR10
     refine ⟨_, rfl, ?_⟩
     replace hC := hC.grow hB10
     refine done (aK (by assumption) (Za 10 127) (Zv 7 (by decide) (by decide) (by kernel_rfl) (by kernel_rfl) rfl (Zad rfl rfl (Jk rfl rfl (by decide) (Jl rfl rfl (done (Zw (Zd ?_))))))))
     refine Zr rfl (fun hb11 => ?_) (fun hb11 => ?_)
     ·replace h := ift h (ct hb11)
      refine Zk (Zc (v := .int .i64 (-1)) rfl (dn (wp_seq ?_)))
      refine Zdk 5 Yg [0, 0, 0, 0, 13, 31] [0, 1] [] (by kernel_rfl) (by kernel_rfl) (by kernel_rfl) (fun hM18 hM20 w10 hB_ => ?_)
      replace hC := hC.grow hB_
      have hN_ : w10.heap.size ≤ w10.heap.size := Nat.le_refl _
      refine Jo (Ya _) 0 (.agg (List.toArray (A8.enc .i64 q10.1))) rfl rfl (by kernel_rfl) (hM18 0 rfl) (fun w_ hB_ => .inl ⟨rfl, by exact Yu (hC.grow (J7 hB_)) 1 (A8.enc .i64 q10.1) rfl ag101 rfl rfl rfl⟩) (l9 := (Za 6 1)) (by kernel_rfl) (Jo (Ya _) 1 (.agg (List.toArray (A8.enc .i64 s10.1))) rfl rfl (by kernel_rfl) (hM18 1 rfl) (fun w_ hB_ => .inl ⟨rfl, by exact Yu (hC.grow (J7 hB_)) 0 (A8.enc .i64 s10.1) rfl ag101 rfl rfl rfl⟩) (l9 := (Za 6 3)) (by kernel_rfl) ?_)
      refine Zbb (fun e_ w_ => ∃ (b25 : Nat), ∃ (b26 : Nat), Z4 e_ [(0, .pointer (some ⟨b0, 0, none⟩)), (5, .map (some b10)), (6, u6), (7, .pointer (some ⟨b11, 0, none⟩)), (8, .int .i64 q10.2), (9, .pointer (some ⟨b12, 0, none⟩)), (10, .int .i64 (i10 : Int)), (11, .int .i64 (q10.1.get i10)), (12, .int .i64 (-1)), (13, .pointer (some ⟨b26, 0, none⟩)), (14, .pointer (some ⟨b25, 0, none⟩)), (26, .pointer (some ⟨r10, 0, none⟩)), (34, .int .i64 (a0.alg.degrees.length : Int)), (35, .int .i64 (i10 : Int))] ∧ Ctx Nox w0 w_ [blk b25 101 (A8.enc .i64 s10.1), blk b26 101 (A8.enc .i64 q10.1), blk b12 101 (A8.enc .i64 s10.1), blk b11 101 (A8.enc .i64 q10.1), itI (kvA .i64) (vvI .i64) r10 b1 es10 ck10 (some ent10) l10, Ze (kvA .i64) (vvI .i64) b10 s10.2] [Y0 b1 es10 ck10, Ty.item ((Xo (kvA .i64) (vvI .i64)).sl) a0.images [u0_2] fp0, blk b5 32 [u6, u7], Ty.item TForm.sl a0.alg.images [u7] fp0, Ty.item ((EI .i64).ty.sl) a0.alg.degrees [u6] fp0, Ty.item (Xk 32) a0 [.pointer (some ⟨b5, 0, none⟩), .int .i64 a0.drop, u0_2] fp0, blk b0 150 [.pointer (some ⟨b5, 0, none⟩), .int .i64 a0.drop, u0_2], Ze (kvA .i64) (vvI .i64) b1 a1] ∧ (Xf (fun (s11 : A8 × Int) nx11 => (if s11.2 < IntKind.i64.wrap ((i10 : Int) + 1) then ((0 ≤ s11.2 ∧ s11.2 < 8) ∧ nx11 (s11.1.set s11.2.toNat 0, IntKind.i64.wrap (s11.2 + 1))) else ((0 ≤ (i10 : Int) ∧ (i10 : Int) < 8) ∧ ((0 ≤ (i10 : Int) ∧ (i10 : Int) < (a0.images.length : Int)) ∧ X4 (Zy ([] : List (A8 × Int)) (s10.1.set i10 (IntKind.i64.wrap ((q10.1.get i10) - 1))) 1) a0.alg.degrees (a0.images.getD i10 default) (fun r15 => X4 r15 a0.alg.degrees (Zy ([] : List (A8 × Int)) s11.1 1) (fun r13 => Zaa (IntKind.i64.wrap ((IntKind.i64.wrap ((-1) * q10.2)) * (q10.1.get i10))) (fun r11 => Zab s10.2 r13 r11 (fun m10 => ((0 ≤ (i10 : Int) ∧ (i10 : Int) < 8) ∧ nx10 (s10.1.set i10 (q10.1.get i10), m10)))))))))) (q10.1, 0))) ?_ ?_
      ·clear hC h
       rintro e_ w26 ⟨b25, b26, hS_, hC, h⟩
       rw [ue hS_]
       refine Zd (wp_seq (sr (Zb (v := .int .i64 (i10 : Int)) rfl (Zq rfl rfl (Zb (v := .int .i64 0) rfl (dn (wp_block ?_)))))))
       refine Xu (S := A8 × Int) _ (fun s11 e_ w_ => Z4 e_ [(0, .pointer (some ⟨b0, 0, none⟩)), (5, .map (some b10)), (6, u6), (7, .pointer (some ⟨b11, 0, none⟩)), (8, .int .i64 q10.2), (9, .pointer (some ⟨b12, 0, none⟩)), (10, .int .i64 (i10 : Int)), (11, .int .i64 (q10.1.get i10)), (12, .int .i64 (-1)), (13, .pointer (some ⟨b26, 0, none⟩)), (14, .pointer (some ⟨b25, 0, none⟩)), (26, .pointer (some ⟨r10, 0, none⟩)), (34, .int .i64 (a0.alg.degrees.length : Int)), (35, .int .i64 (i10 : Int)), (56, .int .i64 (IntKind.i64.wrap ((i10 : Int) + 1))), (57, .int .i64 s11.2)] ∧ Ctx Nox w0 w_ [blk b25 101 (A8.enc .i64 s10.1), blk b26 101 (A8.enc .i64 s11.1), blk b12 101 (A8.enc .i64 s10.1), blk b11 101 (A8.enc .i64 q10.1), itI (kvA .i64) (vvI .i64) r10 b1 es10 ck10 (some ent10) l10, Ze (kvA .i64) (vvI .i64) b10 s10.2] [Y0 b1 es10 ck10, Ty.item ((Xo (kvA .i64) (vvI .i64)).sl) a0.images [u0_2] fp0, blk b5 32 [u6, u7], Ty.item TForm.sl a0.alg.images [u7] fp0, Ty.item ((EI .i64).ty.sl) a0.alg.degrees [u6] fp0, Ty.item (Xk 32) a0 [.pointer (some ⟨b5, 0, none⟩), .int .i64 a0.drop, u0_2] fp0, blk b0 150 [.pointer (some ⟨b5, 0, none⟩), .int .i64 a0.drop, u0_2], Ze (kvA .i64) (vvI .i64) b1 a1]) ?_ (s0 := (q10.1, 0)) ?_ h
       ·clear hC h
        rintro s11 e_ w27 nx11 K12 ⟨hS_, hC⟩ h hK12
        rw [ue hS_]
        refine sr (Zs rfl rfl (dn (wp_seq ?_)))
        refine Zr rfl (fun hb12 => ?_) (fun hb12 => ?_)
        ·replace h := ift h (ct hb12)
         refine wp_skip (Zd (wp_seq (wp_block (sr (Zb (v := .int .i64 s11.2) rfl (Zc (v := .int .i64 s11.2) rfl (dn (Zk (Zb (v := .int .i64 s11.2) rfl ?_)))))))))
         obtain ⟨⟨h12, h13⟩, h⟩ := h
         refine Y1 s11.2.toNat Try.underlying101 sc3.size rfl rfl h12 h13 (by omega) (Zu (v := .int .i64 0) hC 1 [.int .i64 0] (A8.enc .i64 (s11.1.set s11.2.toNat 0)) rfl sc3.size rfl rfl rfl rfl rfl (show s11.2.toNat < 8 by omega) (A8.enc_set _ _ _ (show s11.2.toNat < 8 by omega)) fun w28 hC => done (Zt (Zd (Zk (Zq rfl rfl (Zb (v := .int .i64 (IntKind.i64.wrap (s11.2 + 1))) rfl (done ?_)))))))
         exact hK12 (s11.1.set s11.2.toNat 0, IntKind.i64.wrap (s11.2 + 1)) _ _ ⟨(sl ⟨rfl, rfl, rfl, rfl, rfl, rfl, rfl, rfl, rfl, rfl, rfl, rfl, rfl, rfl, rfl, rfl, trivial⟩), hC⟩ h
        ·replace h := Zi h (cf hb12)
         refine wp_exit (Zl (Zl (Yc ?_)))
         refine Zd (sr (Zb (v := .int .i64 (i10 : Int)) rfl (Zb (v := .int .i64 (q10.1.get i10)) rfl (J5 rfl rfl ?_))))
         obtain ⟨⟨h14, h15⟩, h⟩ := h
         refine Y1 i10 Try.underlying101 sc3.size rfl rfl h14 h15 (by omega) (Zu (v := .int .i64 (IntKind.i64.wrap ((q10.1.get i10) - 1))) hC 0 [.int .i64 (IntKind.i64.wrap ((q10.1.get i10) - 1))] (A8.enc .i64 (s10.1.set i10 (IntKind.i64.wrap ((q10.1.get i10) - 1)))) rfl sc3.size rfl rfl rfl rfl rfl (show i10 < 8 by omega) (A8.enc_set _ _ _ (show i10 < 8 by omega)) fun w29 hC => dn (wp_seq ?_))
         refine Zdk 18 Yg [0, 0, 3, 7, 0, 0, 32, 96, 224, 0, 992, 2016, 4095, 0, 0, 0, 49152, 114688, 262143, 524287] [1, 8, 10, 11, 15] [3, 4, 5, 6, 7, 9, 13, 17] (by kernel_rfl) (by kernel_rfl) (by kernel_rfl) (fun hM13 hM10 w11 hB_ => ?_)
         replace hC := hC.grow hB_
         have hN_ : w11.heap.size ≤ w11.heap.size := Nat.le_refl _
         refine Jo (Ya _) 1 (.agg (List.toArray (A8.enc .i64 (s10.1.set i10 (IntKind.i64.wrap ((q10.1.get i10) - 1)))))) rfl rfl (by kernel_rfl) (hM13 1 rfl) (fun w_ hB_ => .inl ⟨rfl, by exact Yu (hC.grow (J7 hB_)) 0 (A8.enc .i64 (s10.1.set i10 (IntKind.i64.wrap ((q10.1.get i10) - 1)))) rfl ag101 rfl rfl rfl⟩) (l9 := (Za 20 2)) (by kernel_rfl) (Zp (Ya _) 4 (u6) rfl rfl (by kernel_rfl) (hM10 4 rfl) (fun w_ => .inl ⟨rfl, by exact Zg (v := u6) rfl⟩) (l9 := (Za 20 18)) (by kernel_rfl) (Zp (Ya _) 5 (.pointer (some ⟨b0, 0, none⟩)) rfl rfl (by kernel_rfl) (hM10 5 rfl) (fun w_ => .inl ⟨rfl, by exact Zg (v := .pointer (some ⟨b0, 0, none⟩)) rfl⟩) (l9 := (Za 20 50)) (by kernel_rfl) (Zp (Ya _) 6 (.pointer (some ⟨b0, 0, none⟩)) rfl rfl (by kernel_rfl) (hM10 6 rfl) (fun w_ => .inl ⟨rfl, by exact Jx rfl⟩) (l9 := (Za 20 114)) (by kernel_rfl) (Zp (Ya _) 7 (.pointer (some ⟨b0, 2, none⟩)) rfl rfl (by kernel_rfl) (hM10 7 rfl) (fun w_ => .inl ⟨rfl, by exact Z7 2 Try.underlying150 rfl sc148.size rfl rfl⟩) (l9 := (Za 20 242)) (by kernel_rfl) (Jo (Ya _) 8 (u0_2) rfl rfl (by kernel_rfl) (hM13 8 rfl) (fun w_ hB_ => .inl ⟨rfl, by exact Zan (u0_2) ((hC.grow (J7 hB_)).getP 6 rfl) sc148 rfl rfl⟩) (l9 := (Za 20 498)) (by kernel_rfl) (Zp (Ya _) 9 (.int .i64 (i10 : Int)) rfl rfl (by kernel_rfl) (hM10 9 rfl) (fun w_ => .inl ⟨rfl, by exact Zg (v := .int .i64 (i10 : Int)) rfl⟩) (l9 := (Za 20 1010)) (by kernel_rfl) ?_))))))
         obtain ⟨⟨h16, h17⟩, h⟩ := h
         obtain ⟨Ad10, c11, hv10⟩ := Z9 (hC.getP 1 rfl) i10 (show i10 < a0.images.length by omega)
         refine Jo (Ya _) 10 (.pointer (some (Ad10.add (i10 * 1)))) rfl rfl (by kernel_rfl) (hM13 10 rfl) (fun w_ hB_ => .inl ⟨rfl, by exact Yv (len := a0.images.length) Try.underlying148 sc99.size (by exact tr rfl hv10) rfl h16 h17⟩) (l9 := (Za 20 2034)) (by kernel_rfl) ?_
         obtain ⟨cs_, hl10, hc10, hr10⟩ := X9 (hC.getP 1 rfl) hv10 i10 (show i10 < a0.images.length by omega)
         obtain ⟨u10, rfl⟩ := List.length_eq_one_iff.1 hl10
         clear hl10
         rw [X3 _ _ (show i10 < a0.images.length by omega)] at hr10
         obtain ⟨b13, rfl, hbf10, hm10⟩ := Zjz hr10
         replace hC := hC.derive 1 rfl (Ze (kvA .i64) (vvI .i64) b13 (a0.images.getD i10 default)) (fun _ => hm10) (fun c_ hc_ => by obtain rfl := List.mem_singleton.1 hc_; exact hbf10)
         refine Jo (Ya _) 11 (.map (some b13)) rfl rfl (by kernel_rfl) (hM13 11 rfl) (fun w_ hB_ => .inl ⟨rfl, by exact Jf (.map (some b13)) (J9 (J7 hB_) hc10) sc99 rfl⟩) (l9 := (Za 20 4082)) (by kernel_rfl) (Zp (Ya _) 13 (u6) rfl rfl (by kernel_rfl) (hM10 13 rfl) (fun w_ => .inl ⟨rfl, by exact Zg (v := u6) rfl⟩) (l9 := (Za 20 12274)) (by kernel_rfl) (Jo (Ya _) 15 (.agg (List.toArray (A8.enc .i64 s11.1))) rfl rfl (by kernel_rfl) (hM13 15 rfl) (fun w_ hB_ => .inl ⟨rfl, by exact Yu (hC.grow (J7 hB_)) 1 (A8.enc .i64 s11.1) rfl ag101 rfl rfl rfl⟩) (l9 := (Za 20 45042)) (by kernel_rfl) ?_))
         refine Zbb (fun e_ w_ => ∃ (b27 : Nat), ∃ (r17 : List (A8 × Int)), Z4 e_ [(0, .pointer (some ⟨b0, 0, none⟩)), (5, .map (some b10)), (6, u6), (7, .pointer (some ⟨b11, 0, none⟩)), (8, .int .i64 q10.2), (9, .pointer (some ⟨b12, 0, none⟩)), (10, .int .i64 (i10 : Int)), (11, .int .i64 (q10.1.get i10)), (12, .int .i64 (-1)), (16, .map (some b27)), (26, .pointer (some ⟨r10, 0, none⟩)), (34, .int .i64 (a0.alg.degrees.length : Int)), (35, .int .i64 (i10 : Int))] ∧ Ctx Nox w0 w_ [Ze (kvA .i64) (vvI .i64) b27 r17, blk b12 101 (A8.enc .i64 s10.1), blk b11 101 (A8.enc .i64 q10.1), itI (kvA .i64) (vvI .i64) r10 b1 es10 ck10 (some ent10) l10, Ze (kvA .i64) (vvI .i64) b10 s10.2] [Y0 b1 es10 ck10, Ty.item ((Xo (kvA .i64) (vvI .i64)).sl) a0.images [u0_2] fp0, blk b5 32 [u6, u7], Ty.item TForm.sl a0.alg.images [u7] fp0, Ty.item ((EI .i64).ty.sl) a0.alg.degrees [u6] fp0, Ty.item (Xk 32) a0 [.pointer (some ⟨b5, 0, none⟩), .int .i64 a0.drop, u0_2] fp0, blk b0 150 [.pointer (some ⟨b5, 0, none⟩), .int .i64 a0.drop, u0_2], Ze (kvA .i64) (vvI .i64) b1 a1] ∧ (Zaa (IntKind.i64.wrap ((IntKind.i64.wrap ((-1) * q10.2)) * (q10.1.get i10))) (fun r11 => Zab s10.2 r17 r11 (fun m10 => ((0 ≤ (i10 : Int) ∧ (i10 : Int) < 8) ∧ nx10 (s10.1.set i10 (q10.1.get i10), m10)))))) ?_ ?_
         ·clear hC h
          rintro e_ w30 ⟨b27, r17, hS_, hC, h⟩
          rw [ue hS_]
          refine Zd (Zk (Zb (v := .map (some b10)) rfl (Zb (v := .map (some b27)) rfl (Zb (v := .int .i64 (-1)) rfl (Zb (v := .int .i64 q10.2) rfl (Zad rfl rfl (Zb (v := .int .i64 (q10.1.get i10)) rfl (Zad rfl rfl ?_))))))))
          refine Zf [.int .i64 (IntKind.i64.wrap ((IntKind.i64.wrap ((-1) * q10.2)) * (q10.1.get i10)))] _ Try.func159 rfl rfl rfl (Zhf (IntKind.i64.wrap ((IntKind.i64.wrap ((-1) * q10.2)) * (q10.1.get i10))) h _) (fun ret11 w31 hR11 => ?_)
          obtain ⟨r11, rfl, h, hB11⟩ := hR11
          refine ⟨_, rfl, ?_⟩
          replace hC := hC.grow hB11
          refine Zf [.map (some b10), .map (some b27), .int .i64 r11] _ Try.func143 rfl rfl rfl (Zhi s10.2 r17 r11 h _ (hC.getM 4 rfl) (fun c_ hc_ e_ => hC.mm 0 4 rfl rfl (by decide) c_ hc_ (List.mem_singleton.2 e_)) (hC.getM 0 rfl)) (fun ret12 w32 hR12 => ?_)
          obtain ⟨m10, rfl, h, hm11, hB12⟩ := hR12
          refine ⟨_, rfl, ?_⟩
          replace hC := hC.turnB 4 rfl hB12 rfl rfl hm11
          refine dn (Zk (Zb (v := .int .i64 (i10 : Int)) rfl (Zb (v := .int .i64 (q10.1.get i10)) rfl ?_)))
          obtain ⟨⟨h18, h19⟩, h⟩ := h
          refine Y1 i10 Try.underlying101 sc3.size rfl rfl h18 h19 (by omega) (Zu (v := .int .i64 (q10.1.get i10)) hC 1 [.int .i64 (q10.1.get i10)] (A8.enc .i64 (s10.1.set i10 (q10.1.get i10))) rfl sc3.size rfl rfl rfl rfl rfl (show i10 < 8 by omega) (A8.enc_set _ _ _ (show i10 < 8 by omega)) fun w33 hC => done (Zt (Zd (Zk (Zq rfl rfl (Zb (v := .int .i64 (IntKind.i64.wrap ((i10 : Int) + 1))) rfl (done ?_)))))))
          replace hC := hC.sM [1, 2, 3, 4] (M' := [blk b12 101 (A8.enc .i64 (s10.1.set i10 (q10.1.get i10))), blk b11 101 (A8.enc .i64 q10.1), itI (kvA .i64) (vvI .i64) r10 b1 es10 ck10 (some ent10) l10, Ze (kvA .i64) (vvI .i64) b10 m10]) (by decide) rfl
          exact hK10 (s10.1.set i10 (q10.1.get i10), m10) _ _ ⟨(sl ⟨rfl, rfl, rfl, rfl, rfl, rfl, rfl, rfl, (tr rfl (congrArg _ (Yi hi10 hN10))), trivial⟩), hC⟩ h
         refine Xc 0 14 rfl rfl (by kernel_rfl) ?_ ?_
         ·skip
          refine J0 hC (kvA .i64) (vvI .i64) fun b15 w34 hn_ hB_ hC => ?_
          have hnb_b24803 := Nat.le_trans hN_ hn_
          refine done ?_
          refine Zx (Yp hN_ (by assumption)) hN_ (l9 := (Za 20 45043)) (by kernel_rfl) (fun hN_ => ?_)
          refine Xc 2 14 rfl rfl (by kernel_rfl) ?_ ?_
          ·skip
           refine Y4 hC 0 (s10.1.set i10 (IntKind.i64.wrap ((q10.1.get i10) - 1))) 1 rfl Yx Try.underlying99 rfl rfl rfl (fun w35 hBB_ hC => ?_) (.inr rfl)
           refine done ?_
           refine Zx (Yw hN_ hnb_b24803 hBB_) hN_ (l9 := (Za 20 45047)) (by kernel_rfl) (fun hN_ => ?_)
           refine Zp (Ya _) 3 (.map (some b15)) rfl rfl (by kernel_rfl) (hM10 3 rfl) (fun w_ => .inl ⟨rfl, by exact Zg (v := .map (some b15)) rfl⟩) (l9 := (Za 20 45055)) (by kernel_rfl) ?_
           refine Xc 12 14 rfl rfl (by kernel_rfl) ?_ ?_
           ·skip
            refine Zf [.map (some b15), u6, .map (some b13)] _ Try.func158 rfl rfl rfl (Yr (Zy ([] : List (A8 × Int)) (s10.1.set i10 (IntKind.i64.wrap ((q10.1.get i10) - 1))) 1) a0.alg.degrees (a0.images.getD i10 default) h _ (hC.getM 0 rfl) (hC.getP 5 rfl) (hC.getP 0 rfl)) (fun ret13 w36 hR13 => ?_)
            obtain ⟨r15, b55, rfl, h, hr13, hf10, hB13⟩ := hR13
            refine ⟨_, rfl, ?_⟩
            replace hC := hC.push hB13 (Ze (kvA .i64) (vvI .i64) b55 r15) hr13 (fun b_ hb_ => by obtain rfl := List.mem_singleton.1 hb_; exact hf10)
            refine done ?_
            refine Zx (Yp hN_ (by assumption)) hN_ (l9 := (Za 20 49151)) (by kernel_rfl) (fun hN_ => ?_)
            refine aO 14 rfl (J0 hC (kvA .i64) (vvI .i64) fun b51 w37 hn_ hB_ hC => ?_)
            have hnb_b24816 := Nat.le_trans hN_ hn_
            refine done ?_
            refine Zx (Yp hN_ (by assumption)) hN_ (l9 := (Za 20 65535)) (by kernel_rfl) (fun hN_ => ?_)
            refine aO 16 rfl ?_
            refine Y4 hC 0 s11.1 1 rfl Yx Try.underlying99 rfl rfl rfl (fun w38 hBB_ hC => ?_) (.inr rfl)
            refine done ?_
            refine Zx (Yw hN_ hnb_b24816 hBB_) hN_ (l9 := (Za 20 131071)) (by kernel_rfl) (fun hN_ => ?_)
            refine Zp (Ya _) 17 (.map (some b51)) rfl rfl (by kernel_rfl) (hM10 17 rfl) (fun w_ => .inl ⟨rfl, by exact Zg (v := .map (some b51)) rfl⟩) (l9 := (Za 20 262143)) (by kernel_rfl) (Zv 18 (by decide) (by decide) (by kernel_rfl) (by kernel_rfl) rfl ?_)
            refine Zf [.map (some b55), u6, .map (some b51)] _ Try.func158 rfl rfl rfl (Yr r15 a0.alg.degrees (Zy ([] : List (A8 × Int)) s11.1 1) h _ (hC.getM 1 rfl) (hC.getP 5 rfl) (hC.getM 0 rfl)) (fun ret14 w39 hR14 => ?_)
            obtain ⟨r13, b31, rfl, h, hr14, hf11, hB14⟩ := hR14
            refine ⟨_, rfl, ?_⟩
            replace hC := hC.push hB14 (Ze (kvA .i64) (vvI .i64) b31 r13) hr14 (fun b_ hb_ => by obtain rfl := List.mem_singleton.1 hb_; exact hf11)
            refine Zc (v := .map (some b31)) rfl (done (Zw ?_))
            replace hC := hC.sM [0, 6, 7, 8, 9] (M' := [Ze (kvA .i64) (vvI .i64) b31 r13, blk b12 101 (A8.enc .i64 s10.1), blk b11 101 (A8.enc .i64 q10.1), itI (kvA .i64) (vvI .i64) r10 b1 es10 ck10 (some ent10) l10, Ze (kvA .i64) (vvI .i64) b10 s10.2]) (by decide) rfl
            replace hC := hC.sP [1, 2, 3, 4, 5, 6, 7, 8] (Ps' := [Y0 b1 es10 ck10, Ty.item ((Xo (kvA .i64) (vvI .i64)).sl) a0.images [u0_2] fp0, blk b5 32 [u6, u7], Ty.item TForm.sl a0.alg.images [u7] fp0, Ty.item ((EI .i64).ty.sl) a0.alg.degrees [u6] fp0, Ty.item (Xk 32) a0 [.pointer (some ⟨b5, 0, none⟩), .int .i64 a0.drop, u0_2] fp0, blk b0 150 [.pointer (some ⟨b5, 0, none⟩), .int .i64 a0.drop, u0_2], Ze (kvA .i64) (vvI .i64) b1 a1]) rfl
            exact ⟨rfl, _, rfl, ⟨b31, r13, (sl ⟨rfl, rfl, rfl, rfl, rfl, rfl, rfl, rfl, rfl, rfl, rfl, rfl, rfl, trivial⟩), hC, h⟩⟩
           ·skip
            refine J0 hC (kvA .i64) (vvI .i64) fun b23 w40 hn_ hB_ hC => ?_
            have hnb_b24829 := Nat.le_trans hN_ hn_
            refine done ?_
            refine Zx (Yp hN_ (by assumption)) hN_ (l9 := (Za 20 61439)) (by kernel_rfl) (fun hN_ => ?_)
            refine Xc 12 16 rfl rfl (by kernel_rfl) ?_ ?_
            ·skip
             refine Zf [.map (some b15), u6, .map (some b13)] _ Try.func158 rfl rfl rfl (Yr (Zy ([] : List (A8 × Int)) (s10.1.set i10 (IntKind.i64.wrap ((q10.1.get i10) - 1))) 1) a0.alg.degrees (a0.images.getD i10 default) h _ (hC.getM 1 rfl) (hC.getP 5 rfl) (hC.getP 0 rfl)) (fun ret15 w41 hR15 => ?_)
             obtain ⟨r38, b56, rfl, h, hr15, hf12, hB15⟩ := hR15
             refine ⟨_, rfl, ?_⟩
             replace hC := hC.push hB15 (Ze (kvA .i64) (vvI .i64) b56 r38) hr15 (fun b_ hb_ => by obtain rfl := List.mem_singleton.1 hb_; exact hf12)
             refine done ?_
             refine Zx (Yp hN_ (by assumption)) hN_ (l9 := (Za 20 65535)) (by kernel_rfl) (fun hN_ => ?_)
             refine aO 16 rfl ?_
             refine Y4 hC 1 s11.1 1 rfl Yx Try.underlying99 rfl rfl rfl (fun w42 hBB_ hC => ?_) (.inr rfl)
             refine done ?_
             refine Zx (Yw hN_ hnb_b24829 hBB_) hN_ (l9 := (Za 20 131071)) (by kernel_rfl) (fun hN_ => ?_)
             refine Zp (Ya _) 17 (.map (some b23)) rfl rfl (by kernel_rfl) (hM10 17 rfl) (fun w_ => .inl ⟨rfl, by exact Zg (v := .map (some b23)) rfl⟩) (l9 := (Za 20 262143)) (by kernel_rfl) (Zv 18 (by decide) (by decide) (by kernel_rfl) (by kernel_rfl) rfl ?_)
             refine Zf [.map (some b56), u6, .map (some b23)] _ Try.func158 rfl rfl rfl (Yr r38 a0.alg.degrees (Zy ([] : List (A8 × Int)) s11.1 1) h _ (hC.getM 0 rfl) (hC.getP 5 rfl) (hC.getM 1 rfl)) (fun ret16 w43 hR16 => ?_)
             obtain ⟨r19, b32, rfl, h, hr16, hf13, hB16⟩ := hR16
             refine ⟨_, rfl, ?_⟩
             replace hC := hC.push hB16 (Ze (kvA .i64) (vvI .i64) b32 r19) hr16 (fun b_ hb_ => by obtain rfl := List.mem_singleton.1 hb_; exact hf13)
             refine Zc (v := .map (some b32)) rfl (done (Zw ?_))
             replace hC := hC.sM [0, 6, 7, 8, 9] (M' := [Ze (kvA .i64) (vvI .i64) b32 r19, blk b12 101 (A8.enc .i64 s10.1), blk b11 101 (A8.enc .i64 q10.1), itI (kvA .i64) (vvI .i64) r10 b1 es10 ck10 (some ent10) l10, Ze (kvA .i64) (vvI .i64) b10 s10.2]) (by decide) rfl
             replace hC := hC.sP [1, 2, 3, 4, 5, 6, 7, 8] (Ps' := [Y0 b1 es10 ck10, Ty.item ((Xo (kvA .i64) (vvI .i64)).sl) a0.images [u0_2] fp0, blk b5 32 [u6, u7], Ty.item TForm.sl a0.alg.images [u7] fp0, Ty.item ((EI .i64).ty.sl) a0.alg.degrees [u6] fp0, Ty.item (Xk 32) a0 [.pointer (some ⟨b5, 0, none⟩), .int .i64 a0.drop, u0_2] fp0, blk b0 150 [.pointer (some ⟨b5, 0, none⟩), .int .i64 a0.drop, u0_2], Ze (kvA .i64) (vvI .i64) b1 a1]) rfl
             exact ⟨rfl, _, rfl, ⟨b32, r19, (sl ⟨rfl, rfl, rfl, rfl, rfl, rfl, rfl, rfl, rfl, rfl, rfl, rfl, rfl, trivial⟩), hC, h⟩⟩
            ·skip
             refine Y4 hC 0 s11.1 1 rfl Yx Try.underlying99 rfl rfl rfl (fun w44 hBB_ hC => ?_) (.inr rfl)
             refine done ?_
             refine Zx (Yw hN_ hnb_b24829 hBB_) hN_ (l9 := (Za 20 126975)) (by kernel_rfl) (fun hN_ => ?_)
             refine Zp (Ya _) 17 (.map (some b23)) rfl rfl (by kernel_rfl) (hM10 17 rfl) (fun w_ => .inl ⟨rfl, by exact Zg (v := .map (some b23)) rfl⟩) (l9 := (Za 20 258047)) (by kernel_rfl) (aO 12 rfl ?_)
             refine Zf [.map (some b15), u6, .map (some b13)] _ Try.func158 rfl rfl rfl (Yr (Zy ([] : List (A8 × Int)) (s10.1.set i10 (IntKind.i64.wrap ((q10.1.get i10) - 1))) 1) a0.alg.degrees (a0.images.getD i10 default) h _ (hC.getM 1 rfl) (hC.getP 5 rfl) (hC.getP 0 rfl)) (fun ret17 w45 hR17 => ?_)
             obtain ⟨r39, b57, rfl, h, hr17, hf14, hB17⟩ := hR17
             refine ⟨_, rfl, ?_⟩
             replace hC := hC.push hB17 (Ze (kvA .i64) (vvI .i64) b57 r39) hr17 (fun b_ hb_ => by obtain rfl := List.mem_singleton.1 hb_; exact hf14)
             refine done ?_
             refine Zx (Yp hN_ (by assumption)) hN_ (l9 := (Za 20 262143)) (by kernel_rfl) (fun hN_ => ?_)
             refine Zv 18 (by decide) (by decide) (by kernel_rfl) (by kernel_rfl) rfl ?_
             refine Zf [.map (some b57), u6, .map (some b23)] _ Try.func158 rfl rfl rfl (Yr r39 a0.alg.degrees (Zy ([] : List (A8 × Int)) s11.1 1) h _ (hC.getM 0 rfl) (hC.getP 5 rfl) (hC.getM 1 rfl)) (fun ret18 w46 hR18 => ?_)
             obtain ⟨r20, b33, rfl, h, hr18, hf15, hB18⟩ := hR18
             refine ⟨_, rfl, ?_⟩
             replace hC := hC.push hB18 (Ze (kvA .i64) (vvI .i64) b33 r20) hr18 (fun b_ hb_ => by obtain rfl := List.mem_singleton.1 hb_; exact hf15)
             refine Zc (v := .map (some b33)) rfl (done (Zw ?_))
             replace hC := hC.sM [0, 6, 7, 8, 9] (M' := [Ze (kvA .i64) (vvI .i64) b33 r20, blk b12 101 (A8.enc .i64 s10.1), blk b11 101 (A8.enc .i64 q10.1), itI (kvA .i64) (vvI .i64) r10 b1 es10 ck10 (some ent10) l10, Ze (kvA .i64) (vvI .i64) b10 s10.2]) (by decide) rfl
             replace hC := hC.sP [1, 2, 3, 4, 5, 6, 7, 8] (Ps' := [Y0 b1 es10 ck10, Ty.item ((Xo (kvA .i64) (vvI .i64)).sl) a0.images [u0_2] fp0, blk b5 32 [u6, u7], Ty.item TForm.sl a0.alg.images [u7] fp0, Ty.item ((EI .i64).ty.sl) a0.alg.degrees [u6] fp0, Ty.item (Xk 32) a0 [.pointer (some ⟨b5, 0, none⟩), .int .i64 a0.drop, u0_2] fp0, blk b0 150 [.pointer (some ⟨b5, 0, none⟩), .int .i64 a0.drop, u0_2], Ze (kvA .i64) (vvI .i64) b1 a1]) rfl
             exact ⟨rfl, _, rfl, ⟨b33, r20, (sl ⟨rfl, rfl, rfl, rfl, rfl, rfl, rfl, rfl, rfl, rfl, rfl, rfl, rfl, trivial⟩), hC, h⟩⟩
          ·skip
           refine J0 hC (kvA .i64) (vvI .i64) fun b19 w47 hn_ hB_ hC => ?_
           have hnb_b24870 := Nat.le_trans hN_ hn_
           refine done ?_
           refine Zx (Yp hN_ (by assumption)) hN_ (l9 := (Za 20 61427)) (by kernel_rfl) (fun hN_ => ?_)
           refine Xc 2 16 rfl rfl (by kernel_rfl) ?_ ?_
           ·skip
            refine Y4 hC 1 (s10.1.set i10 (IntKind.i64.wrap ((q10.1.get i10) - 1))) 1 rfl Yx Try.underlying99 rfl rfl rfl (fun w48 hBB_ hC => ?_) (.inr rfl)
            refine done ?_
            refine Zx (Yw hN_ hnb_b24803 hBB_) hN_ (l9 := (Za 20 61431)) (by kernel_rfl) (fun hN_ => ?_)
            refine Zp (Ya _) 3 (.map (some b15)) rfl rfl (by kernel_rfl) (hM10 3 rfl) (fun w_ => .inl ⟨rfl, by exact Zg (v := .map (some b15)) rfl⟩) (l9 := (Za 20 61439)) (by kernel_rfl) ?_
            refine Xc 12 16 rfl rfl (by kernel_rfl) ?_ ?_
            ·skip
             refine Zf [.map (some b15), u6, .map (some b13)] _ Try.func158 rfl rfl rfl (Yr (Zy ([] : List (A8 × Int)) (s10.1.set i10 (IntKind.i64.wrap ((q10.1.get i10) - 1))) 1) a0.alg.degrees (a0.images.getD i10 default) h _ (hC.getM 1 rfl) (hC.getP 5 rfl) (hC.getP 0 rfl)) (fun ret19 w49 hR19 => ?_)
             obtain ⟨r40, b58, rfl, h, hr19, hf16, hB19⟩ := hR19
             refine ⟨_, rfl, ?_⟩
             replace hC := hC.push hB19 (Ze (kvA .i64) (vvI .i64) b58 r40) hr19 (fun b_ hb_ => by obtain rfl := List.mem_singleton.1 hb_; exact hf16)
             refine done ?_
             refine Zx (Yp hN_ (by assumption)) hN_ (l9 := (Za 20 65535)) (by kernel_rfl) (fun hN_ => ?_)
             refine aO 16 rfl ?_
             refine Y4 hC 1 s11.1 1 rfl Yx Try.underlying99 rfl rfl rfl (fun w50 hBB_ hC => ?_) (.inr rfl)
             refine done ?_
             refine Zx (Yw hN_ hnb_b24870 hBB_) hN_ (l9 := (Za 20 131071)) (by kernel_rfl) (fun hN_ => ?_)
             refine Zp (Ya _) 17 (.map (some b19)) rfl rfl (by kernel_rfl) (hM10 17 rfl) (fun w_ => .inl ⟨rfl, by exact Zg (v := .map (some b19)) rfl⟩) (l9 := (Za 20 262143)) (by kernel_rfl) (Zv 18 (by decide) (by decide) (by kernel_rfl) (by kernel_rfl) rfl ?_)
             refine Zf [.map (some b58), u6, .map (some b19)] _ Try.func158 rfl rfl rfl (Yr r40 a0.alg.degrees (Zy ([] : List (A8 × Int)) s11.1 1) h _ (hC.getM 0 rfl) (hC.getP 5 rfl) (hC.getM 1 rfl)) (fun ret20 w51 hR20 => ?_)
             obtain ⟨r21, b34, rfl, h, hr20, hf17, hB20⟩ := hR20
             refine ⟨_, rfl, ?_⟩
             replace hC := hC.push hB20 (Ze (kvA .i64) (vvI .i64) b34 r21) hr20 (fun b_ hb_ => by obtain rfl := List.mem_singleton.1 hb_; exact hf17)
             refine Zc (v := .map (some b34)) rfl (done (Zw ?_))
             replace hC := hC.sM [0, 6, 7, 8, 9] (M' := [Ze (kvA .i64) (vvI .i64) b34 r21, blk b12 101 (A8.enc .i64 s10.1), blk b11 101 (A8.enc .i64 q10.1), itI (kvA .i64) (vvI .i64) r10 b1 es10 ck10 (some ent10) l10, Ze (kvA .i64) (vvI .i64) b10 s10.2]) (by decide) rfl
             replace hC := hC.sP [1, 2, 3, 4, 5, 6, 7, 8] (Ps' := [Y0 b1 es10 ck10, Ty.item ((Xo (kvA .i64) (vvI .i64)).sl) a0.images [u0_2] fp0, blk b5 32 [u6, u7], Ty.item TForm.sl a0.alg.images [u7] fp0, Ty.item ((EI .i64).ty.sl) a0.alg.degrees [u6] fp0, Ty.item (Xk 32) a0 [.pointer (some ⟨b5, 0, none⟩), .int .i64 a0.drop, u0_2] fp0, blk b0 150 [.pointer (some ⟨b5, 0, none⟩), .int .i64 a0.drop, u0_2], Ze (kvA .i64) (vvI .i64) b1 a1]) rfl
             exact ⟨rfl, _, rfl, ⟨b34, r21, (sl ⟨rfl, rfl, rfl, rfl, rfl, rfl, rfl, rfl, rfl, rfl, rfl, rfl, rfl, trivial⟩), hC, h⟩⟩
            ·skip
             refine Y4 hC 0 s11.1 1 rfl Yx Try.underlying99 rfl rfl rfl (fun w52 hBB_ hC => ?_) (.inr rfl)
             refine done ?_
             refine Zx (Yw hN_ hnb_b24870 hBB_) hN_ (l9 := (Za 20 126975)) (by kernel_rfl) (fun hN_ => ?_)
             refine Zp (Ya _) 17 (.map (some b19)) rfl rfl (by kernel_rfl) (hM10 17 rfl) (fun w_ => .inl ⟨rfl, by exact Zg (v := .map (some b19)) rfl⟩) (l9 := (Za 20 258047)) (by kernel_rfl) (aO 12 rfl ?_)
             refine Zf [.map (some b15), u6, .map (some b13)] _ Try.func158 rfl rfl rfl (Yr (Zy ([] : List (A8 × Int)) (s10.1.set i10 (IntKind.i64.wrap ((q10.1.get i10) - 1))) 1) a0.alg.degrees (a0.images.getD i10 default) h _ (hC.getM 1 rfl) (hC.getP 5 rfl) (hC.getP 0 rfl)) (fun ret21 w53 hR21 => ?_)
             obtain ⟨r41, b59, rfl, h, hr21, hf18, hB21⟩ := hR21
             refine ⟨_, rfl, ?_⟩
             replace hC := hC.push hB21 (Ze (kvA .i64) (vvI .i64) b59 r41) hr21 (fun b_ hb_ => by obtain rfl := List.mem_singleton.1 hb_; exact hf18)
             refine done ?_
             refine Zx (Yp hN_ (by assumption)) hN_ (l9 := (Za 20 262143)) (by kernel_rfl) (fun hN_ => ?_)
             refine Zv 18 (by decide) (by decide) (by kernel_rfl) (by kernel_rfl) rfl ?_
             refine Zf [.map (some b59), u6, .map (some b19)] _ Try.func158 rfl rfl rfl (Yr r41 a0.alg.degrees (Zy ([] : List (A8 × Int)) s11.1 1) h _ (hC.getM 0 rfl) (hC.getP 5 rfl) (hC.getM 1 rfl)) (fun ret22 w54 hR22 => ?_)
             obtain ⟨r22, b35, rfl, h, hr22, hf19, hB22⟩ := hR22
             refine ⟨_, rfl, ?_⟩
             replace hC := hC.push hB22 (Ze (kvA .i64) (vvI .i64) b35 r22) hr22 (fun b_ hb_ => by obtain rfl := List.mem_singleton.1 hb_; exact hf19)
             refine Zc (v := .map (some b35)) rfl (done (Zw ?_))
             replace hC := hC.sM [0, 6, 7, 8, 9] (M' := [Ze (kvA .i64) (vvI .i64) b35 r22, blk b12 101 (A8.enc .i64 s10.1), blk b11 101 (A8.enc .i64 q10.1), itI (kvA .i64) (vvI .i64) r10 b1 es10 ck10 (some ent10) l10, Ze (kvA .i64) (vvI .i64) b10 s10.2]) (by decide) rfl
             replace hC := hC.sP [1, 2, 3, 4, 5, 6, 7, 8] (Ps' := [Y0 b1 es10 ck10, Ty.item ((Xo (kvA .i64) (vvI .i64)).sl) a0.images [u0_2] fp0, blk b5 32 [u6, u7], Ty.item TForm.sl a0.alg.images [u7] fp0, Ty.item ((EI .i64).ty.sl) a0.alg.degrees [u6] fp0, Ty.item (Xk 32) a0 [.pointer (some ⟨b5, 0, none⟩), .int .i64 a0.drop, u0_2] fp0, blk b0 150 [.pointer (some ⟨b5, 0, none⟩), .int .i64 a0.drop, u0_2], Ze (kvA .i64) (vvI .i64) b1 a1]) rfl
             exact ⟨rfl, _, rfl, ⟨b35, r22, (sl ⟨rfl, rfl, rfl, rfl, rfl, rfl, rfl, rfl, rfl, rfl, rfl, rfl, rfl, trivial⟩), hC, h⟩⟩
           ·skip
            refine Y4 hC 0 s11.1 1 rfl Yx Try.underlying99 rfl rfl rfl (fun w55 hBB_ hC => ?_) (.inr rfl)
            refine done ?_
            refine Zx (Yw hN_ hnb_b24870 hBB_) hN_ (l9 := (Za 20 126963)) (by kernel_rfl) (fun hN_ => ?_)
            refine Zp (Ya _) 17 (.map (some b19)) rfl rfl (by kernel_rfl) (hM10 17 rfl) (fun w_ => .inl ⟨rfl, by exact Zg (v := .map (some b19)) rfl⟩) (l9 := (Za 20 258035)) (by kernel_rfl) (aO 2 rfl ?_)
            refine Y4 hC 1 (s10.1.set i10 (IntKind.i64.wrap ((q10.1.get i10) - 1))) 1 rfl Yx Try.underlying99 rfl rfl rfl (fun w56 hBB_ hC => ?_) (.inr rfl)
            refine done ?_
            refine Zx (Yw hN_ hnb_b24803 hBB_) hN_ (l9 := (Za 20 258039)) (by kernel_rfl) (fun hN_ => ?_)
            refine Zp (Ya _) 3 (.map (some b15)) rfl rfl (by kernel_rfl) (hM10 3 rfl) (fun w_ => .inl ⟨rfl, by exact Zg (v := .map (some b15)) rfl⟩) (l9 := (Za 20 258047)) (by kernel_rfl) (aO 12 rfl ?_)
            refine Zf [.map (some b15), u6, .map (some b13)] _ Try.func158 rfl rfl rfl (Yr (Zy ([] : List (A8 × Int)) (s10.1.set i10 (IntKind.i64.wrap ((q10.1.get i10) - 1))) 1) a0.alg.degrees (a0.images.getD i10 default) h _ (hC.getM 1 rfl) (hC.getP 5 rfl) (hC.getP 0 rfl)) (fun ret23 w57 hR23 => ?_)
            obtain ⟨r42, b60, rfl, h, hr23, hf20, hB23⟩ := hR23
            refine ⟨_, rfl, ?_⟩
            replace hC := hC.push hB23 (Ze (kvA .i64) (vvI .i64) b60 r42) hr23 (fun b_ hb_ => by obtain rfl := List.mem_singleton.1 hb_; exact hf20)
            refine done ?_
            refine Zx (Yp hN_ (by assumption)) hN_ (l9 := (Za 20 262143)) (by kernel_rfl) (fun hN_ => ?_)
            refine Zv 18 (by decide) (by decide) (by kernel_rfl) (by kernel_rfl) rfl ?_
            refine Zf [.map (some b60), u6, .map (some b19)] _ Try.func158 rfl rfl rfl (Yr r42 a0.alg.degrees (Zy ([] : List (A8 × Int)) s11.1 1) h _ (hC.getM 0 rfl) (hC.getP 5 rfl) (hC.getM 1 rfl)) (fun ret24 w58 hR24 => ?_)
            obtain ⟨r23, b36, rfl, h, hr24, hf21, hB24⟩ := hR24
            refine ⟨_, rfl, ?_⟩
            replace hC := hC.push hB24 (Ze (kvA .i64) (vvI .i64) b36 r23) hr24 (fun b_ hb_ => by obtain rfl := List.mem_singleton.1 hb_; exact hf21)
            refine Zc (v := .map (some b36)) rfl (done (Zw ?_))
            replace hC := hC.sM [0, 6, 7, 8, 9] (M' := [Ze (kvA .i64) (vvI .i64) b36 r23, blk b12 101 (A8.enc .i64 s10.1), blk b11 101 (A8.enc .i64 q10.1), itI (kvA .i64) (vvI .i64) r10 b1 es10 ck10 (some ent10) l10, Ze (kvA .i64) (vvI .i64) b10 s10.2]) (by decide) rfl
            replace hC := hC.sP [1, 2, 3, 4, 5, 6, 7, 8] (Ps' := [Y0 b1 es10 ck10, Ty.item ((Xo (kvA .i64) (vvI .i64)).sl) a0.images [u0_2] fp0, blk b5 32 [u6, u7], Ty.item TForm.sl a0.alg.images [u7] fp0, Ty.item ((EI .i64).ty.sl) a0.alg.degrees [u6] fp0, Ty.item (Xk 32) a0 [.pointer (some ⟨b5, 0, none⟩), .int .i64 a0.drop, u0_2] fp0, blk b0 150 [.pointer (some ⟨b5, 0, none⟩), .int .i64 a0.drop, u0_2], Ze (kvA .i64) (vvI .i64) b1 a1]) rfl
            exact ⟨rfl, _, rfl, ⟨b36, r23, (sl ⟨rfl, rfl, rfl, rfl, rfl, rfl, rfl, rfl, rfl, rfl, rfl, rfl, rfl, trivial⟩), hC, h⟩⟩
         ·skip
          refine J0 hC (kvA .i64) (vvI .i64) fun b16 w59 hn_ hB_ hC => ?_
          have hnb_b24932 := Nat.le_trans hN_ hn_
          refine done ?_
          refine Zx (Yp hN_ (by assumption)) hN_ (l9 := (Za 20 61426)) (by kernel_rfl) (fun hN_ => ?_)
          refine Xc 0 16 rfl rfl (by kernel_rfl) ?_ ?_
          ·skip
           refine J0 hC (kvA .i64) (vvI .i64) fun b21 w60 hn_ hB_ hC => ?_
           have hnb_b24935 := Nat.le_trans hN_ hn_
           refine done ?_
           refine Zx (Yp hN_ (by assumption)) hN_ (l9 := (Za 20 61427)) (by kernel_rfl) (fun hN_ => ?_)
           refine Xc 2 16 rfl rfl (by kernel_rfl) ?_ ?_
           ·skip
            refine Y4 hC 0 (s10.1.set i10 (IntKind.i64.wrap ((q10.1.get i10) - 1))) 1 rfl Yx Try.underlying99 rfl rfl rfl (fun w61 hBB_ hC => ?_) (.inr rfl)
            refine done ?_
            refine Zx (Yw hN_ hnb_b24935 hBB_) hN_ (l9 := (Za 20 61431)) (by kernel_rfl) (fun hN_ => ?_)
            refine Zp (Ya _) 3 (.map (some b21)) rfl rfl (by kernel_rfl) (hM10 3 rfl) (fun w_ => .inl ⟨rfl, by exact Zg (v := .map (some b21)) rfl⟩) (l9 := (Za 20 61439)) (by kernel_rfl) ?_
            refine Xc 12 16 rfl rfl (by kernel_rfl) ?_ ?_
            ·skip
             refine Zf [.map (some b21), u6, .map (some b13)] _ Try.func158 rfl rfl rfl (Yr (Zy ([] : List (A8 × Int)) (s10.1.set i10 (IntKind.i64.wrap ((q10.1.get i10) - 1))) 1) a0.alg.degrees (a0.images.getD i10 default) h _ (hC.getM 0 rfl) (hC.getP 5 rfl) (hC.getP 0 rfl)) (fun ret25 w62 hR25 => ?_)
             obtain ⟨r43, b61, rfl, h, hr25, hf22, hB25⟩ := hR25
             refine ⟨_, rfl, ?_⟩
             replace hC := hC.push hB25 (Ze (kvA .i64) (vvI .i64) b61 r43) hr25 (fun b_ hb_ => by obtain rfl := List.mem_singleton.1 hb_; exact hf22)
             refine done ?_
             refine Zx (Yp hN_ (by assumption)) hN_ (l9 := (Za 20 65535)) (by kernel_rfl) (fun hN_ => ?_)
             refine aO 16 rfl ?_
             refine Y4 hC 2 s11.1 1 rfl Yx Try.underlying99 rfl rfl rfl (fun w63 hBB_ hC => ?_) (.inr rfl)
             refine done ?_
             refine Zx (Yw hN_ hnb_b24932 hBB_) hN_ (l9 := (Za 20 131071)) (by kernel_rfl) (fun hN_ => ?_)
             refine Zp (Ya _) 17 (.map (some b16)) rfl rfl (by kernel_rfl) (hM10 17 rfl) (fun w_ => .inl ⟨rfl, by exact Zg (v := .map (some b16)) rfl⟩) (l9 := (Za 20 262143)) (by kernel_rfl) (Zv 18 (by decide) (by decide) (by kernel_rfl) (by kernel_rfl) rfl ?_)
             refine Zf [.map (some b61), u6, .map (some b16)] _ Try.func158 rfl rfl rfl (Yr r43 a0.alg.degrees (Zy ([] : List (A8 × Int)) s11.1 1) h _ (hC.getM 0 rfl) (hC.getP 5 rfl) (hC.getM 2 rfl)) (fun ret26 w64 hR26 => ?_)
             obtain ⟨r24, b37, rfl, h, hr26, hf23, hB26⟩ := hR26
             refine ⟨_, rfl, ?_⟩
             replace hC := hC.push hB26 (Ze (kvA .i64) (vvI .i64) b37 r24) hr26 (fun b_ hb_ => by obtain rfl := List.mem_singleton.1 hb_; exact hf23)
             refine Zc (v := .map (some b37)) rfl (done (Zw ?_))
             replace hC := hC.sM [0, 6, 7, 8, 9] (M' := [Ze (kvA .i64) (vvI .i64) b37 r24, blk b12 101 (A8.enc .i64 s10.1), blk b11 101 (A8.enc .i64 q10.1), itI (kvA .i64) (vvI .i64) r10 b1 es10 ck10 (some ent10) l10, Ze (kvA .i64) (vvI .i64) b10 s10.2]) (by decide) rfl
             replace hC := hC.sP [1, 2, 3, 4, 5, 6, 7, 8] (Ps' := [Y0 b1 es10 ck10, Ty.item ((Xo (kvA .i64) (vvI .i64)).sl) a0.images [u0_2] fp0, blk b5 32 [u6, u7], Ty.item TForm.sl a0.alg.images [u7] fp0, Ty.item ((EI .i64).ty.sl) a0.alg.degrees [u6] fp0, Ty.item (Xk 32) a0 [.pointer (some ⟨b5, 0, none⟩), .int .i64 a0.drop, u0_2] fp0, blk b0 150 [.pointer (some ⟨b5, 0, none⟩), .int .i64 a0.drop, u0_2], Ze (kvA .i64) (vvI .i64) b1 a1]) rfl
             exact ⟨rfl, _, rfl, ⟨b37, r24, (sl ⟨rfl, rfl, rfl, rfl, rfl, rfl, rfl, rfl, rfl, rfl, rfl, rfl, rfl, trivial⟩), hC, h⟩⟩
            ·skip
             refine Y4 hC 1 s11.1 1 rfl Yx Try.underlying99 rfl rfl rfl (fun w65 hBB_ hC => ?_) (.inr rfl)
             refine done ?_
             refine Zx (Yw hN_ hnb_b24932 hBB_) hN_ (l9 := (Za 20 126975)) (by kernel_rfl) (fun hN_ => ?_)
             refine Zp (Ya _) 17 (.map (some b16)) rfl rfl (by kernel_rfl) (hM10 17 rfl) (fun w_ => .inl ⟨rfl, by exact Zg (v := .map (some b16)) rfl⟩) (l9 := (Za 20 258047)) (by kernel_rfl) (aO 12 rfl ?_)
             refine Zf [.map (some b21), u6, .map (some b13)] _ Try.func158 rfl rfl rfl (Yr (Zy ([] : List (A8 × Int)) (s10.1.set i10 (IntKind.i64.wrap ((q10.1.get i10) - 1))) 1) a0.alg.degrees (a0.images.getD i10 default) h _ (hC.getM 0 rfl) (hC.getP 5 rfl) (hC.getP 0 rfl)) (fun ret27 w66 hR27 => ?_)
             obtain ⟨r44, b62, rfl, h, hr27, hf24, hB27⟩ := hR27
             refine ⟨_, rfl, ?_⟩
             replace hC := hC.push hB27 (Ze (kvA .i64) (vvI .i64) b62 r44) hr27 (fun b_ hb_ => by obtain rfl := List.mem_singleton.1 hb_; exact hf24)
             refine done ?_
             refine Zx (Yp hN_ (by assumption)) hN_ (l9 := (Za 20 262143)) (by kernel_rfl) (fun hN_ => ?_)
             refine Zv 18 (by decide) (by decide) (by kernel_rfl) (by kernel_rfl) rfl ?_
             refine Zf [.map (some b62), u6, .map (some b16)] _ Try.func158 rfl rfl rfl (Yr r44 a0.alg.degrees (Zy ([] : List (A8 × Int)) s11.1 1) h _ (hC.getM 0 rfl) (hC.getP 5 rfl) (hC.getM 2 rfl)) (fun ret28 w67 hR28 => ?_)
             obtain ⟨r25, b38, rfl, h, hr28, hf25, hB28⟩ := hR28
             refine ⟨_, rfl, ?_⟩
             replace hC := hC.push hB28 (Ze (kvA .i64) (vvI .i64) b38 r25) hr28 (fun b_ hb_ => by obtain rfl := List.mem_singleton.1 hb_; exact hf25)
             refine Zc (v := .map (some b38)) rfl (done (Zw ?_))
             replace hC := hC.sM [0, 6, 7, 8, 9] (M' := [Ze (kvA .i64) (vvI .i64) b38 r25, blk b12 101 (A8.enc .i64 s10.1), blk b11 101 (A8.enc .i64 q10.1), itI (kvA .i64) (vvI .i64) r10 b1 es10 ck10 (some ent10) l10, Ze (kvA .i64) (vvI .i64) b10 s10.2]) (by decide) rfl
             replace hC := hC.sP [1, 2, 3, 4, 5, 6, 7, 8] (Ps' := [Y0 b1 es10 ck10, Ty.item ((Xo (kvA .i64) (vvI .i64)).sl) a0.images [u0_2] fp0, blk b5 32 [u6, u7], Ty.item TForm.sl a0.alg.images [u7] fp0, Ty.item ((EI .i64).ty.sl) a0.alg.degrees [u6] fp0, Ty.item (Xk 32) a0 [.pointer (some ⟨b5, 0, none⟩), .int .i64 a0.drop, u0_2] fp0, blk b0 150 [.pointer (some ⟨b5, 0, none⟩), .int .i64 a0.drop, u0_2], Ze (kvA .i64) (vvI .i64) b1 a1]) rfl
             exact ⟨rfl, _, rfl, ⟨b38, r25, (sl ⟨rfl, rfl, rfl, rfl, rfl, rfl, rfl, rfl, rfl, rfl, rfl, rfl, rfl, trivial⟩), hC, h⟩⟩
           ·skip
            refine Y4 hC 1 s11.1 1 rfl Yx Try.underlying99 rfl rfl rfl (fun w68 hBB_ hC => ?_) (.inr rfl)
            refine done ?_
            refine Zx (Yw hN_ hnb_b24932 hBB_) hN_ (l9 := (Za 20 126963)) (by kernel_rfl) (fun hN_ => ?_)
            refine Zp (Ya _) 17 (.map (some b16)) rfl rfl (by kernel_rfl) (hM10 17 rfl) (fun w_ => .inl ⟨rfl, by exact Zg (v := .map (some b16)) rfl⟩) (l9 := (Za 20 258035)) (by kernel_rfl) (aO 2 rfl ?_)
            refine Y4 hC 0 (s10.1.set i10 (IntKind.i64.wrap ((q10.1.get i10) - 1))) 1 rfl Yx Try.underlying99 rfl rfl rfl (fun w69 hBB_ hC => ?_) (.inr rfl)
            refine done ?_
            refine Zx (Yw hN_ hnb_b24935 hBB_) hN_ (l9 := (Za 20 258039)) (by kernel_rfl) (fun hN_ => ?_)
            refine Zp (Ya _) 3 (.map (some b21)) rfl rfl (by kernel_rfl) (hM10 3 rfl) (fun w_ => .inl ⟨rfl, by exact Zg (v := .map (some b21)) rfl⟩) (l9 := (Za 20 258047)) (by kernel_rfl) (aO 12 rfl ?_)
            refine Zf [.map (some b21), u6, .map (some b13)] _ Try.func158 rfl rfl rfl (Yr (Zy ([] : List (A8 × Int)) (s10.1.set i10 (IntKind.i64.wrap ((q10.1.get i10) - 1))) 1) a0.alg.degrees (a0.images.getD i10 default) h _ (hC.getM 0 rfl) (hC.getP 5 rfl) (hC.getP 0 rfl)) (fun ret29 w70 hR29 => ?_)
            obtain ⟨r45, b63, rfl, h, hr29, hf26, hB29⟩ := hR29
            refine ⟨_, rfl, ?_⟩
            replace hC := hC.push hB29 (Ze (kvA .i64) (vvI .i64) b63 r45) hr29 (fun b_ hb_ => by obtain rfl := List.mem_singleton.1 hb_; exact hf26)
            refine done ?_
            refine Zx (Yp hN_ (by assumption)) hN_ (l9 := (Za 20 262143)) (by kernel_rfl) (fun hN_ => ?_)
            refine Zv 18 (by decide) (by decide) (by kernel_rfl) (by kernel_rfl) rfl ?_
            refine Zf [.map (some b63), u6, .map (some b16)] _ Try.func158 rfl rfl rfl (Yr r45 a0.alg.degrees (Zy ([] : List (A8 × Int)) s11.1 1) h _ (hC.getM 0 rfl) (hC.getP 5 rfl) (hC.getM 2 rfl)) (fun ret30 w71 hR30 => ?_)
            obtain ⟨r26, b39, rfl, h, hr30, hf27, hB30⟩ := hR30
            refine ⟨_, rfl, ?_⟩
            replace hC := hC.push hB30 (Ze (kvA .i64) (vvI .i64) b39 r26) hr30 (fun b_ hb_ => by obtain rfl := List.mem_singleton.1 hb_; exact hf27)
            refine Zc (v := .map (some b39)) rfl (done (Zw ?_))
            replace hC := hC.sM [0, 6, 7, 8, 9] (M' := [Ze (kvA .i64) (vvI .i64) b39 r26, blk b12 101 (A8.enc .i64 s10.1), blk b11 101 (A8.enc .i64 q10.1), itI (kvA .i64) (vvI .i64) r10 b1 es10 ck10 (some ent10) l10, Ze (kvA .i64) (vvI .i64) b10 s10.2]) (by decide) rfl
            replace hC := hC.sP [1, 2, 3, 4, 5, 6, 7, 8] (Ps' := [Y0 b1 es10 ck10, Ty.item ((Xo (kvA .i64) (vvI .i64)).sl) a0.images [u0_2] fp0, blk b5 32 [u6, u7], Ty.item TForm.sl a0.alg.images [u7] fp0, Ty.item ((EI .i64).ty.sl) a0.alg.degrees [u6] fp0, Ty.item (Xk 32) a0 [.pointer (some ⟨b5, 0, none⟩), .int .i64 a0.drop, u0_2] fp0, blk b0 150 [.pointer (some ⟨b5, 0, none⟩), .int .i64 a0.drop, u0_2], Ze (kvA .i64) (vvI .i64) b1 a1]) rfl
            exact ⟨rfl, _, rfl, ⟨b39, r26, (sl ⟨rfl, rfl, rfl, rfl, rfl, rfl, rfl, rfl, rfl, rfl, rfl, rfl, rfl, trivial⟩), hC, h⟩⟩
          ·skip
           refine Y4 hC 0 s11.1 1 rfl Yx Try.underlying99 rfl rfl rfl (fun w72 hBB_ hC => ?_) (.inr rfl)
           refine done ?_
           refine Zx (Yw hN_ hnb_b24932 hBB_) hN_ (l9 := (Za 20 126962)) (by kernel_rfl) (fun hN_ => ?_)
           refine Zp (Ya _) 17 (.map (some b16)) rfl rfl (by kernel_rfl) (hM10 17 rfl) (fun w_ => .inl ⟨rfl, by exact Zg (v := .map (some b16)) rfl⟩) (l9 := (Za 20 258034)) (by kernel_rfl) (aO 0 rfl (J0 hC (kvA .i64) (vvI .i64) fun b52 w73 hn_ hB_ hC => ?_))
           have hnb_b24998 := Nat.le_trans hN_ hn_
           refine done ?_
           refine Zx (Yp hN_ (by assumption)) hN_ (l9 := (Za 20 258035)) (by kernel_rfl) (fun hN_ => ?_)
           refine aO 2 rfl ?_
           refine Y4 hC 0 (s10.1.set i10 (IntKind.i64.wrap ((q10.1.get i10) - 1))) 1 rfl Yx Try.underlying99 rfl rfl rfl (fun w74 hBB_ hC => ?_) (.inr rfl)
           refine done ?_
           refine Zx (Yw hN_ hnb_b24998 hBB_) hN_ (l9 := (Za 20 258039)) (by kernel_rfl) (fun hN_ => ?_)
           refine Zp (Ya _) 3 (.map (some b52)) rfl rfl (by kernel_rfl) (hM10 3 rfl) (fun w_ => .inl ⟨rfl, by exact Zg (v := .map (some b52)) rfl⟩) (l9 := (Za 20 258047)) (by kernel_rfl) (aO 12 rfl ?_)
           refine Zf [.map (some b52), u6, .map (some b13)] _ Try.func158 rfl rfl rfl (Yr (Zy ([] : List (A8 × Int)) (s10.1.set i10 (IntKind.i64.wrap ((q10.1.get i10) - 1))) 1) a0.alg.degrees (a0.images.getD i10 default) h _ (hC.getM 0 rfl) (hC.getP 5 rfl) (hC.getP 0 rfl)) (fun ret31 w75 hR31 => ?_)
           obtain ⟨r46, b64, rfl, h, hr31, hf28, hB31⟩ := hR31
           refine ⟨_, rfl, ?_⟩
           replace hC := hC.push hB31 (Ze (kvA .i64) (vvI .i64) b64 r46) hr31 (fun b_ hb_ => by obtain rfl := List.mem_singleton.1 hb_; exact hf28)
           refine done ?_
           refine Zx (Yp hN_ (by assumption)) hN_ (l9 := (Za 20 262143)) (by kernel_rfl) (fun hN_ => ?_)
           refine Zv 18 (by decide) (by decide) (by kernel_rfl) (by kernel_rfl) rfl ?_
           refine Zf [.map (some b64), u6, .map (some b16)] _ Try.func158 rfl rfl rfl (Yr r46 a0.alg.degrees (Zy ([] : List (A8 × Int)) s11.1 1) h _ (hC.getM 0 rfl) (hC.getP 5 rfl) (hC.getM 2 rfl)) (fun ret32 w76 hR32 => ?_)
           obtain ⟨r27, b40, rfl, h, hr32, hf29, hB32⟩ := hR32
           refine ⟨_, rfl, ?_⟩
           replace hC := hC.push hB32 (Ze (kvA .i64) (vvI .i64) b40 r27) hr32 (fun b_ hb_ => by obtain rfl := List.mem_singleton.1 hb_; exact hf29)
           refine Zc (v := .map (some b40)) rfl (done (Zw ?_))
           replace hC := hC.sM [0, 6, 7, 8, 9] (M' := [Ze (kvA .i64) (vvI .i64) b40 r27, blk b12 101 (A8.enc .i64 s10.1), blk b11 101 (A8.enc .i64 q10.1), itI (kvA .i64) (vvI .i64) r10 b1 es10 ck10 (some ent10) l10, Ze (kvA .i64) (vvI .i64) b10 s10.2]) (by decide) rfl
           replace hC := hC.sP [1, 2, 3, 4, 5, 6, 7, 8] (Ps' := [Y0 b1 es10 ck10, Ty.item ((Xo (kvA .i64) (vvI .i64)).sl) a0.images [u0_2] fp0, blk b5 32 [u6, u7], Ty.item TForm.sl a0.alg.images [u7] fp0, Ty.item ((EI .i64).ty.sl) a0.alg.degrees [u6] fp0, Ty.item (Xk 32) a0 [.pointer (some ⟨b5, 0, none⟩), .int .i64 a0.drop, u0_2] fp0, blk b0 150 [.pointer (some ⟨b5, 0, none⟩), .int .i64 a0.drop, u0_2], Ze (kvA .i64) (vvI .i64) b1 a1]) rfl
           exact ⟨rfl, _, rfl, ⟨b40, r27, (sl ⟨rfl, rfl, rfl, rfl, rfl, rfl, rfl, rfl, rfl, rfl, rfl, rfl, rfl, trivial⟩), hC, h⟩⟩
       ·skip
        exact ⟨(sl ⟨rfl, rfl, rfl, rfl, rfl, rfl, rfl, rfl, rfl, rfl, rfl, rfl, rfl, rfl, rfl, rfl, trivial⟩), hC⟩
      refine Xc 2 3 rfl rfl (by kernel_rfl) ?_ ?_
      ·skip
       refine Za5 hC (A8.enc .i64 A8.zero) Jt rfl fun b79 w77 hn_ hB_ hC => ?_
       have hnb_b25020 := Nat.le_trans hN_ hn_
       refine done ?_
       refine Zx (Yp hN_ (by assumption)) hN_ (l9 := (Za 6 7)) (by kernel_rfl) (fun hN_ => ?_)
       refine aO 3 rfl (Za5 hC (A8.enc .i64 A8.zero) Jt rfl fun b80 w78 hn_ hB_ hC => ?_)
       have hnb_b25023 := Nat.le_trans hN_ hn_
       refine done ?_
       refine Zx (Yp hN_ (by assumption)) hN_ (l9 := (Za 6 15)) (by kernel_rfl) (fun hN_ => ?_)
       refine aO 4 rfl (Zdm (v := .agg (List.toArray (A8.enc .i64 q10.1))) hC 1 (A8.enc .i64 q10.1) (A8.enc .i64 q10.1) rfl ag101.size rfl rfl rfl rfl rfl (Nat.le_of_ble_eq_true rfl) rfl fun w79 hBB_ hC => done ?_)
       refine Zx (Yw hN_ hnb_b25020 hBB_) hN_ (l9 := (Za 6 31)) (by kernel_rfl) (fun hN_ => ?_)
       refine Zv 5 (by decide) (by decide) (by kernel_rfl) (by kernel_rfl) rfl (Zu (v := .agg (List.toArray (A8.enc .i64 s10.1))) hC 0 (A8.enc .i64 s10.1) (A8.enc .i64 s10.1) rfl ag101.size rfl rfl rfl rfl rfl (Nat.le_of_ble_eq_true rfl) rfl fun w80 hC => done (Zw ?_))
       exact ⟨rfl, _, rfl, ⟨b80, b79, (sl ⟨rfl, rfl, rfl, rfl, rfl, rfl, rfl, rfl, rfl, rfl, rfl, rfl, rfl, rfl, trivial⟩), hC, h⟩⟩
      ·skip
       refine Za5 hC (A8.enc .i64 A8.zero) Jt rfl fun b65 w81 hn_ hB_ hC => ?_
       have hnb_b25028 := Nat.le_trans hN_ hn_
       refine done ?_
       refine Zx (Yp hN_ (by assumption)) hN_ (l9 := (Za 6 11)) (by kernel_rfl) (fun hN_ => ?_)
       refine aO 2 rfl (Za5 hC (A8.enc .i64 A8.zero) Jt rfl fun b66 w82 hn_ hB_ hC => ?_)
       have hnb_b25031 := Nat.le_trans hN_ hn_
       refine done ?_
       refine Zx (Yp hN_ (by assumption)) hN_ (l9 := (Za 6 15)) (by kernel_rfl) (fun hN_ => ?_)
       refine aO 4 rfl (Zdm (v := .agg (List.toArray (A8.enc .i64 q10.1))) hC 0 (A8.enc .i64 q10.1) (A8.enc .i64 q10.1) rfl ag101.size rfl rfl rfl rfl rfl (Nat.le_of_ble_eq_true rfl) rfl fun w83 hBB_ hC => done ?_)
       refine Zx (Yw hN_ hnb_b25031 hBB_) hN_ (l9 := (Za 6 31)) (by kernel_rfl) (fun hN_ => ?_)
       refine Zv 5 (by decide) (by decide) (by kernel_rfl) (by kernel_rfl) rfl (Zu (v := .agg (List.toArray (A8.enc .i64 s10.1))) hC 1 (A8.enc .i64 s10.1) (A8.enc .i64 s10.1) rfl ag101.size rfl rfl rfl rfl rfl (Nat.le_of_ble_eq_true rfl) rfl fun w84 hC => done (Zw ?_))
       replace hC := hC.sM [1, 0, 2, 3, 4, 5] (M' := [blk b65 101 (A8.enc .i64 s10.1), blk b66 101 (A8.enc .i64 q10.1), blk b12 101 (A8.enc .i64 s10.1), blk b11 101 (A8.enc .i64 q10.1), itI (kvA .i64) (vvI .i64) r10 b1 es10 ck10 (some ent10) l10, Ze (kvA .i64) (vvI .i64) b10 s10.2]) (by decide) rfl
       exact ⟨rfl, _, rfl, ⟨b65, b66, (sl ⟨rfl, rfl, rfl, rfl, rfl, rfl, rfl, rfl, rfl, rfl, rfl, rfl, rfl, rfl, trivial⟩), hC, h⟩⟩
     ·replace h := Zi h (cf hb11)
      refine wp_skip (Zd (wp_seq ?_))
      refine Zdk 5 Yg [0, 0, 0, 0, 13, 31] [0, 1] [] (by kernel_rfl) (by kernel_rfl) (by kernel_rfl) (fun hM19 hM21 w12 hB_ => ?_)
      replace hC := hC.grow hB_
      have hN_ : w12.heap.size ≤ w12.heap.size := Nat.le_refl _
      refine Jo (Ya _) 0 (.agg (List.toArray (A8.enc .i64 q10.1))) rfl rfl (by kernel_rfl) (hM19 0 rfl) (fun w_ hB_ => .inl ⟨rfl, by exact Yu (hC.grow (J7 hB_)) 1 (A8.enc .i64 q10.1) rfl ag101 rfl rfl rfl⟩) (l9 := (Za 6 1)) (by kernel_rfl) (Jo (Ya _) 1 (.agg (List.toArray (A8.enc .i64 s10.1))) rfl rfl (by kernel_rfl) (hM19 1 rfl) (fun w_ hB_ => .inl ⟨rfl, by exact Yu (hC.grow (J7 hB_)) 0 (A8.enc .i64 s10.1) rfl ag101 rfl rfl rfl⟩) (l9 := (Za 6 3)) (by kernel_rfl) ?_)
      refine Zbb (fun e_ w_ => ∃ (b28 : Nat), ∃ (b29 : Nat), Z4 e_ [(0, .pointer (some ⟨b0, 0, none⟩)), (5, .map (some b10)), (6, u6), (7, .pointer (some ⟨b11, 0, none⟩)), (8, .int .i64 q10.2), (9, .pointer (some ⟨b12, 0, none⟩)), (10, .int .i64 (i10 : Int)), (11, .int .i64 (q10.1.get i10)), (12, .int .i64 1), (13, .pointer (some ⟨b29, 0, none⟩)), (14, .pointer (some ⟨b28, 0, none⟩)), (26, .pointer (some ⟨r10, 0, none⟩)), (34, .int .i64 (a0.alg.degrees.length : Int)), (35, .int .i64 (i10 : Int))] ∧ Ctx Nox w0 w_ [blk b28 101 (A8.enc .i64 s10.1), blk b29 101 (A8.enc .i64 q10.1), blk b12 101 (A8.enc .i64 s10.1), blk b11 101 (A8.enc .i64 q10.1), itI (kvA .i64) (vvI .i64) r10 b1 es10 ck10 (some ent10) l10, Ze (kvA .i64) (vvI .i64) b10 s10.2] [Y0 b1 es10 ck10, Ty.item ((Xo (kvA .i64) (vvI .i64)).sl) a0.images [u0_2] fp0, blk b5 32 [u6, u7], Ty.item TForm.sl a0.alg.images [u7] fp0, Ty.item ((EI .i64).ty.sl) a0.alg.degrees [u6] fp0, Ty.item (Xk 32) a0 [.pointer (some ⟨b5, 0, none⟩), .int .i64 a0.drop, u0_2] fp0, blk b0 150 [.pointer (some ⟨b5, 0, none⟩), .int .i64 a0.drop, u0_2], Ze (kvA .i64) (vvI .i64) b1 a1] ∧ (Xf (fun (s12 : A8 × Int) nx12 => (if s12.2 < IntKind.i64.wrap ((i10 : Int) + 1) then ((0 ≤ s12.2 ∧ s12.2 < 8) ∧ nx12 (s12.1.set s12.2.toNat 0, IntKind.i64.wrap (s12.2 + 1))) else ((0 ≤ (i10 : Int) ∧ (i10 : Int) < 8) ∧ ((0 ≤ (i10 : Int) ∧ (i10 : Int) < (a0.images.length : Int)) ∧ X4 (Zy ([] : List (A8 × Int)) (s10.1.set i10 (IntKind.i64.wrap ((q10.1.get i10) - 1))) 1) a0.alg.degrees (a0.images.getD i10 default) (fun r16 => X4 r16 a0.alg.degrees (Zy ([] : List (A8 × Int)) s12.1 1) (fun r14 => Zaa (IntKind.i64.wrap ((IntKind.i64.wrap (1 * q10.2)) * (q10.1.get i10))) (fun r12 => Zab s10.2 r14 r12 (fun m11 => ((0 ≤ (i10 : Int) ∧ (i10 : Int) < 8) ∧ nx10 (s10.1.set i10 (q10.1.get i10), m11)))))))))) (q10.1, 0))) ?_ ?_
      ·clear hC h
       rintro e_ w85 ⟨b28, b29, hS_, hC, h⟩
       rw [ue hS_]
       refine Zd (wp_seq (sr (Zb (v := .int .i64 (i10 : Int)) rfl (Zq rfl rfl (Zb (v := .int .i64 0) rfl (dn (wp_block ?_)))))))
       refine Xu (S := A8 × Int) _ (fun s12 e_ w_ => Z4 e_ [(0, .pointer (some ⟨b0, 0, none⟩)), (5, .map (some b10)), (6, u6), (7, .pointer (some ⟨b11, 0, none⟩)), (8, .int .i64 q10.2), (9, .pointer (some ⟨b12, 0, none⟩)), (10, .int .i64 (i10 : Int)), (11, .int .i64 (q10.1.get i10)), (12, .int .i64 1), (13, .pointer (some ⟨b29, 0, none⟩)), (14, .pointer (some ⟨b28, 0, none⟩)), (26, .pointer (some ⟨r10, 0, none⟩)), (34, .int .i64 (a0.alg.degrees.length : Int)), (35, .int .i64 (i10 : Int)), (56, .int .i64 (IntKind.i64.wrap ((i10 : Int) + 1))), (57, .int .i64 s12.2)] ∧ Ctx Nox w0 w_ [blk b28 101 (A8.enc .i64 s10.1), blk b29 101 (A8.enc .i64 s12.1), blk b12 101 (A8.enc .i64 s10.1), blk b11 101 (A8.enc .i64 q10.1), itI (kvA .i64) (vvI .i64) r10 b1 es10 ck10 (some ent10) l10, Ze (kvA .i64) (vvI .i64) b10 s10.2] [Y0 b1 es10 ck10, Ty.item ((Xo (kvA .i64) (vvI .i64)).sl) a0.images [u0_2] fp0, blk b5 32 [u6, u7], Ty.item TForm.sl a0.alg.images [u7] fp0, Ty.item ((EI .i64).ty.sl) a0.alg.degrees [u6] fp0, Ty.item (Xk 32) a0 [.pointer (some ⟨b5, 0, none⟩), .int .i64 a0.drop, u0_2] fp0, blk b0 150 [.pointer (some ⟨b5, 0, none⟩), .int .i64 a0.drop, u0_2], Ze (kvA .i64) (vvI .i64) b1 a1]) ?_ (s0 := (q10.1, 0)) ?_ h
       ·clear hC h
        rintro s12 e_ w86 nx12 K13 ⟨hS_, hC⟩ h hK13
        rw [ue hS_]
        refine sr (Zs rfl rfl (dn (wp_seq ?_)))
        refine Zr rfl (fun hb13 => ?_) (fun hb13 => ?_)
        ·replace h := ift h (ct hb13)
         refine wp_skip (Zd (wp_seq (wp_block (sr (Zb (v := .int .i64 s12.2) rfl (Zc (v := .int .i64 s12.2) rfl (dn (Zk (Zb (v := .int .i64 s12.2) rfl ?_)))))))))
         obtain ⟨⟨h20, h21⟩, h⟩ := h
         refine Y1 s12.2.toNat Try.underlying101 sc3.size rfl rfl h20 h21 (by omega) (Zu (v := .int .i64 0) hC 1 [.int .i64 0] (A8.enc .i64 (s12.1.set s12.2.toNat 0)) rfl sc3.size rfl rfl rfl rfl rfl (show s12.2.toNat < 8 by omega) (A8.enc_set _ _ _ (show s12.2.toNat < 8 by omega)) fun w87 hC => done (Zt (Zd (Zk (Zq rfl rfl (Zb (v := .int .i64 (IntKind.i64.wrap (s12.2 + 1))) rfl (done ?_)))))))
         exact hK13 (s12.1.set s12.2.toNat 0, IntKind.i64.wrap (s12.2 + 1)) _ _ ⟨(sl ⟨rfl, rfl, rfl, rfl, rfl, rfl, rfl, rfl, rfl, rfl, rfl, rfl, rfl, rfl, rfl, rfl, trivial⟩), hC⟩ h
        ·replace h := Zi h (cf hb13)
         refine wp_exit (Zl (Zl (Yc ?_)))
         refine Zd (sr (Zb (v := .int .i64 (i10 : Int)) rfl (Zb (v := .int .i64 (q10.1.get i10)) rfl (J5 rfl rfl ?_))))
         obtain ⟨⟨h22, h23⟩, h⟩ := h
         refine Y1 i10 Try.underlying101 sc3.size rfl rfl h22 h23 (by omega) (Zu (v := .int .i64 (IntKind.i64.wrap ((q10.1.get i10) - 1))) hC 0 [.int .i64 (IntKind.i64.wrap ((q10.1.get i10) - 1))] (A8.enc .i64 (s10.1.set i10 (IntKind.i64.wrap ((q10.1.get i10) - 1)))) rfl sc3.size rfl rfl rfl rfl rfl (show i10 < 8 by omega) (A8.enc_set _ _ _ (show i10 < 8 by omega)) fun w88 hC => dn (wp_seq ?_))
         refine Zdk 18 Yg [0, 0, 3, 7, 0, 0, 32, 96, 224, 0, 992, 2016, 4095, 0, 0, 0, 49152, 114688, 262143, 524287] [1, 8, 10, 11, 15] [3, 4, 5, 6, 7, 9, 13, 17] (by kernel_rfl) (by kernel_rfl) (by kernel_rfl) (fun hM14 hM11 w13 hB_ => ?_)
         replace hC := hC.grow hB_
         have hN_ : w13.heap.size ≤ w13.heap.size := Nat.le_refl _
         refine Jo (Ya _) 1 (.agg (List.toArray (A8.enc .i64 (s10.1.set i10 (IntKind.i64.wrap ((q10.1.get i10) - 1)))))) rfl rfl (by kernel_rfl) (hM14 1 rfl) (fun w_ hB_ => .inl ⟨rfl, by exact Yu (hC.grow (J7 hB_)) 0 (A8.enc .i64 (s10.1.set i10 (IntKind.i64.wrap ((q10.1.get i10) - 1)))) rfl ag101 rfl rfl rfl⟩) (l9 := (Za 20 2)) (by kernel_rfl) (Zp (Ya _) 4 (u6) rfl rfl (by kernel_rfl) (hM11 4 rfl) (fun w_ => .inl ⟨rfl, by exact Zg (v := u6) rfl⟩) (l9 := (Za 20 18)) (by kernel_rfl) (Zp (Ya _) 5 (.pointer (some ⟨b0, 0, none⟩)) rfl rfl (by kernel_rfl) (hM11 5 rfl) (fun w_ => .inl ⟨rfl, by exact Zg (v := .pointer (some ⟨b0, 0, none⟩)) rfl⟩) (l9 := (Za 20 50)) (by kernel_rfl) (Zp (Ya _) 6 (.pointer (some ⟨b0, 0, none⟩)) rfl rfl (by kernel_rfl) (hM11 6 rfl) (fun w_ => .inl ⟨rfl, by exact Jx rfl⟩) (l9 := (Za 20 114)) (by kernel_rfl) (Zp (Ya _) 7 (.pointer (some ⟨b0, 2, none⟩)) rfl rfl (by kernel_rfl) (hM11 7 rfl) (fun w_ => .inl ⟨rfl, by exact Z7 2 Try.underlying150 rfl sc148.size rfl rfl⟩) (l9 := (Za 20 242)) (by kernel_rfl) (Jo (Ya _) 8 (u0_2) rfl rfl (by kernel_rfl) (hM14 8 rfl) (fun w_ hB_ => .inl ⟨rfl, by exact Zan (u0_2) ((hC.grow (J7 hB_)).getP 6 rfl) sc148 rfl rfl⟩) (l9 := (Za 20 498)) (by kernel_rfl) (Zp (Ya _) 9 (.int .i64 (i10 : Int)) rfl rfl (by kernel_rfl) (hM11 9 rfl) (fun w_ => .inl ⟨rfl, by exact Zg (v := .int .i64 (i10 : Int)) rfl⟩) (l9 := (Za 20 1010)) (by kernel_rfl) ?_))))))
         obtain ⟨⟨h24, h25⟩, h⟩ := h
         obtain ⟨Ad11, c12, hv11⟩ := Z9 (hC.getP 1 rfl) i10 (show i10 < a0.images.length by omega)
         refine Jo (Ya _) 10 (.pointer (some (Ad11.add (i10 * 1)))) rfl rfl (by kernel_rfl) (hM14 10 rfl) (fun w_ hB_ => .inl ⟨rfl, by exact Yv (len := a0.images.length) Try.underlying148 sc99.size (by exact tr rfl hv11) rfl h24 h25⟩) (l9 := (Za 20 2034)) (by kernel_rfl) ?_
         obtain ⟨cs_, hl11, hc11, hr11⟩ := X9 (hC.getP 1 rfl) hv11 i10 (show i10 < a0.images.length by omega)
         obtain ⟨u11, rfl⟩ := List.length_eq_one_iff.1 hl11
         clear hl11
         rw [X3 _ _ (show i10 < a0.images.length by omega)] at hr11
         obtain ⟨b14, rfl, hbf11, hm12⟩ := Zjz hr11
         replace hC := hC.derive 1 rfl (Ze (kvA .i64) (vvI .i64) b14 (a0.images.getD i10 default)) (fun _ => hm12) (fun c_ hc_ => by obtain rfl := List.mem_singleton.1 hc_; exact hbf11)
         refine Jo (Ya _) 11 (.map (some b14)) rfl rfl (by kernel_rfl) (hM14 11 rfl) (fun w_ hB_ => .inl ⟨rfl, by exact Jf (.map (some b14)) (J9 (J7 hB_) hc11) sc99 rfl⟩) (l9 := (Za 20 4082)) (by kernel_rfl) (Zp (Ya _) 13 (u6) rfl rfl (by kernel_rfl) (hM11 13 rfl) (fun w_ => .inl ⟨rfl, by exact Zg (v := u6) rfl⟩) (l9 := (Za 20 12274)) (by kernel_rfl) (Jo (Ya _) 15 (.agg (List.toArray (A8.enc .i64 s12.1))) rfl rfl (by kernel_rfl) (hM14 15 rfl) (fun w_ hB_ => .inl ⟨rfl, by exact Yu (hC.grow (J7 hB_)) 1 (A8.enc .i64 s12.1) rfl ag101 rfl rfl rfl⟩) (l9 := (Za 20 45042)) (by kernel_rfl) ?_))
         refine Zbb (fun e_ w_ => ∃ (b30 : Nat), ∃ (r18 : List (A8 × Int)), Z4 e_ [(0, .pointer (some ⟨b0, 0, none⟩)), (5, .map (some b10)), (6, u6), (7, .pointer (some ⟨b11, 0, none⟩)), (8, .int .i64 q10.2), (9, .pointer (some ⟨b12, 0, none⟩)), (10, .int .i64 (i10 : Int)), (11, .int .i64 (q10.1.get i10)), (12, .int .i64 1), (16, .map (some b30)), (26, .pointer (some ⟨r10, 0, none⟩)), (34, .int .i64 (a0.alg.degrees.length : Int)), (35, .int .i64 (i10 : Int))] ∧ Ctx Nox w0 w_ [Ze (kvA .i64) (vvI .i64) b30 r18, blk b12 101 (A8.enc .i64 s10.1), blk b11 101 (A8.enc .i64 q10.1), itI (kvA .i64) (vvI .i64) r10 b1 es10 ck10 (some ent10) l10, Ze (kvA .i64) (vvI .i64) b10 s10.2] [Y0 b1 es10 ck10, Ty.item ((Xo (kvA .i64) (vvI .i64)).sl) a0.images [u0_2] fp0, blk b5 32 [u6, u7], Ty.item TForm.sl a0.alg.images [u7] fp0, Ty.item ((EI .i64).ty.sl) a0.alg.degrees [u6] fp0, Ty.item (Xk 32) a0 [.pointer (some ⟨b5, 0, none⟩), .int .i64 a0.drop, u0_2] fp0, blk b0 150 [.pointer (some ⟨b5, 0, none⟩), .int .i64 a0.drop, u0_2], Ze (kvA .i64) (vvI .i64) b1 a1] ∧ (Zaa (IntKind.i64.wrap ((IntKind.i64.wrap (1 * q10.2)) * (q10.1.get i10))) (fun r12 => Zab s10.2 r18 r12 (fun m11 => ((0 ≤ (i10 : Int) ∧ (i10 : Int) < 8) ∧ nx10 (s10.1.set i10 (q10.1.get i10), m11)))))) ?_ ?_
         ·clear hC h
          rintro e_ w89 ⟨b30, r18, hS_, hC, h⟩
          rw [ue hS_]
          refine Zd (Zk (Zb (v := .map (some b10)) rfl (Zb (v := .map (some b30)) rfl (Zb (v := .int .i64 1) rfl (Zb (v := .int .i64 q10.2) rfl (Zad rfl rfl (Zb (v := .int .i64 (q10.1.get i10)) rfl (Zad rfl rfl ?_))))))))
          refine Zf [.int .i64 (IntKind.i64.wrap ((IntKind.i64.wrap (1 * q10.2)) * (q10.1.get i10)))] _ Try.func159 rfl rfl rfl (Zhf (IntKind.i64.wrap ((IntKind.i64.wrap (1 * q10.2)) * (q10.1.get i10))) h _) (fun ret33 w90 hR33 => ?_)
          obtain ⟨r12, rfl, h, hB33⟩ := hR33
          refine ⟨_, rfl, ?_⟩
          replace hC := hC.grow hB33
          refine Zf [.map (some b10), .map (some b30), .int .i64 r12] _ Try.func143 rfl rfl rfl (Zhi s10.2 r18 r12 h _ (hC.getM 4 rfl) (fun c_ hc_ e_ => hC.mm 0 4 rfl rfl (by decide) c_ hc_ (List.mem_singleton.2 e_)) (hC.getM 0 rfl)) (fun ret34 w91 hR34 => ?_)
          obtain ⟨m11, rfl, h, hm13, hB34⟩ := hR34
          refine ⟨_, rfl, ?_⟩
          replace hC := hC.turnB 4 rfl hB34 rfl rfl hm13
          refine dn (Zk (Zb (v := .int .i64 (i10 : Int)) rfl (Zb (v := .int .i64 (q10.1.get i10)) rfl ?_)))
          obtain ⟨⟨h26, h27⟩, h⟩ := h
          refine Y1 i10 Try.underlying101 sc3.size rfl rfl h26 h27 (by omega) (Zu (v := .int .i64 (q10.1.get i10)) hC 1 [.int .i64 (q10.1.get i10)] (A8.enc .i64 (s10.1.set i10 (q10.1.get i10))) rfl sc3.size rfl rfl rfl rfl rfl (show i10 < 8 by omega) (A8.enc_set _ _ _ (show i10 < 8 by omega)) fun w92 hC => done (Zt (Zd (Zk (Zq rfl rfl (Zb (v := .int .i64 (IntKind.i64.wrap ((i10 : Int) + 1))) rfl (done ?_)))))))
          replace hC := hC.sM [1, 2, 3, 4] (M' := [blk b12 101 (A8.enc .i64 (s10.1.set i10 (q10.1.get i10))), blk b11 101 (A8.enc .i64 q10.1), itI (kvA .i64) (vvI .i64) r10 b1 es10 ck10 (some ent10) l10, Ze (kvA .i64) (vvI .i64) b10 m11]) (by decide) rfl
          exact hK10 (s10.1.set i10 (q10.1.get i10), m11) _ _ ⟨(sl ⟨rfl, rfl, rfl, rfl, rfl, rfl, rfl, rfl, (tr rfl (congrArg _ (Yi hi10 hN10))), trivial⟩), hC⟩ h
         refine Xc 0 14 rfl rfl (by kernel_rfl) ?_ ?_
         ·skip
          refine J0 hC (kvA .i64) (vvI .i64) fun b17 w93 hn_ hB_ hC => ?_
          have hnb_b26260 := Nat.le_trans hN_ hn_
          refine done ?_
          refine Zx (Yp hN_ (by assumption)) hN_ (l9 := (Za 20 45043)) (by kernel_rfl) (fun hN_ => ?_)
          refine Xc 2 14 rfl rfl (by kernel_rfl) ?_ ?_
          ·skip
           refine Y4 hC 0 (s10.1.set i10 (IntKind.i64.wrap ((q10.1.get i10) - 1))) 1 rfl Yx Try.underlying99 rfl rfl rfl (fun w94 hBB_ hC => ?_) (.inr rfl)
           refine done ?_
           refine Zx (Yw hN_ hnb_b26260 hBB_) hN_ (l9 := (Za 20 45047)) (by kernel_rfl) (fun hN_ => ?_)
           refine Zp (Ya _) 3 (.map (some b17)) rfl rfl (by kernel_rfl) (hM11 3 rfl) (fun w_ => .inl ⟨rfl, by exact Zg (v := .map (some b17)) rfl⟩) (l9 := (Za 20 45055)) (by kernel_rfl) ?_
           refine Xc 12 14 rfl rfl (by kernel_rfl) ?_ ?_
           ·skip
            refine Zf [.map (some b17), u6, .map (some b14)] _ Try.func158 rfl rfl rfl (Yr (Zy ([] : List (A8 × Int)) (s10.1.set i10 (IntKind.i64.wrap ((q10.1.get i10) - 1))) 1) a0.alg.degrees (a0.images.getD i10 default) h _ (hC.getM 0 rfl) (hC.getP 5 rfl) (hC.getP 0 rfl)) (fun ret35 w95 hR35 => ?_)
            obtain ⟨r16, b67, rfl, h, hr33, hf30, hB35⟩ := hR35
            refine ⟨_, rfl, ?_⟩
            replace hC := hC.push hB35 (Ze (kvA .i64) (vvI .i64) b67 r16) hr33 (fun b_ hb_ => by obtain rfl := List.mem_singleton.1 hb_; exact hf30)
            refine done ?_
            refine Zx (Yp hN_ (by assumption)) hN_ (l9 := (Za 20 49151)) (by kernel_rfl) (fun hN_ => ?_)
            refine aO 14 rfl (J0 hC (kvA .i64) (vvI .i64) fun b53 w96 hn_ hB_ hC => ?_)
            have hnb_b26273 := Nat.le_trans hN_ hn_
            refine done ?_
            refine Zx (Yp hN_ (by assumption)) hN_ (l9 := (Za 20 65535)) (by kernel_rfl) (fun hN_ => ?_)
            refine aO 16 rfl ?_
            refine Y4 hC 0 s12.1 1 rfl Yx Try.underlying99 rfl rfl rfl (fun w97 hBB_ hC => ?_) (.inr rfl)
            refine done ?_
            refine Zx (Yw hN_ hnb_b26273 hBB_) hN_ (l9 := (Za 20 131071)) (by kernel_rfl) (fun hN_ => ?_)
            refine Zp (Ya _) 17 (.map (some b53)) rfl rfl (by kernel_rfl) (hM11 17 rfl) (fun w_ => .inl ⟨rfl, by exact Zg (v := .map (some b53)) rfl⟩) (l9 := (Za 20 262143)) (by kernel_rfl) (Zv 18 (by decide) (by decide) (by kernel_rfl) (by kernel_rfl) rfl ?_)
            refine Zf [.map (some b67), u6, .map (some b53)] _ Try.func158 rfl rfl rfl (Yr r16 a0.alg.degrees (Zy ([] : List (A8 × Int)) s12.1 1) h _ (hC.getM 1 rfl) (hC.getP 5 rfl) (hC.getM 0 rfl)) (fun ret36 w98 hR36 => ?_)
            obtain ⟨r14, b41, rfl, h, hr34, hf31, hB36⟩ := hR36
            refine ⟨_, rfl, ?_⟩
            replace hC := hC.push hB36 (Ze (kvA .i64) (vvI .i64) b41 r14) hr34 (fun b_ hb_ => by obtain rfl := List.mem_singleton.1 hb_; exact hf31)
            refine Zc (v := .map (some b41)) rfl (done (Zw ?_))
            replace hC := hC.sM [0, 6, 7, 8, 9] (M' := [Ze (kvA .i64) (vvI .i64) b41 r14, blk b12 101 (A8.enc .i64 s10.1), blk b11 101 (A8.enc .i64 q10.1), itI (kvA .i64) (vvI .i64) r10 b1 es10 ck10 (some ent10) l10, Ze (kvA .i64) (vvI .i64) b10 s10.2]) (by decide) rfl
            replace hC := hC.sP [1, 2, 3, 4, 5, 6, 7, 8] (Ps' := [Y0 b1 es10 ck10, Ty.item ((Xo (kvA .i64) (vvI .i64)).sl) a0.images [u0_2] fp0, blk b5 32 [u6, u7], Ty.item TForm.sl a0.alg.images [u7] fp0, Ty.item ((EI .i64).ty.sl) a0.alg.degrees [u6] fp0, Ty.item (Xk 32) a0 [.pointer (some ⟨b5, 0, none⟩), .int .i64 a0.drop, u0_2] fp0, blk b0 150 [.pointer (some ⟨b5, 0, none⟩), .int .i64 a0.drop, u0_2], Ze (kvA .i64) (vvI .i64) b1 a1]) rfl
            exact ⟨rfl, _, rfl, ⟨b41, r14, (sl ⟨rfl, rfl, rfl, rfl, rfl, rfl, rfl, rfl, rfl, rfl, rfl, rfl, rfl, trivial⟩), hC, h⟩⟩
           ·skip
            refine J0 hC (kvA .i64) (vvI .i64) fun b24 w99 hn_ hB_ hC => ?_
            have hnb_b26286 := Nat.le_trans hN_ hn_
            refine done ?_
            refine Zx (Yp hN_ (by assumption)) hN_ (l9 := (Za 20 61439)) (by kernel_rfl) (fun hN_ => ?_)
            refine Xc 12 16 rfl rfl (by kernel_rfl) ?_ ?_
            ·skip
             refine Zf [.map (some b17), u6, .map (some b14)] _ Try.func158 rfl rfl rfl (Yr (Zy ([] : List (A8 × Int)) (s10.1.set i10 (IntKind.i64.wrap ((q10.1.get i10) - 1))) 1) a0.alg.degrees (a0.images.getD i10 default) h _ (hC.getM 1 rfl) (hC.getP 5 rfl) (hC.getP 0 rfl)) (fun ret37 w100 hR37 => ?_)
             obtain ⟨r47, b68, rfl, h, hr35, hf32, hB37⟩ := hR37
             refine ⟨_, rfl, ?_⟩
             replace hC := hC.push hB37 (Ze (kvA .i64) (vvI .i64) b68 r47) hr35 (fun b_ hb_ => by obtain rfl := List.mem_singleton.1 hb_; exact hf32)
             refine done ?_
             refine Zx (Yp hN_ (by assumption)) hN_ (l9 := (Za 20 65535)) (by kernel_rfl) (fun hN_ => ?_)
             refine aO 16 rfl ?_
             refine Y4 hC 1 s12.1 1 rfl Yx Try.underlying99 rfl rfl rfl (fun w101 hBB_ hC => ?_) (.inr rfl)
             refine done ?_
             refine Zx (Yw hN_ hnb_b26286 hBB_) hN_ (l9 := (Za 20 131071)) (by kernel_rfl) (fun hN_ => ?_)
             refine Zp (Ya _) 17 (.map (some b24)) rfl rfl (by kernel_rfl) (hM11 17 rfl) (fun w_ => .inl ⟨rfl, by exact Zg (v := .map (some b24)) rfl⟩) (l9 := (Za 20 262143)) (by kernel_rfl) (Zv 18 (by decide) (by decide) (by kernel_rfl) (by kernel_rfl) rfl ?_)
             refine Zf [.map (some b68), u6, .map (some b24)] _ Try.func158 rfl rfl rfl (Yr r47 a0.alg.degrees (Zy ([] : List (A8 × Int)) s12.1 1) h _ (hC.getM 0 rfl) (hC.getP 5 rfl) (hC.getM 1 rfl)) (fun ret38 w102 hR38 => ?_)
             obtain ⟨r28, b42, rfl, h, hr36, hf33, hB38⟩ := hR38
             refine ⟨_, rfl, ?_⟩
             replace hC := hC.push hB38 (Ze (kvA .i64) (vvI .i64) b42 r28) hr36 (fun b_ hb_ => by obtain rfl := List.mem_singleton.1 hb_; exact hf33)
             refine Zc (v := .map (some b42)) rfl (done (Zw ?_))
             replace hC := hC.sM [0, 6, 7, 8, 9] (M' := [Ze (kvA .i64) (vvI .i64) b42 r28, blk b12 101 (A8.enc .i64 s10.1), blk b11 101 (A8.enc .i64 q10.1), itI (kvA .i64) (vvI .i64) r10 b1 es10 ck10 (some ent10) l10, Ze (kvA .i64) (vvI .i64) b10 s10.2]) (by decide) rfl
             replace hC := hC.sP [1, 2, 3, 4, 5, 6, 7, 8] (Ps' := [Y0 b1 es10 ck10, Ty.item ((Xo (kvA .i64) (vvI .i64)).sl) a0.images [u0_2] fp0, blk b5 32 [u6, u7], Ty.item TForm.sl a0.alg.images [u7] fp0, Ty.item ((EI .i64).ty.sl) a0.alg.degrees [u6] fp0, Ty.item (Xk 32) a0 [.pointer (some ⟨b5, 0, none⟩), .int .i64 a0.drop, u0_2] fp0, blk b0 150 [.pointer (some ⟨b5, 0, none⟩), .int .i64 a0.drop, u0_2], Ze (kvA .i64) (vvI .i64) b1 a1]) rfl
             exact ⟨rfl, _, rfl, ⟨b42, r28, (sl ⟨rfl, rfl, rfl, rfl, rfl, rfl, rfl, rfl, rfl, rfl, rfl, rfl, rfl, trivial⟩), hC, h⟩⟩
            ·skip
             refine Y4 hC 0 s12.1 1 rfl Yx Try.underlying99 rfl rfl rfl (fun w103 hBB_ hC => ?_) (.inr rfl)
             refine done ?_
             refine Zx (Yw hN_ hnb_b26286 hBB_) hN_ (l9 := (Za 20 126975)) (by kernel_rfl) (fun hN_ => ?_)
             refine Zp (Ya _) 17 (.map (some b24)) rfl rfl (by kernel_rfl) (hM11 17 rfl) (fun w_ => .inl ⟨rfl, by exact Zg (v := .map (some b24)) rfl⟩) (l9 := (Za 20 258047)) (by kernel_rfl) (aO 12 rfl ?_)
             refine Zf [.map (some b17), u6, .map (some b14)] _ Try.func158 rfl rfl rfl (Yr (Zy ([] : List (A8 × Int)) (s10.1.set i10 (IntKind.i64.wrap ((q10.1.get i10) - 1))) 1) a0.alg.degrees (a0.images.getD i10 default) h _ (hC.getM 1 rfl) (hC.getP 5 rfl) (hC.getP 0 rfl)) (fun ret39 w104 hR39 => ?_)
             obtain ⟨r48, b69, rfl, h, hr37, hf34, hB39⟩ := hR39
             refine ⟨_, rfl, ?_⟩
             replace hC := hC.push hB39 (Ze (kvA .i64) (vvI .i64) b69 r48) hr37 (fun b_ hb_ => by obtain rfl := List.mem_singleton.1 hb_; exact hf34)
             refine done ?_
             refine Zx (Yp hN_ (by assumption)) hN_ (l9 := (Za 20 262143)) (by kernel_rfl) (fun hN_ => ?_)
             refine Zv 18 (by decide) (by decide) (by kernel_rfl) (by kernel_rfl) rfl ?_
             refine Zf [.map (some b69), u6, .map (some b24)] _ Try.func158 rfl rfl rfl (Yr r48 a0.alg.degrees (Zy ([] : List (A8 × Int)) s12.1 1) h _ (hC.getM 0 rfl) (hC.getP 5 rfl) (hC.getM 1 rfl)) (fun ret40 w105 hR40 => ?_)
             obtain ⟨r29, b43, rfl, h, hr38, hf35, hB40⟩ := hR40
             refine ⟨_, rfl, ?_⟩
             replace hC := hC.push hB40 (Ze (kvA .i64) (vvI .i64) b43 r29) hr38 (fun b_ hb_ => by obtain rfl := List.mem_singleton.1 hb_; exact hf35)
             refine Zc (v := .map (some b43)) rfl (done (Zw ?_))
             replace hC := hC.sM [0, 6, 7, 8, 9] (M' := [Ze (kvA .i64) (vvI .i64) b43 r29, blk b12 101 (A8.enc .i64 s10.1), blk b11 101 (A8.enc .i64 q10.1), itI (kvA .i64) (vvI .i64) r10 b1 es10 ck10 (some ent10) l10, Ze (kvA .i64) (vvI .i64) b10 s10.2]) (by decide) rfl
             replace hC := hC.sP [1, 2, 3, 4, 5, 6, 7, 8] (Ps' := [Y0 b1 es10 ck10, Ty.item ((Xo (kvA .i64) (vvI .i64)).sl) a0.images [u0_2] fp0, blk b5 32 [u6, u7], Ty.item TForm.sl a0.alg.images [u7] fp0, Ty.item ((EI .i64).ty.sl) a0.alg.degrees [u6] fp0, Ty.item (Xk 32) a0 [.pointer (some ⟨b5, 0, none⟩), .int .i64 a0.drop, u0_2] fp0, blk b0 150 [.pointer (some ⟨b5, 0, none⟩), .int .i64 a0.drop, u0_2], Ze (kvA .i64) (vvI .i64) b1 a1]) rfl
             exact ⟨rfl, _, rfl, ⟨b43, r29, (sl ⟨rfl, rfl, rfl, rfl, rfl, rfl, rfl, rfl, rfl, rfl, rfl, rfl, rfl, trivial⟩), hC, h⟩⟩
          ·skip
           refine J0 hC (kvA .i64) (vvI .i64) fun b20 w106 hn_ hB_ hC => ?_
           have hnb_b26327 := Nat.le_trans hN_ hn_
           refine done ?_
           refine Zx (Yp hN_ (by assumption)) hN_ (l9 := (Za 20 61427)) (by kernel_rfl) (fun hN_ => ?_)
           refine Xc 2 16 rfl rfl (by kernel_rfl) ?_ ?_
           ·skip
            refine Y4 hC 1 (s10.1.set i10 (IntKind.i64.wrap ((q10.1.get i10) - 1))) 1 rfl Yx Try.underlying99 rfl rfl rfl (fun w107 hBB_ hC => ?_) (.inr rfl)
            refine done ?_
            refine Zx (Yw hN_ hnb_b26260 hBB_) hN_ (l9 := (Za 20 61431)) (by kernel_rfl) (fun hN_ => ?_)
            refine Zp (Ya _) 3 (.map (some b17)) rfl rfl (by kernel_rfl) (hM11 3 rfl) (fun w_ => .inl ⟨rfl, by exact Zg (v := .map (some b17)) rfl⟩) (l9 := (Za 20 61439)) (by kernel_rfl) ?_
            refine Xc 12 16 rfl rfl (by kernel_rfl) ?_ ?_
            ·skip
             refine Zf [.map (some b17), u6, .map (some b14)] _ Try.func158 rfl rfl rfl (Yr (Zy ([] : List (A8 × Int)) (s10.1.set i10 (IntKind.i64.wrap ((q10.1.get i10) - 1))) 1) a0.alg.degrees (a0.images.getD i10 default) h _ (hC.getM 1 rfl) (hC.getP 5 rfl) (hC.getP 0 rfl)) (fun ret41 w108 hR41 => ?_)
             obtain ⟨r49, b70, rfl, h, hr39, hf36, hB41⟩ := hR41
             refine ⟨_, rfl, ?_⟩
             replace hC := hC.push hB41 (Ze (kvA .i64) (vvI .i64) b70 r49) hr39 (fun b_ hb_ => by obtain rfl := List.mem_singleton.1 hb_; exact hf36)
             refine done ?_
             refine Zx (Yp hN_ (by assumption)) hN_ (l9 := (Za 20 65535)) (by kernel_rfl) (fun hN_ => ?_)
             refine aO 16 rfl ?_
             refine Y4 hC 1 s12.1 1 rfl Yx Try.underlying99 rfl rfl rfl (fun w109 hBB_ hC => ?_) (.inr rfl)
             refine done ?_
             refine Zx (Yw hN_ hnb_b26327 hBB_) hN_ (l9 := (Za 20 131071)) (by kernel_rfl) (fun hN_ => ?_)
             refine Zp (Ya _) 17 (.map (some b20)) rfl rfl (by kernel_rfl) (hM11 17 rfl) (fun w_ => .inl ⟨rfl, by exact Zg (v := .map (some b20)) rfl⟩) (l9 := (Za 20 262143)) (by kernel_rfl) (Zv 18 (by decide) (by decide) (by kernel_rfl) (by kernel_rfl) rfl ?_)
             refine Zf [.map (some b70), u6, .map (some b20)] _ Try.func158 rfl rfl rfl (Yr r49 a0.alg.degrees (Zy ([] : List (A8 × Int)) s12.1 1) h _ (hC.getM 0 rfl) (hC.getP 5 rfl) (hC.getM 1 rfl)) (fun ret42 w110 hR42 => ?_)
             obtain ⟨r30, b44, rfl, h, hr40, hf37, hB42⟩ := hR42
             refine ⟨_, rfl, ?_⟩
             replace hC := hC.push hB42 (Ze (kvA .i64) (vvI .i64) b44 r30) hr40 (fun b_ hb_ => by obtain rfl := List.mem_singleton.1 hb_; exact hf37)
             refine Zc (v := .map (some b44)) rfl (done (Zw ?_))
             replace hC := hC.sM [0, 6, 7, 8, 9] (M' := [Ze (kvA .i64) (vvI .i64) b44 r30, blk b12 101 (A8.enc .i64 s10.1), blk b11 101 (A8.enc .i64 q10.1), itI (kvA .i64) (vvI .i64) r10 b1 es10 ck10 (some ent10) l10, Ze (kvA .i64) (vvI .i64) b10 s10.2]) (by decide) rfl
             replace hC := hC.sP [1, 2, 3, 4, 5, 6, 7, 8] (Ps' := [Y0 b1 es10 ck10, Ty.item ((Xo (kvA .i64) (vvI .i64)).sl) a0.images [u0_2] fp0, blk b5 32 [u6, u7], Ty.item TForm.sl a0.alg.images [u7] fp0, Ty.item ((EI .i64).ty.sl) a0.alg.degrees [u6] fp0, Ty.item (Xk 32) a0 [.pointer (some ⟨b5, 0, none⟩), .int .i64 a0.drop, u0_2] fp0, blk b0 150 [.pointer (some ⟨b5, 0, none⟩), .int .i64 a0.drop, u0_2], Ze (kvA .i64) (vvI .i64) b1 a1]) rfl
             exact ⟨rfl, _, rfl, ⟨b44, r30, (sl ⟨rfl, rfl, rfl, rfl, rfl, rfl, rfl, rfl, rfl, rfl, rfl, rfl, rfl, trivial⟩), hC, h⟩⟩
            ·skip
             refine Y4 hC 0 s12.1 1 rfl Yx Try.underlying99 rfl rfl rfl (fun w111 hBB_ hC => ?_) (.inr rfl)
             refine done ?_
             refine Zx (Yw hN_ hnb_b26327 hBB_) hN_ (l9 := (Za 20 126975)) (by kernel_rfl) (fun hN_ => ?_)
             refine Zp (Ya _) 17 (.map (some b20)) rfl rfl (by kernel_rfl) (hM11 17 rfl) (fun w_ => .inl ⟨rfl, by exact Zg (v := .map (some b20)) rfl⟩) (l9 := (Za 20 258047)) (by kernel_rfl) (aO 12 rfl ?_)
             refine Zf [.map (some b17), u6, .map (some b14)] _ Try.func158 rfl rfl rfl (Yr (Zy ([] : List (A8 × Int)) (s10.1.set i10 (IntKind.i64.wrap ((q10.1.get i10) - 1))) 1) a0.alg.degrees (a0.images.getD i10 default) h _ (hC.getM 1 rfl) (hC.getP 5 rfl) (hC.getP 0 rfl)) (fun ret43 w112 hR43 => ?_)
             obtain ⟨r50, b71, rfl, h, hr41, hf38, hB43⟩ := hR43
             refine ⟨_, rfl, ?_⟩
             replace hC := hC.push hB43 (Ze (kvA .i64) (vvI .i64) b71 r50) hr41 (fun b_ hb_ => by obtain rfl := List.mem_singleton.1 hb_; exact hf38)
             refine done ?_
             refine Zx (Yp hN_ (by assumption)) hN_ (l9 := (Za 20 262143)) (by kernel_rfl) (fun hN_ => ?_)
             refine Zv 18 (by decide) (by decide) (by kernel_rfl) (by kernel_rfl) rfl ?_
             refine Zf [.map (some b71), u6, .map (some b20)] _ Try.func158 rfl rfl rfl (Yr r50 a0.alg.degrees (Zy ([] : List (A8 × Int)) s12.1 1) h _ (hC.getM 0 rfl) (hC.getP 5 rfl) (hC.getM 1 rfl)) (fun ret44 w113 hR44 => ?_)
             obtain ⟨r31, b45, rfl, h, hr42, hf39, hB44⟩ := hR44
             refine ⟨_, rfl, ?_⟩
             replace hC := hC.push hB44 (Ze (kvA .i64) (vvI .i64) b45 r31) hr42 (fun b_ hb_ => by obtain rfl := List.mem_singleton.1 hb_; exact hf39)
             refine Zc (v := .map (some b45)) rfl (done (Zw ?_))
             replace hC := hC.sM [0, 6, 7, 8, 9] (M' := [Ze (kvA .i64) (vvI .i64) b45 r31, blk b12 101 (A8.enc .i64 s10.1), blk b11 101 (A8.enc .i64 q10.1), itI (kvA .i64) (vvI .i64) r10 b1 es10 ck10 (some ent10) l10, Ze (kvA .i64) (vvI .i64) b10 s10.2]) (by decide) rfl
             replace hC := hC.sP [1, 2, 3, 4, 5, 6, 7, 8] (Ps' := [Y0 b1 es10 ck10, Ty.item ((Xo (kvA .i64) (vvI .i64)).sl) a0.images [u0_2] fp0, blk b5 32 [u6, u7], Ty.item TForm.sl a0.alg.images [u7] fp0, Ty.item ((EI .i64).ty.sl) a0.alg.degrees [u6] fp0, Ty.item (Xk 32) a0 [.pointer (some ⟨b5, 0, none⟩), .int .i64 a0.drop, u0_2] fp0, blk b0 150 [.pointer (some ⟨b5, 0, none⟩), .int .i64 a0.drop, u0_2], Ze (kvA .i64) (vvI .i64) b1 a1]) rfl
             exact ⟨rfl, _, rfl, ⟨b45, r31, (sl ⟨rfl, rfl, rfl, rfl, rfl, rfl, rfl, rfl, rfl, rfl, rfl, rfl, rfl, trivial⟩), hC, h⟩⟩
           ·skip
            refine Y4 hC 0 s12.1 1 rfl Yx Try.underlying99 rfl rfl rfl (fun w114 hBB_ hC => ?_) (.inr rfl)
            refine done ?_
            refine Zx (Yw hN_ hnb_b26327 hBB_) hN_ (l9 := (Za 20 126963)) (by kernel_rfl) (fun hN_ => ?_)
            refine Zp (Ya _) 17 (.map (some b20)) rfl rfl (by kernel_rfl) (hM11 17 rfl) (fun w_ => .inl ⟨rfl, by exact Zg (v := .map (some b20)) rfl⟩) (l9 := (Za 20 258035)) (by kernel_rfl) (aO 2 rfl ?_)
            refine Y4 hC 1 (s10.1.set i10 (IntKind.i64.wrap ((q10.1.get i10) - 1))) 1 rfl Yx Try.underlying99 rfl rfl rfl (fun w115 hBB_ hC => ?_) (.inr rfl)
            refine done ?_
            refine Zx (Yw hN_ hnb_b26260 hBB_) hN_ (l9 := (Za 20 258039)) (by kernel_rfl) (fun hN_ => ?_)
            refine Zp (Ya _) 3 (.map (some b17)) rfl rfl (by kernel_rfl) (hM11 3 rfl) (fun w_ => .inl ⟨rfl, by exact Zg (v := .map (some b17)) rfl⟩) (l9 := (Za 20 258047)) (by kernel_rfl) (aO 12 rfl ?_)
            refine Zf [.map (some b17), u6, .map (some b14)] _ Try.func158 rfl rfl rfl (Yr (Zy ([] : List (A8 × Int)) (s10.1.set i10 (IntKind.i64.wrap ((q10.1.get i10) - 1))) 1) a0.alg.degrees (a0.images.getD i10 default) h _ (hC.getM 1 rfl) (hC.getP 5 rfl) (hC.getP 0 rfl)) (fun ret45 w116 hR45 => ?_)
            obtain ⟨r51, b72, rfl, h, hr43, hf40, hB45⟩ := hR45
            refine ⟨_, rfl, ?_⟩
            replace hC := hC.push hB45 (Ze (kvA .i64) (vvI .i64) b72 r51) hr43 (fun b_ hb_ => by obtain rfl := List.mem_singleton.1 hb_; exact hf40)
            refine done ?_
            refine Zx (Yp hN_ (by assumption)) hN_ (l9 := (Za 20 262143)) (by kernel_rfl) (fun hN_ => ?_)
            refine Zv 18 (by decide) (by decide) (by kernel_rfl) (by kernel_rfl) rfl ?_
            refine Zf [.map (some b72), u6, .map (some b20)] _ Try.func158 rfl rfl rfl (Yr r51 a0.alg.degrees (Zy ([] : List (A8 × Int)) s12.1 1) h _ (hC.getM 0 rfl) (hC.getP 5 rfl) (hC.getM 1 rfl)) (fun ret46 w117 hR46 => ?_)
            obtain ⟨r32, b46, rfl, h, hr44, hf41, hB46⟩ := hR46
            refine ⟨_, rfl, ?_⟩
            replace hC := hC.push hB46 (Ze (kvA .i64) (vvI .i64) b46 r32) hr44 (fun b_ hb_ => by obtain rfl := List.mem_singleton.1 hb_; exact hf41)
            refine Zc (v := .map (some b46)) rfl (done (Zw ?_))
            replace hC := hC.sM [0, 6, 7, 8, 9] (M' := [Ze (kvA .i64) (vvI .i64) b46 r32, blk b12 101 (A8.enc .i64 s10.1), blk b11 101 (A8.enc .i64 q10.1), itI (kvA .i64) (vvI .i64) r10 b1 es10 ck10 (some ent10) l10, Ze (kvA .i64) (vvI .i64) b10 s10.2]) (by decide) rfl
            replace hC := hC.sP [1, 2, 3, 4, 5, 6, 7, 8] (Ps' := [Y0 b1 es10 ck10, Ty.item ((Xo (kvA .i64) (vvI .i64)).sl) a0.images [u0_2] fp0, blk b5 32 [u6, u7], Ty.item TForm.sl a0.alg.images [u7] fp0, Ty.item ((EI .i64).ty.sl) a0.alg.degrees [u6] fp0, Ty.item (Xk 32) a0 [.pointer (some ⟨b5, 0, none⟩), .int .i64 a0.drop, u0_2] fp0, blk b0 150 [.pointer (some ⟨b5, 0, none⟩), .int .i64 a0.drop, u0_2], Ze (kvA .i64) (vvI .i64) b1 a1]) rfl
            exact ⟨rfl, _, rfl, ⟨b46, r32, (sl ⟨rfl, rfl, rfl, rfl, rfl, rfl, rfl, rfl, rfl, rfl, rfl, rfl, rfl, trivial⟩), hC, h⟩⟩
         ·skip
          refine J0 hC (kvA .i64) (vvI .i64) fun b18 w118 hn_ hB_ hC => ?_
          have hnb_b26389 := Nat.le_trans hN_ hn_
          refine done ?_
          refine Zx (Yp hN_ (by assumption)) hN_ (l9 := (Za 20 61426)) (by kernel_rfl) (fun hN_ => ?_)
          refine Xc 0 16 rfl rfl (by kernel_rfl) ?_ ?_
          ·skip
           refine J0 hC (kvA .i64) (vvI .i64) fun b22 w119 hn_ hB_ hC => ?_
           have hnb_b26392 := Nat.le_trans hN_ hn_
           refine done ?_
           refine Zx (Yp hN_ (by assumption)) hN_ (l9 := (Za 20 61427)) (by kernel_rfl) (fun hN_ => ?_)
           refine Xc 2 16 rfl rfl (by kernel_rfl) ?_ ?_
           ·skip
            refine Y4 hC 0 (s10.1.set i10 (IntKind.i64.wrap ((q10.1.get i10) - 1))) 1 rfl Yx Try.underlying99 rfl rfl rfl (fun w120 hBB_ hC => ?_) (.inr rfl)
            refine done ?_
            refine Zx (Yw hN_ hnb_b26392 hBB_) hN_ (l9 := (Za 20 61431)) (by kernel_rfl) (fun hN_ => ?_)
            refine Zp (Ya _) 3 (.map (some b22)) rfl rfl (by kernel_rfl) (hM11 3 rfl) (fun w_ => .inl ⟨rfl, by exact Zg (v := .map (some b22)) rfl⟩) (l9 := (Za 20 61439)) (by kernel_rfl) ?_
            refine Xc 12 16 rfl rfl (by kernel_rfl) ?_ ?_
            ·skip
             refine Zf [.map (some b22), u6, .map (some b14)] _ Try.func158 rfl rfl rfl (Yr (Zy ([] : List (A8 × Int)) (s10.1.set i10 (IntKind.i64.wrap ((q10.1.get i10) - 1))) 1) a0.alg.degrees (a0.images.getD i10 default) h _ (hC.getM 0 rfl) (hC.getP 5 rfl) (hC.getP 0 rfl)) (fun ret47 w121 hR47 => ?_)
             obtain ⟨r52, b73, rfl, h, hr45, hf42, hB47⟩ := hR47
             refine ⟨_, rfl, ?_⟩
             replace hC := hC.push hB47 (Ze (kvA .i64) (vvI .i64) b73 r52) hr45 (fun b_ hb_ => by obtain rfl := List.mem_singleton.1 hb_; exact hf42)
             refine done ?_
             refine Zx (Yp hN_ (by assumption)) hN_ (l9 := (Za 20 65535)) (by kernel_rfl) (fun hN_ => ?_)
             refine aO 16 rfl ?_
             refine Y4 hC 2 s12.1 1 rfl Yx Try.underlying99 rfl rfl rfl (fun w122 hBB_ hC => ?_) (.inr rfl)
             refine done ?_
             refine Zx (Yw hN_ hnb_b26389 hBB_) hN_ (l9 := (Za 20 131071)) (by kernel_rfl) (fun hN_ => ?_)
             refine Zp (Ya _) 17 (.map (some b18)) rfl rfl (by kernel_rfl) (hM11 17 rfl) (fun w_ => .inl ⟨rfl, by exact Zg (v := .map (some b18)) rfl⟩) (l9 := (Za 20 262143)) (by kernel_rfl) (Zv 18 (by decide) (by decide) (by kernel_rfl) (by kernel_rfl) rfl ?_)
             refine Zf [.map (some b73), u6, .map (some b18)] _ Try.func158 rfl rfl rfl (Yr r52 a0.alg.degrees (Zy ([] : List (A8 × Int)) s12.1 1) h _ (hC.getM 0 rfl) (hC.getP 5 rfl) (hC.getM 2 rfl)) (fun ret48 w123 hR48 => ?_)
             obtain ⟨r33, b47, rfl, h, hr46, hf43, hB48⟩ := hR48
             refine ⟨_, rfl, ?_⟩
             replace hC := hC.push hB48 (Ze (kvA .i64) (vvI .i64) b47 r33) hr46 (fun b_ hb_ => by obtain rfl := List.mem_singleton.1 hb_; exact hf43)
             refine Zc (v := .map (some b47)) rfl (done (Zw ?_))
             replace hC := hC.sM [0, 6, 7, 8, 9] (M' := [Ze (kvA .i64) (vvI .i64) b47 r33, blk b12 101 (A8.enc .i64 s10.1), blk b11 101 (A8.enc .i64 q10.1), itI (kvA .i64) (vvI .i64) r10 b1 es10 ck10 (some ent10) l10, Ze (kvA .i64) (vvI .i64) b10 s10.2]) (by decide) rfl
             replace hC := hC.sP [1, 2, 3, 4, 5, 6, 7, 8] (Ps' := [Y0 b1 es10 ck10, Ty.item ((Xo (kvA .i64) (vvI .i64)).sl) a0.images [u0_2] fp0, blk b5 32 [u6, u7], Ty.item TForm.sl a0.alg.images [u7] fp0, Ty.item ((EI .i64).ty.sl) a0.alg.degrees [u6] fp0, Ty.item (Xk 32) a0 [.pointer (some ⟨b5, 0, none⟩), .int .i64 a0.drop, u0_2] fp0, blk b0 150 [.pointer (some ⟨b5, 0, none⟩), .int .i64 a0.drop, u0_2], Ze (kvA .i64) (vvI .i64) b1 a1]) rfl
             exact ⟨rfl, _, rfl, ⟨b47, r33, (sl ⟨rfl, rfl, rfl, rfl, rfl, rfl, rfl, rfl, rfl, rfl, rfl, rfl, rfl, trivial⟩), hC, h⟩⟩
            ·skip
             refine Y4 hC 1 s12.1 1 rfl Yx Try.underlying99 rfl rfl rfl (fun w124 hBB_ hC => ?_) (.inr rfl)
             refine done ?_
             refine Zx (Yw hN_ hnb_b26389 hBB_) hN_ (l9 := (Za 20 126975)) (by kernel_rfl) (fun hN_ => ?_)
             refine Zp (Ya _) 17 (.map (some b18)) rfl rfl (by kernel_rfl) (hM11 17 rfl) (fun w_ => .inl ⟨rfl, by exact Zg (v := .map (some b18)) rfl⟩) (l9 := (Za 20 258047)) (by kernel_rfl) (aO 12 rfl ?_)
             refine Zf [.map (some b22), u6, .map (some b14)] _ Try.func158 rfl rfl rfl (Yr (Zy ([] : List (A8 × Int)) (s10.1.set i10 (IntKind.i64.wrap ((q10.1.get i10) - 1))) 1) a0.alg.degrees (a0.images.getD i10 default) h _ (hC.getM 0 rfl) (hC.getP 5 rfl) (hC.getP 0 rfl)) (fun ret49 w125 hR49 => ?_)
             obtain ⟨r53, b74, rfl, h, hr47, hf44, hB49⟩ := hR49
             refine ⟨_, rfl, ?_⟩
             replace hC := hC.push hB49 (Ze (kvA .i64) (vvI .i64) b74 r53) hr47 (fun b_ hb_ => by obtain rfl := List.mem_singleton.1 hb_; exact hf44)
             refine done ?_
             refine Zx (Yp hN_ (by assumption)) hN_ (l9 := (Za 20 262143)) (by kernel_rfl) (fun hN_ => ?_)
             refine Zv 18 (by decide) (by decide) (by kernel_rfl) (by kernel_rfl) rfl ?_
             refine Zf [.map (some b74), u6, .map (some b18)] _ Try.func158 rfl rfl rfl (Yr r53 a0.alg.degrees (Zy ([] : List (A8 × Int)) s12.1 1) h _ (hC.getM 0 rfl) (hC.getP 5 rfl) (hC.getM 2 rfl)) (fun ret50 w126 hR50 => ?_)
             obtain ⟨r34, b48, rfl, h, hr48, hf45, hB50⟩ := hR50
             refine ⟨_, rfl, ?_⟩
             replace hC := hC.push hB50 (Ze (kvA .i64) (vvI .i64) b48 r34) hr48 (fun b_ hb_ => by obtain rfl := List.mem_singleton.1 hb_; exact hf45)
             refine Zc (v := .map (some b48)) rfl (done (Zw ?_))
             replace hC := hC.sM [0, 6, 7, 8, 9] (M' := [Ze (kvA .i64) (vvI .i64) b48 r34, blk b12 101 (A8.enc .i64 s10.1), blk b11 101 (A8.enc .i64 q10.1), itI (kvA .i64) (vvI .i64) r10 b1 es10 ck10 (some ent10) l10, Ze (kvA .i64) (vvI .i64) b10 s10.2]) (by decide) rfl
             replace hC := hC.sP [1, 2, 3, 4, 5, 6, 7, 8] (Ps' := [Y0 b1 es10 ck10, Ty.item ((Xo (kvA .i64) (vvI .i64)).sl) a0.images [u0_2] fp0, blk b5 32 [u6, u7], Ty.item TForm.sl a0.alg.images [u7] fp0, Ty.item ((EI .i64).ty.sl) a0.alg.degrees [u6] fp0, Ty.item (Xk 32) a0 [.pointer (some ⟨b5, 0, none⟩), .int .i64 a0.drop, u0_2] fp0, blk b0 150 [.pointer (some ⟨b5, 0, none⟩), .int .i64 a0.drop, u0_2], Ze (kvA .i64) (vvI .i64) b1 a1]) rfl
             exact ⟨rfl, _, rfl, ⟨b48, r34, (sl ⟨rfl, rfl, rfl, rfl, rfl, rfl, rfl, rfl, rfl, rfl, rfl, rfl, rfl, trivial⟩), hC, h⟩⟩
           ·skip
            refine Y4 hC 1 s12.1 1 rfl Yx Try.underlying99 rfl rfl rfl (fun w127 hBB_ hC => ?_) (.inr rfl)
            refine done ?_
            refine Zx (Yw hN_ hnb_b26389 hBB_) hN_ (l9 := (Za 20 126963)) (by kernel_rfl) (fun hN_ => ?_)
            refine Zp (Ya _) 17 (.map (some b18)) rfl rfl (by kernel_rfl) (hM11 17 rfl) (fun w_ => .inl ⟨rfl, by exact Zg (v := .map (some b18)) rfl⟩) (l9 := (Za 20 258035)) (by kernel_rfl) (aO 2 rfl ?_)
            refine Y4 hC 0 (s10.1.set i10 (IntKind.i64.wrap ((q10.1.get i10) - 1))) 1 rfl Yx Try.underlying99 rfl rfl rfl (fun w128 hBB_ hC => ?_) (.inr rfl)
            refine done ?_
            refine Zx (Yw hN_ hnb_b26392 hBB_) hN_ (l9 := (Za 20 258039)) (by kernel_rfl) (fun hN_ => ?_)
            refine Zp (Ya _) 3 (.map (some b22)) rfl rfl (by kernel_rfl) (hM11 3 rfl) (fun w_ => .inl ⟨rfl, by exact Zg (v := .map (some b22)) rfl⟩) (l9 := (Za 20 258047)) (by kernel_rfl) (aO 12 rfl ?_)
            refine Zf [.map (some b22), u6, .map (some b14)] _ Try.func158 rfl rfl rfl (Yr (Zy ([] : List (A8 × Int)) (s10.1.set i10 (IntKind.i64.wrap ((q10.1.get i10) - 1))) 1) a0.alg.degrees (a0.images.getD i10 default) h _ (hC.getM 0 rfl) (hC.getP 5 rfl) (hC.getP 0 rfl)) (fun ret51 w129 hR51 => ?_)
            obtain ⟨r54, b75, rfl, h, hr49, hf46, hB51⟩ := hR51
            refine ⟨_, rfl, ?_⟩
            replace hC := hC.push hB51 (Ze (kvA .i64) (vvI .i64) b75 r54) hr49 (fun b_ hb_ => by obtain rfl := List.mem_singleton.1 hb_; exact hf46)
            refine done ?_
            refine Zx (Yp hN_ (by assumption)) hN_ (l9 := (Za 20 262143)) (by kernel_rfl) (fun hN_ => ?_)
            refine Zv 18 (by decide) (by decide) (by kernel_rfl) (by kernel_rfl) rfl ?_
            refine Zf [.map (some b75), u6, .map (some b18)] _ Try.func158 rfl rfl rfl (Yr r54 a0.alg.degrees (Zy ([] : List (A8 × Int)) s12.1 1) h _ (hC.getM 0 rfl) (hC.getP 5 rfl) (hC.getM 2 rfl)) (fun ret52 w130 hR52 => ?_)
            obtain ⟨r35, b49, rfl, h, hr50, hf47, hB52⟩ := hR52
            refine ⟨_, rfl, ?_⟩
            replace hC := hC.push hB52 (Ze (kvA .i64) (vvI .i64) b49 r35) hr50 (fun b_ hb_ => by obtain rfl := List.mem_singleton.1 hb_; exact hf47)
            refine Zc (v := .map (some b49)) rfl (done (Zw ?_))
            replace hC := hC.sM [0, 6, 7, 8, 9] (M' := [Ze (kvA .i64) (vvI .i64) b49 r35, blk b12 101 (A8.enc .i64 s10.1), blk b11 101 (A8.enc .i64 q10.1), itI (kvA .i64) (vvI .i64) r10 b1 es10 ck10 (some ent10) l10, Ze (kvA .i64) (vvI .i64) b10 s10.2]) (by decide) rfl
            replace hC := hC.sP [1, 2, 3, 4, 5, 6, 7, 8] (Ps' := [Y0 b1 es10 ck10, Ty.item ((Xo (kvA .i64) (vvI .i64)).sl) a0.images [u0_2] fp0, blk b5 32 [u6, u7], Ty.item TForm.sl a0.alg.images [u7] fp0, Ty.item ((EI .i64).ty.sl) a0.alg.degrees [u6] fp0, Ty.item (Xk 32) a0 [.pointer (some ⟨b5, 0, none⟩), .int .i64 a0.drop, u0_2] fp0, blk b0 150 [.pointer (some ⟨b5, 0, none⟩), .int .i64 a0.drop, u0_2], Ze (kvA .i64) (vvI .i64) b1 a1]) rfl
            exact ⟨rfl, _, rfl, ⟨b49, r35, (sl ⟨rfl, rfl, rfl, rfl, rfl, rfl, rfl, rfl, rfl, rfl, rfl, rfl, rfl, trivial⟩), hC, h⟩⟩
          ·skip
           refine Y4 hC 0 s12.1 1 rfl Yx Try.underlying99 rfl rfl rfl (fun w131 hBB_ hC => ?_) (.inr rfl)
           refine done ?_
           refine Zx (Yw hN_ hnb_b26389 hBB_) hN_ (l9 := (Za 20 126962)) (by kernel_rfl) (fun hN_ => ?_)
           refine Zp (Ya _) 17 (.map (some b18)) rfl rfl (by kernel_rfl) (hM11 17 rfl) (fun w_ => .inl ⟨rfl, by exact Zg (v := .map (some b18)) rfl⟩) (l9 := (Za 20 258034)) (by kernel_rfl) (aO 0 rfl (J0 hC (kvA .i64) (vvI .i64) fun b54 w132 hn_ hB_ hC => ?_))
           have hnb_b26455 := Nat.le_trans hN_ hn_
           refine done ?_
           refine Zx (Yp hN_ (by assumption)) hN_ (l9 := (Za 20 258035)) (by kernel_rfl) (fun hN_ => ?_)
           refine aO 2 rfl ?_
           refine Y4 hC 0 (s10.1.set i10 (IntKind.i64.wrap ((q10.1.get i10) - 1))) 1 rfl Yx Try.underlying99 rfl rfl rfl (fun w133 hBB_ hC => ?_) (.inr rfl)
           refine done ?_
           refine Zx (Yw hN_ hnb_b26455 hBB_) hN_ (l9 := (Za 20 258039)) (by kernel_rfl) (fun hN_ => ?_)
           refine Zp (Ya _) 3 (.map (some b54)) rfl rfl (by kernel_rfl) (hM11 3 rfl) (fun w_ => .inl ⟨rfl, by exact Zg (v := .map (some b54)) rfl⟩) (l9 := (Za 20 258047)) (by kernel_rfl) (aO 12 rfl ?_)
           refine Zf [.map (some b54), u6, .map (some b14)] _ Try.func158 rfl rfl rfl (Yr (Zy ([] : List (A8 × Int)) (s10.1.set i10 (IntKind.i64.wrap ((q10.1.get i10) - 1))) 1) a0.alg.degrees (a0.images.getD i10 default) h _ (hC.getM 0 rfl) (hC.getP 5 rfl) (hC.getP 0 rfl)) (fun ret53 w134 hR53 => ?_)
           obtain ⟨r55, b76, rfl, h, hr51, hf48, hB53⟩ := hR53
           refine ⟨_, rfl, ?_⟩
           replace hC := hC.push hB53 (Ze (kvA .i64) (vvI .i64) b76 r55) hr51 (fun b_ hb_ => by obtain rfl := List.mem_singleton.1 hb_; exact hf48)
           refine done ?_
           refine Zx (Yp hN_ (by assumption)) hN_ (l9 := (Za 20 262143)) (by kernel_rfl) (fun hN_ => ?_)
           refine Zv 18 (by decide) (by decide) (by kernel_rfl) (by kernel_rfl) rfl ?_
           refine Zf [.map (some b76), u6, .map (some b18)] _ Try.func158 rfl rfl rfl (Yr r55 a0.alg.degrees (Zy ([] : List (A8 × Int)) s12.1 1) h _ (hC.getM 0 rfl) (hC.getP 5 rfl) (hC.getM 2 rfl)) (fun ret54 w135 hR54 => ?_)
           obtain ⟨r36, b50, rfl, h, hr52, hf49, hB54⟩ := hR54
           refine ⟨_, rfl, ?_⟩
           replace hC := hC.push hB54 (Ze (kvA .i64) (vvI .i64) b50 r36) hr52 (fun b_ hb_ => by obtain rfl := List.mem_singleton.1 hb_; exact hf49)
           refine Zc (v := .map (some b50)) rfl (done (Zw ?_))
           replace hC := hC.sM [0, 6, 7, 8, 9] (M' := [Ze (kvA .i64) (vvI .i64) b50 r36, blk b12 101 (A8.enc .i64 s10.1), blk b11 101 (A8.enc .i64 q10.1), itI (kvA .i64) (vvI .i64) r10 b1 es10 ck10 (some ent10) l10, Ze (kvA .i64) (vvI .i64) b10 s10.2]) (by decide) rfl
           replace hC := hC.sP [1, 2, 3, 4, 5, 6, 7, 8] (Ps' := [Y0 b1 es10 ck10, Ty.item ((Xo (kvA .i64) (vvI .i64)).sl) a0.images [u0_2] fp0, blk b5 32 [u6, u7], Ty.item TForm.sl a0.alg.images [u7] fp0, Ty.item ((EI .i64).ty.sl) a0.alg.degrees [u6] fp0, Ty.item (Xk 32) a0 [.pointer (some ⟨b5, 0, none⟩), .int .i64 a0.drop, u0_2] fp0, blk b0 150 [.pointer (some ⟨b5, 0, none⟩), .int .i64 a0.drop, u0_2], Ze (kvA .i64) (vvI .i64) b1 a1]) rfl
           exact ⟨rfl, _, rfl, ⟨b50, r36, (sl ⟨rfl, rfl, rfl, rfl, rfl, rfl, rfl, rfl, rfl, rfl, rfl, rfl, rfl, trivial⟩), hC, h⟩⟩
       ·skip
        exact ⟨(sl ⟨rfl, rfl, rfl, rfl, rfl, rfl, rfl, rfl, rfl, rfl, rfl, rfl, rfl, rfl, rfl, rfl, trivial⟩), hC⟩
      refine Xc 2 3 rfl rfl (by kernel_rfl) ?_ ?_
      ·skip
       refine Za5 hC (A8.enc .i64 A8.zero) Jt rfl fun b81 w136 hn_ hB_ hC => ?_
       have hnb_b26477 := Nat.le_trans hN_ hn_
       refine done ?_
       refine Zx (Yp hN_ (by assumption)) hN_ (l9 := (Za 6 7)) (by kernel_rfl) (fun hN_ => ?_)
       refine aO 3 rfl (Za5 hC (A8.enc .i64 A8.zero) Jt rfl fun b82 w137 hn_ hB_ hC => ?_)
       have hnb_b26480 := Nat.le_trans hN_ hn_
       refine done ?_
       refine Zx (Yp hN_ (by assumption)) hN_ (l9 := (Za 6 15)) (by kernel_rfl) (fun hN_ => ?_)
       refine aO 4 rfl (Zdm (v := .agg (List.toArray (A8.enc .i64 q10.1))) hC 1 (A8.enc .i64 q10.1) (A8.enc .i64 q10.1) rfl ag101.size rfl rfl rfl rfl rfl (Nat.le_of_ble_eq_true rfl) rfl fun w138 hBB_ hC => done ?_)
       refine Zx (Yw hN_ hnb_b26477 hBB_) hN_ (l9 := (Za 6 31)) (by kernel_rfl) (fun hN_ => ?_)
       refine Zv 5 (by decide) (by decide) (by kernel_rfl) (by kernel_rfl) rfl (Zu (v := .agg (List.toArray (A8.enc .i64 s10.1))) hC 0 (A8.enc .i64 s10.1) (A8.enc .i64 s10.1) rfl ag101.size rfl rfl rfl rfl rfl (Nat.le_of_ble_eq_true rfl) rfl fun w139 hC => done (Zw ?_))
       exact ⟨rfl, _, rfl, ⟨b82, b81, (sl ⟨rfl, rfl, rfl, rfl, rfl, rfl, rfl, rfl, rfl, rfl, rfl, rfl, rfl, rfl, trivial⟩), hC, h⟩⟩
      ·skip
       refine Za5 hC (A8.enc .i64 A8.zero) Jt rfl fun b77 w140 hn_ hB_ hC => ?_
       have hnb_b26485 := Nat.le_trans hN_ hn_
       refine done ?_
       refine Zx (Yp hN_ (by assumption)) hN_ (l9 := (Za 6 11)) (by kernel_rfl) (fun hN_ => ?_)
       refine aO 2 rfl (Za5 hC (A8.enc .i64 A8.zero) Jt rfl fun b78 w141 hn_ hB_ hC => ?_)
       have hnb_b26488 := Nat.le_trans hN_ hn_
       refine done ?_
       refine Zx (Yp hN_ (by assumption)) hN_ (l9 := (Za 6 15)) (by kernel_rfl) (fun hN_ => ?_)
       refine aO 4 rfl (Zdm (v := .agg (List.toArray (A8.enc .i64 q10.1))) hC 0 (A8.enc .i64 q10.1) (A8.enc .i64 q10.1) rfl ag101.size rfl rfl rfl rfl rfl (Nat.le_of_ble_eq_true rfl) rfl fun w142 hBB_ hC => done ?_)
       refine Zx (Yw hN_ hnb_b26488 hBB_) hN_ (l9 := (Za 6 31)) (by kernel_rfl) (fun hN_ => ?_)
       refine Zv 5 (by decide) (by decide) (by kernel_rfl) (by kernel_rfl) rfl (Zu (v := .agg (List.toArray (A8.enc .i64 s10.1))) hC 1 (A8.enc .i64 s10.1) (A8.enc .i64 s10.1) rfl ag101.size rfl rfl rfl rfl rfl (Nat.le_of_ble_eq_true rfl) rfl fun w143 hC => done (Zw ?_))
       replace hC := hC.sM [1, 0, 2, 3, 4, 5] (M' := [blk b77 101 (A8.enc .i64 s10.1), blk b78 101 (A8.enc .i64 q10.1), blk b12 101 (A8.enc .i64 s10.1), blk b11 101 (A8.enc .i64 q10.1), itI (kvA .i64) (vvI .i64) r10 b1 es10 ck10 (some ent10) l10, Ze (kvA .i64) (vvI .i64) b10 s10.2]) (by decide) rfl
       exact ⟨rfl, _, rfl, ⟨b77, b78, (sl ⟨rfl, rfl, rfl, rfl, rfl, rfl, rfl, rfl, rfl, rfl, rfl, rfl, rfl, rfl, trivial⟩), hC, h⟩⟩
    ·replace h := Zi h (cf hb10)
     refine wp_skip (Zd (Zk (Zb (v := .int .i64 (i10 : Int)) rfl (Zb (v := .int .i64 (q10.1.get i10)) rfl ?_))))
     obtain ⟨⟨h28, h29⟩, h⟩ := h
     refine Y1 i10 Try.underlying101 sc3.size rfl rfl h28 h29 (by omega) (Zu (v := .int .i64 (q10.1.get i10)) hC 0 [.int .i64 (q10.1.get i10)] (A8.enc .i64 (s10.1.set i10 (q10.1.get i10))) rfl sc3.size rfl rfl rfl rfl rfl (show i10 < 8 by omega) (A8.enc_set _ _ _ (show i10 < 8 by omega)) fun w144 hC => done (Zt (Zd (Zk (Zq rfl rfl (Zb (v := .int .i64 (IntKind.i64.wrap ((i10 : Int) + 1))) rfl (done ?_)))))))
     exact hK10 (s10.1.set i10 (q10.1.get i10), s10.2) _ _ ⟨(sl ⟨rfl, rfl, rfl, rfl, rfl, rfl, rfl, rfl, (tr rfl (congrArg _ (Yi hi10 hN10))), trivial⟩), hC⟩ h
   ·clear hC h
    rintro s10 e_ w145 K10 ⟨hS_, hC⟩ h
    rw [ue hS_]
    refine sr (Zs rfl rfl (dn (wp_seq (Yj rfl (decide_eq_false (by omega)) ?_))))
    refine wp_exit (Zl (Zl (Yc ?_)))
    refine Zt ?_
    replace hC := hC.sM [2, 3] (M' := [itI (kvA .i64) (vvI .i64) r10 b1 es10 ck10 (some ent10) l10, Ze (kvA .i64) (vvI .i64) b10 s10.2]) (by decide) rfl
    exact hK11 q10 l10 s10.2 _ _ hp11 ⟨(some ent10), (sl ⟨rfl, rfl, rfl, rfl, trivial⟩), hC⟩ h
   ·skip
    exact ⟨(sl ⟨rfl, rfl, rfl, rfl, rfl, rfl, rfl, rfl, rfl, trivial⟩), hC⟩
 ·skip
  exact ⟨none, (sl ⟨rfl, rfl, rfl, rfl, trivial⟩), hC⟩
def Zgf (a0 : Int) (K : Int → Prop) : Prop :=
 (if Int.tmod a0 2 = 1 then K 1 else K 10006)
theorem Ztx (a0 : Int)  {K : Int → Prop} (h : Zgf a0 K) (w0 : World)  :
  Calls Try.prog 145 #[.int .i64 a0] w0 fun e w' => ∃ (r0 : Int), 
   e = .returned (.int .i64 r0) ∧ K r0 ∧ Bel w0 w' := by
 unfold Zgf at h
 refine Z6 (args := [.int .i64 a0]) Try.func145 rfl 6 Try.ntmps145 (Nat.le_of_ble_eq_true rfl) ?_
 have hC := Ctx.start (X := Nox) w0 [] (by simp)
 refine sr (Zc (v := .int .i64 0) rfl (dn (wp_seq (sr (Zb (v := .int .i64 a0) rfl (Jk rfl rfl (by decide) (Jl rfl rfl (dn ?_))))))))
 refine Zr rfl (fun hb1 => ?_) (fun hb1 => ?_)
 ·replace h := ift h (ct hb1)
  refine sr (Zc (v := .int .i64 1) rfl (dn ?_))
  refine wp_ret (Zj ?_)
  refine Zo (fn := Try.f145) rfl ?_ ⟨1, rfl, h, hC.below⟩ (.inl rfl)
  exact Zh rfl
 ·replace h := Zi h (cf hb1)
  refine wp_skip (Zd (sr (Zc (v := .int .i64 10006) rfl (dn (wp_ret ?_)))))
  refine Zo (fn := Try.f145) rfl ?_ ⟨10006, rfl, h, hC.below⟩ (.inl rfl)
  exact Zh rfl
def Zgg (a0 : Vc.Derive) (K : Int → List (List (A8 × Int)) → Prop) : Prop :=
 Yy (fun i10 (s10 : (List (List (A8 × Int)))) nx10 => Zds a0.alg (a0.images.getD i10 default) (fun r12 => ((0 ≤ (i10 : Int) ∧ (i10 : Int) < (a0.alg.images.length : Int)) ∧ Zc1 (a0.alg.images.getD i10 default) (fun r10 => Zge (⟨a0.alg, a0.drop, a0.images⟩ : Vc.Derive) r10 (fun r11 => Zgf a0.drop (fun r13 => Zab r12 r11 r13 (fun m10 => (Xp (s10.length + 1) 8 ∧ nx10 (s10 ++ [m10]))))))))) (fun (s10 : (List (List (A8 × Int)))) => K (IntKind.i64.wrap (a0.drop - 1)) s10) a0.images.length 0 []
theorem Zty (a0 : Vc.Derive) {b0 : Nat} {u0_0 : Value} {u0_1 : Value} {u0_2 : Value} {fp0 : List Nat} {K : Int → List (List (A8 × Int)) → Prop} (h : Zgg a0 K) (w0 : World) (q0 : (Xk 32).rep a0 [u0_0, u0_1, u0_2] fp0 w0) (qb0 : (blk b0 150 [u0_0, u0_1, u0_2]).holds w0) :
  Calls Try.prog 109 #[.pointer (some ⟨b0, 0, none⟩)] w0 fun e w' => ∃ (r0 : Int) (ri0 : List (List (A8 × Int))) (zb0 : Nat) (z0_0 : Value) (fz0 : List Nat), 
   e = .returned (.pointer (some ⟨zb0, 0, none⟩)) ∧ K r0 ri0 ∧ (blk zb0 150 [u0_0, .int .i64 r0, z0_0]).holds w' ∧ (Tr.item (Tr.sl 99 (Y5 (kvA .i64) (vvI .i64))) ri0 [z0_0] fz0).holds w' ∧ (∀ x, x ∈ [zb0] → x ∉ fz0) ∧ (∀ x, x ∈ [zb0] ++ fz0 → w0.heap.size ≤ x) ∧ Bel w0 w' := by
 unfold Zgg at h
 refine Z6 (args := [.pointer (some ⟨b0, 0, none⟩)]) Try.func109 rfl 66 Try.ntmps109 (Nat.le_of_ble_eq_true rfl) ?_
 have hC := Ctx.start (X := Nox) w0 [Ty.item (Xk 32) a0 [u0_0, u0_1, u0_2] fp0, blk b0 150 [u0_0, u0_1, u0_2]] (by simp only [List.mem_cons, List.not_mem_nil, or_false, forall_eq_or_imp, forall_eq]; exact ⟨q0, qb0⟩)
 have hp3 := (hC.getP 0 rfl)
 obtain ⟨b4, u5, u6, rfl, rfl, hbf7, hk8, ha9, hi11⟩ := Zmm hp3
 have hp10 := ha9
 replace hC := hC.derive 0 rfl (Ty.item ((EI .i64).ty.sl) a0.alg.degrees [u5] fp0) (fun _ => (Yt hp10).1) (fun _ hb_ => hb_)
 replace hC := hC.derive 1 rfl (Ty.item TForm.sl a0.alg.images [u6] fp0) (fun _ => (Yt hp10).2) (fun _ hb_ => hb_)
 replace hC := hC.derive 2 rfl (blk b4 32 [u5, u6]) (fun _ => hk8) (fun c_ hc_ => by obtain rfl := List.mem_singleton.1 hc_; exact hbf7)
 replace hC := hC.derive 3 rfl (Ty.item ((Xo (kvA .i64) (vvI .i64)).sl) a0.images [u0_2] fp0) (fun _ => hi11) (fun _ hb_ => hb_)
 refine sr (Zc (v := .pointer none) rfl (dn (wp_seq ?_)))
 refine Ym 9 Yg [0, 1, 3, 7, 0, 16, 48, 112, 240, 511, 1023, 2047] [3, 7] [0, 1, 2, 4, 5, 6, 8] (by kernel_rfl) (by kernel_rfl) (by kernel_rfl) (fun hM13 hM11 w10 hB_ => ?_)
 replace hC := hC.grow hB_
 refine aF 0 (.pointer (some ⟨b0, 0, none⟩)) rfl rfl (hM11 0 rfl) (rfl) (fun _ => by exact Zg (v := .pointer (some ⟨b0, 0, none⟩)) rfl) (Za 12 1) (aF 1 (.pointer (some ⟨b0, 0, none⟩)) rfl rfl (hM11 1 rfl) (rfl) (fun _ => by exact Jx rfl) (Za 12 3) (aF 2 (.pointer (some ⟨b0, 0, none⟩)) rfl rfl (hM11 2 rfl) (rfl) (fun _ => by exact Z7 0 Try.underlying150 rfl sc72.size rfl rfl) (Za 12 7) (aL 3 (.pointer (some ⟨b4, 0, none⟩)) rfl rfl (hM13 3 rfl) (rfl) (fun _ hB_ => by exact Zan (.pointer (some ⟨b4, 0, none⟩)) ((hC.grow hB_).getP 5 rfl) sc72 rfl rfl) (Za 12 15) (aF 4 (.pointer (some ⟨b0, 0, none⟩)) rfl rfl (hM11 4 rfl) (rfl) (fun _ => by exact Zg (v := .pointer (some ⟨b0, 0, none⟩)) rfl) (Za 12 31) (aF 5 (.pointer (some ⟨b0, 0, none⟩)) rfl rfl (hM11 5 rfl) (rfl) (fun _ => by exact Jx rfl) (Za 12 63) (aF 6 (.pointer (some ⟨b0, 1, none⟩)) rfl rfl (hM11 6 rfl) (rfl) (fun _ => by exact Z7 1 Try.underlying150 rfl sc2.size rfl rfl) (Za 12 127) (aL 7 (.int .i64 a0.drop) rfl rfl (hM13 7 rfl) (rfl) (fun _ hB_ => by exact Zan (.int .i64 a0.drop) ((hC.grow hB_).getP 5 rfl) sc2 rfl rfl) (Za 12 255) (aF 8 (.int .i64 (IntKind.i64.wrap (a0.drop - 1))) rfl rfl (hM11 8 rfl) (rfl) (fun _ => by exact Zb1 rfl rfl) (Za 12 511) (Zv 9 (by decide) (by decide) (by kernel_rfl) (by kernel_rfl) rfl (Jd [(0, .pointer (some ⟨b4, 0, none⟩)), (1, .int .i64 (IntKind.i64.wrap (a0.drop - 1)))] rfl (Zms b4 (IntKind.i64.wrap (a0.drop - 1))  _) (Ye (v := .agg #[.pointer (some ⟨b4, 0, none⟩), .int .i64 (IntKind.i64.wrap (a0.drop - 1)), .slice none 0 0]) hC [.pointer (some ⟨b4, 0, none⟩), .int .i64 (IntKind.i64.wrap (a0.drop - 1)), .slice none 0 0] rfl rfl fun b11 w11 hB_ hC => ?_)))))))))))
 refine Zc (v := .pointer (some ⟨b11, 0, none⟩)) rfl (done (Zw (Zd (wp_seq (sr (Zb (v := .pointer (some ⟨b0, 0, none⟩)) rfl (J2 rfl (Z1 2 Try.underlying150 rfl sc148.size rfl rfl (Zbl (u0_2) (hC.getP 5 rfl) sc148 rfl rfl ?_)))))))))
 obtain ⟨Ad11, c10, hv12⟩ := Z2 (hC.getP 0 rfl)
 refine Z0 Try.underlying148 (tr rfl hv12) (Zb (v := .int .i64 0) rfl (dn (wp_block ?_)))
 have hN10 : a0.images.length ≤ 9223372036854775807 := Xv (hC.getP 0 rfl)
 refine Y6 (S := (List (List (A8 × Int)))) _ _ (fun i10 s10 e_ w_ => ∃ (v10 : Value), ∃ (f10 : List Nat), Z4 e_ [(0, .pointer (some ⟨b0, 0, none⟩)), (3, .pointer (some ⟨b11, 0, none⟩)), (21, u0_2), (22, .int .i64 (a0.images.length : Int)), (23, .int .i64 (i10 : Int))] ∧ Ctx Nox w0 w_ [Tr.item (Tr.sl 99 (Y5 (kvA .i64) (vvI .i64))) s10 [v10] f10, blk b11 150 [.pointer (some ⟨b4, 0, none⟩), .int .i64 (IntKind.i64.wrap (a0.drop - 1)), v10]] [Ty.item ((Xo (kvA .i64) (vvI .i64)).sl) a0.images [u0_2] fp0, blk b4 32 [u5, u6], Ty.item TForm.sl a0.alg.images [u6] fp0, Ty.item ((EI .i64).ty.sl) a0.alg.degrees [u5] fp0, Ty.item (Xk 32) a0 [.pointer (some ⟨b4, 0, none⟩), .int .i64 a0.drop, u0_2] fp0, blk b0 150 [.pointer (some ⟨b4, 0, none⟩), .int .i64 a0.drop, u0_2]]) a0.images.length ?_ ?_ (s0 := []) ?_ h
 ·clear hC h
  rintro i10 s10 e_ w12 nx10 K10 hi10 ⟨v10, f10, hS_, hC⟩ h hK10
  rw [ue hS_]
  refine sr (Zs rfl rfl (dn (wp_seq (Yq rfl (decide_eq_true (by omega)) (wp_skip (Zd (wp_seq (wp_block (sr (Zb (v := .int .i64 (i10 : Int)) rfl ?_))))))))))
  obtain ⟨Ad12, c11, hv10⟩ := Z9 (hC.getP 0 rfl) i10 hi10
  refine Xe (len := a0.images.length) Try.underlying148 sc99.size (tr rfl hv10) rfl (Int.natCast_nonneg _) (Int.ofNat_lt.2 hi10) ?_
  obtain ⟨cs_, hl10, hc10, hr10⟩ := X9 (hC.getP 0 rfl) hv10 i10 hi10
  obtain ⟨u11, rfl⟩ := List.length_eq_one_iff.1 hl10
  clear hl10
  rw [X3 _ _ hi10] at hr10
  obtain ⟨b13, rfl, hbf10, hm10⟩ := Zjz hr10
  replace hC := hC.derive 0 rfl (Ze (kvA .i64) (vvI .i64) b13 (a0.images.getD i10 default)) (fun _ => hm10) (fun c_ hc_ => by obtain rfl := List.mem_singleton.1 hc_; exact hbf10)
  refine X5 (.map (some b13)) hc10 sc99 rfl (Zc (v := .int .i64 (i10 : Int)) rfl (Zc (v := .map (some b13)) rfl (dn (sr (Zb (v := .pointer (some ⟨b0, 0, none⟩)) rfl (J2 rfl (Z1 0 Try.underlying150 rfl sc72.size rfl rfl (Zbl (.pointer (some ⟨b4, 0, none⟩)) (hC.getP 6 rfl) sc72 rfl rfl (Zb (v := .map (some b13)) rfl ?_)))))))))
  refine Zf [.pointer (some ⟨b4, 0, none⟩), .map (some b13)] _ Try.func139 rfl rfl rfl (Zl5 a0.alg (a0.images.getD i10 default) h _ (Xr (hC.getP 4 rfl) (hC.getP 3 rfl)) (hC.getP 2 rfl) (hC.getP 0 rfl)) (fun ret10 w13 hR10 => ?_)
  obtain ⟨r12, b10, rfl, h, hr12, hf10, hB10⟩ := hR10
  refine ⟨_, rfl, ?_⟩
  replace hC := hC.push hB10 (Ze (kvA .i64) (vvI .i64) b10 r12) hr12 (fun b_ hb_ => by obtain rfl := List.mem_singleton.1 hb_; exact hf10)
  refine Zc (v := .map (some b10)) rfl (dn (wp_seq ?_))
  refine Ym 19 Yg [0, 0, 0, 4, 12, 28, 60, 124, 252, 0, 1020, 2044, 4092, 8190, 0, 16384, 49152, 114688, 262142, 524287] [5, 8, 10, 11, 17] [0, 1, 2, 3, 4, 6, 7, 9, 14, 15, 16] (by kernel_rfl) (by kernel_rfl) (by kernel_rfl) (fun hM12 hM10 w14 hB_ => ?_)
  replace hC := hC.grow hB_
  refine aF 0 (.map (some b10)) rfl rfl (hM10 0 rfl) (rfl) (fun _ => by exact Zg (v := .map (some b10)) rfl) (Za 20 1) (aF 1 (.pointer (some ⟨b0, 0, none⟩)) rfl rfl (hM10 1 rfl) (rfl) (fun _ => by exact Zg (v := .pointer (some ⟨b0, 0, none⟩)) rfl) (Za 20 3) (aF 2 (.pointer (some ⟨b0, 0, none⟩)) rfl rfl (hM10 2 rfl) (rfl) (fun _ => by exact Zg (v := .pointer (some ⟨b0, 0, none⟩)) rfl) (Za 20 7) (aF 3 (.pointer (some ⟨b0, 0, none⟩)) rfl rfl (hM10 3 rfl) (rfl) (fun _ => by exact Jx rfl) (Za 20 15) (aF 4 (.pointer (some ⟨b0, 0, none⟩)) rfl rfl (hM10 4 rfl) (rfl) (fun _ => by exact Z7 0 Try.underlying150 rfl sc72.size rfl rfl) (Za 20 31) (aL 5 (.pointer (some ⟨b4, 0, none⟩)) rfl rfl (hM12 5 rfl) (rfl) (fun _ hB_ => by exact Zan (.pointer (some ⟨b4, 0, none⟩)) ((hC.grow hB_).getP 6 rfl) sc72 rfl rfl) (Za 20 63) (aF 6 (.pointer (some ⟨b4, 0, none⟩)) rfl rfl (hM10 6 rfl) (rfl) (fun _ => by exact Jx rfl) (Za 20 127) (aF 7 (.pointer (some ⟨b4, 1, none⟩)) rfl rfl (hM10 7 rfl) (rfl) (fun _ => by exact Z7 1 Try.underlying32 rfl sc30.size rfl rfl) (Za 20 255) (aL 8 (u6) rfl rfl (hM12 8 rfl) (rfl) (fun _ hB_ => by exact Zan (u6) ((hC.grow hB_).getP 2 rfl) sc30 rfl rfl) (Za 20 511) (aF 9 (.int .i64 (i10 : Int)) rfl rfl (hM10 9 rfl) (rfl) (fun _ => by exact Zg (v := .int .i64 (i10 : Int)) rfl) (Za 20 1023) ?_)))))))))
  obtain ⟨⟨h10, h11⟩, h⟩ := h
  obtain ⟨Ad10, c12, hv11⟩ := Z9 (hC.getP 3 rfl) i10 (show i10 < a0.alg.images.length by omega)
  refine aL 10 (.pointer (some (Ad10.add (i10 * 1)))) rfl rfl (hM12 10 rfl) (rfl) (fun _ hB_ => by exact Yv (len := a0.alg.images.length) Try.underlying30 ag95.size (by exact tr rfl hv11) rfl h10 h11) (Za 20 2047) ?_
  obtain ⟨cs_, hl11, hc11, hr11⟩ := X9 (hC.getP 3 rfl) hv11 i10 (show i10 < a0.alg.images.length by omega)
  obtain ⟨u10, rfl⟩ := List.length_eq_one_iff.1 hl11
  clear hl11
  rw [X3 _ _ (show i10 < a0.alg.images.length by omega)] at hr11
  have hp11 := hr11
  replace hC := hC.derive 3 rfl (Ty.item ETerm.ty.sl ((a0.alg.images.getD i10 default).terms) [u10] fp0) (fun _ => (Xb hp11)) (fun _ hb_ => hb_)
  refine aL 11 (.agg #[u10]) rfl rfl (hM12 11 rfl) (rfl) (fun _ hB_ => by exact Xw [u10] (J9 hB_ hc11) ag95 rfl rfl) (Za 20 4095) (aF 14 (.pointer (some ⟨b0, 0, none⟩)) rfl rfl (hM10 14 rfl) (rfl) (fun _ => by exact Zg (v := .pointer (some ⟨b0, 0, none⟩)) rfl) (Za 20 20479) (aF 15 (.pointer (some ⟨b0, 0, none⟩)) rfl rfl (hM10 15 rfl) (rfl) (fun _ => by exact Jx rfl) (Za 20 53247) (aF 16 (.pointer (some ⟨b0, 1, none⟩)) rfl rfl (hM10 16 rfl) (rfl) (fun _ => by exact Z7 1 Try.underlying150 rfl sc2.size rfl rfl) (Za 20 118783) (aL 17 (.int .i64 a0.drop) rfl rfl (hM12 17 rfl) (rfl) (fun _ hB_ => by exact Zan (.int .i64 a0.drop) ((hC.grow hB_).getP 7 rfl) sc2 rfl rfl) (Za 20 249855) (aO 12 rfl ?_)))))
  refine Zf [.agg #[u10]] _ Try.func140 rfl rfl rfl (Zje (a0.alg.images.getD i10 default) h _ (Yl (hC.getP 0 rfl))) (fun ret11 w15 hR11 => ?_)
  obtain ⟨r10, b14, rfl, h, hr13, hf11, hB11⟩ := hR11
  refine ⟨_, rfl, ?_⟩
  replace hC := hC.push hB11 (Ze (kvA .i64) (vvI .i64) b14 r10) hr13 (fun b_ hb_ => by obtain rfl := List.mem_singleton.1 hb_; exact hf11)
  refine done (aK (by assumption) (Za 20 253951) (aO 13 rfl ?_))
  refine Zf [.pointer (some ⟨b0, 0, none⟩), .map (some b14)] _ Try.func144 rfl rfl rfl (Ztw (⟨a0.alg, a0.drop, a0.images⟩ : Vc.Derive) r10 h _ (Zmn (hC.getP 3 rfl) (Xr (hC.getP 5 rfl) (hC.getP 4 rfl)) (hC.getP 2 rfl)) (hC.getP 7 rfl) (hC.getM 0 rfl)) (fun ret12 w16 hR12 => ?_)
  obtain ⟨r11, b15, rfl, h, hr14, hf12, hB12⟩ := hR12
  refine ⟨_, rfl, ?_⟩
  replace hC := hC.push hB12 (Ze (kvA .i64) (vvI .i64) b15 r11) hr14 (fun b_ hb_ => by obtain rfl := List.mem_singleton.1 hb_; exact hf12)
  refine done (aK (by assumption) (Za 20 262143) (aO 18 rfl ?_))
  refine Zf [.int .i64 a0.drop] _ Try.func145 rfl rfl rfl (Ztx a0.drop h _) (fun ret13 w17 hR13 => ?_)
  obtain ⟨r13, rfl, h, hB13⟩ := hR13
  refine ⟨_, rfl, ?_⟩
  replace hC := hC.grow hB13
  refine done (aK (by assumption) (Za 20 524287) (Zv 19 (by decide) (by decide) (by kernel_rfl) (by kernel_rfl) rfl ?_))
  refine Zf [.map (some b10), .map (some b15), .int .i64 r13] _ Try.func143 rfl rfl rfl (Zhi r12 r11 r13 h _ (hC.getM 2 rfl) (fun c_ hc_ e_ => hC.mm 0 2 rfl rfl (by decide) c_ hc_ (List.mem_singleton.2 e_)) (hC.getM 0 rfl)) (fun ret14 w18 hR14 => ?_)
  obtain ⟨m10, rfl, h, hm11, hB14⟩ := hR14
  refine ⟨_, rfl, ?_⟩
  replace hC := hC.turnB 2 rfl hB14 rfl rfl hm11
  refine done (Zw (Zd (Zk (Zb (v := .pointer (some ⟨b11, 0, none⟩)) rfl (Zb (v := .pointer (some ⟨b11, 0, none⟩)) rfl (J2 rfl (Z1 2 Try.underlying150 rfl sc148.size rfl rfl (Z8 hC 4 (v10) rfl sc148 rfl rfl (Zb (v := .map (some b10)) rfl (Jg (sz := 1) hC [(0, .map (some b10))] [.map (some b10)] rfl (fun _ => Zj1 b10  _) rfl (by decide) fun b12 w19 hB_ hC => ?_))))))))))
  replace hC := hC.pushM0 (Yo (Y5 (kvA .i64) (vvI .i64)) [] [] []) (Zbf _ _) rfl
  replace hC := hC.sM [4, 0, 1, 2, 3, 5, 6] (M' := [Ze (kvA .i64) (vvI .i64) b10 m10, Yo (Y5 (kvA .i64) (vvI .i64)) [] [] [], own 99 1 (.slice (some ⟨b12, 0, none⟩) 1 1) 1 [.map (some b10)], Ze (kvA .i64) (vvI .i64) b15 r11, Ze (kvA .i64) (vvI .i64) b14 r10, Tr.item (Tr.sl 99 (Y5 (kvA .i64) (vvI .i64))) s10 [v10] f10, blk b11 150 [.pointer (some ⟨b4, 0, none⟩), .int .i64 (IntKind.i64.wrap (a0.drop - 1)), v10]]) (by decide) rfl
  replace hC := hC.gather (c := Yo (Y5 (kvA .i64) (vvI .i64)) [m10] [.map (some b10)] [[b10]]) (fun x_ hx_ => Zcw hx_) (fun h1_ h2_ hd_ => Zb7 (c := [.map (some b10)]) (Zjy h1_) h2_ hd_)
  replace hC := hC.sM [1, 0, 2, 3, 4, 5] (M' := [own 99 1 (.slice (some ⟨b12, 0, none⟩) 1 1) 1 [.map (some b10)], Yo (Y5 (kvA .i64) (vvI .i64)) [m10] [.map (some b10)] [[b10]], Ze (kvA .i64) (vvI .i64) b15 r11, Ze (kvA .i64) (vvI .i64) b14 r10, Tr.item (Tr.sl 99 (Y5 (kvA .i64) (vvI .i64))) s10 [v10] f10, blk b11 150 [.pointer (some ⟨b4, 0, none⟩), .int .i64 (IntKind.i64.wrap (a0.drop - 1)), v10]]) (by decide) rfl
  replace hC := hC.gather (c := Tr.item (Tr.sl 99 (Y5 (kvA .i64) (vvI .i64))) [m10] [.slice (some ⟨b12, 0, none⟩) 1 1] ((Option.toList (Value.ownBlock (.slice (some ⟨b12, 0, none⟩) 1 1))) ++ ([[b10]] : List (List Nat)).flatten)) (fun x_ hx_ => List.mem_append.1 hx_) (fun h1_ h2_ hd_ => Zap h1_ h2_ hd_)
  replace hC := hC.sM [3, 0, 1, 2, 4] (M' := [Tr.item (Tr.sl 99 (Y5 (kvA .i64) (vvI .i64))) s10 [v10] f10, Tr.item (Tr.sl 99 (Y5 (kvA .i64) (vvI .i64))) [m10] [.slice (some ⟨b12, 0, none⟩) 1 1] ((Option.toList (Value.ownBlock (.slice (some ⟨b12, 0, none⟩) 1 1))) ++ ([[b10]] : List (List Nat)).flatten), Ze (kvA .i64) (vvI .i64) b15 r11, Ze (kvA .i64) (vvI .i64) b14 r10, blk b11 150 [.pointer (some ⟨b4, 0, none⟩), .int .i64 (IntKind.i64.wrap (a0.drop - 1)), v10]]) (by decide) rfl
  obtain ⟨hm12, h⟩ := h
  refine Zcv hC Try.underlying148 Zj2 rfl (by decide) (by decide) rfl rfl hm12 fun v11 f11 w20 hC => J2 rfl (Z1 2 Try.underlying150 rfl sc148.size rfl rfl (Zu (v := v11) hC 3 [v11] [.pointer (some ⟨b4, 0, none⟩), .int .i64 (IntKind.i64.wrap (a0.drop - 1)), v11] rfl sc148.size rfl rfl (Zej (Tr.trep _ (hC.getM 0 rfl).1)) rfl (Y3 (Zbc (Tr.trep _ (hC.getM 0 rfl).1)) rfl) (Nat.le_of_ble_eq_true rfl) rfl fun w21 hC => done (Zt (Zd (Zk (Zq rfl rfl (Zb (v := .int .i64 (IntKind.i64.wrap ((i10 : Int) + 1))) rfl (done ?_))))))))
  replace hC := hC.sM [0, 3] (M' := [Tr.item (Tr.sl 99 (Y5 (kvA .i64) (vvI .i64))) (s10 ++ [m10]) [v11] f11, blk b11 150 [.pointer (some ⟨b4, 0, none⟩), .int .i64 (IntKind.i64.wrap (a0.drop - 1)), v11]]) (by decide) rfl
  replace hC := hC.sP [2, 3, 4, 5, 6, 7] (Ps' := [Ty.item ((Xo (kvA .i64) (vvI .i64)).sl) a0.images [u0_2] fp0, blk b4 32 [u5, u6], Ty.item TForm.sl a0.alg.images [u6] fp0, Ty.item ((EI .i64).ty.sl) a0.alg.degrees [u5] fp0, Ty.item (Xk 32) a0 [.pointer (some ⟨b4, 0, none⟩), .int .i64 a0.drop, u0_2] fp0, blk b0 150 [.pointer (some ⟨b4, 0, none⟩), .int .i64 a0.drop, u0_2]]) rfl
  exact hK10 (s10 ++ [m10]) _ _ ⟨v11, f11, (sl ⟨rfl, rfl, rfl, rfl, (tr rfl (congrArg _ (Yi hi10 hN10))), trivial⟩), hC⟩ h
 ·clear hC h
  rintro s10 e_ w22 K10 ⟨v10, f10, hS_, hC⟩ h
  rw [ue hS_]
  refine sr (Zs rfl rfl (dn (wp_seq (Yj rfl (decide_eq_false (by omega)) ?_))))
  refine wp_exit (Zl (Zl (Yc ?_)))
  refine Zd (sr (Zb (v := .pointer (some ⟨b11, 0, none⟩)) rfl (Zc (v := .pointer (some ⟨b11, 0, none⟩)) rfl (dn (wp_ret ?_)))))
  refine Zo (fn := Try.f109) rfl ?_ ⟨IntKind.i64.wrap (a0.drop - 1), s10, b11, v10, f10, rfl, h, (hC.getM 1 rfl), (hC.getM 0 rfl), (fun x_ hx_ hy_ => hC.mm 1 0 rfl rfl (by decide) x_ hx_ hy_), (fun x_ hx_ => (List.mem_append.1 hx_).elim (fun hx_ => (hC.mfp _ (List.mem_of_getElem? (i := 1) rfl) x_ hx_).elim id (fun q_ => q_.elim)) (fun hx_ => (hC.mfp _ (List.mem_of_getElem? (i := 0) rfl) x_ hx_).elim id (fun q_ => q_.elim))), hC.below⟩ (.inl rfl)
  exact Zh rfl
 ·skip
  replace hC := hC.pushM0 (Tr.item (Tr.sl 99 (Y5 (kvA .i64) (vvI .i64))) [] [.slice none 0 0] []) (Za4 _ _ _) rfl
  exact ⟨.slice none 0 0, [], (sl ⟨rfl, rfl, rfl, rfl, rfl, trivial⟩), hC⟩
def Zgh (a0 : Alg) (a1 : Int) (K : List (List Int) → Int → Prop) : Prop :=
 Zd2 a0 a1 (fun r9 r12 => Zd2 a0 (IntKind.i64.wrap (a1 - 1)) (fun r10 r13 => Zdx [r12, r13] (fun r15 => (if r15 ≠ 0 then K [] r15 else Yy (fun i11 (s10 : (List (List Int))) nx11 => Yy (fun i12 (s12 : (List (List (A8 × Int)))) nx10 => (if (i12 : Int) = (r9.getD i11 default).gen then (Xp (s12.length + 1) 8 ∧ nx10 (s12 ++ [Zy ([] : List (A8 × Int)) ((r9.getD i11 default).mono) 1])) else (Xp (s12.length + 1) 8 ∧ nx10 (s12 ++ [([] : List (A8 × Int))])))) (fun (s12 : (List (List (A8 × Int)))) => Zgg (⟨a0, a1, s12⟩ : Vc.Derive) (fun r14 r11 => Yy (fun i10 (s11 : (List Int)) nx12 => ((0 ≤ (r10.getD i10 default).gen ∧ (r10.getD i10 default).gen < (r11.length : Int)) ∧ (Xp (s11.length + 1) 8 ∧ nx12 (s11 ++ [(Xm (r11.getD (((r10.getD i10 default).gen).toNat) []) ((r10.getD i10 default).mono)).getD 0])))) (fun (s11 : (List Int)) => (Xp (s10.length + 1) 24 ∧ nx11 (s10 ++ [s11]))) r10.length 0 [])) a0.degrees.length 0 []) (fun (s10 : (List (List Int))) => K s10 0) r9.length 0 []))))
theorem Ztz (a0 : Alg) (a1 : Int) {b0 : Nat} {u0_0 : Value} {u0_1 : Value} {fp0 : List Nat} {K : List (List Int) → Int → Prop} (h : Zgh a0 a1 K) (w0 : World) (q0 : TAlg.rep a0 [u0_0, u0_1] fp0 w0) (qb0 : (blk b0 32 [u0_0, u0_1]).holds w0) :
  Calls Try.prog 49 #[.pointer (some ⟨b0, 0, none⟩), .int .i64 a1] w0 fun e w' => ∃ (r0 : List (List Int)) (z0_0 : Value) (fz0 : List Nat) (r1 : Int), 
   e = .returned (.tuple #[z0_0, .int .i64 r1]) ∧ K r0 r1 ∧ (Tr.item (Tr.sl 22 (Tr.sl 2 ((EI .i64).tr))) r0 [z0_0] fz0).holds w' ∧ (∀ b, b ∈ fz0 → w0.heap.size ≤ b) ∧ Bel w0 w' := by
 unfold Zgh at h
 refine Z6 (args := [.pointer (some ⟨b0, 0, none⟩), .int .i64 a1]) Try.func49 rfl 78 Try.ntmps49 (Nat.le_of_ble_eq_true rfl) ?_
 have hC := Ctx.start (X := Nox) w0 [Ty.item TAlg a0 [u0_0, u0_1] fp0, blk b0 32 [u0_0, u0_1]] (by simp only [List.mem_cons, List.not_mem_nil, or_false, forall_eq_or_imp, forall_eq]; exact ⟨q0, qb0⟩)
 have hp3 := (hC.getP 0 rfl)
 replace hC := hC.derive 0 rfl (Ty.item ((EI .i64).ty.sl) a0.degrees [u0_0] fp0) (fun _ => (Yt hp3).1) (fun _ hb_ => hb_)
 replace hC := hC.derive 1 rfl (Ty.item TForm.sl a0.images [u0_1] fp0) (fun _ => (Yt hp3).2) (fun _ hb_ => hb_)
 refine sr (Zc (v := .slice none 0 0) rfl (Zc (v := .int .i64 0) rfl (dn (sr (Zb (v := .pointer (some ⟨b0, 0, none⟩)) rfl (Zb (v := .int .i64 a1) rfl ?_))))))
 refine Zf [.pointer (some ⟨b0, 0, none⟩), .int .i64 a1] _ Try.func107 rfl rfl rfl (Zmw a0 a1 h _ (Xr (hC.getP 1 rfl) (hC.getP 0 rfl)) (hC.getP 3 rfl)) (fun ret6 w8 hR7 => ?_)
 obtain ⟨r9, u11, f14, r12, rfl, h, hr10, hf11, hB10⟩ := hR7
 refine ⟨_, rfl, ?_⟩
 replace hC := hC.push hB10 (Tr.item (Tr.sl 144 EElem.tr) r9 [u11] f14) hr10 hf11
 obtain ⟨ho10, hf12⟩ := Zat (hC.getM 0 rfl).1
 subst hf12
 replace hC := hC.recast (c := own 144 9 u11 r9.length (EElem.encs r9)) (fun _ h_ => h_) (fun _ => ho10)
 refine Zb (v := .tuple #[u11, .int .i64 r12]) rfl (Xd (v := u11) rfl rfl (Xd (v := .int .i64 r12) rfl rfl (Zc (v := u11) rfl (Zc (v := .int .i64 r12) rfl (dn (sr (Zb (v := .pointer (some ⟨b0, 0, none⟩)) rfl (Zb (v := .int .i64 a1) rfl (J5 rfl rfl ?_)))))))))
 refine Zf [.pointer (some ⟨b0, 0, none⟩), .int .i64 (IntKind.i64.wrap (a1 - 1))] _ Try.func107 rfl rfl rfl (Zmw a0 (IntKind.i64.wrap (a1 - 1)) h _ (Xr (hC.getP 1 rfl) (hC.getP 0 rfl)) (hC.getP 3 rfl)) (fun ret10 w10 hR10 => ?_)
 obtain ⟨r10, u10, f15, r13, rfl, h, hr11, hf13, hB11⟩ := hR10
 refine ⟨_, rfl, ?_⟩
 replace hC := hC.push hB11 (Tr.item (Tr.sl 144 EElem.tr) r10 [u10] f15) hr11 hf13
 obtain ⟨ho11, hf14⟩ := Zat (hC.getM 0 rfl).1
 subst hf14
 replace hC := hC.recast (c := own 144 9 u10 r10.length (EElem.encs r10)) (fun _ h_ => h_) (fun _ => ho11)
 refine Zb (v := .tuple #[u10, .int .i64 r13]) rfl (Xd (v := u10) rfl rfl (Xd (v := .int .i64 r13) rfl rfl (Zc (v := u10) rfl (Zc (v := .int .i64 r13) rfl (dn (wp_seq (sr (Zb (v := .int .i64 r12) rfl (Zb (v := .int .i64 r13) rfl (Jg (sz := 1) hC [(0, .int .i64 r12), (1, .int .i64 r13)] ((EI .i64).encs [r12, r13]) rfl (fun _ => Zmt r12 r13 _) rfl (by decide) fun b21 w11 hB_ hC => ?_))))))))))
 refine Zf [.slice (some ⟨b21, 0, none⟩) 2 2] _ Try.func45 rfl rfl rfl (Zl9 [r12, r13] h _ (Y7 (hC.getM 0 rfl))) (fun ret11 w12 hR11 => ?_)
 obtain ⟨r15, rfl, h, hB12⟩ := hR11
 refine ⟨_, rfl, ?_⟩
 replace hC := hC.grow hB12
 refine Zc (v := .int .i64 r15) rfl (dn (sr (Zb (v := .int .i64 r15) rfl (Xj rfl rfl (dn ?_)))))
 refine Zr rfl (fun hb10 => ?_) (fun hb10 => ?_)
 ·replace h := ift h (ct hb10)
  refine sr (Zb (v := .int .i64 r15) rfl (Zc (v := .slice none 0 0) rfl (Zc (v := .int .i64 r15) rfl (dn ?_))))
  refine wp_ret (Zj ?_)
  refine Jn (fn := Try.f49) rfl ?_ ?_ ⟨[], .slice none 0 0, [], r15, rfl, h, (Za4 _ _ _), (fun b hb => absurd hb (by simp)), hC.below⟩ (.inl rfl)
  ·exact Zh rfl
  ·exact Zh rfl
 ·replace h := Zi h (cf hb10)
  refine wp_skip (Zd (sr (Jg (sz := 1) hC [] [] rfl (fun _ => Zmp _) rfl (by decide) fun b14 w13 hB_ hC => ?_)))
  replace hC := hC.pushM0 (Yo (Tr.sl 2 ((EI .i64).tr)) ([] : List (List Int)) [] []) (Zbf _ _) rfl
  replace hC := hC.gather (c := Tr.item (Tr.sl 22 (Tr.sl 2 ((EI .i64).tr))) [] [.slice (some ⟨b14, 0, none⟩) 0 0] ((Option.toList (Value.ownBlock (.slice (some ⟨b14, 0, none⟩) 0 0))) ++ ([] : List (List Nat)).flatten)) (fun x_ hx_ => (List.mem_append.1 hx_).symm) (fun h1_ h2_ hd_ => Zap h2_ h1_ (fun b_ hb_ hb2_ => hd_ b_ hb2_ hb_))
  refine Zc (v := .slice (some ⟨b14, 0, none⟩) 0 0) rfl (dn (wp_seq (sr (Zb (v := u11) rfl ?_))))
  obtain ⟨Ad10, c10, hv13⟩ := J6 (hC.getM 3 rfl)
  refine Z0 Try.underlying140 (tr rfl hv13) (Zb (v := .int .i64 0) rfl (dn (wp_block ?_)))
  have hN11 : r9.length ≤ 9223372036854775807 := Zgt (hC.getM 3 rfl)
  refine Y6 (S := (List (List Int))) _ _ (fun i11 s10 e_ w_ => ∃ (v10 : Value), ∃ (f10 : List Nat), Z4 e_ [(0, .pointer (some ⟨b0, 0, none⟩)), (1, .int .i64 a1), (8, u10), (11, v10), (39, u11), (40, .int .i64 (r9.length : Int)), (41, .int .i64 (i11 : Int))] ∧ Ctx Nox w0 w_ [Tr.item (Tr.sl 22 (Tr.sl 2 ((EI .i64).tr))) s10 [v10] f10, own 144 9 u10 r10.length (EElem.encs r10), own 144 9 u11 r9.length (EElem.encs r9)] [Ty.item TForm.sl a0.images [u0_1] fp0, Ty.item ((EI .i64).ty.sl) a0.degrees [u0_0] fp0, Ty.item TAlg a0 [u0_0, u0_1] fp0, blk b0 32 [u0_0, u0_1]]) r9.length ?_ ?_ (s0 := []) ?_ h
  ·clear hC h
   rintro i11 s10 e_ w14 nx11 K10 hi10 ⟨v10, f10, hS_, hC⟩ h hK11
   rw [ue hS_]
   refine sr (Zs rfl rfl (dn (wp_seq (Yq rfl (decide_eq_true (by omega)) (wp_skip (Zd (wp_seq (wp_block (sr ?_)))))))))
   obtain ⟨Ad11, c11, hv10⟩ := Zav (hC.getM 2 rfl) (Nat.lt_of_le_of_lt (Nat.zero_le _) hi10)
   refine Zaw (i11 * 9) Try.underlying140 ag144.size (tr rfl hv10) rfl (Int.natCast_nonneg _) (Int.ofNat_lt.2 hi10) rfl (Zak (Elem.enc (r9.getD i11 default)) (Zeh (hC.getM 2 rfl) hv10 i11 hi10) ag144 rfl rfl (Yf hC (Elem.enc (⟨0, A8.zero⟩ : Elem)) Zmu rfl fun b15 w15 hB_ hC => Zu (v := .agg (List.toArray (Elem.enc (r9.getD i11 default)))) hC 0 (Elem.enc (r9.getD i11 default)) (Elem.enc (r9.getD i11 default)) rfl ag144.size rfl rfl rfl rfl rfl (Nat.le_of_ble_eq_true rfl) rfl fun w16 hC => dn (sr (Ys hC 0 (Elem.enc (r9.getD i11 default)) rfl ag144 rfl rfl rfl (Zb (v := .pointer (some ⟨b0, 0, none⟩)) rfl (Zb (v := .int .i64 a1) rfl (Zs2 [.agg (List.toArray (Elem.enc (r9.getD i11 default))), .pointer (some ⟨b0, 0, none⟩), .int .i64 a1] Try.func108 rfl rfl 42 Try.ntmps108 (Nat.le_of_ble_eq_true rfl) rfl (sr (Ye (v := .agg (List.toArray (Elem.enc (r9.getD i11 default)))) hC (Elem.enc (r9.getD i11 default)) rfl rfl fun b13 w17 hB_ hC => ?_)))))))))
   refine Zc (v := .pointer none) rfl (dn (sr (Zb (v := .pointer (some ⟨b0, 0, none⟩)) rfl (Zb (v := .int .i64 a1) rfl (Jd [(0, .pointer (some ⟨b0, 0, none⟩)), (1, .int .i64 a1)] rfl (Zms b0 a1  _) (Ye (v := .agg #[.pointer (some ⟨b0, 0, none⟩), .int .i64 a1, .slice none 0 0]) hC [.pointer (some ⟨b0, 0, none⟩), .int .i64 a1, .slice none 0 0] rfl rfl fun b11 w18 hB_ hC => Zc (v := .pointer (some ⟨b11, 0, none⟩)) rfl (dn (wp_seq (sr (Zb (v := .pointer (some ⟨b0, 0, none⟩)) rfl ?_))))))))))
   refine J2 rfl (Z1 0 Try.underlying32 rfl sc22.size rfl rfl (Zbl (u0_0) (hC.getP 3 rfl) sc22 rfl rfl ?_))
   obtain ⟨Ad12, c12, hv14⟩ := Z2 (hC.getP 1 rfl)
   refine Z0 Try.underlying22 (tr rfl hv14) (Zb (v := .int .i64 0) rfl (dn (wp_block ?_)))
   have hN10 : a0.degrees.length ≤ 9223372036854775807 := Xv (hC.getP 1 rfl)
   refine Y6 (S := (List (List (A8 × Int)))) _ _ (fun i12 s12 e_ w_ => ∃ (v13 : Value), ∃ (f11 : List Nat), Z4 e_ [(3, .pointer (some ⟨b13, 0, none⟩)), (7, .pointer (some ⟨b11, 0, none⟩)), (18, .int .i64 (a0.degrees.length : Int)), (19, .int .i64 (i12 : Int))] ∧ Ctx Nox w0 w_ [Tr.item (Tr.sl 99 (Y5 (kvA .i64) (vvI .i64))) s12 [v13] f11, blk b11 150 [.pointer (some ⟨b0, 0, none⟩), .int .i64 a1, v13], blk b13 144 (Elem.enc (r9.getD i11 default)), blk b15 144 (Elem.enc (r9.getD i11 default)), Tr.item (Tr.sl 22 (Tr.sl 2 ((EI .i64).tr))) s10 [v10] f10, own 144 9 u10 r10.length (EElem.encs r10), own 144 9 u11 r9.length (EElem.encs r9)] [Ty.item TForm.sl a0.images [u0_1] fp0, Ty.item ((EI .i64).ty.sl) a0.degrees [u0_0] fp0, Ty.item TAlg a0 [u0_0, u0_1] fp0, blk b0 32 [u0_0, u0_1]]) a0.degrees.length ?_ ?_ (s0 := []) ?_ h
   ·clear hC h
    rintro i12 s12 e_ w19 nx10 K11 hi12 ⟨v13, f11, hS_, hC⟩ h hK10
    rw [ue hS_]
    refine sr (Zs rfl rfl (dn (wp_seq (Yq rfl (decide_eq_true (by omega)) (wp_skip (Zd (wp_seq (wp_block (sr (Zb (v := .int .i64 (i12 : Int)) rfl (Zc (v := .int .i64 (i12 : Int)) rfl ?_)))))))))))
    refine dn (sr (Zen hC (kvA .i64) (vvI .i64) fun b10 w20 hB_ hC => Zc (v := .map (some b10)) rfl (dn (wp_seq (sr (Zb (v := .int .i64 (i12 : Int)) rfl (Z1 0 Try.underlying144 rfl sc3.size rfl rfl (Z8 hC 3 (.int .i64 ((r9.getD i11 default).gen)) rfl sc3 rfl rfl (Jl rfl rfl (dn ?_))))))))))
    refine Zr rfl (fun hb11 => ?_) (fun hb11 => ?_)
    ·replace h := ift h (ct hb11)
     refine Zk (Zb (v := .map (some b10)) rfl (Z1 1 Try.underlying144 rfl ag101.size rfl rfl (Ys hC 3 (A8.enc .i64 ((r9.getD i11 default).mono)) rfl ag101 rfl rfl rfl ?_)))
     refine Ziq hC 0 ((r9.getD i11 default).mono) 1 rfl Yx Try.underlying99 rfl rfl rfl (fun w21 hC => ?_) (.inl rfl)
     refine dn (Zk (Zb (v := .pointer (some ⟨b11, 0, none⟩)) rfl (Zb (v := .pointer (some ⟨b11, 0, none⟩)) rfl (J2 rfl (Z1 2 Try.underlying150 rfl sc148.size rfl rfl (Z8 hC 2 (v13) rfl sc148 rfl rfl (Zb (v := .map (some b10)) rfl (Jg (sz := 1) hC [(0, .map (some b10))] [.map (some b10)] rfl (fun _ => Zj1 b10  _) rfl (by decide) fun b16 w22 hB_ hC => ?_))))))))
     replace hC := hC.pushM0 (Yo (Y5 (kvA .i64) (vvI .i64)) [] [] []) (Zbf _ _) rfl
     replace hC := hC.sM [2, 0, 1, 3, 4, 5, 6, 7, 8, 9] (M' := [Ze (kvA .i64) (vvI .i64) b10 (Zy ([] : List (A8 × Int)) ((r9.getD i11 default).mono) 1), Yo (Y5 (kvA .i64) (vvI .i64)) [] [] [], own 99 1 (.slice (some ⟨b16, 0, none⟩) 1 1) 1 [.map (some b10)], Tr.item (Tr.sl 99 (Y5 (kvA .i64) (vvI .i64))) s12 [v13] f11, blk b11 150 [.pointer (some ⟨b0, 0, none⟩), .int .i64 a1, v13], blk b13 144 (Elem.enc (r9.getD i11 default)), blk b15 144 (Elem.enc (r9.getD i11 default)), Tr.item (Tr.sl 22 (Tr.sl 2 ((EI .i64).tr))) s10 [v10] f10, own 144 9 u10 r10.length (EElem.encs r10), own 144 9 u11 r9.length (EElem.encs r9)]) (by decide) rfl
     replace hC := hC.gather (c := Yo (Y5 (kvA .i64) (vvI .i64)) [Zy ([] : List (A8 × Int)) ((r9.getD i11 default).mono) 1] [.map (some b10)] [[b10]]) (fun x_ hx_ => Zcw hx_) (fun h1_ h2_ hd_ => Zb7 (c := [.map (some b10)]) (Zjy h1_) h2_ hd_)
     replace hC := hC.sM [1, 0, 2, 3, 4, 5, 6, 7, 8] (M' := [own 99 1 (.slice (some ⟨b16, 0, none⟩) 1 1) 1 [.map (some b10)], Yo (Y5 (kvA .i64) (vvI .i64)) [Zy ([] : List (A8 × Int)) ((r9.getD i11 default).mono) 1] [.map (some b10)] [[b10]], Tr.item (Tr.sl 99 (Y5 (kvA .i64) (vvI .i64))) s12 [v13] f11, blk b11 150 [.pointer (some ⟨b0, 0, none⟩), .int .i64 a1, v13], blk b13 144 (Elem.enc (r9.getD i11 default)), blk b15 144 (Elem.enc (r9.getD i11 default)), Tr.item (Tr.sl 22 (Tr.sl 2 ((EI .i64).tr))) s10 [v10] f10, own 144 9 u10 r10.length (EElem.encs r10), own 144 9 u11 r9.length (EElem.encs r9)]) (by decide) rfl
     replace hC := hC.gather (c := Tr.item (Tr.sl 99 (Y5 (kvA .i64) (vvI .i64))) [Zy ([] : List (A8 × Int)) ((r9.getD i11 default).mono) 1] [.slice (some ⟨b16, 0, none⟩) 1 1] ((Option.toList (Value.ownBlock (.slice (some ⟨b16, 0, none⟩) 1 1))) ++ ([[b10]] : List (List Nat)).flatten)) (fun x_ hx_ => List.mem_append.1 hx_) (fun h1_ h2_ hd_ => Zap h1_ h2_ hd_)
     replace hC := hC.sM [1, 0, 2, 3, 4, 5, 6, 7] (M' := [Tr.item (Tr.sl 99 (Y5 (kvA .i64) (vvI .i64))) s12 [v13] f11, Tr.item (Tr.sl 99 (Y5 (kvA .i64) (vvI .i64))) [Zy ([] : List (A8 × Int)) ((r9.getD i11 default).mono) 1] [.slice (some ⟨b16, 0, none⟩) 1 1] ((Option.toList (Value.ownBlock (.slice (some ⟨b16, 0, none⟩) 1 1))) ++ ([[b10]] : List (List Nat)).flatten), blk b11 150 [.pointer (some ⟨b0, 0, none⟩), .int .i64 a1, v13], blk b13 144 (Elem.enc (r9.getD i11 default)), blk b15 144 (Elem.enc (r9.getD i11 default)), Tr.item (Tr.sl 22 (Tr.sl 2 ((EI .i64).tr))) s10 [v10] f10, own 144 9 u10 r10.length (EElem.encs r10), own 144 9 u11 r9.length (EElem.encs r9)]) (by decide) rfl
     obtain ⟨hm10, h⟩ := h
     refine Zcv hC Try.underlying148 Zj2 rfl (by decide) (by decide) rfl rfl hm10 fun v14 f16 w23 hC => J2 rfl (Z1 2 Try.underlying150 rfl sc148.size rfl rfl (Zu (v := v14) hC 1 [v14] [.pointer (some ⟨b0, 0, none⟩), .int .i64 a1, v14] rfl sc148.size rfl rfl (Zej (Tr.trep _ (hC.getM 0 rfl).1)) rfl (Y3 (Zbc (Tr.trep _ (hC.getM 0 rfl).1)) rfl) (Nat.le_of_ble_eq_true rfl) rfl fun w24 hC => done (Zt (Zd (Zk (Zq rfl rfl (Zb (v := .int .i64 (IntKind.i64.wrap ((i12 : Int) + 1))) rfl (done ?_))))))))
     exact hK10 (s12 ++ [Zy ([] : List (A8 × Int)) ((r9.getD i11 default).mono) 1]) _ _ ⟨v14, f16, (sl ⟨rfl, rfl, rfl, (tr rfl (congrArg _ (Yi hi12 hN10))), trivial⟩), hC⟩ h
    ·replace h := Zi h (cf hb11)
     refine wp_skip (Zd (Zk (Zb (v := .pointer (some ⟨b11, 0, none⟩)) rfl (Zb (v := .pointer (some ⟨b11, 0, none⟩)) rfl (J2 rfl (Z1 2 Try.underlying150 rfl sc148.size rfl rfl (Z8 hC 2 (v13) rfl sc148 rfl rfl (Zb (v := .map (some b10)) rfl (Jg (sz := 1) hC [(0, .map (some b10))] [.map (some b10)] rfl (fun _ => Zj1 b10  _) rfl (by decide) fun b17 w25 hB_ hC => ?_)))))))))
     replace hC := hC.pushM0 (Yo (Y5 (kvA .i64) (vvI .i64)) [] [] []) (Zbf _ _) rfl
     replace hC := hC.sM [2, 0, 1, 3, 4, 5, 6, 7, 8, 9] (M' := [Ze (kvA .i64) (vvI .i64) b10 ([] : List (A8 × Int)), Yo (Y5 (kvA .i64) (vvI .i64)) [] [] [], own 99 1 (.slice (some ⟨b17, 0, none⟩) 1 1) 1 [.map (some b10)], Tr.item (Tr.sl 99 (Y5 (kvA .i64) (vvI .i64))) s12 [v13] f11, blk b11 150 [.pointer (some ⟨b0, 0, none⟩), .int .i64 a1, v13], blk b13 144 (Elem.enc (r9.getD i11 default)), blk b15 144 (Elem.enc (r9.getD i11 default)), Tr.item (Tr.sl 22 (Tr.sl 2 ((EI .i64).tr))) s10 [v10] f10, own 144 9 u10 r10.length (EElem.encs r10), own 144 9 u11 r9.length (EElem.encs r9)]) (by decide) rfl
     replace hC := hC.gather (c := Yo (Y5 (kvA .i64) (vvI .i64)) [([] : List (A8 × Int))] [.map (some b10)] [[b10]]) (fun x_ hx_ => Zcw hx_) (fun h1_ h2_ hd_ => Zb7 (c := [.map (some b10)]) (Zjy h1_) h2_ hd_)
     replace hC := hC.sM [1, 0, 2, 3, 4, 5, 6, 7, 8] (M' := [own 99 1 (.slice (some ⟨b17, 0, none⟩) 1 1) 1 [.map (some b10)], Yo (Y5 (kvA .i64) (vvI .i64)) [([] : List (A8 × Int))] [.map (some b10)] [[b10]], Tr.item (Tr.sl 99 (Y5 (kvA .i64) (vvI .i64))) s12 [v13] f11, blk b11 150 [.pointer (some ⟨b0, 0, none⟩), .int .i64 a1, v13], blk b13 144 (Elem.enc (r9.getD i11 default)), blk b15 144 (Elem.enc (r9.getD i11 default)), Tr.item (Tr.sl 22 (Tr.sl 2 ((EI .i64).tr))) s10 [v10] f10, own 144 9 u10 r10.length (EElem.encs r10), own 144 9 u11 r9.length (EElem.encs r9)]) (by decide) rfl
     replace hC := hC.gather (c := Tr.item (Tr.sl 99 (Y5 (kvA .i64) (vvI .i64))) [([] : List (A8 × Int))] [.slice (some ⟨b17, 0, none⟩) 1 1] ((Option.toList (Value.ownBlock (.slice (some ⟨b17, 0, none⟩) 1 1))) ++ ([[b10]] : List (List Nat)).flatten)) (fun x_ hx_ => List.mem_append.1 hx_) (fun h1_ h2_ hd_ => Zap h1_ h2_ hd_)
     replace hC := hC.sM [1, 0, 2, 3, 4, 5, 6, 7] (M' := [Tr.item (Tr.sl 99 (Y5 (kvA .i64) (vvI .i64))) s12 [v13] f11, Tr.item (Tr.sl 99 (Y5 (kvA .i64) (vvI .i64))) [([] : List (A8 × Int))] [.slice (some ⟨b17, 0, none⟩) 1 1] ((Option.toList (Value.ownBlock (.slice (some ⟨b17, 0, none⟩) 1 1))) ++ ([[b10]] : List (List Nat)).flatten), blk b11 150 [.pointer (some ⟨b0, 0, none⟩), .int .i64 a1, v13], blk b13 144 (Elem.enc (r9.getD i11 default)), blk b15 144 (Elem.enc (r9.getD i11 default)), Tr.item (Tr.sl 22 (Tr.sl 2 ((EI .i64).tr))) s10 [v10] f10, own 144 9 u10 r10.length (EElem.encs r10), own 144 9 u11 r9.length (EElem.encs r9)]) (by decide) rfl
     obtain ⟨hm11, h⟩ := h
     refine Zcv hC Try.underlying148 Zj2 rfl (by decide) (by decide) rfl rfl hm11 fun v15 f17 w26 hC => J2 rfl (Z1 2 Try.underlying150 rfl sc148.size rfl rfl (Zu (v := v15) hC 1 [v15] [.pointer (some ⟨b0, 0, none⟩), .int .i64 a1, v15] rfl sc148.size rfl rfl (Zej (Tr.trep _ (hC.getM 0 rfl).1)) rfl (Y3 (Zbc (Tr.trep _ (hC.getM 0 rfl).1)) rfl) (Nat.le_of_ble_eq_true rfl) rfl fun w27 hC => done (Zt (Zd (Zk (Zq rfl rfl (Zb (v := .int .i64 (IntKind.i64.wrap ((i12 : Int) + 1))) rfl (done ?_))))))))
     exact hK10 (s12 ++ [([] : List (A8 × Int))]) _ _ ⟨v15, f17, (sl ⟨rfl, rfl, rfl, (tr rfl (congrArg _ (Yi hi12 hN10))), trivial⟩), hC⟩ h
   ·clear hC h
    rintro s12 e_ w28 K11 ⟨v13, f11, hS_, hC⟩ h
    rw [ue hS_]
    refine sr (Zs rfl rfl (dn (wp_seq (Yj rfl (decide_eq_false (by omega)) ?_))))
    refine wp_exit (Zl (Zl (Yc ?_)))
    refine Zd (sr (Zb (v := .pointer (some ⟨b11, 0, none⟩)) rfl (Zc (v := .pointer (some ⟨b11, 0, none⟩)) rfl (dn (wp_ret ?_)))))
    refine Zo (fn := Try.f108) (v := .pointer (some ⟨b11, 0, none⟩)) rfl (Zh rfl) ⟨_, rfl, ?_⟩ (.inl rfl)
    refine Zf [.pointer (some ⟨b11, 0, none⟩)] _ Try.func109 rfl rfl rfl (Zty (⟨a0, a1, s12⟩ : Vc.Derive) h _ (Zmn (hC.getP 3 rfl) (Xr (hC.getP 1 rfl) (hC.getP 0 rfl)) (Tr.trep _ (hC.getM 0 rfl).1)) (hC.getM 1 rfl)) (fun ret12 w29 hR12 => ?_)
    obtain ⟨r14, r11, b12, v11, f12, rfl, h, hr12, hr13, hr14, hr15, hB13⟩ := hR12
    refine ⟨_, rfl, ?_⟩
    replace hC := hC.pushD hB13 (blk b12 150 [.pointer (some ⟨b0, 0, none⟩), .int .i64 r14, v11]) (Tr.item (Tr.sl 99 (Y5 (kvA .i64) (vvI .i64))) r11 [v11] f12) hr12 hr13 hr14 hr15
    refine Jg (sz := 1) hC [] ((EI .i64).encs []) rfl (fun _ => Zmo  _) rfl (by decide) fun b20 w30 hB_ hC => Zc (v := .pointer (some ⟨b12, 0, none⟩)) rfl (Zc (v := .slice (some ⟨b20, 0, none⟩) 0 0) rfl (dn (wp_seq (sr (Zb (v := u10) rfl ?_)))))
    obtain ⟨Ad13, c13, hv15⟩ := J6 (hC.getM 8 rfl)
    refine Z0 Try.underlying140 (tr rfl hv15) (Zb (v := .int .i64 0) rfl (dn (wp_block ?_)))
    have hN12 : r10.length ≤ 9223372036854775807 := Zgt (hC.getM 8 rfl)
    refine Y6 (S := (List Int)) _ _ (fun i10 s11 e_ w_ => ∃ (v12 : Value), Z4 e_ [(0, .pointer (some ⟨b0, 0, none⟩)), (1, .int .i64 a1), (8, u10), (11, v10), (14, .pointer (some ⟨b12, 0, none⟩)), (15, v12), (39, u11), (40, .int .i64 (r9.length : Int)), (41, .int .i64 (i11 : Int)), (51, u10), (52, .int .i64 (r10.length : Int)), (53, .int .i64 (i10 : Int))] ∧ Ctx Nox w0 w_ [own 2 1 v12 s11.length ((EI .i64).encs s11), blk b12 150 [.pointer (some ⟨b0, 0, none⟩), .int .i64 r14, v11], Tr.item (Tr.sl 99 (Y5 (kvA .i64) (vvI .i64))) r11 [v11] f12, Tr.item (Tr.sl 22 (Tr.sl 2 ((EI .i64).tr))) s10 [v10] f10, own 144 9 u10 r10.length (EElem.encs r10), own 144 9 u11 r9.length (EElem.encs r9)] [Ty.item TForm.sl a0.images [u0_1] fp0, Ty.item ((EI .i64).ty.sl) a0.degrees [u0_0] fp0, Ty.item TAlg a0 [u0_0, u0_1] fp0, blk b0 32 [u0_0, u0_1]]) r10.length ?_ ?_ (s0 := []) ?_ h
    ·clear hC h
     rintro i10 s11 e_ w31 nx12 K12 hi11 ⟨v12, hS_, hC⟩ h hK12
     rw [ue hS_]
     refine sr (Zs rfl rfl (dn (wp_seq (Yq rfl (decide_eq_true (by omega)) (wp_skip (Zd (wp_seq (wp_block (sr ?_)))))))))
     obtain ⟨Ad14, c14, hv11⟩ := Zav (hC.getM 4 rfl) (Nat.lt_of_le_of_lt (Nat.zero_le _) hi11)
     refine Zaw (i10 * 9) Try.underlying140 ag144.size (tr rfl hv11) rfl (Int.natCast_nonneg _) (Int.ofNat_lt.2 hi11) rfl (Zak (Elem.enc (r10.getD i10 default)) (Zeh (hC.getM 4 rfl) hv11 i10 hi11) ag144 rfl rfl (Yf hC (Elem.enc (⟨0, A8.zero⟩ : Elem)) Zmu rfl fun b19 w32 hB_ hC => Zu (v := .agg (List.toArray (Elem.enc (r10.getD i10 default)))) hC 0 (Elem.enc (r10.getD i10 default)) (Elem.enc (r10.getD i10 default)) rfl ag144.size rfl rfl rfl rfl rfl (Nat.le_of_ble_eq_true rfl) rfl fun w33 hC => dn ?_))
     refine Ym 13 Yg [0, 0, 2, 6, 14, 0, 32, 126, 254, 0, 512, 2046, 4094, 8191, 16383] [4, 6, 7, 8, 10, 11] [0, 1, 2, 3, 5, 9] (by kernel_rfl) (by kernel_rfl) (by kernel_rfl) (fun hM10 hM11 w34 hB_ => ?_)
     replace hC := hC.grow hB_
     refine aF 0 (v12) rfl rfl (hM11 0 rfl) (rfl) (fun _ => by exact Zg (v := v12) rfl) (Za 15 1) (aF 1 (.pointer (some ⟨b12, 0, none⟩)) rfl rfl (hM11 1 rfl) (rfl) (fun _ => by exact Zg (v := .pointer (some ⟨b12, 0, none⟩)) rfl) (Za 15 3) (aF 2 (.pointer (some ⟨b12, 0, none⟩)) rfl rfl (hM11 2 rfl) (rfl) (fun _ => by exact Jx rfl) (Za 15 7) (aF 3 (.pointer (some ⟨b12, 2, none⟩)) rfl rfl (hM11 3 rfl) (rfl) (fun _ => by exact Z7 2 Try.underlying150 rfl sc148.size rfl rfl) (Za 15 15) (aL 4 (v11) rfl rfl (hM10 4 rfl) (rfl) (fun _ hB_ => by exact Z5 (hC.grow hB_) 2 (v11) rfl sc148 rfl rfl) (Za 15 31) (aF 5 (.pointer (some ⟨b19, 0, none⟩)) rfl rfl (hM11 5 rfl) (rfl) (fun _ => by exact Z7 0 Try.underlying144 rfl sc3.size rfl rfl) (Za 15 63) (aL 6 (.int .i64 ((r10.getD i10 default).gen)) rfl rfl (hM10 6 rfl) (rfl) (fun _ hB_ => by exact Z5 (hC.grow hB_) 0 (.int .i64 ((r10.getD i10 default).gen)) rfl sc3 rfl rfl) (Za 15 127) ?_))))))
     replace hC := hC.sM [3, 0, 1, 2, 4, 5, 6] (M' := [Tr.item (Tr.sl 99 (Y5 (kvA .i64) (vvI .i64))) r11 [v11] f12, blk b19 144 (Elem.enc (r10.getD i10 default)), own 2 1 v12 s11.length ((EI .i64).encs s11), blk b12 150 [.pointer (some ⟨b0, 0, none⟩), .int .i64 r14, v11], Tr.item (Tr.sl 22 (Tr.sl 2 ((EI .i64).tr))) s10 [v10] f10, own 144 9 u10 r10.length (EElem.encs r10), own 144 9 u11 r9.length (EElem.encs r9)]) (by decide) rfl
     obtain ⟨bs1620, ho12, hf10⟩ := Zsu (hC.getM 0 rfl)
     replace hC := hC.recast (c := Zc5 99 (kvA .i64) (vvI .i64) v11 bs1620 r11) (fun x_ hx_ => by have e_ := hf10; exact e_ ▸ hx_) (fun _ => ho12)
     obtain ⟨⟨h10, h11⟩, h⟩ := h
     obtain ⟨g10, cap10, hv12⟩ := Zav (hC.getM 0 rfl).1 (Nat.lt_of_le_of_lt (Nat.zero_le _) (show ((r10.getD i10 default).gen).toNat < r11.length by omega))
     refine aL 7 (.pointer (some ⟨g10, ((r10.getD i10 default).gen).toNat * 1, none⟩)) rfl rfl (hM10 7 rfl) (rfl) (fun _ hB_ => by exact Zio (((r10.getD i10 default).gen).toNat * 1) Try.underlying148 sc99.size (by exact tr rfl hv12) rfl h10 h11 rfl) (Za 15 255) (aL 8 (.map (some (bs1620.getD (((r10.getD i10 default).gen).toNat) 0))) rfl rfl (hM10 8 rfl) (rfl) (fun _ hB_ => by exact Jf (.map (some (bs1620.getD (((r10.getD i10 default).gen).toNat) 0))) (Zsw ((hC.grow hB_).getM 0 rfl) hv12 (show ((r10.getD i10 default).gen).toNat < r11.length by omega)) sc99 rfl) (Za 15 511) (aF 9 (.pointer (some ⟨b19, 1, none⟩)) rfl rfl (hM11 9 rfl) (rfl) (fun _ => by exact Z7 1 Try.underlying144 rfl ag101.size rfl rfl) (Za 15 1023) (aL 10 (.agg (List.toArray (A8.enc .i64 ((r10.getD i10 default).mono)))) rfl rfl (hM10 10 rfl) (rfl) (fun _ hB_ => by exact Yu (hC.grow hB_) 1 (A8.enc .i64 ((r10.getD i10 default).mono)) rfl ag101 rfl rfl rfl) (Za 15 2047) (aL 11 (.int .i64 ((Xm (r11.getD (((r10.getD i10 default).gen).toNat) []) ((r10.getD i10 default).mono)).getD 0)) rfl rfl (hM10 11 rfl) (rfl) (fun _ hB_ => by exact Zk6 ((r10.getD i10 default).mono) 0 (Zsx ((hC.grow hB_).getM 0 rfl) (show ((r10.getD i10 default).gen).toNat < r11.length by omega)).1 Yx Try.underlying99 z2 rfl rfl) (Za 15 4095) (aO 12 rfl (Jg (sz := 1) hC [(0, .int .i64 ((Xm (r11.getD (((r10.getD i10 default).gen).toNat) []) ((r10.getD i10 default).mono)).getD 0))] ((EI .i64).encs [(Xm (r11.getD (((r10.getD i10 default).gen).toNat) []) ((r10.getD i10 default).mono)).getD 0]) rfl (fun _ => Zti ((Xm (r11.getD (((r10.getD i10 default).gen).toNat) []) ((r10.getD i10 default).mono)).getD 0) _) rfl (by decide) fun b22 w35 hB_ hC => ?_))))))
     refine done (aK (by assumption) (Za 15 8191) (Zv 13 (by decide) (by decide) (by kernel_rfl) (by kernel_rfl) rfl ?_))
     obtain ⟨hm12, h⟩ := h
     refine Zbj hC 3 Try.underlying22 el2 rfl (by decide) (by decide) rfl (Zaq (hC.getM 0 rfl)) (fun q hq => Enc.encs_one' (E := (EI .i64)) _ q hq) rfl rfl hm12 fun v16 w36 hC => ?_
     replace hC := J8 hC 3 ((s11 ++ [(Xm (r11.getD (((r10.getD i10 default).gen).toNat) []) ((r10.getD i10 default).mono)).getD 0]).length) ((EI .i64).encs (s11 ++ [(Xm (r11.getD (((r10.getD i10 default).gen).toNat) []) ((r10.getD i10 default).mono)).getD 0])) rfl (by simp) (by first | (simp [Enc.encs_append]; done) | simp [Enc.encs_append, Enc.encs])
     refine Zc (v := v16) rfl (done (Zw (Zt (Zd (Zk (Zq rfl rfl (Zb (v := .int .i64 (IntKind.i64.wrap ((i10 : Int) + 1))) rfl (done ?_))))))))
     replace hC := hC.sM [1, 0, 2, 3, 4, 5, 6, 7] (M' := [Zc5 99 (kvA .i64) (vvI .i64) v11 bs1620 r11, own 2 1 (.slice (some ⟨b22, 0, none⟩) 1 1) ([(Xm (r11.getD (((r10.getD i10 default).gen).toNat) []) ((r10.getD i10 default).mono)).getD 0].length) ((EI .i64).encs [(Xm (r11.getD (((r10.getD i10 default).gen).toNat) []) ((r10.getD i10 default).mono)).getD 0]), blk b19 144 (Elem.enc (r10.getD i10 default)), own 2 1 v16 ((s11 ++ [(Xm (r11.getD (((r10.getD i10 default).gen).toNat) []) ((r10.getD i10 default).mono)).getD 0]).length) ((EI .i64).encs (s11 ++ [(Xm (r11.getD (((r10.getD i10 default).gen).toNat) []) ((r10.getD i10 default).mono)).getD 0])), blk b12 150 [.pointer (some ⟨b0, 0, none⟩), .int .i64 r14, v11], Tr.item (Tr.sl 22 (Tr.sl 2 ((EI .i64).tr))) s10 [v10] f10, own 144 9 u10 r10.length (EElem.encs r10), own 144 9 u11 r9.length (EElem.encs r9)]) (by decide) rfl
     replace hC := hC.recast (c := Tr.item (Tr.sl 99 (Y5 (kvA .i64) (vvI .i64))) r11 [v11] ((Option.toList (Value.ownBlock v11)) ++ bs1620)) (fun x_ hx_ => hx_) (fun h_ => Zsv h_)
     rw [← hf10] at hC
     replace hC := hC.sM [3, 4, 0, 5, 6, 7] (M' := [own 2 1 v16 ((s11 ++ [(Xm (r11.getD (((r10.getD i10 default).gen).toNat) []) ((r10.getD i10 default).mono)).getD 0]).length) ((EI .i64).encs (s11 ++ [(Xm (r11.getD (((r10.getD i10 default).gen).toNat) []) ((r10.getD i10 default).mono)).getD 0])), blk b12 150 [.pointer (some ⟨b0, 0, none⟩), .int .i64 r14, v11], Tr.item (Tr.sl 99 (Y5 (kvA .i64) (vvI .i64))) r11 [v11] f12, Tr.item (Tr.sl 22 (Tr.sl 2 ((EI .i64).tr))) s10 [v10] f10, own 144 9 u10 r10.length (EElem.encs r10), own 144 9 u11 r9.length (EElem.encs r9)]) (by decide) rfl
     exact hK12 (s11 ++ [(Xm (r11.getD (((r10.getD i10 default).gen).toNat) []) ((r10.getD i10 default).mono)).getD 0]) _ _ ⟨v16, (sl ⟨rfl, rfl, rfl, rfl, rfl, rfl, rfl, rfl, rfl, rfl, rfl, (tr rfl (congrArg _ (Yi hi11 hN12))), trivial⟩), hC⟩ h
    ·clear hC h
     rintro s11 e_ w37 K12 ⟨v12, hS_, hC⟩ h
     rw [ue hS_]
     refine sr (Zs rfl rfl (dn (wp_seq (Yj rfl (decide_eq_false (by omega)) ?_))))
     refine wp_exit (Zl (Zl (Yc ?_)))
     refine Zd (Zk (Zb (v := v10) rfl (Zb (v := v12) rfl (Jg (sz := 1) hC [(0, v12)] [v12] rfl (fun _ => Zmq v12 (Zhb (hC.getM 0 rfl)) _) rfl (by decide) fun b18 w38 hB_ hC => ?_))))
     replace hC := hC.pushM0 (Yo (Tr.sl 2 ((EI .i64).tr)) [] [] []) (Zbf _ _) rfl
     replace hC := hC.sM [2, 0, 1, 3, 4, 5, 6, 7] (M' := [own 2 1 v12 s11.length ((EI .i64).encs s11), Yo (Tr.sl 2 ((EI .i64).tr)) [] [] [], own 22 1 (.slice (some ⟨b18, 0, none⟩) 1 1) 1 [v12], blk b12 150 [.pointer (some ⟨b0, 0, none⟩), .int .i64 r14, v11], Tr.item (Tr.sl 99 (Y5 (kvA .i64) (vvI .i64))) r11 [v11] f12, Tr.item (Tr.sl 22 (Tr.sl 2 ((EI .i64).tr))) s10 [v10] f10, own 144 9 u10 r10.length (EElem.encs r10), own 144 9 u11 r9.length (EElem.encs r9)]) (by decide) rfl
     replace hC := hC.gather (c := Yo (Tr.sl 2 ((EI .i64).tr)) [s11] [v12] [(Option.toList (Value.ownBlock v12))]) (fun x_ hx_ => Zcw hx_) (fun h1_ h2_ hd_ => Zb7 (c := [v12]) (id (Js h1_)) h2_ hd_)
     replace hC := hC.sM [1, 0, 2, 3, 4, 5, 6] (M' := [own 22 1 (.slice (some ⟨b18, 0, none⟩) 1 1) 1 [v12], Yo (Tr.sl 2 ((EI .i64).tr)) [s11] [v12] [(Option.toList (Value.ownBlock v12))], blk b12 150 [.pointer (some ⟨b0, 0, none⟩), .int .i64 r14, v11], Tr.item (Tr.sl 99 (Y5 (kvA .i64) (vvI .i64))) r11 [v11] f12, Tr.item (Tr.sl 22 (Tr.sl 2 ((EI .i64).tr))) s10 [v10] f10, own 144 9 u10 r10.length (EElem.encs r10), own 144 9 u11 r9.length (EElem.encs r9)]) (by decide) rfl
     replace hC := hC.gather (c := Tr.item (Tr.sl 22 (Tr.sl 2 ((EI .i64).tr))) [s11] [.slice (some ⟨b18, 0, none⟩) 1 1] ((Option.toList (Value.ownBlock (.slice (some ⟨b18, 0, none⟩) 1 1))) ++ ([(Option.toList (Value.ownBlock v12))] : List (List Nat)).flatten)) (fun x_ hx_ => List.mem_append.1 hx_) (fun h1_ h2_ hd_ => Zap h1_ h2_ hd_)
     replace hC := hC.sM [3, 0, 1, 2, 4, 5] (M' := [Tr.item (Tr.sl 22 (Tr.sl 2 ((EI .i64).tr))) s10 [v10] f10, Tr.item (Tr.sl 22 (Tr.sl 2 ((EI .i64).tr))) [s11] [.slice (some ⟨b18, 0, none⟩) 1 1] ((Option.toList (Value.ownBlock (.slice (some ⟨b18, 0, none⟩) 1 1))) ++ ([(Option.toList (Value.ownBlock v12))] : List (List Nat)).flatten), blk b12 150 [.pointer (some ⟨b0, 0, none⟩), .int .i64 r14, v11], Tr.item (Tr.sl 99 (Y5 (kvA .i64) (vvI .i64))) r11 [v11] f12, own 144 9 u10 r10.length (EElem.encs r10), own 144 9 u11 r9.length (EElem.encs r9)]) (by decide) rfl
     obtain ⟨hm13, h⟩ := h
     refine Zcv hC Try.underlying27 Zmr rfl (by decide) (by decide) rfl rfl hm13 fun v17 f13 w39 hC => Zc (v := v17) rfl (done (Zt (Zd (Zk (Zq rfl rfl (Zb (v := .int .i64 (IntKind.i64.wrap ((i11 : Int) + 1))) rfl (done ?_)))))))
     replace hC := hC.sM [0, 3, 4] (M' := [Tr.item (Tr.sl 22 (Tr.sl 2 ((EI .i64).tr))) (s10 ++ [s11]) [v17] f13, own 144 9 u10 r10.length (EElem.encs r10), own 144 9 u11 r9.length (EElem.encs r9)]) (by decide) rfl
     exact hK11 (s10 ++ [s11]) _ _ ⟨v17, f13, (sl ⟨rfl, rfl, rfl, rfl, rfl, rfl, (tr rfl (congrArg _ (Yi hi10 hN11))), trivial⟩), hC⟩ h
    ·skip
     replace hC := hC.sM [0, 1, 2, 7, 8, 9] (M' := [own 2 1 (.slice (some ⟨b20, 0, none⟩) 0 0) 0 ((EI .i64).encs []), blk b12 150 [.pointer (some ⟨b0, 0, none⟩), .int .i64 r14, v11], Tr.item (Tr.sl 99 (Y5 (kvA .i64) (vvI .i64))) r11 [v11] f12, Tr.item (Tr.sl 22 (Tr.sl 2 ((EI .i64).tr))) s10 [v10] f10, own 144 9 u10 r10.length (EElem.encs r10), own 144 9 u11 r9.length (EElem.encs r9)]) (by decide) rfl
     exact ⟨.slice (some ⟨b20, 0, none⟩) 0 0, (sl ⟨rfl, rfl, rfl, rfl, rfl, rfl, rfl, rfl, rfl, rfl, rfl, rfl, trivial⟩), hC⟩
   ·skip
    replace hC := hC.pushM0 (Tr.item (Tr.sl 99 (Y5 (kvA .i64) (vvI .i64))) [] [.slice none 0 0] []) (Za4 _ _ _) rfl
    exact ⟨.slice none 0 0, [], (sl ⟨rfl, rfl, rfl, rfl, trivial⟩), hC⟩
  ·clear hC h
   rintro s10 e_ w40 K10 ⟨v10, f10, hS_, hC⟩ h
   rw [ue hS_]
   refine sr (Zs rfl rfl (dn (wp_seq (Yj rfl (decide_eq_false (by omega)) ?_))))
   refine wp_exit (Zl (Zl (Yc ?_)))
   refine Zd (sr (Zb (v := v10) rfl (Zc (v := v10) rfl (Zc (v := .int .i64 0) rfl (dn (wp_ret ?_))))))
   refine Jn (fn := Try.f49) rfl ?_ ?_ ⟨s10, v10, f10, 0, rfl, h, (hC.getM 0 rfl), (Zbx hC 0 rfl), hC.below⟩ (.inl rfl)
   ·exact Zh rfl
   ·exact Zh rfl
  ·skip
   replace hC := hC.sM [0, 2, 3] (M' := [Tr.item (Tr.sl 22 (Tr.sl 2 ((EI .i64).tr))) [] [.slice (some ⟨b14, 0, none⟩) 0 0] ((Option.toList (Value.ownBlock (.slice (some ⟨b14, 0, none⟩) 0 0))) ++ ([] : List (List Nat)).flatten), own 144 9 u10 r10.length (EElem.encs r10), own 144 9 u11 r9.length (EElem.encs r9)]) (by decide) rfl
   exact ⟨.slice (some ⟨b14, 0, none⟩) 0 0, ((Option.toList (Value.ownBlock (.slice (some ⟨b14, 0, none⟩) 0 0))) ++ ([] : List (List Nat)).flatten), (sl ⟨rfl, rfl, rfl, rfl, rfl, rfl, rfl, trivial⟩), hC⟩
def Zc8 (a0 : Alg) (a1 : Int) (K : List (List Int) → Int → Prop) : Prop :=
 Zft a0 [] (fun r11 => Zc2 a1 1 12 (fun r14 => Zc3 (!r14) 2 (fun r12 => Zdx [r11, r12] (fun r10 => (if r10 ≠ 0 then K [] r10 else Zgh a0 a1 (fun r15 r13 => K r15 r13))))))
theorem Zmx (a0 : Alg) (a1 : Int) {u0_0 : Value} {u0_1 : Value} {fp0 : List Nat} {K : List (List Int) → Int → Prop} (h : Zc8 a0 a1 K) (w0 : World) (q0 : TAlg.rep a0 [u0_0, u0_1] fp0 w0) :
  Calls Try.prog 11 #[.agg #[u0_0, u0_1], .int .i64 a1] w0 fun e w' => ∃ (r0 : List (List Int)) (z0_0 : Value) (fz0 : List Nat) (r1 : Int), 
   e = .returned (.tuple #[z0_0, .int .i64 r1]) ∧ K r0 r1 ∧ (Tr.item (Tr.sl 22 (Tr.sl 2 ((EI .i64).tr))) r0 [z0_0] fz0).holds w' ∧ (∀ b, b ∈ fz0 → w0.heap.size ≤ b) ∧ Bel w0 w' := by
 unfold Zc8 at h
 refine Z6 (args := [.agg #[u0_0, u0_1], .int .i64 a1]) Try.func11 rfl 21 Try.ntmps11 (Nat.le_of_ble_eq_true rfl) ?_
 have hC := Ctx.start (X := Nox) w0 [Ty.item TAlg a0 [u0_0, u0_1] fp0] (by simp only [List.mem_cons, List.not_mem_nil, or_false, forall_eq_or_imp, forall_eq]; exact q0)
 have hp2 := (hC.getP 0 rfl)
 replace hC := hC.derive 0 rfl (Ty.item ((EI .i64).ty.sl) a0.degrees [u0_0] fp0) (fun _ => (Yt hp2).1) (fun _ hb_ => hb_)
 replace hC := hC.derive 1 rfl (Ty.item TForm.sl a0.images [u0_1] fp0) (fun _ => (Yt hp2).2) (fun _ hb_ => hb_)
 refine sr (Ye (v := .agg #[u0_0, u0_1]) hC [u0_0, u0_1] rfl rfl fun b5 w7 hB_ hC => Zc (v := .slice none 0 0) rfl (Zc (v := .int .i64 0) rfl (dn (wp_seq (sr ?_)))))
 refine Zf [.pointer (some ⟨b5, 0, none⟩), .slice none 0 0] _ Try.func46 rfl rfl rfl (Zrn a0 [] h _ (Xr (hC.getP 1 rfl) (hC.getP 0 rfl)) (hC.getM 0 rfl) (Zkp _ _)) (fun ret8 w10 hR9 => ?_)
 obtain ⟨r11, rfl, h, hB10⟩ := hR9
 refine ⟨_, rfl, ?_⟩
 replace hC := hC.grow hB10
 refine Zb (v := .int .i64 a1) rfl ?_
 refine Zf [.int .i64 a1, .int .i64 1, .int .i64 12] _ Try.func48 rfl rfl rfl (Zjf a1 1 12 h _) (fun ret10 w11 hR10 => ?_)
 obtain ⟨r14, rfl, h, hB11⟩ := hR10
 refine ⟨_, rfl, ?_⟩
 replace hC := hC.grow hB11
 refine X0 rfl ?_
 refine Zf [.bool (!r14), .int .i64 2] _ Try.func47 rfl rfl rfl (Zjg (!r14) 2 h _) (fun ret11 w12 hR11 => ?_)
 obtain ⟨r12, rfl, h, hB12⟩ := hR11
 refine ⟨_, rfl, ?_⟩
 replace hC := hC.grow hB12
 refine Jg (sz := 1) hC [(0, .int .i64 r11), (1, .int .i64 r12)] ((EI .i64).encs [r11, r12]) rfl (fun _ => Zmt r11 r12 _) rfl (by decide) fun b10 w13 hB_ hC => ?_
 refine Zf [.slice (some ⟨b10, 0, none⟩) 2 2] _ Try.func45 rfl rfl rfl (Zl9 [r11, r12] h _ (Y7 (hC.getM 0 rfl))) (fun ret12 w14 hR12 => ?_)
 obtain ⟨r10, rfl, h, hB13⟩ := hR12
 refine ⟨_, rfl, ?_⟩
 replace hC := hC.grow hB13
 refine Zc (v := .int .i64 r10) rfl (dn (sr (Zb (v := .int .i64 r10) rfl (Xj rfl rfl (dn ?_)))))
 refine Zr rfl (fun hb10 => ?_) (fun hb10 => ?_)
 ·replace h := ift h (ct hb10)
  refine sr (Zb (v := .int .i64 r10) rfl (Zc (v := .slice none 0 0) rfl (Zc (v := .int .i64 r10) rfl (dn ?_))))
  refine wp_ret (Zj ?_)
  refine Jn (fn := Try.f11) rfl ?_ ?_ ⟨[], .slice none 0 0, [], r10, rfl, h, (Za4 _ _ _), (fun b hb => absurd hb (by simp)), hC.below⟩ (.inl rfl)
  ·exact Zh rfl
  ·exact Zh rfl
 ·replace h := Zi h (cf hb10)
  refine wp_skip (Zd (sr (Zb (v := .int .i64 a1) rfl ?_)))
  refine Zf [.pointer (some ⟨b5, 0, none⟩), .int .i64 a1] _ Try.func49 rfl rfl rfl (Ztz a0 a1 h _ (Xr (hC.getP 1 rfl) (hC.getP 0 rfl)) (hC.getM 1 rfl)) (fun ret13 w15 hR13 => ?_)
  obtain ⟨r15, u10, f10, r13, rfl, h, hr10, hf10, hB14⟩ := hR13
  refine ⟨_, rfl, ?_⟩
  replace hC := hC.push hB14 (Tr.item (Tr.sl 22 (Tr.sl 2 ((EI .i64).tr))) r15 [u10] f10) hr10 hf10
  refine Xd (v := u10) rfl rfl (Xd (v := .int .i64 r13) rfl rfl (Zc (v := u10) rfl (Zc (v := .int .i64 r13) rfl (dn (wp_ret ?_)))))
  refine Jn (fn := Try.f11) rfl ?_ ?_ ⟨r15, u10, f10, r13, rfl, h, (hC.getM 0 rfl), (Zbx hC 0 rfl), hC.below⟩ (.inl rfl)
  ·exact Zh rfl
  ·exact Zh rfl
def Zc9 (a0 : List (List Int)) (a1 : List (List Int)) (K : Bool → Prop) : Prop :=
 (if (a0.length : Int) ≠ (a1.length : Int) then K false else Yy (fun i10 (s10 : Unit) nx10 => ((0 ≤ (i10 : Int) ∧ (i10 : Int) < (a1.length : Int)) ∧ Zdt (a0.getD i10 default) (a1.getD i10 default) (fun r10 => (if ¬ (r10 = true) then K false else nx10 ())))) (fun (s10 : Unit) => K true) a0.length 0 ())
theorem Zj4 (a0 : List (List Int)) (a1 : List (List Int)) {u0_0 : Value} {u1_0 : Value} {fp0 : List Nat} {fp1 : List Nat} {K : Bool → Prop} (h : Zc9 a0 a1 K) (w0 : World) (q0 : (((EI .i64).ty.sl).sl).rep a0 [u0_0] fp0 w0) (q1 : (((EI .i64).ty.sl).sl).rep a1 [u1_0] fp1 w0) :
  Calls Try.prog 12 #[u0_0, u1_0] w0 fun e w' => ∃ (r0 : Bool), 
   e = .returned (.bool r0) ∧ K r0 ∧ Bel w0 w' := by
 unfold Zc9 at h
 refine Z6 (args := [u0_0, u1_0]) Try.func12 rfl 27 Try.ntmps12 (Nat.le_of_ble_eq_true rfl) ?_
 have hC := Ctx.start (X := Nox) w0 [Ty.item (((EI .i64).ty.sl).sl) a0 [u0_0] fp0, Ty.item (((EI .i64).ty.sl).sl) a1 [u1_0] fp1] (by simp only [List.mem_cons, List.not_mem_nil, or_false, forall_eq_or_imp, forall_eq]; exact ⟨q0, q1⟩)
 refine sr (Zc (v := .bool false) rfl (dn (wp_seq (sr (Zb (v := u0_0) rfl ?_)))))
 obtain ⟨Ad3, c4, hv5⟩ := Z2 (hC.getP 0 rfl)
 refine Z0 Try.underlying27 (tr rfl hv5) (Zb (v := u1_0) rfl ?_)
 obtain ⟨Ad6, c7, hv8⟩ := Z2 (hC.getP 1 rfl)
 refine Z0 Try.underlying27 (tr rfl hv8) (Xj rfl rfl (dn ?_))
 refine Zr rfl (fun hb9 => ?_) (fun hb9 => ?_)
 ·replace h := ift h (ct hb9)
  refine sr (Zc (v := .bool false) rfl (dn ?_))
  refine wp_ret (Zj ?_)
  refine Zo (fn := Try.f12) rfl ?_ ⟨false, rfl, h, hC.below⟩ (.inl rfl)
  exact Zh rfl
 ·replace h := Zi h (cf hb9)
  refine wp_skip (Zd (wp_seq (sr (Zc (v := .int .i64 0) rfl (dn (wp_block ?_))))))
  have hN10 : a0.length ≤ 9223372036854775807 := Xv (hC.getP 0 rfl)
  refine Y6 (S := Unit) _ _ (fun i10 s10 e_ w_ => Z4 e_ [(0, u0_0), (1, u1_0), (5, .int .i64 (i10 : Int))] ∧ Ctx Nox w0 w_ [] [Ty.item (((EI .i64).ty.sl).sl) a0 [u0_0] fp0, Ty.item (((EI .i64).ty.sl).sl) a1 [u1_0] fp1]) a0.length ?_ ?_ (s0 := ()) ?_ h
  ·clear hC h
   rintro i10 s10 e_ w10 nx10 K10 hi10 ⟨hS_, hC⟩ h hK10
   rw [ue hS_]
   refine wp_seq (sr (Zb (v := .int .i64 (i10 : Int)) rfl (Zb (v := u0_0) rfl ?_)))
   obtain ⟨Ad12, c10, hv12⟩ := Z2 (hC.getP 0 rfl)
   refine Z0 Try.underlying27 (tr rfl hv12) (Zs rfl rfl (dn (Yq rfl (decide_eq_true (by omega)) (wp_skip (Zd (wp_seq (wp_block (wp_seq ?_))))))))
   refine Ym 8 Yg [0, 0, 3, 7, 0, 0, 48, 112, 255, 511] [2, 3, 6, 7] [0, 1, 4, 5] (by kernel_rfl) (by kernel_rfl) (by kernel_rfl) (fun hM10 hM11 w11 hB_ => ?_)
   replace hC := hC.grow hB_
   refine aF 0 (u0_0) rfl rfl (hM11 0 rfl) (rfl) (fun _ => by exact Zg (v := u0_0) rfl) (Za 10 1) (aF 1 (.int .i64 (i10 : Int)) rfl rfl (hM11 1 rfl) (rfl) (fun _ => by exact Zg (v := .int .i64 (i10 : Int)) rfl) (Za 10 3) ?_)
   obtain ⟨Ad10, c11, hv10⟩ := Z9 (hC.getP 0 rfl) i10 hi10
   refine aL 2 (.pointer (some (Ad10.add (i10 * 1)))) rfl rfl (hM10 2 rfl) (rfl) (fun _ hB_ => by exact Yv (len := a0.length) Try.underlying27 sc22.size (by exact tr rfl hv10) rfl (Int.natCast_nonneg _) (Int.ofNat_lt.2 hi10)) (Za 10 7) ?_
   obtain ⟨cs_, hl10, hc10, hr10⟩ := X9 (hC.getP 0 rfl) hv10 i10 hi10
   obtain ⟨u10, rfl⟩ := List.length_eq_one_iff.1 hl10
   clear hl10
   rw [X3 _ _ hi10] at hr10
   replace hC := hC.derive 0 rfl (Ty.item ((EI .i64).ty.sl) (a0.getD i10 default) [u10] fp0) (fun _ => hr10) (fun _ hb_ => hb_)
   refine aL 3 (u10) rfl rfl (hM10 3 rfl) (rfl) (fun _ hB_ => by exact Jf (u10) (J9 hB_ hc10) sc22 rfl) (Za 10 15) (aF 4 (u1_0) rfl rfl (hM11 4 rfl) (rfl) (fun _ => by exact Zg (v := u1_0) rfl) (Za 10 31) (aF 5 (.int .i64 (i10 : Int)) rfl rfl (hM11 5 rfl) (rfl) (fun _ => by exact Zg (v := .int .i64 (i10 : Int)) rfl) (Za 10 63) ?_))
   obtain ⟨⟨h10, h11⟩, h⟩ := h
   obtain ⟨Ad11, c12, hv11⟩ := Z9 (hC.getP 2 rfl) i10 (show i10 < a1.length by omega)
   refine aL 6 (.pointer (some (Ad11.add (i10 * 1)))) rfl rfl (hM10 6 rfl) (rfl) (fun _ hB_ => by exact Yv (len := a1.length) Try.underlying27 sc22.size (by exact tr rfl hv11) rfl h10 h11) (Za 10 127) ?_
   obtain ⟨cs_, hl11, hc11, hr11⟩ := X9 (hC.getP 2 rfl) hv11 i10 (show i10 < a1.length by omega)
   obtain ⟨u11, rfl⟩ := List.length_eq_one_iff.1 hl11
   clear hl11
   rw [X3 _ _ (show i10 < a1.length by omega)] at hr11
   replace hC := hC.derive 2 rfl (Ty.item ((EI .i64).ty.sl) (a1.getD i10 default) [u11] fp1) (fun _ => hr11) (fun _ hb_ => hb_)
   refine aL 7 (u11) rfl rfl (hM10 7 rfl) (rfl) (fun _ hB_ => by exact Jf (u11) (J9 hB_ hc11) sc22 rfl) (Za 10 255) (Zv 8 (by decide) (by decide) (by kernel_rfl) (by kernel_rfl) rfl ?_)
   refine Zf [u10, u11] _ Try.func50 rfl rfl rfl (Zl6 (a0.getD i10 default) (a1.getD i10 default) h _ (hC.getP 1 rfl) (hC.getP 0 rfl)) (fun ret10 w12 hR10 => ?_)
   obtain ⟨r10, rfl, h, hB10⟩ := hR10
   refine ⟨_, rfl, ?_⟩
   replace hC := hC.grow hB10
   refine X0 rfl (done (Zw (Zd ?_)))
   refine Zr rfl (fun hb10 => ?_) (fun hb10 => ?_)
   ·replace h := ift h (Xq (X6 hb10))
    refine sr (Zc (v := .bool false) rfl (dn ?_))
    refine wp_ret (Yd (Zj (Zj (Yd (Zj ?_)))))
    refine Zo (fn := Try.f12) rfl ?_ ⟨false, rfl, h, hC.below⟩ (.inl rfl)
    exact Zh rfl
   ·replace h := Zi h (not_not_intro ((X7 hb10)))
    refine wp_skip (Zt (Zd (Zk (Zb (v := .int .i64 (i10 : Int)) rfl (Zq rfl rfl (Zc (v := .int .i64 (IntKind.i64.wrap ((i10 : Int) + 1))) rfl (done ?_)))))))
    replace hC := hC.sP [2, 3] (Ps' := [Ty.item (((EI .i64).ty.sl).sl) a0 [u0_0] fp0, Ty.item (((EI .i64).ty.sl).sl) a1 [u1_0] fp1]) rfl
    exact hK10 () _ _ ⟨(sl ⟨rfl, rfl, (tr rfl (congrArg _ (Yi hi10 hN10))), trivial⟩), hC⟩ h
  ·clear hC h
   rintro s10 e_ w13 K10 ⟨hS_, hC⟩ h
   rw [ue hS_]
   refine wp_seq (sr (Zb (v := .int .i64 (a0.length : Int)) rfl (Zb (v := u0_0) rfl ?_)))
   obtain ⟨Ad13, c13, hv13⟩ := Z2 (hC.getP 0 rfl)
   refine Z0 Try.underlying27 (tr rfl hv13) (Zs rfl rfl (dn (Yj rfl (decide_eq_false (by omega)) ?_)))
   refine wp_exit (Zl (Zl (Yc ?_)))
   refine Zd (sr (Zc (v := .bool true) rfl (dn (wp_ret ?_))))
   refine Zo (fn := Try.f12) rfl ?_ ⟨true, rfl, h, hC.below⟩ (.inl rfl)
   exact Zh rfl
  ·skip
   exact ⟨(sl ⟨rfl, rfl, rfl, trivial⟩), hC⟩
def Zgi (a0 : List (List Int)) (a1 : Int) (K : Int → List (List Int) → Prop) : Prop :=
 Xf (fun (s10 : (List (List Int)) × Int × Int) nx10 => (if s10.2.2 < (s10.1.length : Int) then ((0 ≤ s10.2.2 ∧ s10.2.2 < (s10.1.length : Int)) ∧ Zcd (s10.1.getD s10.2.2.toNat default) s10.2.1 (fun r10 m10 => nx10 (s10.1.set s10.2.2.toNat m10, r10, IntKind.i64.wrap (s10.2.2 + 1)))) else K s10.2.1 s10.1)) (a0, a1, 0)
theorem Zt0 (a0 : List (List Int)) (a1 : Int) {u0_0 : Value} {fp0_0 : List Nat} {K : Int → List (List Int) → Prop} (h : Zgi a0 a1 K) (w0 : World) (qw0 : (Tr.item (Tr.sl 22 (Tr.sl 2 ((EI .i64).tr))) a0 [u0_0] fp0_0).holds w0) :
  Calls Try.prog 15 #[u0_0, .int .i64 a1] w0 fun e w' => ∃ (r0 : Int) (mw : List (List Int)), 
   e = .returned (.int .i64 r0) ∧ K r0 mw ∧ (Tr.item (Tr.sl 22 (Tr.sl 2 ((EI .i64).tr))) mw [u0_0] fp0_0).holds w' ∧ BelO (fp0_0) w0 w' := by
 unfold Zgi at h
 refine Z6 (args := [u0_0, .int .i64 a1]) Try.func15 rfl 19 Try.ntmps15 (Nat.le_of_ble_eq_true rfl) ?_
 have hC := Ctx.startL w0 (fp0_0) [Tr.item (Tr.sl 22 (Tr.sl 2 ((EI .i64).tr))) a0 [u0_0] fp0_0] [] (by simp only [List.mem_cons, List.not_mem_nil, or_false, forall_eq_or_imp, forall_eq]; exact qw0) (by simp) (by simp only [List.mem_cons, List.not_mem_nil, or_false, forall_eq_or_imp, forall_eq]; exact fun b hb => hb) (List.pairwise_singleton _ _) (by simp)
 refine sr (Zc (v := .int .i64 0) rfl (dn (wp_seq (sr (Zc (v := .int .i64 0) rfl (dn (wp_block ?_)))))))
 refine Xu (S := (List (List Int)) × Int × Int) _ (fun s10 e_ w_ => Z4 e_ [(0, u0_0), (1, .int .i64 s10.2.1), (5, .int .i64 s10.2.2)] ∧ Ctx (fun c_ => c_ ∈ fp0_0) w0 w_ [Tr.item (Tr.sl 22 (Tr.sl 2 ((EI .i64).tr))) s10.1 [u0_0] fp0_0] []) ?_ (s0 := (a0, a1, 0)) ?_ h
 ·clear hC h
  rintro s10 e_ w10 nx10 K10 ⟨hS_, hC⟩ h hK10
  rw [ue hS_]
  refine wp_seq (sr (Zb (v := .int .i64 s10.2.2) rfl (Zb (v := u0_0) rfl ?_)))
  obtain ⟨Ad10, c10, hv10⟩ := Zlt (hC.getM 0 rfl)
  refine Z0 Try.underlying27 (tr rfl hv10) (Zs rfl rfl (dn ?_))
  refine Zr rfl (fun hb10 => ?_) (fun hb10 => ?_)
  ·replace h := ift h (ct hb10)
   refine wp_skip (Zd (wp_seq (wp_block (Zk (Zb (v := u0_0) rfl (Zb (v := .int .i64 s10.2.2) rfl ?_))))))
   obtain ⟨⟨h10, h11⟩, h⟩ := h
   obtain ⟨cs10, f10, ⟨g10, cap10, hv11, hcell10⟩, hin10, hsub10, hout10⟩ := Zls (hC.getM 0 rfl) s10.2.2.toNat (show s10.2.2.toNat < s10.1.length by omega)
   refine Zaw (s10.2.2.toNat * 1) Try.underlying27 sc22.size (tr rfl hv11) rfl h10 h11 rfl ?_
   obtain ⟨u10, rfl⟩ := List.length_eq_one_iff.1 (show cs10.length = 1 from ((Tr.sl 2 ((EI .i64).tr))).ty.len (Tr.trep _ hin10.1))
   have hin11 := hin10; rw [X3 _ _ (show s10.2.2.toNat < s10.1.length by omega)] at hin11
   obtain ⟨ho10, hf10⟩ := Zat (show (Tr.sl 2 (EI .i64).tr).tree (s10.1.getD s10.2.2.toNat default) [u10] f10 _ from hin11.1)
   subst hf10
   refine X5 (u10) hcell10 sc22 rfl (Zb (v := .int .i64 s10.2.1) rfl ?_)
   refine Zf [u10, .int .i64 s10.2.1] _ Try.func52 rfl rfl rfl (Zma (s10.1.getD s10.2.2.toNat default) s10.2.1 h _ ho10) (fun ret10 w11 hR10 => ?_)
   obtain ⟨r10, m10, rfl, h, hm10, hB10⟩ := hR10
   refine ⟨_, rfl, ?_⟩
   replace hC := hC.turn 0 (jt := Tr.item (Tr.sl 22 (Tr.sl 2 ((EI .i64).tr))) (s10.1.set s10.2.2.toNat m10) [u0_0] fp0_0) rfl hB10.os hB10.tape hB10.output hB10.size hB10.drawn (fun c_ hc_ hn_ => hB10.old c_ hc_ (fun h_ => hn_ (hsub10 c_ h_))) (hout10 m10 _ (Zi4 hm10) hB10) (fun b_ hb_ => .inl hb_)
   refine Zc (v := .int .i64 r10) rfl (done (Zt (Zd (Zk (Zb (v := .int .i64 s10.2.2) rfl (Zq rfl rfl (Zc (v := .int .i64 (IntKind.i64.wrap (s10.2.2 + 1))) rfl (done ?_))))))))
   exact hK10 (s10.1.set s10.2.2.toNat m10, r10, IntKind.i64.wrap (s10.2.2 + 1)) _ _ ⟨(sl ⟨rfl, rfl, rfl, trivial⟩), hC⟩ h
  ·replace h := Zi h (cf hb10)
   refine wp_exit (Zl (Zl (Yc ?_)))
   refine Zd (sr (Zb (v := .int .i64 s10.2.1) rfl (Zc (v := .int .i64 s10.2.1) rfl (dn (wp_ret ?_)))))
   refine Zo (fn := Try.f15) rfl ?_ ⟨s10.2.1, s10.1, rfl, h, (hC.getM 0 rfl), hC.belO⟩ (.inl rfl)
   exact Zh rfl
 ·skip
  exact ⟨(sl ⟨rfl, rfl, rfl, trivial⟩), hC⟩
def Zd3 (a0 : List (List Int)) (a1 : Int) (K : Int → Prop) : Prop :=
 Yy (fun i10 (s10 : Int) nx10 => Zdy (a0.getD i10 default) s10 (fun r10 => (if r10 < 0 then K (-1) else nx10 r10))) (fun (s10 : Int) => K s10) a0.length 0 a1
theorem Zmy (a0 : List (List Int)) (a1 : Int) {u0_0 : Value} {fp0 : List Nat} {K : Int → Prop} (h : Zd3 a0 a1 K) (w0 : World) (q0 : (((EI .i64).ty.sl).sl).rep a0 [u0_0] fp0 w0) :
  Calls Try.prog 16 #[u0_0, .int .i64 a1] w0 fun e w' => ∃ (r0 : Int), 
   e = .returned (.int .i64 r0) ∧ K r0 ∧ Bel w0 w' := by
 unfold Zd3 at h
 refine Z6 (args := [u0_0, .int .i64 a1]) Try.func16 rfl 21 Try.ntmps16 (Nat.le_of_ble_eq_true rfl) ?_
 have hC := Ctx.start (X := Nox) w0 [Ty.item (((EI .i64).ty.sl).sl) a0 [u0_0] fp0] (by simp only [List.mem_cons, List.not_mem_nil, or_false, forall_eq_or_imp, forall_eq]; exact q0)
 refine sr (Zc (v := .int .i64 0) rfl (dn (wp_seq (sr (Zc (v := .int .i64 0) rfl (dn (wp_block ?_)))))))
 have hN10 : a0.length ≤ 9223372036854775807 := Xv (hC.getP 0 rfl)
 refine Y6 (S := Int) _ _ (fun i10 s10 e_ w_ => Z4 e_ [(0, u0_0), (1, .int .i64 s10), (5, .int .i64 (i10 : Int))] ∧ Ctx Nox w0 w_ [] [Ty.item (((EI .i64).ty.sl).sl) a0 [u0_0] fp0]) a0.length ?_ ?_ (s0 := a1) ?_ h
 ·clear hC h
  rintro i10 s10 e_ w10 nx10 K10 hi10 ⟨hS_, hC⟩ h hK10
  rw [ue hS_]
  refine wp_seq (sr (Zb (v := .int .i64 (i10 : Int)) rfl (Zb (v := u0_0) rfl ?_)))
  obtain ⟨Ad10, c10, hv11⟩ := Z2 (hC.getP 0 rfl)
  refine Z0 Try.underlying27 (tr rfl hv11) (Zs rfl rfl (dn (Yq rfl (decide_eq_true (by omega)) (wp_skip (Zd (wp_seq (wp_block (sr (Zb (v := u0_0) rfl (Zb (v := .int .i64 (i10 : Int)) rfl ?_))))))))))
  obtain ⟨Ad11, c11, hv10⟩ := Z9 (hC.getP 0 rfl) i10 hi10
  refine Xe (len := a0.length) Try.underlying27 sc22.size (tr rfl hv10) rfl (Int.natCast_nonneg _) (Int.ofNat_lt.2 hi10) ?_
  obtain ⟨cs_, hl10, hc10, hr10⟩ := X9 (hC.getP 0 rfl) hv10 i10 hi10
  obtain ⟨u10, rfl⟩ := List.length_eq_one_iff.1 hl10
  clear hl10
  rw [X3 _ _ hi10] at hr10
  replace hC := hC.derive 0 rfl (Ty.item ((EI .i64).ty.sl) (a0.getD i10 default) [u10] fp0) (fun _ => hr10) (fun _ hb_ => hb_)
  refine X5 (u10) hc10 sc22 rfl (Zb (v := .int .i64 s10) rfl ?_)
  refine Zf [u10, .int .i64 s10] _ Try.func54 rfl rfl rfl (Zrx (a0.getD i10 default) s10 h _ (hC.getP 0 rfl)) (fun ret10 w11 hR10 => ?_)
  obtain ⟨r10, rfl, h, hB10⟩ := hR10
  refine ⟨_, rfl, ?_⟩
  replace hC := hC.grow hB10
  refine Zc (v := .int .i64 r10) rfl (dn (sr (Zb (v := .int .i64 r10) rfl (Zs rfl rfl (dn ?_)))))
  refine Zr rfl (fun hb10 => ?_) (fun hb10 => ?_)
  ·replace h := ift h (ct hb10)
   refine sr (Zc (v := .int .i64 (-1)) rfl (dn ?_))
   refine wp_ret (Yd (Zj (Zj (Yd (Zj ?_)))))
   refine Zo (fn := Try.f16) rfl ?_ ⟨(-1), rfl, h, hC.below⟩ (.inl rfl)
   exact Zh rfl
  ·replace h := Zi h (cf hb10)
   refine wp_skip (Zt (Zd (Zk (Zb (v := .int .i64 (i10 : Int)) rfl (Zq rfl rfl (Zc (v := .int .i64 (IntKind.i64.wrap ((i10 : Int) + 1))) rfl (done ?_)))))))
   replace hC := hC.sP [1] (Ps' := [Ty.item (((EI .i64).ty.sl).sl) a0 [u0_0] fp0]) rfl
   exact hK10 r10 _ _ ⟨(sl ⟨rfl, rfl, (tr rfl (congrArg _ (Yi hi10 hN10))), trivial⟩), hC⟩ h
 ·clear hC h
  rintro s10 e_ w12 K10 ⟨hS_, hC⟩ h
  rw [ue hS_]
  refine wp_seq (sr (Zb (v := .int .i64 (a0.length : Int)) rfl (Zb (v := u0_0) rfl ?_)))
  obtain ⟨Ad12, c12, hv12⟩ := Z2 (hC.getP 0 rfl)
  refine Z0 Try.underlying27 (tr rfl hv12) (Zs rfl rfl (dn (Yj rfl (decide_eq_false (by omega)) ?_)))
  refine wp_exit (Zl (Zl (Yc ?_)))
  refine Zd (sr (Zb (v := .int .i64 s10) rfl (Zc (v := .int .i64 s10) rfl (dn (wp_ret ?_)))))
  refine Zo (fn := Try.f16) rfl ?_ ⟨s10, rfl, h, hC.below⟩ (.inl rfl)
  exact Zh rfl
 ·skip
  exact ⟨(sl ⟨rfl, rfl, rfl, trivial⟩), hC⟩
def Zh8 (a0 : Alg) (a1 : Int) (K : Bool → Prop) : Prop :=
 Zfv a0 1048576 (fun r24 => (if r24 < 0 then K true else Zcc a0 (fun r10 => Zd1 r10 a1 (fun r14 r12 => Zcc a0 (fun r13 => Zc8 r13 a1 (fun r15 r16 => Zc9 r15 r14 (fun r25 => (if ¬ (r25 = true) then K false else (if r16 ≠ r12 then K false else Zcc a0 (fun r11 => Zdw r13 r11 (fun r28 => (if ¬ (r28 = true) then K false else Zfy r13 1 (fun r19 m10 => (if r19 < 0 then K false else Zc9 r15 r14 (fun r23 => (if ¬ (r23 = true) then K false else Zgi r15 1 (fun r20 m11 => Zd3 m11 1 (fun r21 => (if r21 < 0 then K false else (if r21 ≠ r20 then K false else Zcc (⟨a0.degrees, a0.images⟩ : Alg) (fun r17 => Zc8 r17 a1 (fun r26 r18 => Zc9 r26 r14 (fun r27 => (if ¬ (r27 = true) then K false else (if r18 ≠ r12 then K false else Zd3 m11 1 (fun r22 => (if r22 < 0 then K false else (if r22 ≠ r20 then K false else K true))))))))))))))))))))))))))))
theorem Zt1 (a0 : Alg) (a1 : Int) {u0_0 : Value} {u0_1 : Value} {fp0 : List Nat} {K : Bool → Prop} (h : Zh8 a0 a1 K) (w0 : World) (q0 : TAlg.rep a0 [u0_0, u0_1] fp0 w0) :
  Calls Try.prog 3 #[.agg #[u0_0, u0_1], .int .i64 a1] w0 fun e w' => ∃ (r0 : Bool), 
   e = .returned (.bool r0) ∧ K r0 ∧ Bel w0 w' := by
 unfold Zh8 at h
 refine Z6 (args := [.agg #[u0_0, u0_1], .int .i64 a1]) Try.func3 rfl 101 Try.ntmps3 (Nat.le_of_ble_eq_true rfl) ?_
 have hC := Ctx.start (X := Nox) w0 [Ty.item TAlg a0 [u0_0, u0_1] fp0] (by simp only [List.mem_cons, List.not_mem_nil, or_false, forall_eq_or_imp, forall_eq]; exact q0)
 have hp2 := (hC.getP 0 rfl)
 replace hC := hC.derive 0 rfl (Ty.item ((EI .i64).ty.sl) a0.degrees [u0_0] fp0) (fun _ => (Yt hp2).1) (fun _ hb_ => hb_)
 replace hC := hC.derive 1 rfl (Ty.item TForm.sl a0.images [u0_1] fp0) (fun _ => (Yt hp2).2) (fun _ hb_ => hb_)
 refine sr (Ye (v := .agg #[u0_0, u0_1]) hC [u0_0, u0_1] rfl rfl fun b5 w7 hB_ hC => Zc (v := .bool false) rfl (dn (sr (Zc (v := .int .i64 1048576) rfl (dn (sr (Ys hC 0 [u0_0, u0_1] rfl Zf3 rfl rfl rfl (Zb (v := .int .i64 1048576) rfl ?_))))))))
 refine Zf [.agg #[u0_0, u0_1], .int .i64 1048576] _ Try.func8 rfl rfl rfl (Zrs a0 1048576 h _ (Xr (hC.getP 1 rfl) (hC.getP 0 rfl))) (fun ret8 w10 hR9 => ?_)
 obtain ⟨r24, rfl, h, hB12⟩ := hR9
 refine ⟨_, rfl, ?_⟩
 replace hC := hC.grow hB12
 refine Zc (v := .int .i64 r24) rfl (dn (wp_seq (sr (Zb (v := .int .i64 r24) rfl (Zs rfl rfl (dn ?_))))))
 refine Zr rfl (fun hb15 => ?_) (fun hb15 => ?_)
 ·replace h := ift h (ct hb15)
  refine sr (Zc (v := .bool true) rfl (dn ?_))
  refine wp_ret (Zj ?_)
  refine Zo (fn := Try.f3) rfl ?_ ⟨true, rfl, h, hC.below⟩ (.inl rfl)
  exact Zh rfl
 ·replace h := Zi h (cf hb15)
  refine wp_skip (Zd (sr (Ys hC 0 [u0_0, u0_1] rfl Zf3 rfl rfl rfl ?_)))
  refine Zf [.agg #[u0_0, u0_1]] _ Try.func10 rfl rfl rfl (Zhv a0 h _ (Xr (hC.getP 1 rfl) (hC.getP 0 rfl))) (fun ret10 w11 hR10 => ?_)
  obtain ⟨r10, u15, u16, f15, rfl, h, hr10, hf10, hB13⟩ := hR10
  refine ⟨_, rfl, ?_⟩
  replace hC := hC.push hB13 (Tr.item (Zcu 2 114 95) r10 [u15, u16] f15) hr10 hf10
  obtain ⟨f10, ho10, ho11, hs10, hs11, hd10⟩ := Zha (hC.getM 0 rfl)
  replace hC := hC.split (a := own 2 1 u15 r10.degrees.length ((EI .i64).encs r10.degrees)) (b := Tr.item (Tr.sl 95 (Zz 114)) r10.images [u16] f10) hs10 hs11 ⟨ho10, ho11, hd10⟩
  refine Zb (v := .int .i64 a1) rfl ?_
  refine Zf [.agg #[u15, u16], .int .i64 a1] _ Try.func9 rfl rfl rfl (Ztt r10 a1 h _ (Xr (Y7 (hC.getM 0 rfl)) (Tr.trep _ (hC.getM 1 rfl).1))) (fun ret11 w12 hR11 => ?_)
  obtain ⟨r14, u13, f11, r12, rfl, h, hr11, hf11, hB14⟩ := hR11
  refine ⟨_, rfl, ?_⟩
  replace hC := hC.push hB14 (Tr.item (Tr.sl 22 (Tr.sl 2 ((EI .i64).tr))) r14 [u13] f11) hr11 hf11
  refine Zb (v := .tuple #[u13, .int .i64 r12]) rfl (Xd (v := u13) rfl rfl (Xd (v := .int .i64 r12) rfl rfl (Zc (v := u13) rfl (Zc (v := .int .i64 r12) rfl (dn (sr (Ys hC 3 [u0_0, u0_1] rfl Zf3 rfl rfl rfl ?_)))))))
  refine Zf [.agg #[u0_0, u0_1]] _ Try.func10 rfl rfl rfl (Zhv a0 h _ (Xr (hC.getP 1 rfl) (hC.getP 0 rfl))) (fun ret12 w13 hR12 => ?_)
  obtain ⟨r13, u10, u11, f16, rfl, h, hr12, hf12, hB15⟩ := hR12
  refine ⟨_, rfl, ?_⟩
  replace hC := hC.push hB15 (Tr.item (Zcu 2 114 95) r13 [u10, u11] f16) hr12 hf12
  obtain ⟨f12, ho12, ho13, hs12, hs13, hd11⟩ := Zha (hC.getM 0 rfl)
  replace hC := hC.split (a := own 2 1 u10 r13.degrees.length ((EI .i64).encs r13.degrees)) (b := Tr.item (Tr.sl 95 (Zz 114)) r13.images [u11] f12) hs12 hs13 ⟨ho12, ho13, hd11⟩
  refine Yf hC [.slice none 0 0, .slice none 0 0] z32 rfl fun b10 w14 hB_ hC => Zu (v := .agg #[u10, u11]) hC 0 [u10, u11] [u10, u11] rfl ag32.size rfl rfl rfl rfl (Y3 (Xl (hC.getM 1 rfl)) (Y3 (Zbc (Tr.trep _ (hC.getM 2 rfl).1)) rfl)) (Nat.le_of_ble_eq_true rfl) rfl fun w15 hC => dn (sr (Ys hC 0 [u10, u11] rfl ag32 rfl rfl rfl (Zb (v := .int .i64 a1) rfl ?_)))
  refine Zf [.agg #[u10, u11], .int .i64 a1] _ Try.func11 rfl rfl rfl (Zmx r13 a1 h _ (Xr (Y7 (hC.getM 1 rfl)) (Tr.trep _ (hC.getM 2 rfl).1))) (fun ret13 w16 hR13 => ?_)
  obtain ⟨r15, u12, f13, r16, rfl, h, hr13, hf13, hB16⟩ := hR13
  refine ⟨_, rfl, ?_⟩
  replace hC := hC.push hB16 (Tr.item (Tr.sl 22 (Tr.sl 2 ((EI .i64).tr))) r15 [u12] f13) hr13 hf13
  refine Zb (v := .tuple #[u12, .int .i64 r16]) rfl (Xd (v := u12) rfl rfl (Xd (v := .int .i64 r16) rfl rfl (Zc (v := u12) rfl (Zc (v := .int .i64 r16) rfl (dn (wp_seq (sr (Zb (v := u12) rfl (Zb (v := u13) rfl ?_)))))))))
  refine Zf [u12, u13] _ Try.func12 rfl rfl rfl (Zj4 r15 r14 h _ (Tr.trep _ (hC.getM 0 rfl).1) (Tr.trep _ (hC.getM 4 rfl).1)) (fun ret14 w17 hR14 => ?_)
  obtain ⟨r25, rfl, h, hB17⟩ := hR14
  refine ⟨_, rfl, ?_⟩
  replace hC := hC.grow hB17
  refine X0 rfl (Zb (v := .bool (!r25)) rfl ?_)
  refine Xa (!r25) (fun hb11 => ?_) (fun hb11 => ?_)
  ·replace h := ift h (Xq (X6 hb11))
   refine Zn (b := true) 4 40 rfl (tr rfl (congrArg _ hb11)) (by decide) (Zn (b := true) 4 40 rfl (tr rfl (congrArg _ hb11)) (by decide) (Zn (b := true) 4 40 rfl (tr rfl (congrArg _ hb11)) (by decide) (Yb (v := .bool true) (b := true) (tr rfl (congrArg _ hb11)) rfl (dn (Yq rfl rfl (sr (Zc (v := .bool false) rfl (dn ?_))))))))
   refine wp_ret (Zj ?_)
   refine Zo (fn := Try.f3) rfl ?_ ⟨false, rfl, h, hC.below⟩ (.inl rfl)
   exact Zh rfl
  ·replace h := Zi h (not_not_intro ((X7 hb11)))
   refine Zm 4 40 rfl rfl hb11 (Zb (v := .int .i64 r16) rfl (Zm 4 40 rfl rfl hb11 (Zb (v := .int .i64 r12) rfl (Zm 4 40 rfl rfl hb11 (Xj rfl rfl (Yb (v := .bool (decide (r16 ≠ r12))) (b := false) (tr rfl (congrArg _ hb11)) rfl (dn ?_)))))))
   refine Zr rfl (fun hb14 => ?_) (fun hb14 => ?_)
   ·replace h := ift h (ct hb14)
    refine sr (Zc (v := .bool false) rfl (dn ?_))
    refine wp_ret (Zj ?_)
    refine Zo (fn := Try.f3) rfl ?_ ⟨false, rfl, h, hC.below⟩ (.inl rfl)
    exact Zh rfl
   ·replace h := Zi h (cf hb14)
    refine wp_skip (Zd (wp_seq (wp_seq ?_)))
    refine Ym 3 Yg [0, 0, 2, 7, 15] [0, 1] [] (by kernel_rfl) (by kernel_rfl) (by kernel_rfl) (fun hM10 hM11 w18 hB_ => ?_)
    replace hC := hC.grow hB_
    refine aL 0 (.agg #[u10, u11]) rfl rfl (hM10 0 rfl) (rfl) (fun _ hB_ => by exact Yu (hC.grow hB_) 1 [u10, u11] rfl ag32 rfl rfl rfl) (Za 5 1) (aL 1 (.agg #[u0_0, u0_1]) rfl rfl (hM10 1 rfl) (rfl) (fun _ hB_ => by exact Yu (hC.grow hB_) 7 [u0_0, u0_1] rfl Zf3 rfl rfl rfl) (Za 5 3) (aO 2 rfl ?_))
    refine Zf [.agg #[u0_0, u0_1]] _ Try.func10 rfl rfl rfl (Zhv a0 h _ (Xr (hC.getP 1 rfl) (hC.getP 0 rfl))) (fun ret15 w19 hR15 => ?_)
    obtain ⟨r11, u17, u18, f17, rfl, h, hr14, hf14, hB18⟩ := hR15
    refine ⟨_, rfl, ?_⟩
    replace hC := hC.push hB18 (Tr.item (Zcu 2 114 95) r11 [u17, u18] f17) hr14 hf14
    obtain ⟨f14, ho14, ho15, hs14, hs15, hd12⟩ := Zha (hC.getM 0 rfl)
    replace hC := hC.split (a := own 2 1 u17 r11.degrees.length ((EI .i64).encs r11.degrees)) (b := Tr.item (Tr.sl 95 (Zz 114)) r11.images [u18] f14) hs14 hs15 ⟨ho14, ho15, hd12⟩
    refine done (aK (by assumption) (Za 5 7) (Zv 3 (by decide) (by decide) (by kernel_rfl) (by kernel_rfl) rfl ?_))
    refine Zf [.agg #[u10, u11], .agg #[u17, u18]] _ Try.func13 rfl rfl rfl (Zru r13 r11 h _ (Xr (Y7 (hC.getM 4 rfl)) (Tr.trep _ (hC.getM 5 rfl).1)) (Xr (Y7 (hC.getM 0 rfl)) (Tr.trep _ (hC.getM 1 rfl).1))) (fun ret16 w20 hR16 => ?_)
    obtain ⟨r28, rfl, h, hB19⟩ := hR16
    refine ⟨_, rfl, ?_⟩
    replace hC := hC.grow hB19
    refine X0 rfl (done (Zw (Zd ?_)))
    refine Zr rfl (fun hb16 => ?_) (fun hb16 => ?_)
    ·replace h := ift h (Xq (X6 hb16))
     refine sr (Zc (v := .bool false) rfl (dn ?_))
     refine wp_ret (Zj ?_)
     refine Zo (fn := Try.f3) rfl ?_ ⟨false, rfl, h, hC.below⟩ (.inl rfl)
     exact Zh rfl
    ·replace h := Zi h (not_not_intro ((X7 hb16)))
     refine wp_skip (Zd (sr (Zc (v := .int .i64 1) rfl (dn (sr (Ys hC 3 [u10, u11] rfl ag32 rfl rfl rfl (Zb (v := .int .i64 1) rfl ?_)))))))
     refine Zf [.agg #[u10, u11], .int .i64 1] _ Try.func14 rfl rfl rfl (Zrw r13 1 h _ (hC.getM 4 rfl) (hC.getM 5 rfl) (hC.mm 4 5 rfl rfl (by decide))) (fun ret17 w21 hR17 => ?_)
     obtain ⟨r19, m10, rfl, h, hm10, hm11, hB11⟩ := hR17
     refine ⟨_, rfl, ?_⟩
     replace hC := hC.turnL hB11 (M' := [own 2 1 u17 r11.degrees.length ((EI .i64).encs r11.degrees), Tr.item (Tr.sl 95 (Zz 114)) r11.images [u18] f14, Tr.item (Tr.sl 22 (Tr.sl 2 ((EI .i64).tr))) r15 [u12] f13, blk b10 32 [u10, u11], own 2 1 u10 m10.degrees.length ((EI .i64).encs m10.degrees), Tr.item (Tr.sl 95 (Zz 114)) m10.images [u11] f12, Tr.item (Tr.sl 22 (Tr.sl 2 ((EI .i64).tr))) r14 [u13] f11, own 2 1 u15 r10.degrees.length ((EI .i64).encs r10.degrees), Tr.item (Tr.sl 95 (Zz 114)) r10.images [u16] f10, blk b5 25 [u0_0, u0_1]]) rfl (fun x_ hx_ => (List.mem_append.1 hx_).elim (fun hx_ => ⟨_, List.mem_of_getElem? (i := 4) rfl, hx_⟩) (fun hx_ => ⟨_, List.mem_of_getElem? (i := 5) rfl, hx_⟩)) (by simp only [List.mem_cons, List.not_mem_nil, or_false, forall_eq_or_imp, forall_eq]; exact ⟨(hC.stay 0 rfl hB11 (fun x_ hq_ hx_ => (List.mem_append.1 hx_).elim (fun hx_ => hC.mm 0 4 rfl rfl (by decide) x_ hq_ hx_) (fun hx_ => hC.mm 0 5 rfl rfl (by decide) x_ hq_ hx_))), (hC.stay 1 rfl hB11 (fun x_ hq_ hx_ => (List.mem_append.1 hx_).elim (fun hx_ => hC.mm 1 4 rfl rfl (by decide) x_ hq_ hx_) (fun hx_ => hC.mm 1 5 rfl rfl (by decide) x_ hq_ hx_))), (hC.stay 2 rfl hB11 (fun x_ hq_ hx_ => (List.mem_append.1 hx_).elim (fun hx_ => hC.mm 2 4 rfl rfl (by decide) x_ hq_ hx_) (fun hx_ => hC.mm 2 5 rfl rfl (by decide) x_ hq_ hx_))), (hC.stay 3 rfl hB11 (fun x_ hq_ hx_ => (List.mem_append.1 hx_).elim (fun hx_ => hC.mm 3 4 rfl rfl (by decide) x_ hq_ hx_) (fun hx_ => hC.mm 3 5 rfl rfl (by decide) x_ hq_ hx_))), hm10, hm11, (hC.stay 6 rfl hB11 (fun x_ hq_ hx_ => (List.mem_append.1 hx_).elim (fun hx_ => hC.mm 6 4 rfl rfl (by decide) x_ hq_ hx_) (fun hx_ => hC.mm 6 5 rfl rfl (by decide) x_ hq_ hx_))), (hC.stay 7 rfl hB11 (fun x_ hq_ hx_ => (List.mem_append.1 hx_).elim (fun hx_ => hC.mm 7 4 rfl rfl (by decide) x_ hq_ hx_) (fun hx_ => hC.mm 7 5 rfl rfl (by decide) x_ hq_ hx_))), (hC.stay 8 rfl hB11 (fun x_ hq_ hx_ => (List.mem_append.1 hx_).elim (fun hx_ => hC.mm 8 4 rfl rfl (by decide) x_ hq_ hx_) (fun hx_ => hC.mm 8 5 rfl rfl (by decide) x_ hq_ hx_))), (hC.stay 9 rfl hB11 (fun x_ hq_ hx_ => (List.mem_append.1 hx_).elim (fun hx_ => hC.mm 9 4 rfl rfl (by decide) x_ hq_ hx_) (fun hx_ => hC.mm 9 5 rfl rfl (by decide) x_ hq_ hx_)))⟩)
     refine Zc (v := .int .i64 r19) rfl (dn (wp_seq (sr (Zb (v := .int .i64 r19) rfl (Zs rfl rfl (Zb (v := .bool (decide (r19 < 0))) rfl ?_))))))
     refine Xa (decide (r19 < 0)) (fun hb10 => ?_) (fun hb10 => ?_)
     ·replace h := ift h (ct hb10)
      refine Zn (b := true) 2 55 rfl (tr rfl (congrArg _ hb10)) (by decide) (Zn (b := true) 2 55 rfl (tr rfl (congrArg _ hb10)) (by decide) (Zn (b := true) 2 55 rfl (tr rfl (congrArg _ hb10)) (by decide) (Zn (b := true) 2 55 rfl (tr rfl (congrArg _ hb10)) (by decide) (Yb (v := .bool true) (b := true) (tr rfl (congrArg _ hb10)) rfl (Zb (v := .bool true) rfl (Zn (b := true) 8 61 rfl (tr rfl (congrArg _ rfl)) (by decide) (Zn (b := true) 8 61 rfl (tr rfl (congrArg _ rfl)) (by decide) (Zn (b := true) 8 61 rfl (tr rfl (congrArg _ rfl)) (by decide) (Yb (v := .bool true) (b := true) rfl rfl (dn (Yq rfl rfl ?_)))))))))))
      refine sr (Zc (v := .bool false) rfl (dn ?_))
      refine wp_ret (Zj ?_)
      refine Zo (fn := Try.f3) rfl ?_ ⟨false, rfl, h, hC.below⟩ (.inl rfl)
      exact Zh rfl
     ·replace h := Zi h (cf hb10)
      refine Zm 2 55 rfl rfl hb10 (Zb (v := u12) rfl (Zm 2 55 rfl rfl hb10 (Zb (v := u13) rfl (Zm 2 55 rfl rfl hb10 ?_))))
      refine Zf [u12, u13] _ Try.func12 rfl rfl rfl (Zj4 r15 r14 h _ (Tr.trep _ (hC.getM 2 rfl).1) (Tr.trep _ (hC.getM 6 rfl).1)) (fun ret18 w22 hR18 => ?_)
      obtain ⟨r23, rfl, h, hB20⟩ := hR18
      refine ⟨_, rfl, ?_⟩
      replace hC := hC.grow hB20
      refine Zm 2 55 rfl rfl hb10 (X0 rfl (Yb (v := .bool (!r23)) (b := false) (tr rfl (congrArg _ hb10)) rfl (Zb (v := .bool (!r23)) rfl ?_)))
      refine Xa (!r23) (fun hb12 => ?_) (fun hb12 => ?_)
      ·replace h := ift h (Xq (X6 hb12))
       refine Zn (b := true) 8 61 rfl (tr rfl (congrArg _ hb12)) (by decide) (Zn (b := true) 8 61 rfl (tr rfl (congrArg _ hb12)) (by decide) (Zn (b := true) 8 61 rfl (tr rfl (congrArg _ hb12)) (by decide) (Yb (v := .bool true) (b := true) (tr rfl (congrArg _ hb12)) rfl (dn (Yq rfl rfl (sr (Zc (v := .bool false) rfl (dn ?_))))))))
       refine wp_ret (Zj ?_)
       refine Zo (fn := Try.f3) rfl ?_ ⟨false, rfl, h, hC.below⟩ (.inl rfl)
       exact Zh rfl
      ·replace h := Zi h (not_not_intro ((X7 hb12)))
       refine Zm 8 61 rfl rfl hb12 (Zb (v := .int .i64 r16) rfl (Zm 8 61 rfl rfl hb12 (Zb (v := .int .i64 r12) rfl (Zm 8 61 rfl rfl hb12 (Xj rfl rfl (Yb (v := .bool (decide (r16 ≠ r12))) (b := false) (tr rfl (congrArg _ hb12)) rfl (dn (Yj rfl hb14 (wp_skip (Zd (sr ?_)))))))))))
       refine Zc (v := .int .i64 1) rfl (dn (sr (Zb (v := u12) rfl (Zb (v := .int .i64 1) rfl ?_))))
       refine Zf [u12, .int .i64 1] _ Try.func15 rfl rfl rfl (Zt0 r15 1 h _ (hC.getM 2 rfl)) (fun ret19 w23 hR19 => ?_)
       obtain ⟨r20, m11, rfl, h, hm12, hB10⟩ := hR19
       refine ⟨_, rfl, ?_⟩
       replace hC := hC.turnL hB10 (M' := [own 2 1 u17 r11.degrees.length ((EI .i64).encs r11.degrees), Tr.item (Tr.sl 95 (Zz 114)) r11.images [u18] f14, Tr.item (Tr.sl 22 (Tr.sl 2 ((EI .i64).tr))) m11 [u12] f13, blk b10 32 [u10, u11], own 2 1 u10 m10.degrees.length ((EI .i64).encs m10.degrees), Tr.item (Tr.sl 95 (Zz 114)) m10.images [u11] f12, Tr.item (Tr.sl 22 (Tr.sl 2 ((EI .i64).tr))) r14 [u13] f11, own 2 1 u15 r10.degrees.length ((EI .i64).encs r10.degrees), Tr.item (Tr.sl 95 (Zz 114)) r10.images [u16] f10, blk b5 25 [u0_0, u0_1]]) rfl (fun x_ hx_ => ⟨_, List.mem_of_getElem? (i := 2) rfl, hx_⟩) (by simp only [List.mem_cons, List.not_mem_nil, or_false, forall_eq_or_imp, forall_eq]; exact ⟨(hC.stay 0 rfl hB10 (fun x_ hq_ hx_ => hC.mm 0 2 rfl rfl (by decide) x_ hq_ hx_)), (hC.stay 1 rfl hB10 (fun x_ hq_ hx_ => hC.mm 1 2 rfl rfl (by decide) x_ hq_ hx_)), hm12, (hC.stay 3 rfl hB10 (fun x_ hq_ hx_ => hC.mm 3 2 rfl rfl (by decide) x_ hq_ hx_)), (hC.stay 4 rfl hB10 (fun x_ hq_ hx_ => hC.mm 4 2 rfl rfl (by decide) x_ hq_ hx_)), (hC.stay 5 rfl hB10 (fun x_ hq_ hx_ => hC.mm 5 2 rfl rfl (by decide) x_ hq_ hx_)), (hC.stay 6 rfl hB10 (fun x_ hq_ hx_ => hC.mm 6 2 rfl rfl (by decide) x_ hq_ hx_)), (hC.stay 7 rfl hB10 (fun x_ hq_ hx_ => hC.mm 7 2 rfl rfl (by decide) x_ hq_ hx_)), (hC.stay 8 rfl hB10 (fun x_ hq_ hx_ => hC.mm 8 2 rfl rfl (by decide) x_ hq_ hx_)), (hC.stay 9 rfl hB10 (fun x_ hq_ hx_ => hC.mm 9 2 rfl rfl (by decide) x_ hq_ hx_))⟩)
       refine Zc (v := .int .i64 r20) rfl (dn (sr (Zc (v := .int .i64 1) rfl (dn (sr (Zb (v := u12) rfl (Zb (v := .int .i64 1) rfl ?_)))))))
       refine Zf [u12, .int .i64 1] _ Try.func16 rfl rfl rfl (Zmy m11 1 h _ (Tr.trep _ (hC.getM 2 rfl).1)) (fun ret20 w24 hR20 => ?_)
       obtain ⟨r21, rfl, h, hB21⟩ := hR20
       refine ⟨_, rfl, ?_⟩
       replace hC := hC.grow hB21
       refine Zc (v := .int .i64 r21) rfl (dn (wp_seq (sr (Zb (v := .int .i64 r21) rfl (Zs rfl rfl (dn ?_))))))
       refine Zr rfl (fun hb17 => ?_) (fun hb17 => ?_)
       ·replace h := ift h (ct hb17)
        refine sr (Zc (v := .bool false) rfl (dn ?_))
        refine wp_ret (Zj ?_)
        refine Zo (fn := Try.f3) rfl ?_ ⟨false, rfl, h, hC.below⟩ (.inl rfl)
        exact Zh rfl
       ·replace h := Zi h (cf hb17)
        refine wp_skip (Zd (wp_seq (sr (Zb (v := .int .i64 r21) rfl (Zb (v := .int .i64 r20) rfl (Xj rfl rfl (dn ?_)))))))
        refine Zr rfl (fun hb18 => ?_) (fun hb18 => ?_)
        ·replace h := ift h (ct hb18)
         refine sr (Zc (v := .bool false) rfl (dn ?_))
         refine wp_ret (Zj ?_)
         refine Zo (fn := Try.f3) rfl ?_ ⟨false, rfl, h, hC.below⟩ (.inl rfl)
         exact Zh rfl
        ·replace h := Zi h (cf hb18)
         refine wp_skip (Zd (sr (Ys hC 9 [u0_0, u0_1] rfl Zf3 rfl rfl rfl ?_)))
         refine Zf [.agg #[u0_0, u0_1]] _ Try.func10 rfl rfl rfl (Zhv (⟨a0.degrees, a0.images⟩ : Alg) h _ (Xr (hC.getP 1 rfl) (hC.getP 0 rfl))) (fun ret21 w25 hR21 => ?_)
         obtain ⟨r17, u19, u20, f18, rfl, h, hr15, hf15, hB22⟩ := hR21
         refine ⟨_, rfl, ?_⟩
         replace hC := hC.push hB22 (Tr.item (Zcu 2 114 95) r17 [u19, u20] f18) hr15 hf15
         obtain ⟨f19, ho16, ho17, hs16, hs17, hd13⟩ := Zha (hC.getM 0 rfl)
         replace hC := hC.split (a := own 2 1 u19 r17.degrees.length ((EI .i64).encs r17.degrees)) (b := Tr.item (Tr.sl 95 (Zz 114)) r17.images [u20] f19) hs16 hs17 ⟨ho16, ho17, hd13⟩
         refine Zb (v := .int .i64 a1) rfl ?_
         refine Zf [.agg #[u19, u20], .int .i64 a1] _ Try.func11 rfl rfl rfl (Zmx r17 a1 h _ (Xr (Y7 (hC.getM 0 rfl)) (Tr.trep _ (hC.getM 1 rfl).1))) (fun ret22 w26 hR22 => ?_)
         obtain ⟨r26, u14, f20, r18, rfl, h, hr16, hf16, hB23⟩ := hR22
         refine ⟨_, rfl, ?_⟩
         replace hC := hC.push hB23 (Tr.item (Tr.sl 22 (Tr.sl 2 ((EI .i64).tr))) r26 [u14] f20) hr16 hf16
         refine Zb (v := .tuple #[u14, .int .i64 r18]) rfl (Xd (v := u14) rfl rfl (Xd (v := .int .i64 r18) rfl rfl (Zc (v := u14) rfl (Zc (v := .int .i64 r18) rfl (dn (wp_seq (sr (Zb (v := u14) rfl (Zb (v := u13) rfl ?_)))))))))
         refine Zf [u14, u13] _ Try.func12 rfl rfl rfl (Zj4 r26 r14 h _ (Tr.trep _ (hC.getM 0 rfl).1) (Tr.trep _ (hC.getM 9 rfl).1)) (fun ret23 w27 hR23 => ?_)
         obtain ⟨r27, rfl, h, hB24⟩ := hR23
         refine ⟨_, rfl, ?_⟩
         replace hC := hC.grow hB24
         refine X0 rfl (Zb (v := .bool (!r27)) rfl ?_)
         refine Xa (!r27) (fun hb13 => ?_) (fun hb13 => ?_)
         ·replace h := ift h (Xq (X6 hb13))
          refine Zn (b := true) 4 88 rfl (tr rfl (congrArg _ hb13)) (by decide) (Zn (b := true) 4 88 rfl (tr rfl (congrArg _ hb13)) (by decide) (Zn (b := true) 4 88 rfl (tr rfl (congrArg _ hb13)) (by decide) (Yb (v := .bool true) (b := true) (tr rfl (congrArg _ hb13)) rfl (dn (Yq rfl rfl (sr (Zc (v := .bool false) rfl (dn ?_))))))))
          refine wp_ret (Zj ?_)
          refine Zo (fn := Try.f3) rfl ?_ ⟨false, rfl, h, hC.below⟩ (.inl rfl)
          exact Zh rfl
         ·replace h := Zi h (not_not_intro ((X7 hb13)))
          refine Zm 4 88 rfl rfl hb13 (Zb (v := .int .i64 r18) rfl (Zm 4 88 rfl rfl hb13 (Zb (v := .int .i64 r12) rfl (Zm 4 88 rfl rfl hb13 (Xj rfl rfl (Yb (v := .bool (decide (r18 ≠ r12))) (b := false) (tr rfl (congrArg _ hb13)) rfl (dn ?_)))))))
          refine Zr rfl (fun hb19 => ?_) (fun hb19 => ?_)
          ·replace h := ift h (ct hb19)
           refine sr (Zc (v := .bool false) rfl (dn ?_))
           refine wp_ret (Zj ?_)
           refine Zo (fn := Try.f3) rfl ?_ ⟨false, rfl, h, hC.below⟩ (.inl rfl)
           exact Zh rfl
          ·replace h := Zi h (cf hb19)
           refine wp_skip (Zd (sr (Zc (v := .int .i64 1) rfl (dn (sr (Zb (v := u12) rfl (Zb (v := .int .i64 1) rfl ?_)))))))
           refine Zf [u12, .int .i64 1] _ Try.func16 rfl rfl rfl (Zmy m11 1 h _ (Tr.trep _ (hC.getM 5 rfl).1)) (fun ret24 w28 hR24 => ?_)
           obtain ⟨r22, rfl, h, hB25⟩ := hR24
           refine ⟨_, rfl, ?_⟩
           replace hC := hC.grow hB25
           refine Zc (v := .int .i64 r22) rfl (dn (wp_seq (sr (Zb (v := .int .i64 r22) rfl (Zs rfl rfl (dn ?_))))))
           refine Zr rfl (fun hb20 => ?_) (fun hb20 => ?_)
           ·replace h := ift h (ct hb20)
            refine sr (Zc (v := .bool false) rfl (dn ?_))
            refine wp_ret (Zj ?_)
            refine Zo (fn := Try.f3) rfl ?_ ⟨false, rfl, h, hC.below⟩ (.inl rfl)
            exact Zh rfl
           ·replace h := Zi h (cf hb20)
            refine wp_skip (Zd (wp_seq (sr (Zb (v := .int .i64 r22) rfl (Zb (v := .int .i64 r20) rfl (Xj rfl rfl (dn ?_)))))))
            refine Zr rfl (fun hb21 => ?_) (fun hb21 => ?_)
            ·replace h := ift h (ct hb21)
             refine sr (Zc (v := .bool false) rfl (dn ?_))
             refine wp_ret (Zj ?_)
             refine Zo (fn := Try.f3) rfl ?_ ⟨false, rfl, h, hC.below⟩ (.inl rfl)
             exact Zh rfl
            ·replace h := Zi h (cf hb21)
             refine wp_skip (Zd (sr (Zc (v := .bool true) rfl (dn (wp_ret ?_)))))
             refine Zo (fn := Try.f3) rfl ?_ ⟨true, rfl, h, hC.below⟩ (.inl rfl)
             exact Zh rfl
end Go.Proofs.Ytaagfepgbofmlaa
set_option linter.unusedVariables false
set_option linter.unusedSimpArgs false
namespace Go.Proofs.Ytaagfepgbofmlaa
open Go Vc
theorem Zt2 {m : A8} {v : Int} {K : Vc.Form → Prop} (hv : v % 10007 ≠ 0) (h : K ⟨[⟨m, v % 10007⟩]⟩) : X2 m v K := by
  unfold X2
  refine Zbz ?_
  exact Xn hv (Zbz h)
theorem Zt3 (m : A8) {v : Int} (hv : v % 10007 ≠ 0) : Canon [⟨m, v % 10007⟩] := ⟨by simp, by intro t ht; obtain rfl := List.mem_singleton.1 ht; dsimp only; omega⟩
structure StepA (ds : List Int) (T : List Term) (l b : A8) (v : Int) (out out' : List Term) : Prop where
  can : Canon out'
  cf : ∀ x, coT out' x % 10007 = (coT out x + v * triC ds l b T x) % 10007
  mo : ∀ y, y ∈ out' → (∃ z, z ∈ out ∧ z.mono = y.mono) ∨ ∃ u, u ∈ T ∧ y.mono = (l.add u.mono).add b ∧ ¬ Clash ds l u.mono ∧ ¬ Clash ds (l.add u.mono) b
  ln : out'.length ≤ out.length + 400
theorem Zmz {ds : List Int} {T : List Term} {K : Vc.Form → Prop} {l b : A8} {v : Int} {out : List Term} (hd : OkDeg ds) (hf : OkForm ds T) (ff : FitT T) (wl : Xs ds l) (wb : Xs ds b) (lb : ∀ q, q < 8 → 0 ≤ l.get q ∧ l.get q ≤ 20) (bb : ∀ q, q < 8 → 0 ≤ b.get q ∧ b.get q ≤ 20) (hv : v % 10007 ≠ 0) (hc : Canon out) (hl : out.length ≤ 50000000)
    (h : ∀ out', StepA ds T l b v out out' → K ⟨out'⟩) :
    X2 l v (fun r => Ja ds r ⟨T⟩ (fun r' => X2 b 1 (fun r2 => Ja ds r' r2 (fun r3 => J4 ⟨out⟩ r3 1 K)))) := by
  refine Zt2 hv ?_
  refine Zhz hd (Zt3 _ hv) (fun u hu => by obtain rfl := List.mem_singleton.1 hu; exact wl) (fun u hu q hq => by obtain rfl := List.mem_singleton.1 hu; have := lb q hq; dsimp only; omega) hf.canon (fun u hu => (hf.mono hu).wk) ff.pos (by simp) (by have := hf.1; omega) fun own ho => ?_
  refine Zh4 ?_
  have hown : ∀ u, u ∈ own → ∃ z, z ∈ T ∧ u.mono = l.add z.mono ∧ ¬ Clash ds l z.mono ∧ (∀ q, q < 8 → 0 ≤ z.mono.get q ∧ z.mono.get q ≤ 20) := fun u hu => by
    obtain ⟨t, z, ht, hz, e, hcl⟩ := ho.mo u hu
    obtain rfl := List.mem_singleton.1 ht
    exact ⟨z, hz, e, hcl, Zbg (Za0 (hf.mono hz)) (ff.pos z hz)⟩
  have wown : ∀ u, u ∈ own → Xs ds u.mono ∧ ∀ q, q < 8 → 0 ≤ u.mono.get q ∧ u.mono.get q ≤ 40 := fun u hu => by
    obtain ⟨z, hz, e, hcl, hz20⟩ := hown u hu
    rw [e]
    refine ⟨Zb6 wl (hf.mono hz).wk (fun q hq => (lb q hq).1) (fun q hq => (hz20 q hq).1) (fun q hq => by have := lb q hq; have := hz20 q hq; omega) hcl, fun q hq => ?_⟩
    rw [A8.get_add]
    have := lb q hq
    have := hz20 q hq
    omega
  have lo : own.length ≤ T.length := by have := ho.ln; simpa using this
  refine Zhz hd ho.can (fun u hu => (wown u hu).1) (fun u hu q hq => by have := (wown u hu).2 q hq; omega) (Zh5 _) (fun u hu => by obtain rfl := List.mem_singleton.1 hu; exact wb) (fun u hu q hq => by obtain rfl := List.mem_singleton.1 hu; have := bb q hq; dsimp only; omega) (by have := hf.1; omega) (by simp) fun prod hpr => ?_
  have lp : prod.length ≤ 400 := by have h1 := hpr.ln; have := hf.1; simp at h1; omega
  refine Zfz hc hpr.can (by omega) (by omega) (by omega) fun out' hout => h out' ⟨hout.can, fun x => ?_, fun y hy => ?_, by have := hout.ln; omega⟩
  · rw [hout.cf, Int.one_mul]
    have e1 := Zpr (ds := ds) (l := l) (b := b) (v := v % 10007) (img := T) (own := own) (prod := prod) (fun y => by rw [ho.cf]; simp [prC, tot]) (fun x => hpr.cf x) x
    rw [Int.add_emod, e1, Int.mul_emod, Int.emod_emod, ← Int.mul_emod, ← Int.add_emod]
  · obtain ⟨z, hz, e⟩ := hout.mo y hy
    rcases hz with hz | hz
    · exact .inl ⟨z, hz, e⟩
    · obtain ⟨t, b', ht, hb, e2, hcl2⟩ := hpr.mo z hz
      obtain rfl := List.mem_singleton.1 hb
      obtain ⟨u, hu, e3, hcl, _⟩ := hown t ht
      refine .inr ⟨u, hu, by rw [← e, e2, e3], hcl, ?_⟩
      rw [← e3]; exact hcl2
def aK1 (ds : List Int) (dr : Int) (m : A8) (i : Nat) : Int := sg (dr * wtU ds m i) * m.get i
def aP (ds : List Int) (dr : Int) (imgs : List (List Term)) (m x : A8) : Nat → Int
  | 0 => 0
  | i + 1 => aP ds dr imgs m x i + (if m.get i > 0 then aK1 ds dr m i * triC ds (frontA m i) (restA m i) (imgs.getD i default) x else 0)
structure IsAM (ds : List Int) (dr : Int) (imgs : List (List Term)) (m : A8) (i : Nat) (out : List Term) : Prop where
  can : Canon out
  cf : ∀ x, coT out x % 10007 = aP ds dr imgs m x i % 10007
  mo : ∀ y, y ∈ out → ∃ j u, j < i ∧ 0 < m.get j ∧ u ∈ imgs.getD j default ∧ y.mono = ((frontA m j).add u.mono).add (restA m j) ∧ ¬ Clash ds (frontA m j) u.mono ∧ ¬ Clash ds ((frontA m j).add u.mono) (restA m j)
  ln : out.length ≤ 400 * i
theorem IsAM.zero (ds : List Int) (dr : Int) (imgs : List (List Term)) (m : A8) : IsAM ds dr imgs m 0 [] := ⟨Canon.nil, fun _ => rfl, by simp, by simp⟩
theorem IsAM.skip {ds : List Int} {dr : Int} {imgs : List (List Term)} {m : A8} {i : Nat} {out : List Term} (h : IsAM ds dr imgs m i out) (hp : ¬ m.get i > 0) : IsAM ds dr imgs m (i + 1) out :=
  ⟨h.can, fun x => by rw [aP, if_neg hp, Int.add_zero]; exact h.cf x, fun y hy => by obtain ⟨j, u, q, r⟩ := h.mo y hy; exact ⟨j, u, by omega, r⟩, by have := h.ln; omega⟩
theorem IsAM.step {ds : List Int} {dr v : Int} {imgs : List (List Term)} {m : A8} {i : Nat} {out out' : List Term} (h : IsAM ds dr imgs m i out) (hp : m.get i > 0) (hv : v = aK1 ds dr m i) (hs : StepA ds (imgs.getD i default) (frontA m i) (restA m i) v out out') : IsAM ds dr imgs m (i + 1) out' :=
  ⟨hs.can, fun x => by rw [hs.cf, aP, if_pos hp, ← hv, Int.add_emod, h.cf, ← Int.add_emod], fun y hy => by
    rcases hs.mo y hy with ⟨z, hz, e⟩ | ⟨u, hu, e, c1, c2⟩
    · obtain ⟨j, u, q, r⟩ := h.mo z hz
      rw [← e]; exact ⟨j, u, by omega, r⟩
    · exact ⟨i, u, by omega, hp, hu, e, c1, c2⟩, by have := h.ln; have := hs.ln; omega⟩
theorem Zj5 {ds : List Int} {m : A8} {i : Nat} (hm : OkMono ds m) (pm : ∀ i, i < 8 → 0 ≤ m.get i ∧ m.get i ≤ 20) : (Xs ds (frontA m i) ∧ ∀ q, q < 8 → 0 ≤ (frontA m i).get q ∧ (frontA m i).get q ≤ 20) := by
  refine ⟨fun q hq => ?_, fun q hq => ?_⟩
  · have h := hm q hq
    rw [frontA, A8.get_mkf _ hq]
    split
    · exact ⟨fun z => ⟨by have := (h.1 z).1; omega, (h.1 z).2⟩, h.2⟩
    · exact ⟨fun _ => ⟨by omega, fun _ => by omega⟩, fun _ => rfl⟩
  · have := pm q hq
    rw [frontA, A8.get_mkf _ hq]
    split <;> omega
theorem Zm0 {ds : List Int} {m : A8} {i : Nat} (hm : OkMono ds m) (hi8 : i < 8) (hp : 0 < m.get i) (pm : ∀ i, i < 8 → 0 ≤ m.get i ∧ m.get i ≤ 20) : (Xs ds (restA m i) ∧ ∀ q, q < 8 → 0 ≤ (restA m i).get q ∧ (restA m i).get q ≤ 20) := by
  refine ⟨fun q hq => ?_, fun q hq => ?_⟩
  · have h := hm q hq
    have := pm q hq
    rw [restA, A8.get_mkf _ hq]
    split
    · exact ⟨fun z => ⟨by have := (h.1 z).1; omega, (h.1 z).2⟩, h.2⟩
    · split
      · rename_i e; subst e
        refine ⟨fun z => ⟨by omega, fun o => by have := (h.1 z).2 o; omega⟩, fun z => by have := h.2 z; omega⟩
      · exact ⟨fun _ => ⟨by omega, fun _ => by omega⟩, fun _ => rfl⟩
  · have := pm q hq
    have := pm i hi8
    rw [restA, A8.get_mkf _ hq]
    split
    · omega
    · split <;> omega
theorem Zt4 {a : Alg} {t : Der} {m : A8} {K : Vc.Form → Prop} (hd : OkDeg a.degrees) (hlen : t.images.length = a.degrees.length) (hT : ∀ i, i < t.images.length → OkForm a.degrees (t.images.getD i default).terms ∧ FitT (t.images.getD i default).terms) (hm : OkMono a.degrees m) (pm : ∀ i, i < 8 → 0 ≤ m.get i ∧ m.get i ≤ 255) (hdr : 0 ≤ t.drop ∧ t.drop ≤ 12)
    (h : ∀ out, IsAM a.degrees t.drop (t.images.map (·.terms)) m a.degrees.length out → K ⟨out⟩) : Zf8 a t m K := by
  unfold Zf8
  have h8 := hd.1
  have p20 := Zbg (Za0 hm) pm
  refine X1 (fun (s : List Term × A8 × Int × Int) => (0 ≤ s.2.2.1 ∧ s.2.2.1 ≤ a.degrees.length) ∧ s.2.1 = frontA m s.2.2.1.toNat ∧ s.2.2.2 = wtU a.degrees m s.2.2.1.toNat ∧ IsAM a.degrees t.drop (t.images.map (·.terms)) m s.2.2.1.toNat s.1) (fun s => a.degrees.length - s.2.2.1.toNat) ?_ ⟨by dsimp only; omega, Zjx m, rfl, IsAM.zero _ _ _ _⟩
  rintro ⟨out, bf, i, od⟩ next ⟨g1, g2, g3, g4⟩ hn
  dsimp only at g1 g2 g3 g4 hn ⊢
  subst g2; subst g3
  by_cases hi : i < (a.degrees.length : Int)
  · have hin : i.toNat < a.degrees.length := by omega
    have hi8 : i.toNat < 8 := by omega
    have b8 : 0 ≤ i ∧ i < 8 := by omega
    have hdi := hd.2 i.toNat hin
    have wb := Zce hd pm i.toNat (by omega)
    have wp := Zju hd pm hin
    have hmi := p20 i.toNat hi8
    have wstep : wtU a.degrees m (i + 1).toNat = wtU a.degrees m i.toNat + a.degrees.getD i.toNat default * m.get i.toNat := by rw [show (i + 1).toNat = i.toNat + 1 by omega, wtU]
    have fstep : (frontA m i.toNat).set i.toNat (m.get i.toNat) = frontA m (i + 1).toNat := by rw [show (i + 1).toNat = i.toNat + 1 by omega]; exact Zh7 hi8
    have fin : ∀ out', IsAM a.degrees t.drop (t.images.map (·.terms)) m (i.toNat + 1) out' → next (out', (frontA m i.toNat).set i.toNat (m.get i.toNat), IntKind.i64.wrap (i + 1), IntKind.i64.wrap (wtU a.degrees m i.toNat + IntKind.i64.wrap (a.degrees.getD i.toNat default * IntKind.i64.wrap (m.get i.toNat)))) := by
      intro out' ho
      rw [i64_in (i + 1) (by omega), i64_in (m.get i.toNat) (by omega), i64_in (a.degrees.getD i.toNat default * m.get i.toNat) (by omega), i64_in (wtU a.degrees m i.toNat + _) (by omega)]
      refine hn _ ⟨by dsimp only; omega, fstep, by dsimp only; rw [wstep], ?_⟩ (by dsimp only; omega)
      dsimp only; rw [show (i + 1).toNat = i.toNat + 1 by omega]; exact ho
    refine Xh hi ⟨b8, ?_⟩
    by_cases hp : m.get i.toNat > 0
    · refine Xh hp ?_
      refine X1 (fun (s : A8 × Int) => (0 ≤ s.2 ∧ s.2 ≤ i) ∧ ∀ q, q < 8 → s.1.get q = if (q : Int) < s.2 then 0 else m.get q) (fun s => i.toNat - s.2.toNat) ?_ ⟨by dsimp only; omega, fun q hq => by rw [if_neg (by dsimp only; omega)]⟩
      rintro ⟨r, j⟩ nx ⟨k1, k2⟩ hnx
      dsimp only at k1 k2 hnx ⊢
      by_cases hj : j < i
      · refine Xh hj ⟨by omega, ?_⟩
        rw [i64_in (j + 1) (by omega)]
        refine hnx _ ⟨by dsimp only; omega, fun q hq => ?_⟩ (by dsimp only; omega)
        dsimp only
        rw [A8.get_set (by omega)]
        by_cases e : q = j.toNat
        · subst e; rw [if_pos rfl, if_pos (by omega)]
        · rw [if_neg e, k2 q hq]
          by_cases c : (q : Int) < j
          · rw [if_pos c, if_pos (by omega)]
          · rw [if_neg c, if_neg (by omega)]
      · obtain rfl : j = i := by omega
        refine Xn hj ⟨b8, b8, b8, ?_⟩
        have er : r.set j.toNat (IntKind.u8.wrap (r.get j.toNat - 1)) = restA m j.toNat := by
          refine A8.ext_get fun q hq => ?_
          rw [k2 _ hi8, if_neg (by omega), Zg4 _ (by omega), A8.get_set hi8, restA, A8.get_mkf _ hq]
          by_cases e : q = j.toNat
          · subst e; rw [if_pos rfl, if_neg (by omega), if_pos rfl]
          · rw [if_neg e, k2 q hq]
            by_cases c : (q : Int) < j
            · rw [if_pos c, if_neg (by omega), if_neg e]
            · rw [if_neg c, if_pos (by omega)]
        rw [er]
        have wd0 : 0 ≤ wtU a.degrees m j.toNat * t.drop := Int.mul_nonneg wb.1 hdr.1
        have wd1 : wtU a.degrees m j.toNat * t.drop ≤ 24480 * 12 := Int.mul_le_mul (by omega) hdr.2 hdr.1 (by omega)
        rw [i64_in (m.get j.toNat) (by omega), i64_in (0 - m.get j.toNat) (by omega), i64_in (wtU a.degrees m j.toNat * t.drop) (by omega)]
        obtain ⟨okT, fT⟩ := hT j.toNat (by omega)
        have eT : (t.images.map (·.terms)).getD j.toNat default = (t.images.getD j.toNat default).terms := by
          simp [List.getD, show j.toNat < t.images.length by omega]
        obtain ⟨fw, fb⟩ := Zj5 (i := j.toNat) hm p20
        obtain ⟨rw_, rb⟩ := Zm0 hm hi8 hp p20
        have hsg : sg (t.drop * wtU a.degrees m j.toNat) = sg (wtU a.degrees m j.toNat * t.drop) := by rw [Int.mul_comm]
        have lnb := g4.ln
        rcases Zjw wd0 with ⟨ho, es⟩ | ⟨ho, es⟩
        · refine Xh ho ⟨⟨b8.1, by omega⟩, ?_⟩
          refine Zmz (v := 0 - m.get j.toNat) hd okT fT fw rw_ fb rb (by omega) g4.can (by omega) fun out' hs => ⟨b8, b8, ⟨b8.1, by omega⟩, b8, ?_⟩
          have := fin out' (g4.step (v := 0 - m.get j.toNat) hp (by rw [aK1, hsg, es]; omega) (by rw [eT]; exact hs))
          rw [i64_in (m.get j.toNat) (by omega)] at this
          exact this
        · refine Xn ho ⟨⟨b8.1, by omega⟩, ?_⟩
          refine Zmz (v := m.get j.toNat) hd okT fT fw rw_ fb rb (by omega) g4.can (by omega) fun out' hs => ⟨b8, b8, ⟨b8.1, by omega⟩, b8, ?_⟩
          have := fin out' (g4.step (v := m.get j.toNat) hp (by rw [aK1, hsg, es]; omega) (by rw [eT]; exact hs))
          rw [i64_in (m.get j.toNat) (by omega)] at this
          exact this
    · refine Xn hp ⟨b8, b8, ⟨b8.1, by omega⟩, b8, ?_⟩
      exact fin out (g4.skip hp)
  · refine Xn hi (h out ?_)
    rw [show i.toNat = a.degrees.length by omega] at g4; exact g4
end Go.Proofs.Ytaagfepgbofmlaa
set_option linter.unusedVariables false
set_option linter.unusedSimpArgs false
namespace Go.Proofs.Ytaagfepgbofmlaa
open Go Vc
def AMono (ds : List Int) (imgs : List (List Term)) (y m : A8) : Prop := ∃ j u, j < ds.length ∧ 0 < m.get j ∧ u ∈ imgs.getD j default ∧ y = ((frontA m j).add u.mono).add (restA m j) ∧ ¬ Clash ds (frontA m j) u.mono ∧ ¬ Clash ds ((frontA m j).add u.mono) (restA m j)
def aT1 (ds : List Int) (dr : Int) (imgs : List (List Term)) (f : List Term) (x : A8) : Int := tot (fun t => t.factor * aP ds dr imgs t.mono x ds.length) f
structure IsA1 (ds : List Int) (dr : Int) (imgs : List (List Term)) (f out : List Term) : Prop where
  can : Canon out
  cf : ∀ x, coT out x % 10007 = aT1 ds dr imgs f x % 10007
  mo : ∀ y, y ∈ out → ∃ t, t ∈ f ∧ AMono ds imgs y.mono t.mono
  ln : out.length ≤ 3200 * f.length
theorem Zt5 {a : Alg} {t : Der} {f : List Term} {K : Vc.Form → Prop} (hd : OkDeg a.degrees) (hlen : t.images.length = a.degrees.length) (hT : ∀ i, i < t.images.length → OkForm a.degrees (t.images.getD i default).terms ∧ FitT (t.images.getD i default).terms) (hf : OkForm a.degrees f) (ff : FitT f) (hdr : 0 ≤ t.drop ∧ t.drop ≤ 12)
    (h : ∀ out, IsA1 a.degrees t.drop (t.images.map (·.terms)) f out → K ⟨out⟩) : Zf9 a t ⟨f⟩ K := by
  unfold Zf9
  dsimp only
  have h8 := hd.1
  have h4 := hf.1
  refine X1 (fun (s : List Term × Int) => (0 ≤ s.2 ∧ s.2 ≤ f.length) ∧ IsA1 a.degrees t.drop (t.images.map (·.terms)) (f.take s.2.toNat) s.1) (fun s => f.length - s.2.toNat) ?_ ⟨by dsimp only; omega, ⟨Canon.nil, fun _ => rfl, by simp, by simp⟩⟩
  rintro ⟨out, i⟩ next ⟨g1, g2⟩ hn
  dsimp only at g1 g2 hn ⊢
  by_cases hi : i < (f.length : Int)
  · have hin : i.toNat < f.length := by omega
    refine Xh hi ⟨⟨g1.1, hi⟩, ⟨g1.1, hi⟩, ?_⟩
    have hmem : f.getD i.toNat default ∈ f := Jp hin
    have fr := hf.canon.at_range hin
    refine Zt4 hd hlen hT (hf.mono hmem) (ff.pos _ hmem) hdr fun o1 h1 => ?_
    have l1 := h1.ln
    have l2 := g2.ln
    rw [List.length_take] at l2
    refine Zfz g2.can h1.can (by omega) (by omega) (by omega) fun out' ho => ?_
    rw [i64_in (i + 1) (by omega)]
    refine hn _ ⟨by dsimp only; omega, ?_⟩ (by dsimp only; omega)
    dsimp only
    rw [show (i + 1).toNat = i.toNat + 1 by omega, Zal hin]
    refine ⟨ho.can, fun x => ?_, fun y hy => ?_, ?_⟩
    · rw [ho.cf]
      have e : aT1 a.degrees t.drop (t.images.map (·.terms)) (f.take i.toNat ++ [f.getD i.toNat default]) x = aT1 a.degrees t.drop (t.images.map (·.terms)) (f.take i.toNat) x + (f.getD i.toNat default).factor * aP a.degrees t.drop (t.images.map (·.terms)) (f.getD i.toNat default).mono x a.degrees.length := by
        unfold aT1; rw [Zew]; simp [tot]
      rw [e, Int.add_emod, g2.cf, Int.mul_emod, h1.cf, ← Int.mul_emod, ← Int.add_emod]
    · obtain ⟨z, hz, ez⟩ := ho.mo y hy
      rcases hz with hz | hz
      · obtain ⟨u, hu, q⟩ := g2.mo z hz
        exact ⟨u, List.mem_append_left _ hu, by rw [← ez]; exact q⟩
      · obtain ⟨j, u, q1, q2⟩ := h1.mo z hz
        exact ⟨f.getD i.toNat default, by simp, ⟨j, u, q1, by rw [← ez]; exact q2⟩⟩
    · have := ho.ln
      rw [List.length_append, List.length_take, List.length_singleton]; omega
  · refine Xn hi (h out ?_)
    rw [List.take_of_length_le (by omega)] at g2; exact g2
end Go.Proofs.Ytaagfepgbofmlaa
set_option linter.unusedVariables false
set_option linter.unusedSimpArgs false
namespace Go.Proofs.Ytaagfepgbofmlaa
open Go Vc
theorem Zt6 {ds : List Int} {T : List Term} {K : List (A8 × Int) → Prop} {m : A8} {v : Int} {i : Nat} {out ml : List (A8 × Int)} (hd : OkDeg ds) (hi : i < ds.length) (hf : OkForm ds T) (ff : FitT T) (hm : OkMono ds m) (pm : ∀ i, i < 8 → 0 ≤ m.get i ∧ m.get i ≤ 255) (hp : 0 < m.get i) (ho : MapOk out) (hml : IsMap T ml)
    (h : ∀ out', MapOk out' → (∀ x, co out' x % 10007 = (co out x + v * triC ds (leftA m i) (backA m i) T x) % 10007) → (∀ y, y ∈ out' → (∃ z, z ∈ out ∧ z.1 = y.1) ∨ ∃ u, u ∈ T ∧ y.1 = ((leftA m i).add u.mono).add (backA m i) ∧ ¬ Clash ds (leftA m i) u.mono ∧ ¬ Clash ds ((leftA m i).add u.mono) (backA m i)) → K out') :
    X4 (Zy ([] : List (A8 × Int)) (leftA m i) 1) ds ml (fun r => X4 r ds (Zy ([] : List (A8 × Int)) (backA m i) 1) (fun r2 => Zaa v (fun k => Zab out r2 k K))) := by
  have h8 := hd.1
  have hi8 : i < 8 := by omega
  have hm20 := Zbg (Za0 hm) pm
  obtain ⟨lb, bb, lbb⟩ := Zh6 hm20 hp
  obtain ⟨wl, wb⟩ := Zg9 hm hi8 hp
  have hml20 : ∀ p, p ∈ ml → OkMono ds p.1 ∧ ∃ t, t ∈ T ∧ t.mono = p.1 ∧ ∀ q, q < 8 → 0 ≤ p.1.get q ∧ p.1.get q ≤ 20 := fun p hpm => by
    obtain ⟨t, ht, e⟩ := hml.ks p hpm
    rw [← e]
    exact ⟨hf.mono ht, t, ht, rfl, Zbg (Za0 (hf.mono ht)) (ff.pos t ht)⟩
  show X4 [(leftA m i, 1)] ds ml _
  refine Zh0 hd (Zf1 _) (fun p hp' => by obtain rfl := List.mem_singleton.1 hp'; exact wl) (fun p hp' q hq => by obtain rfl := List.mem_singleton.1 hp'; exact (lb q hq).1) hml.ok (fun p hpm => (hml20 p hpm).1.wk) (fun p hpm q hq => by obtain ⟨_, t, _, _, b⟩ := hml20 p hpm; exact (b q hq).1) fun own hown => ?_
  have wown : ∀ u, u ∈ own → ∃ z, z ∈ T ∧ u.1 = (leftA m i).add z.mono ∧ ¬ Clash ds (leftA m i) z.mono ∧ Xs ds u.1 ∧ ∀ q, q < 8 → 0 ≤ u.1.get q ∧ u.1.get q ≤ 40 := fun u hu => by
    obtain ⟨t, z, ht, hz, e, hcl⟩ := hown.ks u hu
    obtain rfl := List.mem_singleton.1 ht
    obtain ⟨hzm, tt, htt, ett, hz20⟩ := hml20 z hz
    refine ⟨tt, htt, by rw [ett]; exact e, by rw [ett]; exact hcl, ?_, fun q hq => ?_⟩
    · rw [e]
      exact Zb6 wl hzm.wk (fun q hq => (lb q hq).1) (fun q hq => (hz20 q hq).1) (fun q hq => by have := lb q hq; have := hz20 q hq; dsimp only; omega) hcl
    · rw [e, A8.get_add]
      have := lb q hq
      have := hz20 q hq
      dsimp only
      omega
  show X4 own ds [(backA m i, 1)] _
  refine Zh0 hd hown.ok (fun u hu => by obtain ⟨_, _, _, _, w, _⟩ := wown u hu; exact w) (fun u hu q hq => by obtain ⟨_, _, _, _, _, b⟩ := wown u hu; exact (b q hq).1) (Zf1 _) (fun p hp' => by obtain rfl := List.mem_singleton.1 hp'; exact wb) (fun p hp' q hq => by obtain rfl := List.mem_singleton.1 hp'; exact (bb q hq).1) fun prod hpr => ?_
  refine Zjk ?_
  refine Zjo ho hpr.ok (by omega) fun out' hout => h out' hout.ok (fun x => ?_) fun y hy => ?_
  · rw [hout.cf]
    have e1 := Zmd hml hf.canon hown hpr x
    rw [Int.add_emod, Int.mul_emod, e1, Int.emod_emod, ← Int.mul_emod, ← Int.add_emod]
  · obtain ⟨z, hz, e⟩ := hout.ks y hy
    rcases hz with hz | hz
    · exact .inl ⟨z, hz, e⟩
    · obtain ⟨t, b, ht, hb, e2, hcl2⟩ := hpr.ks z hz
      obtain rfl := List.mem_singleton.1 hb
      obtain ⟨u, hu, e3, hcl, _⟩ := wown t ht
      refine .inr ⟨u, hu, by rw [← e, e2, e3], hcl, ?_⟩
      rw [← e3]; exact hcl2
def BMono (ds : List Int) (imgs : List (List Term)) (y m : A8) : Prop := ∃ j u, j < ds.length ∧ 0 < m.get j ∧ u ∈ imgs.getD j default ∧ y = ((leftA m j).add u.mono).add (backA m j) ∧ ¬ Clash ds (leftA m j) u.mono ∧ ¬ Clash ds ((leftA m j).add u.mono) (backA m j)
structure IsB (ds : List Int) (dr : Int) (imgs : List (List Term)) (m : A8) (n : Int) (out : List (A8 × Int)) (i : Nat) (out' : List (A8 × Int)) : Prop where
  ok : MapOk out'
  cf : ∀ x, co out' x % 10007 = (co out x + n * aP ds dr imgs m x i) % 10007
  mo : ∀ y, y ∈ out' → (∃ z, z ∈ out ∧ z.1 = y.1) ∨ BMono ds imgs y.1 m
theorem IsB.zero {ds : List Int} {dr : Int} {imgs : List (List Term)} {m : A8} {n : Int} {out : List (A8 × Int)} (h : MapOk out) : IsB ds dr imgs m n out 0 out := ⟨h, fun x => by rw [aP, Int.mul_zero, Int.add_zero], fun y hy => .inl ⟨y, hy, rfl⟩⟩
theorem IsB.skip {ds : List Int} {dr : Int} {imgs : List (List Term)} {m : A8} {n : Int} {out o1 : List (A8 × Int)} {i : Nat} (h : IsB ds dr imgs m n out i o1) (hp : ¬ m.get i > 0) : IsB ds dr imgs m n out (i + 1) o1 := ⟨h.ok, fun x => by rw [aP, if_neg hp, Int.add_zero]; exact h.cf x, h.mo⟩
theorem IsB.step {ds : List Int} {dr v : Int} {imgs : List (List Term)} {m : A8} {n : Int} {out o1 o2 : List (A8 × Int)} {i : Nat} (h : IsB ds dr imgs m n out i o1) (hd : OkDeg ds) (hi : i < ds.length) (hm : OkMono ds m) (hp : m.get i > 0) (hv : v = aK1 ds dr m i * n) (ok : MapOk o2)
    (cf : ∀ x, co o2 x % 10007 = (co o1 x + v * triC ds (leftA m i) (backA m i) (imgs.getD i default) x) % 10007)
    (mo : ∀ y, y ∈ o2 → (∃ z, z ∈ o1 ∧ z.1 = y.1) ∨ ∃ u, u ∈ imgs.getD i default ∧ y.1 = ((leftA m i).add u.mono).add (backA m i) ∧ ¬ Clash ds (leftA m i) u.mono ∧ ¬ Clash ds ((leftA m i).add u.mono) (backA m i)) : IsB ds dr imgs m n out (i + 1) o2 := by
  obtain ⟨f1, f2, f3⟩ := Zpo hm hi hd.1 hp
  refine ⟨ok, fun x => ?_, fun y hy => ?_⟩
  · rw [cf, aP, if_pos hp, Zpn f1 f2 f3, hv, Int.add_emod, h.cf, ← Int.add_emod, Int.mul_add]
    congr 1
    rw [Int.mul_comm (aK1 ds dr m i) n, Int.mul_assoc]
    omega
  · rcases mo y hy with ⟨z, hz, e⟩ | ⟨u, hu, e, c1, c2⟩
    · rcases h.mo z hz with ⟨w, hw, e2⟩ | q
      · exact .inl ⟨w, hw, e2.trans e⟩
      · exact .inr (by rw [← e]; exact q)
    · exact .inr ⟨i, u, hi, hp, hu, e, c1, c2⟩
end Go.Proofs.Ytaagfepgbofmlaa
set_option linter.unusedVariables false
set_option linter.unusedSimpArgs false
namespace Go.Proofs.Ytaagfepgbofmlaa
open Go Vc
structure IsBM (ds : List Int) (dr : Int) (imgs : List (List Term)) (s out : List (A8 × Int)) : Prop where
  ok : MapOk out
  cf : ∀ x, co out x % 10007 = tot (fun p => p.2 * aP ds dr imgs p.1 x ds.length) s % 10007
  mo : ∀ y, y ∈ out → ∃ t, t ∈ s ∧ BMono ds imgs y.1 t.1
theorem Zt7 {a : Alg} {dr : Int} {ms : List (List (A8 × Int))} {imgs : List (List Term)} {f : List Term} {s : List (A8 × Int)} {K : List (A8 × Int) → Prop} (hd : OkDeg a.degrees) (hdr : 0 ≤ dr ∧ dr ≤ 12) (hlen : ms.length = a.degrees.length) (hI : ∀ i, i < a.degrees.length → OkForm a.degrees (imgs.getD i default) ∧ FitT (imgs.getD i default) ∧ IsMap (imgs.getD i default) (ms.getD i default)) (hs : IsMap f s) (hf : OkForm a.degrees f) (ff : FitT f)
    (h : ∀ out, IsBM a.degrees dr imgs s out → K out) : Zge (⟨a, dr, ms⟩ : Vc.Derive) s K := by
  have h8 := hd.1
  unfold Zge
  dsimp only
  refine Zet (fun l' (out : List (A8 × Int)) => (∀ p, p ∈ l' → p ∈ s) ∧ MapOk out ∧ (∀ x, (co out x + tot (fun p => p.2 * aP a.degrees dr imgs p.1 x a.degrees.length) l') % 10007 = tot (fun p => p.2 * aP a.degrees dr imgs p.1 x a.degrees.length) s % 10007) ∧ (∀ y, y ∈ out → ∃ t, t ∈ s ∧ BMono a.degrees imgs y.1 t.1)) ?_ ?_ s [] ⟨fun _ h => h, MapOk.nil, fun x => by rw [Zcq, Int.zero_add], by simp⟩
  · intro l' p l'' out next hpk ⟨h0, h1, h2, h3⟩ hn
    have hperm := Zeu hpk
    have hpm : p ∈ s := h0 p (hperm.mem_iff.2 (by simp))
    have hpf := hs.ok.2 p hpm
    obtain ⟨t, ht, et⟩ := hs.ks p hpm
    have hm : OkMono a.degrees p.1 := by rw [← et]; exact hf.mono ht
    have pm : ∀ i, i < 8 → 0 ≤ p.1.get i ∧ p.1.get i ≤ 255 := by rw [← et]; exact ff.pos t ht
    have p20 := Zbg (Za0 hm) pm
    have e3 : ∀ x, tot (fun p => p.2 * aP a.degrees dr imgs p.1 x a.degrees.length) l' = p.2 * aP a.degrees dr imgs p.1 x a.degrees.length + tot (fun p => p.2 * aP a.degrees dr imgs p.1 x a.degrees.length) l'' := fun x => by rw [Zco _ hperm]; rfl
    refine Xg (fun i (t : A8 × List (A8 × Int)) => t.1 = frontA p.1 i ∧ IsB a.degrees dr imgs p.1 p.2 out i t.2) a.degrees.length ?_ ?_ _ _ _ (by omega) ⟨Zjx _, IsB.zero h1⟩
    · rintro i ⟨t1, o1⟩ nx hi ⟨g1, g2⟩ hnx
      dsimp only at g1 g2 hnx ⊢
      subst g1
      have hi8 : i < 8 := by omega
      have b8 : 0 ≤ (i : Int) ∧ (i : Int) < 8 := by omega
      have pmi := p20 i hi8
      refine ⟨b8, ?_⟩
      by_cases hp : p.1.get i > 0
      · refine Xh hp ?_
        obtain ⟨fw, fb⟩ := Zj5 (i := i) hm p20
        refine Zmf hd (fun q hq => by have := fb q hq; omega) ?_
        rw [Zmg h8 _ (Nat.le_refl _), Nat.min_eq_left (by omega)]
        have wb := Zce hd pm i (by omega)
        have wd0 : 0 ≤ dr * wtU a.degrees p.1 i := Int.mul_nonneg hdr.1 wb.1
        have wd1 : dr * wtU a.degrees p.1 i ≤ 12 * 24480 := Int.mul_le_mul hdr.2 (by omega) wb.1 (by omega)
        rw [i64_in (dr * wtU a.degrees p.1 i) (by omega)]
        have el : (frontA p.1 i).set i (IntKind.i64.wrap (p.1.get i - 1)) = leftA p.1 i := by
          rw [i64_in _ (by omega)]
          refine A8.ext_get fun q hq => ?_
          rw [A8.get_set hi8, frontA, leftA, A8.get_mkf _ hq, A8.get_mkf _ hq]
          by_cases e : q = i
          · subst e; rw [if_pos rfl, if_neg (by omega), if_pos rfl]
          · rw [if_neg e]
            by_cases c : q < i
            · rw [if_pos c, if_pos c]
            · rw [if_neg c, if_neg c, if_neg e]
        obtain ⟨okT, fT, mT⟩ := hI i hi
        have goal : ∀ sgn : Int, sgn = sg (dr * wtU a.degrees p.1 i) → ∀ (r : A8), r = backA p.1 i → X4 (Zy ([] : List (A8 × Int)) ((frontA p.1 i).set i (IntKind.i64.wrap (p.1.get i - 1))) 1) a.degrees (ms.getD i default) (fun r24810 => X4 r24810 a.degrees (Zy ([] : List (A8 × Int)) r 1) (fun r24823 => Zaa (IntKind.i64.wrap ((IntKind.i64.wrap (sgn * p.2)) * (p.1.get i))) (fun r24792 => Zab o1 r24823 r24792 (fun m24798 => ((0 ≤ (i : Int) ∧ (i : Int) < 8) ∧ nx ((frontA p.1 i).set i (p.1.get i), m24798)))))) := by
          rintro sgn hsgn r rfl
          have pm1 := Ziv (dr * wtU a.degrees p.1 i)
          rw [← hsgn] at pm1
          have hb : -200120 ≤ sgn * p.2 * p.1.get i ∧ sgn * p.2 * p.1.get i ≤ 200120 := by
            have m1 : 0 ≤ p.2 * p.1.get i ∧ p.2 * p.1.get i ≤ 10006 * 20 := ⟨Int.mul_nonneg (by omega) pmi.1, Int.mul_le_mul (by omega) pmi.2 pmi.1 (by omega)⟩
            rcases pm1 with e | e <;> rw [e, Int.mul_assoc] <;> omega
          rw [el, i64_in (sgn * p.2) (by rcases pm1 with e | e <;> rw [e] <;> omega), i64_in (sgn * p.2 * p.1.get i) (by omega)]
          refine Zt6 hd hi okT fT hm pm hp g2.ok mT fun o2 q1 q2 q3 => ⟨b8, hnx _ ⟨Zh7 hi8, g2.step hd hi hm hp (v := sgn * p.2 * p.1.get i) ?_ q1 q2 q3⟩⟩
          rw [aK1, ← hsgn, Int.mul_assoc, Int.mul_assoc, Int.mul_comm p.2]
        have back : ∀ (E : A8 → Prop), E (backA p.1 i) → Xf (fun (s24543 : A8 × Int) next24544 => (if s24543.2 < IntKind.i64.wrap ((i : Int) + 1) then ((0 ≤ s24543.2 ∧ s24543.2 < 8) ∧ next24544 (s24543.1.set s24543.2.toNat 0, IntKind.i64.wrap (s24543.2 + 1))) else E s24543.1)) (p.1, 0) := by
          intro E hE
          rw [i64_in ((i : Int) + 1) (by omega)]
          refine X1 (fun (s : A8 × Int) => (0 ≤ s.2 ∧ s.2 ≤ i + 1) ∧ ∀ q, q < 8 → s.1.get q = if (q : Int) < s.2 then 0 else p.1.get q) (fun s => i + 1 - s.2.toNat) ?_ ⟨by dsimp only; omega, fun q hq => by rw [if_neg (by dsimp only; omega)]⟩
          rintro ⟨r, j⟩ nx2 ⟨k1, k2⟩ hnx2
          dsimp only at k1 k2 hnx2 ⊢
          by_cases hj : j < (i : Int) + 1
          · refine Xh hj ⟨by omega, ?_⟩
            rw [i64_in (j + 1) (by omega)]
            refine hnx2 _ ⟨by dsimp only; omega, fun q hq => ?_⟩ (by dsimp only; omega)
            dsimp only
            rw [A8.get_set (by omega)]
            by_cases e : q = j.toNat
            · subst e; rw [if_pos rfl, if_pos (by omega)]
            · rw [if_neg e, k2 q hq]
              by_cases c : (q : Int) < j
              · rw [if_pos c, if_pos (by omega)]
              · rw [if_neg c, if_neg (by omega)]
          · refine Xn hj ?_
            have er : r = backA p.1 i := A8.ext_get fun q hq => by
              rw [k2 q hq, backA, A8.get_mkf _ hq]
              by_cases c : i < q
              · rw [if_neg (by omega), if_pos c]
              · rw [if_pos (by omega), if_neg c]
            rw [er]; exact hE
        rcases Zjw wd0 with ⟨ho, es⟩ | ⟨ho, es⟩
        · refine Xh (by rw [Int.tmod_eq_emod_of_nonneg wd0] at ho ⊢; omega) (back (fun r => ((0 ≤ (i : Int) ∧ (i : Int) < 8) ∧ ((0 ≤ (i : Int) ∧ (i : Int) < (ms.length : Int)) ∧ X4 (Zy ([] : List (A8 × Int)) ((frontA p.1 i).set i (IntKind.i64.wrap (p.1.get i - 1))) 1) a.degrees (ms.getD i default) (fun r24810 => X4 r24810 a.degrees (Zy ([] : List (A8 × Int)) r 1) (fun r24823 => Zaa (IntKind.i64.wrap ((IntKind.i64.wrap ((-1) * p.2)) * (p.1.get i))) (fun r24792 => Zab o1 r24823 r24792 (fun m24798 => ((0 ≤ (i : Int) ∧ (i : Int) < 8) ∧ nx ((frontA p.1 i).set i (p.1.get i), m24798))))))))) ⟨b8, ⟨b8.1, by omega⟩, goal (-1) es.symm _ rfl⟩)
        · refine Xn (by rw [Int.tmod_eq_emod_of_nonneg wd0] at ho ⊢; omega) (back (fun r => ((0 ≤ (i : Int) ∧ (i : Int) < 8) ∧ ((0 ≤ (i : Int) ∧ (i : Int) < (ms.length : Int)) ∧ X4 (Zy ([] : List (A8 × Int)) ((frontA p.1 i).set i (IntKind.i64.wrap (p.1.get i - 1))) 1) a.degrees (ms.getD i default) (fun r24810 => X4 r24810 a.degrees (Zy ([] : List (A8 × Int)) r 1) (fun r24823 => Zaa (IntKind.i64.wrap ((IntKind.i64.wrap (1 * p.2)) * (p.1.get i))) (fun r24792 => Zab o1 r24823 r24792 (fun m24798 => ((0 ≤ (i : Int) ∧ (i : Int) < 8) ∧ nx ((frontA p.1 i).set i (p.1.get i), m24798))))))))) ⟨b8, ⟨b8.1, by omega⟩, goal 1 es.symm _ rfl⟩)
      · exact Xn hp ⟨b8, hnx _ ⟨Zh7 hi8, g2.skip hp⟩⟩
    · rintro ⟨t1, o1⟩ ⟨g1, g2⟩
      refine hn _ ⟨fun q hq => h0 q (hperm.mem_iff.2 (List.mem_cons_of_mem _ hq)), g2.ok, fun x => ?_, fun y hy => ?_⟩
      · dsimp only
        rw [← h2 x, e3, Int.add_emod, g2.cf, ← Int.add_emod, Int.add_assoc]
      · rcases g2.mo y hy with ⟨z, hz, e⟩ | q
        · obtain ⟨u, hu, q⟩ := h3 z hz
          exact ⟨u, hu, by rw [← e]; exact q⟩
        · exact ⟨p, hpm, q⟩
  · rintro out ⟨_, h1, h2, h3⟩
    exact h out ⟨h1, fun x => by have := h2 x; simpa [tot] using this, h3⟩
end Go.Proofs.Ytaagfepgbofmlaa
set_option linter.unusedVariables false
set_option linter.unusedSimpArgs false
namespace Go.Proofs.Ytaagfepgbofmlaa
open Go Vc
def Big (n : Nat) : Prop := n < 9223372036854775808
structure LenAlg (a : Alg) : Prop where
  deg : Big a.degrees.length
  img : Big a.images.length
  trm : ∀ f, f ∈ a.images → Big f.terms.length
theorem Zt8 {x : Alg} {u v : Value} {fp : List Nat} {w : World} (h : TAlg.rep x [u, v] fp w) : LenAlg x := by
  have h1 := Xv (Yt h).1
  have h2 := Xv (Yt h).2
  refine ⟨by unfold Big; omega, by unfold Big; omega, fun f hf => ?_⟩
  obtain ⟨i, hi, rfl⟩ := List.getElem_of_mem hf
  obtain ⟨A, c, hv, cs, hl, hc, hr⟩ := Zgr (Yt h).2 i hi
  obtain ⟨z, rfl⟩ := List.length_eq_one_iff.1 (show cs.length = 1 from hl)
  have h3 := Xv (Xb hr)
  unfold Big; omega
theorem Zt9 {f : Vc.Form} {n : Int} {K : Int → Prop} (hl : Big f.terms.length) (hn : 0 ≤ n ∧ n ≤ 1048576) (h1 : (f.terms.length : Int) ≤ n → K (n - f.terms.length)) (h2 : ∀ r, r < 0 → K r) : Zdv f n K := Zsd (by unfold Big at hl; omega) hn h1 h2
theorem Zua {l : List Vc.Form} {n : Int} {K : Int → Prop} (hl : Big l.length) (ht : ∀ f, f ∈ l → Big f.terms.length) (hn : 0 ≤ n ∧ n ≤ 1048576) (h1 : ∀ r, 0 ≤ r → r ≤ n → (l.length : Int) ≤ n → (∀ i, i < l.length → (l.getD i default).terms.length ≤ 1048576) → K r) (h2 : ∀ r, r < 0 → K r) : Zfu l n K := by
  unfold Zfu
  unfold Big at hl
  rw [i64_in _ (by omega)]
  split
  · exact h2 _ (by omega)
  · rename_i q
    refine Xg (fun i (s : Int) => 0 ≤ s ∧ s ≤ n ∧ ∀ j, j < i → (l.getD j default).terms.length ≤ 1048576) l.length ?_ ?_ _ _ _ (by omega) ⟨by omega, by omega, by intro j hj; omega⟩
    · intro i s next hi ⟨g1, g2, g3⟩ hn'
      refine Zt9 (ht _ (Jp hi)) (by omega) (fun hle => ?_) (fun r hr => by rw [if_pos hr]; exact h2 _ (by omega))
      rw [if_neg (by omega)]
      refine hn' _ ⟨by omega, by omega, fun j hj => ?_⟩
      by_cases e : j = i
      · subst e; omega
      · exact g3 j (by omega)
    · intro s ⟨g1, g2, g3⟩
      exact h1 s g1 g2 (by omega) g3
theorem Zub {a : Alg} {K : Int → Prop} (hb : LenAlg a) (h1 : ∀ r, 0 ≤ r → a.degrees.length ≤ 1048576 → a.images.length ≤ 1048576 → (∀ i, i < a.images.length → (a.images.getD i default).terms.length ≤ 1048576) → K r) (h2 : ∀ r, r < 0 → K r) : Zfv a 1048576 K := by
  unfold Zfv Zhu
  have hd := hb.deg
  unfold Big at hd
  rw [i64_in _ (by omega)]
  split
  · dsimp only; rw [if_pos (by omega)]; exact h2 _ (by omega)
  · dsimp only; rw [if_neg (by omega)]
    refine Zua hb.img hb.trm (by omega) (fun r g1 g2 g3 g4 => ?_) (fun r hr => by rw [if_pos hr]; exact h2 _ (by omega))
    rw [if_neg (by omega)]
    exact h1 r g1 (by omega) (by omega) g4
theorem Zuc {l : List Vc.Form} {K : List Vc.Form → Prop} (hl : l.length ≤ 1048576) (ht : ∀ i, i < l.length → (l.getD i default).terms.length ≤ 1048576) (h : K l) : Zfw l K := by
  unfold Zfw
  refine ⟨by omega, ?_⟩
  refine Xg (fun i (s : List Vc.Form) => s.length = l.length ∧ ∀ j, j < i → s.getD j default = l.getD j default) l.length ?_ ?_ _ _ _ (by omega) ⟨by simp, by intro j hj; omega⟩
  · intro i s next hi ⟨h1, h2⟩ hn
    refine Zsc (ht i hi) ⟨by omega, hn _ ⟨by simpa using h1, fun j hj => ?_⟩⟩
    rw [Zbo (by omega)]
    by_cases e : j = i
    · rw [if_pos e, e]
    · rw [if_neg e]; exact h2 j (by omega)
  · intro s ⟨h1, h2⟩
    have : s = l := List.ext_getElem h1 fun j hj hj' => by have := h2 j (by omega); simpa [List.getD, hj, hj'] using this
    rw [this]; exact h
theorem Zh9 {a : Alg} {K : Alg → Prop} (h1 : a.degrees.length ≤ 1048576) (h2 : a.images.length ≤ 1048576) (h3 : ∀ i, i < a.images.length → (a.images.getD i default).terms.length ≤ 1048576) (h : K a) : Zcc a K := by
  unfold Zcc
  exact Zre h1 (Zuc h2 h3 h)
theorem Zud {a : Alg} {K : Bool → Prop} (h : K true) : Zdw a a K := Zr8 (by simpa using h)
def GoodAlg (a : Alg) : Prop := (∀ x, x ∈ a.degrees → Fit .i64 x) ∧ ∀ f, f ∈ a.images → ∀ t, t ∈ f.terms → Zao .u8 t.mono ∧ Fit .i64 t.factor
theorem GoodAlg.fit {a : Alg} (h : GoodAlg a) (h3 : ∀ i, i < a.images.length → (a.images.getD i default).terms.length ≤ 1048576) : Zbp a := fun i hi => ⟨fun t ht => (h.2 _ (Jp hi) t ht).1, h3 i hi⟩
end Go.Proofs.Ytaagfepgbofmlaa
set_option linter.unusedVariables false
set_option linter.unusedSimpArgs false
namespace Go.Proofs.Ytaagfepgbofmlaa
open Go Vc
end Go.Proofs.Ytaagfepgbofmlaa
set_option linter.unusedVariables false
set_option linter.unusedSimpArgs false
namespace Go.Proofs.Ytaagfepgbofmlaa
open Go Vc
theorem Zue {k : Int} {K : Int → Prop} (hk : 0 ≤ k ∧ k ≤ 12) (h : K (if k % 2 = 1 then 1 else 10006)) : Zga k 1 K := by
  unfold Zga
  rw [i64_in (k * 1) (by omega), Int.mul_one, Int.tmod_eq_emod_of_nonneg hk.1]
  by_cases q : k % 2 = 1
  · rw [if_pos q] at h; exact Xh (by omega) h
  · rw [if_neg q] at h; exact Xn (by omega) h
theorem Zuf {k : Int} {K : Int → Prop} (hk : 0 ≤ k ∧ k ≤ 12) (h : K (if k % 2 = 1 then 1 else 10006)) : Zgf k K := by
  unfold Zgf
  rw [Int.tmod_eq_emod_of_nonneg hk.1]
  by_cases q : k % 2 = 1
  · rw [if_pos q] at h; exact Xh q h
  · rw [if_neg q] at h; exact Xn q h
end Go.Proofs.Ytaagfepgbofmlaa
set_option linter.unusedVariables false
set_option linter.unusedSimpArgs false
namespace Go.Proofs.Ytaagfepgbofmlaa
open Go Vc
theorem Zd4 (ds : List Int) (a b : A8) : ∀ k, wtU ds (a.add b) k = wtU ds a k + wtU ds b k := by
  intro k
  induction k with
  | zero => rfl
  | succ k ih => simp only [wtU]; rw [ih, A8.get_add, Int.mul_add]; omega
theorem Zm1 (ds : List Int) (m : A8) (j : Nat) : ∀ k, k ≤ 8 → wtU ds ((frontA m j).add (restA m j)) k = wtU ds m k - if j < k then ds.getD j default else 0 := by
  intro k
  induction k with
  | zero => intro _; simp [wtU]
  | succ k ih =>
    intro hk
    simp only [wtU]
    rw [ih (by omega), A8.get_add, frontA, restA, A8.get_mkf _ (by omega), A8.get_mkf _ (by omega)]
    by_cases c1 : k < j
    · rw [if_pos c1, if_neg (by omega), if_neg (by omega), if_neg (by omega), if_neg (by omega), Int.add_zero]; omega
    · by_cases c2 : k = j
      · subst c2
        rw [if_neg (by omega), if_neg (by omega), if_neg (by omega), if_pos rfl, if_pos (by omega), Int.zero_add, Int.mul_sub, Int.mul_one]; omega
      · rw [if_neg c1, if_pos (by omega), if_pos (by omega), if_pos (by omega), Int.zero_add]; omega
theorem Zug {ds : List Int} {imgs : List (List Term)} {y m : A8} (h8 : ds.length ≤ 8) (h : AMono ds imgs y m) : ∃ j u, j < ds.length ∧ u ∈ imgs.getD j default ∧ wtU ds y ds.length = wtU ds m ds.length - ds.getD j default + wtU ds u.mono ds.length := by
  obtain ⟨j, u, h1, h2, h3, rfl, _, _⟩ := h
  refine ⟨j, u, h1, h3, ?_⟩
  have e := Zm1 ds m j ds.length h8
  rw [Zd4, if_pos h1] at e
  rw [Zd4, Zd4]
  omega
theorem Zuh {ds : List Int} (hd : OkDeg ds) {y : A8} (hp : ∀ q, q < 8 → 0 ≤ y.get q) : ∀ k, k ≤ ds.length → 0 ≤ wtU ds y k ∧ ∀ q, q < k → y.get q ≤ wtU ds y k := by
  intro k
  induction k with
  | zero => intro _; exact ⟨Int.le_refl _, fun q hq => by omega⟩
  | succ k ih =>
    intro hk
    have h8 := hd.1
    obtain ⟨i1, i2⟩ := ih (by omega)
    have hdk := hd.2 k (by omega)
    have hy := hp k (by omega)
    have hm : y.get k ≤ ds.getD k default * y.get k := by
      have := Int.mul_le_mul_of_nonneg_right (a := 1) (b := ds.getD k default) (c := y.get k) (by omega) hy
      rwa [Int.one_mul] at this
    simp only [wtU]
    refine ⟨by omega, fun q hq => ?_⟩
    by_cases c : q = k
    · subst c; omega
    · have := i2 q (by omega); omega
theorem Zui {ds : List Int} (hd : OkDeg ds) {y : A8} (hw : Xs ds y) (hp : ∀ q, q < 8 → 0 ≤ y.get q) (h : wtU ds y ds.length ≤ 20) : OkMono ds y := fun q hq =>
  ⟨fun z => ⟨by have := (Zuh hd hp ds.length (Nat.le_refl _)).2 q z; omega, ((hw q hq).1 z).2⟩, (hw q hq).2⟩
end Go.Proofs.Ytaagfepgbofmlaa
