/- Plain laws: the program's forms. -/
import Derived.Test.YtaagfepgbofmlaaGreatVf1
set_option linter.unusedVariables false
set_option linter.unusedSimpArgs false
namespace Go.Proofs.YtaagfepgbofmlaaGreat
open Go Vc
theorem m_compare {a b : A8} {K : Int → Prop} (ha : OkP a) (hb : OkP b) (h : K (pcmp a b)) : f_impl_power_compare a b K := cmpText_meets ha hb h
def FitT (l : List Term) : Prop := ∀ t, t ∈ l → FitA .u8 t.mono
theorem FitT.pos {l : List Term} (h : FitT l) : PosT l := fun t ht i hi => fit_u8 (fitA_get (h t ht) hi)
theorem okP_u8 {a : A8} (h : FitA .u8 a) : OkP a := fun x hx => by
  obtain ⟨i, hi, rfl⟩ := A8.mem_list.1 hx
  have := fit_u8 (fitA_get h hi)
  omega
theorem m_isFactor {x : Int} {K : Bool → Prop} (h : K (decide (1 ≤ x ∧ x ≤ 10006))) : f_impl_isFactor x K := m_within h
theorem m_isForm {ds : List Int} {l : List Term} {K : Bool → Prop} (hd : OkDeg ds) (hp : FitT l) (h : K (decide (OkForm ds l))) : f_impl_isForm ds ⟨l⟩ K := by
  unfold f_impl_isForm
  dsimp only
  split
  · rename_i q
    have : ¬ OkForm ds l := fun z => by have := z.1; omega
    rwa [decide_eq_false this] at h
  · rename_i q0
    refine forN_inv (fun i _ => ∀ j, j < i → OkMono ds (l.getD j default).mono ∧ (1 ≤ (l.getD j default).factor ∧ (l.getD j default).factor ≤ 10006) ∧ (0 < j → pcmp (l.getD (j - 1) default).mono (l.getD j default).mono < 0)) l.length ?_ ?_ _ _ _ (by omega) (by intro j hj; omega)
    · intro i s next hi hI hn
      have bad : ¬ (OkMono ds (l.getD i default).mono ∧ (1 ≤ (l.getD i default).factor ∧ (l.getD i default).factor ≤ 10006) ∧ (0 < i → pcmp (l.getD (i - 1) default).mono (l.getD i default).mono < 0)) → K false := by
        intro b
        have : ¬ OkForm ds l := fun q => b (q.2 _ hi)
        rwa [decide_eq_false this] at h
      refine m_isMonomial hd (fun q hq => (hp.pos _ (getD_mem hi) q hq).1) ?_
      split
      · rename_i q
        exact bad fun z => q (decide_eq_true z.1)
      · rename_i q1
        have q1 : OkMono ds (l.getD i default).mono := of_decide_eq_true (Decidable.not_not.1 q1)
        refine m_isFactor ?_
        split
        · rename_i q
          exact bad fun z => q (decide_eq_true z.2.1)
        · rename_i q2
          have q2 : 1 ≤ (l.getD i default).factor ∧ (l.getD i default).factor ≤ 10006 := of_decide_eq_true (Decidable.not_not.1 q2)
          have ok : (0 < i → pcmp (l.getD (i - 1) default).mono (l.getD i default).mono < 0) → next () := fun q3 => by
            refine hn _ fun j hj => ?_
            by_cases hji : j = i
            · subst hji; exact ⟨q1, q2, q3⟩
            · exact hI j (by omega)
          split
          · have w2 : IntKind.i64.wrap ((i : Int) - 1) = (i : Int) - 1 := i64_in _ (by omega)
            rw [w2, show ((i : Int) - 1).toNat = i - 1 by omega]
            have f1 := hp _ (getD_mem (show i - 1 < l.length by omega))
            have f2 := hp _ (getD_mem hi)
            refine ⟨by omega, m_powerOf f1 (m_powerOf f2 (m_compare (okP_u8 f1) (okP_u8 f2) ?_))⟩
            split
            · rename_i q
              exact bad fun z => by have := z.2.2 (by omega); omega
            · rename_i q
              exact ok fun _ => by omega
          · exact ok fun q => by omega
    · intro s hI
      have : OkForm ds l := ⟨by omega, hI⟩
      rwa [decide_eq_true this] at h
/-! ### Sums -/
/-- A map of a form: its coefficients, its monomials. -/
structure IsMap (l : List Term) (m : List (A8 × Int)) : Prop where
  ok : MapOk m
  cf : ∀ x, co m x = coT l x
  ks : ∀ p, p ∈ m → ∃ t, t ∈ l ∧ t.mono = p.1
theorem m_sumOf {l : List Term} {K : List (A8 × Int) → Prop} (hc : Canon l) (hp : FitT l) (h : ∀ m, IsMap l m → K m) : f_impl_sumOf ⟨l⟩ K := by
  unfold f_impl_sumOf
  dsimp only
  refine forN_inv (fun i (s : List (A8 × Int)) => IsMap (l.take i) s) l.length ?_ ?_ _ _ _ (by omega) ⟨MapOk.nil, by intro x; rfl, by simp⟩
  · intro i s next hi hI hn
    refine m_powerOf (hp _ (getD_mem hi)) (hn _ ?_)
    rw [take_getD hi]
    have hnew : co s (l.getD i default).mono = 0 := by
      rw [hI.cf]
      refine coT_zero fun t ht => ?_
      obtain ⟨j, hj, rfl⟩ := List.getElem_of_mem ht
      rw [List.length_take] at hj
      have := hc.at_lt (show j < i by omega) hi
      have hjl : j < l.length := by omega
      simp only [List.getElem_take]
      rw [show l.getD j default = l[j] by simp [List.getD, hjl]] at this
      exact pcmp_ne this
    refine ⟨hI.ok.put (hc.at_range hi), fun x => ?_, fun p hpm => ?_⟩
    · rw [co_mset hI.ok.1, coT_snoc, ← hI.cf]
      by_cases hx : x = (l.getD i default).mono
      · subst hx; rw [if_pos rfl, if_pos rfl, hnew, Int.zero_add]
      · rw [if_neg hx, if_neg (fun e => hx e.symm), Int.add_zero]
    · rcases mset_mem hpm with rfl | q
      · exact ⟨_, by simp, rfl⟩
      · obtain ⟨t, ht, e⟩ := hI.ks p q
        exact ⟨t, by simp [ht], e⟩
  · intro s hI
    rw [List.take_length] at hI
    exact h _ hI
theorem m_sum_add {l : List (A8 × Int)} {x : A8} {c : Int} {K : List (A8 × Int) → Prop} (hl : MapOk l) (hc : -100000000000 ≤ c ∧ c ≤ 100000000000) (h : ∀ l', IsPut l x c l' → K l') : f_impl_sum_add l x c K := by
  unfold f_impl_sum_add
  rw [mget_co hl.1]
  have := hl.range x
  rw [i64_in _ (by omega)]
  refine m_field ?_
  split
  · rename_i q; exact h _ (IsPut.put hl rfl q)
  · rename_i q; exact h _ (IsPut.del hl (by omega))
/-- What sum.addAll leaves: k times t is added. -/
structure IsSum (s t : List (A8 × Int)) (k : Int) (out : List (A8 × Int)) : Prop where
  ok : MapOk out
  cf : ∀ m, co out m % 10007 = (co s m + k * co t m) % 10007
  ks : ∀ p, p ∈ out → ∃ q, (q ∈ s ∨ q ∈ t) ∧ q.1 = p.1
  ln : out.length ≤ s.length + t.length
theorem m_addAll {s t : List (A8 × Int)} {k : Int} {K : List (A8 × Int) → Prop} (hs : MapOk s) (ht : MapOk t) (hk : 0 ≤ k ∧ k ≤ 10006) (h : ∀ out, IsSum s t k out → K out) : f_impl_sum_addAll s t k K := by
  unfold f_impl_sum_addAll
  refine mapP_inv (fun l' (out : List (A8 × Int)) => (∀ p, p ∈ l' → p ∈ t) ∧ MapOk out ∧ (∀ m, (co out m + k * co l' m) % 10007 = (co s m + k * co t m) % 10007) ∧ (∀ p, p ∈ out → ∃ q, (q ∈ s ∨ q ∈ t) ∧ q.1 = p.1) ∧ out.length + l'.length ≤ s.length + t.length) ?_ ?_ t s ⟨fun _ h => h, hs, fun _ => rfl, fun p hp => ⟨p, .inl hp, rfl⟩, by omega⟩
  · intro l' p l'' out next hp ⟨h0, h1, h2, h3, h4⟩ hn
    have hperm := pick_perm hp
    have hpm : p ∈ l' := hperm.mem_iff.2 (by simp)
    have hpt := ht.2 p (h0 p hpm)
    have hb := fac_bd (show 0 ≤ p.2 ∧ p.2 ≤ 10006 by omega) hk
    rw [i64_in _ (by omega)]
    have htm := tmod_bd (p.2 * k)
    refine m_sum_add h1 (by omega) fun out' ho => hn _ ⟨fun q hq => h0 q (hperm.mem_iff.2 (by simp [hq])), ho.ok, fun m => ?_, fun q hq => ?_, ?_⟩
    · have e1 := ho.cf m
      have e2 := h2 m
      have e3 : co l' m = (if p.1 = m then p.2 else 0) + co l'' m := by rw [co, tot_perm _ hperm]; rfl
      rw [e3, Int.mul_add] at e2
      by_cases hm : p.1 = m
      · rw [if_pos hm] at e1 e2
        have e4 := tmod_emod (p.2 * k)
        rw [Int.mul_comm k p.2] at e2
        omega
      · rw [if_neg hm] at e1 e2
        omega
    · rcases ho.ks q hq with e | ⟨q', hq', e⟩
      · exact ⟨p, .inr (h0 p hpm), e.symm⟩
      · obtain ⟨z, hz, e'⟩ := h3 q' hq'
        exact ⟨z, hz, e'.trans e⟩
    · have := ho.ln
      have := pick_len hp
      omega
  · intro out ⟨_, h1, h2, h3, h4⟩
    exact h _ ⟨h1, fun m => by have := h2 m; rw [co_nil, Int.mul_zero, Int.add_zero] at this; exact this, h3, by simpa using h4⟩
/-! ### Products -/
def shM (ds : List Int) (p : A8 × Int) (t : List (A8 × Int)) (m : A8) : Int := tot (fun q => pr1 ds p.1 p.2 q.1 q.2 m) t
def prM (ds : List Int) (s t : List (A8 × Int)) (m : A8) : Int := tot (fun p => shM ds p t m) s
structure IsProdM (ds : List Int) (s t out : List (A8 × Int)) : Prop where
  ok : MapOk out
  cf : ∀ m, co out m % 10007 = prM ds s t m % 10007
  ks : ∀ p, p ∈ out → ∃ a b, a ∈ s ∧ b ∈ t ∧ p.1 = a.1.add b.1 ∧ ¬ Clash ds a.1 b.1
theorem m_sumTimes {ds : List Int} {s t : List (A8 × Int)} {K : List (A8 × Int) → Prop} (hd : OkDeg ds) (hs : MapOk s) (ws : ∀ p, p ∈ s → WkMono ds p.1) (ps : ∀ p, p ∈ s → ∀ i, i < 8 → 0 ≤ p.1.get i) (ht : MapOk t) (wt : ∀ p, p ∈ t → WkMono ds p.1) (pt : ∀ p, p ∈ t → ∀ i, i < 8 → 0 ≤ p.1.get i)
    (h : ∀ out, IsProdM ds s t out → K out) : f_impl_sum_times s ds t K := by
  unfold f_impl_sum_times
  refine mapP_inv (fun l' (out : List (A8 × Int)) => (∀ p, p ∈ l' → p ∈ s) ∧ MapOk out ∧ (∀ m, (co out m + prM ds l' t m) % 10007 = prM ds s t m % 10007) ∧ (∀ p, p ∈ out → ∃ a b, a ∈ s ∧ b ∈ t ∧ p.1 = a.1.add b.1 ∧ ¬ Clash ds a.1 b.1)) ?_ ?_ s [] ⟨fun _ h => h, MapOk.nil, fun m => by rw [co_nil, Int.zero_add], by simp⟩
  · intro l' p l'' out next hp ⟨h0, h1, h2, h3⟩ hn
    have hperm := pick_perm hp
    have hpm : p ∈ s := h0 p (hperm.mem_iff.2 (by simp))
    have hpf := hs.2 p hpm
    have e3 : ∀ m, prM ds l' t m = shM ds p t m + prM ds l'' t m := fun m => by rw [prM, tot_perm _ hperm]; rfl
    refine mapP_inv (fun k' (o2 : List (A8 × Int)) => (∀ q, q ∈ k' → q ∈ t) ∧ MapOk o2 ∧ (∀ m, (co o2 m + shM ds p k' m) % 10007 = (co out m + shM ds p t m) % 10007) ∧ (∀ q, q ∈ o2 → ∃ a b, a ∈ s ∧ b ∈ t ∧ q.1 = a.1.add b.1 ∧ ¬ Clash ds a.1 b.1)) ?_ ?_ t out ⟨fun _ h => h, h1, fun _ => rfl, h3⟩
    · intro k' q k'' o2 next' hq ⟨g0, g1, g2, g3⟩ hn'
      have hperm2 := pick_perm hq
      have hqm : q ∈ t := g0 q (hperm2.mem_iff.2 (by simp))
      have hqf := ht.2 q hqm
      have e4 : ∀ m, shM ds p k' m = pr1 ds p.1 p.2 q.1 q.2 m + shM ds p k'' m := fun m => by rw [shM, tot_perm _ hperm2]; rfl
      refine m_times hd (ws p hpm) (wt q hqm) (ps p hpm) (pt q hqm) ?_
      split
      · rename_i hsg
        rw [mul1_bd (joined_nz hsg).2.2 hpf hqf]
        have htm := tmod_bd ((joined ds p.1 q.1).2 * (p.2 * q.2))
        refine m_sum_add g1 (by omega) fun o3 ho => hn' _ ⟨fun z hz => g0 z (hperm2.mem_iff.2 (by simp [hz])), ho.ok, fun m => ?_, fun z hz => ?_⟩
        · have e1 := ho.cf m
          have e2 := g2 m
          rw [e4, pr1] at e2
          by_cases hm : (joined ds p.1 q.1).1 = m
          · rw [if_pos hm] at e1 e2
            have e5 := tmod_emod ((joined ds p.1 q.1).2 * (p.2 * q.2))
            omega
          · rw [if_neg hm] at e1 e2
            omega
        · rcases ho.ks z hz with e | ⟨z', hz', e⟩
          · exact ⟨p, q, hpm, hqm, by rw [e, (joined_nz hsg).2.1], (joined_nz hsg).1⟩
          · obtain ⟨a, b, ha, hb, e', hc⟩ := g3 z' hz'
            exact ⟨a, b, ha, hb, e ▸ e', hc⟩
      · rename_i hsg
        refine hn' _ ⟨fun z hz => g0 z (hperm2.mem_iff.2 (by simp [hz])), g1, fun m => ?_, g3⟩
        have e2 := g2 m
        rw [e4, pr1, show (joined ds p.1 q.1).2 = 0 by simpa using hsg] at e2
        simpa using e2
    · intro o2 ⟨_, g1, g2, g3⟩
      refine hn _ ⟨fun q hq => h0 q (hperm.mem_iff.2 (by simp [hq])), g1, fun m => ?_, g3⟩
      have e1 := g2 m
      have e2 := h2 m
      rw [e3] at e2
      rw [show shM ds p [] m = 0 from rfl] at e1
      omega
  · intro out ⟨_, h1, h2, h3⟩
    exact h _ ⟨h1, fun m => by have := h2 m; rw [show prM ds [] t m = 0 from rfl, Int.add_zero] at this; exact this, h3⟩
/-- Sums over a map of a form are sums over the form. -/
theorem map_tot {l : List Term} {k : List (A8 × Int)} (hk : IsMap l k) (hc : Canon l) (F : A8 → Int → Int) (hF : ∀ a, F a 0 = 0) : tot (fun p => F p.1 p.2) k = tot (fun t => F t.mono t.factor) l := by
  have hnd : (l.map fun t => (t.mono, t.factor)).Nodup := by
    refine List.pairwise_map.2 (hc.1.imp fun {a b} h e => ?_)
    exact pcmp_ne h (congrArg Prod.fst e)
  have hperm : k.Perm (l.map fun t => (t.mono, t.factor)) := by
    have hkn : k.Nodup := by
      have := hk.ok.1
      exact List.Pairwise.imp (fun {a b} h e => h (congrArg Prod.fst e)) (List.pairwise_map.1 this)
    refine (List.perm_ext_iff_of_nodup hkn hnd).2 fun p => ?_
    have atk : ∀ p, p ∈ k → co k p.1 = p.2 := by
      intro p hp
      obtain ⟨i, hi, rfl⟩ := List.getElem_of_mem hp
      have hkk := hk.ok.1
      clear hk hkn
      induction k generalizing i with
      | nil => simp at hi
      | cons q k ih =>
        simp only [List.map_cons, List.nodup_cons] at hkk
        rw [co_cons]
        cases i with
        | zero => rw [List.getElem_cons_zero, if_pos rfl, co_zero fun t ht e => hkk.1 (List.mem_map.2 ⟨t, ht, e⟩), Int.add_zero]
        | succ i =>
          have hi' : i < k.length := by simpa using hi
          rw [List.getElem_cons_succ, if_neg (fun e => hkk.1 (List.mem_map.2 ⟨_, List.getElem_mem hi', e.symm⟩)), Int.zero_add]
          exact ih i hi' (List.getElem_mem hi') hkk.2
    have atl : ∀ t, t ∈ l → coT l t.mono = t.factor := by
      intro t ht
      clear hk hkn hnd atk
      induction l with
      | nil => simp at ht
      | cons q l ih =>
        rcases List.mem_cons.1 ht with rfl | ht
        · exact hc.at_head
        · rw [coT_cons, if_neg (pcmp_ne (hc.head t ht)), Int.zero_add]; exact ih hc.tail ht
    constructor
    · intro hp
      obtain ⟨t, ht, e⟩ := hk.ks p hp
      refine List.mem_map.2 ⟨t, ht, ?_⟩
      have h1 := atk p hp
      rw [hk.cf, ← e, atl t ht] at h1
      rw [e, h1]
    · intro hp
      obtain ⟨t, ht, rfl⟩ := List.mem_map.1 hp
      have h1 := hk.cf t.mono
      rw [atl t ht] at h1
      have hnz := hc.2 t ht
      have : ∃ p, p ∈ k ∧ p.1 = t.mono := by
        refine Classical.byContradiction fun hno => ?_
        rw [co_zero (fun p hp e => hno ⟨p, hp, e⟩)] at h1
        omega
      obtain ⟨p, hp, e⟩ := this
      have h2 := atk p hp
      rw [e, h1] at h2
      rw [← e, h2]; exact hp
  rw [tot_perm _ hperm, tot_map]
/-- A form out of a sum. -/
def Low (a : A8) : Prop := ∀ i, i < 8 → a.get i ≤ 20
instance (a : A8) : Decidable (Low a) := inferInstanceAs (Decidable (∀ i, i < 8 → _))
def formR (l : List Term) : Vc.Form × Int := if l.length ≤ 400 ∧ ∀ t, t ∈ l → Low t.mono then (⟨l⟩, 0) else (⟨[]⟩, 3)
theorem m_formG {m : List (A8 × Int)} {K : Vc.Form → Int → Prop} (hm : MapOk m) (hok : ∀ p, p ∈ m → OkP p.1) (h : ∀ l, Canon l → (∀ x, coT l x = co m x) → (∀ t, t ∈ l → ∃ p, p ∈ m ∧ p.1 = t.mono) → K (formR l).1 (formR l).2) : f_impl_sum_form m K := by
  by_cases hl : m.length ≤ 400
  · have hlist : ∀ xs : List A8, xs.Perm (m.map (·.1)) → (∀ t, t ∈ xs.map (fun x => (⟨x, (mget m x).getD 0⟩ : Term)) → ∃ p, p ∈ m ∧ p.1 = t.mono) ∧ (xs.map (fun x => (⟨x, (mget m x).getD 0⟩ : Term))).length = m.length := by
      intro xs hp
      refine ⟨fun t ht => ?_, by rw [List.length_map, hp.length_eq, List.length_map]⟩
      obtain ⟨x, hx, rfl⟩ := List.mem_map.1 ht
      obtain ⟨p, hpm, e⟩ := List.mem_map.1 (hp.mem_iff.1 hx)
      exact ⟨p, hpm, e⟩
    refine m_form hl hok ?_ ?_
    · intro hbad
      obtain ⟨xs, hxs, hw⟩ := sorted_ex (m.map (·.1))
      obtain ⟨h1, h2⟩ := canon_of_map hm hxs hw
      obtain ⟨h3, h4⟩ := hlist xs hxs
      have := h _ h1 h2 h3
      rw [formR, if_neg] at this
      · exact this
      · rintro ⟨_, q⟩
        obtain ⟨p, hp, i, hi, hgt⟩ := hbad
        have hx : p.1 ∈ xs := hxs.mem_iff.2 (List.mem_map.2 ⟨p, hp, rfl⟩)
        have := q _ (List.mem_map.2 ⟨p.1, hx, rfl⟩) i hi
        dsimp only at this
        omega
    · intro hle xs hxs hw
      obtain ⟨h1, h2⟩ := canon_of_map hm hxs hw
      obtain ⟨h3, h4⟩ := hlist xs hxs
      have := h _ h1 h2 h3
      rw [formR, if_pos] at this
      · exact this
      · refine ⟨by omega, fun t ht i hi => ?_⟩
        obtain ⟨p, hp, e⟩ := h3 t ht
        rw [← e]; exact hle p hp i hi
  · obtain ⟨xs, hxs, hw⟩ := sorted_ex (m.map (·.1))
    obtain ⟨h1, h2⟩ := canon_of_map hm hxs hw
    have hln : (xs.map (fun x => (⟨x, (mget m x).getD 0⟩ : Term))).length = m.length := by rw [List.length_map, hxs.length_eq, List.length_map]
    have := h _ h1 h2 (fun t ht => by
      obtain ⟨x, hx, rfl⟩ := List.mem_map.1 ht
      obtain ⟨p, hpm, e⟩ := List.mem_map.1 (hxs.mem_iff.1 hx)
      exact ⟨p, hpm, e⟩)
    rw [formR, if_neg (by omega)] at this
    unfold f_impl_sum_form
    rw [if_pos (by omega)]
    exact this
end Go.Proofs.YtaagfepgbofmlaaGreat
