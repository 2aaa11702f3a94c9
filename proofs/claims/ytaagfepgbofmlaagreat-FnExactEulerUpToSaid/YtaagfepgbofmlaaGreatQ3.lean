import Derived.Test.YtaagfepgbofmlaaGreatQ2
set_option linter.unusedSectionVars false
set_option linter.unusedSimpArgs false
set_option linter.unusedVariables false
open Bool renaming false_ne_true→ZTl
open Classical renaming byContradiction→ZUd
open Decidable renaming not_not→ZQk
open Go renaming wp_seq→ZMn,wp_skip→ZMr,wp_ret→ZMv,wp_block→ZMt
open Go.Addr renaming add_lit→ZUi
open Go.Builtin renaming zeroCells→ZTs,append_→ZHi
open Go.Instr renaming lookup→ZT4
open Go.IntKind renaming i64→ZHd,wrap_i64→ZT3
open Go.Program renaming elem→ZTt
open Go.Proofs.Tryz renaming prog→ZMq,underlying122→ZTh,underlying187→ZTj,underlying125→ZTk,underlying22→ZM6,underlying123→ZT5,func159→ZT6,underlying73→ZNa,underlying198→ZT7,underlying85→ZT8,underlying196→ZUl,func115→ZUm
open Go.Result renaming andThen_ok→ZEr
open Go.Sem renaming run_bind→ZEq,run_pure→ZEv
open Go.Value renaming ownBlock→ZFq,slice→ZUj
open Inhabited renaming default→ZEx
open Int renaming tdiv→ZTb,add_zero→ZTi,zero_add→ZO6,le_refl→ZTm,mul_emod→ZTo,tmod→ZFo,mul_zero→ZT0,add_emod→ZT1,mul_nonneg→ZT9,mul_le_mul→ZUa,tmod_eq_emod_of_nonneg→ZPg
open List renaming mem_cons→ZEt,mem_append→ZE4,mem_singleton→ZF6,getD→ZFf,mem_append_left→ZFi,mem_map→ZF9,toArray→ZMl,mem_append_right→ZFj,replicate→ZEs,mem_cons_of_mem→ZTd,map_append→ZTf,mem_singleton_self→ZTg,pairwise_cons→ZFk,length_take→ZTn,getElem_of_mem→ZE6,nodup_append→ZFv,mem_cons_self→ZTq,map_cons→ZFy,nodup_cons→ZPa,mem_or_eq_of_mem_set→ZJh,length_append→ZE8,mem_flatten→ZGb,not_mem_nil→ZG2,mem_of_mem_take→ZTz,ext_getElem→ZHj,length_replicate→ZT2,length_drop→ZGy,length_set→ZGc,take_of_length_le→ZFw,pairwise_map→ZUc,take_take→ZUg,all_eq_true→ZFn,append_nil→ZUn,pairwise_iff_getElem→ZE2,eq_nil_of_length_eq_zero→ZUu,pairwise_singleton→ZU4
open Nat renaming le_refl→ZEw,le_trans→ZEy,not_lt→ZFc,le_of_ble_eq_true→ZMw,mul_le_mul_right→ZHg,add_mul→ZE5
open Option renaming toList→ZNm,map_some→ZF8,map_none→ZTw
open Vc renaming Form→ZMp
open Vc.A8 renaming enc→ZMk,zero→ZMs,ext_get→ZPf,get_set→ZPe
open Vc.Enc renaming encs→ZTu,encs_append→ZNf
open Vc.Item renaming low→ZTc,keep→ZTe
open Vc.Term renaming mono→ZTr
open Vc.Tr renaming sl→ZTa,item→ZM4
open Vc.Ty renaming item→ZMm,more→ZTp
namespace Go.Proofs.YtaagfepgbofmlaaGreat
open Go Vc
theorem Zma {a b:A8} {K:Bool→Prop} (h:K (decide (pcmp a b < 0))):Zd5 a b K:=by
  simp only [Zd5,Yb,A8.get]
  simp only [pcmp,A8.list,Jj] at h
  have e:∀ x y:Int,decide (x - y < 0)=decide (x < y):=fun x y=>decide_eq_decide.2 (by omega)
  repeat' split
  all_goals (simp_all)
theorem Zcw {x:Int} {K:Int→Prop} (h:K (x % 10007)):Xz x K:=by
  unfold Xz
  have:=Zhe x
  rw [i64_in _ (by omega),Zpx]
  exact h
theorem Zmb {x:Int} {K:Int→Prop} (h:K (x % 10007)):Zcq x K:=by
  unfold Zcq
  have:=Zhe x
  rw [i64_in _ (by omega),Zpx]
  exact h
theorem Zjo {a b:Int} (ha:0≤a∧a≤10006) (hb:0≤b∧b≤10006):0≤a * b∧a * b≤100120036 :=
  ⟨ZT9 ha.1 hb.1,by have:=ZUa ha.2 hb.2 hb.1 (by omega:(0:Int)≤10006); omega⟩
theorem Zmc {S:Type} {c:Prop} [Decidable c] {A B:(S→Prop)→Prop} {T:S→Prop} (h:c) (k:A T):joinP (fun J=>if c then A J else B J) T:=by show if c then A T else B T; rw [if_pos h]; exact k
theorem Zjp {S:Type} {c:Prop} [Decidable c] {A B:(S→Prop)→Prop} {T:S→Prop} (h:¬ c) (k:B T):joinP (fun J=>if c then A J else B J) T:=by show if c then A T else B T; rw [if_neg h]; exact k
theorem Zfh {A B:Prop} (h:A):if true=true then A else B:=by simpa using h
theorem Zjq {A B:Prop} (h:B):if false=true then A else B:=by simpa using h
theorem Yw {c:Prop} [Decidable c] {A B:Prop} (h:c) (k:A):if c then A else B:=by rw [if_pos h]; exact k
theorem Xc {c:Prop} [Decidable c] {A B:Prop} (h:¬ c) (k:B):if c then A else B:=by rw [if_neg h]; exact k
theorem Zp4 {f g : List Term} {k : Int} {K : ZMp → Prop} (cf : Canon f) (cg : Canon g) (hk : 0 ≤ k ∧ k ≤ 10006) (hf : f.length ≤ 100000000) (hg : g.length ≤ 100000000) (h : ∀ out, IsAdd f g k out → K ⟨out⟩) : Za2 ⟨f⟩ ⟨g⟩ k K := by
  unfold Za2
  dsimp only
  refine Jd (fun (s:List Term×Int×Int)=>0≤s.2.1∧0≤s.2.2∧AddI f g k s.1 s.2.1.toNat s.2.2.toNat) (fun s=>(f.length - s.2.1.toNat)+(g.length - s.2.2.toNat)) ?_ ⟨ZTm _,ZTm _,AddI.zero f g k⟩
  rintro ⟨out,i,j⟩ next ⟨h1,h2,hI⟩ hn
  have hi:=hI.hi
  have hj:=hI.hj
  have hln:=hI.ln
  have hR:Z7 (out.length+1) 16:=by unfold Z7; dsimp only at hln hi hj ⊢; omega
  dsimp only at h1 h2 hI hi hj hR hn ⊢
  have ni:(i+1).toNat=i.toNat+1:=by omega
  have nj:(j+1).toNat=j.toNat+1:=by omega
  have wi:ZHd.wrap (i+1)=i+1:=i64_in _ (by omega)
  have wj:ZHd.wrap (j+1)=j+1:=i64_in _ (by omega)
  rw [wi,wj]
  have goF:i.toNat < f.length→(j.toNat < g.length→pcmp (f.getD i.toNat ZEx).mono (g.getD j.toNat ZEx).mono < 0)→next (out++[f.getD i.toNat ZEx],i+1,j):=fun a b =>
    hn _ ⟨by dsimp only; omega,by dsimp only; omega,by dsimp only; rw [ni]; exact hI.stepF cf cg a b⟩ (by dsimp only; omega)
  have bg:j.toNat < g.length→1≤(g.getD j.toNat ZEx).factor∧(g.getD j.toNat ZEx).factor≤10006:=fun a=>cg.at_range a
  have bf:i.toNat < f.length→1≤(f.getD i.toNat ZEx).factor∧(f.getD i.toNat ZEx).factor≤10006:=fun a=>cf.at_range a
  have wk:j.toNat < g.length→ZHd.wrap (k * (g.getD j.toNat ZEx).factor)=k * (g.getD j.toNat ZEx).factor:=fun a=>by
    have:=bg a
    have:=Zjo hk (show 0≤(g.getD j.toNat ZEx).factor∧(g.getD j.toNat ZEx).factor≤10006 by omega)
    exact i64_in _ (by omega)
  have goG:j.toNat < g.length→(i.toNat < f.length→pcmp (g.getD j.toNat ZEx).mono (f.getD i.toNat ZEx).mono < 0) →
      Xz (ZHd.wrap (k * ((g.getD j.toNat ZEx).factor))) (fun r=>(if r≠0 then((0≤j∧j < (g.length:Int))∧(Z7 (out.length+1) 16∧next (out++[(⟨(g.getD j.toNat ZEx).mono,r⟩:Term)],i,j+1))) else next (out,i,j+1))):=by
    intro a b
    refine Zcw ?_
    rw [wk a]
    split
    · rename_i q
      exact⟨by omega,hR,hn _ ⟨by dsimp only; omega,by dsimp only; omega,by dsimp only; rw [nj]; exact hI.stepG1 cf cg a b rfl q⟩ (by dsimp only; omega)⟩
    · rename_i q
      exact hn _ ⟨by dsimp only; omega,by dsimp only; omega,by dsimp only; rw [nj]; exact hI.stepG0 cf cg a (by omega)⟩ (by dsimp only; omega)
  have goB:i.toNat < f.length→j.toNat < g.length→(f.getD i.toNat ZEx).mono=(g.getD j.toNat ZEx).mono →
      ((0≤i∧i < (f.length:Int))∧((0≤j∧j < (g.length:Int))∧Xz (ZHd.wrap (k * ((g.getD j.toNat ZEx).factor))) (fun r753=>Xz (ZHd.wrap (((f.getD i.toNat ZEx).factor)+r753)) (fun r758=>(if r758≠0 then((0≤i∧i < (f.length:Int))∧(Z7 (out.length+1) 16∧next (out++[(⟨(f.getD i.toNat ZEx).mono,r758⟩:Term)],i+1,j+1))) else next (out,i+1,j+1)))))):=by
    intro a b e
    refine⟨by omega,by omega,Zcw ?_⟩
    rw [wk b]
    have:=bf a
    rw [i64_in _ (by omega)]
    refine Zcw ?_
    rw [show ((f.getD i.toNat ZEx).factor+k * (g.getD j.toNat ZEx).factor % 10007) % 10007=((f.getD i.toNat ZEx).factor+k * (g.getD j.toNat ZEx).factor) % 10007 by omega]
    split
    · rename_i q
      exact⟨by omega,hR,hn _ ⟨by dsimp only; omega,by dsimp only; omega,by dsimp only; rw [ni,nj]; exact hI.stepB1 cf cg a b e rfl q⟩ (by dsimp only; omega)⟩
    · rename_i q
      exact hn _ ⟨by dsimp only; omega,by dsimp only; omega,by dsimp only; rw [ni,nj]; exact hI.stepB0 cf cg a b e (by omega)⟩ (by dsimp only; omega)
  by_cases hif:i < (f.length:Int)
  · refine Zmc hif (Zfh ?_)
    by_cases hjg:j=(g.length:Int)
    · exact Zmc hjg (Zfh ⟨by omega,hR,goF (by omega) (fun q=>by omega)⟩)
    · refine Zjp hjg (Yw hif ⟨by omega,by omega,Zma ?_⟩)
      by_cases hp:pcmp (f.getD i.toNat ZEx).mono (g.getD j.toNat ZEx).mono < 0
      · rw [decide_eq_true hp]
        exact Zfh ⟨by omega,hR,goF (by omega) (fun _=>hp)⟩
      · rw [decide_eq_false hp]
        refine Zjq (Zjp (by omega) ⟨by omega,by omega,Zma ?_⟩)
        by_cases hq:pcmp (g.getD j.toNat ZEx).mono (f.getD i.toNat ZEx).mono < 0
        · rw [decide_eq_true hq]
          exact Zfh ⟨by omega,goG (by omega) (fun _=>hq)⟩
        · rw [decide_eq_false hq]
          exact Zjq (goB (by omega) (by omega) (Zji hp hq))
  · refine Zjp hif ?_
    by_cases hjg:j < (g.length:Int)
    · rw [decide_eq_true hjg]
      refine Zfh (Zjp (by omega) (Xc hif (Zjq (Zmc (by omega) (Zfh ⟨by omega,goG (by omega) (fun q=>by omega)⟩)))))
    · rw [decide_eq_false hjg]
      exact Zjq (h _ (hI.done (by omega) (by omega)))
def OkForm (ds:List Int) (l:List Term):Prop:=l.length≤400∧∀ i,i < l.length→OkMono ds (l.getD i ZEx).mono∧(1≤(l.getD i ZEx).factor∧(l.getD i ZEx).factor≤10006)∧(0 < i→pcmp (l.getD (i - 1) ZEx).mono (l.getD i ZEx).mono < 0)
instance (ds:List Int) (l:List Term):Decidable (OkForm ds l):=inferInstanceAs (Decidable (_∧∀ i,i < l.length→_))
theorem OkForm.canon {ds:List Int} {l:List Term} (h:OkForm ds l):Canon l:=by
  have step:∀ n i,i+n+1 < l.length→pcmp (l.getD i ZEx).mono (l.getD (i+n+1) ZEx).mono < 0:=by
    intro n
    induction n with
    | zero=>intro i hi; have:=(h.2 (i+1) (by omega)).2.2 (by omega); simpa using this
    | succ n ih =>
      intro i hi
      have h1:=ih i (by omega)
      have h2:=(h.2 (i+(n+1)+1) (by omega)).2.2 (by omega)
      rw [show i+(n+1)+1 - 1=i+n+1 by omega] at h2
      exact Zbw h1 h2
  refine⟨ZE2.2 fun i j hi hj hij=>?_,fun t ht=>?_⟩
  · have:=step (j - i - 1) i (by omega)
    rw [show i+(j - i - 1)+1=j by omega] at this
    simpa [ZFf,hi,hj] using this
  · obtain ⟨i,hi,rfl⟩:=ZE6 ht
    have:=(h.2 i hi).2.1
    simpa [ZFf,hi] using this
theorem OkForm.mono {ds:List Int} {l:List Term} (h:OkForm ds l) {t:Term} (ht:t∈l):OkMono ds t.mono:=by
  obtain ⟨i,hi,rfl⟩:=ZE6 ht
  have:=(h.2 i hi).1
  simpa [ZFf,hi] using this
theorem Zxx {ds:List Int} {l:List Term} (hc:Canon l) (hl:l.length≤400) (hm:∀ t,t∈l→OkMono ds t.mono):OkForm ds l :=
  ⟨hl,fun i hi=>⟨hm _ (Y1 hi),hc.at_range hi,fun h0=>hc.at_lt (by omega) hi⟩⟩
def Zfi (l:List Term):Prop:=∀ t,t∈l→∀ i,i < 8→0≤t.mono.get i∧t.mono.get i≤255
theorem Zxy {ds : List Int} {l : List Term} {K : Bool → Prop} (hd : ds.length ≤ 8) (hp : Zfi l) (hl : l.length ≤ 100000000) (h : K (decide (OkForm ds l))) : Zgq ds ⟨l⟩ K := by
  unfold Zgq
  dsimp only
  refine Jd (fun (s:Int)=>0≤s∧s≤l.length∧∀ i,i < s.toNat→OkMono ds (l.getD i ZEx).mono∧(1≤(l.getD i ZEx).factor∧(l.getD i ZEx).factor≤10006)∧(0 < i→pcmp (l.getD (i - 1) ZEx).mono (l.getD i ZEx).mono < 0)) (fun s=>l.length - s.toNat) ?_ ⟨by omega,by omega,fun i hi=>by omega⟩
  rintro i next ⟨h1,h2,h3⟩ hn
  have bad:(i.toNat < l.length)→¬ (OkMono ds (l.getD i.toNat ZEx).mono∧(1≤(l.getD i.toNat ZEx).factor∧(l.getD i.toNat ZEx).factor≤10006)∧(0 < i.toNat→pcmp (l.getD (i.toNat - 1) ZEx).mono (l.getD i.toNat ZEx).mono < 0))→K false:=by
    intro a b
    have:¬ OkForm ds l:=fun q=>b (q.2 _ a)
    rwa [decide_eq_false this] at h
  split
  · rename_i hi
    have a:i.toNat < l.length:=by omega
    refine⟨by omega,Zwv (fun q hq=>(hp _ (Y1 a) q hq).1) hd ?_⟩
    split
    · rename_i q
      exact bad a fun z=>q (decide_eq_true z.1)
    · rename_i q1
      have q1:OkMono ds (l.getD i.toNat ZEx).mono:=by simpa using q1
      refine Zl4 ?_
      split
      · rename_i q
        exact bad a fun z=>q (decide_eq_true z.2.1)
      · rename_i q2
        have q2:1≤(l.getD i.toNat ZEx).factor∧(l.getD i.toNat ZEx).factor≤10006:=by simpa using q2
        have w1:ZHd.wrap (i+1)=i+1:=i64_in _ (by omega)
        rw [w1]
        have ok:(0 < i.toNat→pcmp (l.getD (i.toNat - 1) ZEx).mono (l.getD i.toNat ZEx).mono < 0)→next (i+1):=fun q3=>by
          refine hn _ ⟨by omega,by omega,fun j hj=>?_⟩ (by omega)
          by_cases hji:j=i.toNat
          · subst hji; exact⟨q1,q2,q3⟩
          · exact h3 j (by omega)
        split
        · have w2:ZHd.wrap (i - 1)=i - 1:=i64_in _ (by omega)
          rw [w2,show (i - 1).toNat=i.toNat - 1 by omega]
          refine⟨by omega,Zma ?_⟩
          split
          · rename_i q
            exact bad a fun z=>q (decide_eq_true (z.2.2 (by omega)))
          · rename_i q
            exact ok fun _=>by simpa using q
        · exact ok fun q=>by omega
  · rename_i hi
    have:OkForm ds l↔(l.length:Int)≤400:=⟨fun q=>by have:=q.1; omega,fun q=>⟨by omega,fun i hi'=>h3 i (by omega)⟩⟩
    rw [decide_eq_decide.2 this] at h
    exact h
theorem Zmd {s a b:Int} (hs:s=1∨s=-1) (ha:1≤a∧a≤10006) (hb:1≤b∧b≤10006):ZHd.wrap (ZHd.wrap (s * a) * b)=s * (a * b):=by
  have:=Zjo (show 0≤a∧a≤10006 by omega) (show 0≤b∧b≤10006 by omega)
  rcases hs with rfl | rfl
  · rw [i64_in (1 * a) (by omega),Int.mul_assoc,i64_in _ (by omega)]
  · rw [i64_in (-1 * a) (by omega),Int.mul_assoc,i64_in _ (by omega)]
theorem Zxz {ds:List Int} {t:Term} {g:List Term} {K:ZMp→Prop} (hd:OkDeg ds) (ht:X7 ds t.mono) (htf:1≤t.factor∧t.factor≤10006) (pt:∀ i,i < 8→0≤t.mono.get i) (cg:Canon g) (wg:∀ u,u∈g→X7 ds u.mono) (pg:Zfi g) (hl:g.length≤100000000)
    (h:∀ out,IsShift ds t g out→K ⟨out⟩):Zgp ds t ⟨g⟩ K:=by
  unfold Zgp
  dsimp only
  refine Jd (fun (s:List Term×Int)=>0≤s.2∧s.2≤g.length∧IsShift ds t (g.take s.2.toNat) s.1) (fun s=>g.length - s.2.toNat) ?_ ⟨by omega,by omega,by simpa using IsShift.nil ds t⟩
  rintro ⟨out,i⟩ next ⟨h1,h2,hI⟩ hn
  dsimp only at h1 h2 hI hn ⊢
  split
  · rename_i hi
    have a:i.toNat < g.length:=by omega
    have hu:=Y1 a
    have ni:(i+1).toNat=i.toNat+1:=by omega
    have wi:ZHd.wrap (i+1)=i+1:=i64_in _ (by omega)
    rw [wi]
    have hct:Canon (g.take i.toNat++[g.getD i.toNat ZEx]):=by
      rw [← X0 a]
      exact⟨cg.1.sublist (List.take_sublist _ _),fun s hs=>cg.2 s (ZTz hs)⟩
    refine⟨by omega,Zw3 hd ht (wg _ hu) pt (fun q hq=>(pg _ hu q hq).1) ?_⟩
    split
    · rename_i hs
      have hf:=cg.at_range a
      have hln:=hI.ln
      simp only [ZTn] at hln
      refine⟨by omega,Zcw ?_⟩
      rw [Zmd (Zec hs).2.2 htf hf]
      refine⟨by unfold Z7; omega,hn _ ⟨by dsimp only; omega,by dsimp only; omega,?_⟩ (by dsimp only; omega)⟩
      dsimp only
      rw [ni,X0 a]
      exact hI.put hct htf hs rfl
    · rename_i hs
      refine hn _ ⟨by dsimp only; omega,by dsimp only; omega,?_⟩ (by dsimp only; omega)
      dsimp only
      rw [ni,X0 a]
      exact hI.skip (by simpa using hs)
  · rename_i hi
    rw [ZFw (by omega)] at hI
    exact h _ hI
theorem Zp5 {ds:List Int} {f g:List Term} {K:ZMp→Prop} (hd:OkDeg ds) (cf:Canon f) (wf:∀ u,u∈f→X7 ds u.mono) (pf:Zfi f) (cg:Canon g) (wg:∀ u,u∈g→X7 ds u.mono) (pg:Zfi g) (hf:f.length≤10000) (hg:g.length≤10000)
    (h:∀ out,IsProd ds f g out→K ⟨out⟩):J8 ds ⟨f⟩ ⟨g⟩ K:=by
  unfold J8
  dsimp only
  refine Jd (fun (s:List Term×Int)=>0≤s.2∧s.2≤f.length∧IsProd ds (f.take s.2.toNat) g s.1) (fun s=>f.length - s.2.toNat) ?_ ⟨by omega,by omega,by simpa using IsProd.nil ds g⟩
  rintro ⟨out,i⟩ next ⟨h1,h2,hI⟩ hn
  dsimp only at h1 h2 hI hn ⊢
  split
  · rename_i hi
    have a:i.toNat < f.length:=by omega
    have hu:=Y1 a
    have ni:(i+1).toNat=i.toNat+1:=by omega
    have wi:ZHd.wrap (i+1)=i+1:=i64_in _ (by omega)
    rw [wi]
    refine⟨by omega,Zxz hd (wf _ hu) (cf.at_range a) (fun q hq=>(pf _ hu q hq).1) cg wg pg (by omega) fun sh hsh=>?_⟩
    have hln:=hI.ln
    have hls:=hsh.ln
    have:(f.take i.toNat).length * g.length≤10000 * 10000:=Nat.mul_le_mul (by rw [ZTn]; omega) hg
    refine Zp4 hI.can hsh.can (by omega) (by omega) (by omega) fun out' ho=>?_
    refine hn _ ⟨by dsimp only; omega,by dsimp only; omega,?_⟩ (by dsimp only; omega)
    dsimp only
    rw [ni,X0 a]
    exact hI.step hsh ho
  · rename_i hi
    rw [ZFw (by omega)] at hI
    exact h _ hI
end Go.Proofs.YtaagfepgbofmlaaGreat
namespace Go.Proofs.YtaagfepgbofmlaaGreat
open Go Vc
theorem Zx0 {a b:A8} {K:Int→Prop} (ha:OkP a) (hb:OkP b) (h:K (pcmp a b)):Zja a b K:=Zu1 ha hb h
def FitT (l:List Term):Prop:=∀ t,t∈l→Zal .u8 t.mono
theorem FitT.pos {l:List Term} (h:FitT l):Zfi l:=fun t ht i hi=>Zll (Zlm (h t ht) hi)
theorem Zp6 {a:A8} (h:Zal .u8 a):OkP a:=fun x hx=>by
  obtain ⟨i,hi,rfl⟩:=A8.mem_list.1 hx
  have:=Zll (Zlm h hi)
  omega
theorem Zx1 {x:Int} {K:Bool→Prop} (h:K (decide (1≤x∧x≤10006))):Zjc x K:=Zjf h
theorem Zx2 {ds : List Int} {l : List Term} {K : Bool → Prop} (hd : OkDeg ds) (hp : FitT l) (h : K (decide (OkForm ds l))) : Zfb ds ⟨l⟩ K := by
  unfold Zfb
  dsimp only
  split
  · rename_i q
    have:¬ OkForm ds l:=fun z=>by have:=z.1; omega
    rwa [decide_eq_false this] at h
  · rename_i q0
    refine Ys (fun i _=>∀ j,j < i→OkMono ds (l.getD j ZEx).mono∧(1≤(l.getD j ZEx).factor∧(l.getD j ZEx).factor≤10006)∧(0 < j→pcmp (l.getD (j - 1) ZEx).mono (l.getD j ZEx).mono < 0)) l.length ?_ ?_ _ _ _ (by omega) (by intro j hj; omega)
    · intro i s next hi hI hn
      have bad:¬ (OkMono ds (l.getD i ZEx).mono∧(1≤(l.getD i ZEx).factor∧(l.getD i ZEx).factor≤10006)∧(0 < i→pcmp (l.getD (i - 1) ZEx).mono (l.getD i ZEx).mono < 0))→K false:=by
        intro b
        have:¬ OkForm ds l:=fun q=>b (q.2 _ hi)
        rwa [decide_eq_false this] at h
      refine Zww hd (fun q hq=>(hp.pos _ (Y1 hi) q hq).1) ?_
      split
      · rename_i q
        exact bad fun z=>q (decide_eq_true z.1)
      · rename_i q1
        have q1:OkMono ds (l.getD i ZEx).mono:=of_decide_eq_true (ZQk.1 q1)
        refine Zx1 ?_
        split
        · rename_i q
          exact bad fun z=>q (decide_eq_true z.2.1)
        · rename_i q2
          have q2:1≤(l.getD i ZEx).factor∧(l.getD i ZEx).factor≤10006:=of_decide_eq_true (ZQk.1 q2)
          have ok:(0 < i→pcmp (l.getD (i - 1) ZEx).mono (l.getD i ZEx).mono < 0)→next ():=fun q3=>by
            refine hn _ fun j hj=>?_
            by_cases hji:j=i
            · subst hji; exact⟨q1,q2,q3⟩
            · exact hI j (by omega)
          split
          · have w2:ZHd.wrap ((i:Int) - 1)=(i:Int) - 1:=i64_in _ (by omega)
            rw [w2,show ((i:Int) - 1).toNat=i - 1 by omega]
            have f1:=hp _ (Y1 (show i - 1 < l.length by omega))
            have f2:=hp _ (Y1 hi)
            refine⟨by omega,Zjg f1 (Zjg f2 (Zx0 (Zp6 f1) (Zp6 f2) ?_))⟩
            split
            · rename_i q
              exact bad fun z=>by have:=z.2.2 (by omega); omega
            · rename_i q
              exact ok fun _=>by omega
          · exact ok fun q=>by omega
    · intro s hI
      have:OkForm ds l:=⟨by omega,hI⟩
      rwa [decide_eq_true this] at h
structure IsMap (l:List Term) (m:List (A8×Int)):Prop where
  ok:MapOk m
  cf:∀ x,co m x=coT l x
  ks:∀ p,p∈m→∃ t,t∈l∧t.mono=p.1
theorem Zp7 {l : List Term} {K : List (A8 × Int) → Prop} (hc : Canon l) (hp : FitT l) (h : ∀ m, IsMap l m → K m) : Zfa ⟨l⟩ K := by
  unfold Zfa
  dsimp only
  refine Ys (fun i (s:List (A8×Int))=>IsMap (l.take i) s) l.length ?_ ?_ _ _ _ (by omega) ⟨MapOk.nil,by intro x; rfl,by simp⟩
  · intro i s next hi hI hn
    refine Zjg (hp _ (Y1 hi)) (hn _ ?_)
    rw [X0 hi]
    have hnew:co s (l.getD i ZEx).mono=0:=by
      rw [hI.cf]
      refine Zcu fun t ht=>?_
      obtain ⟨j,hj,rfl⟩:=ZE6 ht
      rw [ZTn] at hj
      have:=hc.at_lt (show j < i by omega) hi
      have hjl:j < l.length:=by omega
      simp only [List.getElem_take]
      rw [show l.getD j ZEx=l[j] by simp [ZFf,hjl]] at this
      exact Zbx this
    refine⟨hI.ok.put (hc.at_range hi),fun x=>?_,fun p hpm=>?_⟩
    · rw [Zl6 hI.ok.1,Zct,← hI.cf]
      by_cases hx:x=(l.getD i ZEx).mono
      · subst hx; rw [if_pos rfl,if_pos rfl,hnew,ZO6]
      · rw [if_neg hx,if_neg (fun e=>hx e.symm),ZTi]
    · rcases Zl8 hpm with rfl | q
      · exact⟨_,by simp,rfl⟩
      · obtain ⟨t,ht,e⟩:=hI.ks p q
        exact⟨t,by simp [ht],e⟩
  · intro s hI
    rw [List.take_length] at hI
    exact h _ hI
theorem Zp8 {l:List (A8×Int)} {x:A8} {c:Int} {K:List (A8×Int)→Prop} (hl:MapOk l) (hc:-100000000000≤c∧c≤100000000000) (h:∀ l',IsPut l x c l'→K l'):Ze9 l x c K:=by
  unfold Ze9
  rw [Zcv hl.1]
  have:=hl.range x
  rw [i64_in _ (by omega)]
  refine Zmb ?_
  split
  · rename_i q; exact h _ (IsPut.put hl rfl q)
  · rename_i q; exact h _ (IsPut.del hl (by omega))
structure IsSum (s t:List (A8×Int)) (k:Int) (out:List (A8×Int)):Prop where
  ok:MapOk out
  cf:∀ m,co out m % 10007=(co s m+k * co t m) % 10007
  ks:∀ p,p∈out→∃ q,(q∈s∨q∈t)∧q.1=p.1
  ln:out.length≤s.length+t.length
theorem Zx3 {s t : List (A8 × Int)} {k : Int} {K : List (A8 × Int) → Prop} (hs : MapOk s) (ht : MapOk t) (hk : 0 ≤ k ∧ k ≤ 10006) (h : ∀ out, IsSum s t k out → K out) : Zd6 s t k K := by
  unfold Zd6
  refine Zgf (fun l' (out:List (A8×Int))=>(∀ p,p∈l'→p∈t)∧MapOk out∧(∀ m,(co out m+k * co l' m) % 10007=(co s m+k * co t m) % 10007)∧(∀ p,p∈out→∃ q,(q∈s∨q∈t)∧q.1=p.1)∧out.length+l'.length≤s.length+t.length) ?_ ?_ t s ⟨fun _ h=>h,hs,fun _=>rfl,fun p hp=>⟨p,.inl hp,rfl⟩,by omega⟩
  · intro l' p l'' out next hp ⟨h0,h1,h2,h3,h4⟩ hn
    have hperm:=Zi1 hp
    have hpm:p∈l':=hperm.mem_iff.2 (by simp)
    have hpt:=ht.2 p (h0 p hpm)
    have hb:=Zjo (show 0≤p.2∧p.2≤10006 by omega) hk
    rw [i64_in _ (by omega)]
    have htm:=Zhe (p.2 * k)
    refine Zp8 h1 (by omega) fun out' ho=>hn _ ⟨fun q hq=>h0 q (hperm.mem_iff.2 (by simp [hq])),ho.ok,fun m=>?_,fun q hq=>?_,?_⟩
    · have e1:=ho.cf m
      have e2:=h2 m
      have e3:co l' m=(if p.1=m then p.2 else 0)+co l'' m:=by rw [co,Zfc _ hperm]; rfl
      rw [e3,Int.mul_add] at e2
      by_cases hm:p.1=m
      · rw [if_pos hm] at e1 e2
        have e4:=Zpy (p.2 * k)
        rw [Int.mul_comm k p.2] at e2
        omega
      · rw [if_neg hm] at e1 e2
        omega
    · rcases ho.ks q hq with e | ⟨q',hq',e⟩
      · exact⟨p,.inr (h0 p hpm),e.symm⟩
      · obtain ⟨z,hz,e'⟩:=h3 q' hq'
        exact⟨z,hz,e'.trans e⟩
    · have:=ho.ln
      have:=Zgd hp
      omega
  · intro out ⟨_,h1,h2,h3,h4⟩
    exact h _ ⟨h1,fun m=>by have:=h2 m; rw [Zfd,ZT0,ZTi] at this; exact this,h3,by simpa using h4⟩
def shM (ds:List Int) (p:A8×Int) (t:List (A8×Int)) (m:A8):Int:=tot (fun q=>pr1 ds p.1 p.2 q.1 q.2 m) t
def prM (ds:List Int) (s t:List (A8×Int)) (m:A8):Int:=tot (fun p=>shM ds p t m) s
structure IsProdM (ds:List Int) (s t out:List (A8×Int)):Prop where
  ok:MapOk out
  cf:∀ m,co out m % 10007=prM ds s t m % 10007
  ks:∀ p,p∈out→∃ a b,a∈s∧b∈t∧p.1=a.1.add b.1∧¬ Clash ds a.1 b.1
theorem Zp9 {ds : List Int} {s t : List (A8 × Int)} {K : List (A8 × Int) → Prop} (hd : OkDeg ds) (hs : MapOk s) (ws : ∀ p, p ∈ s → X7 ds p.1) (ps : ∀ p, p ∈ s → ∀ i, i < 8 → 0 ≤ p.1.get i) (ht : MapOk t) (wt : ∀ p, p ∈ t → X7 ds p.1) (pt : ∀ p, p ∈ t → ∀ i, i < 8 → 0 ≤ p.1.get i)
    (h:∀ out,IsProdM ds s t out→K out):Zb8 s ds t K:=by
  unfold Zb8
  refine Zgf (fun l' (out:List (A8×Int))=>(∀ p,p∈l'→p∈s)∧MapOk out∧(∀ m,(co out m+prM ds l' t m) % 10007=prM ds s t m % 10007)∧(∀ p,p∈out→∃ a b,a∈s∧b∈t∧p.1=a.1.add b.1∧¬ Clash ds a.1 b.1)) ?_ ?_ s [] ⟨fun _ h=>h,MapOk.nil,fun m=>by rw [Zfd,ZO6],by simp⟩
  · intro l' p l'' out next hp ⟨h0, h1, h2, h3⟩ hn
    have hperm:=Zi1 hp
    have hpm:p∈s:=h0 p (hperm.mem_iff.2 (by simp))
    have hpf:=hs.2 p hpm
    have e3:∀ m,prM ds l' t m=shM ds p t m+prM ds l'' t m:=fun m=>by rw [prM,Zfc _ hperm]; rfl
    refine Zgf (fun k' (o2:List (A8×Int))=>(∀ q,q∈k'→q∈t)∧MapOk o2∧(∀ m,(co o2 m+shM ds p k' m) % 10007=(co out m+shM ds p t m) % 10007)∧(∀ q,q∈o2→∃ a b,a∈s∧b∈t∧q.1=a.1.add b.1∧¬ Clash ds a.1 b.1)) ?_ ?_ t out ⟨fun _ h=>h,h1,fun _=>rfl,h3⟩
    · intro k' q k'' o2 next' hq ⟨g0, g1, g2, g3⟩ hn'
      have hperm2:=Zi1 hq
      have hqm:q∈t:=g0 q (hperm2.mem_iff.2 (by simp))
      have hqf:=ht.2 q hqm
      have e4:∀ m,shM ds p k' m=pr1 ds p.1 p.2 q.1 q.2 m+shM ds p k'' m:=fun m=>by rw [shM,Zfc _ hperm2]; rfl
      refine Zw4 hd (ws p hpm) (wt q hqm) (ps p hpm) (pt q hqm) ?_
      split
      · rename_i hsg
        rw [Zmd (Zec hsg).2.2 hpf hqf]
        have htm:=Zhe ((Z9 ds p.1 q.1).2 * (p.2 * q.2))
        refine Zp8 g1 (by omega) fun o3 ho=>hn' _ ⟨fun z hz=>g0 z (hperm2.mem_iff.2 (by simp [hz])),ho.ok,fun m=>?_,fun z hz=>?_⟩
        · have e1:=ho.cf m
          have e2:=g2 m
          rw [e4,pr1] at e2
          by_cases hm:(Z9 ds p.1 q.1).1=m
          · rw [if_pos hm] at e1 e2
            have e5:=Zpy ((Z9 ds p.1 q.1).2 * (p.2 * q.2))
            omega
          · rw [if_neg hm] at e1 e2
            omega
        · rcases ho.ks z hz with e | ⟨z',hz',e⟩
          · exact⟨p,q,hpm,hqm,by rw [e,(Zec hsg).2.1],(Zec hsg).1⟩
          · obtain ⟨a,b,ha,hb,e',hc⟩:=g3 z' hz'
            exact⟨a,b,ha,hb,e ▸ e',hc⟩
      · rename_i hsg
        refine hn' _ ⟨fun z hz=>g0 z (hperm2.mem_iff.2 (by simp [hz])),g1,fun m=>?_,g3⟩
        have e2:=g2 m
        rw [e4,pr1,show (Z9 ds p.1 q.1).2=0 by simpa using hsg] at e2
        simpa using e2
    · intro o2 ⟨_,g1,g2,g3⟩
      refine hn _ ⟨fun q hq=>h0 q (hperm.mem_iff.2 (by simp [hq])),g1,fun m=>?_,g3⟩
      have e1:=g2 m
      have e2:=h2 m
      rw [e3] at e2
      rw [show shM ds p [] m=0 from rfl] at e1
      omega
  · intro out ⟨_,h1,h2,h3⟩
    exact h _ ⟨h1,fun m=>by have:=h2 m; rw [show prM ds [] t m=0 from rfl,ZTi] at this; exact this,h3⟩
theorem Zjr {l : List Term} {k : List (A8 × Int)} (hk : IsMap l k) (hc : Canon l) (F : A8 → Int → Int) (hF : ∀ a, F a 0 = 0) : tot (fun p => F p.1 p.2) k = tot (fun t => F t.mono t.factor) l := by
  have hnd:(l.map fun t=>(t.mono,t.factor)).Nodup:=by
    refine ZUc.2 (hc.1.imp fun {a b} h e=>?_)
    exact Zbx h (congrArg Prod.fst e)
  have hperm:k.Perm (l.map fun t=>(t.mono,t.factor)):=by
    have hkn:k.Nodup:=by
      have:=hk.ok.1
      exact List.Pairwise.imp (fun {a b} h e=>h (congrArg Prod.fst e)) (ZUc.1 this)
    refine(List.perm_ext_iff_of_nodup hkn hnd).2 fun p=>?_
    have atk:∀ p,p∈k→co k p.1=p.2:=by
      intro p hp
      obtain ⟨i,hi,rfl⟩:=ZE6 hp
      have hkk:=hk.ok.1
      clear hk hkn
      induction k generalizing i with
      | nil=>simp at hi
      | cons q k ih =>
        simp only [ZFy,ZPa] at hkk
        rw [Zau]
        cases i with
        | zero=>rw [List.getElem_cons_zero,if_pos rfl,Zdg fun t ht e=>hkk.1 (ZF9.2 ⟨t,ht,e⟩),ZTi]
        | succ i =>
          have hi':i < k.length:=by simpa using hi
          rw [List.getElem_cons_succ,if_neg (fun e=>hkk.1 (ZF9.2 ⟨_,List.getElem_mem hi',e.symm⟩)),ZO6]
          exact ih i hi' (List.getElem_mem hi') hkk.2
    have atl:∀ t,t∈l→coT l t.mono=t.factor:=by
      intro t ht
      clear hk hkn hnd atk
      induction l with
      | nil=>simp at ht
      | cons q l ih =>
        rcases ZEt.1 ht with rfl | ht
        · exact hc.at_head
        · rw [Zcs,if_neg (Zbx (hc.head t ht)),ZO6]; exact ih hc.tail ht
    constructor
    · intro hp
      obtain ⟨t,ht,e⟩:=hk.ks p hp
      refine ZF9.2 ⟨t,ht,?_⟩
      have h1:=atk p hp
      rw [hk.cf,← e,atl t ht] at h1
      rw [e,h1]
    · intro hp
      obtain ⟨t,ht,rfl⟩:=ZF9.1 hp
      have h1:=hk.cf t.mono
      rw [atl t ht] at h1
      have hnz:=hc.2 t ht
      have:∃ p,p∈k∧p.1=t.mono:=by
        refine ZUd fun hno=>?_
        rw [Zdg (fun p hp e=>hno ⟨p,hp,e⟩)] at h1
        omega
      obtain ⟨p,hp,e⟩:=this
      have h2:=atk p hp
      rw [e,h1] at h2
      rw [← e,h2]; exact hp
  rw [Zfc _ hperm,Zeb]
def Low (a:A8):Prop:=∀ i,i < 8→a.get i≤20
instance (a:A8):Decidable (Low a):=inferInstanceAs (Decidable (∀ i,i < 8→_))
end Go.Proofs.YtaagfepgbofmlaaGreat
namespace Vc
open Go
def A8.mkf (f:Nat→Int):A8:=⟨f 0,f 1,f 2,f 3,f 4,f 5,f 6,f 7⟩
theorem A8.get_mkf (f:Nat→Int) {i:Nat} (hi:i < 8):(A8.mkf f).get i=f i:=by
  match i,hi with
  | 0,_ | 1,_ | 2,_ | 3,_ | 4,_ | 5,_ | 6,_ | 7,_=>rfl
def Xv (m:A8) (i:Nat):A8:=A8.mkf fun j=>if j < i then m.get j else 0
def leftA (m:A8) (i:Nat):A8:=A8.mkf fun j=>if j < i then m.get j else if j=i then m.get i - 1 else 0
def backA (m:A8) (i:Nat):A8:=A8.mkf fun j=>if i < j then m.get j else 0
def wtU (ds:List Int) (m:A8):Nat→Int
  | 0=>0
  | i+1=>wtU ds m i+ds.getD i ZEx * m.get i
theorem Zqa (F : A8 → Int) (S : List A8) (hS : S.Nodup) : ∀ l : List Term, (∀ t, t ∈ l → t.mono ∈ S) → tot (fun t => F t.mono * t.factor) l = tot (fun x => F x * coT l x) S := by
  intro l
  induction l with
  | nil=>intro _; simp only [tot]; rw [Zb9]; intro x _; rw [Zhd,ZT0]
  | cons t l ih =>
    intro h
    simp only [tot]
    rw [ih fun s hs=>h s (by simp [hs])]
    have e:∀ x,F x * coT (t::l) x=(if t.mono=x then F x * t.factor else 0)+F x * coT l x:=fun x=>by
      rw [Zcs,Int.mul_add]
      congr 1
      split
      · rfl
      · rw [ZT0]
    rw [Jm (fun x _=>e x),Zhc]
    congr 1
    have ht:=h t (by simp)
    clear ih h e
    induction S with
    | nil=>cases ht
    | cons s S ihS =>
      simp only [tot]
      have hn:=ZPa.1 hS
      by_cases hs:t.mono=s
      · subst hs
        rw [if_pos rfl,Zb9]
        · omega
        · intro x hx
          rw [if_neg]
          rintro rfl
          exact hn.1 hx
      · rw [if_neg hs,ZO6]
        refine ihS hn.2 ?_
        rcases ZEt.1 ht with q | q
        · exact absurd q hs
        · exact q
def Zcb:List A8→List A8
  | []=>[]
  | a::l=>if a∈Zcb l then Zcb l else a::Zcb l
theorem Zme {a:A8}:∀ l,a∈l→a∈Zcb l
  | b :: l, h => by
    simp only [Zcb]
    rcases ZEt.1 h with rfl | h
    · split
      · assumption
      · simp
    · have:=Zme l h
      split
      · exact this
      · simp [this]
theorem Zjs:∀ l,(Zcb l).Nodup
  | []=>List.nodup_nil
  | a :: l => by
    simp only [Zcb]
    split
    · exact Zjs l
    · exact ZPa.2 ⟨by assumption,Zjs l⟩
theorem lin (F:A8→Int) {l k:List Term} (h:∀ x,coT l x % 10007=coT k x % 10007):tot (fun t=>F t.mono * t.factor) l % 10007=tot (fun t=>F t.mono * t.factor) k % 10007:=by
  have S:=Zcb (l.map ZTr++k.map ZTr)
  rw [Zqa F (Zcb (l.map ZTr++k.map ZTr)) (Zjs _) l fun t ht=>Zme _ (by simp; exact .inl ⟨t,ht,rfl⟩),
    Zqa F (Zcb (l.map ZTr++k.map ZTr)) (Zjs _) k fun t ht=>Zme _ (by simp; exact .inr ⟨t,ht,rfl⟩)]
  refine Zjj fun x _=>?_
  rw [ZTo,h x,← ZTo]
def tri (ds:List Int) (l b u:A8) (n:Int) (x:A8):Int:=if(Z9 ds (Z9 ds l u).1 b).1=x then(Z9 ds (Z9 ds l u).1 b).2 * ((Z9 ds l u).2 * n) else 0
def triC (ds:List Int) (l b:A8) (img:List Term) (x:A8):Int:=tot (fun u=>tri ds l b u.mono u.factor x) img
theorem Zqb {ds:List Int} {l b:A8} {img own prod:List Term} (h1:∀ y,coT own y % 10007=shC ds ⟨l,1⟩ img y % 10007) (h2:∀ x,coT prod x % 10007=prC ds own [⟨b,1⟩] x % 10007) (x:A8):coT prod x % 10007=triC ds l b img x % 10007:=by
  rw [h2]
  have e1:prC ds own [⟨b,1⟩] x=tot (fun t=>(if(Z9 ds t.mono b).1=x then(Z9 ds t.mono b).2 else 0) * t.factor) own:=by
    refine Jm fun t _=>?_
    unfold shC pr1
    simp only [tot,Int.mul_one,ZTi]
    split <;> simp
  have hL:∀ y,coT own y % 10007=coT (img.map fun u=>(⟨(Z9 ds l u.mono).1,(Z9 ds l u.mono).2 * u.factor⟩:Term)) y % 10007:=fun y=>by
    rw [h1 y,shC,coT,Zeb]
    congr 1
    refine Jm fun u _=>?_
    unfold pr1
    simp only [Int.one_mul]
  rw [e1,lin (fun y=>if(Z9 ds y b).1=x then(Z9 ds y b).2 else 0) hL,Zeb]
  congr 1
  refine Jm fun u _=>?_
  unfold tri
  dsimp only
  split <;> simp
def dK (ds:List Int) (m:A8) (n:Int) (i:Nat):Int:=(sg (wtU ds m i) * (n * m.get i)) % 10007
def dS (ds:List Int) (imgs:List (List Term)) (m:A8) (n:Int) (x:A8):Nat→Nat→Int
  | 0,_=>0
  | r+1,i=>(if m.get i > 0 then dK ds m n i * triC ds (leftA m i) (backA m i) (imgs.getD i ZEx) x else 0)+dS ds imgs m n x r (i+1)
def dT (ds:List Int) (imgs:List (List Term)) (m:A8) (n:Int) (x:A8):Int:=dS ds imgs m n x 8 0
theorem Zx4 (ds:List Int) (m:A8) (i:Nat):dK ds m 0 i=0:=by simp [dK]
theorem Zmf (ds:List Int) (imgs:List (List Term)) (m x:A8):dT ds imgs m 0 x=0:=by
  have:∀ r i,dS ds imgs m 0 x r i=0:=by
    intro r
    induction r with
    | zero=>intro i; rfl
    | succ r ih=>intro i; simp only [dS,ih,Zx4]; split <;> simp
  exact this 8 0
theorem Zx5 {ds:List Int} {imgs:List (List Term)} {m:A8} {n:Int} {x:A8}:∀ r i,(∀ j,i≤j→j < i+r→m.get j=0)→dS ds imgs m n x r i=0:=by
  intro r
  induction r with
  | zero=>intro i _; rfl
  | succ r ih=>intro i h; simp only [dS]; rw [h i (by omega) (by omega),if_neg (by omega),ih (i+1) fun j h1 h2=>h j (by omega) (by omega)]; rfl
def DMono (ds:List Int) (imgs:List (List Term)) (x m:A8):Prop:=∃ i u,i < 8∧0 < m.get i∧u∈imgs.getD i ZEx∧x=((leftA m i).add u.mono).add (backA m i)∧¬ Clash ds (leftA m i) u.mono∧¬ Clash ds ((leftA m i).add u.mono) (backA m i)
structure IsD (ds:List Int) (imgs:List (List Term)) (f out:List Term):Prop where
  can:Canon out
  cf:∀ x,coT out x % 10007=tot (fun t=>dT ds imgs t.mono t.factor x) f % 10007
  mo:∀ y,y∈out→∃ t,t∈f∧DMono ds imgs y.mono t.mono
theorem Zmg {ds : List Int} {m : A8} {i : Nat} (h : OkMono ds m) (hi : i < 8) (hp : 0 < m.get i) : X7 ds (leftA m i) ∧ X7 ds (backA m i) := by
  constructor
  · intro j hj
    rw [leftA,A8.get_mkf _ hj]
    have hm:=h j hj
    refine⟨fun hl=>?_,fun hl=>?_⟩
    · have h1:=hm.1 hl
      split
      · exact⟨by omega,h1.2⟩
      · split
        · rename_i e; subst e; exact⟨by omega,fun q=>by have:=h1.2 q; omega⟩
        · exact⟨by omega,fun _=>by omega⟩
    · have h1:=hm.2 hl
      split
      · exact h1
      · split
        · rename_i e; subst e; omega
        · rfl
  · intro j hj
    rw [backA,A8.get_mkf _ hj]
    have hm:=h j hj
    refine⟨fun hl=>?_,fun hl=>?_⟩
    · have h1:=hm.1 hl
      split
      · exact⟨by omega,h1.2⟩
      · exact⟨by omega,fun _=>by omega⟩
    · have h1:=hm.2 hl
      split
      · exact h1
      · rfl
theorem Zjt {ds:List Int} {a b:A8} (ha:X7 ds a) (hb:X7 ds b) (pa:∀ i,i < 8→0≤a.get i) (pb:∀ i,i < 8→0≤b.get i) (hs:∀ i,i < 8→a.get i+b.get i≤100) (hc:¬ Clash ds a b):X7 ds (a.add b):=by
  intro j hj
  rw [A8.get_add]
  have h1:=ha j hj
  have h2:=hb j hj
  refine⟨fun hl=>⟨hs j hj,fun ho=>?_⟩,fun hl=>by rw [h1.2 hl,h2.2 hl]; rfl⟩
  have g1:=(h1.1 hl).2 ho
  have g2:=(h2.1 hl).2 ho
  have:=pa j hj
  have:=pb j hj
  have:¬ (0 < a.get j∧0 < b.get j):=fun q=>hc ⟨j,hl,ho,q⟩
  omega
end Vc
namespace Go.Proofs.YtaagfepgbofmlaaGreat
open Go Vc
def asT (m:List (A8×Int)):List Term:=m.map fun p=>⟨p.1,p.2⟩
theorem Zmh (m:List (A8×Int)) (x:A8):coT (asT m) x=co m x:=by rw [coT,asT,Zeb]; rfl
theorem Zqc {l : List Term} {out : List (A8 × Int)} (hc : Canon l) (ho : MapOk out) (h : ∀ x, co out x % 10007 = coT l x % 10007) : IsMap l out := by
  have hcf:∀ x,co out x=coT l x:=fun x=>by have:=h x; have:=ho.range x; have:=hc.range x; omega
  refine⟨ho,hcf,fun p hp=>ZUd fun hno=>?_⟩
  have h1:coT l p.1=0:=Zcu fun t ht e=>hno ⟨t,ht,e⟩
  rw [← hcf,← Zcv ho.1] at h1
  have h2:=ho.2 p hp
  have h3:(Y0 out p.1).getD 0=p.2:=by
    rw [Zcv ho.1]
    have hk:=ho.1
    clear h hcf hno h1 h2 ho
    induction out with
    | nil=>simp at hp
    | cons q k ih =>
      simp only [ZFy,ZPa] at hk
      rw [Zau]
      rcases ZEt.1 hp with rfl | hp
      · rw [if_pos rfl,Zdg fun t ht e=>hk.1 (ZF9.2 ⟨t,ht,e⟩),ZTi]
      · rw [if_neg (fun e=>hk.1 (ZF9.2 ⟨p,hp,e.symm⟩)),ZO6]
        exact ih hp hk.2
  omega
theorem Zx6 {ds:List Int} {l b:A8} {img:List Term} {s own t:List (A8×Int)} (hs:IsMap img s) (hc:Canon img) (h1:IsProdM ds [(l,1)] s own) (h2:IsProdM ds own [(b,1)] t) (x:A8):co t x % 10007=triC ds l b img x % 10007:=by
  rw [← Zmh]
  refine Zqb (own:=asT own) (fun y=>?_) (fun x=>?_) x
  · rw [Zmh,h1.cf]
    unfold prM shM shC
    simp only [tot,ZTi]
    rw [Zjr hs hc (fun a n=>pr1 ds l 1 a n y) (fun a=>by unfold pr1; split <;> simp)]
  · rw [Zmh,h2.cf]
    unfold prM shM prC shC asT
    rw [Zeb]
    simp only [tot,ZTi]
structure IsDM (ds:List Int) (imgs:List (List Term)) (s out:List (A8×Int)):Prop where
  ok:MapOk out
  cf:∀ x,co out x % 10007=tot (fun p=>dT ds imgs p.1 p.2 x) s % 10007
  mo:∀ y,y∈out→∃ t,t∈s∧DMono ds imgs y.1 t.1
theorem Zx7 {ds:List Int} {imgs:List (List Term)} {f:List Term} {s out':List (A8×Int)} {out:List Term} (hs:IsMap f s) (hc:Canon f) (h:IsD ds imgs f out) (h':IsDM ds imgs s out'):IsMap out out' :=
  Zqc h.can h'.ok fun x=>by
    rw [h'.cf,h.cf,Zjr hs hc (fun a n=>dT ds imgs a n x) (fun a=>Zmf ds imgs a x)]
theorem Zqd {l:List Term} {m:List (A8×Int)} (h:IsMap l m) (hc:Canon l):m=[]↔l=[]:=by
  constructor
  · intro e
    cases l with
    | nil=>rfl
    | cons t l =>
      have h1:=h.cf t.mono
      rw [hc.at_head,e,Zfd] at h1
      have:=hc.2 t (by simp)
      omega
  · intro e
    cases m with
    | nil=>rfl
    | cons p m =>
      obtain ⟨t,ht,_⟩:=h.ks p (by simp)
      rw [e] at ht; cases ht
end Go.Proofs.YtaagfepgbofmlaaGreat
namespace Go.Proofs.YtaagfepgbofmlaaGreat
open Go Vc
theorem Zx8 {a b:Term} {K:Bool→Prop} (h:K (decide (a=b))):Zg8 a b K:=by
  unfold Zg8
  refine Zw0 ?_
  cases a with | mk m x=>cases b with | mk n y =>
  by_cases h1:m=n
  · by_cases h2:x=y
    · simpa [h1,h2] using h
    · simpa [h1,h2] using h
  · simpa [h1] using h
theorem Zqe {α : Type} [DecidableEq α] [Inhabited α] {a b : List α} {K : Bool → Prop} {eq : α → α → (Bool → Prop) → Prop} (he : ∀ x y K, K (decide (x = y)) → eq x y K) (h : K (decide (a = b))) :
    (if(a.length:Int)≠(b.length:Int) then K false else Yb (fun i (s:Unit) next=>((0≤(i:Int)∧(i:Int) < (b.length:Int))∧eq (a.getD i ZEx) (b.getD i ZEx) (fun r=>(if¬ (r=true) then K false else next ())))) (fun (s:Unit)=>K true) a.length 0 ()):=by
  split
  · rename_i h1
    have:¬ a=b:=fun e=>h1 (by rw [e])
    simpa [this] using h
  · rename_i h1
    have hl:a.length=b.length:=by omega
    refine Ys (fun i _=>∀ j,j < i→a.getD j ZEx=b.getD j ZEx) a.length ?_ ?_ _ _ _ (by omega) (by intro j hj; omega)
    · intro i s next hi hI hn
      refine⟨by omega,he _ _ _ ?_⟩
      split
      · rename_i h1
        have:¬ a=b:=fun e=>h1 (by rw [e]; simp)
        simpa [this] using h
      · rename_i h1
        refine hn _ fun j hj=>?_
        by_cases hji:j=i
        · subst hji; simpa only [decide_eq_true_eq,ZQk] using h1
        · exact hI j (by omega)
    · intro s hI
      have:a=b:=by
        apply ZHj hl
        intro i h1 h2
        have:=hI i h1
        simpa [ZFf,h1,h2] using this
      simpa [this] using h
theorem Zx9 {a b:List Term} {K:Bool→Prop} (h:K (decide (a=b))):Zjd a b K:=Zqe (fun _ _ _ h=>Zx8 h) h
theorem Zya {a b:ZMp} {K:Bool→Prop} (h:K (decide (a=b))):Zg9 a b K:=by
  unfold Zg9
  refine Zx9 ?_
  cases a with | mk s=>cases b with | mk t =>
  by_cases h1:s=t
  · simpa [h1] using h
  · simpa [h1] using h
theorem Zyb {a b:List ZMp} {K:Bool→Prop} (h:K (decide (a=b))):Zje a b K:=Zqe (fun _ _ _ h=>Zya h) h
theorem Zyc {a b:Alg} {K:Bool→Prop} (h:K (decide (a=b))):Zfg a b K:=by
  unfold Zfg
  refine Zw1 ?_
  cases a with | mk s t=>cases b with | mk u v =>
  dsimp only
  by_cases h1:s=u
  · simp only [h1,decide_true,not_true_eq_false,if_false]
    refine Zyb ?_
    by_cases h2:t=v
    · simpa [h1,h2] using h
    · simpa [h2] using h
  · simpa [h1] using h
theorem Zmi {α:Type} [Inhabited α] {xs:List α} {i j:Nat} {x:α} (hi:i < xs.length):(xs.set i x).getD j ZEx=if j=i then x else xs.getD j ZEx:=by
  by_cases h:j=i
  · subst h; simp [ZFf,hi]
  · simp [ZFf,List.getElem?_set_ne (fun e=>h e.symm),h]
end Go.Proofs.YtaagfepgbofmlaaGreat
namespace Go.Proofs.YtaagfepgbofmlaaGreat
open Go Vc
theorem Zyd {t:Term} {K:Term→Prop} (h:K t):Zg5 t K:=by
  unfold Zg5
  exact Zwy h
theorem Zye {l:List Term} {K:List Term→Prop} (hl:l.length≤1048576) (h:K l):Zg6 l K:=by
  unfold Zg6
  refine⟨by omega,?_⟩
  refine Ys (fun i (s:List Term)=>s.length=l.length∧∀ j,j < i→s.getD j ZEx=l.getD j ZEx) l.length ?_ ?_ _ _ _ (by omega) ⟨by simp,by intro j hj; omega⟩
  · intro i s next hi ⟨h1,h2⟩ hn
    refine Zyd ⟨by omega,hn _ ⟨by simpa using h1,fun j hj=>?_⟩⟩
    rw [Zmi (by omega)]
    by_cases e:j=i
    · rw [if_pos e,e]
    · rw [if_neg e]; exact h2 j (by omega)
  · intro s ⟨h1,h2⟩
    have:s=l:=ZHj h1 fun j hj hj'=>by have:=h2 j (by omega); simpa [ZFf,hj,hj'] using this
    rw [this]; exact h
theorem Zyf {f:ZMp} {K:ZMp→Prop} (hl:f.terms.length≤1048576) (h:K f):Zg7 f K:=by
  unfold Zg7
  exact Zye hl h
theorem Zyg {f:ZMp} {n:Int} {K:Int→Prop} (hl:(f.terms.length:Int)≤9223372036854775807) (hn:0≤n∧n≤1048576) (h1:(f.terms.length:Int)≤n→K (n - f.terms.length)) (h2:∀ r,r < 0→K r):Zff f n K:=by
  unfold Zff Zjm
  rw [i64_in _ (by omega)]
  split
  · exact h2 _ (by omega)
  · dsimp only
    rw [if_neg (by assumption)]
    exact h1 (by omega)
theorem FitT.map {l:List Term} {m:List (A8×Int)} (h:FitT l) (hm:IsMap l m):∀ p,p∈m→∀ i,i < 8→0≤p.1.get i∧p.1.get i≤255:=fun p hp=>by
  obtain ⟨t,ht,e⟩:=hm.ks p hp
  rw [← e]; exact h.pos t ht
theorem Zdi {ds:List Int} {a:A8} (h:OkMono ds a):Low a:=fun i hi=>by
  by_cases hl:i < ds.length
  · exact((h i hi).1 hl).1
  · rw [(h i hi).2 (by omega)]; omega
theorem Zju {b:Bool} {c:Int} {K:Int→Prop} (h:K (if b=true then c else 0)):Zea b c K:=by
  unfold Zea
  split
  · rename_i q; rwa [if_pos q] at h
  · rename_i q; rwa [if_neg q] at h
theorem Zjv {A B:Prop} (h:B):if¬ (true=true) then A else B:=by simpa using h
theorem Zdj {c:Int} {A B:Prop} (h:B):if c≠c then A else B:=by simpa using h
end Go.Proofs.YtaagfepgbofmlaaGreat
namespace Go.Proofs.YtaagfepgbofmlaaGreat
open Go Vc
def imgsT (a:Alg):List (List Term):=a.images.map Vc.Form.terms
theorem Zdk (a:Alg) {i:Nat} (h:i < a.images.length):(imgsT a).getD i ZEx=(a.images.getD i ZEx).terms:=by
  simp [imgsT,ZFf,h]
structure AlgF (a:Alg):Prop where
  deg:OkDeg a.degrees
  len:a.images.length=a.degrees.length
  frm:∀ i,i < a.images.length→OkForm a.degrees (a.images.getD i ZEx).terms
  fit:∀ i,i < a.images.length→FitT (a.images.getD i ZEx).terms
theorem Zmj {m:A8} {K:ZMp→Prop} (h:K ⟨[⟨m,1⟩]⟩):Ju m 1 K:=by
  unfold Ju
  refine Zcw ?_
  rw [if_neg (by decide)]
  exact Zcw h
theorem Zfj {ds:List Int} {m:A8} (hd:OkDeg ds) (hm:∀ i,i < 8→0≤m.get i∧m.get i≤255):∀ k,k≤ds.length→0≤wtU ds m k∧wtU ds m k≤3060 * k:=by
  intro k
  induction k with
  | zero=>intro _; simp [wtU]
  | succ k ih =>
    intro hk
    have h1:=ih (by omega)
    have h2:=hd.2 k (by omega)
    have h3:=hm k (by have:=hd.1; omega)
    have h4:0≤ds.getD k ZEx * m.get k:=ZT9 (by omega) h3.1
    have h5:ds.getD k ZEx * m.get k≤12 * 255:=ZUa h2.2 h3.2 h3.1 (by omega)
    simp only [wtU]
    omega
theorem Zqf {ds:List Int} {m:A8} (hd:OkDeg ds) (hm:∀ i,i < 8→0≤m.get i∧m.get i≤255) {k:Nat} (hk:k < ds.length):0≤ds.getD k ZEx * m.get k∧ds.getD k ZEx * m.get k≤3060:=by
  have h2:=hd.2 k hk
  have h3:=hm k (by have:=hd.1; omega)
  exact⟨ZT9 (by omega) h3.1,ZUa h2.2 h3.2 h3.1 (by omega)⟩
theorem Zmk {ds:List Int} {m:A8} {K:Int→Prop} (hd:OkDeg ds) (hm:∀ i,i < 8→0≤m.get i∧m.get i≤255) (h:K (wtU ds m ds.length)):Zdd ds m K:=by
  unfold Zdd
  have h8:=hd.1
  refine Ys (fun i (s:Int)=>s=wtU ds m i) ds.length ?_ ?_ _ _ _ (by omega) rfl
  · intro i s next hi hs hn
    have h1:=hm i (by omega)
    have h2:=Zqf hd hm hi
    have h3:=Zfj hd hm i (by omega)
    refine⟨by omega,?_⟩
    rw [i64_in (m.get i) (by omega),i64_in (ds.getD i ZEx * m.get i) (by omega),i64_in _ (by omega)]
    exact hn _ (by simp only [wtU]; rw [hs])
  · intro s hs; rw [hs]; exact h
theorem Zyh {ds:List Int} {m:A8} {K:Int→Prop} (hd:OkDeg ds) (hm:∀ i,i < 8→0≤m.get i∧m.get i≤255) (h:K (wtU ds m ds.length)):Zgx m ds K:=by
  unfold Zgx
  have h8:=hd.1
  refine Ys (fun i (s:Int)=>s=wtU ds m i) ds.length ?_ ?_ _ _ _ (by omega) rfl
  · intro i s next hi hs hn
    have h2:=Zqf hd hm hi
    have h3:=Zfj hd hm i (by omega)
    refine⟨by omega,?_⟩
    rw [i64_in (ds.getD i ZEx * m.get i) (by omega),i64_in _ (by omega)]
    exact hn _ (by simp only [wtU]; rw [hs])
  · intro s hs; rw [hs]; exact h
theorem Zyi {ds:List Int} {m:A8} {i:Nat} (h8:ds.length≤8):∀ k,k≤ds.length→wtU ds (Xv m i) k=wtU ds m (min i k):=by
  intro k
  induction k with
  | zero=>intro _; simp [wtU]
  | succ k ih =>
    intro hk
    simp only [wtU]
    rw [ih (by omega),Xv,A8.get_mkf _ (by omega)]
    by_cases h:k < i
    · rw [if_pos h,show min i (k+1)=k+1 by omega,show min i k=k by omega]
      simp only [wtU]
    · rw [if_neg h,show min i (k+1)=i by omega,show min i k=i by omega]
      simp
theorem Zml (m:A8):Canon [⟨m,1⟩]:=⟨by simp,by intro t ht; obtain rfl:=ZF6.1 ht; simp⟩
theorem Zyj {l g:List Term} {m:A8} (h:l.length≤([⟨m,1⟩]:List Term).length * g.length):l.length≤g.length:=by simpa using h
theorem Zfk {a:A8} (h:Low a) (p:∀ i,i < 8→0≤a.get i∧a.get i≤255):∀ i,i < 8→0≤a.get i∧a.get i≤20:=fun i hi=>⟨(p i hi).1,h i hi⟩
theorem Zmm {m:A8} {i:Nat} (hm:∀ i,i < 8→0≤m.get i∧m.get i≤20) (hp:0 < m.get i):(∀ j,j < 8→0≤(leftA m i).get j∧(leftA m i).get j≤20)∧(∀ j,j < 8→0≤(backA m i).get j∧(backA m i).get j≤20)∧∀ j,j < 8→(leftA m i).get j+(backA m i).get j≤20:=by
  refine⟨fun j hj=>?_,fun j hj=>?_,fun j hj=>?_⟩
  · rw [leftA,A8.get_mkf _ hj]
    have:=hm j hj
    split
    · exact this
    · split
      · rename_i e; subst e; omega
      · omega
  · rw [backA,A8.get_mkf _ hj]
    have:=hm j hj
    split <;> omega
  · rw [leftA,backA,A8.get_mkf _ hj,A8.get_mkf _ hj]
    have:=hm j hj
    split
    · rw [if_neg (by omega)]; omega
    · split
      · rename_i e; subst e; rw [if_neg (by omega)]; omega
      · split <;> omega
theorem Zqg (ds:List Int) (m:A8) (n:Int) (i:Nat):0≤dK ds m n i∧dK ds m n i≤10006:=by unfold dK; omega
theorem Zyk {w:Int} (hw:0≤w):(ZFo w 2≠0∧sg w=-1)∨(¬ ZFo w 2≠0∧sg w=1):=by
  rw [ZPg hw]
  unfold sg
  by_cases h:w % 2=0
  · right; rw [if_pos h]; exact⟨by omega,rfl⟩
  · left; rw [if_neg h]; exact⟨h,rfl⟩
structure StepD (ds:List Int) (imgs:List (List Term)) (m:A8) (n:Int) (i:Nat) (out out':List Term):Prop where
  can:Canon out'
  cf:∀ x,coT out' x % 10007=(coT out x+dK ds m n i * triC ds (leftA m i) (backA m i) (imgs.getD i ZEx) x) % 10007
  mo:∀ y,y∈out'→(∃ z,z∈out∧z.mono=y.mono)∨DMono ds imgs y.mono m
  ln:out'.length≤out.length+400
theorem Zyl {a:Alg} {K:ZMp→Prop} {m:A8} {n v:Int} {i:Nat} {out:List Term} (ha:AlgF a) (hi:i < a.images.length) (hm:OkMono a.degrees m) (pm:∀ i,i < 8→0≤m.get i∧m.get i≤255) (hp:0 < m.get i) (hc:Canon out) (hl:out.length≤50000000) (hv:v % 10007=dK a.degrees m n i)
    (h:∀ out',StepD a.degrees (imgsT a) m n i out out'→K ⟨out'⟩) :
    Ju (leftA m i) 1 (fun r=>J8 a.degrees r (a.images.getD i ZEx) (fun r'=>Ju (backA m i) 1 (fun r2=>J8 a.degrees r' r2 (fun r3=>Xz v (fun k=>Za2 ⟨out⟩ r3 k K))))):=by
  have hd:=ha.deg
  have hi8:i < 8:=by have:=hd.1; have:=ha.len; omega
  have hf:=ha.frm i hi
  have ff:=ha.fit i hi
  have hm20:=Zfk (Zdi hm) pm
  obtain ⟨lb,bb,lbb⟩:=Zmm hm20 hp
  obtain ⟨wl,wb⟩:=Zmg hm hi8 hp
  refine Zmj ?_
  have hL:(⟨(a.images.getD i ZEx).terms⟩:ZMp)=a.images.getD i ZEx:=rfl
  rw [← hL]
  refine Zp5 hd (Zml _) (fun u hu=>by obtain rfl:=ZF6.1 hu; exact wl) (fun u hu q hq=>by obtain rfl:=ZF6.1 hu; have:=lb q hq; dsimp only; omega) hf.canon (fun u hu=>(hf.mono hu).wk) ff.pos (by simp) (by have:=hf.1; omega) fun own ho=>?_
  refine Zmj ?_
  have hown:∀ u,u∈own→∃ z,z∈(a.images.getD i ZEx).terms∧u.mono=(leftA m i).add z.mono∧¬ Clash a.degrees (leftA m i) z.mono∧(∀ q,q < 8→0≤z.mono.get q∧z.mono.get q≤20):=fun u hu=>by
    obtain ⟨t,z,ht,hz,e,hcl⟩:=ho.mo u hu
    obtain rfl:=ZF6.1 ht
    exact⟨z,hz,e,hcl,Zfk (Zdi (hf.mono hz)) (ff.pos z hz)⟩
  have wown:∀ u,u∈own→X7 a.degrees u.mono∧∀ q,q < 8→0≤u.mono.get q∧u.mono.get q≤40:=fun u hu=>by
    obtain ⟨z,hz,e,hcl,hz20⟩:=hown u hu
    rw [e]
    refine⟨Zjt wl (hf.mono hz).wk (fun q hq=>(lb q hq).1) (fun q hq=>(hz20 q hq).1) (fun q hq=>by have:=lb q hq; have:=hz20 q hq; omega) hcl,fun q hq=>?_⟩
    rw [A8.get_add]
    have:=lb q hq
    have:=hz20 q hq
    omega
  have lo:=Zyj ho.ln
  refine Zp5 hd ho.can (fun u hu=>(wown u hu).1) (fun u hu q hq=>by have:=(wown u hu).2 q hq; omega) (Zml _) (fun u hu=>by obtain rfl:=ZF6.1 hu; exact wb) (fun u hu q hq=>by obtain rfl:=ZF6.1 hu; have:=bb q hq; dsimp only; omega) (by have:=hf.1; omega) (by simp) fun prod hpr=>?_
  have lp:prod.length≤400:=by have h1:=hpr.ln; have:=hf.1; simp at h1; omega
  refine Zcw ?_
  rw [hv]
  refine Zp4 hc hpr.can (Zqg _ _ _ _) (by omega) (by omega) fun out' hout=>h out' ⟨hout.can,fun x=>?_,fun y hy=>?_,by have:=hout.ln; omega⟩
  · rw [hout.cf]
    have e1:=Zqb (ds:=a.degrees) (l:=leftA m i) (b:=backA m i) (img:=(a.images.getD i ZEx).terms) (own:=own) (prod:=prod) (fun y=>by rw [ho.cf]; simp [prC,tot]) (fun x=>hpr.cf x) x
    rw [Zdk a hi,ZT1,ZTo,e1,← ZTo,← ZT1]
  · obtain ⟨z,hz,e⟩:=hout.mo y hy
    rcases hz with hz | hz
    · exact .inl ⟨z,hz,e⟩
    · obtain ⟨t,b,ht,hb,e2,hcl2⟩:=hpr.mo z hz
      obtain rfl:=ZF6.1 hb
      obtain ⟨u,hu,e3,hcl,_⟩:=hown t ht
      refine .inr ⟨i,u,hi8,hp,by rw [Zdk a hi]; exact hu,by rw [← e,e2,e3],hcl,?_⟩
      rw [← e3]; exact hcl2
theorem Zqh {a : Alg} {f : List Term} {K : ZMp → Prop} (ha : AlgF a) (hf : OkForm a.degrees f) (ff : FitT f) (h : ∀ out, IsD a.degrees (imgsT a) f out → out.length ≤ 1280000 → K ⟨out⟩) : Zde a ⟨f⟩ K := by
  have hd:=ha.deg
  have h8:=hd.1
  have hlen:=ha.len
  have hl4:=hf.1
  unfold Zde
  dsimp only
  refine Jd (fun (s:List Term×Int)=>0≤s.2∧s.2≤f.length∧IsD a.degrees (imgsT a) (f.take s.2.toNat) s.1∧s.1.length≤3200 * s.2.toNat) (fun s=>f.length - s.2.toNat) ?_ ⟨ZTm _,by dsimp only; omega,⟨Canon.nil,by intro x; rfl,by intro y hy; cases hy⟩,by simp⟩
  rintro ⟨out0,k⟩ next ⟨h1,h2,hI,hL⟩ hn
  dsimp only at h1 h2 hI hL hn ⊢
  split
  · rename_i hk
    have kn:k.toNat < f.length:=by omega
    refine⟨by omega,?_⟩
    have tm:=Y1 kn
    have hm:=hf.mono tm
    have pm:=ff.pos _ tm
    have hfac:=hf.canon.at_range kn
    generalize hgm:(f.getD k.toNat ZEx).mono=m at hm pm ⊢
    generalize hgn:(f.getD k.toNat ZEx).factor=n at hfac ⊢
    have nk:(k+1).toNat=k.toNat+1:=by omega
    have wk1:ZHd.wrap (k+1)=k+1:=i64_in _ (by omega)
    refine Jd (fun (s:List Term×Int)=>0≤s.2∧s.2≤a.degrees.length∧Canon s.1∧(∀ x,(coT s.1 x+dS a.degrees (imgsT a) m n x (8 - s.2.toNat) s.2.toNat) % 10007=(tot (fun t=>dT a.degrees (imgsT a) t.mono t.factor x) (f.take k.toNat)+dT a.degrees (imgsT a) m n x) % 10007)∧(∀ y,y∈s.1→∃ t,t∈f.take (k.toNat+1)∧DMono a.degrees (imgsT a) y.mono t.mono)∧s.1.length≤3200 * k.toNat+400 * s.2.toNat)
      (fun s=>a.degrees.length - s.2.toNat) ?_ ⟨ZTm _,by dsimp only; omega,hI.can,fun x=>?_,fun y hy=>?_,by dsimp only; omega⟩
    · rintro ⟨out,i⟩ next' ⟨g1,g2,gc,gf,gm,gl⟩ hn'
      dsimp only at g1 g2 gc gf gm gl hn' ⊢
      have ni:(i+1).toNat=i.toNat+1:=by omega
      have wi:ZHd.wrap (i+1)=i+1:=i64_in _ (by omega)
      rw [wi,wk1]
      split
      · rename_i hi
        have hin:i.toNat < a.degrees.length:=by omega
        have hi8:i.toNat < 8:=by omega
        have pmi:=pm i.toNat hi8
        have hdS:∀ x,dS a.degrees (imgsT a) m n x (8 - i.toNat) i.toNat=(if m.get i.toNat > 0 then dK a.degrees m n i.toNat * triC a.degrees (leftA m i.toNat) (backA m i.toNat) ((imgsT a).getD i.toNat ZEx) x else 0)+dS a.degrees (imgsT a) m n x (8 - (i.toNat+1)) (i.toNat+1):=fun x=>by
          rw [show 8 - i.toNat=(8 - (i.toNat+1))+1 by omega]; rfl
        refine⟨by omega,?_⟩
        split
        · rename_i he
          refine hn' _ ⟨by dsimp only; omega,by dsimp only; omega,gc,fun x=>?_,gm,by dsimp only; omega⟩ (by dsimp only; omega)
          dsimp only
          rw [ni]
          have:=gf x
          rw [hdS,if_neg (by omega),ZO6] at this
          exact this
        · rename_i he
          have hp:0 < m.get i.toNat:=by omega
          refine Ys (fun j (s:A8×A8)=>∀ q,q < 8→(s.1.get q=if q < j∧i.toNat≤q then 0 else m.get q)∧(s.2.get q=if q < j∧q≤i.toNat then 0 else m.get q)) 8 ?_ ?_ _ _ _ (by omega) (fun q hq=>⟨by rw [if_neg (by omega)],by rw [if_neg (by omega)]⟩)
          · rintro j ⟨s1,s2⟩ nx hj hs hnx
            dsimp only at hs ⊢
            have fin:∀ t1 t2:A8,(∀ q,q < 8→t1.get q=if q=j∧i.toNat≤j then 0 else s1.get q)→(∀ q,q < 8→t2.get q=if q=j∧j≤i.toNat then 0 else s2.get q)→nx (t1,t2):=fun t1 t2 e1 e2=>hnx _ fun q hq=>by
              obtain ⟨a1,a2⟩:=hs q hq
              dsimp only
              rw [e1 q hq,e2 q hq]
              constructor
              · by_cases c1:q=j∧i.toNat≤j
                · rw [if_pos c1,if_pos ⟨by omega,by omega⟩]
                · rw [if_neg c1,a1]
                  by_cases c2:q < j∧i.toNat≤q
                  · rw [if_pos c2,if_pos ⟨by omega,c2.2⟩]
                  · rw [if_neg c2,if_neg (by omega)]
              · by_cases c1:q=j∧j≤i.toNat
                · rw [if_pos c1,if_pos ⟨by omega,by omega⟩]
                · rw [if_neg c1,a2]
                  by_cases c2:q < j∧q≤i.toNat
                  · rw [if_pos c2,if_pos ⟨by omega,c2.2⟩]
                  · rw [if_neg c2,if_neg (by omega)]
            have z0:∀ (s:A8) q,(s.set j 0).get q=if q=j then 0 else s.get q:=fun s q=>ZPe hj
            split
            · rename_i hge
              split
              · rename_i hle
                exact fin _ _ (fun q hq=>by rw [z0]; by_cases e:q=j <;> simp [e]; omega) (fun q hq=>by rw [z0]; by_cases e:q=j <;> simp [e]; omega)
              · rename_i hle
                exact fin _ _ (fun q hq=>by rw [z0]; by_cases e:q=j <;> simp [e]; omega) (fun q hq=>by rw [if_neg (by omega)])
            · rename_i hge
              split
              · rename_i hle
                exact fin _ _ (fun q hq=>by rw [if_neg (by omega)]) (fun q hq=>by rw [z0]; by_cases e:q=j <;> simp [e]; omega)
              · rename_i hle
                exact fin _ _ (fun q hq=>by rw [if_neg (by omega)]) (fun q hq=>by rw [if_neg (by omega)])
          · rintro ⟨s1,s2⟩ hs
            have e1:s1=Xv m i.toNat:=ZPf fun q hq=>by
              rw [(hs q hq).1,Xv,A8.get_mkf _ hq]
              by_cases hh:q < i.toNat
              · rw [if_neg (by omega),if_pos hh]
              · rw [if_pos ⟨hq,by omega⟩,if_neg hh]
            have e2:s2=backA m i.toNat:=ZPf fun q hq=>by
              rw [(hs q hq).2,backA,A8.get_mkf _ hq]
              by_cases hh:i.toNat < q
              · rw [if_neg (by omega),if_pos hh]
              · rw [if_pos ⟨hq,by omega⟩,if_neg hh]
            dsimp only
            rw [e1,e2]
            have hw:∀ q,q < 8→0≤(Xv m i.toNat).get q∧(Xv m i.toNat).get q≤255:=fun q hq=>by
              rw [Xv,A8.get_mkf _ hq]
              have:=pm q hq
              split <;> omega
            have hwt:wtU a.degrees (Xv m i.toNat) a.degrees.length=wtU a.degrees m i.toNat:=by rw [Zyi h8 _ (ZEw _),show min i.toNat a.degrees.length=i.toNat by omega]
            have hwb:=Zfj hd pm i.toNat (by omega)
            have hml:=Zdi hm i.toNat hi8
            have hset:(Xv m i.toNat).set i.toNat (IntKind.u8.wrap (m.get i.toNat - 1))=leftA m i.toNat:=ZPf fun q hq=>by
              rw [ZPe hi8,Zln _ (by omega),Xv,leftA,A8.get_mkf _ hq,A8.get_mkf _ hq]
              by_cases e:q=i.toNat
              · subst e; rw [if_pos rfl,if_neg (by omega),if_pos rfl]
              · rw [if_neg e]
                by_cases hh:q < i.toNat
                · rw [if_pos hh,if_pos hh]
                · rw [if_neg hh,if_neg hh,if_neg e]
            rw [hset]
            have hwm:ZHd.wrap (m.get i.toNat)=m.get i.toNat:=i64_in _ (by omega)
            have hpb:0≤n * m.get i.toNat∧n * m.get i.toNat≤100120036:=Zjo (by omega) (by omega)
            rw [hwm,i64_in (n * m.get i.toNat) (by omega),i64_in (0 - n * m.get i.toNat) (by omega)]
            refine⟨by omega,by omega,by omega,by omega,Zmk hd hw ?_⟩
            rw [hwt]
            have key:∀ v,v % 10007=dK a.degrees m n i.toNat→Ju (leftA m i.toNat) 1 (fun r=>J8 a.degrees r (a.images.getD i.toNat ZEx) (fun r'=>Ju (backA m i.toNat) 1 (fun r2=>J8 a.degrees r' r2 (fun r3=>Xz v (fun k=>Za2 ⟨out⟩ r3 k (fun r=>next' (r.terms,i+1))))))):=fun v hv =>
              Zyl ha (by omega) hm pm hp gc (by omega) hv fun out' hs' => by
                refine hn' _ ⟨by dsimp only; omega,by dsimp only; omega,hs'.can,fun x=>?_,fun y hy=>?_,by have:=hs'.ln; dsimp only; omega⟩ (by dsimp only; omega)
                · dsimp only
                  rw [ni]
                  have b1:=gf x
                  have b2:=hs'.cf x
                  rw [hdS,if_pos (by omega)] at b1
                  omega
                · rcases hs'.mo y hy with ⟨z,hz,e⟩ | hD
                  · obtain ⟨t,ht,q⟩:=gm z hz
                    exact⟨t,ht,e ▸ q⟩
                  · exact⟨f.getD k.toNat ZEx,by rw [X0 kn]; exact ZFj _ (ZF6.2 rfl),by rw [hgm]; exact hD⟩
            rcases Zyk hwb.1 with ⟨q1,q2⟩ | ⟨q1,q2⟩
            · rw [if_pos q1]
              refine⟨by omega,key _ ?_⟩
              unfold dK; rw [q2]; congr 1; omega
            · rw [if_neg q1]
              refine⟨by omega,key _ ?_⟩
              unfold dK; rw [q2]; congr 1; omega
      · rename_i hi
        refine hn _ ⟨by dsimp only; omega,by dsimp only; omega,⟨gc,fun x=>?_,fun y hy=>?_⟩,by dsimp only; omega⟩ (by dsimp only; omega)
        · dsimp only
          rw [nk,X0 kn,Zhb]
          simp only [tot]
          rw [hgm,hgn]
          have:=gf x
          rw [Zx5 _ _ (fun j hj1 hj2=>(hm j (by omega)).2 (by omega))] at this
          omega
        · dsimp only
          rw [nk]; exact gm y hy
    · dsimp only
      have:=hI.cf x
      show (coT out0 x+dT a.degrees (imgsT a) m n x) % 10007=_
      omega
    · obtain ⟨t,ht,q⟩:=hI.mo y hy
      exact⟨t,ZTz (i:=k.toNat) (by rw [ZUg,show min k.toNat (k.toNat+1)=k.toNat by omega]; exact ht),q⟩
  · rename_i hk
    rw [ZFw (by omega)] at hI
    exact h _ hI (by omega)
end Go.Proofs.YtaagfepgbofmlaaGreat
namespace Go.Proofs.YtaagfepgbofmlaaGreat
open Go Vc
theorem Zym {a:Alg} {K:List (Option (List (A8×Int)))→Prop} (ha:AlgF a) (h:∀ ls:List (Option (List (A8×Int))),(∀ i,i < a.images.length→∃ m,ls[i]? = some (some m)∧IsMap (a.images.getD i ZEx).terms m)→K ls):Zg0 a K:=by
  unfold Zg0
  have h8:a.images.length≤8:=by have:=ha.deg.1; have:=ha.len; omega
  refine Ys (fun i (s:List (Option (List (A8×Int))))=>s.length=8∧∀ j,j < i→∃ m,s[j]? = some (some m)∧IsMap (a.images.getD j ZEx).terms m) a.images.length ?_ ?_ _ _ _ (by omega) ⟨by simp,by intro j hj; omega⟩
  · intro i s next hi ⟨h1,h2⟩ hn
    have hL:(⟨(a.images.getD i ZEx).terms⟩:ZMp)=a.images.getD i ZEx:=rfl
    rw [← hL]
    refine Zp7 (ha.frm i hi).canon (ha.fit i hi) fun m hm=>⟨by omega,hn _ ⟨by simpa using h1,fun j hj=>?_⟩⟩
    by_cases e:j=i
    · subst e
      exact⟨m,by rw [List.getElem?_set_self (by omega)],hm⟩
    · rw [List.getElem?_set_ne (fun q=>e q.symm)]
      exact h2 j (by omega)
  · intro s ⟨h1,h2⟩
    exact h s h2
theorem Zmn (m:A8):MapOk [(m,1)]:=⟨by simp,by intro p hp; obtain rfl:=ZF6.1 hp; simp⟩
theorem Zyn {a:Alg} {K:List (A8×Int)→Prop} {m:A8} {n v:Int} {i:Nat} {out ml:List (A8×Int)} (ha:AlgF a) (hi:i < a.images.length) (hm:OkMono a.degrees m) (pm:∀ i,i < 8→0≤m.get i∧m.get i≤255) (hp:0 < m.get i) (ho:MapOk out) (hml:IsMap (a.images.getD i ZEx).terms ml) (hv:v % 10007=dK a.degrees m n i)
    (h:∀ out',MapOk out'→(∀ x,co out' x % 10007=(co out x+dK a.degrees m n i * triC a.degrees (leftA m i) (backA m i) ((imgsT a).getD i ZEx) x) % 10007)→(∀ y,y∈out'→(∃ z,z∈out∧z.1=y.1)∨DMono a.degrees (imgsT a) y.1 m)→K out') :
    Zb8 (Yh ([]:List (A8×Int)) (leftA m i) 1) a.degrees ml (fun r=>Zb8 r a.degrees (Yh ([]:List (A8×Int)) (backA m i) 1) (fun r2=>Zcq v (fun k=>Zd6 out r2 k K))):=by
  have hd:=ha.deg
  have hi8:i < 8:=by have:=hd.1; have:=ha.len; omega
  have hf:=ha.frm i hi
  have ff:=ha.fit i hi
  have hm20:=Zfk (Zdi hm) pm
  obtain ⟨lb,bb,lbb⟩:=Zmm hm20 hp
  obtain ⟨wl,wb⟩:=Zmg hm hi8 hp
  have hml20:∀ p,p∈ml→OkMono a.degrees p.1∧∃ t,t∈(a.images.getD i ZEx).terms∧t.mono=p.1∧∀ q,q < 8→0≤p.1.get q∧p.1.get q≤20:=fun p hpm=>by
    obtain ⟨t,ht,e⟩:=hml.ks p hpm
    rw [← e]
    exact⟨hf.mono ht,t,ht,rfl,Zfk (Zdi (hf.mono ht)) (ff.pos t ht)⟩
  show Zb8 [(leftA m i,1)] a.degrees ml _
  refine Zp9 hd (Zmn _) (fun p hp'=>by obtain rfl:=ZF6.1 hp'; exact wl) (fun p hp' q hq=>by obtain rfl:=ZF6.1 hp'; exact(lb q hq).1) hml.ok (fun p hpm=>(hml20 p hpm).1.wk) (fun p hpm q hq=>by obtain ⟨_,t,_,_,b⟩:=hml20 p hpm; exact(b q hq).1) fun own hown=>?_
  have wown:∀ u,u∈own→∃ z,z∈(a.images.getD i ZEx).terms∧u.1=(leftA m i).add z.mono∧¬ Clash a.degrees (leftA m i) z.mono∧X7 a.degrees u.1∧∀ q,q < 8→0≤u.1.get q∧u.1.get q≤40:=fun u hu=>by
    obtain ⟨t,z,ht,hz,e,hcl⟩:=hown.ks u hu
    obtain rfl:=ZF6.1 ht
    obtain ⟨hzm,tt,htt,ett,hz20⟩:=hml20 z hz
    refine⟨tt,htt,by rw [ett]; exact e,by rw [ett]; exact hcl,?_,fun q hq=>?_⟩
    · rw [e]
      exact Zjt wl hzm.wk (fun q hq=>(lb q hq).1) (fun q hq=>(hz20 q hq).1) (fun q hq=>by have:=lb q hq; have:=hz20 q hq; dsimp only; omega) hcl
    · rw [e,A8.get_add]
      have:=lb q hq
      have:=hz20 q hq
      dsimp only
      omega
  show Zb8 own a.degrees [(backA m i,1)] _
  refine Zp9 hd hown.ok (fun u hu=>by obtain ⟨_,_,_,_,w,_⟩:=wown u hu; exact w) (fun u hu q hq=>by obtain ⟨_,_,_,_,_,b⟩:=wown u hu; exact(b q hq).1) (Zmn _) (fun p hp'=>by obtain rfl:=ZF6.1 hp'; exact wb) (fun p hp' q hq=>by obtain rfl:=ZF6.1 hp'; exact(bb q hq).1) fun prod hpr=>?_
  refine Zmb ?_
  rw [hv]
  refine Zx3 ho hpr.ok (Zqg _ _ _ _) fun out' hout=>h out' hout.ok (fun x=>?_) fun y hy=>?_
  · rw [hout.cf,Zdk a hi]
    have e1:=Zx6 hml hf.canon hown hpr x
    rw [ZT1,ZTo,e1,← ZTo,← ZT1]
  · obtain ⟨z,hz,e⟩:=hout.ks y hy
    rcases hz with hz | hz
    · exact .inl ⟨z,hz,e⟩
    · obtain ⟨t,b,ht,hb,e2,hcl2⟩:=hpr.ks z hz
      obtain rfl:=ZF6.1 hb
      obtain ⟨u,hu,e3,hcl,_⟩:=wown t ht
      refine .inr ⟨i,u,hi8,hp,by rw [Zdk a hi]; exact hu,by rw [← e,e2,e3],hcl,?_⟩
      rw [← e3]; exact hcl2
theorem Zyo (m:A8):ZMs=Xv m 0:=ZPf fun q hq=>by rw [A8.get_zero,Xv,A8.get_mkf _ hq,if_neg (by omega)]
theorem Zyp {m:A8} {i:Nat} (hi:i < 8):(Xv m i).set i (m.get i)=Xv m (i+1):=ZPf fun q hq=>by
  rw [ZPe hi,Xv,Xv,A8.get_mkf _ hq,A8.get_mkf _ hq]
  by_cases e:q=i
  · subst e; rw [if_pos rfl,if_pos (by omega)]
  · rw [if_neg e]
    by_cases hh:q < i
    · rw [if_pos hh,if_pos (by omega)]
    · rw [if_neg hh,if_neg (by omega)]
theorem Zyq {d e:Int} (hd:1≤d∧d≤12) (he:0≤e):sg (d * e)=if ZFo d 2=1∧ZFo e 2=1 then -1 else 1:=by
  rw [ZPg (by omega),ZPg he]
  unfold sg
  have h:=ZTo d e 2
  rcases (by omega:d % 2=0∨d % 2=1) with a | a <;> rcases (by omega:e % 2=0∨e % 2=1) with b | b <;> rw [a,b] at h <;> simp [h,a,b]
theorem m_d {a : Alg} {f : List Term} {s : List (A8 × Int)} {K : List (A8 × Int) → Prop} (ha : AlgF a) (hs : IsMap f s) (hf : OkForm a.degrees f) (ff : FitT f) (h : ∀ out, IsDM a.degrees (imgsT a) s out → K out) : Zd9 a s K := by
  have hd:=ha.deg
  have h8:=hd.1
  have hlen:=ha.len
  unfold Zd9
  refine Zym ha fun ls hls=>?_
  refine Zgf (fun l' (out:List (A8×Int))=>(∀ p,p∈l'→p∈s)∧MapOk out∧(∀ x,(co out x+tot (fun p=>dT a.degrees (imgsT a) p.1 p.2 x) l') % 10007=tot (fun p=>dT a.degrees (imgsT a) p.1 p.2 x) s % 10007)∧(∀ y,y∈out→∃ t,t∈s∧DMono a.degrees (imgsT a) y.1 t.1)) ?_ ?_ s [] ⟨fun _ h=>h,MapOk.nil,fun x=>by rw [Zfd,ZO6],by simp⟩
  · intro l' p l'' out next hpk ⟨h0, h1, h2, h3⟩ hn
    have hperm:=Zi1 hpk
    have hpm:p∈s:=h0 p (hperm.mem_iff.2 (by simp))
    have hpf:=hs.ok.2 p hpm
    obtain ⟨t,ht,et⟩:=hs.ks p hpm
    have hm:OkMono a.degrees p.1:=by rw [← et]; exact hf.mono ht
    have pm:∀ i,i < 8→0≤p.1.get i∧p.1.get i≤255:=by rw [← et]; exact ff.pos t ht
    have e3:∀ x,tot (fun p=>dT a.degrees (imgsT a) p.1 p.2 x) l'=dT a.degrees (imgsT a) p.1 p.2 x+tot (fun p=>dT a.degrees (imgsT a) p.1 p.2 x) l'':=fun x=>by rw [Zfc _ hperm]; rfl
    refine Ys (fun i (t:A8×(List (A8×Int))×Int)=>t.1=Xv p.1 i∧MapOk t.2.1∧t.2.2=sg (wtU a.degrees p.1 i)∧(∀ x,(co t.2.1 x+dS a.degrees (imgsT a) p.1 p.2 x (8 - i) i) % 10007=(co out x+dT a.degrees (imgsT a) p.1 p.2 x) % 10007)∧(∀ y,y∈t.2.1→∃ t,t∈s∧DMono a.degrees (imgsT a) y.1 t.1)) 8 ?_ ?_ _ _ _ (by omega) ⟨Zyo _,h1,rfl,fun x=>rfl,h3⟩
    · rintro i ⟨t1,o1,sg1⟩ nx hi ⟨g1,g2,g3,g4,g5⟩ hnx
      dsimp only at g1 g2 g3 g4 g5 ⊢
      subst g1 g3
      have pmi:=pm i hi
      have hdS:∀ x,dS a.degrees (imgsT a) p.1 p.2 x (8 - i) i=(if p.1.get i > 0 then dK a.degrees p.1 p.2 i * triC a.degrees (leftA p.1 i) (backA p.1 i) ((imgsT a).getD i ZEx) x else 0)+dS a.degrees (imgsT a) p.1 p.2 x (8 - (i+1)) (i+1):=fun x=>by
        rw [show 8 - i=(8 - (i+1))+1 by omega]; rfl
      have hspm:=Zi2 (wtU a.degrees p.1 i)
      have tail:∀ o2:List (A8×Int),MapOk o2→(∀ x,(co o2 x+dS a.degrees (imgsT a) p.1 p.2 x (8 - (i+1)) (i+1)) % 10007=(co out x+dT a.degrees (imgsT a) p.1 p.2 x) % 10007)→(∀ y,y∈o2→∃ t,t∈s∧DMono a.degrees (imgsT a) y.1 t.1) →
          (if(i:Int) < (a.degrees.length:Int) then((0≤(i:Int)∧(i:Int) < (a.degrees.length:Int))∧(if ZFo (a.degrees.getD i ZEx) 2=1 then(if ZFo (p.1.get i) 2=1 then nx ((Xv p.1 i).set i (p.1.get i),o2,ZHd.wrap (0 - sg (wtU a.degrees p.1 i))) else nx ((Xv p.1 i).set i (p.1.get i),o2,sg (wtU a.degrees p.1 i))) else nx ((Xv p.1 i).set i (p.1.get i),o2,sg (wtU a.degrees p.1 i)))) else nx ((Xv p.1 i).set i (p.1.get i),o2,sg (wtU a.degrees p.1 i))):=by
        intro o2 k1 k2 k3
        rw [Zyp hi]
        have go:∀ z,z=sg (wtU a.degrees p.1 (i+1))→nx (Xv p.1 (i+1),o2,z):=fun z hz=>hnx _ ⟨rfl,k1,hz,k2,k3⟩
        have hw:wtU a.degrees p.1 (i+1)=wtU a.degrees p.1 i+a.degrees.getD i ZEx * p.1.get i:=rfl
        split
        · rename_i hin
          have hdi:=hd.2 i (by omega)
          have hstep:=Zyq hdi pmi.1
          refine⟨by omega,?_⟩
          split
          · rename_i q1
            split
            · rename_i q2
              rw [if_pos ⟨q1,q2⟩] at hstep
              rw [i64_in _ (by omega)]
              exact go _ (by rw [hw,Za1,hstep]; omega)
            · rename_i q2
              rw [if_neg (fun z=>q2 z.2)] at hstep
              exact go _ (by rw [hw,Za1,hstep,Int.mul_one])
          · rename_i q1
            rw [if_neg (fun z=>q1 z.1)] at hstep
            exact go _ (by rw [hw,Za1,hstep,Int.mul_one])
        · rename_i hin
          have:=(hm i hi).2 (by omega)
          exact go _ (by rw [hw,this,ZT0,ZTi])
      split
      · rename_i hp0
        have hp0':0 < p.1.get i:=hp0
        have hin:i < a.images.length:=by
          rcases Nat.lt_or_ge i a.images.length with q | q
          · exact q
          · have:=(hm i hi).2 (by omega); omega
        have wi:ZHd.wrap ((i:Int)+1)=(i:Int)+1:=i64_in _ (by omega)
        rw [wi]
        refine Jd (fun (t:A8×Int)=>0≤t.2∧t.2≤i+1∧∀ q,q < 8→t.1.get q=if(q:Int) < t.2 then 0 else p.1.get q) (fun t=>i+1 - t.2.toNat) ?_ ⟨ZTm _,by dsimp only; omega,fun q hq=>by rw [if_neg (by dsimp only; omega)]⟩
        rintro ⟨t1,k⟩ nk ⟨b1,b2,b3⟩ hnk
        dsimp only at b1 b2 b3 hnk ⊢
        split
        · rename_i hk
          refine⟨by omega,?_⟩
          rw [i64_in (k+1) (by omega)]
          refine hnk _ ⟨by dsimp only; omega,by dsimp only; omega,fun q hq=>?_⟩ (by dsimp only; omega)
          dsimp only
          rw [ZPe (by omega),b3 q hq]
          by_cases e:q=k.toNat
          · rw [if_pos e,if_pos (by omega)]
          · rw [if_neg e]
            by_cases hh:(q:Int) < k
            · rw [if_pos hh,if_pos (by omega)]
            · rw [if_neg hh,if_neg (by omega)]
        · rename_i hk
          have eb:t1=backA p.1 i:=ZPf fun q hq=>by
            rw [b3 q hq,backA,A8.get_mkf _ hq]
            by_cases hh:i < q
            · rw [if_neg (by omega),if_pos hh]
            · rw [if_pos (by omega),if_neg hh]
          have hml:=Zdi hm i hi
          have el:(Xv p.1 i).set i (ZHd.wrap (p.1.get i - 1))=leftA p.1 i:=ZPf fun q hq=>by
            rw [ZPe hi,i64_in _ (by omega),Xv,leftA,A8.get_mkf _ hq,A8.get_mkf _ hq]
            by_cases e:q=i
            · subst e; rw [if_pos rfl,if_neg (by omega),if_pos rfl]
            · rw [if_neg e]
              by_cases hh:q < i
              · rw [if_pos hh,if_pos hh]
              · rw [if_neg hh,if_neg hh,if_neg e]
          rw [eb,el]
          obtain ⟨ml,hml1,hml2⟩:=hls i hin
          refine⟨ml,hml1,?_⟩
          refine Zyn (n:=p.2) ha hin hm pm hp0' g2 hml2 ?_ fun o2 k1 k2 k3=>?_
          · rw [Zmd hspm hpf (by omega)]; rfl
          · refine tail o2 k1 (fun x=>?_) fun y hy=>?_
            · have c1:=g4 x
              have c2:=k2 x
              rw [hdS,if_pos hp0] at c1
              omega
            · rcases k3 y hy with ⟨z,hz,e⟩ | hD
              · obtain ⟨t,ht,q⟩:=g5 z hz
                exact⟨t,ht,e ▸ q⟩
              · exact⟨p,hpm,hD⟩
      · rename_i hp0
        refine tail o1 g2 (fun x=>?_) g5
        have c1:=g4 x
        rw [hdS,if_neg hp0,ZO6] at c1
        exact c1
    · rintro ⟨t1,o1,sg1⟩ ⟨g1,g2,g3,g4,g5⟩
      dsimp only at g2 g4 g5 ⊢
      refine hn _ ⟨fun q hq=>h0 q (hperm.mem_iff.2 (by simp [hq])),g2,fun x=>?_,g5⟩
      have c1:=g4 x
      have c2:=h2 x
      rw [e3] at c2
      simp only [Nat.sub_self,dS] at c1
      omega
  · intro out ⟨_,h1,h2,h3⟩
    exact h _ ⟨h1,fun x=>by have:=h2 x; simp only [tot,ZTi] at this; exact this,h3⟩
theorem Zyr {m:List (A8×Int)} (hm:MapOk m):∃ l,Canon l∧(∀ x,coT l x=co m x)∧∀ t,t∈l→∃ p,p∈m∧p.1=t.mono:=by
  obtain ⟨xs,hxs,hw⟩:=Zp2 (m.map (·.1))
  obtain ⟨h1,h2⟩:=Zxg hm hxs hw
  refine⟨_,h1,h2,fun t ht=>?_⟩
  obtain ⟨x,hx,rfl⟩:=ZF9.1 ht
  obtain ⟨p,hpm,e⟩:=ZF9.1 (hxs.mem_iff.1 hx)
  exact⟨p,hpm,e⟩
theorem Zys {ds:List Int} {imgs:List (List Term)} {f:List Term} {s out':List (A8×Int)} (hs:IsMap f s) (hc:Canon f) (h':IsDM ds imgs s out'):out'=[]↔∀ out,IsD ds imgs f out→out=[]:=by
  constructor
  · intro e out ho
    exact(Zqd (Zx7 hs hc ho h') ho.can).1 e
  · intro hall
    obtain ⟨l,hl,hcf,hks⟩:=Zyr h'.ok
    have hd:IsD ds imgs f l:=⟨hl,fun x=>by rw [hcf,h'.cf,Zjr hs hc (fun a n=>dT ds imgs a n x) (fun a=>Zmf ds imgs a x)],fun y hy=>by
      obtain ⟨p,hp,e⟩:=hks y hy
      obtain ⟨t,ht,q⟩:=h'.mo p hp
      obtain ⟨u,hu,e2⟩:=hs.ks t ht
      exact⟨u,hu,by rw [← e,e2]; exact q⟩⟩
    have e:=hall l hd
    have hm:IsMap l out':=Zqc hl h'.ok fun x=>by rw [hcf]
    exact(Zqd hm hl).2 e
theorem Zyt {ds:List Int} {imgs:List (List Term)} {f out out2:List Term} (h:IsD ds imgs f out) (k:IsD ds imgs f out2):out=out2:=Zw6 h.can k.can fun x=>by rw [h.cf,k.cf]
def Hom (ds:List Int) (l:List Term) (n:Int):Prop:=∀ i,i < l.length→wtU ds (l.getD i ZEx).mono ds.length=n
instance (ds:List Int) (l:List Term) (n:Int):Decidable (Hom ds l n):=inferInstanceAs (Decidable (∀ i,i < l.length→_))
theorem Zyu {ds : List Int} {l : List Term} {K : Int → Bool → Prop} (hd : OkDeg ds) (hp : FitT l) (h0 : l.length = 0 → K (-1) true) (h1 : 0 < l.length → Hom ds l (wtU ds (l.getD 0 ZEx).mono ds.length) → K (wtU ds (l.getD 0 ZEx).mono ds.length) true) (h2 : (∀ n, ¬ Hom ds l n) → K 0 false) : Zgy ds ⟨l⟩ K := by
  unfold Zgy
  dsimp only
  refine Ys (fun i (s:Int)=>(i=0∧s=-1)∨(0 < i∧s=wtU ds (l.getD 0 ZEx).mono ds.length∧∀ j,j < i→wtU ds (l.getD j ZEx).mono ds.length=wtU ds (l.getD 0 ZEx).mono ds.length)) l.length ?_ ?_ _ _ _ (by omega) (.inl ⟨rfl,rfl⟩)
  · intro i s next hi hI hn
    have f1:=hp _ (Y1 hi)
    have b0:=hp.pos _ (Y1 hi)
    have hw:=Zfj hd b0 ds.length (ZEw _)
    refine Zjg f1 (Zyh hd b0 ?_)
    rcases hI with ⟨e1,e2⟩ | ⟨e1,e2,e3⟩
    · subst e1 e2
      rw [if_neg (by omega)]
      exact hn _ (.inr ⟨by omega, rfl, fun j hj => by obtain rfl : j = 0 := by omega
                                                      rfl⟩)
    · have hw0:=Zfj hd (hp.pos _ (Y1 (show 0 < l.length by omega))) ds.length (ZEw _)
      rw [if_pos (by omega)]
      split
      · rename_i q
        refine h2 fun n hn'=>q ?_
        rw [hn' i hi,e2,hn' 0 (by omega)]
      · rename_i q
        have q:wtU ds (l.getD i ZEx).mono ds.length=s:=ZQk.1 q
        refine hn _ (.inr ⟨by omega,by rw [q,e2],fun j hj=>?_⟩)
        by_cases e:j=i
        · subst e; rw [q,e2]
        · exact e3 j (by omega)
  · intro s hI
    rcases hI with ⟨e1,e2⟩ | ⟨e1,e2,e3⟩
    · rw [e2]; exact h0 e1
    · rw [e2]; exact h1 e1 e3
theorem Zyv {ds:List Int} {l:List Term} {n:Int} {K:Bool→Prop} (hd:OkDeg ds) (hp:FitT l) (h:K (decide (Hom ds l n))):Zgz ds ⟨l⟩ n K:=by
  unfold Zgz
  refine Zyu hd hp (fun e=>?_) (fun e hh=>?_) (fun hno=>?_)
  · rw [if_pos rfl,if_pos rfl]
    have:Hom ds l n:=fun i hi=>by omega
    rwa [decide_eq_true this] at h
  · have hw0:=Zfj hd (hp.pos _ (Y1 e)) ds.length (ZEw _)
    rw [if_pos rfl,if_neg (by omega)]
    have:Hom ds l n↔wtU ds (l.getD 0 ZEx).mono ds.length=n:=⟨fun q=>q 0 e,fun q=>q ▸ hh⟩
    rwa [decide_eq_decide.2 this] at h
  · rw [if_neg (by simp)]
    rwa [decide_eq_false (hno n)] at h
theorem Zyw {ds : List Int} {l : List Term} {K : Int → Bool → Prop} (hd : OkDeg ds) (hp : Zfi l) (hl : l.length ≤ 100000000) (h0 : l.length = 0 → K (-1) true) (h1 : 0 < l.length → Hom ds l (wtU ds (l.getD 0 ZEx).mono ds.length) → K (wtU ds (l.getD 0 ZEx).mono ds.length) true) (h2 : (∀ n, ¬ Hom ds l n) → K 0 false) : Zgr ds ⟨l⟩ K := by
  unfold Zgr
  dsimp only
  split
  · exact h0 (by omega)
  · rename_i q0
    have hpos:0 < l.length:=by omega
    refine⟨by omega,Zmk hd (hp _ (Y1 hpos)) ?_⟩
    refine Jd (fun (s:Int)=>1≤s∧s≤l.length∧∀ j:Nat,(j:Int) < s→wtU ds (l.getD j ZEx).mono ds.length=wtU ds (l.getD 0 ZEx).mono ds.length) (fun s=>l.length - s.toNat) ?_ ⟨ZTm _,by omega,fun j hj=>by
      have hj':(j:Int) < 1:=hj
      obtain rfl:j=0:=by omega
      rfl⟩
    rintro i next ⟨g1,g2,g3⟩ hn
    split
    · rename_i hi
      have a:i.toNat < l.length:=by omega
      refine⟨by omega,Zmk hd (hp _ (Y1 a)) ?_⟩
      split
      · rename_i q
        refine h2 fun n hn'=>q ?_
        rw [hn' _ a,hn' 0 hpos]
      · rename_i q
        have q:=ZQk.1 q
        rw [i64_in _ (by omega)]
        refine hn _ ⟨by omega,by omega,fun j hj=>?_⟩ (by omega)
        by_cases e:j=i.toNat
        · subst e; exact q
        · exact g3 j (by omega)
    · exact h1 hpos fun j hj=>g3 j (by omega)
structure OkAlg (a:Alg):Prop where
  deg:OkDeg a.degrees
  len:a.images.length=a.degrees.length
  frm:∀ i,i < a.images.length→OkForm a.degrees (a.images.getD i ZEx).terms
  hom:∀ i,i < a.images.length→Hom a.degrees (a.images.getD i ZEx).terms (a.degrees.getD i ZEx+1)
  clo:∀ i,i < a.images.length→∀ out,IsD a.degrees (imgsT a) (a.images.getD i ZEx).terms out→out=[]
def X6 (a:Alg):Prop:=∀ i,i < a.images.length→FitT (a.images.getD i ZEx).terms∧(a.images.getD i ZEx).terms.length≤1048576
theorem OkAlg.algF {a:Alg} (h:OkAlg a) (hf:X6 a):AlgF a:=⟨h.deg,h.len,h.frm,fun i hi=>(hf i hi).1⟩
theorem Zyx {a : Alg} {K : Bool → Prop} (hf : X6 a) (h1 : OkAlg a → K true) (h2 : ¬ OkAlg a → K false) : Zgs a K := by
  unfold Zgs
  refine Zwu ?_
  split
  · rename_i q; exact h2 fun z=>q (decide_eq_true z.deg)
  · rename_i q1
    have q1:=of_decide_eq_true (ZQk.1 q1)
    have h8:=q1.1
    split
    · rename_i q; exact h2 fun z=>q (by rw [z.len])
    · rename_i q2
      have q2:a.images.length=a.degrees.length:=by have:=ZQk.1 q2; omega
      refine Jd (fun (s:Int)=>0≤s∧s≤a.images.length∧∀ i:Nat,(i:Int) < s→OkForm a.degrees (a.images.getD i ZEx).terms∧Hom a.degrees (a.images.getD i ZEx).terms (a.degrees.getD i ZEx+1)) (fun s=>a.images.length - s.toNat) ?_ ⟨ZTm _,by omega,fun i hi=>by omega⟩
      rintro i next ⟨g1,g2,g3⟩ hn
      split
      · rename_i hi
        have hin:i.toNat < a.images.length:=by omega
        obtain ⟨hft,hfl⟩:=hf i.toNat hin
        have hL:(⟨(a.images.getD i.toNat ZEx).terms⟩:ZMp)=a.images.getD i.toNat ZEx:=rfl
        have hdi:=q1.2 i.toNat (by omega)
        have wi:ZHd.wrap (i+1)=i+1:=i64_in _ (by omega)
        rw [wi,← hL]
        refine⟨by omega,Zxy h8 hft.pos (by omega) ?_⟩
        split
        · rename_i q; exact h2 fun z=>q (decide_eq_true (z.frm _ hin))
        · rename_i q3
          have q3:=of_decide_eq_true (ZQk.1 q3)
          have good:Hom a.degrees (a.images.getD i.toNat ZEx).terms (a.degrees.getD i.toNat ZEx+1)→next (i+1):=fun hh=>hn _ ⟨by omega,by omega,fun j hj=>by
            by_cases e:j=i.toNat
            · subst e; exact⟨q3,hh⟩
            · exact g3 j (by omega)⟩ (by omega)
          have hwd:ZHd.wrap (a.degrees.getD i.toNat ZEx+1)=a.degrees.getD i.toNat ZEx+1:=i64_in _ (by omega)
          rw [hwd]
          refine⟨by omega,Zyw q1 hft.pos (by omega) (fun e=>?_) (fun e hh=>?_) (fun hno=>?_)⟩
          · rw [if_neg (by simp)]
            dsimp only
            refine⟨by omega,?_⟩
            rw [if_neg (by omega)]
            exact good fun j hj=>by omega
          · rw [if_neg (by simp)]
            dsimp only
            refine⟨by omega,?_⟩
            rw [if_pos (by omega)]
            refine⟨by omega,?_⟩
            split
            · rename_i q
              exact h2 fun z=>q (z.hom _ hin 0 e)
            · rename_i q
              have q:=ZQk.1 q
              exact good (q ▸ hh)
          · rw [if_pos (by simp)]
            exact h2 fun z=>hno _ (z.hom _ hin)
      · rename_i hi
        have hF:AlgF a:=⟨q1,q2,fun i hi=>(g3 i (by omega)).1,fun i hi=>(hf i hi).1⟩
        refine Jd (fun (s:Int)=>0≤s∧s≤a.images.length∧∀ i:Nat,(i:Int) < s→∀ out,IsD a.degrees (imgsT a) (a.images.getD i ZEx).terms out→out=[]) (fun s=>a.images.length - s.toNat) ?_ ⟨ZTm _,by omega,fun i hi=>by omega⟩
        rintro k next' ⟨k1,k2,k3⟩ hn'
        split
        · rename_i hk
          have hkn:k.toNat < a.images.length:=by omega
          have hL:(⟨(a.images.getD k.toNat ZEx).terms⟩:ZMp)=a.images.getD k.toNat ZEx:=rfl
          rw [← hL]
          refine⟨by omega,Zqh hF (hF.frm _ hkn) (hF.fit _ hkn) fun out ho _=>?_⟩
          dsimp only
          split
          · rename_i q
            refine h2 fun z=>?_
            have:=z.clo _ hkn out ho
            rw [this] at q; simp at q
          · rename_i q
            rw [i64_in _ (by omega)]
            have e:out=[]:=List.length_eq_zero_iff.1 (by omega)
            refine hn' _ ⟨by omega,by omega,fun j hj=>?_⟩ (by omega)
            by_cases ej:j=k.toNat
            · subst ej; intro o2 ho2; rw [Zyt ho2 ho,e]
            · exact k3 j (by omega)
        · rename_i hk
          exact h1 ⟨q1,q2,hF.frm,fun i hi=>(g3 i (by omega)).2,fun i hi=>k3 i (by omega)⟩
theorem Zqi {l:List ZMp} {p:ZMp→(Bool→Prop)→Prop} {K:Bool→Prop} {Q:ZMp→Prop} (hp:∀ i,i < l.length→∀ K':Bool→Prop,(Q (l.getD i ZEx)→K' true)→(¬ Q (l.getD i ZEx)→K' false)→p (l.getD i ZEx) K')
    (h1:(∃ i,i < l.length∧Q (l.getD i ZEx))→K true) (h2:(∀ i,i < l.length→¬ Q (l.getD i ZEx))→K false):Zfe l p K:=by
  unfold Zfe Zjk
  refine Ys (fun i (_:Unit)=>∀ j,j < i→¬ Q (l.getD j ZEx)) l.length ?_ ?_ _ _ _ (by omega) (by intro j hj; omega)
  · intro i s next hi hI hn
    refine hp i hi _ (fun q=>?_) (fun q=>?_)
    · rw [if_pos rfl]
      show K (decide ((i:Int)≥0))
      rw [decide_eq_true (show (i:Int)≥0 by omega)]
      exact h1 ⟨i,hi,q⟩
    · rw [if_neg (by simp)]
      refine hn _ fun j hj=>?_
      by_cases e:j=i
      · subst e; exact q
      · exact hI j (by omega)
  · intro s hI
    show K (decide ((-1:Int)≥0))
    rw [decide_eq_false (show ¬ (-1:Int)≥0 by omega)]
    exact h2 hI
theorem Zyy {a : Alg} {K : Bool → Prop} (hf : X6 a) (h1 : OkAlg a → K true) (h2 : ¬ OkAlg a → K false) : Zhg a K := by
  unfold Zhg
  refine Zwx ?_
  split
  · rename_i q; exact h2 fun z=>q (decide_eq_true z.deg)
  · rename_i q1
    have q1:=of_decide_eq_true (ZQk.1 q1)
    have h8:=q1.1
    split
    · rename_i q; exact h2 fun z=>q (by rw [z.len])
    · rename_i q2
      have q2:a.images.length=a.degrees.length:=by have:=ZQk.1 q2; omega
      refine Ys (fun i (_:Unit)=>∀ j:Nat,j < i→OkForm a.degrees (a.images.getD j ZEx).terms∧Hom a.degrees (a.images.getD j ZEx).terms (a.degrees.getD j ZEx+1)) a.images.length ?_ ?_ _ _ _ (by omega) (by intro j hj; omega)
      · intro i s next hi hI hn
        obtain ⟨hft,hfl⟩:=hf i hi
        have hL:(⟨(a.images.getD i ZEx).terms⟩:ZMp)=a.images.getD i ZEx:=rfl
        have hdi:=q1.2 i (by omega)
        rw [← hL]
        refine Zx2 q1 hft ?_
        split
        · rename_i q; exact h2 fun z=>q (decide_eq_true (z.frm _ hi))
        · rename_i q3
          have q3:=of_decide_eq_true (ZQk.1 q3)
          rw [i64_in _ (by omega)]
          refine⟨by omega,Zyv q1 hft ?_⟩
          split
          · rename_i q; exact h2 fun z=>q (decide_eq_true (z.hom _ hi))
          · rename_i q4
            have q4:=of_decide_eq_true (ZQk.1 q4)
            refine hn _ fun j hj=>?_
            by_cases e:j=i
            · subst e; exact⟨q3,q4⟩
            · exact hI j (by omega)
      · intro s hI
        have hF:AlgF a:=⟨q1,q2,fun i hi=>(hI i hi).1,fun i hi=>(hf i hi).1⟩
        refine Zqi (Q:=fun f=>¬ ∀ out,IsD a.degrees (imgsT a) f.terms out→out=[]) (fun i hi K' c1 c2=>?_) (fun hex=>?_) (fun hall=>?_)
        · unfold Zhf
          have hL:(⟨(a.images.getD i ZEx).terms⟩:ZMp)=a.images.getD i ZEx:=rfl
          rw [← hL]
          refine Zp7 (hF.frm i hi).canon (hF.fit i hi) fun m hm=>m_d hF hm (hF.frm i hi) (hF.fit i hi) fun out ho=>?_
          have hiff:=Zys hm (hF.frm i hi).canon ho
          by_cases e:out=[]
          · subst e
            rw [decide_eq_false (by simp)]
            exact c2 fun z=>z (hiff.1 rfl)
          · have hlen:0 < out.length:=List.length_pos_iff.2 e
            rw [decide_eq_true (by omega)]
            exact c1 fun z=>e (hiff.2 z)
        · obtain ⟨i,hi,hq⟩:=hex
          exact h2 fun z=>hq (z.clo i hi)
        · exact h1 ⟨q1,q2,hF.frm,fun i hi=>(hI i hi).2,fun i hi=>ZUd (hall i hi)⟩
theorem Zyz {a:Alg} {K:Int→Prop} (hf:X6 a) (h1:OkAlg a→K 0) (h2:¬ OkAlg a→K 1):Zhh a [] K:=by
  unfold Zhh
  refine Zyy hf (fun z=>?_) (fun z=>?_)
  · rw [if_neg (by simp)]
    refine Zqi (Q:=fun _=>True) (fun i hi=>by simp at hi) (fun hex=>by obtain ⟨i,hi,_⟩:=hex; simp at hi) (fun _=>?_)
    exact Zju (h1 z)
  · rw [if_pos (by simp)]
    exact Zju (h2 z)
end Go.Proofs.YtaagfepgbofmlaaGreat
namespace Go.Proofs.YtaagfepgbofmlaaGreat
open Go Vc
def Big (n:Nat):Prop:=n < 9223372036854775808
structure LenAlg (a:Alg):Prop where
  deg:Big a.degrees.length
  img:Big a.images.length
  trm:∀ f,f∈a.images→Big f.terms.length
theorem Zy0 {x:Alg} {u v:Value} {fp:List Nat} {w:World} (h:TAlg.rep x [u,v] fp w):LenAlg x:=by
  have h1:=Yx (Ze0 h).1
  have h2:=Yx (Ze0 h).2
  refine⟨by unfold Big; omega,by unfold Big; omega,fun f hf=>?_⟩
  obtain ⟨i,hi,rfl⟩:=ZE6 hf
  obtain ⟨A,c,hv,cs,hl,hc,hr⟩:=Zip (Ze0 h).2 i hi
  obtain ⟨z,rfl⟩:=List.length_eq_one_iff.1 (show cs.length=1 from hl)
  have h3:=Yx (Xi hr)
  unfold Big; omega
theorem Zy1 {f:ZMp} {n:Int} {K:Int→Prop} (hl:Big f.terms.length) (hn:0≤n∧n≤1048576) (h1:(f.terms.length:Int)≤n→K (n - f.terms.length)) (h2:∀ r,r < 0→K r):Zff f n K:=Zyg (by unfold Big at hl; omega) hn h1 h2
theorem Zy2 {l:List ZMp} {n:Int} {K:Int→Prop} (hl:Big l.length) (ht:∀ f,f∈l→Big f.terms.length) (hn:0≤n∧n≤1048576) (h1:∀ r,0≤r→r≤n→(l.length:Int)≤n→(∀ i,i < l.length→(l.getD i ZEx).terms.length≤1048576)→K r) (h2:∀ r,r < 0→K r):Zhi l n K:=by
  unfold Zhi
  unfold Big at hl
  rw [i64_in _ (by omega)]
  split
  · exact h2 _ (by omega)
  · rename_i q
    refine Ys (fun i (s:Int)=>0≤s∧s≤n∧∀ j,j < i→(l.getD j ZEx).terms.length≤1048576) l.length ?_ ?_ _ _ _ (by omega) ⟨by omega,by omega,by intro j hj; omega⟩
    · intro i s next hi ⟨g1,g2,g3⟩ hn'
      refine Zy1 (ht _ (Y1 hi)) (by omega) (fun hle=>?_) (fun r hr=>by rw [if_pos hr]; exact h2 _ (by omega))
      rw [if_neg (by omega)]
      refine hn' _ ⟨by omega,by omega,fun j hj=>?_⟩
      by_cases e:j=i
      · subst e; omega
      · exact g3 j (by omega)
    · intro s ⟨g1,g2,g3⟩
      exact h1 s g1 g2 (by omega) g3
theorem Zy3 {a:Alg} {K:Int→Prop} (hb:LenAlg a) (h1:∀ r,0≤r→a.degrees.length≤1048576→a.images.length≤1048576→(∀ i,i < a.images.length→(a.images.getD i ZEx).terms.length≤1048576)→K r) (h2:∀ r,r < 0→K r):Zhj a 1048576 K:=by
  unfold Zhj Zjn
  have hd:=hb.deg
  unfold Big at hd
  rw [i64_in _ (by omega)]
  split
  · dsimp only; rw [if_pos (by omega)]; exact h2 _ (by omega)
  · dsimp only; rw [if_neg (by omega)]
    refine Zy2 hb.img hb.trm (by omega) (fun r g1 g2 g3 g4=>?_) (fun r hr=>by rw [if_pos hr]; exact h2 _ (by omega))
    rw [if_neg (by omega)]
    exact h1 r g1 (by omega) (by omega) g4
theorem Zy4 {l:List ZMp} {K:List ZMp→Prop} (hl:l.length≤1048576) (ht:∀ i,i < l.length→(l.getD i ZEx).terms.length≤1048576) (h:K l):Zhk l K:=by
  unfold Zhk
  refine⟨by omega,?_⟩
  refine Ys (fun i (s:List ZMp)=>s.length=l.length∧∀ j,j < i→s.getD j ZEx=l.getD j ZEx) l.length ?_ ?_ _ _ _ (by omega) ⟨by simp,by intro j hj; omega⟩
  · intro i s next hi ⟨h1,h2⟩ hn
    refine Zyf (ht i hi) ⟨by omega,hn _ ⟨by simpa using h1,fun j hj=>?_⟩⟩
    rw [Zmi (by omega)]
    by_cases e:j=i
    · rw [if_pos e,e]
    · rw [if_neg e]; exact h2 j (by omega)
  · intro s ⟨h1,h2⟩
    have:s=l:=ZHj h1 fun j hj hj'=>by have:=h2 j (by omega); simpa [ZFf,hj,hj'] using this
    rw [this]; exact h
theorem Zcx {a:Alg} {K:Alg→Prop} (h1:a.degrees.length≤1048576) (h2:a.images.length≤1048576) (h3:∀ i,i < a.images.length→(a.images.getD i ZEx).terms.length≤1048576) (h:K a):Zee a K:=by
  unfold Zee
  exact Zwz h1 (Zy4 h2 h3 h)
theorem Zjw {a:Alg} {K:Bool→Prop} (h:K true):Zfg a a K:=Zyc (by simpa using h)
def GoodAlg (a:Alg):Prop:=(∀ x,x∈a.degrees→Fit .i64 x)∧∀ f,f∈a.images→∀ t,t∈f.terms→Zal .u8 t.mono∧Fit .i64 t.factor
theorem GoodAlg.fit {a:Alg} (h:GoodAlg a) (h3:∀ i,i < a.images.length→(a.images.getD i ZEx).terms.length≤1048576):X6 a:=fun i hi=>⟨fun t ht=>(h.2 _ (Y1 hi) t ht).1,h3 i hi⟩
end Go.Proofs.YtaagfepgbofmlaaGreat
namespace Vc
open Go Go.RowKit
theorem Zhm (zc:Value) (m:Nat):ZTs #[zc] m=(ZEs m zc).toArray:=by
  unfold ZTs
  apply Array.ext
  · simp
  · intro i h1 h2
    simp [Nat.mod_one]
theorem Zy5 {P : Program} {w : World} (t tn ty e : TypeId) (i : TypeInfo) (z zc : Value) (kq kn : IntKind) (ht : P.underlying t = some (.slice e)) (htn : P.underlying tn = some (.int kn)) (hi : P.info? e = some i) (hz : i.zero = some z) (hzc : z.cells = #[zc]) (h1 : zc.oneCell' = true)
    (bytes:Nat) (hsize:i.size=1) (hby:i.bytes=bytes) (v:Value) (n:Nat) (xs:List Value) (hown:w.ownsRow 0 e 1 v n xs) (m:Nat) (h63:n+m≤maxLen) (hbytes:(n+m) * bytes≤140737488355328) :
    ∃ v' w',(ZHi #[t,tn] ty #[v,.int kq m]).run P w=.ok v' w'∧w'.ownsRow 0 e 1 v' (n+m) (xs++ZEs m zc)∧w.grownBy w' v.ownBlock∧(v'.ownBlock=v.ownBlock∨v'.ownBlock=some w.heap.size):=by
  subst hby
  have hsmall:n+m≤9223372036854775807:=by simp only [maxLen] at h63; omega
  have hlen:(xs++ZEs m zc).length=(n+m) * 1:=by rw [ZE8,hown.1,ZT2]; omega
  have hmb:m * i.bytes≤140737488355328:=ZEy (ZHg _ (Nat.le_add_left _ _)) hbytes
  have grown:∀ (old:Nat),old < n+m→∀ (row:Option Nat),
      (w.drew.alloc (.cells (xs.toArray++ZTs z.cells m++ZTs z.cells (grownCap w (n+m) old e - (n+m))) e)).ownsRow 0 e 1
        (.slice (some ⟨w.heap.size,0,none⟩) (n+m) (grownCap w (n+m) old e)) (n+m) (xs++ZEs m zc) ∧
      w.grownBy (w.drew.alloc (.cells (xs.toArray++ZTs z.cells m++ZTs z.cells (grownCap w (n+m) old e - (n+m))) e)) row:=by
    intro old ho row
    have hge:=grownCap_ge w (n+m) old e
    have hcm:grownCap w (n+m) old e≤maxLen:=grownCap_le_maxLen w (n+m) old e h63
    have hx:=hown.1
    refine⟨⟨hlen,.inr ⟨w.heap.size,_,_,rfl,Nat.zero_le _,heap_alloc_new w.drew _,hge,hcm,?_,?_⟩⟩,⟨rfl,rfl,rfl,by simp,fun k hk _=>heap_alloc_old w.drew _ hk⟩⟩
    · rw [hzc,Zhm,Zhm]
      simp only [Array.size_append,List.size_toArray,ZT2]
      omega
    · rw [hzc,Zhm,Zhm]
      simp only [Array.toList_append,List.append_assoc]
      rw [← List.append_assoc,← hlen]
      exact List.take_left
  have hw:ZHd.wrap (m:Int)=m:=by rw [ZT3]; omega
  have h48i:¬ (281474976710656 < (m:Int) * (i.bytes:Int)):=by rw [← Int.natCast_mul]; omega
  have hneg:¬ ((m:Int) < 0):=by omega
  rcases hown.2 with ⟨rfl,rfl⟩ | ⟨g,cap,cur,rfl,hbg,hg,hnc,hcm,hcs,htake⟩
  · have hx:xs=[]:=ZUu (by simpa using hown.1)
    subst hx
    by_cases hm:m=0
    · subst hm
      refine⟨.slice none 0 0,w,?_,World.ownsRow_nil w 0 e 1,⟨rfl,rfl,rfl,ZEw _,fun _ _ _=>rfl⟩,Or.inl rfl⟩
      simp [ZHi,run_underlying ht,run_underlying htn,Go.sizeOf,typeInfo,hi,asInt,asIntOf,ZT3]
    · have hr:=Lib.run_append_nil_zeros (P:=P) w t tn ty e i z kq kn ht htn hi hz m (by omega) (by omega) (by omega) (by omega)
      have hgr:=grown 0 (by omega) (ZFq (.slice none 0 0))
      simp only [Nat.zero_add,List.nil_append,Array.empty_append] at hgr ⊢
      exact⟨_,_,hr,hgr.1,hgr.2,Or.inr rfl⟩
  · by_cases hroom:n+m≤cap
    · have hfit:n * 1+(ZEs m zc).length≤cur.size:=by rw [hcs,ZT2]; omega
      have hst:=run_storeCells_at P g (n * 1) e (ZEs m zc) 0 cur w hg (by simpa using hfit) (fun u hu=>by rw [(List.mem_replicate.1 hu).2]; exact h1)
      simp only [Nat.add_zero] at hst
      have hr:(ZHi #[t,tn] ty #[.slice (some ⟨g,0,none⟩) n cap,.int kq m]).run P w=.ok (.slice (some ⟨g,0,none⟩) (n+m) cap) (w.setRow g (cur.toList.take (n * 1)++ZEs m zc++cur.toList.drop (n * 1+(ZEs m zc).length)).toArray):=by
        by_cases hm:m=0
        · subst hm
          simp only [List.replicate_zero] at hst
          simp [ZHi,run_underlying ht,run_underlying htn,Go.sizeOf,typeInfo,hi,hsize,asInt,asIntOf,ZT3,hnc,ZUi] at hst ⊢
          rw [hst]
          rfl
        · have hns:¬ (m * 1=0):=by omega
          simp [ZHi,run_underlying ht,run_underlying htn,Go.sizeOf,typeInfo,zeroValue,hi,hz,hsize,hzc,Zhm,asInt,asIntOf,hw,hneg,h48i,hm,hroom,ZUi] at hst ⊢
          rw [hst]
          rfl
      refine⟨_,_,hr,⟨hlen,.inr ⟨g,cap,_,rfl,hbg,setRow_heap w g cur _ e _ hg,hroom,hcm,?_,?_⟩⟩,⟨rfl,rfl,rfl,by simp,fun k _ hk=>setRow_other w g k _ (fun e=>hk (by simp [ZFq,e]))⟩,Or.inl rfl⟩
      · simp only [List.size_toArray,ZE8,ZTn,ZGy,Array.length_toList,ZT2]
        omega
      · rw [htake,← hlen]
        exact List.take_left
    · have holds:∀ j u,xs[j]? = some u→w.cell? ((⟨g,0,none⟩:Addr).add j)=some u:=hown.cells (g:=g) rfl
      have hold:(Builtin.firstCells i.size n (.slice (some ⟨g,0,none⟩) n cap)).run P w.drew=.ok xs.toArray w.drew:=run_firstCells_some (P:=P) w.drew i.size n ⟨g,0,none⟩ n cap xs (by rw [hown.1,hsize]) holds
      have hr:=Lib.run_append_grow_zeros (P:=P) w t tn ty e i z kq kn ht htn hi hz (some ⟨g,0,none⟩) n cap xs hold m (by omega) (by omega) (by omega) (by omega) (by omega) (growslice_fits (by omega) hbytes)
      have hgr:=grown cap (by omega) (ZFq (.slice (some ⟨g,0,none⟩) n cap))
      exact⟨_,_,hr,hgr.1,hgr.2,Or.inr rfl⟩
section
variable {P:Program} {ops:Array Oper} {Q:Exit→Act→World→Prop} {n:Nat} {e:Env} {w w':World} {rest:List Oper}
variable {X:Nat→Prop} {w0:World} {M Ps:List Item}
variable {d ty:Nat} {pos:String} {af:Array Edge}
theorem Zy6 (hC:Ctx X w0 w M Ps) (k:Nat) {t tn el bytes nv m:Nat} {kq kn:IntKind} {z zc:Value} {x y:Operand} {v:Value} {cs:List Value} (ht:P.underlying t=some (.slice el)) (htn:P.underlying tn=some (.int kn)) (hE:Zaf P el z 1 bytes) (hzc:z.cells=#[zc]) (h1:zc.oneCell'=true) (hby:0 < bytes)
    (hk:M[k]? = some (own el 1 v nv cs)) (hx:ev n e x=v) (hy:ev n e y=.int kq m) (hb:(nv+m) * bytes≤140737488355328)
    (h:∀ v' w',Ctx X w0 w' (M.set k (own el 1 v' (nv+m) (cs++ZEs m zc))) Ps→W P ops Q rest n (upd e d v') w') :
    W P ops Q (⟨some d,.call { callee:=.builtin .append,args:=#[x,y],argTypes:=#[t,tn] }, ty,pos,af,none⟩::rest) n e w:=by
  obtain ⟨i0,hi,hzz⟩:=Option.map_eq_some_iff.1 hE
  simp only [Prod.mk.injEq] at hzz
  have HO:w.ownsRow 0 el 1 v nv cs:=hC.getM k hk
  have hlen:nv+m≤140737488355328:=ZEy (Nat.le_mul_of_pos_right _ hby) hb
  obtain ⟨v1,w1,hr,hown,hg,hat⟩:=Zy5 (P:=P) t tn ty el i0 z zc kq kn ht htn hi hzz.1 hzc h1 bytes hzz.2.1 hzz.2.2 v nv cs HO m (by unfold maxLen; omega) hb
  refine Ym v1 rfl rfl ?_ (h v1 w1 (hC.turn k hk hg.os hg.tape hg.output hg.size (Zax _ _ _ _ hr) (fun b hb' hnb=>hg.block b hb' ?_) hown ?_))
  · simp only [execOp,resolve,invoke,builtin,ZEq,ZEv,ZEr,List.map_toArray,ZFy,List.map_nil,hx,hy,hr]
  · intro e
    exact hnb (by simp [own,← e])
  · intro b hbm
    simp only [own] at hbm ⊢
    rcases hat with hat | hat
    · rw [hat] at hbm; exact .inl hbm
    · rw [hat] at hbm
      have:b=w.heap.size:=by simpa using hbm
      omega
theorem Zy7 {t t':Nat} {x y:Operand} {k:IntKind} {a b:Int} {gd:Option (Nat×Bool)} (hx:ev n e x=.int k a) (hy:ev n e y=.int k b) :
    (execOp (ev n e) ⟨some d,.call { callee:=.builtin .min,args:=#[x,y],argTypes:=#[t,t'] }, ty,pos,af,gd⟩).run P w=.ok (.value (.int k (if b < a then b else a))) w:=by
  simp [execOp,resolve,invoke,builtin,hx,hy,Builtin.min_,Builtin.min2,ZEq]
theorem Zhn {t t':Nat} {x y:Operand} {k:IntKind} {a b:Int} (hx:ev n e x=.int k a) (hy:ev n e y=.int k b)
    (h:W P ops Q rest n (upd e d (.int k (if b < a then b else a))) w):W P ops Q (⟨some d,.call { callee:=.builtin .min,args:=#[x,y],argTypes:=#[t,t'] }, ty,pos,af,none⟩::rest) n e w :=
  Ym _ rfl rfl (Zy7 hx hy) h
end
section
variable {X:Nat→Prop} {w0 w w':World} {M Ps:List Item}
theorem Ctx.turnO {el sz n m:Nat} {v z:Value} {cs ds:List Value} (hC:Ctx X w0 w M Ps) (k:Nat) (hk:M[k]? = some (own el sz v n cs)) (hB:BelO v.ownBlock.toList w w') (ho:(own el sz z m ds).holds w') (hf:∀ b,b∈z.ownBlock.toList→b∈v.ownBlock.toList∨w.heap.size≤b) :
    Ctx X w0 w' (M.set k (own el sz z m ds)) Ps :=
  hC.turn k hk hB.os hB.tape hB.output hB.size hB.drawn (fun b hb hn=>hB.old b hb hn) ho hf
theorem Ctx.turnS {b t el sz n m : Nat} {v z : Value} {qs bs cs ds : List Value} (hC : Ctx X w0 w (blk b t qs :: own el sz v n cs :: M) Ps) (hB : BelO (b :: v.ownBlock.toList) w w') (g1 : (blk b t bs).holds w') (g2 : (own el sz z m ds).holds w') (hf : ∀ x, x ∈ z.ownBlock.toList → x ∈ v.ownBlock.toList ∨ w.heap.size ≤ x) :
    Ctx X w0 w' (blk b t bs::own el sz z m ds::M) Ps:=by
  have hb0:=hC.m (blk b t qs) (by simp)
  have ho0:=hC.m (own el sz v n cs) (by simp)
  have hd:=hC.dis
  obtain ⟨d1,d2⟩:=ZFk.1 hd
  obtain ⟨d3,d4⟩:=ZFk.1 d2
  have hX1:=hC.mfp (blk b t qs) (by simp)
  have hX2:=hC.mfp (own el sz v n cs) (by simp)
  have hbs:b < w.heap.size:=ZTc _ w hb0 b (ZTg _)
  have hnot:∀ j,j∈M→∀ x,x∈j.fp→x∉b::v.ownBlock.toList:=fun j hj x hx hx'=>by
    rcases ZEt.1 hx' with rfl | hx'
    · exact d1 j (by simp [hj]) x (ZTg _) hx
    · exact d3 j hj x hx' hx
  exact {
    os:=hB.os.trans hC.os
    tape:=hB.tape.trans hC.tape
    output:=hB.output.trans hC.output
    size:=ZEy hC.size hB.size
    drawn:=ZEy hC.drawn hB.drawn
    old := fun c hc hx => by
      rw [hB.old c (Nat.lt_of_lt_of_le hc hC.size) (fun q=>?_)]
      · exact hC.old c hc hx
      · rcases ZEt.1 q with rfl | q
        · rcases hX1 c (ZTg _) with r | r
          · omega
          · exact hx r
        · rcases hX2 c q with r | r
          · omega
          · exact hx r
    m := fun j hj => by
      rcases ZEt.1 hj with rfl | hj
      · exact g1
      · rcases ZEt.1 hj with rfl | hj
        · exact g2
        · exact ZTe _ w w' (fun x hx=>hB.old x (ZTc _ w (hC.m j (by simp [hj])) x hx) (hnot j hj x hx)) (hC.m j (by simp [hj]))
    p := fun j hj => ZTe _ w w' (fun x hx => hB.old x (ZTc _ w (hC.p j hj) x hx) (fun q => by
      rcases ZEt.1 q with rfl | q
      · exact hC.pd j hj x hx (blk x t qs) (by simp) (ZTg _)
      · exact hC.pd j hj x hx (own el sz v n cs) (by simp) q)) (hC.p j hj)
    mfp := fun j hj x hx => by
      rcases ZEt.1 hj with rfl | hj
      · exact hX1 x hx
      · rcases ZEt.1 hj with rfl | hj
        · rcases hf x hx with r | r
          · exact hX2 x r
          · exact .inl (ZEy hC.size r)
        · exact hC.mfp j (by simp [hj]) x hx
    dis := by
      refine ZFk.2 ⟨fun j hj x hx hxj=>?_,ZFk.2 ⟨fun j hj x hx hxj=>?_,d4⟩⟩
      · obtain rfl:x=b:=ZF6.1 hx
        rcases ZEt.1 hj with rfl | hj
        · rcases hf x hxj with r | r
          · exact d1 (own el sz v n cs) (by simp) x (ZTg _) r
          · omega
        · exact d1 j (by simp [hj]) x (ZTg _) hxj
      · rcases hf x hx with r | r
        · exact d3 j hj x r hxj
        · have:=ZTc _ w (hC.m j (by simp [hj])) x hxj
          omega
    pd := fun j hj x hx q hq hxq => by
      rcases ZEt.1 hq with rfl | hq
      · exact hC.pd j hj x hx (blk b t qs) (by simp) hxq
      · rcases ZEt.1 hq with rfl | hq
        · rcases hf x hxq with r | r
          · exact hC.pd j hj x hx (own el sz v n cs) (by simp) r
          · have:=ZTc _ w (hC.p j hj) x hx
            omega
        · exact hC.pd j hj x hx q (by simp [hq]) hxq }
end
theorem Zqj {P:Program} {w:World} {t el:Nat} {A:Option Addr} {m c:Nat} (ht:P.underlying t=some (.slice el)):(Op.equal t (.slice A m c) (.slice none 0 0)).run P w=.ok A.isNone w:=by
  unfold Op.equal Op.maxDepth
  rw [show (10000:Nat)=9999+1 from rfl]
  unfold Op.equalIn
  cases A <;> simp [run_underlying ht]
section
variable {P:Program} {ops:Array Oper} {Q:Exit→Act→World→Prop} {n:Nat} {e:Env} {w w':World} {rest:List Oper}
variable {d ty:Nat} {pos:String} {af:Array Edge}
theorem Zy8 {t t' el:Nat} {x y:Operand} {A:Option Addr} {m c:Nat} {b:Bool} {gd:Option (Nat×Bool)} (ht:P.underlying t=some (.slice el)) (hx:ev n e x=.slice A m c) (hy:ev n e y=.slice none 0 0) (hb:A.isNone=b) :
    (execOp (ev n e) ⟨some d,.binOp .eql t x y t',ty,pos,af,gd⟩).run P w=.ok (.value (.bool b)) w:=by
  subst hb
  have hq:(eqGuard .eql t x y (.slice A m c) (.slice none 0 0)).run P w=.ok () w:=by unfold eqGuard; simp
  have hr:(binOp .eql t (.slice A m c) (.slice none 0 0)).run P w=.ok (.bool A.isNone) w:=by
    simp [binOp,Zqj ht]
  simp only [execOp,hx,hy,ZEq,hq,ZEr,hr,ZEv]
theorem Zjx {t t' el:Nat} {x y:Operand} {A:Option Addr} {m c:Nat} (b:Bool) (ht:P.underlying t=some (.slice el)) (hx:ev n e x=.slice A m c) (hy:ev n e y=.slice none 0 0) (hb:A.isNone=b)
    (h:W P ops Q rest n (upd e d (.bool b)) w):W P ops Q (⟨some d,.binOp .eql t x y t',ty,pos,af,none⟩::rest) n e w :=
  Ym _ rfl rfl (Zy8 ht hx hy hb) h
end
theorem Zy9 {α:Type} {t:Ty α} {xs:List α} {v:Value} {fp:List Nat} {w:World} (h:t.sl.rep xs [v] fp w):(∃ m c,v=.slice none m c∧xs=[])∨∃ A m c,v=.slice (some A) m c:=by
  obtain ⟨v',ecs,e,⟨a0,a1,a2,A,c,rfl,anc,a3⟩,h2⟩:=h
  obtain rfl:v=_:=by simpa using e
  cases A with
  | none =>
    refine .inl ⟨_,_,rfl,?_⟩
    rcases Nat.eq_zero_or_pos xs.length with h0 | h0
    · exact ZUu h0
    · obtain ⟨a,ha,_⟩:=a3 h0
      cases ha
  | some A=>exact .inr ⟨A,_,_,rfl⟩
end Vc
namespace Vc
open Go Go.RowKit
section
variable {α β:Type}
def Zqk (kv : α → Value) (vv : β → Value) : Ty (List (α × β)) where
  sz:=1
  rep l cs fp w:=∃ b,cs=[.map (some b)]∧b∈fp∧(∀ c,c∈fp→c < w.heap.size)∧(Z1 kv vv b l).holds w
  keep h hw:=by
    obtain ⟨b,rfl,hb,hl,hm⟩:=hw
    exact⟨b,rfl,hb,Zey h hl,ZTe _ _ _ (fun c hc=>h c (by obtain rfl:=ZF6.1 hc; exact hb)) hm⟩
  low hw:=by
    obtain ⟨b,rfl,hb,hl,hm⟩:=hw
    exact hl
  len hw:=by obtain ⟨b,rfl,_⟩:=hw; rfl
  one hw u hu:=by
    obtain ⟨b,rfl,_⟩:=hw
    obtain rfl:=ZF6.1 hu
    rfl
  more hw h1 h2:=by
    obtain ⟨b,rfl,hb,hl,hm⟩:=hw
    exact⟨b,rfl,h1 b hb,h2,hm⟩
end
structure Derive where
  alg:Alg
  drop:Int
  images:List (List (A8×Int))
  deriving Inhabited
def TSum:Ty (List (A8×Int)):=Zqk (kvA .i64) (vvI .i64)
theorem Zza {α:Type} {t:Ty α} {x y:α} {cs ds:List Value} {f g:List Nat} {w:World} (h:t.rep x cs f w) (k:t.rep y ds g w):t.all [x,y] (cs++ds) (f++g) w:=Zuc (Zdh h) k
theorem Zzb {α:Type} {t:Ty α} {x y:α} {cs ds:List Value} {f g:List Nat} {w:World} (h:(t.item x cs f).holds w) (k:(t.item y ds g).holds w):(t.allItem [x,y] (cs++ds) (f++g)).holds w:=Zza h k
theorem Zzc {α β:Type} {kv:α→Value} {vv:β→Value} {l:List (α×β)} {u:Value} {fp:List Nat} {w:World} (h:(Zqk kv vv).rep l [u] fp w):∃ b,u=.map (some b)∧b∈fp∧(Z1 kv vv b l).holds w:=by
  obtain ⟨b,hc,hb,_,hm⟩:=h
  simp only [List.cons.injEq,and_true] at hc
  exact⟨b,hc,hb,hm⟩
section
variable {α β:Type} {kv:α→Value} {vv:β→Value}
theorem Ctx.turnI {X:Nat→Prop} {w0 w w':World} {M Ps:List Item} {it jt:Item} (hC:Ctx X w0 w M Ps) (k:Nat) (hk:M[k]? = some it) (hB:BelO it.fp w w') (hj:jt.holds w') (hf:∀ b,b∈jt.fp→b∈it.fp∨w.heap.size≤b):Ctx X w0 w' (M.set k jt) Ps :=
  hC.turn k hk hB.os hB.tape hB.output hB.size hB.drawn (fun b hb hn=>hB.old b hb hn) hj hf
end
end Vc
namespace Vc
open Go Go.RowKit
section
variable {X:Nat→Prop} {w0 w w':World} {M Ps:List Item}
end
theorem Zmo {el sz n:Nat} {v:Value} {cs:List Value} {w:World} (h:(own el sz v n cs).holds w) (m:Nat) (hm:m≤n) :
    ∃ A c,v=.slice A n c∧n≤c∧(own el sz (.slice A m c) m (cs.take (m * sz))).holds w∧(A=none∨∃ g,A=some ⟨g,0,none⟩)∧(ZUj A m c).ownBlock=v.ownBlock:=by
  obtain ⟨h1,h2⟩:=h
  have hl:(cs.take (m * sz)).length=m * sz:=by
    rw [ZTn,h1]
    have:=ZHg sz hm
    omega
  rcases h2 with ⟨rfl,rfl⟩ | ⟨g,cap,cur,rfl,hbg,hg,hnc,hcm,hcs,ht⟩
  · obtain rfl:m=0:=by omega
    exact⟨none,0,rfl,ZEw _,⟨hl,.inl ⟨rfl,rfl⟩⟩,.inl rfl,rfl⟩
  · refine⟨_,cap,rfl,hnc,⟨hl,.inr ⟨g,cap,cur,rfl,hbg,hg,by omega,hcm,hcs,?_⟩⟩,.inr ⟨g,rfl⟩,rfl⟩
    rw [← ht,ZUg,Nat.min_eq_left (ZHg sz hm)]
theorem Zmp (A:Option Addr) (h c s:Nat) (hA:A=none∨∃ g,A=some ⟨g,0,none⟩):sliced A 0 h c s=.slice A h c:=by
  unfold sliced
  rcases hA with rfl | ⟨g,rfl⟩
  · simp
  · simp [ZUi]
section
variable {P:Program} {ops:Array Oper} {Q:Exit→Act→World→Prop} {n:Nat} {e:Env} {w w':World} {rest:List Oper}
variable {X:Nat→Prop} {w0:World} {M Ps:List Item}
variable {d ty:Nat} {pos:String} {af:Array Edge}
theorem Zby {P:Program} {t el:Nat} (ht:P.underlying t=some (.slice el)):P.underlying t=some (.slice (P.elem t)):=by
  have:P.elem t=el:=by simp [ZTt,ht]
  rw [this]; exact ht
theorem Zzd (hC:Ctx X w0 w M Ps) (k:Nat) {t el sz nv:Nat} {kq:IntKind} {hi:Int} {x y:Operand} {v:Value} {cs:List Value} (hk:M[k]? = some (own el sz v nv cs)) (ht:P.underlying t=some (.slice el)) (hz:Y9 P el sz)
    (hx:ev n e x=v) (hy:ev n e y=.int kq hi) (h0:0≤hi) (h1:hi≤nv)
    (h:∀ v',Ctx X w0 w (M.set k (own el sz v' hi.toNat (cs.take (hi.toNat * sz)))) Ps→W P ops Q rest n (upd e d v') w) :
    W P ops Q (⟨some d,.slice t x none (some y) none,ty,pos,af,none⟩::rest) n e w:=by
  have hown:(own el sz v nv cs).holds w:=hC.getM k hk
  obtain ⟨A,c,rfl,hnc,ho,hA,hb⟩:=Zmo hown hi.toNat (by omega)
  have hel:P.elem t=el:=by simp [ZTt,ht]
  have hr:=run_slice_h (P:=P) w t A nv c (Zby ht) kq hi h0 (by omega)
  rw [hel,J9 hz,ZEr,Zmp A _ _ _ hA] at hr
  refine Ym (.slice A hi.toNat c) rfl rfl ?_ (h _ (hC.turn k hk rfl rfl rfl (ZEw _) (ZEw _) (fun _ _ _=>rfl) ho (fun b hb'=>.inl ?_)))
  · simp only [execOp,hx,hy,ZF8,ZTw,ZEq,run_sliceAt_slice w t _ _ _ _ (Zby ht),hr,ZEr,ZEv]
  · show b∈(ZUj A nv c).ownBlock.toList
    rw [← hb]; exact hb'
theorem Zze {t el sz:Nat} {kq:IntKind} {x y:Operand} (ht:P.underlying t=some (.slice el)) (hz:Y9 P el sz) (hx:ev n e x=.slice none 0 0) (hy:ev n e y=.int kq 0)
    (h:W P ops Q rest n (upd e d (.slice none 0 0)) w):W P ops Q (⟨some d,.slice t x none (some y) none,ty,pos,af,none⟩::rest) n e w:=by
  have hel:P.elem t=el:=by simp [ZTt,ht]
  have hr:=run_slice_h (P:=P) w t none 0 0 (Zby ht) kq 0 (by omega) (by omega)
  rw [hel,J9 hz,ZEr,Zmp none _ _ _ (.inl rfl)] at hr
  refine Ym (.slice none 0 0) rfl rfl ?_ h
  simp only [execOp,hx,hy,ZF8,ZTw,ZEq,run_sliceAt_slice w t _ _ _ _ (Zby ht),hr,ZEr,ZEv]
  rfl
theorem Zql {t el:Nat} {x:Operand} {A:Option Addr} {m c:Nat} (ht:P.underlying t=some (.slice el)) (hx:ev n e x=.slice A m c)
    (h:W P ops Q rest n (upd e d (.int .i64 c)) w):W P ops Q (⟨some d,.call { callee:=.builtin .cap,args:=#[x],argTypes:=#[t] }, ty,pos,af,none⟩::rest) n e w:=by
  refine Ym _ rfl rfl ?_ h
  have hr:=run_cap_slice (P:=P) w t ty A m c (Zby ht)
  simp only [execOp,resolve,invoke,builtin,ZEq,ZEv,ZEr,List.map_toArray,ZFy,List.map_nil,hx,hr]
  rfl
end
theorem _root_.Vc.Enc.encs_take {α:Type} (E:Enc α) (xs:List α) (m:Nat):(E.encs xs).take (m * E.sz)=E.encs (xs.take m):=by
  induction xs generalizing m with
  | nil=>simp [ZTu]
  | cons x xs ih =>
    cases m with
    | zero=>simp [ZTu]
    | succ m =>
      have e:E.encs (x::xs)=E.enc x++E.encs xs:=by simp [ZTu]
      have hl:=E.len x
      rw [e,List.take_succ_cons,show E.encs (x::xs.take m)=E.enc x++E.encs (xs.take m) by simp [ZTu],ZE5,Nat.one_mul,Nat.add_comm,← hl,List.take_length_add_append,hl,ih]
section
variable {P:Program} {ops:Array Oper} {Q:Exit→Act→World→Prop} {n:Nat} {e:Env} {w w':World} {rest:List Oper}
variable {d ty:Nat} {pos:String} {af:Array Edge}
theorem Zzf {t t':Nat} {ik:IntKind} {x y:Operand} {a b:A8} {gd:Option (Nat×Bool)} (K:KeyT P t (kvA ik)) (hm:P.eqGuardType P.depth t=false) (hx:ev n e x=.agg (ZMl (a.enc ik))) (hy:ev n e y=.agg (ZMl (b.enc ik))) :
    (execOp (ev n e) ⟨some d,.binOp .eql t x y t',ty,pos,af,gd⟩).run P w=.ok (.value (.bool (decide (a=b)))) w:=by
  have hq:=run_eqGuard_agg (P:=P) w .eql t x y (ZMl (a.enc ik)) (ZMl (b.enc ik)) hm
  have hr:(Op.equalIn 10000 t (.agg (ZMl (a.enc ik))) (.agg (ZMl (b.enc ik)))).run P w=.ok (decide (a=b)) w:=K.equal w a b
  simp only [execOp,hx,hy,ZEq,hq,ZEr,run_eql_struct,hr,ZEv]
theorem Zzg {t t':Nat} {ik:IntKind} {x y:Operand} {a b:A8} (K:KeyT P t (kvA ik)) (hm:P.eqGuardType P.depth t=false) (hx:ev n e x=.agg (ZMl (a.enc ik))) (hy:ev n e y=.agg (ZMl (b.enc ik)))
    (h:W P ops Q rest n (upd e d (.bool (decide (a=b)))) w):W P ops Q (⟨some d,.binOp .eql t x y t',ty,pos,af,none⟩::rest) n e w :=
  Ym _ rfl rfl (Zzf K hm hx hy) h
end
section
variable {P:Program} {ops:Array Oper} {Q:Exit→Act→World→Prop} {n:Nat} {e:Env} {w w':World} {rest:List Oper}
variable {X:Nat→Prop} {w0:World} {M Ps:List Item}
variable {d ty:Nat} {pos:String} {af:Array Edge} {gd:Option (Nat×Bool)}
end
theorem Zef {α:Type} {t:Ty α} {xs:List α} {v:Value} {fp:List Nat} {w:World} (h:t.sl.rep xs [v] fp w):∃ ds,(rdr t.sz v xs.length ds fp).holds w∧t.all xs ds fp w:=by
  obtain ⟨v',ecs,e,h1,h2⟩:=h
  obtain rfl:v=v':=by simpa using e
  exact⟨ecs,h1,h2⟩
theorem Zmq {α:Type} (t:Ty α) (w:World):(t.allItem ([]:List α) [] []).holds w:=⟨by simp,by simp,by simp,fun i hi=>absurd hi (by simp)⟩
theorem Zzh (k:IntKind) (xs:List Int) (m:Nat):(EI k).encs xs++ZEs m (.int k 0)=(EI k).encs (xs++ZEs m 0):=by
  rw [ZNf]
  congr 1
  induction m with
  | zero=>rfl
  | succ m ih=>rw [List.replicate_succ,List.replicate_succ,ih]; simp [ZTu,EI]
theorem Zeg {α:Type} {t:Ty α} {xs ys:List α} {cs ds:List Value} {f g:List Nat} {w:World} (h:(t.allItem xs cs f).holds w) (k:(t.allItem ys ds g).holds w):(t.allItem (xs++ys) (cs++ds) (f++g)).holds w:=by
  have hl:∀ b,b∈f++g→b < w.heap.size:=fun b hb=>(ZE4.1 hb).elim (h.1 b) (k.1 b)
  refine⟨hl,by rw [ZE8,h.2.1,k.2.1,ZE8,ZE5],fun u hu=>(ZE4.1 hu).elim (h.2.2.1 u) (k.2.2.1 u),fun i hi=>?_⟩
  by_cases hx:i < xs.length
  · have e1:(xs++ys)[i]=xs[i]:=List.getElem_append_left hx
    have hle:i * t.sz+t.sz≤cs.length:=by rw [h.2.1]; exact Zar hx
    rw [e1,List.drop_append_of_le_length (by omega),List.take_append_of_le_length (by rw [ZGy]; omega)]
    exact t.more (h.2.2.2 i hx) (fun b hb=>ZFi _ hb) hl
  · have hy:i - xs.length < ys.length:=by rw [ZE8] at hi; omega
    have e1:(xs++ys)[i]=ys[i - xs.length]:=List.getElem_append_right (by omega)
    have hm:i * t.sz=cs.length+(i - xs.length) * t.sz:=by rw [h.2.1,← ZE5]; congr 1; omega
    rw [e1,hm,← List.drop_drop,List.drop_left' rfl]
    exact t.more (k.2.2.2 _ hy) (fun b hb=>ZFj _ hb) hl
end Vc
namespace Vc
open Go Go.RowKit
section
variable {P:Program} {ops:Array Oper} {Q:Exit→Act→World→Prop} {n:Nat} {e:Env} {w w':World} {rest:List Oper}
variable {X:Nat→Prop} {w0:World} {M Ps:List Item}
variable {d ty:Nat} {pos:String} {af:Array Edge}
end
end Vc
namespace Vc
open Go Go.RowKit
abbrev vvP (b:Nat):Value:=.pointer (some ⟨b,0,none⟩)
structure Elem where
  gen:Int
  mono:A8
  deriving DecidableEq,Inhabited
def Elem.enc (t:Elem):List Value:=.int .i64 t.gen::ZMk .i64 t.mono
section
variable {P:Program} {k:Nat} {ik:IntKind}
theorem Zzi (hk:P.underlying k=some (.int ik)):KeyT P k (vvI ik) where
  under:=⟨_,hk,.inr fun x y=>by simp [Instr.sameNow,Bool.beq_eq_decide_eq]⟩
  check em w x:=by
    show (Instr.checkKey em (9999+1) k _).run P w=_
    unfold Instr.checkKey; simp [ZEq,run_underlying hk]
  equal w x y:=Zo3 (d:=9999) hk w x y
  stays x:=by simp [Instr.sameBits]
end
section
variable {P:Program} {ops:Array Oper} {Q:Exit→Act→World→Prop} {n:Nat} {e:Env} {w w':World} {rest:List Oper}
variable {X:Nat→Prop} {w0:World} {M Ps:List Item}
variable {d ty:Nat} {pos:String} {af:Array Edge}
theorem Zzj {t t':Nat} {x y:Operand} {k:IntKind} {a b:Int} {gd:Option (Nat×Bool)} (hx:ev n e x=.int k a) (hy:ev n e y=.int k b) :
    (execOp (ev n e) ⟨some d,.call { callee:=.builtin .max,args:=#[x,y],argTypes:=#[t,t'] }, ty,pos,af,gd⟩).run P w=.ok (.value (.int k (if a < b then b else a))) w:=by
  simp [execOp,resolve,invoke,builtin,hx,hy,Builtin.max_,Builtin.max2,ZEq]
theorem Zzk {t t':Nat} {x y:Operand} {k:IntKind} {a b:Int} (hx:ev n e x=.int k a) (hy:ev n e y=.int k b)
    (h:W P ops Q rest n (upd e d (.int k (if a < b then b else a))) w):W P ops Q (⟨some d,.call { callee:=.builtin .max,args:=#[x,y],argTypes:=#[t,t'] }, ty,pos,af,none⟩::rest) n e w :=
  Ym _ rfl rfl (Zzj hx hy) h
theorem Zjy {f:FuncId} {l:List Operand} {fn:Func} {c:Code} {at_:Array Nat} (vs:List Value) (hf:P.funcs[f]? = some fn) (hb:fn.body=some c) (hne:(fn.name == "runtime.NumGoroutine")=false) (m:Nat) (hm:fn.ntmps=m) (hl:vs.length≤m)
    (hp:l.map (ev n e)=vs) (h:c.wp P (bodyPost P fn (fun ret w''=>∃ v,ret=.returned v∧W P ops Q rest n (upd e d v) w'')) (actOf m (Zfz vs)) w) :
    W P ops Q (⟨some d,.call { callee:=.value (.func f),args:=l.toArray,argTypes:=at_ }, ty,pos,af,none⟩::rest) n e w :=
  Zf vs _ hf (by rw [hb]; rfl) hne hp (Zk0 hf hb m hm hl h) (fun ret w'' h=>h)
end
section
variable {P:Program} {ops:Array Oper} {Q:Exit→Act→World→Prop} {n:Nat} {e:Env} {w w':World} {rest:List Oper}
variable {X:Nat→Prop} {w0:World} {M Ps:List Item}
variable {d ty:Nat} {pos:String} {af:Array Edge}
end
end Vc
namespace Vc
open Go Go.RowKit
def Je (u:Value):List Nat:=u.ownBlock.toList
def Jn (v:Value) (ecs:List Value):List Nat:=v.ownBlock.toList++(ecs.map Je).flatten
abbrev hd (ecs:List Value) (i:Nat):Value:=ecs.getD i undef
section
variable {α:Type} {E:Enc α} {t e:Nat} {v:Value} {ecs:List Value} {xs:List (List α)} {w w':World}
theorem Zjz {i:Nat} {b:Nat} (hi:i < ecs.length) (hb:b∈Je (hd ecs i)):b∈(ecs.map Je).flatten :=
  ZGb.2 ⟨Je (hd ecs i),ZF9.2 ⟨hd ecs i,by simp [hd,ZFf,hi],rfl⟩,hb⟩
theorem Zqm (hn:(Jn v ecs).Nodup) {i j:Nat} (hi:i < ecs.length) (hj:j < ecs.length) (hne:i≠j):∀ b,b∈Je (hd ecs i)→b∉Je (hd ecs j):=by
  have hn2:=(ZFv.1 hn).2.1
  have hp:=(List.pairwise_flatten.1 hn2).2
  rw [ZUc,ZE2] at hp
  intro b hb hb'
  have ei:hd ecs i=ecs[i]:=by simp [hd,ZFf,hi]
  have ej:hd ecs j=ecs[j]:=by simp [hd,ZFf,hj]
  rw [ei] at hb; rw [ej] at hb'
  rcases Nat.lt_or_gt_of_ne hne with q | q
  · exact hp i j hi hj q b hb b hb' rfl
  · exact hp j i hj hi q b hb' b hb rfl
theorem Zmr (hn:(Jn v ecs).Nodup) {i:Nat} (hi:i < ecs.length):∀ b,b∈Je (hd ecs i)→b∉v.ownBlock.toList:=fun b hb hb' =>
  (ZFv.1 hn).2.2 b hb' b (Zjz hi hb) rfl
def mat (E : Enc α) (t e : Nat) (v : Value) (ecs : List Value) (xs : List (List α)) : Item where
  fp:=Jn v ecs
  holds w:=(own t 1 v xs.length ecs).holds w∧(∀ i,i < xs.length→(own e E.sz (hd ecs i) (xs.getD i ZEx).length (E.encs (xs.getD i ZEx))).holds w)∧(Jn v ecs).Nodup
  keep w w' h hw:=⟨ZTe _ _ _ (fun b hb=>h b (ZFi _ hb)) hw.1,fun i hi=>ZTe _ _ _ (fun b hb=>h b (ZFj _ (Zjz (by rw [Zf5 hw.1]; omega) hb))) (hw.2.1 i hi),hw.2.2⟩
  low w hw b hb := by
    rcases ZE4.1 hb with q | q
    · exact ZTc _ _ hw.1 b q
    · obtain ⟨l,hl,hb⟩:=ZGb.1 q
      obtain ⟨u,hu,rfl⟩:=ZF9.1 hl
      obtain ⟨i,hi,rfl⟩:=ZE6 hu
      have hi':i < xs.length:=by rw [Zf5 hw.1] at hi; omega
      have:=hw.2.1 i hi'
      rw [show hd ecs i=ecs[i] by simp [hd,ZFf,hi]] at this
      exact ZTc _ _ this b hb
theorem Zeh (h:(mat E t e v ecs xs).holds w):ecs.length=xs.length:=by rw [Zf5 h.1]; omega
theorem Zms {cs:List Value} {i:Nat} (h:i < cs.length):(cs.drop (i * 1)).take 1=[hd cs i]:=by
  rw [Nat.mul_one,List.drop_eq_getElem_cons h,List.take_succ_cons,List.take_zero]
  simp [hd,ZFf,h]
theorem Zj0 {fp:List Nat} (h:(ZM4 (ZTa t (ZTa e E.tr)) xs [v] fp).holds w):∃ ecs,(mat E t e v ecs xs).holds w∧fp=Jn v ecs:=by
  obtain ⟨ecs,fps,a1,a2,rfl,a4⟩:=Zgg h
  have hsz:(ZTa e E.tr).ty.sz=1:=rfl
  rw [hsz] at a1
  have hl:ecs.length=xs.length:=by rw [Zf5 a1]; omega
  have row:∀ i (hi:i < xs.length),(own e E.sz (hd ecs i) (xs[i]).length (E.encs xs[i])).holds w∧fps.getD i []=Je (hd ecs i):=fun i hi=>by
    have h2:=a2.1.2.2 i hi
    rw [hsz,Zms (by omega)] at h2
    exact Xn h2
  have hf:fps=ecs.map Je:=by
    refine ZHj (by rw [List.length_map,a2.1.2.1,hl]) fun i h1 h2=>?_
    have hi:i < xs.length:=by rw [← a2.1.2.1]; exact h1
    have:=(row i hi).2
    rw [show fps.getD i []=fps[i] by simp [ZFf,h1]] at this
    rw [this,List.getElem_map]
    simp [hd,ZFf,show i < ecs.length by omega]
  subst hf
  refine⟨ecs,⟨a1,fun i hi=>?_,h.2⟩,rfl⟩
  rw [show xs.getD i ZEx=xs[i] by simp [ZFf,hi]]
  exact(row i hi).1
theorem Zcy (h:(mat E t e v ecs xs).holds w):(ZM4 (ZTa t (ZTa e E.tr)) xs [v] (Jn v ecs)).holds w:=by
  have hl:=Zeh h
  refine⟨⟨v,ecs,ecs.map Je,rfl,h.1,⟨by rw [hl]; show _=_ * 1; omega,by rw [List.length_map,hl],fun i hi=>?_⟩,rfl⟩,h.2.2⟩
  have h2:=h.2.1 i hi
  rw [show xs.getD i ZEx=xs[i] by simp [ZFf,hi]] at h2
  show (ZTa e E.tr).tree xs[i] ((ecs.drop (i * 1)).take 1) _ w
  rw [Zms (by omega),show (ecs.map Je).getD i []=Je (hd ecs i) by simp [ZFf,hd,show i < ecs.length by omega]]
  exact Zpb h2
theorem Zac (h:(mat E t e v ecs xs).holds w) {i:Nat} (hi:i < xs.length):(own e E.sz (hd ecs i) (xs.getD i ZEx).length (E.encs (xs.getD i ZEx))).holds w:=h.2.1 i hi
theorem Zzl (h:(mat E t e v ecs xs).holds w):∃ A c,v=.slice A xs.length c:=Za6 h.1
theorem Zcc (h:(mat E t e v ecs xs).holds w) (hn:0 < xs.length):∃ g cap,v=.slice (some ⟨g,0,none⟩) xs.length cap:=Jp h.1 hn
theorem Zzm (h:(mat E t e v ecs xs).holds w):E.ty.sl.sl.rep xs [v] (Jn v ecs) w:=(ZTa t (ZTa e E.tr)).trep (Zcy h).1
theorem Zcz (h:(mat E t e v ecs xs).holds w) {g nn c:Nat} (hv:v=.slice (some ⟨g,0,none⟩) nn c) {i:Nat} (hi:i < xs.length):Jq w ⟨g,i * 1,none⟩ [hd ecs i]:=by
  obtain ⟨g',cap,e1,hc⟩:=Zk6 h.1 (by omega)
  rw [hv] at e1
  injection e1 with e1 e2 e3
  injection e1 with e1
  injection e1 with e1
  subst e1
  intro j u hj
  have hl:=Zeh h
  have:=hc (i * 1+j) u (by
    rw [← Zms (by omega),List.getElem?_take] at hj
    split at hj
    · rw [List.getElem?_drop] at hj; exact hj
    · cases hj)
  rw [Zci] at this ⊢
  rwa [Nat.zero_add] at this
end
section
variable {α:Type} {E:Enc α} {t e:Nat} {v:Value} {ecs:List Value} {xs:List (List α)} {w w':World}
theorem Zzn (h:(mat E t e v ecs xs).holds w) {i:Nat} (hi:i < xs.length) {y:List α} (ho:(own e E.sz (hd ecs i) y.length (E.encs y)).holds w') (hB:∀ c,c < w.heap.size→c∉Je (hd ecs i)→w'.heap[c]? = w.heap[c]?):(mat E t e v ecs (xs.set i y)).holds w':=by
  have hl:=Zeh h
  refine⟨?_,fun j hj=>?_,h.2.2⟩
  · rw [ZGc]
    exact ZTe _ _ _ (fun b hb=>hB b (ZTc _ _ h.1 b hb) (fun q=>Zmr h.2.2 (by omega) b q hb)) h.1
  · rw [ZGc] at hj
    by_cases q:i=j
    · subst q
      rw [show (xs.set i y).getD i ZEx=y by simp [ZFf,hi]]
      exact ho
    · rw [show (xs.set i y).getD j ZEx=xs.getD j ZEx by simp [ZFf,List.getElem?_set_ne q]]
      exact ZTe _ _ _ (fun b hb=>hB b (ZTc _ _ (h.2.1 j hj) b hb) (fun z=>Zqm h.2.2 (by omega) (by omega) q b z hb)) (h.2.1 j hj)
variable {X:Nat→Prop} {w0:World} {M Ps:List Item}
theorem Ctx.turnRow (hC:Ctx X w0 w M Ps) (k:Nat) (hk:M[k]? = some (mat E t e v ecs xs)) {i:Nat} (hi:i < xs.length) (hB:BelO (Je (hd ecs i)) w w') {y:List α} (ho:(own e E.sz (hd ecs i) y.length (E.encs y)).holds w'):Ctx X w0 w' (M.set k (mat E t e v ecs (xs.set i y))) Ps:=by
  have h:=hC.getM k hk
  have hl:=Zeh h
  exact hC.turn k hk hB.os hB.tape hB.output hB.size hB.drawn (fun b hb hn=>hB.old b hb (fun q=>hn (ZFj _ (Zjz (by omega) q)))) (Zzn h hi ho hB.old) (fun b hb=>.inl hb)
end
section
variable {P:Program} {ops:Array Oper} {Q:Exit→Act→World→Prop} {n:Nat} {ev_:Env} {w w':World} {rest:List Oper}
variable {X:Nat→Prop} {w0:World} {M Ps:List Item}
variable {d ty:Nat} {pos:String} {af:Array Edge}
variable {α:Type} {E:Enc α} {t e:Nat} {v:Value} {ecs:List Value} {xs:List (List α)}
theorem Zzo (hC:Ctx X w0 w M Ps) (k:Nat) {ty' i q g nn cap:Nat} {x y:Operand} (a:α) {u:Value} (hk:M[k]? = some (mat E t e v ecs xs)) (hi:i < xs.length) (hv:hd ecs i=.slice (some ⟨g,0,none⟩) nn cap) (hq:q < (xs.getD i ZEx).length) (hT:Y9 P ty' E.sz)
    (hx:ev n ev_ x=.pointer (some ⟨g,q * E.sz,none⟩)) (hy:ev n ev_ y=u) (hu:u.cells.toList=E.enc a)
    (h:∀ w',Ctx X w0 w' (M.set k (mat E t e v ecs (xs.set i ((xs.getD i ZEx).set q a)))) Ps→W P ops Q rest n ev_ w') :
    W P ops Q (⟨none,.store ty' x y,ty,pos,af,none⟩::rest) n ev_ w:=by
  have hm:=hC.getM k hk
  have ho:=Zac hm hi
  have hnn:nn=(xs.getD i ZEx).length:=by
    obtain ⟨A,c,e1⟩:=Za6 ho
    rw [hv] at e1; injection e1
  subst hnn
  rw [hv] at ho
  obtain ⟨w',hr,hb,hos,hta,hou,hsz,hother⟩:=Ziq (P:=P) (v:=u) hT ho hu (E.len a) (ZFn.2 fun z hz=>E.one a z hz) (by rw [E.encs_len]; exact Zar hq)
  have hdr:=Zax _ _ _ _ hr
  refine Zbq rfl rfl ?_ (h w' (hC.turnRow k hk hi (w':=w') (y:=(xs.getD i ZEx).set q a) ⟨hos,hta,hou,by omega,hdr,fun c _ hc=>hother c (fun z=>hc (by rw [hv,z]; simp [Je,ZFq]))⟩ ?_))
  · simp [execOp,hx,hy,Instr.storeAt,Instr.sureAddr,hr]
  · rw [Zc8 _ _ _ hq] at hb
    rw [hv,ZGc]
    exact hb
def Y6 {β:Type} (d:β) (l:List β) (i j:Nat):List β:=(l.set i (l.getD j d)).set j (l.getD i d)
theorem Zqn {β:Type} (d:β) (l:List β) (i j:Nat):(Y6 d l i j).length=l.length:=by simp [Y6]
theorem Zqo {β:Type} (d:β) {l:List β} {i j:Nat} (hi:i < l.length) (hj:j < l.length) (k:Nat):(Y6 d l i j).getD k d=if k=j then l.getD i d else if k=i then l.getD j d else l.getD k d:=by
  unfold Y6
  simp only [ZFf]
  by_cases a:k=j
  · subst a; rw [if_pos rfl,List.getElem?_set_self (by simpa using hj)]; rfl
  · rw [if_neg a,List.getElem?_set_ne (fun z=>a z.symm)]
    by_cases b:k=i
    · subst b; rw [if_pos rfl,List.getElem?_set_self hi]; rfl
    · rw [if_neg b,List.getElem?_set_ne (fun z=>b z.symm)]
theorem Zzp {β:Type} (d:β) {l:List β} {i j:Nat} (hi:i < l.length) (hj:j < l.length):(Y6 d l i j).Perm l:=by
  have e1:l.getD j d=l[j]:=by simp [ZFf,hj]
  have e2:l.getD i d=l[i]:=by simp [ZFf,hi]
  unfold Y6
  rw [e1,e2]
  exact List.set_set_perm hi hj
theorem Zqp {cs:List Value} {i:Nat} (hi:i < cs.length) (u:Value):Xe cs (i * 1) [u]=cs.set i u:=Zph hi (Nat.mul_one i)
theorem Zqq {ty':Nat} {x y:Operand} {a:Addr} {u:Value} {w w':World} (hx:ev n ev_ x=.pointer (some a)) (hy:ev n ev_ y=u) (hr:(storeVar ty' a u).run P w=.ok () w'):(execOp (ev n ev_) ⟨none,.store ty' x y,ty,pos,af,none⟩).run P w=.ok .skip w':=by
  simp [execOp,hx,hy,Instr.storeAt,Instr.sureAddr,hr]
theorem Zqr {u:Value} (h:u.oneCell'=true):[u].all (·.oneCell')=true:=by rw [List.all_cons,h]; rfl
def Zmt (E : Enc α) (t e : Nat) (v : Value) (ecs2 ecs : List Value) (xs : List (List α)) : Item where
  fp:=Jn v ecs
  holds w:=(own t 1 v xs.length ecs2).holds w∧(mat E t e v ecs xs).fp.Nodup∧ecs.length=xs.length∧∀ i,i < xs.length→(own e E.sz (hd ecs i) (xs.getD i ZEx).length (E.encs (xs.getD i ZEx))).holds w
  keep w w' h hw:=⟨ZTe _ _ _ (fun b hb=>h b (ZFi _ hb)) hw.1,hw.2.1,hw.2.2.1,fun i hi=>ZTe _ _ _ (fun b hb=>h b (ZFj _ (Zjz (by rw [hw.2.2.1]; omega) hb))) (hw.2.2.2 i hi)⟩
  low w hw b hb := by
    rcases ZE4.1 hb with q | q
    · exact ZTc _ _ hw.1 b q
    · obtain ⟨l,hl,hb⟩:=ZGb.1 q
      obtain ⟨u,hu,rfl⟩:=ZF9.1 hl
      obtain ⟨i,hi,rfl⟩:=ZE6 hu
      have this:=hw.2.2.2 i (by rw [hw.2.2.1] at hi; exact hi)
      rw [show hd ecs i=ecs[i] by simp [hd,ZFf,hi]] at this
      exact ZTc _ _ this b hb
theorem Zzq {w:World} {ecs2:List Value} (h:(Zmt E t e v ecs2 ecs xs).holds w) (hn:0 < xs.length):∃ g cap,v=.slice (some ⟨g,0,none⟩) xs.length cap:=Jp h.1 hn
theorem Zzr (hC:Ctx X w0 w M Ps) (k:Nat) {ty' i j g cap nn:Nat} {x y:Operand} (hk:M[k]? = some (mat E t e v ecs xs)) (hi:i < xs.length) (hj:j < xs.length) (hv:v=.slice (some ⟨g,0,none⟩) nn cap) (hT:Y9 P ty' 1)
    (hx:ev n ev_ x=.pointer (some ⟨g,i * 1,none⟩)) (hy:ev n ev_ y=hd ecs j)
    (h:∀ w',Ctx X w0 w' (M.set k (Zmt E t e v (ecs.set i (hd ecs j)) ecs xs)) Ps→W P ops Q rest n ev_ w') :
    W P ops Q (⟨none,.store ty' x y,ty,pos,af,none⟩::rest) n ev_ w:=by
  have hm:=hC.getM k hk
  have hl:=Zeh hm
  have hnn:nn=xs.length:=by
    obtain ⟨A,c,e1⟩:=Zzl hm
    rw [hv] at e1; injection e1
  subst hnn
  have o1:=hm.1
  rw [hv] at o1
  obtain ⟨w1,hr1,hb1,hos1,hta1,hou1,hsz1,hother1⟩:=Ziq (P:=P) (v:=hd ecs j) hT o1 (Zb4 (Zac hm hj)) rfl (Zqr (Xx (Zac hm hj))) (show i * 1+1≤ecs.length by omega)
  rw [Zqp (by omega)] at hb1
  have hoth:∀ c,c < w.heap.size→c∉v.ownBlock.toList→w1.heap[c]? = w.heap[c]? := fun c hc hn=>hother1 c (fun z=>hn (by rw [hv,z]; simp [ZFq]))
  refine Zbq (w':=w1) rfl rfl (Zqq hx hy hr1) (h w1 (hC.turn k hk hos1 hta1 hou1 (by omega) (Zax _ _ _ _ hr1) (fun b hb hn=>hoth b hb (fun q=>hn (ZFi _ q))) ⟨?_,hm.2.2,hl,fun q hq=>?_⟩ (fun b hb=>.inl hb)))
  · rw [hv]; exact hb1
  · exact ZTe _ _ _ (fun b hb=>hoth b (ZTc _ _ (hm.2.1 q hq) b hb) (Zmr hm.2.2 (by omega) b hb)) (hm.2.1 q hq)
theorem Zzs (hC:Ctx X w0 w M Ps) (k:Nat) {ty' i j g cap nn:Nat} {x y:Operand} (hk:M[k]? = some (Zmt E t e v (ecs.set i (hd ecs j)) ecs xs)) (hi:i < xs.length) (hj:j < xs.length) (hv:v=.slice (some ⟨g,0,none⟩) nn cap) (hT:Y9 P ty' 1)
    (hx:ev n ev_ x=.pointer (some ⟨g,j * 1,none⟩)) (hy:ev n ev_ y=hd ecs i)
    (h:∀ w',Ctx X w0 w' (M.set k (mat E t e v (Y6 undef ecs i j) (Y6 ZEx xs i j))) Ps→W P ops Q rest n ev_ w') :
    W P ops Q (⟨none,.store ty' x y,ty,pos,af,none⟩::rest) n ev_ w:=by
  have hm:=hC.getM k hk
  have hl:=hm.2.2.1
  have hnn:nn=xs.length:=by
    obtain ⟨A,c,e1⟩:=Za6 hm.1
    rw [hv] at e1; injection e1
  subst hnn
  have hmat:(mat E t e v ecs xs).fp.Nodup:=hm.2.1
  have o1:=hm.1
  rw [hv] at o1
  have hl2:(ecs.set i (hd ecs j)).length=xs.length:=by rw [ZGc]; exact hl
  obtain ⟨w2,hr2,hb2,hos2,hta2,hou2,hsz2,hother2⟩:=Ziq (P:=P) (v:=hd ecs i) hT o1 (Zb4 (hm.2.2.2 i hi)) rfl (Zqr (Xx (hm.2.2.2 i hi))) (show j * 1+1≤(ecs.set i (hd ecs j)).length by omega)
  rw [Zqp (by omega)] at hb2
  have hoth:∀ c,c < w.heap.size→c∉v.ownBlock.toList→w2.heap[c]? = w.heap[c]? := fun c hc hn=>hother2 c (fun z=>hn (by rw [hv,z]; simp [ZFq]))
  have hp:((Y6 undef ecs i j).map Je).flatten.Perm (ecs.map Je).flatten:=((Zzp undef (by omega) (by omega)).map Je).flatten
  have keep:∀ q,q < xs.length→(own e E.sz (hd ecs q) (xs.getD q ZEx).length (E.encs (xs.getD q ZEx))).holds w2:=fun q hq =>
    ZTe _ _ _ (fun b hb=>hoth b (ZTc _ _ (hm.2.2.2 q hq) b hb) (Zmr hmat (by omega) b hb)) (hm.2.2.2 q hq)
  refine Zbq (w':=w2) rfl rfl (Zqq hx hy hr2) (h w2 (hC.turn k hk hos2 hta2 hou2 (by omega) (Zax _ _ _ _ hr2) (fun b hb hn=>hoth b hb (fun q=>hn (ZFi _ q))) ⟨?_,fun q hq=>?_,(hp.append_left v.ownBlock.toList).nodup_iff.2 hmat⟩ (fun b hb=>?_)))
  · rw [Zqn,hv]; exact hb2
  · rw [Zqn] at hq
    rw [show hd (Y6 undef ecs i j) q=_ from Zqo undef (by omega) (by omega) q,Zqo ZEx hi hj q]
    split
    · exact keep i hi
    · split
      · exact keep j hj
      · exact keep q hq
  · rcases ZE4.1 hb with q | q
    · exact .inl (ZFi _ q)
    · exact .inl (ZFj _ (hp.mem_iff.1 q))
theorem Zqs (hC:Ctx X w0 w M Ps) (k:Nat) {t2:Nat} {kq:IntKind} {hi:Int} {x y:Operand} (hk:M[k]? = some (mat E t e v ecs xs)) (ht:P.underlying t2=some (.slice t)) (hz:Y9 P t 1)
    (hx:ev n ev_ x=v) (hy:ev n ev_ y=.int kq hi) (h0:0≤hi) (h1:hi≤xs.length)
    (h:∀ v',Ctx X w0 w (M.set k (mat E t e v' (ecs.take hi.toNat) (xs.take hi.toNat))) Ps→W P ops Q rest n (upd ev_ d v') w) :
    W P ops Q (⟨some d,.slice t2 x none (some y) none,ty,pos,af,none⟩::rest) n ev_ w:=by
  have hm:=hC.getM k hk
  have hl:=Zeh hm
  obtain ⟨A,c,rfl,hnc,ho,hA,hb⟩:=Zmo hm.1 hi.toNat (by omega)
  have hel:P.elem t2=t:=by simp [ZTt,ht]
  have hr:=run_slice_h (P:=P) w t2 A xs.length c (Zby ht) kq hi h0 (by omega)
  rw [hel,J9 hz,ZEr,Zmp A _ _ _ hA] at hr
  have sub:∀ b,b∈((ecs.take hi.toNat).map Je).flatten→b∈(ecs.map Je).flatten:=fun b hb=>by
    obtain ⟨l,hl',hb⟩:=ZGb.1 hb
    obtain ⟨u,hu,rfl⟩:=ZF9.1 hl'
    exact ZGb.2 ⟨_,ZF9.2 ⟨u,ZTz hu,rfl⟩,hb⟩
  have e1:Jn (.slice A hi.toNat c) (ecs.take hi.toNat)=(ZUj A xs.length c).ownBlock.toList++((ecs.take hi.toNat).map Je).flatten:=by unfold Jn; rw [hb]
  have hlt:(xs.take hi.toNat).length=hi.toNat:=by rw [ZTn]; omega
  refine Ym (.slice A hi.toNat c) rfl rfl ?_ (h _ (hC.turn k hk rfl rfl rfl (ZEw _) (ZEw _) (fun _ _ _=>rfl) ⟨?_,fun i hi'=>?_,?_⟩ (fun b hb'=>.inl ?_)))
  · simp only [execOp,hx,hy,ZF8,ZTw,ZEq,run_sliceAt_slice w t2 _ _ _ _ (Zby ht),hr,ZEr,ZEv]
  · rw [hlt]; rw [Nat.mul_one] at ho; exact ho
  · rw [hlt] at hi'
    have e2:(xs.take hi.toNat).getD i ZEx=xs.getD i ZEx:=by simp only [ZFf]; rw [List.getElem?_take,if_pos hi']
    have e3:hd (ecs.take hi.toNat) i=hd ecs i:=by simp only [hd,ZFf]; rw [List.getElem?_take,if_pos hi']
    rw [e2,e3]
    exact Zac hm (by omega)
  · rw [e1]
    have hn:=hm.2.2
    refine List.Nodup.sublist ?_ hn
    refine List.Sublist.append (List.Sublist.refl _) ?_
    have:((ecs.take hi.toNat).map Je).flatten++((ecs.drop hi.toNat).map Je).flatten=(ecs.map Je).flatten:=by
      rw [← List.flatten_append,← ZTf,List.take_append_drop]
    rw [← this]
    exact List.sublist_append_left _ _
  · have hb2:b∈Jn (.slice A hi.toNat c) (ecs.take hi.toNat):=hb'
    rw [e1] at hb2
    rcases ZE4.1 hb2 with q | q
    · exact ZFi _ q
    · exact ZFj _ (sub b q)
end
section
variable {α:Type}
theorem Zqt {E:Enc α} {t e:Nat} {v:Value} {ecs:List Value} {xs:List (List α)} {w:World} (h:(mat E t e v ecs xs).holds w) {i:Nat} (hi:i < xs.length):i < ecs.length:=by rw [Zeh h]; exact hi
theorem Zqu {t : Ty α} {xs : List α} {v : Value} {fp : List Nat} {w : World} (h : t.sl.rep xs [v] fp w) {A : Option Addr} {c l : Nat} (hv : v = .slice A xs.length c) (hl : l ≤ xs.length) (hc : xs.length ≤ c) : t.sl.rep (xs.drop l) [sliced A l xs.length c t.sz] fp w := by
  obtain ⟨v',ecs,e1,⟨a0,a1,a2,A',c',e2,anc,a3⟩,h2⟩:=h
  obtain rfl:v=v':=by simpa using e1
  rw [hv] at e2
  injection e2 with e3 e4 e5
  subst e3 e5
  have hlen:(xs.drop l).length=xs.length - l:=ZGy ..
  have hcl:(ecs.drop (l * t.sz)).length=(xs.length - l) * t.sz:=by rw [ZGy,a1,Nat.sub_mul]
  refine⟨_,ecs.drop (l * t.sz),rfl,⟨a0,by rw [hlen]; exact hcl,by rw [hlen]; omega,?_⟩,?_⟩
  · rw [hlen]
    by_cases q:c=l
    · refine⟨A,c - l,by unfold sliced; rw [if_pos q],by omega,fun hn=>by omega⟩
    · refine⟨A.map (·.add (l * t.sz)),c - l,by unfold sliced; rw [if_neg q],by omega,fun hn=>?_⟩
      obtain ⟨a,ha,hb,hcell⟩:=a3 (by omega)
      subst ha
      refine⟨a.add (l * t.sz),rfl,?_,fun j u hj=>?_⟩
      · have:(a.add (l * t.sz)).block=a.block:=by unfold Addr.add; split <;> rfl
        rw [this]; exact hb
      · rw [Zdt]
        refine hcell _ u ?_
        rwa [List.getElem?_drop] at hj
  · obtain ⟨b1,b2,b3,b4⟩:=h2
    refine⟨b1,by rw [hlen]; exact hcl,fun u hu=>b3 u (List.mem_of_mem_drop hu),fun i hi=>?_⟩
    have hi':l+i < xs.length:=by rw [hlen] at hi; omega
    have:=b4 (l+i) hi'
    rw [List.getElem_drop,List.drop_drop]
    rw [ZE5] at this
    exact this
theorem Zqv {t:Ty α} {xs:List α} {v:Value} {fp:List Nat} {w:World} (h:t.sl.rep xs [v] fp w):∃ A c,v=.slice A xs.length c∧xs.length≤c:=by
  obtain ⟨v',ecs,e1,⟨a0,a1,a2,A',c',e2,anc,a3⟩,h2⟩:=h
  obtain rfl:v=v':=by simpa using e1
  exact⟨A',c',e2,anc⟩
theorem Zzt {t : Ty α} {xs : List α} {v : Value} {fp : List Nat} {w : World} (h : t.sl.rep xs [v] fp w) {A : Option Addr} {c l : Nat} (hv : v = .slice A xs.length c) (hl : l ≤ xs.length) (hc : xs.length ≤ c) : t.sl.rep (xs.take l) [sliced A 0 l c t.sz] fp w := by
  obtain ⟨v',ecs,e1,⟨a0,a1,a2,A',c',e2,anc,a3⟩,h2⟩:=h
  obtain rfl:v=v':=by simpa using e1
  rw [hv] at e2
  injection e2 with e3 e4 e5
  subst e3 e5
  have hlen:(xs.take l).length=l:=by rw [ZTn]; omega
  have hle:l * t.sz≤xs.length * t.sz:=ZHg _ hl
  have hcl:(ecs.take (l * t.sz)).length=l * t.sz:=by rw [ZTn,a1]; omega
  refine⟨_,ecs.take (l * t.sz),rfl,⟨a0,by rw [hlen]; exact hcl,by rw [hlen]; omega,?_⟩,?_⟩
  · rw [hlen]
    refine⟨_,c,rfl,by omega,fun hn=>?_⟩
    obtain ⟨a,ha,hb,hcell⟩:=a3 (by omega)
    subst ha
    have e0:(if c=0 then some a else(some a).map (·.add (0 * t.sz)))=some a:=by
      split
      · rfl
      · show some (a.add (0 * t.sz))=some a
        rw [Nat.zero_mul]; simp [Addr.add]
    refine⟨a,e0,hb,fun j u hj=>?_⟩
    refine hcell j u ?_
    rw [List.getElem?_take] at hj
    split at hj
    · exact hj
    · cases hj
  · obtain ⟨b1,b2,b3,b4⟩:=h2
    refine⟨b1,by rw [hlen]; exact hcl,fun u hu=>b3 u (ZTz hu),fun i hi=>?_⟩
    have hi':i < xs.length:=by rw [hlen] at hi; omega
    have:=b4 i hi'
    rw [List.getElem_take]
    have hi2:(i+1) * t.sz≤l * t.sz:=ZHg _ (by rw [hlen] at hi; omega)
    have e:((ecs.take (l * t.sz)).drop (i * t.sz)).take t.sz=(ecs.drop (i * t.sz)).take t.sz:=by
      rw [List.drop_take,ZUg,Nat.min_eq_left]
      rw [ZE5,Nat.one_mul] at hi2; omega
    rw [e]; exact this
theorem Zzu {E:Enc α} {t e:Nat} {v:Value} {ecs:List Value} {xs:List (List α)} {w:World} (h:(mat E t e v ecs xs).holds w):∃ A c,v=.slice A xs.length c∧xs.length≤c:=by
  obtain ⟨A,c,h1,h2,_⟩:=Zmo h.1 xs.length (ZEw _)
  exact⟨A,c,h1,h2⟩
end
section
variable {P:Program} {ops:Array Oper} {Q:Exit→Act→World→Prop} {n:Nat} {ev_:Env} {w:World} {rest:List Oper}
variable {d ty:Nat} {pos:String} {af:Array Edge}
theorem Zqw {t2 el sz nv c:Nat} {kq:IntKind} {lo:Int} {x y:Operand} {A:Option Addr} (ht:P.underlying t2=some (.slice el)) (hz:Y9 P el sz) (hx:ev n ev_ x=.slice A nv c) (hy:ev n ev_ y=.int kq lo) (h0:0≤lo) (h1:lo≤nv)
    (h:W P ops Q rest n (upd ev_ d (sliced A lo.toNat nv c sz)) w):W P ops Q (⟨some d,.slice t2 x (some y) none none,ty,pos,af,none⟩::rest) n ev_ w:=by
  have hel:P.elem t2=el:=by simp [ZTt,ht]
  have hr:=run_slice_l (P:=P) w t2 A nv c (Zby ht) kq lo h0 h1
  rw [hel,J9 hz,ZEr] at hr
  refine Ym _ rfl rfl ?_ h
  simp only [execOp,hx,hy,ZF8,ZTw,ZEq,run_sliceAt_slice w t2 _ _ _ _ (Zby ht),hr,ZEr,ZEv]
theorem Zzv {t2 el sz nv c:Nat} {kq:IntKind} {hi:Int} {x y:Operand} {A:Option Addr} (ht:P.underlying t2=some (.slice el)) (hz:Y9 P el sz) (hx:ev n ev_ x=.slice A nv c) (hy:ev n ev_ y=.int kq hi) (h0:0≤hi) (h1:hi≤nv) (hc:nv≤c)
    (h:W P ops Q rest n (upd ev_ d (sliced A 0 hi.toNat c sz)) w):W P ops Q (⟨some d,.slice t2 x none (some y) none,ty,pos,af,none⟩::rest) n ev_ w:=by
  have hel:P.elem t2=el:=by simp [ZTt,ht]
  have hr:=run_slice_h (P:=P) w t2 A nv c (Zby ht) kq hi h0 (by omega)
  rw [hel,J9 hz,ZEr] at hr
  refine Ym _ rfl rfl ?_ h
  simp only [execOp,hx,hy,ZF8,ZTw,ZEq,run_sliceAt_slice w t2 _ _ _ _ (Zby ht),hr,ZEr,ZEv]
end
end Vc
namespace Vc
open Go Go.RowKit
theorem Zzw {a b:Int} (h:decide (a=b)=false):decide (a≠b)=true:=by simpa using h
structure Lvl where
  list:List A8
  place:List (A8×Int)
  deriving Inhabited
def THead : Ty Unit where
  sz:=1
  rep _ cs fp w:=(∀ b,b∈fp→b < w.heap.size)∧∃ A n c,cs=[.slice A n c]
  keep h hw:=⟨Zey h hw.1,hw.2⟩
  low hw:=hw.1
  len hw:=by obtain ⟨_,A,n,c,rfl⟩:=hw; rfl
  one hw u hu:=by
    obtain ⟨_,A,n,c,rfl⟩:=hw
    obtain rfl:u=_:=by simpa using hu
    rfl
  more hw h h':=⟨h',hw.2⟩
def TLvl:Ty Lvl:=.iso (fun l=>(l.list,l.place,(),(),(),())) (.pair ((EA .i64).ty.sl) (.pair TSum (.pair THead (.pair THead (.pair THead THead)))))
theorem Zzx {x:Lvl} {v0 v1 v2 v3 v4 v5:Value} {fp:List Nat} {w:World} (h:TLvl.rep x [v0,v1,v2,v3,v4,v5] fp w) :
    ((EA .i64).ty.sl).rep x.list [v0] fp w∧TSum.rep x.place [v1] fp w:=by
  obtain ⟨a0,h1⟩:=Zk8 (c1:=[v0]) (c2:=[v1,v2,v3,v4,v5]) h rfl
  obtain ⟨a1,h2⟩:=Zk8 (c1:=[v1]) (c2:=[v2,v3,v4,v5]) h1 rfl
  exact⟨a0,a1⟩
theorem Zzy {x:Lvl} {v0 v1 v2 v3 v4 v5:Value} {fp:List Nat} {w:World} (h0:((EA .i64).ty.sl).rep x.list [v0] fp w) (h1:TSum.rep x.place [v1] fp w)
    (h2:∃ A n c,v2=.slice A n c) (h3:∃ A n c,v3=.slice A n c) (h4:∃ A n c,v4=.slice A n c) (h5:∃ A n c,v5=.slice A n c):TLvl.rep x [v0,v1,v2,v3,v4,v5] fp w:=by
  have hl:=fun b hb=>Ty.low _ h0 b hb
  have up:∀ {v:Value}, (∃ A n c,v=.slice A n c)→THead.rep () [v] fp w:=fun h=>by
    obtain ⟨A,n,c,rfl⟩:=h
    exact⟨hl,A,n,c,rfl⟩
  have k5:=Zdu (x:=((),())) (up h4) (up h5)
  have k4:=Zdu (x:=((),((),()))) (up h3) k5
  have k3:=Zdu (x:=((),((),((),())))) (up h2) k4
  have k2:=Zdu (x:=(x.place,((),((),((),()))))) h1 k3
  have k1:TLvl.rep x _ _ w:=Zdu (x:=(x.list,(x.place,((),((),((),())))))) h0 k2
  exact TLvl.more k1 (fun b hb=>by simpa using hb) hl
structure Lev where
  n:Int
  b:Nat
  pb:Nat
  vl:Value
  vm:Value
  vc:Value
  vd:Value
  vk:Value
  md:Bool
  c3:Bool
  c4:Bool
  c5:Bool
def Lev.cells (e:Lev):List Value:=[e.vl,.map (some e.pb),e.vm,e.vc,e.vd,e.vk]
def Lev.key (e:Lev):Int×Nat:=(e.n,e.b)
structure Cx where
  LV:Int→List A8
  PL:Int→List (A8×Int)
  MX:Int→List (List Int)
  CL:Int→List (List Int)
  BD:Int→List (List Int)
  KL:Int→List (List Int)
def lvB (lt : Nat) (D : List Lev) : Item where
  fp:=D.map (·.b)
  holds w:=(∀ e,e∈D→(blk e.b lt e.cells).holds w)∧(D.map (·.b)).Nodup
  keep w w' h hw:=by
    refine⟨fun e he=>(blk e.b lt e.cells).keep w w' (fun c hc=>h c ?_) (hw.1 e he),hw.2⟩
    obtain rfl:c=e.b:=by simpa [blk] using hc
    exact ZF9.2 ⟨e,he,rfl⟩
  low w hw b hb:=by
    obtain ⟨e,he,rfl⟩:=ZF9.1 hb
    exact Zbr (hw.1 e he)
section
variable {lt:Nat} {D D1 D2:List Lev} {e:Lev} {w w':World}
theorem Zqx (lt:Nat) (w:World):(lvB lt []).holds w:=⟨by simp,by simp⟩
theorem Zdl (h:(lvB lt D).holds w) (he:e∈D):(blk e.b lt e.cells).holds w:=h.1 e he
theorem Zzz (h:(blk e.b lt e.cells).holds w):(lvB lt [e]).holds w:=⟨by simpa using h,by simp⟩
theorem Zqy (h1:(lvB lt D1).holds w) (h2:(lvB lt D2).holds w) (hd:∀ x,x∈(lvB lt D1).fp→x∉(lvB lt D2).fp):(lvB lt (D1++D2)).holds w:=by
  refine⟨fun e he=>(ZE4.1 he).elim (h1.1 e) (h2.1 e),?_⟩
  rw [ZTf,ZFv]
  exact⟨h1.2,h2.2,fun a ha b hb e=>hd a ha (e ▸ hb)⟩
theorem Zmu (h:(lvB lt (D1++e::D2)).holds w):(blk e.b lt e.cells).holds w∧(lvB lt (D1++D2)).holds w∧∀ x,x∈(blk e.b lt e.cells).fp→x∉(lvB lt (D1++D2)).fp:=by
  obtain ⟨h1,h2⟩:=h
  rw [ZTf,ZFy,ZFv,ZPa] at h2
  obtain ⟨n1,⟨n2,n3⟩,n4⟩:=h2
  refine⟨h1 e (by simp),⟨fun x hx=>h1 x ?_,?_⟩,?_⟩
  · rcases ZE4.1 hx with q | q
    · exact ZFi _ q
    · exact ZFj _ (ZTd _ q)
  · rw [ZTf,ZFv]
    exact⟨n1,n3,fun a ha b hb=>n4 a ha b (ZTd _ hb)⟩
  · intro x hx hx2
    obtain rfl:x=e.b:=by simpa [blk] using hx
    have hx2:e.b∈(D1++D2).map (·.b):=hx2
    rw [ZTf] at hx2
    rcases ZE4.1 hx2 with q | q
    · exact n4 _ q _ (by simp) rfl
    · exact n2 q
theorem Zmv (h1 : (blk e.b lt e.cells).holds w) (h2 : (lvB lt (D1 ++ D2)).holds w) (hd : ∀ x, x ∈ (blk e.b lt e.cells).fp → x ∉ (lvB lt (D1 ++ D2)).fp) : (lvB lt (D1 ++ e :: D2)).holds w := by
  have hne:∀ x,x∈D1++D2→x.b≠e.b:=fun x hx q=>hd e.b (by simp [blk]) (ZF9.2 ⟨x,hx,q⟩)
  obtain ⟨g1,g2⟩:=h2
  rw [ZTf,ZFv] at g2
  refine⟨fun x hx=>?_,?_⟩
  · rcases ZE4.1 hx with q | q
    · exact g1 x (ZFi _ q)
    · rcases ZEt.1 q with rfl | q
      · exact h1
      · exact g1 x (ZFj _ q)
  · rw [ZTf,ZFy,ZFv,ZPa]
    refine⟨g2.1,⟨fun q=>?_,g2.2.1⟩,fun a ha b hb=>?_⟩
    · obtain ⟨x,hx,e1⟩:=ZF9.1 q
      exact hne x (ZFj _ hx) e1
    · rcases ZEt.1 hb with rfl | hb
      · obtain ⟨x,hx,rfl⟩:=ZF9.1 ha
        exact hne x (ZFi _ hx)
      · exact g2.2.2 a ha b hb
end
def LvC (C:Cx) (F:List Nat) (e:Lev) (w:World):Prop :=
  ((EA .i64).ty.sl).rep (C.LV e.n) [e.vl] F w∧(e.pb∈F∧(Z1 (kvA .i64) (vvI .i64) e.pb (C.PL e.n)).holds w) ∧
  (e.md=false→e.vm=.slice none 0 0)∧(e.md=true→(((EI .i64).ty.sl).sl).rep (C.MX e.n) [e.vm] F w) ∧
  (e.c3=false→e.vc=.slice none 0 0)∧(e.c3=true→(((EI .i64).ty.sl).sl).rep (C.CL e.n) [e.vc] F w) ∧
  (e.c4=false→e.vd=.slice none 0 0)∧(e.c4=true→(((EI .i64).ty.sl).sl).rep (C.BD e.n) [e.vd] F w) ∧
  (e.c5=false→e.vk=.slice none 0 0)∧(e.c5=true→(((EI .i64).ty.sl).sl).rep (C.KL e.n) [e.vk] F w)
theorem LvC.keep {C:Cx} {F:List Nat} {e:Lev} {w w':World} (h:∀ b,b∈F→w'.heap[b]? = w.heap[b]?) (hc:LvC C F e w):LvC C F e w':=by
  obtain ⟨h1,⟨h2,h3⟩,h4,h5,a3,b3,a4,b4,a5,b5⟩:=hc
  exact⟨Ty.keep _ h h1,⟨h2,Zpg (h _ h2) h3⟩,h4,fun q=>Ty.keep _ h (h5 q),a3,fun q=>Ty.keep _ h (b3 q),a4,fun q=>Ty.keep _ h (b4 q),a5,fun q=>Ty.keep _ h (b5 q)⟩
theorem LvC.more {C:Cx} {F F':List Nat} {e:Lev} {w:World} (hc:LvC C F e w) (h:∀ b,b∈F→b∈F') (hl:∀ b,b∈F'→b < w.heap.size):LvC C F' e w:=by
  obtain ⟨h1,⟨h2,h3⟩,h4,h5,a3,b3,a4,b4,a5,b5⟩:=hc
  exact⟨ZTp _ h1 h hl,⟨h _ h2,h3⟩,h4,fun q=>ZTp _ (h5 q) h hl,a3,fun q=>ZTp _ (b3 q) h hl,a4,fun q=>ZTp _ (b4 q) h hl,a5,fun q=>ZTp _ (b5 q) h hl⟩
def cpP (C:Cx) (D:List Lev) (F:List Nat):Item where
  fp:=F
  holds w:=(∀ b,b∈F→b < w.heap.size)∧∀ e,e∈D→LvC C F e w
  keep w w' h hw:=⟨Zey h hw.1,fun e he=>(hw.2 e he).keep h⟩
  low w hw:=hw.1
section
variable {C:Cx} {D:List Lev} {F:List Nat} {e:Lev} {w:World}
theorem Zz0 (C:Cx) (w:World):(cpP C [] []).holds w:=⟨by simp,by simp⟩
theorem Zz1 (h:(cpP C D F).holds w) (he:e∈D):((EA .i64).ty.sl).rep (C.LV e.n) [e.vl] F w:=(h.2 e he).1
theorem Zz2 {F1:List Nat} (h:(cpP C D F).holds w) (h1:LvC C F1 e w) (hl:∀ b,b∈F1→b < w.heap.size):(cpP C (D++[e]) (F++F1)).holds w:=by
  have hl':∀ b,b∈F++F1→b < w.heap.size:=fun b hb=>(ZE4.1 hb).elim (h.1 b) (hl b)
  refine⟨hl',fun x hx=>?_⟩
  rcases ZE4.1 hx with q | q
  · exact(h.2 x q).more (fun b hb=>ZFi _ hb) hl'
  · obtain rfl:x=e:=by simpa using q
    exact h1.more (fun b hb=>ZFj _ hb) hl'
theorem Zmw {D1 D2:List Lev} {F1:List Nat} {e':Lev} (h:(cpP C (D1++e::D2) F).holds w) (hl:∀ b,b∈F1→b < w.heap.size) (h1:LvC C F e w→LvC C (F++F1) e' w):(cpP C (D1++e'::D2) (F++F1)).holds w:=by
  have hl':∀ b,b∈F++F1→b < w.heap.size:=fun b hb=>(ZE4.1 hb).elim (h.1 b) (hl b)
  refine⟨hl',fun x hx=>?_⟩
  have up:∀ x,x∈D1++e::D2→LvC C (F++F1) x w:=fun x hx=>(h.2 x hx).more (fun b hb=>ZFi _ hb) hl'
  rcases ZE4.1 hx with q | q
  · exact up x (ZFi _ q)
  · rcases ZEt.1 q with rfl | q
    · exact h1 (h.2 e (by simp))
    · exact up x (ZFj _ (ZTd _ q))
end
section
variable {C:Cx} {D:List Lev} {F:List Nat} {e:Lev} {w:World} {n:Int}
theorem Zz3 (h:(cpP C D F).holds w) (he:e∈D) (hn:e.n=n):((EA .i64).ty.sl).rep (C.LV n) [e.vl] F w:=hn ▸ Zz1 h he
theorem Zfl {α:Type} {t:Ty α} {xs:List α} {v:Value} {fp:List Nat} {w:World} (h:t.sl.rep xs [v] fp w):∃ A n c,v=.slice A n c:=by
  obtain ⟨A,c,e⟩:=Zc5 h
  exact⟨A,_,c,e⟩
theorem Zz4 (h:(cpP C D F).holds w) (he:e∈D) (hn:e.n=n):TLvl.rep ⟨C.LV n,C.PL n⟩ [e.vl,.map (some e.pb),e.vm,e.vc,e.vd,e.vk] F w:=by
  subst hn
  obtain ⟨h1,⟨h2,h3⟩,h4,h5,a3,b3,a4,b4,a5,b5⟩:=h.2 e he
  have two:∀ {d:Bool} {v:Value} {xs:List (List Int)}, (d=false→v=.slice none 0 0)→(d=true→(((EI .i64).ty.sl).sl).rep xs [v] F w)→∃ A n c,v=.slice A n c:=fun {d v xs} ha hb=>by
    cases q:d with
    | false=>exact⟨_,_,_,ha q⟩
    | true=>exact Zfl (hb q)
  exact Zzy h1 ⟨e.pb,rfl,h2,h.1,h3⟩ (two h4 h5) (two a3 b3) (two a4 b4) (two a5 b5)
end
theorem Zz5 {D:List Lev} {n:Int} {b:Nat} (h:Y0 (D.map Lev.key) n=some b):∃ e,e∈D∧e.n=n∧e.b=b:=by
  cases hf:J0 (D.map Lev.key) n 0 with
  | none=>rw [(Zcl hf).1] at h; cases h
  | some q =>
    obtain ⟨j,v⟩:=q
    obtain ⟨_,h1,h2,_⟩:=Zcm hf
    rw [h2] at h
    obtain rfl:v=b:=by simpa using h
    obtain ⟨e,he,e1⟩:=ZF9.1 (List.mem_of_getElem? h1)
    have e2:=congrArg Prod.fst e1
    have e3:=congrArg Prod.snd e1
    exact⟨e,he,e2,e3⟩
theorem Zz6 {D:List Lev} {n:Int} {b:Nat} (h:Y0 (D.map Lev.key) n=none):Yh (D.map Lev.key) n b=D.map Lev.key++[(n,b)]:=by
  cases hf:J0 (D.map Lev.key) n 0 with
  | none=>exact(Zcl hf).2.1 b
  | some q=>obtain ⟨j,v⟩:=q; rw [(Zcm hf).2.2.1] at h; cases h
section
variable {P:Program} {ops:Array Oper} {Q:Exit→Act→World→Prop} {n:Nat} {e:Env} {w w':World} {rest:List Oper}
variable {X:Nat→Prop} {w0:World} {M Ps:List Item}
variable {d ty:Nat} {pos:String} {af:Array Edge}
theorem Zz7 {α β:Type} [DecidableEq α] {kv:α→Value} {vv:β→Value} {t k el b:Nat} {l:List (α×β)} {x y:Operand} (kx:α) (z:Value) (hh:(Z1 kv vv b l).holds w) (K:KeyT P k kv) (ht:P.underlying t=some (.map k el)) (hz:Xt P el z)
    (hx:ev n e x=.map (some b)) (hy:ev n e y=kv kx) (h1:∀ c,Y0 l kx=some c→W P ops Q rest n (upd e d (.tuple #[vv c,.bool true])) w) (h0:Y0 l kx=none→W P ops Q rest n (upd e d (.tuple #[z,.bool false])) w) :
    W P ops Q (⟨some d,.lookup t x y true,ty,pos,af,none⟩::rest) n e w:=by
  obtain ⟨es,clock,g1,g2,g3⟩:=hh
  have hg:(getObj b).run P w=.ok (.map es clock) w:=by simp [getObj,Sem.run,g1]
  cases hf:J0 l kx 0 with
  | none =>
    refine Ym _ rfl rfl ?_ (h0 (Zcl hf).1)
    have hl:(ZT4 t (.map (some b)) (kv kx) true).run P w=.ok (.tuple #[z,.bool false]) w:=by
      simp only [ZT4,ZEq,run_underlying ht,ZEr,hg,ZEv,K.check,Zd1 K w kx es.toList l g2]
      simp [hf,Zil hz]
    simp [execOp,hx,hy,hl]
  | some q =>
    obtain ⟨j,v⟩:=q
    refine Ym _ rfl rfl ?_ (h1 v (Zcm hf).2.2.1)
    have hl:(ZT4 t (.map (some b)) (kv kx) true).run P w=.ok (.tuple #[vv v,.bool true]) w:=by
      simp only [ZT4,ZEq,run_underlying ht,ZEr,hg,ZEv,K.check,Zd1 K w kx es.toList l g2]
      simp [hf]
    simp [execOp,hx,hy,hl]
end
section
variable {X:Nat→Prop} {w0 w w':World} {M Ps:List Item}
theorem Ctx.turnMP (h : Ctx X w0 w M Ps) (k j : Nat) {it jt pt qt : Item} (hk : M[k]? = some it) (hj : Ps[j]? = some pt) (hB : BelO it.fp w w') (hh : jt.holds w') (hq : qt.holds w')
    (hf:∀ b,b∈jt.fp→b∈it.fp∨w.heap.size≤b) (hg:∀ b,b∈qt.fp→b∈pt.fp∨w.heap.size≤b) (hd:∀ b,b∈qt.fp→b∉jt.fp):Ctx X w0 w' (M.set k jt) (Ps.set j qt):=by
  have h1:=h.turn k hk hB.os hB.tape hB.output hB.size hB.drawn hB.old hh hf
  refine { h1 with p:=fun x hx=>?_,pd:=fun x hx b hb m hm=>?_ }
  · rcases ZJh hx with q | q
    · exact h1.p x q
    · subst q; exact hq
  · rcases ZJh hx with q | q
    · exact h1.pd x q b hb m hm
    · subst q
      rcases hg b hb with g | g
      · rcases ZJh hm with z | z
        · exact h.pd pt (List.mem_of_getElem? hj) b g m z
        · subst z; exact hd b hb
      · rcases ZJh hm with z | z
        · exact fun hbm=>absurd (m.low w (h.m m z) b hbm) (ZFc.2 g)
        · subst z; exact hd b hb
theorem Ctx.turnMPN (h:Ctx X w0 w M Ps) (k j:Nat) {it jt pt qt nt:Item} (hk:M[k]? = some it) (hj:Ps[j]? = some pt) (hB:BelO it.fp w w') (hh:jt.holds w') (hq:qt.holds w') (hn:nt.holds w')
    (hf:∀ b,b∈jt.fp→b∈it.fp∨w.heap.size≤b) (hg:∀ b,b∈qt.fp→b∈pt.fp∨w.heap.size≤b) (hd:∀ b,b∈qt.fp→b∉jt.fp) (hnf:∀ b,b∈nt.fp→w.heap.size≤b) (hnj:∀ b,b∈nt.fp→b∉jt.fp∧b∉qt.fp) :
    Ctx X w0 w' (nt::M.set k jt) (Ps.set j qt):=by
  have h1:=h.turnMP k j hk hj hB hh hq hf hg hd
  refine { h1 with m:=fun x hx=>?_,mfp:=fun x hx b hb=>?_,dis:=?_,pd:=fun x hx b hb m hm=>?_ }
  · rcases ZEt.1 hx with rfl | hx
    · exact hn
    · exact h1.m x hx
  · rcases ZEt.1 hx with rfl | hx
    · exact .inl (ZEy h.size (hnf b hb))
    · exact h1.mfp x hx b hb
  · refine ZFk.2 ⟨fun m hm x hx hxm=>?_,h1.dis⟩
    rcases ZJh hm with z | z
    · exact absurd (m.low w (h.m m z) x hxm) (ZFc.2 (hnf x hx))
    · subst z; exact(hnj x hx).1 hxm
  · rcases ZEt.1 hm with rfl | hm
    · intro hbm
      rcases ZJh hx with z | z
      · exact absurd (x.low w (h.p x z) b hb) (ZFc.2 (hnf b hbm))
      · subst z; exact(hnj b hbm).2 hb
    · exact h1.pd x hx b hb m hm
theorem Ctx.permM (h:Ctx X w0 w M Ps) {M':List Item} (hp:M.Perm M'):Ctx X w0 w M' Ps :=
  { h with
    m:=fun x hx=>h.m x (hp.mem_iff.2 hx)
    mfp:=fun x hx=>h.mfp x (hp.mem_iff.2 hx)
    dis:=(hp.pairwise_iff (fun {a b} hab x hx hx2=>hab x hx2 hx)).1 h.dis
    pd:=fun x hx b hb m hm=>h.pd x hx b hb m (hp.mem_iff.2 hm) }
theorem Zbd (b:Nat):PreW (BelB b) :=
  ⟨fun w=>⟨rfl,rfl,rfl,ZEw _,ZEw _,fun _ _ _=>rfl⟩,fun h k=>⟨k.os.trans h.os,k.tape.trans h.tape,k.output.trans h.output,ZEy h.size k.size,ZEy h.drawn k.drawn,fun c hc hne=>(k.old c (Nat.lt_of_lt_of_le hc h.size) hne).trans (h.old c hc hne)⟩⟩
end
def cpx (C : Cx) (lt mb : Nat) (D : List Lev) (F : List Nat) : Item where
  fp:=mb::(D.map (·.b)++F)
  holds w:=(Z1 (vvI .i64) vvP mb (D.map Lev.key)).holds w∧(lvB lt D).holds w∧(cpP C D F).holds w∧(mb∉D.map (·.b)∧mb∉F∧∀ b,b∈D.map (·.b)→b∉F)
  keep w w' h hw:=by
    refine⟨ZTe _ w w' (fun b hb=>h b ?_) hw.1,ZTe _ w w' (fun b hb=>h b (ZTd _ (ZFi _ hb))) hw.2.1,ZTe _ w w' (fun b hb=>h b (ZTd _ (ZFj _ hb))) hw.2.2.1,hw.2.2.2⟩
    obtain rfl:b=mb:=by simpa [Z1] using hb
    exact ZTq
  low w hw b hb := by
    rcases ZEt.1 hb with rfl | hb
    · exact ZTc _ w hw.1 b (by simp [Z1])
    · rcases ZE4.1 hb with hb | hb
      · exact ZTc _ w hw.2.1 b hb
      · exact ZTc _ w hw.2.2.1 b hb
def LvAt (D:List Lev) (n:Int) (b:Nat) (md cd:Bool):Prop:=∃ e,e∈D∧e.n=n∧e.b=b∧(md=true→e.md=true)∧(cd=true→e.c3=true∧e.c4=true∧e.c5=true)
structure Lev.Le (e e':Lev):Prop where
  n:e'.n=e.n
  b:e'.b=e.b
  md:e.md=true→e'.md=true
  c3:e.c3=true→e'.c3=true
  c4:e.c4=true→e'.c4=true
  c5:e.c5=true→e'.c5=true
theorem Lev.Le.refl (e:Lev):e.Le e:=⟨rfl,rfl,id,id,id,id⟩
theorem Lev.Le.trans {a b c:Lev} (h:a.Le b) (k:b.Le c):a.Le c:=⟨k.n.trans h.n,k.b.trans h.b,fun q=>k.md (h.md q),fun q=>k.c3 (h.c3 q),fun q=>k.c4 (h.c4 q),fun q=>k.c5 (h.c5 q)⟩
structure CpX (S:Nat→Prop) (D D':List Lev) (F F':List Nat):Prop where
  up:∀ e,e∈D→∃ e',e'∈D'∧e.Le e'
  dn:∀ e',e'∈D'→¬ S e'.b→e'.c3=true→(e'.c4=true∧e'.c5=true)∨∃ e,e∈D∧e.b=e'.b∧e.c3=true∧(e.c4=true→e'.c4=true)∧(e.c5=true→e'.c5=true)
  fp:∀ x,x∈F→x∈F'
abbrev CpLe (D D':List Lev) (F F':List Nat):Prop:=CpX (fun _=>False) D D' F F'
def Zfm (D:List Lev):Prop:=∀ e,e∈D→e.c3=true→e.c4=true∧e.c5=true
theorem CpX.refl {S:Nat→Prop} (D:List Lev) (F:List Nat):CpX S D D F F:=⟨fun e he=>⟨e,he,.refl e⟩,fun e he _ h3=>.inr ⟨e,he,rfl,h3,id,id⟩,fun _ h=>h⟩
theorem CpX.trans {S:Nat→Prop} {D D' D2:List Lev} {F F' F2:List Nat} (h:CpX S D D' F F') (k:CpX S D' D2 F' F2):CpX S D D2 F F2:=by
  refine⟨fun e he=>?_,fun e he hs h3=>?_,fun x hx=>k.fp x (h.fp x hx)⟩
  · obtain ⟨e1,h1,h2⟩:=h.up e he
    obtain ⟨e2,k1,k2⟩:=k.up e1 h1
    exact⟨e2,k1,h2.trans k2⟩
  · rcases k.dn e he hs h3 with q | ⟨e1,h1,h2,q3,h4,h5⟩
    · exact .inl q
    · rcases h.dn e1 h1 (h2 ▸ hs) q3 with q | ⟨e2,k1,k2,k3,k4,k5⟩
      · exact .inl ⟨h4 q.1,h5 q.2⟩
      · exact .inr ⟨e2,k1,k2.trans h2,k3,fun q=>h4 (k4 q),fun q=>h5 (k5 q)⟩
theorem CpX.some {S T:Nat→Prop} {D D':List Lev} {F F':List Nat} (h:CpX S D D' F F') (hs:∀ b,S b→T b):CpX T D D' F F':=⟨h.up,fun e he ht h3=>h.dn e he (fun q=>ht (hs _ q)) h3,h.fp⟩
theorem CpX.done {S:Nat→Prop} {D D':List Lev} {F F':List Nat} (h:CpX S D D' F F') (hd:∀ e,e∈D'→S e.b→e.c4=true∧e.c5=true):CpLe D D' F F' :=
  ⟨h.up,fun e he _ h3=>by
    by_cases q:S e.b
    · exact .inl (hd e he q)
    · exact h.dn e he q h3,h.fp⟩
theorem CpX.rest {D D':List Lev} {F F':List Nat} (h:CpLe D D' F F') (hr:Zfm D):Zfm D':=fun e he hc=>by
  rcases h.dn e he id hc with q | ⟨e1,h1,h2,h3,h4,h5⟩
  · exact q
  · exact⟨h4 (hr e1 h1 h3).1,h5 (hr e1 h1 h3).2⟩
theorem Zz8:Zfm []:=fun _ h=>by cases h
theorem LvAt.up {S:Nat→Prop} {D D':List Lev} {F F':List Nat} {n:Int} {b:Nat} {md cd:Bool} (h:LvAt D n b md cd) (k:CpX S D D' F F'):LvAt D' n b md cd:=by
  obtain ⟨e,h1,h2,h3,h4,h5⟩:=h
  obtain ⟨e1,k1,k2⟩:=k.up e h1
  exact⟨e1,k1,k2.n.trans h2,k2.b.trans h3,fun q=>k2.md (h4 q),fun q=>⟨k2.c3 (h5 q).1,k2.c4 (h5 q).2.1,k2.c5 (h5 q).2.2⟩⟩
section
variable {C:Cx} {lt mb:Nat} {D:List Lev} {F:List Nat} {w:World} {n:Int} {b:Nat} {md cd:Bool}
theorem Zz9 (h:(Z1 (vvI .i64) vvP mb ([]:List (Int×Nat))).holds w):(cpx C lt mb [] []).holds w:=⟨h,Zqx _ _,Zz0 _ _,by simp⟩
theorem Zmx (h:(cpx C lt mb D F).holds w) (hl:LvAt D n b md cd):∃ v0 v1 v2 v3 v4 v5,(blk b lt [v0,v1,v2,v3,v4,v5]).holds w∧((EA .i64).ty.sl).rep (C.LV n) [v0] F w∧(md=true→(((EI .i64).ty.sl).sl).rep (C.MX n) [v2] F w) ∧
    (cd=true→(((EI .i64).ty.sl).sl).rep (C.CL n) [v3] F w∧(((EI .i64).ty.sl).sl).rep (C.BD n) [v4] F w∧(((EI .i64).ty.sl).sl).rep (C.KL n) [v5] F w):=by
  obtain ⟨e,h1,rfl,rfl,h2,h3⟩:=hl
  obtain ⟨g1,g2,g3,g4,_,b3,_,b4,_,b5⟩:=h.2.2.1.2 e h1
  exact⟨_,_,_,_,_,_,Zdl h.2.1 h1,g1,fun q=>g4 (h2 q),fun q=>⟨b3 (h3 q).1,b4 (h3 q).2.1,b5 (h3 q).2.2⟩⟩
theorem ZAa (h:(cpx C lt mb D F).holds w) (hl:LvAt D n b md cd):∃ v0 v1 v2 v3 v4 v5,(blk b lt [v0,v1,v2,v3,v4,v5]).holds w∧∃ A m c,v2=.slice A m c∧∀ a,A=some a→LvAt D n b true cd:=by
  obtain ⟨e,h1,rfl,rfl,h2,h3⟩:=hl
  obtain ⟨g1,g2,g3,g4,_⟩:=h.2.2.1.2 e h1
  refine⟨_,_,_,_,_,_,Zdl h.2.1 h1,?_⟩
  cases q:e.md with
  | false=>exact⟨none,0,0,g3 q,fun a e1=>by cases e1⟩
  | true =>
    obtain ⟨A,m,c,e1⟩:=Zfl (g4 q)
    exact⟨A,m,c,e1,fun a _=>⟨e,h1,rfl,rfl,fun _=>q,h3⟩⟩
theorem Zei {x:Nat} (h:x∈F):x∈(cpx C lt mb D F).fp:=ZTd _ (ZFj _ h)
theorem Zc0:mb∈(cpx C lt mb D F).fp:=ZTq
end
section
variable {X:Nat→Prop} {w0 w w':World} {M Ps:List Item}
theorem Ctx.focus {C : Cx} {lt mb : Nat} {D : List Lev} {F : List Nat} {n : Int} {b : Nat} {md cd : Bool} (h : Ctx X w0 w (cpx C lt mb D F :: M) Ps) (hl : LvAt D n b md cd) :
    ∃ (D1 D2 : List Lev) (ev : Lev), D = D1 ++ ev :: D2 ∧ ev.n = n ∧ ev.b = b ∧ (∀ x, x ∈ F → w0.heap.size ≤ x ∨ X x) ∧
      Ctx X w0 w (blk b lt [ev.vl,.map (some ev.pb),ev.vm,ev.vc,ev.vd,ev.vk]::lvB lt (D1++D2)::Z1 (vvI .i64) vvP mb ((D1++ev::D2).map Lev.key)::M) (cpP C (D1++ev::D2) F::Ps):=by
  obtain ⟨ev,he,rfl,rfl,_,_⟩:=hl
  obtain ⟨D1,D2,rfl⟩:=List.append_of_mem he
  have hx:=h.m _ ZTq
  obtain ⟨q1,q2,q3⟩:=Zmu hx.2.1
  have fx:=h.mfp _ ZTq
  obtain ⟨d1,d2⟩:=ZFk.1 h.dis
  have inB:∀ x,x∈(lvB lt (D1++D2)).fp→x∈(D1++ev::D2).map (·.b):=fun x hx=>by
    obtain ⟨z,hz,rfl⟩:=ZF9.1 hx
    refine ZF9.2 ⟨z,?_,rfl⟩
    rcases ZE4.1 hz with q | q
    · exact ZFi _ q
    · exact ZFj _ (ZTd _ q)
  have inE:∀ x,x∈(blk ev.b lt ev.cells).fp→x∈(D1++ev::D2).map (·.b):=fun x hx=>by
    obtain rfl:x=ev.b:=by simpa [blk] using hx
    exact ZF9.2 ⟨ev,by simp,rfl⟩
  have inM:∀ x,x∈(Z1 (vvI .i64) vvP mb ((D1++ev::D2).map Lev.key)).fp→x=mb:=fun x hx=>by simpa [Z1] using hx
  have upD:∀ x,x∈(D1++ev::D2).map (·.b)→x∈(cpx C lt mb (D1++ev::D2) F).fp:=fun x hx=>ZTd _ (ZFi _ hx)
  have upI:∀ it,it=blk ev.b lt ev.cells∨it=lvB lt (D1++D2)∨it=Z1 (vvI .i64) vvP mb ((D1++ev::D2).map Lev.key)→∀ x,x∈it.fp→x∈(cpx C lt mb (D1++ev::D2) F).fp:=by
    rintro it (rfl | rfl | rfl) x hx
    · exact upD x (inE x hx)
    · exact upD x (inB x hx)
    · rw [inM x hx]; exact Zc0
  refine⟨D1,D2,ev,rfl,rfl,rfl,fun x hx=>fx x (Zei hx),{ h with m:=?_,p:=?_,mfp:=?_,dis:=?_,pd:=?_ }⟩
  · intro it hi
    rcases ZEt.1 hi with rfl | hi
    · exact q1
    · rcases ZEt.1 hi with rfl | hi
      · exact q2
      · rcases ZEt.1 hi with rfl | hi
        · exact hx.1
        · exact h.m it (ZTd _ hi)
  · intro it hi
    rcases ZEt.1 hi with rfl | hi
    · exact hx.2.2.1
    · exact h.p it hi
  · intro it hi x hxf
    rcases ZEt.1 hi with q | hi
    · exact fx x (upI it (.inl q) x hxf)
    · rcases ZEt.1 hi with q | hi
      · exact fx x (upI it (.inr (.inl q)) x hxf)
      · rcases ZEt.1 hi with q | hi
        · exact fx x (upI it (.inr (.inr q)) x hxf)
        · exact h.mfp it (ZTd _ hi) x hxf
  · refine ZFk.2 ⟨fun it hi x hxe hxi=>?_,ZFk.2 ⟨fun it hi x hxe hxi=>?_,ZFk.2 ⟨fun it hi x hxe hxi=>?_,d2⟩⟩⟩
    · rcases ZEt.1 hi with rfl | hi
      · exact q3 x hxe hxi
      · rcases ZEt.1 hi with rfl | hi
        · rw [inM x hxi] at hxe; exact hx.2.2.2.1 (inE _ hxe)
        · exact d1 it hi x (upI _ (.inl rfl) x hxe) hxi
    · rcases ZEt.1 hi with rfl | hi
      · rw [inM x hxi] at hxe; exact hx.2.2.2.1 (inB _ hxe)
      · exact d1 it hi x (upI _ (.inr (.inl rfl)) x hxe) hxi
    · exact d1 it hi x (upI _ (.inr (.inr rfl)) x hxe) hxi
  · intro it hi x hxi m hm hxm
    have key:∀ it,it∈Ps→∀ x,x∈it.fp→∀ m,m=blk ev.b lt ev.cells∨m=lvB lt (D1++D2)∨m=Z1 (vvI .i64) vvP mb ((D1++ev::D2).map Lev.key)→x∉m.fp:=fun it hi x hxi m hm hxm=>h.pd it hi x hxi _ ZTq (upI m hm x hxm)
    have kF:∀ x,x∈F→∀ m,m=blk ev.b lt ev.cells∨m=lvB lt (D1++D2)∨m=Z1 (vvI .i64) vvP mb ((D1++ev::D2).map Lev.key)→x∉m.fp:=by
      rintro x hxF m (rfl | rfl | rfl) hxm
      · exact hx.2.2.2.2.2 x (inE x hxm) hxF
      · exact hx.2.2.2.2.2 x (inB x hxm) hxF
      · rw [inM x hxm] at hxF; exact hx.2.2.2.2.1 hxF
    have rest:∀ m,m∈M→x∉m.fp:=fun m hm hxm=>by
      rcases ZEt.1 hi with rfl | hi
      · exact d1 m hm x (Zei hxi) hxm
      · exact h.pd it hi x hxi m (ZTd _ hm) hxm
    have front:∀ m,m=blk ev.b lt ev.cells∨m=lvB lt (D1++D2)∨m=Z1 (vvI .i64) vvP mb ((D1++ev::D2).map Lev.key)→x∉m.fp:=fun m hm=>by
      rcases ZEt.1 hi with rfl | hi
      · exact kF x hxi m hm
      · exact key it hi x hxi m hm
    rcases ZEt.1 hm with q | hm
    · exact front m (.inl q) hxm
    · rcases ZEt.1 hm with q | hm
      · exact front m (.inr (.inl q)) hxm
      · rcases ZEt.1 hm with q | hm
        · exact front m (.inr (.inr q)) hxm
        · exact rest m hm hxm
theorem ZAb {D1 D2 new:List Lev} {ev v:Lev} (h:v∈(D1++ev::D2)++new) (hne:v≠ev):v∈(D1++D2)++new:=by
  simp only [ZE4,ZEt] at h ⊢
  rcases h with (h | h | h) | h
  · exact .inl (.inl h)
  · exact absurd h hne
  · exact .inl (.inr h)
  · exact .inr h
theorem ZAc (n:Int):ZHd.wrap (n+1)≠n:=by
  rw [ZT3]; omega
theorem ZAd {C : Cx} {lt mb a e : Nat} {D1 D2 new : List Lev} {ev : Lev} {n : Int} {b : Nat} {v : Value} {F F1 f : List Nat} {w : World}
    (hm:(Z1 (vvI .i64) vvP mb (((D1++ev::D2)++new).map Lev.key)).holds w) (hl:(lvB lt ((D1++D2)++new)).holds w) (hb:(blk b lt [ev.vl,.map (some ev.pb),v,ev.vc,ev.vd,ev.vk]).holds w)
    (hp:(cpP C ((D1++ev::D2)++new) (F++F1)).holds w) (ht:(ZM4 (ZTa a (ZTa e (EI .i64).tr)) (C.MX n) [v] f).holds w) (hn:ev.n=n) (hbb:ev.b=b)
    (d1:∀ x,x∈(Z1 (vvI .i64) vvP mb (((D1++ev::D2)++new).map Lev.key)).fp→x∉(blk b lt [ev.vl,.map (some ev.pb),v,ev.vc,ev.vd,ev.vk]).fp)
    (d2:∀ x,x∈(Z1 (vvI .i64) vvP mb (((D1++ev::D2)++new).map Lev.key)).fp→x∉(lvB lt ((D1++D2)++new)).fp)
    (d3:∀ x,x∈(Z1 (vvI .i64) vvP mb (((D1++ev::D2)++new).map Lev.key)).fp→x∉f)
    (d4:∀ x,x∈(blk b lt [ev.vl,.map (some ev.pb),v,ev.vc,ev.vd,ev.vk]).fp→x∉(lvB lt ((D1++D2)++new)).fp)
    (d5:∀ x,x∈(blk b lt [ev.vl,.map (some ev.pb),v,ev.vc,ev.vd,ev.vk]).fp→x∉f) (d6:∀ x,x∈(lvB lt ((D1++D2)++new)).fp→x∉f)
    (p1:∀ x,x∈F++F1→x∉(Z1 (vvI .i64) vvP mb (((D1++ev::D2)++new).map Lev.key)).fp) (p2:∀ x,x∈F++F1→x∉(blk b lt [ev.vl,.map (some ev.pb),v,ev.vc,ev.vd,ev.vk]).fp)
    (p3:∀ x,x∈F++F1→x∉(lvB lt ((D1++D2)++new)).fp) (hnw:∀ z,z∈new→z.c3=false) :
    ∃ (D' : List Lev) (F' : List Nat), CpLe (D1 ++ ev :: D2) D' F F' ∧ LvAt D' n b true false ∧ (cpx C lt mb D' F').holds w ∧
      ∀ x,x∈(cpx C lt mb D' F').fp→x∈(Z1 (vvI .i64) vvP mb (((D1++ev::D2)++new).map Lev.key)).fp∨x∈(blk b lt [ev.vl,.map (some ev.pb),v,ev.vc,ev.vd,ev.vk]).fp∨x∈(lvB lt ((D1++D2)++new)).fp∨x∈F∨x∈F1∨x∈f:=by
  subst hn hbb
  have e1:(D1++ev::D2)++new=D1++ev::(D2++new):=by simp
  have e2:(D1++D2)++new=D1++(D2++new):=by simp
  rw [e1] at hm hp d1 d2 d3 p1
  rw [e2] at hl d2 d4 d6 p3
  rw [e1,e2]
  have hmb:mb∈(Z1 (vvI .i64) vvP mb ((D1++ev::(D2++new)).map Lev.key)).fp:=by simp [Z1]
  have inS:∀ x,x∈(D1++({ ev with vm:=v,md:=true }:Lev)::(D2++new)).map (·.b)→x=ev.b∨x∈(lvB lt (D1++(D2++new))).fp:=fun x hx=>by
    obtain ⟨z,hz,rfl⟩:=ZF9.1 hx
    rcases ZE4.1 hz with q | q
    · exact .inr (ZF9.2 ⟨z,ZFi _ q,rfl⟩)
    · rcases ZEt.1 q with rfl | q
      · exact .inl rfl
      · exact .inr (ZF9.2 ⟨z,ZFj _ q,rfl⟩)
  have hbm:ev.b∈(blk ev.b lt [ev.vl,.map (some ev.pb),v,ev.vc,ev.vd,ev.vk]).fp:=by simp [blk]
  have hlow:∀ x,x∈f→x < w.heap.size:=fun x hx=>ZTc _ w ht x hx
  refine⟨D1++{ ev with vm:=v,md:=true }::(D2++new),(F++F1)++f,⟨fun z hz=>?_,fun z hz _ h3=>?_,fun x hx=>ZFi _ (ZFi _ hx)⟩,⟨{ ev with vm:=v,md:=true }, by simp,rfl,rfl,fun _=>rfl,fun q=>(ZTl q).elim⟩,⟨?_,?_,?_,?_,?_,?_⟩,?_⟩
  · rcases ZE4.1 hz with q | q
    · exact⟨z,ZFi _ q,.refl z⟩
    · rcases ZEt.1 q with rfl | q
      · exact⟨{ z with vm:=v,md:=true }, ZFj _ ZTq,rfl,rfl,fun _=>rfl,id,id,id⟩
      · exact⟨z,ZFj _ (ZTd _ (ZFi _ q)),.refl z⟩
  · rcases ZE4.1 hz with q | q
    · exact .inr ⟨z,ZFi _ q,rfl,h3,id,id⟩
    · rcases ZEt.1 q with rfl | q
      · exact .inr ⟨ev,by simp,rfl,h3,id,id⟩
      · rcases ZE4.1 q with q | q
        · exact .inr ⟨z,ZFj _ (ZTd _ q),rfl,h3,id,id⟩
        · exact absurd h3 (by rw [hnw z q]; exact ZTl)
  · have:(D1++({ ev with vm:=v,md:=true }:Lev)::(D2++new)).map Lev.key=(D1++ev::(D2++new)).map Lev.key:=by simp [Lev.key]
    rw [this]; exact hm
  · exact Zmv hb hl d4
  · refine Zmw (e:=ev) (e':={ ev with vm:=v,md:=true }) hp hlow fun hc=>?_
    obtain ⟨h1,⟨h2,h3⟩,h4,h5,h6⟩:=hc.more (F':=(F++F1)++f) (fun b hb=>ZFi _ hb) (fun b hb=>(ZE4.1 hb).elim (hp.1 b) (hlow b))
    exact⟨h1,⟨h2,h3⟩,fun q=>(Bool.noConfusion q),fun _=>ZTp _ (Tr.trep _ ht.1) (fun b hb=>ZFj _ hb) (fun b hb=>(ZE4.1 hb).elim (hp.1 b) (hlow b)),h6⟩
  · intro q
    rcases inS _ q with q | q
    · exact d1 mb hmb (q ▸ hbm)
    · exact d2 mb hmb q
  · intro q
    rcases ZE4.1 q with q | q
    · exact p1 mb q hmb
    · exact d3 mb hmb q
  · intro x hx q
    rcases inS x hx with rfl | hx
    · rcases ZE4.1 q with q | q
      · exact p2 _ q hbm
      · exact d5 _ hbm q
    · rcases ZE4.1 q with q | q
      · exact p3 _ q hx
      · exact d6 _ hx q
  · intro x hx
    rcases ZEt.1 hx with rfl | hx
    · exact .inl hmb
    · rcases ZE4.1 hx with q | q
      · rcases inS x q with rfl | q
        · exact .inr (.inl hbm)
        · exact .inr (.inr (.inl q))
      · rcases ZE4.1 q with q | q
        · rcases ZE4.1 q with q | q
          · exact .inr (.inr (.inr (.inl q)))
          · exact .inr (.inr (.inr (.inr (.inl q))))
        · exact .inr (.inr (.inr (.inr (.inr q))))
theorem Ctx.anyX (h:Ctx X w0 w M Ps) (k:Nat) {it:Item} (hk:M[k]? = some it):∀ b,b∈it.fp→w0.heap.size≤b∨X b:=h.mfp it (List.mem_of_getElem? hk)
theorem Zqz {b:Nat} (h:Bel w w'):BelB b w w':=⟨h.os,h.tape,h.output,h.size,h.drawn,fun c hc _=>h.block c hc⟩
theorem ZAe {P:Program} {Q:Exit→Act→World→Prop} {l:List Oper} {n:Nat} {e:Env} (b:Nat) {id:Nat} (m:Nat) (hm:P.follows .mixedOrders=true) (rows lk lf:List Nat) (hro:Zdv l rows=true) (hk:lk.all (Za8 rows l m)=true) (hf:lf.all (Za8 rows l l.length)=true)
    (h:(∀ i,lk.contains i=true→X5 .any l.toArray m i=true)→(∀ i,lf.contains i=true→X5 .any l.toArray l.toArray.size i=true)→∀ w',Bel w w'→AE (BelB b) P .any l.toArray Q m n l.length (ZEs l.length false).toArray e w'):(Code.region id l.toArray true).wp P Q (actOf n e) w:=by
  refine wp_region_any hm ?_
  have:=(h (fun i hi=>Ze3 hro (ZFn.1 hk i (by simpa using hi))) (fun i hi=>Ze3 (m:=l.length) hro (ZFn.1 hf i (by simpa using hi))) { w with drawn:=w.drawn+1 } ⟨⟨rfl,rfl,rfl,ZEw _,fun _ _=>rfl⟩,Nat.le_succ _⟩).out (Zlb _)
  have h2:=Zk9 _ _ _ _ this
  simpa using h2
theorem BelB.belO {b:Nat} {l:List Nat} (h:BelB b w w') (hb:b∈l):BelO l w w':=⟨h.os,h.tape,h.output,h.size,h.drawn,fun c hc hn=>h.old c hc (fun e=>hn (e ▸ hb))⟩
end
end Vc
set_option maxRecDepth 4000
set_option maxHeartbeats 4000000
namespace Go.Proofs.YtaagfepgbofmlaaGreat
open Go Go.RowKit Vc
variable {b0 bp0 b1 bp1 b2 bp2 b3 bp3 b4 bp4 b5 bp5 b6 bp6 b7 bp7 mb0:Nat} {u0_0 u0_1 u0_2 u0_3 u0_4 u0_5 u1_0 u1_1 u1_2 u1_3 u1_4 u1_5 u2_0 u2_1 u2_2 u2_3 u2_4 u2_5 u3_0 u3_1 u3_2 u3_3 u3_4 u3_5 u4_0 u4_1 u4_2 u4_3 u4_4 u4_5 u5_0 u5_1 u5_2 u5_3 u5_4 u5_5 u6_0 u6_1 u6_2 u6_3 u6_4 u6_5 u7_0 u7_1 u7_2 u7_3 u7_4 u7_5:Value} {fp0 fp1 fp2 fp3 fp4 fp5 fp6 fp7 fp0_0 fp0_1 fp0_2 fp0_3 fp0_4 fp0_5 fp1_0 fp1_1 fp1_2 fp1_3 fp1_4 fp1_5 F0:List Nat} {D0:List Lev}
theorem sc122:ScaT ZMq 122:=⟨⟨_,ZTh,rfl⟩,by kernel_rfl⟩
theorem ZAf (x0:Value) (x1:Int) (hx0:Zd2 x0) (w:World):(Instr.build 187 #[(0,x0),(1,.int .i64 x1)]).run ZMq w=.ok (.agg #[x0,.int .i64 x1,.slice none 0 0]) w:=by obtain ⟨_,_,_,rfl⟩:=hx0; kernel_rfl
theorem sc123:ScaT ZMq 123:=⟨⟨_,ZT5,rfl⟩,by kernel_rfl⟩
theorem z3:Xt ZMq 3 (.int .i64 0):=by unfold Xt; kernel_rfl
def f_impl_lister_from (fu_:Nat) (a0:List Int×Int×List A8) (a1:Int) (a2:A8) (a3:Int) (K:List A8→Prop):Prop :=
 match fu_ with
 | 0=>False
 | fu_+1=>(if(a0.2.2.length:Int) > a0.2.1 then K a0.2.2 else(if a1=(a0.1.length:Int) then(if a3=0 then(Z7 (a0.2.2.length+1) 64∧K (a0.2.2++[a2])) else K a0.2.2) else((0≤a1∧a1 < (a0.1.length:Int))∧((a0.1.getD a1.toNat ZEx)≠0∧(if ZFo (a0.1.getD a1.toNat ZEx) 2=1 then Xh (fun (s10:A8×(List A8)×Int) nx10=>(if s10.2.2≥0 then((0≤a1∧a1 < 8)∧f_impl_lister_from fu_ (⟨a0.1,a0.2.1,s10.2.1⟩:List Int×Int×List A8) (ZHd.wrap (a1+1)) (s10.1.set a1.toNat s10.2.2) (ZHd.wrap (a3 - (ZHd.wrap (s10.2.2 * (a0.1.getD a1.toNat ZEx))))) (fun m10=>nx10 (s10.1.set a1.toNat s10.2.2,m10,ZHd.wrap (s10.2.2 - 1)))) else K s10.2.1)) (a2,a0.2.2,(if 1 < (if 20 < ZHd.wrap (ZTb a3 (a0.1.getD a1.toNat ZEx)) then 20 else ZHd.wrap (ZTb a3 (a0.1.getD a1.toNat ZEx))) then 1 else(if 20 < ZHd.wrap (ZTb a3 (a0.1.getD a1.toNat ZEx)) then 20 else ZHd.wrap (ZTb a3 (a0.1.getD a1.toNat ZEx))))) else Xh (fun (s11:A8×(List A8)×Int) nx11=>(if s11.2.2≥0 then((0≤a1∧a1 < 8)∧f_impl_lister_from fu_ (⟨a0.1,a0.2.1,s11.2.1⟩:List Int×Int×List A8) (ZHd.wrap (a1+1)) (s11.1.set a1.toNat s11.2.2) (ZHd.wrap (a3 - (ZHd.wrap (s11.2.2 * (a0.1.getD a1.toNat ZEx))))) (fun m11=>nx11 (s11.1.set a1.toNat s11.2.2,m11,ZHd.wrap (s11.2.2 - 1)))) else K s11.2.1)) (a2,a0.2.2,(if 20 < ZHd.wrap (ZTb a3 (a0.1.getD a1.toNat ZEx)) then 20 else ZHd.wrap (ZTb a3 (a0.1.getD a1.toNat ZEx)))))))))
theorem ZAg (fu_:Nat):∀ (a0:List Int×Int×List A8) (a1:Int) (a2:A8) (a3:Int) {b0:Nat} {u0_0:Value} {u0_2:Value} {fp0:List Nat} {K:List A8→Prop} (h:f_impl_lister_from fu_ a0 a1 a2 a3 K) (w0:World) (q0:(ZMm TInts a0.1 [u0_0] fp0).holds w0) (qb0:(blk b0 187 [u0_0,vI a0.2.1,u0_2]).holds w0) (qo0:(own 73 8 u0_2 a0.2.2.length ((EA .i64).encs a0.2.2)).holds w0) (db0:b0∉ZNm (ZFq u0_2)) (dq0:∀ b,b∈fp0→b∉b0::ZNm (ZFq u0_2)),
  Calls ZMq 159 #[vQ b0,vI a1,.agg (ZMl (ZMk .i64 a2)),vI a3] w0 fun e w'=>∃ (m0:List A8) (y0:Value),
   e=.returned (.tuple #[])∧K m0∧(blk b0 187 [u0_0,vI a0.2.1,y0]).holds w'∧(own 73 8 y0 m0.length ((EA .i64).encs m0)).holds w'∧(∀ b,b∈ZNm (ZFq y0)→b∈ZNm (ZFq u0_2)∨w0.heap.size≤b)∧BelO (b0::ZNm (ZFq u0_2)) w0 w':=by
 induction fu_ with
 | zero =>
  intro a0 a1 a2 a3 b0 u0_0 u0_2 fp0 K h w0 q0 qb0 qo0 db0 dq0
  exact False.elim h
 | succ fu_ ih_ =>
  intro a0 a1 a2 a3 b0 u0_0 u0_2 fp0 K h w0 q0 qb0 qo0 db0 dq0
  rw [f_impl_lister_from.eq_2] at h
  refine cof ZT6 rfl 74 Tryz.ntmps159 ?_
  have hC:=Ctx.startL w0 (b0::ZNm (ZFq u0_2)) [blk b0 187 [u0_0,vI a0.2.1,u0_2],own 73 8 u0_2 a0.2.2.length ((EA .i64).encs a0.2.2)] [ZMm TInts a0.1 [u0_0] fp0] (by simp only [ZEt,ZG2,or_false,forall_eq_or_imp,forall_eq]; exact⟨qb0,qo0⟩) (by simp only [ZEt,ZG2,or_false,forall_eq_or_imp,forall_eq]; exact q0) (fun it_ hi_ b_ hb_=>(ZEt.1 hi_).elim (fun e_=>by subst e_; exact ZEt.2 (.inl (ZF6.1 hb_))) (fun hi_=>by obtain rfl:=ZF6.1 hi_; exact ZTd _ hb_)) (ZFk.2 ⟨(fun it_ hi_ b_ hb_ hb2_=>by obtain rfl:=ZF6.1 hi_; exact db0 (ZF6.1 hb_ ▸ hb2_)),ZU4 _ _⟩) (fun it_ hi_ b_ hb_=>by obtain rfl:=ZF6.1 hi_; exact dq0 b_ hb_)
  refine sr (Yg (v:=.agg (ZMl (ZMk .i64 a2))) hC (ZMk .i64 a2) rfl rfl fun b4 w6 hB_ hC=>dn (ZMn (ZMn ?_)))
  refine cwd 9 Yi [0,1,3,7,15,0,32,96,224,511] [3,4,8] [0,1,2,5,6,7] (fun hM8 hM9 w7 hB_=>?_)
  replace hC:=hC.grow hB_
  refine bM 0 (vQ b0) rfl hM9 (Zb 10 1) (bF 1 (vQ b0) rfl rfl hM9 (fun _=>by exact Zae rfl) (Zb 10 3) (bF 2 (.pointer (some ⟨b0,2,none⟩)) rfl rfl hM9 (fun _=>by exact Yf 2 ZTj rfl sc122.size rfl rfl) (Zb 10 7) (bL 3 (u0_2) rfl rfl hM8 (fun _ hB_=>by exact Ya (hC.grow hB_) 1 (u0_2) rfl sc122 rfl rfl) (Zb 10 15) (bL 4 (vI (a0.2.2.length:Int)) rfl rfl hM8 (fun _ hB_=>by exact Zpj (hC.grow hB_) 2 rfl ZTh rfl) (Zb 10 31) (bM 5 (vQ b0) rfl hM9 (Zb 10 63) (bF 6 (vQ b0) rfl rfl hM9 (fun _=>by exact Zae rfl) (Zb 10 127) (bF 7 (.pointer (some ⟨b0,1,none⟩)) rfl rfl hM9 (fun _=>by exact Yf 1 ZTj rfl sc3.size rfl rfl) (Zb 10 255) (bL 8 (vI a0.2.1) rfl rfl hM8 (fun _ hB_=>by exact Ya (hC.grow hB_) 1 (vI a0.2.1) rfl sc3 rfl rfl) (Zb 10 511) (Zz 9 (by decide) (by decide) (by kernel_rfl) (by kernel_rfl) rfl (Jh rfl rfl (done (Z0 (Zd ?_)))))))))))))
  refine Zp rfl (fun hb10=>?_) (fun hb10=>?_)
  ·replace h:=ift h (ct hb10)
   refine ZMv (Zk ?_)
   exact Zck rfl  ⟨a0.2.2,u0_2,rfl,h,(hC.getM 1 rfl),(hC.getM 2 rfl),(fun b_ hb_=>(hC.mfk 2 rfl b_ hb_).elim .inr (fun q_=>(ZEt.1 q_).elim (fun e_=>absurd hb_ (fun hb_=>hC.mm 1 2 rfl rfl (by decide) b_ (ZF6.2 e_) hb_)) .inl)),hC.belO⟩ (.inl rfl)
  ·replace h:=Zj h (cf hb10)
   refine ZMr (Zd (ZMn (sr (Za (v:=vI a1) rfl (Za (v:=vQ b0) rfl (Xg rfl (Zu 0 ZTj rfl sc22.size rfl rfl (Z5 hC 1 (u0_0) rfl sc22 rfl rfl (Zv hC 0 rfl ZM6 rfl (Jg rfl rfl (dn ?_)))))))))))
   refine Zp rfl (fun hb11=>?_) (fun hb11=>?_)
   ·replace h:=ift h (ct hb11)
    refine ZMn (sr (Za (v:=vI a3) rfl (Jg rfl rfl (dn ?_))))
    refine Zp rfl (fun hb12=>?_) (fun hb12=>?_)
    ·replace h:=ift h (ct hb12)
     refine cwd 7 Yi [0,0,2,6,14,0,32,126,255,511,1023] [4,5] [0,1,2,3] (fun hM11 hM10 w10 hB_=>?_)
     replace hC:=hC.grow hB_
     refine bM 0 (vQ b0) rfl hM10 (Zb 11 1) (bM 1 (vQ b0) rfl hM10 (Zb 11 3) (bF 2 (vQ b0) rfl rfl hM10 (fun _=>by exact Zae rfl) (Zb 11 7) (bF 3 (.pointer (some ⟨b0,2,none⟩)) rfl rfl hM10 (fun _=>by exact Yf 2 ZTj rfl sc122.size rfl rfl) (Zb 11 15) (bL 4 (u0_2) rfl rfl hM11 (fun _ hB_=>by exact Ya (hC.grow hB_) 1 (u0_2) rfl sc122 rfl rfl) (Zb 11 31) (bL 5 (.agg (ZMl (ZMk .i64 a2))) rfl rfl hM11 (fun _ hB_=>by exact Xf (hC.grow hB_) 0 (ZMk .i64 a2) rfl ag73 rfl rfl rfl) (Zb 11 63) (aO 6 rfl (Y4 (sz:=8) hC [(0,.agg (ZMl (ZMk .i64 a2)))] ((EA .i64).encs [a2]) rfl (fun _=>Zvy a2 _) rfl (by decide) fun b10 w11 hB_ hC=>done (aK (by assumption) (Zb 11 127) (aO 7 rfl ?_)))))))))
     obtain ⟨hm10,h⟩:=h
     refine J7 hC 3 ZTh Zvz rfl (by decide) (by decide) rfl (Za7 (hC.getM 0 rfl)) (fun q hq=>Enc.encs_one' (E:=(EA .i64)) _ q hq) rfl rfl hm10 fun v12 w12 hC=>?_
     replace hC:=Xb hC 3 ((a0.2.2++[a2]).length) ((EA .i64).encs (a0.2.2++[a2])) rfl (by simp) (by first | (simp [ZNf]; done) | simp [ZNf,ZTu])
     refine done (Zf6 (by decide) (l9:=(Zb 11 255)) (by kernel_rfl) (Zz 8 (by decide) (by decide) (by kernel_rfl) (by kernel_rfl) rfl (Xg rfl (Zu 2 ZTj rfl sc122.size rfl rfl (Zx (v:=v12) hC 2 [v12] [u0_0,vI a0.2.1,v12] rfl sc122.size rfl rfl (Zb4 (hC.getM 3 rfl)) rfl (Xk (Xx (hC.getM 3 rfl)) rfl) (ZMw rfl) rfl fun w13 hC=>done (Z0 (Zd ?_)))))))
     refine ZMv (Zk ?_)
     exact Zck rfl  ⟨a0.2.2++[a2],v12,rfl,h,(hC.getM 2 rfl),(hC.getM 3 rfl),(fun b_ hb_=>(hC.mfk 3 rfl b_ hb_).elim .inr (fun q_=>(ZEt.1 q_).elim (fun e_=>absurd hb_ (fun hb_=>hC.mm 2 3 rfl rfl (by decide) b_ (ZF6.2 e_) hb_)) .inl)),hC.belO⟩ (.inl rfl)
    ·replace h:=Zj h (cf hb12)
     refine ZMr (Zd ?_)
     refine ZMv (Zk ?_)
     exact Zck rfl  ⟨a0.2.2,u0_2,rfl,h,(hC.getM 1 rfl),(hC.getM 2 rfl),(fun b_ hb_=>(hC.mfk 2 rfl b_ hb_).elim .inr (fun q_=>(ZEt.1 q_).elim (fun e_=>absurd hb_ (fun hb_=>hC.mm 1 2 rfl rfl (by decide) b_ (ZF6.2 e_) hb_)) .inl)),hC.belO⟩ (.inl rfl)
   ·replace h:=Zj h (cf hb11)
    refine ZMr (Zd (sr (Za (v:=vQ b0) rfl (Xg rfl (Zu 0 ZTj rfl sc22.size rfl rfl (Z5 hC 1 (u0_0) rfl sc22 rfl rfl (Za (v:=vI a1) rfl ?_)))))))
    obtain ⟨⟨h10,h11⟩,h⟩:=h
    obtain ⟨Ad10,c10,hv10⟩:=Zw (hC.getP 0 rfl) a1.toNat (show a1.toNat < a0.1.length by omega)
    refine Yo (len:=a0.1.length) ZM6 sc2.size (tr rfl hv10) rfl h10 h11 (Yl (vI (a0.1.getD a1.toNat ZEx)) (Ye (hC.getP 0 rfl) hv10 a1.toNat (show a1.toNat < a0.1.length by omega)) sc2 rfl (Zc (v:=vI (a0.1.getD a1.toNat ZEx)) rfl (dn (sr (Za (v:=vI a3) rfl (Za (v:=vI (a0.1.getD a1.toNat ZEx)) rfl ?_))))))
    obtain ⟨h12,h⟩:=h
    refine Zeu rfl rfl h12 (Zhn rfl rfl (Zc (v:=vI (if 20 < ZHd.wrap (ZTb a3 (a0.1.getD a1.toNat ZEx)) then 20 else ZHd.wrap (ZTb a3 (a0.1.getD a1.toNat ZEx)))) rfl (dn (ZMn (sr (Za (v:=vI (a0.1.getD a1.toNat ZEx)) rfl (Xr rfl rfl (by decide) (Jg rfl rfl (dn ?_)))))))))
    refine Zp rfl (fun hb13=>?_) (fun hb13=>?_)
    ·replace h:=ift h (ct hb13)
     refine Zg (Za (v:=vI (if 20 < ZHd.wrap (ZTb a3 (a0.1.getD a1.toNat ZEx)) then 20 else ZHd.wrap (ZTb a3 (a0.1.getD a1.toNat ZEx)))) rfl (Zhn rfl rfl (Zc (v:=vI (if 1 < (if 20 < ZHd.wrap (ZTb a3 (a0.1.getD a1.toNat ZEx)) then 20 else ZHd.wrap (ZTb a3 (a0.1.getD a1.toNat ZEx))) then 1 else(if 20 < ZHd.wrap (ZTb a3 (a0.1.getD a1.toNat ZEx)) then 20 else ZHd.wrap (ZTb a3 (a0.1.getD a1.toNat ZEx))))) rfl (dn (sr (Za (v:=vI (if 1 < (if 20 < ZHd.wrap (ZTb a3 (a0.1.getD a1.toNat ZEx)) then 20 else ZHd.wrap (ZTb a3 (a0.1.getD a1.toNat ZEx))) then 1 else(if 20 < ZHd.wrap (ZTb a3 (a0.1.getD a1.toNat ZEx)) then 20 else ZHd.wrap (ZTb a3 (a0.1.getD a1.toNat ZEx))))) rfl (Zc (v:=vI (if 1 < (if 20 < ZHd.wrap (ZTb a3 (a0.1.getD a1.toNat ZEx)) then 20 else ZHd.wrap (ZTb a3 (a0.1.getD a1.toNat ZEx))) then 1 else(if 20 < ZHd.wrap (ZTb a3 (a0.1.getD a1.toNat ZEx)) then 20 else ZHd.wrap (ZTb a3 (a0.1.getD a1.toNat ZEx))))) rfl (dn (ZMt ?_)))))))))
     refine X2 (S:=A8×(List A8)×Int) _ (fun s10 e_ w_=>∃ (v10:Value),Zt e_ [(0,vQ b0),(1,vI a1),(3,vI a3),(6,vQ b4),(8,vI (a0.1.getD a1.toNat ZEx)),(10,vI s10.2.2)]∧Ctx (fun c_=>c_∈b0::ZNm (ZFq u0_2)) w0 w_ [blk b4 73 (ZMk .i64 s10.1),blk b0 187 [u0_0,vI a0.2.1,v10],own 73 8 v10 s10.2.1.length ((EA .i64).encs s10.2.1)] [ZMm TInts a0.1 [u0_0] fp0]) ?_ (s0:=(a2,a0.2.2,(if 1 < (if 20 < ZHd.wrap (ZTb a3 (a0.1.getD a1.toNat ZEx)) then 20 else ZHd.wrap (ZTb a3 (a0.1.getD a1.toNat ZEx))) then 1 else(if 20 < ZHd.wrap (ZTb a3 (a0.1.getD a1.toNat ZEx)) then 20 else ZHd.wrap (ZTb a3 (a0.1.getD a1.toNat ZEx)))))) ?_ h
     ·clear hC h
      rintro s10 e_ w14 nx10 K10 ⟨v10,hS_,hC⟩ h hK10
      rw [ue hS_]
      refine ZMn (sr (Za (v:=vI s10.2.2) rfl (Zay rfl rfl (dn ?_))))
      refine Zp rfl (fun hb14=>?_) (fun hb14=>?_)
      ·replace h:=ift h (ct hb14)
       refine ZMr (Zd (ZMn (ZMt (sr (Za (v:=vI a1) rfl (Za (v:=vI s10.2.2) rfl ?_))))))
       obtain ⟨⟨h13,h14⟩,h⟩:=h
       refine Xm a1.toNat ZNa sc3.size rfl rfl h13 h14 (by omega) (Zx (v:=vI s10.2.2) hC 0 [vI s10.2.2] (ZMk .i64 (s10.1.set a1.toNat s10.2.2)) rfl sc3.size rfl rfl rfl rfl rfl (show a1.toNat < 8 by omega) (A8.enc_set _ _ _ (show a1.toNat < 8 by omega)) fun w15 hC=>dn (Zg (Za (v:=vQ b0) rfl (Za (v:=vI a1) rfl (Zo rfl rfl (Yp hC 0 (ZMk .i64 (s10.1.set a1.toNat s10.2.2)) rfl ag73 rfl rfl rfl (Za (v:=vI a3) rfl (Za (v:=vI s10.2.2) rfl (Za (v:=vI (a0.1.getD a1.toNat ZEx)) rfl (Js rfl rfl (Jx rfl rfl ?_)))))))))))
       replace hC:=hC.sM [1,2,0] (M':=[blk b0 187 [u0_0,vI a0.2.1,v10],own 73 8 v10 s10.2.1.length ((EA .i64).encs s10.2.1),blk b4 73 (ZMk .i64 (s10.1.set a1.toNat s10.2.2))]) (by decide) rfl
       refine Zf [vQ b0,vI (ZHd.wrap (a1+1)),.agg (ZMl (ZMk .i64 (s10.1.set a1.toNat s10.2.2))),vI (ZHd.wrap (a3 - (ZHd.wrap (s10.2.2 * (a0.1.getD a1.toNat ZEx)))))] _ ZT6 rfl rfl rfl (ih_ (⟨a0.1,a0.2.1,s10.2.1⟩:List Int×Int×List A8) (ZHd.wrap (a1+1)) (s10.1.set a1.toNat s10.2.2) (ZHd.wrap (a3 - (ZHd.wrap (s10.2.2 * (a0.1.getD a1.toNat ZEx))))) h _ (hC.getP 0 rfl) (hC.getM 0 rfl) (hC.getM 1 rfl) (fun hb_=>hC.mm 0 1 rfl rfl (by decide) _ (ZTg _) hb_) (fun b_ hb_ hb2_=>(ZEt.1 hb2_).elim (fun e_=>hC.pdk 0 0 rfl rfl b_ hb_ (ZF6.2 e_)) (fun hb2_=>hC.pdk 0 1 rfl rfl b_ hb_ hb2_))) ?_
       rintro _ w16 ⟨m10,v13,rfl,h,hm11,hm12,hm13,hB10⟩
       refine rt ?_
       replace hC:=hC.turnS hB10 hm11 hm12 hm13
       refine done (Zq (Zd (Zg (Za (v:=vI s10.2.2) rfl (Jx rfl rfl (Zc (v:=vI (ZHd.wrap (s10.2.2 - 1))) rfl (done ?_)))))))
       exact hK10 (s10.1.set a1.toNat s10.2.2,m10,ZHd.wrap (s10.2.2 - 1)) _ _ ⟨v13,(slq rfl),(hC.xM [2,0,1] rfl)⟩ h
      ·replace h:=Zj h (cf hb14)
       refine wp_exit (Zh (Zh (Zy ?_)))
       exact Zck rfl  ⟨s10.2.1,v10,rfl,h,(hC.getM 1 rfl),(hC.getM 2 rfl),(fun b_ hb_=>(hC.mfk 2 rfl b_ hb_).elim .inr (fun q_=>(ZEt.1 q_).elim (fun e_=>absurd hb_ (fun hb_=>hC.mm 1 2 rfl rfl (by decide) b_ (ZF6.2 e_) hb_)) .inl)),hC.belO⟩ (.inr rfl)
     ·skip
      exact⟨u0_2,(slq rfl),hC⟩
    ·replace h:=Zj h (cf hb13)
     refine ZMr (Zd (sr (Za (v:=vI (if 20 < ZHd.wrap (ZTb a3 (a0.1.getD a1.toNat ZEx)) then 20 else ZHd.wrap (ZTb a3 (a0.1.getD a1.toNat ZEx)))) rfl (Zc (v:=vI (if 20 < ZHd.wrap (ZTb a3 (a0.1.getD a1.toNat ZEx)) then 20 else ZHd.wrap (ZTb a3 (a0.1.getD a1.toNat ZEx)))) rfl (dn (ZMt ?_))))))
     refine X2 (S:=A8×(List A8)×Int) _ (fun s11 e_ w_=>∃ (v11:Value),Zt e_ [(0,vQ b0),(1,vI a1),(3,vI a3),(6,vQ b4),(8,vI (a0.1.getD a1.toNat ZEx)),(10,vI s11.2.2)]∧Ctx (fun c_=>c_∈b0::ZNm (ZFq u0_2)) w0 w_ [blk b4 73 (ZMk .i64 s11.1),blk b0 187 [u0_0,vI a0.2.1,v11],own 73 8 v11 s11.2.1.length ((EA .i64).encs s11.2.1)] [ZMm TInts a0.1 [u0_0] fp0]) ?_ (s0:=(a2,a0.2.2,(if 20 < ZHd.wrap (ZTb a3 (a0.1.getD a1.toNat ZEx)) then 20 else ZHd.wrap (ZTb a3 (a0.1.getD a1.toNat ZEx))))) ?_ h
     ·clear hC h
      rintro s11 e_ w17 nx11 K11 ⟨v11,hS_,hC⟩ h hK11
      rw [ue hS_]
      refine ZMn (sr (Za (v:=vI s11.2.2) rfl (Zay rfl rfl (dn ?_))))
      refine Zp rfl (fun hb15=>?_) (fun hb15=>?_)
      ·replace h:=ift h (ct hb15)
       refine ZMr (Zd (ZMn (ZMt (sr (Za (v:=vI a1) rfl (Za (v:=vI s11.2.2) rfl ?_))))))
       obtain ⟨⟨h15,h16⟩,h⟩:=h
       refine Xm a1.toNat ZNa sc3.size rfl rfl h15 h16 (by omega) (Zx (v:=vI s11.2.2) hC 0 [vI s11.2.2] (ZMk .i64 (s11.1.set a1.toNat s11.2.2)) rfl sc3.size rfl rfl rfl rfl rfl (show a1.toNat < 8 by omega) (A8.enc_set _ _ _ (show a1.toNat < 8 by omega)) fun w18 hC=>dn (Zg (Za (v:=vQ b0) rfl (Za (v:=vI a1) rfl (Zo rfl rfl (Yp hC 0 (ZMk .i64 (s11.1.set a1.toNat s11.2.2)) rfl ag73 rfl rfl rfl (Za (v:=vI a3) rfl (Za (v:=vI s11.2.2) rfl (Za (v:=vI (a0.1.getD a1.toNat ZEx)) rfl (Js rfl rfl (Jx rfl rfl ?_)))))))))))
       replace hC:=hC.sM [1,2,0] (M':=[blk b0 187 [u0_0,vI a0.2.1,v11],own 73 8 v11 s11.2.1.length ((EA .i64).encs s11.2.1),blk b4 73 (ZMk .i64 (s11.1.set a1.toNat s11.2.2))]) (by decide) rfl
       refine Zf [vQ b0,vI (ZHd.wrap (a1+1)),.agg (ZMl (ZMk .i64 (s11.1.set a1.toNat s11.2.2))),vI (ZHd.wrap (a3 - (ZHd.wrap (s11.2.2 * (a0.1.getD a1.toNat ZEx)))))] _ ZT6 rfl rfl rfl (ih_ (⟨a0.1,a0.2.1,s11.2.1⟩:List Int×Int×List A8) (ZHd.wrap (a1+1)) (s11.1.set a1.toNat s11.2.2) (ZHd.wrap (a3 - (ZHd.wrap (s11.2.2 * (a0.1.getD a1.toNat ZEx))))) h _ (hC.getP 0 rfl) (hC.getM 0 rfl) (hC.getM 1 rfl) (fun hb_=>hC.mm 0 1 rfl rfl (by decide) _ (ZTg _) hb_) (fun b_ hb_ hb2_=>(ZEt.1 hb2_).elim (fun e_=>hC.pdk 0 0 rfl rfl b_ hb_ (ZF6.2 e_)) (fun hb2_=>hC.pdk 0 1 rfl rfl b_ hb_ hb2_))) ?_
       rintro _ w19 ⟨m11,v14,rfl,h,hm14,hm15,hm16,hB11⟩
       refine rt ?_
       replace hC:=hC.turnS hB11 hm14 hm15 hm16
       refine done (Zq (Zd (Zg (Za (v:=vI s11.2.2) rfl (Jx rfl rfl (Zc (v:=vI (ZHd.wrap (s11.2.2 - 1))) rfl (done ?_)))))))
       exact hK11 (s11.1.set a1.toNat s11.2.2,m11,ZHd.wrap (s11.2.2 - 1)) _ _ ⟨v14,(slq rfl),(hC.xM [2,0,1] rfl)⟩ h
      ·replace h:=Zj h (cf hb15)
       refine wp_exit (Zh (Zh (Zy ?_)))
       exact Zck rfl  ⟨s11.2.1,v11,rfl,h,(hC.getM 1 rfl),(hC.getM 2 rfl),(fun b_ hb_=>(hC.mfk 2 rfl b_ hb_).elim .inr (fun q_=>(ZEt.1 q_).elim (fun e_=>absurd hb_ (fun hb_=>hC.mm 1 2 rfl rfl (by decide) b_ (ZF6.2 e_) hb_)) .inl)),hC.belO⟩ (.inr rfl)
     ·skip
      exact⟨u0_2,(slq rfl),hC⟩
def Zej (a0:List Int) (a1:Int) (a2:Int) (K:List A8→Bool→Prop):Prop :=
 (if a1≥0 then f_impl_lister_from 9 (⟨a0,a2,[]⟩:List Int×Int×List A8) 0 ZMs a1 (fun m10=>K m10 (decide ((m10.length:Int)≤a2))) else K [] (decide (0≤a2)))
theorem Zq0 (a0:List Int) (a1:Int) (a2:Int)  {K:List A8→Bool→Prop} (h:Zej a0 a1 a2 K) (w0:World) (q0:TInts.rep a0 [u0_0] fp0 w0) :
  Calls ZMq 100 #[u0_0,vI a1,vI a2] w0 fun e w'=>∃ (r0:List A8) (z0_0:Value) (fz0:List Nat) (r1:Bool),
   e=.returned (.tuple #[z0_0,.bool r1])∧K r0 r1∧(ZM4 (ZTa 73 ((EA .i64).tr)) r0 [z0_0] fz0).holds w'∧(∀ b,b∈fz0→w0.heap.size≤b)∧Bel w0 w':=by
 unfold Zej at h
 refine cof Tryz.func100 rfl 30 Tryz.ntmps100 ?_
 have hC:=Ctx.start (X:=Nox) w0 [ZMm TInts a0 [u0_0] fp0] (al1 q0)
 refine sr (Zc (v:=.slice none 0 0) rfl (Zc (v:=.bool false) rfl (dn (sr (Za (v:=u0_0) rfl (Za (v:=vI a2) rfl (J6 [(0,u0_0),(1,vI a2)] rfl (ZAf u0_0 a2 (Zb5 (hC.getP 0 rfl)) _) (Yg (v:=.agg #[u0_0,vI a2,.slice none 0 0]) hC [u0_0,vI a2,.slice none 0 0] rfl rfl fun b2 w4 hB_ hC=>Zc (v:=vQ b2) rfl (dn (ZMn (sr (Za (v:=vI a1) rfl (Zay rfl rfl (dn ?_))))))))))))))
 refine Zp rfl (fun hb5=>?_) (fun hb5=>?_)
 ·replace h:=ift h (ct hb5)
  refine Zg (Za (v:=vQ b2) rfl (J6 [] rfl (Zi8   _) (Za (v:=vI a1) rfl ?_)))
  replace hC:=hC.pushNil 73 8
  replace hC:=hC.sM [1,0] (M':=[blk b2 187 [u0_0,vI a2,.slice none 0 0],own 73 8 (.slice none 0 0) 0 ((EA .i64).encs [])]) (by decide) rfl
  refine Zf [vQ b2,vI 0,.agg (ZMl (ZMk .i64 ZMs)),vI a1] _ ZT6 rfl rfl rfl (ZAg 9 (⟨a0,a2,[]⟩:List Int×Int×List A8) 0 ZMs a1 h _ (hC.getP 0 rfl) (hC.getM 0 rfl) (hC.getM 1 rfl) (fun hb_=>hC.mm 0 1 rfl rfl (by decide) _ (ZTg _) hb_) (fun b_ hb_ hb2_=>(ZEt.1 hb2_).elim (fun e_=>hC.pdk 0 0 rfl rfl b_ hb_ (ZF6.2 e_)) (fun hb2_=>hC.pdk 0 1 rfl rfl b_ hb_ hb2_))) ?_
  rintro _ w9 ⟨m10,v10,rfl,h,hm10,hm11,hm12,hB10⟩
  refine rt ?_
  replace hC:=hC.turnS hB10 hm10 hm11 hm12
  refine dn (ZMn ?_)
  refine cwd 12 Yi [0,1,3,7,0,16,48,112,240,0,1008,15,4095] [3,7,8] [0,1,2,4,5,6,9,10,11] (fun hM12 hM10 w10 hB_=>?_)
  replace hC:=hC.grow hB_
  refine bM 0 (vQ b2) rfl hM10 (Zb 13 1) (bF 1 (vQ b2) rfl rfl hM10 (fun _=>by exact Zae rfl) (Zb 13 3) (bF 2 (.pointer (some ⟨b2,2,none⟩)) rfl rfl hM10 (fun _=>by exact Yf 2 ZTj rfl sc122.size rfl rfl) (Zb 13 7) (bL 3 (v10) rfl rfl hM12 (fun _ hB_=>by exact Ya (hC.grow hB_) 0 (v10) rfl sc122 rfl rfl) (Zb 13 15) (bM 4 (vQ b2) rfl hM10 (Zb 13 31) (bF 5 (vQ b2) rfl rfl hM10 (fun _=>by exact Zae rfl) (Zb 13 63) (bF 6 (.pointer (some ⟨b2,2,none⟩)) rfl rfl hM10 (fun _=>by exact Yf 2 ZTj rfl sc122.size rfl rfl) (Zb 13 127) (bL 7 (v10) rfl rfl hM12 (fun _ hB_=>by exact Ya (hC.grow hB_) 0 (v10) rfl sc122 rfl rfl) (Zb 13 255) (bL 8 (vI (m10.length:Int)) rfl rfl hM12 (fun _ hB_=>by exact Zpj (hC.grow hB_) 1 rfl ZTh rfl) (Zb 13 511) (bM 9 (vI a2) rfl hM10 (Zb 13 1023) (bF 10 (.bool (decide ((m10.length:Int)≤a2))) rfl rfl hM10 (fun _=>by exact Zoi rfl rfl) (Zb 13 2047) (bA 11 (v10) rfl hM10 (Zb 13 4095) (Zz 12 (by decide) (by decide) (by kernel_rfl) (by kernel_rfl) rfl (Zc (v:=.bool (decide ((m10.length:Int)≤a2))) rfl (done (Z0 (Zd (ZMv ?_)))))))))))))))))
  exact Ja rfl (Ze rfl) (Ze rfl) ⟨m10,v10,(ZNm (ZFq v10)),decide ((m10.length:Int)≤a2),rfl,h,(Xy (hC.getM 1 rfl)),(Yz hC 1 rfl),hC.below⟩ (.inl rfl)
 ·replace h:=Zj h (cf hb5)
  refine ZMr (Zd (ZMn ?_))
  refine cwd 12 Yi [0,1,3,7,0,16,48,112,240,0,1008,15,4095] [3,7,8] [0,1,2,4,5,6,9,10,11] (fun hM13 hM11 w11 hB_=>?_)
  replace hC:=hC.grow hB_
  refine bM 0 (vQ b2) rfl hM11 (Zb 13 1) (bF 1 (vQ b2) rfl rfl hM11 (fun _=>by exact Zae rfl) (Zb 13 3) (bF 2 (.pointer (some ⟨b2,2,none⟩)) rfl rfl hM11 (fun _=>by exact Yf 2 ZTj rfl sc122.size rfl rfl) (Zb 13 7) (bL 3 (.slice none 0 0) rfl rfl hM13 (fun _ hB_=>by exact Ya (hC.grow hB_) 0 (.slice none 0 0) rfl sc122 rfl rfl) (Zb 13 15) (bM 4 (vQ b2) rfl hM11 (Zb 13 31) (bF 5 (vQ b2) rfl rfl hM11 (fun _=>by exact Zae rfl) (Zb 13 63) (bF 6 (.pointer (some ⟨b2,2,none⟩)) rfl rfl hM11 (fun _=>by exact Yf 2 ZTj rfl sc122.size rfl rfl) (Zb 13 127) (bL 7 (.slice none 0 0) rfl rfl hM13 (fun _ hB_=>by exact Ya (hC.grow hB_) 0 (.slice none 0 0) rfl sc122 rfl rfl) (Zb 13 255) (bL 8 (vI 0) rfl rfl hM13 (fun _ hB_=>by exact Zez ZTh rfl) (Zb 13 511) (bM 9 (vI a2) rfl hM11 (Zb 13 1023) (bF 10 (.bool (decide (0≤a2))) rfl rfl hM11 (fun _=>by exact Zoi rfl rfl) (Zb 13 2047) (bA 11 (.slice none 0 0) rfl hM11 (Zb 13 4095) (Zz 12 (by decide) (by decide) (by kernel_rfl) (by kernel_rfl) rfl (Zc (v:=.bool (decide (0≤a2))) rfl (done (Z0 (Zd (ZMv ?_)))))))))))))))))
  exact Ja rfl (Ze rfl) (Ze rfl) ⟨[],.slice none 0 0,[],decide (0≤a2),rfl,h,(Zda _ _ _),(fun b hb=>absurd hb (by simp)),hC.below⟩ (.inl rfl)
def Zfn (a0:Vc.Lvl) (a1:List (A8×Int)) (K:List Int→Prop):Prop :=
 ((0≤(a0.list.length:Int)∧(a0.list.length:Int) * 8≤281474976710656)∧Zbv (fun (q10:A8×Int) (s10:(List Int)) nx10=>((0≤(Y0 a0.place q10.1).getD 0∧(Y0 a0.place q10.1).getD 0 < (s10.length:Int))∧nx10 (s10.set (((Y0 a0.place q10.1).getD 0).toNat) q10.2))) (fun (s10:(List Int))=>K s10) a1.length a1 (ZEs ((a0.list.length:Int).toNat) (0:Int)))
theorem ZAh (a0:Vc.Lvl) (a1:List (A8×Int))  {K:List Int→Prop} (h:Zfn a0 a1 K) (w0:World) (q0:TLvl.rep a0 [u0_0,u0_1,u0_2,u0_3,u0_4,u0_5] fp0 w0) (qb0:(blk b0 125 [u0_0,u0_1,u0_2,u0_3,u0_4,u0_5]).holds w0) (q1:(mapS b1 a1).holds w0) :
  Calls ZMq 85 #[vQ b0,.map (some b1)] w0 fun e w'=>∃ (r0:List Int) (z0_0:Value) (fz0:List Nat),
   e=.returned (z0_0)∧K r0∧(ZM4 (ZTa 2 (eI.tr)) r0 [z0_0] fz0).holds w'∧(∀ b,b∈fz0→w0.heap.size≤b)∧Bel w0 w':=by
 unfold Zfn at h
 refine cof Tryz.func85 rfl 31 Tryz.ntmps85 ?_
 have hC:=Ctx.start (X:=Nox) w0 [ZMm TLvl a0 [u0_0,u0_1,u0_2,u0_3,u0_4,u0_5] fp0,blk b0 125 [u0_0,u0_1,u0_2,u0_3,u0_4,u0_5],mapS b1 a1] (alc q0 (alc qb0 (al1 q1)))
 have hp4:=(hC.getP 0 rfl)
 have hp5:=Zzx hp4
 replace hC:=hC.derive 0 rfl (ZMm ((EA .i64).ty.sl) a0.list [u0_0] fp0) (fun _=>hp5.1) (fun _ hb_=>hb_)
 obtain ⟨b7,rfl,hbf8,hm9⟩:=Zzc hp5.2
 replace hC:=hC.derive 1 rfl (mapS b7 a0.place) (fun _=>hm9) (fun c_ hc_=>by obtain rfl:=ZF6.1 hc_; exact hbf8)
 refine sr (Zc (v:=.slice none 0 0) rfl (dn (sr (Za (v:=vQ b0) rfl (Xg rfl (Zu 0 ZTk rfl sc122.size rfl rfl (Zdy (u0_0) (hC.getP 3 rfl) sc122 rfl rfl (Zv hC 1 rfl ZTh rfl ?_))))))))
 obtain ⟨hm10,h⟩:=h
 refine Zb2 (sz:=1) hC (eI.encs (ZEs ((a0.list.length:Int).toNat) (0:Int))) ZM6 el2 (tr rfl (congrArg (Value.int .i64) (Int.toNat_of_nonneg hm10.1).symm)) (tr rfl (congrArg (Value.int .i64) (Int.toNat_of_nonneg hm10.1).symm)) (by omega) (by omega) (Zbu (E:=eI) _ _) fun v11 w10 hB_ hC=>?_
 replace hC:=Xb hC 0 ((ZEs ((a0.list.length:Int).toNat) (0:Int)).length) (eI.encs (ZEs ((a0.list.length:Int).toNat) (0:Int))) rfl (by simp) rfl
 refine Zc (v:=v11) rfl (dn (ZMn (sr (Za (v:=.map (some b1)) rfl (Zga hC 4 rfl Tryz.underlying115 rfl fun r10 es10 ck10 w11 hB_ hn10 hbn10 hC=>dn (ZMt ?_))))))
 refine Zge (S:=(List Int)) _ _ (fun l10 s10 e_ w_=>∃ (v10:Value),∃ (la10:Option MapEntry),Zt e_ [(0,vQ b0),(5,v10),(15,vQ r10)]∧Ctx Nox w0 w_ [itI (kvA .i64) (vvI .i64) r10 b1 es10 ck10 la10 l10,own 2 1 v10 s10.length (eI.encs s10)] [Zaz b1 es10 ck10,mapS b7 a0.place,ZMm ((EA .i64).ty.sl) a0.list [u0_0] fp0,ZMm TLvl a0 [u0_0,.map (some b7),u0_2,u0_3,u0_4,u0_5] fp0,blk b0 125 [u0_0,.map (some b7),u0_2,u0_3,u0_4,u0_5],mapS b1 a1]) ?_ (l0:=a1) (s0:=(ZEs ((a0.list.length:Int).toNat) (0:Int))) ?_ h
 ·clear hC h
  rintro l10 s10 e_ w12 nx10 K10 ⟨v10,la10,hS_,hC⟩ h hK10
  rw [ue hS_]
  refine sr ?_
  refine Zgb hC 0 0 rfl rfl hn10 hbn10 rfl (fun hr10=>?_) (fun q10 l11 ent10 w13 hp10 hk10 hv11 hC=>?_)
  ·replace h:=h.1 hr10
   refine Yr (v:=.bool false) rfl rfl (dn (ZMn (Z2 rfl rfl ?_)))
   refine wp_exit (Zh (Zh (Zy ?_)))
   refine Zd (sr (Za (v:=v10) rfl (Zc (v:=v10) rfl (dn (ZMv ?_)))))
   exact Zi rfl (Ze rfl) ⟨s10,v10,(ZNm (ZFq v10)),rfl,h,(Xy (hC.getM 1 rfl)),(Yz hC 1 rfl),hC.below⟩ (.inl rfl)
  ·replace h:=h.2 q10 l11 hp10
   refine Yr (v:=.bool true) rfl rfl (dn (ZMn (Yc rfl rfl (ZMr (Zd (ZMt (sr (Zgc hC 0 0 q10 rfl rfl hn10 rfl hk10 hv11 (Yr (v:=.agg (ZMl (ZMk .i64 q10.1))) rfl rfl (Yr (v:=vI q10.2) rfl rfl (Yk hC (ZMk .i64 ZMs) z73 rfl fun b10 w14 hB_ hC=>Zx (v:=.agg (ZMl (ZMk .i64 q10.1))) hC 0 (ZMk .i64 q10.1) (ZMk .i64 q10.1) rfl ag73.size rfl rfl rfl rfl rfl (ZMw rfl) rfl fun w15 hC=>Zc (v:=vI q10.2) rfl (dn ?_))))))))))))
   refine cwd 8 Yi [0,0,2,6,14,0,62,0,255,511] [4,5,6] [0,1,2,3,7] (fun hM11 hM10 w16 hB_=>?_)
   replace hC:=hC.grow hB_
   refine bM 0 (v10) rfl hM10 (Zb 10 1) (bM 1 (vQ b0) rfl hM10 (Zb 10 3) (bF 2 (vQ b0) rfl rfl hM10 (fun _=>by exact Zae rfl) (Zb 10 7) (bF 3 (.pointer (some ⟨b0,1,none⟩)) rfl rfl hM10 (fun _=>by exact Yf 1 ZTk rfl sc123.size rfl rfl) (Zb 10 15) (bL 4 (.map (some b7)) rfl rfl hM11 (fun _ hB_=>by exact Zdx (.map (some b7)) ((hC.grow hB_).getP 4 rfl) sc123 rfl rfl) (Zb 10 31) (bL 5 (.agg (ZMl (ZMk .i64 q10.1))) rfl rfl hM11 (fun _ hB_=>by exact Xf (hC.grow hB_) 0 (ZMk .i64 q10.1) rfl ag73 rfl rfl rfl) (Zb 10 63) (bL 6 (vI ((Y0 a0.place q10.1).getD 0)) rfl rfl hM11 (fun _ hB_=>by exact Zo2 q10.1 0 ((hC.grow hB_).getP 1 rfl) Jl ZT5 z3 rfl rfl) (Zb 10 127) (bM 7 (vI q10.2) rfl hM10 (Zb 10 255) (Zz 8 (by decide) (by decide) (by kernel_rfl) (by kernel_rfl) rfl ?_))))))))
   obtain ⟨⟨h10,h11⟩,h⟩:=h
   obtain ⟨Ad10,c10,hv10⟩:=Jp (hC.getM 2 rfl) (Nat.lt_of_le_of_lt (Nat.zero_le _) (show ((Y0 a0.place q10.1).getD 0).toNat < s10.length by omega))
   refine Jz (((Y0 a0.place q10.1).getD 0).toNat * 1) ZM6 sc2.size (tr rfl hv10) rfl h10 h11 rfl (Zc7 (v:=vI q10.2) hC 2 [vI q10.2] (eI.encs (s10.set (((Y0 a0.place q10.1).getD 0).toNat) q10.2)) rfl hv10 sc2.size rfl rfl rfl rfl rfl (by rw [Enc.encs_len]; exact Zar (sz:=1) (show ((Y0 a0.place q10.1).getD 0).toNat < s10.length by omega)) (Zc8 _ _ _ (show ((Y0 a0.place q10.1).getD 0).toNat < s10.length by omega)) fun w17 hC=>?_)
   replace hC:=Xb hC 2 ((s10.set (((Y0 a0.place q10.1).getD 0).toNat) q10.2).length) (eI.encs (s10.set (((Y0 a0.place q10.1).getD 0).toNat) q10.2)) rfl (by simp) rfl
   refine done (Z0 (Zq ?_))
   exact hK10 q10 l11 (s10.set (((Y0 a0.place q10.1).getD 0).toNat) q10.2) _ _ hp10 ⟨v10,(some ent10),(slq rfl),(hC.xM [1,2] rfl)⟩ h
 ·skip
  exact⟨v11,none,(slq rfl),hC⟩
end Go.Proofs.YtaagfepgbofmlaaGreat
set_option maxRecDepth 4000
set_option maxHeartbeats 4000000
namespace Go.Proofs.YtaagfepgbofmlaaGreat
open Go Go.RowKit Vc
theorem ZAi:Xt ZMq 117 (.pointer none):=by unfold Xt; kernel_rfl
theorem bsc196:ScaT ZMq 196:=⟨⟨_,ZUl,rfl⟩,by kernel_rfl⟩
theorem bsc66:ScaT ZMq 66:=⟨⟨_,Tryz.underlying66,rfl⟩,by kernel_rfl⟩
theorem bsc22:ScaT ZMq 22:=⟨⟨_,ZM6,rfl⟩,by kernel_rfl⟩
theorem bsc122:ScaT ZMq 122:=⟨⟨_,ZTh,rfl⟩,by kernel_rfl⟩
theorem bsc123:ScaT ZMq 123:=⟨⟨_,ZT5,rfl⟩,by kernel_rfl⟩
theorem Zq1:KeyT ZMq 2 (vvI .i64):=Zzi Tryz.underlying2
theorem ZAj:ScaT ZMq 3:=⟨⟨_,Tryz.underlying3,rfl⟩,by kernel_rfl⟩
theorem ZAk:KeyT ZMq 73 (kvA .i64):=Zli ZNa Tryz.underlying3 ZAj
theorem bag73:AggT ZMq 73 8:=⟨⟨_,ZNa,rfl⟩,by kernel_rfl⟩
theorem ZAl:Xt ZMq 73 (.agg (ZMl (ZMk .i64 ZMs))):=by unfold Xt; kernel_rfl
theorem ZAm:ZMq.follows .mixedOrders=true:=by kernel_rfl
theorem ZAn (x0:Nat) (w:World):(Instr.build 125 #[(1,.map (some x0))]).run ZMq w=.ok (.agg #[.slice none 0 0,.map (some x0),.slice none 0 0,.slice none 0 0,.slice none 0 0,.slice none 0 0]) w:=by kernel_rfl
def Zmy (l:List A8) (p:List (A8×Int)):Prop:=Yb (fun i (s:List (A8×Int)) nx=>nx (Yh s (l.getD i ZEx) (i:Int))) (fun s=>s=p) l.length 0 []
def Zek (C:Cx) (ds:List Int) (n:Int):Prop:=Zej ds n 120 (fun l _=>l=C.LV n∧Zmy l (C.PL n))
theorem Zq2 (C : Cx) (a : Alg) (n : Int) {cb ab mb : Nat} {u0 u1 : Value} {fpA : List Nat} {D : List Lev} {F : List Nat} (h : Zek C a.degrees n) (w0 : World)
    (qc:(blk cb 198 [.pointer (some ⟨ab,0,none⟩),.map (some mb)]).holds w0) (qa:(blk ab 32 [u0,u1]).holds w0) (q0:TAlg.rep a [u0,u1] fpA w0)
    (qm:(Z1 (vvI .i64) vvP mb (D.map Lev.key)).holds w0) (qp:(cpP C D F).holds w0) (hd:cb≠mb∧ab≠mb∧mb∉fpA∧mb∉F) :
    Calls ZMq 115 #[.pointer (some ⟨cb,0,none⟩),.int .i64 n] w0 fun e w'=>∃ (ev:Lev) (new:List Lev) (F1:List Nat),
      e=.returned (vvP ev.b)∧ev.n=n∧ev∈D++new∧(Z1 (vvI .i64) vvP mb ((D++new).map Lev.key)).holds w'∧(cpP C (D++new) (F++F1)).holds w'∧(lvB 125 new).holds w' ∧
      (∀ b,b∈new.map (·.b)→w0.heap.size≤b)∧(∀ b,b∈F1→w0.heap.size≤b)∧(∀ b,b∈new.map (·.b)→b∉F1)∧(∀ e,e∈new→e.c3=false)∧BelB mb w0 w':=by
  refine Zk0 (args:=[.pointer (some ⟨cb,0,none⟩),.int .i64 n]) ZUm rfl 63 Tryz.ntmps115 (ZMw rfl) ?_
  have hC:=Ctx.start1 w0 mb (it:=Z1 (vvI .i64) vvP mb (D.map Lev.key)) rfl [cpP C D F,blk cb 198 [.pointer (some ⟨ab,0,none⟩),.map (some mb)],blk ab 32 [u0,u1],ZMm TAlg a [u0,u1] fpA] qm
    (by simp only [ZEt,ZG2,or_false,forall_eq_or_imp,forall_eq]; exact⟨qp,qc,qa,q0⟩)
    (by
      simp only [ZEt,ZG2,or_false,forall_eq_or_imp,forall_eq]
      exact⟨fun c hc e=>hd.2.2.2 (e ▸ hc),fun c hc e=>hd.1 ((ZF6.1 hc).symm.trans e),fun c hc e=>hd.2.1 ((ZF6.1 hc).symm.trans e),fun c hc e=>hd.2.2.1 (e ▸ hc)⟩)
  refine sr ?_
  refine Zc (v:=.pointer none) rfl ?_
  refine dn ?_
  refine ZMn ?_
  refine sr ?_
  refine Za (v:=.pointer (some ⟨cb,0,none⟩)) rfl ?_
  refine Xg rfl ?_
  refine Zu 1 ZT7 rfl bsc196.size rfl rfl ?_
  refine Yl (.map (some mb)) (Jo (off:=1) (sz:=1) (hC.getP 1 rfl) rfl) bsc196 rfl ?_
  refine Za (v:=.int .i64 n) rfl ?_
  refine Zz7 n (.pointer none) (hC.getM 0 rfl) Zq1 ZUl ZAi rfl rfl (fun b hg=>?_) (fun hg=>?_)
  · refine Za (v:=.tuple #[vvP b,.bool true]) rfl ?_
    refine Yr (v:=vvP b) rfl rfl ?_
    refine Yr (v:=.bool true) rfl rfl ?_
    refine Zc (v:=vvP b) rfl ?_
    refine Zc (v:=.bool true) rfl ?_
    refine dn ?_
    refine sr ?_
    refine Za (v:=.bool true) rfl ?_
    refine dn ?_
    refine Yc rfl rfl ?_
    refine ZMn ?_
    refine Zg ?_
    refine Za (v:=vvP b) rfl ?_
    refine Zc (v:=vvP b) rfl ?_
    refine dn ?_
    refine ZMv ?_
    obtain ⟨ev,he,hn,rfl⟩:=Zz5 hg
    refine Zk (Zi (fn:=Tryz.f115) (v:=vvP ev.b) rfl (Ze rfl) ⟨ev,[],[],rfl,hn,by simpa using he,?_,?_,Zqx _ _,by simp,by simp,by simp,by simp,hC.belB⟩ (.inl rfl))
    · rw [ZUn]; exact hC.getM 0 rfl
    · rw [ZUn,ZUn]; exact hC.getP 0 rfl
  · refine Za (v:=.tuple #[.pointer none,.bool false]) rfl ?_
    refine Yr (v:=.pointer none) rfl rfl ?_
    refine Yr (v:=.bool false) rfl rfl ?_
    refine Zc (v:=.pointer none) rfl ?_
    refine Zc (v:=.bool false) rfl ?_
    refine dn ?_
    refine sr ?_
    refine Za (v:=.bool false) rfl ?_
    refine dn ?_
    refine Z2 rfl rfl ?_
    refine ZMr ?_
    refine Zd ?_
    refine sr ?_
    refine Zf9 hC (kvA .i64) (vvI .i64) fun pb w1 hB_ hC=>?_
    refine J6 [(1,.map (some pb))] rfl (ZAn pb _) ?_
    refine Yg (v:=.agg #[.slice none 0 0,.map (some pb),.slice none 0 0,.slice none 0 0,.slice none 0 0,.slice none 0 0]) hC [.slice none 0 0,.map (some pb),.slice none 0 0,.slice none 0 0,.slice none 0 0,.slice none 0 0] rfl rfl fun bx w2 hB_ hC=>?_
    refine Zc (v:=.pointer (some ⟨bx,0,none⟩)) rfl ?_
    refine dn ?_
    refine sr ?_
    refine Za (v:=.pointer (some ⟨bx,0,none⟩)) rfl ?_
    refine Za (v:=.pointer (some ⟨cb,0,none⟩)) rfl ?_
    refine Xg rfl ?_
    refine Zu 0 ZT7 rfl bsc66.size rfl rfl ?_
    refine Yl (.pointer (some ⟨ab,0,none⟩)) (Jo (off:=0) (sz:=1) (hC.getP 1 rfl) rfl) bsc66 rfl ?_
    refine Xg rfl ?_
    refine Zu 0 Tryz.underlying32 rfl bsc22.size rfl rfl ?_
    refine Yl (u0) (Jo (off:=0) (sz:=1) (hC.getP 2 rfl) rfl) bsc22 rfl ?_
    refine Za (v:=.int .i64 n) rfl ?_
    refine Zf [u0,.int .i64 n,.int .i64 120] _ Tryz.func100 rfl rfl rfl (Zq0 a.degrees n 120 h _ (Ze0 (hC.getP 3 rfl)).1) (fun ret w3 hR=>?_)
    obtain ⟨r,u,f1,rb,rfl,⟨hrL,h⟩,hr2,hf2,hB3⟩:=hR
    refine⟨_,rfl,?_⟩
    replace hC:=hC.push hB3 (ZM4 (ZTa 73 ((EA .i64).tr)) r [u] f1) hr2 hf2
    obtain ⟨ho,hf3⟩:=Xn (hC.getM 0 rfl).1
    subst hf3
    replace hC:=hC.recast (c:=own 73 8 u r.length ((EA .i64).encs r)) (fun _ h_=>h_) (fun _=>ho)
    refine Za (v:=.tuple #[u,.bool rb]) rfl ?_
    refine Yr (v:=u) rfl rfl ?_
    refine Yr (v:=.bool rb) rfl rfl ?_
    refine Xg rfl ?_
    refine Zu 0 ZTk rfl bsc122.size rfl rfl ?_
    refine Zx (v:=u) hC 1 [u] [u,.map (some pb),.slice none 0 0,.slice none 0 0,.slice none 0 0,.slice none 0 0] rfl bsc122.size rfl rfl (Zb4 (hC.getM 0 rfl)) rfl (Xk (Xx (hC.getM 0 rfl)) rfl) (ZMw rfl) rfl fun w4 hC=>?_
    refine dn ?_
    refine ZMn ?_
    refine sr ?_
    refine Za (v:=.pointer (some ⟨bx,0,none⟩)) rfl ?_
    refine Xg rfl ?_
    refine Zu 0 ZTk rfl bsc122.size rfl rfl ?_
    refine Z5 hC 1 (u) rfl bsc122 rfl rfl ?_
    obtain ⟨Ad,c9,hv9⟩:=Za6 (hC.getM 0 rfl)
    refine Zc6 ZTh (tr rfl hv9) ?_
    refine Za (v:=.int .i64 0) rfl ?_
    refine dn ?_
    refine ZMt ?_
    have hN:r.length≤9223372036854775807:=Zis (hC.getM 0 rfl)
    refine Yn (S:=(List (A8×Int))) _ _ (fun i s e_ w_=>Zt e_ [(0,.pointer (some ⟨cb,0,none⟩)),(1,.int .i64 n),(7,.pointer (some ⟨bx,0,none⟩)),(42,u),(43,.int .i64 (r.length:Int)),(44,.int .i64 (i:Int))]∧Ctx (fun c=>c=mb) w0 w_ [own 73 8 u r.length ((EA .i64).encs r),blk bx 125 [u,.map (some pb),.slice none 0 0,.slice none 0 0,.slice none 0 0,.slice none 0 0],Z1 (kvA .i64) (vvI .i64) pb s,Z1 (vvI .i64) vvP mb (D.map Lev.key)] [cpP C D F,blk cb 198 [.pointer (some ⟨ab,0,none⟩),.map (some mb)],blk ab 32 [u0,u1],ZMm TAlg a [u0,u1] fpA]) r.length ?_ ?_ (s0:=([]:List (A8×Int))) ?_ h
    · clear hC h
      rintro i s e_ w5 next K5 hi5 ⟨hS_,hC⟩ h hK5
      refine sr ?_
      refine Zn (sx hS_ 5 rfl) (sx hS_ 4 rfl) ?_
      refine dn ?_
      refine ZMn ?_
      refine Yc rfl (decide_eq_true (by omega)) ?_
      refine ZMr ?_
      refine Zd ?_
      refine ZMn ?_
      refine ZMt ?_
      refine sr ?_
      refine Za (v:=.int .i64 (i:Int)) (sx hS_ 5 rfl) ?_
      obtain ⟨Ad6,c6,hv6⟩:=Jp (hC.getM 0 rfl) (Nat.lt_of_le_of_lt (Nat.zero_le _) hi5)
      refine Jz (i * 8) ZTh bag73.size (tr (sx hS_ 3 rfl) hv6) (sx hS_ 5 rfl) (Int.natCast_nonneg _) (Int.ofNat_lt.2 hi5) rfl ?_
      refine Zak (ZMk .i64 (r.getD i ZEx)) (Zb3 (hC.getM 0 rfl) hv6 i hi5) bag73 rfl rfl ?_
      refine Yk hC (ZMk .i64 ZMs) ZAl rfl fun b7 w7 hB_ hC=>?_
      refine Zc (v:=.int .i64 (i:Int)) rfl ?_
      refine Zx (v:=.agg (ZMl (ZMk .i64 (r.getD i ZEx)))) hC 0 (ZMk .i64 (r.getD i ZEx)) (ZMk .i64 (r.getD i ZEx)) rfl bag73.size rfl rfl rfl rfl rfl (ZMw rfl) rfl fun w8 hC=>?_
      refine dn ?_
      refine Zou 6 ZAm [0,1,3,7,0,0,63] [3,4] [0,1,2,5] (by kernel_rfl) (by kernel_rfl) (by kernel_rfl) (fun hM1 hM2 w9 hB_=>?_)
      replace hC:=hC.grow hB_
      refine aF 0 (.pointer (some ⟨bx,0,none⟩)) rfl rfl (hM2 0 rfl) (rfl) (fun _=>by exact Zaj (v:=.pointer (some ⟨bx,0,none⟩)) (sx hS_ 2 rfl)) (Zb 7 1) ?_
      refine aF 1 (.pointer (some ⟨bx,0,none⟩)) rfl rfl (hM2 1 rfl) (rfl) (fun _=>by exact Zae rfl) (Zb 7 3) ?_
      refine aF 2 (.pointer (some ⟨bx,1,none⟩)) rfl rfl (hM2 2 rfl) (rfl) (fun _=>by exact Yf 1 ZTk rfl bsc123.size rfl rfl) (Zb 7 7) ?_
      refine aL 3 (.map (some pb)) rfl rfl (hM1 3 rfl) (rfl) (fun _ hB_=>by exact Ya (hC.grow hB_) 2 (.map (some pb)) rfl bsc123 rfl rfl) (Zb 7 15) ?_
      refine aL 4 (.agg (ZMl (ZMk .i64 (r.getD i ZEx)))) rfl rfl (hM1 4 rfl) (rfl) (fun _ hB_=>by exact Xf (hC.grow hB_) 0 (ZMk .i64 (r.getD i ZEx)) rfl bag73 rfl rfl rfl) (Zb 7 31) ?_
      refine aF 5 (.int .i64 (i:Int)) rfl rfl (hM2 5 rfl) (rfl) (fun _=>by exact Zaj (v:=.int .i64 (i:Int)) rfl) (Zb 7 63) ?_
      refine Zz 6 (by decide) (by decide) (by kernel_rfl) (by kernel_rfl) rfl ?_
      refine Zi0 hC 3 (r.getD i ZEx) (i:Int) rfl ZAk ZT5 rfl rfl rfl (fun w10 hC=>?_) (.inl rfl)
      refine done ?_
      refine Z0 ?_
      refine Zq ?_
      refine Zd ?_
      refine Zg ?_
      refine Zo (sx hS_ 5 rfl) rfl ?_
      refine Za (v:=.int .i64 (ZHd.wrap ((i:Int)+1))) rfl ?_
      refine done ?_
      replace hC:=hC.sM [1,2,3,4] (M':=[own 73 8 u r.length ((EA .i64).encs r),blk bx 125 [u,.map (some pb),.slice none 0 0,.slice none 0 0,.slice none 0 0,.slice none 0 0],Z1 (kvA .i64) (vvI .i64) pb (Yh s (r.getD i ZEx) (i:Int)),Z1 (vvI .i64) vvP mb (D.map Lev.key)]) (by decide) rfl
      exact hK5 (Yh s (r.getD i ZEx) (i:Int)) _ _ ⟨(sk (sx hS_ 0 rfl) (sk (sx hS_ 1 rfl) (sk (sx hS_ 2 rfl) (sk (sx hS_ 3 rfl) (sk (sx hS_ 4 rfl) (sk (tr rfl (congrArg _ (Z6 hi5 hN))) sn)))))),hC⟩ h
    · clear hC h
      rintro s e_ w11 K11 ⟨hS_,hC⟩ h
      refine sr ?_
      refine Zn (sx hS_ 5 rfl) (sx hS_ 4 rfl) ?_
      refine dn ?_
      refine ZMn ?_
      refine Z2 rfl (decide_eq_false (by omega)) ?_
      refine wp_exit (Zh (Zh (Zy ?_)))
      refine Zd ?_
      refine sr ?_
      refine Za (v:=.pointer (some ⟨cb,0,none⟩)) (sx hS_ 0 rfl) ?_
      refine Xg rfl ?_
      refine Zu 1 ZT7 rfl bsc196.size rfl rfl ?_
      refine Yl (.map (some mb)) (Jo (off:=1) (sz:=1) (hC.getP 1 rfl) rfl) bsc196 rfl ?_
      refine Za (v:=.int .i64 n) (sx hS_ 1 rfl) ?_
      refine Za (v:=.pointer (some ⟨bx,0,none⟩)) (sx hS_ 2 rfl) ?_
      refine Zi0 hC 3 n bx rfl Zq1 ZUl rfl rfl rfl (fun w12 hC=>?_) (.inl rfl)
      refine dn ?_
      refine sr ?_
      refine Za (v:=.pointer (some ⟨bx,0,none⟩)) (sx hS_ 2 rfl) ?_
      refine Zc (v:=.pointer (some ⟨bx,0,none⟩)) rfl ?_
      refine dn ?_
      refine ZMv ?_
      have e1:=hC.getM 0 rfl
      have e2:=hC.getM 1 rfl
      have e3:=hC.getM 2 rfl
      have e4:=hC.getM 3 rfl
      have d1:=hC.mm 0 3 rfl rfl (by decide)
      have d2:=hC.mm 1 3 rfl rfl (by decide)
      have d3:=hC.mm 2 3 rfl rfl (by decide)
      have d4:=hC.mm 1 0 rfl rfl (by decide)
      have d5:=hC.mm 1 2 rfl rfl (by decide)
      have fr:∀ it,it∈[own 73 8 u r.length ((EA .i64).encs r),blk bx 125 [u,.map (some pb),.slice none 0 0,.slice none 0 0,.slice none 0 0,.slice none 0 0],Z1 (kvA .i64) (vvI .i64) pb s]→(∀ x,x∈it.fp→x∉(Z1 (vvI .i64) vvP mb (Yh (D.map Lev.key) n bx)).fp)→∀ b,b∈it.fp→w0.heap.size≤b:=fun it hit hds b hb =>
        (hC.mfp it (by
          simp only [ZEt,ZG2,or_false] at hit
          rcases hit with rfl | rfl | rfl
          · exact List.mem_of_getElem? (i:=0) rfl
          · exact List.mem_of_getElem? (i:=1) rfl
          · exact List.mem_of_getElem? (i:=2) rfl) b hb).elim id fun e=>absurd (by simp [Z1,e]) (hds b hb)
      have hl1:∀ b,b∈u.ownBlock.toList++[pb]→b < w12.heap.size:=by
        intro b hb
        rcases ZE4.1 hb with q | q
        · exact ZTc _ _ e1 b q
        · exact ZTc _ _ e3 b q
      refine Zi (fn:=Tryz.f115) (v:=vvP bx) rfl (Ze rfl) ⟨⟨n,bx,pb,u,.slice none 0 0,.slice none 0 0,.slice none 0 0,.slice none 0 0,false,false,false,false⟩,[⟨n,bx,pb,u,.slice none 0 0,.slice none 0 0,.slice none 0 0,.slice none 0 0,false,false,false,false⟩],u.ownBlock.toList++[pb],rfl,rfl,by simp,?_,Zz2 (hC.getP 0 rfl) ⟨?_,⟨by simp,?_⟩,fun _=>rfl,fun q=>(ZTl q).elim,fun _=>rfl,fun q=>(ZTl q).elim,fun _=>rfl,fun q=>(ZTl q).elim,fun _=>rfl,fun q=>(ZTl q).elim⟩ hl1,Zzz e2,?_,?_,?_,by simp,hC.belB⟩ (.inl rfl)
      · have e5:=e4
        rw [Zz6 hg] at e5
        rw [ZTf]; exact e5
      · show ((EA .i64).ty.sl).rep (C.LV n) [u] _ _
        rw [← hrL]
        exact ZTp _ (Y3 e1) (fun b hb=>ZFi _ hb) hl1
      · have hs:s=C.PL n:=h
        show (Z1 (kvA .i64) (vvI .i64) pb (C.PL n)).holds w12
        rw [← hs]; exact e3
      · intro b hb
        obtain rfl:b=bx:=by simpa using hb
        exact fr _ (by simp) d2 b (by simp [blk])
      · intro b hb
        rcases ZE4.1 hb with q | q
        · exact fr _ (by simp) d1 b q
        · exact fr _ (by simp) d3 b (by simpa [Z1] using q)
      · intro b hb hb2
        obtain rfl:b=bx:=by simpa using hb
        rcases ZE4.1 hb2 with q | q
        · exact d4 b (by simp [blk]) q
        · exact d5 b (by simp [blk]) (by simpa [Z1] using q)
    · exact⟨(sk rfl (sk rfl (sk rfl (sk rfl (sk rfl (sk rfl sn)))))),hC⟩
theorem Zq3 (C : Cx) (a : Alg) (n : Int) {cb ab mb : Nat} {u0 u1 : Value} {fpA : List Nat} {D : List Lev} {F : List Nat} (h : Zek C a.degrees n) (w0 : World)
    (q0:TAlg.rep a [u0,u1] fpA w0) (qa:(blk ab 32 [u0,u1]).holds w0) (qc:(blk cb 198 [.pointer (some ⟨ab,0,none⟩),.map (some mb)]).holds w0) (qx:(cpx C 125 mb D F).holds w0)
    (dq:∀ b,b∈fpA→b∉(cpx C 125 mb D F).fp) (da:ab∉(cpx C 125 mb D F).fp) (dc:cb∉(cpx C 125 mb D F).fp) :
    Calls ZMq 115 #[.pointer (some ⟨cb,0,none⟩),.int .i64 n] w0 fun e w'=>∃ (b:Nat) (D':List Lev) (F':List Nat),
      e=.returned (vvP b)∧LvAt D' n b false false∧CpLe D D' F F'∧(cpx C 125 mb D' F').holds w'∧(∀ x,x∈(cpx C 125 mb D' F').fp→x∈(cpx C 125 mb D F).fp∨w0.heap.size≤x)∧BelB mb w0 w':=by
  refine(Zq2 C a n h w0 qc qa q0 qx.1 qx.2.2.1 ⟨fun e=>dc (e ▸ Zc0),fun e=>da (e ▸ Zc0),fun q=>dq _ q Zc0,qx.2.2.2.2.1⟩).mono ?_
  rintro e w' ⟨v,new,F1,rfl,h1,h2,h3,h4,h5,h6,h7,h8,h9,hB⟩
  have lmb:mb < w0.heap.size:=ZTc _ w0 qx mb Zc0
  have lD:∀ b,b∈D.map (·.b)→b < w0.heap.size:=fun b hb=>ZTc _ w0 qx.2.1 b hb
  have lF:∀ b,b∈F→b < w0.heap.size:=fun b hb=>ZTc _ w0 qx.2.2.1 b hb
  refine⟨v.b,D++new,F++F1,rfl,⟨v,h2,h1,rfl,fun q=>(ZTl q).elim,fun q=>(ZTl q).elim⟩,⟨fun e he=>⟨e,ZFi _ he,.refl e⟩,fun e he _ h3'=>?_,fun x hx=>ZFi _ hx⟩,⟨h3,Zqy (ZTe _ w0 w' (fun b hb=>hB.old b (lD b hb) (fun e=>qx.2.2.2.1 (e ▸ hb))) qx.2.1) h5 (fun x hx hx2=>absurd (lD x hx) (ZFc.2 (h6 x hx2))),h4,?_,?_,?_⟩,fun x hx=>?_,hB⟩
  · rcases ZE4.1 he with q | q
    · exact .inr ⟨e,q,rfl,h3',id,id⟩
    · exact absurd h3' (by rw [h9 e q]; exact ZTl)
  · intro q
    rw [ZTf] at q
    rcases ZE4.1 q with q | q
    · exact qx.2.2.2.1 q
    · exact absurd lmb (ZFc.2 (h6 _ q))
  · intro q
    rcases ZE4.1 q with q | q
    · exact qx.2.2.2.2.1 q
    · exact absurd lmb (ZFc.2 (h7 _ q))
  · intro b hb hb2
    rw [ZTf] at hb
    rcases ZE4.1 hb with q | q
    · rcases ZE4.1 hb2 with q2 | q2
      · exact qx.2.2.2.2.2 b q q2
      · exact absurd (lD b q) (ZFc.2 (h7 _ q2))
    · rcases ZE4.1 hb2 with q2 | q2
      · exact absurd (lF b q2) (ZFc.2 (h6 _ q))
      · exact h8 b q q2
  · rcases ZEt.1 hx with rfl | hx
    · exact .inl ZTq
    · rcases ZE4.1 hx with q | q
      · rw [ZTf] at q
        rcases ZE4.1 q with q | q
        · exact .inl (ZTd _ (ZFi _ q))
        · exact .inr (h6 _ q)
      · rcases ZE4.1 q with q | q
        · exact .inl (ZTd _ (ZFj _ q))
        · exact .inr (h7 _ q)
section
variable {ops:Array Oper} {Q:Exit→Act→World→Prop} {m:Nat} {e:Env} {w:World} {rest:List Oper}
variable {X:Nat→Prop} {w0:World} {M Ps:List Vc.Item}
variable {d ty:Nat} {pos:String} {af:Array Edge}
theorem ZAo {C : Cx} {a : Alg} {n : Int} {cb ab mb : Nat} {u0 u1 : Value} {fpA : List Nat} {D B : List Lev} {F : List Nat} {x y : Operand} {at_ : Array Nat} (hok : Zek C a.degrees n)
    (hC:Ctx X w0 w (Z1 (vvI .i64) vvP mb (D.map Lev.key)::lvB 125 B::M) (cpP C D F::blk cb 198 [.pointer (some ⟨ab,0,none⟩),.map (some mb)]::blk ab 32 [u0,u1]::ZMm TAlg a [u0,u1] fpA::Ps))
    (hx:ev m e x=.pointer (some ⟨cb,0,none⟩)) (hy:ev m e y=.int .i64 n)
    (k:∀ (v:Lev) (new:List Lev) (F1:List Nat) (w':World),v.n=n→v∈D++new→(∀ x,x∈F1→w.heap.size≤x)→(∀ z,z∈new→z.c3=false)→Ctx X w0 w' (Z1 (vvI .i64) vvP mb ((D++new).map Lev.key)::lvB 125 (B++new)::M) (cpP C (D++new) (F++F1)::blk cb 198 [.pointer (some ⟨ab,0,none⟩),.map (some mb)]::blk ab 32 [u0,u1]::ZMm TAlg a [u0,u1] fpA::Ps) →
      BelB mb w w'→W ZMq ops Q rest m (upd e d (vvP v.b)) w') :
    W ZMq ops Q (⟨some d,.call { callee:=.value (.func 115),args:=#[x,y],argTypes:=at_ }, ty,pos,af,none⟩::rest) m e w:=by
  have hm:Z1 (vvI .i64) vvP mb (D.map Lev.key)∈Z1 (vvI .i64) vvP mb (D.map Lev.key)::lvB 125 B::M:=by simp
  have hd:cb≠mb∧ab≠mb∧mb∉fpA∧mb∉F :=
    ⟨fun q=>hC.pd _ (List.mem_of_getElem? (i:=1) rfl) cb (by simp [blk]) _ hm (by simp [Z1,q]),fun q=>hC.pd _ (List.mem_of_getElem? (i:=2) rfl) ab (by simp [blk]) _ hm (by simp [Z1,q]),
      fun q=>hC.pd _ (List.mem_of_getElem? (i:=3) rfl) mb q _ hm (by simp [Z1]),fun q=>hC.pd _ (List.mem_of_getElem? (i:=0) rfl) mb q _ hm (by simp [Z1])⟩
  refine Zf (l:=[x,y]) [.pointer (some ⟨cb,0,none⟩),.int .i64 n] _ ZUm rfl rfl (by simp [hx,hy]) (Zq2 C a n hok w (hC.getP 1 rfl) (hC.getP 2 rfl) (hC.getP 3 rfl) (hC.getM 0 rfl) (hC.getP 0 rfl) hd) (fun ret w' hR=>?_)
  obtain ⟨v,new,F1,rfl,h1,h2,h3,h4,h5,h6,h7,h8,h9,hB⟩:=hR
  have hlow:mb < w.heap.size:=ZTc _ _ (hC.getM 0 rfl) mb (by simp [Z1])
  refine⟨_,rfl,k v new F1 w' h1 h2 h7 h9 ?_ hB⟩
  have hT:=hC.turnMPN 0 0 (jt:=Z1 (vvI .i64) vvP mb ((D++new).map Lev.key)) (qt:=cpP C (D++new) (F++F1)) (nt:=lvB 125 new) rfl rfl ⟨hB.os,hB.tape,hB.output,hB.size,hB.drawn,fun c hc hne=>hB.old c hc (fun q=>hne (by simp [Z1,q]))⟩ h3 h4 h5 (fun b hb=>.inl hb)
    (fun b hb=>(ZE4.1 hb).elim .inl fun q=>.inr (h7 b q)) (fun b hb hb2=>by
      obtain rfl:b=mb:=by simpa [Z1] using hb2
      rcases ZE4.1 hb with q | q
      · exact hd.2.2.2 q
      · have:=h7 _ q; omega) h6 (fun b hb=>⟨fun q=>by
        obtain rfl:b=mb:=by simpa [Z1] using q
        have:=h6 _ hb; omega,fun q=>by
        rcases ZE4.1 q with q | q
        · exact absurd (ZTc _ _ (hC.getP 0 rfl) b q) (ZFc.2 (h6 b hb))
        · exact h8 b hb q⟩)
  have hT2:=(hT.permM ((List.Perm.cons _ (.swap _ _ _)).trans (.swap _ _ _))).gather (c:=lvB 125 (B++new)) (fun x hx=>by
    rw [show (lvB 125 (B++new)).fp=B.map (·.b)++new.map (·.b) from ZTf] at hx
    exact ZE4.1 hx) (fun g1 g2 gd=>Zqy g1 g2 gd)
  exact hT2.permM (.swap _ _ _)
end
end Go.Proofs.YtaagfepgbofmlaaGreat
set_option maxRecDepth 4000
set_option maxHeartbeats 4000000
namespace Go.Proofs.YtaagfepgbofmlaaGreat
open Go Go.RowKit Vc
variable {b0 bp0 b1 bp1 b2 bp2 b3 bp3 b4 bp4 b5 bp5 b6 bp6 b7 bp7 mb0:Nat} {u0_0 u0_1 u0_2 u0_3 u0_4 u0_5 u1_0 u1_1 u1_2 u1_3 u1_4 u1_5 u2_0 u2_1 u2_2 u2_3 u2_4 u2_5 u3_0 u3_1 u3_2 u3_3 u3_4 u3_5 u4_0 u4_1 u4_2 u4_3 u4_4 u4_5 u5_0 u5_1 u5_2 u5_3 u5_4 u5_5 u6_0 u6_1 u6_2 u6_3 u6_4 u6_5 u7_0 u7_1 u7_2 u7_3 u7_4 u7_5:Value} {fp0 fp1 fp2 fp3 fp4 fp5 fp6 fp7 fp0_0 fp0_1 fp0_2 fp0_3 fp0_4 fp0_5 fp1_0 fp1_1 fp1_2 fp1_3 fp1_4 fp1_5 F0:List Nat} {D0:List Lev}
theorem sc85:ScaT ZMq 85:=⟨⟨_,ZT8,rfl⟩,by kernel_rfl⟩
theorem Zbz (w:World):(Instr.buildSlice 85 0 #[]).run ZMq w=.ok (.slice (some ⟨w.heap.size,0,none⟩) 0 0) (w.alloc (.cells (ZMl []) 22)):=by kernel_rfl
theorem Zbe (x0:Value) (hx0:Zd2 x0) (w:World):(Instr.buildSlice 85 1 #[(0,x0)]).run ZMq w=.ok (.slice (some ⟨w.heap.size,0,none⟩) 1 1) (w.alloc (.cells (ZMl [x0]) 22)):=by obtain ⟨_,_,_,rfl⟩:=hx0; kernel_rfl
theorem Zbf:Zaf ZMq 22 (.slice none 0 0) 1 24:=by unfold Zaf; kernel_rfl
def Zj1 (C:Cx) (a0:Alg) (a1:Int) (K:Prop):Prop :=
 (Zek C a0.degrees a1∧((Zek C a0.degrees (ZHd.wrap (a1+1))∧Yb (fun i10 (s10:(List (List Int))) nx10=>Zd9 a0 (Yh ([]:List (A8×Int)) ((C.LV a1).getD i10 ZEx) 1) (fun r11=>Zfn (⟨C.LV (ZHd.wrap (a1+1)),C.PL (ZHd.wrap (a1+1))⟩:Vc.Lvl) r11 (fun r10=>(Z7 (s10.length+1) 24∧nx10 (s10++[r10]))))) (fun (s10:(List (List Int)))=>(s10=C.MX a1∧K)) ((C.LV a1).length) 0 [])∧K))
theorem ZAp (C:Cx) (a0:Alg) (a1:Int)  {K:Prop} (h:Zj1 C a0 a1 K) (w0:World) (q0:TAlg.rep a0 [u0_0,u0_1] fp0 w0) (qb0:(blk b0 32 [u0_0,u0_1]).holds w0) (qbp0:(blk bp0 198 [vQ b0,.map (some mb0)]).holds w0) (qx0:(cpx C 125 mb0 D0 F0).holds w0) (dq0:∀ b,b∈fp0→b∉(cpx C 125 mb0 D0 F0).fp) (db0:b0∉(cpx C 125 mb0 D0 F0).fp) (dbp0:bp0∉(cpx C 125 mb0 D0 F0).fp) :
  Calls ZMq 135 #[vQ bp0,vI a1] w0 fun e w'=>∃ (zb0:Nat) (Dz:List Lev) (Fz:List Nat),
   e=.returned (vvP zb0)∧K∧LvAt Dz a1 zb0 true false∧CpLe D0 Dz F0 Fz∧(cpx C 125 mb0 Dz Fz).holds w'∧(∀ x,x∈(cpx C 125 mb0 Dz Fz).fp→x∈(cpx C 125 mb0 D0 F0).fp∨w0.heap.size≤x)∧BelO ((cpx C 125 mb0 D0 F0).fp) w0 w':=by
 unfold Zj1 at h
 refine cof Tryz.func135 rfl 55 Tryz.ntmps135 ?_
 have hC:=Ctx.startL w0 ((cpx C 125 mb0 D0 F0).fp) [cpx C 125 mb0 D0 F0] [ZMm TAlg a0 [u0_0,u0_1] fp0,blk b0 32 [u0_0,u0_1],blk bp0 198 [vQ b0,.map (some mb0)]] (al1 qx0) (alc q0 (alc qb0 (al1 qbp0))) (al1 (fun b_ hb_=>hb_)) (ZU4 _ _) (alc (fun b_ hb_=>dq0 b_ hb_) (alc (Zi5 db0) (al1 (Zi5 dbp0))))
 replace hC:=hC.dAlg 0 rfl
 refine sr (Zc (v:=.pointer none) rfl (dn (sr (Za (v:=vQ bp0) rfl (Za (v:=vI a1) rfl ?_)))))
 obtain ⟨ho10,h⟩:=h
 refine Zf [vQ bp0,vI a1] _ ZUm rfl rfl rfl (Zq3 C a0 a1 ho10 _ (Xs (hC.getP 1 rfl) (hC.getP 0 rfl)) (hC.getP 3 rfl) (hC.getP 4 rfl) (hC.getM 0 rfl) (fun b_ hb hb2_=>(ZE4.1 hb).elim (fun hb=>hC.pdk 1 0 rfl rfl b_ hb hb2_) (fun hb=>hC.pdk 0 0 rfl rfl b_ hb hb2_)) (fun hx_=>hC.pdk 3 0 rfl rfl _ (ZTg _) hx_) (fun hx_=>hC.pdk 4 0 rfl rfl _ (ZTg _) hx_)) ?_
 rintro _ w9 ⟨b10,D10,F11,rfl,hat18,hle12,hx13,hf10,hB10⟩
 refine rt ?_
 replace hC:=hC.turnI 0 rfl (hB10.belO Zc0) hx13 hf10
 refine Zc (v:=vvP b10) rfl (dn (ZMn (sr (Za (v:=vvP b10) rfl (Xg rfl (Zu 2 ZTk rfl sc85.size rfl rfl ?_))))))
 obtain ⟨u12,u13,u11,u14,u15,u16,hb10,Ad10,n27,c10,hv10,hmd30⟩:=ZAa (hC.getM 0 rfl) hat18
 refine Yl (u11) (Jo (off:=2) (sz:=1) hb10 rfl) sc85 rfl ?_
 rcases Ad10 with _ | Ad11
 ·replace h:=h.1
  refine Zjx true ZT8 (tr rfl hv10) rfl rfl (dn (Yc rfl rfl (sr (Za (v:=vvP b10) rfl (Y4 (sz:=1) hC [] [] rfl (fun _=>Zbz _) rfl (by decide) fun b11 w11 hB_ hC=>?_)))))
  replace hC:=hC.pushM0 (Yj (ZTa 2 (eI.tr)) ([]:List (List Int)) [] []) (Zat _ _) rfl
  replace hC:=hC.gather (c:=ZM4 (ZTa 22 (ZTa 2 (eI.tr))) [] [.slice (some ⟨b11,0,none⟩) 0 0] ((ZNm (ZFq (.slice (some ⟨b11,0,none⟩) 0 0)))++([]:List (List Nat)).flatten)) (fun x_ hx_=>(ZE4.1 hx_).symm) (fun h1_ h2_ hd_=>Zah h2_ h1_ (fun b_ hb_ hb2_=>hd_ b_ hb2_ hb_))
  refine Xg rfl (Zu 2 ZTk rfl sc85.size rfl rfl ?_)
  replace hC:=hC.sM [1,0] (M':=[cpx C 125 mb0 D10 F11,ZM4 (ZTa 22 (ZTa 2 (eI.tr))) [] [.slice (some ⟨b11,0,none⟩) 0 0] ((ZNm (ZFq (.slice (some ⟨b11,0,none⟩) 0 0)))++([]:List (List Nat)).flatten)]) (by decide) rfl
  obtain ⟨D36,D37,ev38,rfl,hn10,hb11,hz41,hC⟩:=hC.focus hat18
  replace hC:=hC.derive 0 rfl (ZMm ((EA .i64).ty.sl) (C.LV a1) [ev38.vl] F11) (fun h_=>Zz3 h_ (by simp) hn10) (fun _ h_=>h_)
  refine Zx (v:=.slice (some ⟨b11,0,none⟩) 0 0) hC 0 [.slice (some ⟨b11,0,none⟩) 0 0] [ev38.vl,.map (some ev38.pb),.slice (some ⟨b11,0,none⟩) 0 0,ev38.vc,ev38.vd,ev38.vk] rfl sc85.size rfl rfl (Zlh (Tr.trep _ (hC.getM 3 rfl).1)) rfl (Xk (Zdz (Tr.trep _ (hC.getM 3 rfl).1)) rfl) (ZMw rfl) rfl fun w12 hC=>dn (sr (Za (v:=vQ bp0) rfl (Za (v:=vI a1) rfl (Zo rfl rfl ?_))))
  replace hC:=hC.sM [2,1,0,3] (M':=[Z1 (vvI .i64) vvP mb0 ((D36++ev38::D37).map Lev.key),lvB 125 (D36++D37),blk b10 125 [ev38.vl,.map (some ev38.pb),.slice (some ⟨b11,0,none⟩) 0 0,ev38.vc,ev38.vd,ev38.vk],ZM4 (ZTa 22 (ZTa 2 (eI.tr))) [] [.slice (some ⟨b11,0,none⟩) 0 0] ((ZNm (ZFq (.slice (some ⟨b11,0,none⟩) 0 0)))++([]:List (List Nat)).flatten)]) (by decide) rfl
  replace hC:=hC.sP [1,6,5,4,0,2,3] (Ps':=[cpP C (D36++ev38::D37) F11,blk bp0 198 [vQ b0,.map (some mb0)],blk b0 32 [u0_0,u0_1],ZMm TAlg a0 [u0_0,u0_1] fp0,ZMm ((EA .i64).ty.sl) (C.LV a1) [ev38.vl] F11,ZMm TForm.sl a0.images [u0_1] fp0,ZMm TInts a0.degrees [u0_0] fp0]) rfl
  obtain ⟨ho11,h⟩:=h
  have hz58:=hC.size
  refine ZAo ho11 hC rfl rfl (fun ev49 D50 F51 w13 hn11 hm10 hz55 hnw57 hC hB13=>?_)
  have hv12:ev49∈((D36++D37))++D50:=ZAb hm10 (fun q_=>ZAc a1 (hn11.symm.trans ((congrArg Lev.n q_).trans hn10)))
  refine Zc (v:=vvP ev49.b) rfl (dn (sr (Za (v:=vQ b10) rfl (Xg rfl (Zu 0 ZTk rfl sc122.size rfl rfl (Z5 hC 2 (ev38.vl) rfl sc122 rfl rfl (Zv hC 4 rfl ZTh rfl (Za (v:=vI 0) rfl (dn (ZMt ?_))))))))))
  have hN10:(C.LV a1).length≤9223372036854775807:=Yx (hC.getP 4 rfl)
  refine Yn (S:=(List (List Int))) _ _ (fun i10 s10 e_ w_=>∃ (v10:Value),∃ (f10:List Nat),Zt e_ [(0,vQ bp0),(5,vQ b10),(6,vvP ev49.b),(28,ev38.vl),(29,vI ((C.LV a1).length:Int)),(30,vI (i10:Int))]∧Ctx (fun c_=>c_∈(cpx C 125 mb0 D0 F0).fp) w0 w_ [Z1 (vvI .i64) vvP mb0 (((D36++ev38::D37)++D50).map Lev.key),lvB 125 ((D36++D37)++D50),blk b10 125 [ev38.vl,.map (some ev38.pb),v10,ev38.vc,ev38.vd,ev38.vk],ZM4 (ZTa 22 (ZTa 2 (eI.tr))) s10 [v10] f10] [cpP C ((D36++ev38::D37)++D50) (F11++F51),blk bp0 198 [vQ b0,.map (some mb0)],blk b0 32 [u0_0,u0_1],ZMm TAlg a0 [u0_0,u0_1] fp0,ZMm ((EA .i64).ty.sl) (C.LV a1) [ev38.vl] F11,ZMm TForm.sl a0.images [u0_1] fp0,ZMm TInts a0.degrees [u0_0] fp0]) ((C.LV a1).length) ?_ ?_ (s0:=[]) ?_ h
  ·clear hC h
   rintro i10 s10 e_ w14 nx10 K10 hi10 ⟨v10,f10,hS_,hC⟩ h hK10
   rw [ue hS_]
   refine sr (Zn rfl rfl (dn (ZMn (Yc rfl (decide_eq_true (by omega)) (ZMr (Zd (ZMn (ZMt (sr ?_)))))))))
   obtain ⟨Ad12,c11,hv11⟩:=Zw (hC.getP 4 rfl) i10 hi10
   refine Yo (len:=(C.LV a1).length) ZTh ag73.size (tr rfl hv11) rfl (Int.natCast_nonneg _) (Int.ofNat_lt.2 hi10) (Zak (ZMk .i64 ((C.LV a1).getD i10 ZEx)) (Ye (hC.getP 4 rfl) hv11 i10 hi10) ag73 rfl rfl (Yk hC (ZMk .i64 ZMs) z73 rfl fun b15 w15 hB_ hC=>Zx (v:=.agg (ZMl (ZMk .i64 ((C.LV a1).getD i10 ZEx)))) hC 0 (ZMk .i64 ((C.LV a1).getD i10 ZEx)) (ZMk .i64 ((C.LV a1).getD i10 ZEx)) rfl ag73.size rfl rfl rfl rfl rfl (ZMw rfl) rfl fun w16 hC=>dn ?_))
   refine Zlu 17 Yi [0,0,2,6,14,0,0,64,192,448,0,0,3072,7168,16320,32736,65504,131070,262143,524287,1048575] [4,9,11] [0,1,2,3,5,6,7,8,13] (fun hM11 hM10 w10 hB_=>?_)
   replace hC:=hC.grow hB_
   have hN_:w10.heap.size≤w10.heap.size:=ZEw _
   refine bMR (Yv _) 0 (vQ b10) rfl hM10 (Zb 21 1) (bMR (Yv _) 1 (vQ b10) rfl hM10 (Zb 21 3) (Zr (Yv _) 2 (vQ b10) rfl rfl (by kernel_rfl) (hM10 2 rfl) (fun w_=>.inl ⟨rfl,by exact Zae rfl⟩) (l9:=(Zb 21 7)) (by kernel_rfl) (Zr (Yv _) 3 (.pointer (some ⟨b10,2,none⟩)) rfl rfl (by kernel_rfl) (hM10 3 rfl) (fun w_=>.inl ⟨rfl,by exact Yf 2 ZTk rfl sc85.size rfl rfl⟩) (l9:=(Zb 21 15)) (by kernel_rfl) (Zag (Yv _) 4 (v10) rfl rfl (by kernel_rfl) (hM11 4 rfl) (fun w_ hB_=>.inl ⟨rfl,by exact Ya (hC.grow (Zb6 hB_)) 3 (v10) rfl sc85 rfl rfl⟩) (l9:=(Zb 21 31)) (by kernel_rfl) (bMR (Yv _) 5 (vvP ev49.b) rfl hM10 (Zb 21 63) (bMR (Yv _) 6 (vQ bp0) rfl hM10 (Zb 21 127) (Zr (Yv _) 7 (vQ bp0) rfl rfl (by kernel_rfl) (hM10 7 rfl) (fun w_=>.inl ⟨rfl,by exact Zae rfl⟩) (l9:=(Zb 21 255)) (by kernel_rfl) (Zr (Yv _) 8 (vQ bp0) rfl rfl (by kernel_rfl) (hM10 8 rfl) (fun w_=>.inl ⟨rfl,by exact Yf 0 ZT7 rfl sc66.size rfl rfl⟩) (l9:=(Zb 21 511)) (by kernel_rfl) (Zag (Yv _) 9 (vQ b0) rfl rfl (by kernel_rfl) (hM11 9 rfl) (fun w_ hB_=>.inl ⟨rfl,by exact Zdx (vQ b0) ((hC.grow (Zb6 hB_)).getP 1 rfl) sc66 rfl rfl⟩) (l9:=(Zb 21 1023)) (by kernel_rfl) (Zag (Yv _) 11 (.agg (ZMl (ZMk .i64 ((C.LV a1).getD i10 ZEx)))) rfl rfl (by kernel_rfl) (hM11 11 rfl) (fun w_ hB_=>.inl ⟨rfl,by exact Xf (hC.grow (Zb6 hB_)) 0 (ZMk .i64 ((C.LV a1).getD i10 ZEx)) rfl ag73 rfl rfl rfl⟩) (l9:=(Zb 21 3071)) (by kernel_rfl) (aO 10 rfl (Zdb hC (kvA .i64) (vvI .i64) fun b13 w17 hn_ hB_ hC=>?_))))))))))))
   have hnb_b197:=ZEy hN_ hn_
   refine done ?_
   refine Yu (X8 hN_ (by assumption)) hN_ (l9:=(Zb 21 4095)) (by kernel_rfl) (fun hN_=>?_)
   refine aO 12 rfl ?_
   refine Zab hC 0 ((C.LV a1).getD i10 ZEx) 1 rfl Jl Tryz.underlying115 rfl rfl rfl (fun w18 hBB_ hC=>?_) (.inr rfl)
   refine done ?_
   refine Yu (J2 hN_ hnb_b197 hBB_) hN_ (l9:=(Zb 21 8191)) (by kernel_rfl) (fun hN_=>?_)
   refine bMR (Yv _) 13 (.map (some b13)) rfl hM10 (Zb 21 16383) (aO 14 rfl (Zf [vQ b0,.map (some b13)] _ Tryz.func154 rfl rfl rfl (Zpr a0 (Yh ([]:List (A8×Int)) ((C.LV a1).getD i10 ZEx) 1) h _ (Xs (hC.getP 6 rfl) (hC.getP 5 rfl)) (hC.getP 2 rfl) (hC.getM 0 rfl)) ?_))
   rintro _ w19 ⟨r11,b14,rfl,h,hr10,hf11,hB11⟩
   refine rt ?_
   replace hC:=hC.push hB11 (mapS b14 r11) hr10 (fun b_ hb_=>by obtain rfl:=ZF6.1 hb_; exact hf11)
   refine done ?_
   refine Yu (X8 hN_ (by assumption)) hN_ (l9:=(Zb 21 32767)) (by kernel_rfl) (fun hN_=>?_)
   refine aO 15 rfl (Zf [vvP ev49.b,.map (some b14)] _ Tryz.func85 rfl rfl rfl (ZAh (⟨C.LV (ZHd.wrap (a1+1)),C.PL (ZHd.wrap (a1+1))⟩:Vc.Lvl) r11 h _ (Zz4 (hC.getP 0 rfl) hm10 hn11) (Zdl (hC.getM 4 rfl) hv12) (hC.getM 0 rfl)) ?_)
   rintro _ w20 ⟨r10,u10,f11,rfl,h,hr11,hf12,hB12⟩
   refine rt ?_
   replace hC:=hC.push hB12 (ZM4 (ZTa 2 (eI.tr)) r10 [u10] f11) hr11 hf12
   obtain ⟨ho12,hf13⟩:=Xn (hC.getM 0 rfl).1
   subst hf13
   replace hC:=hC.recast (c:=own 2 1 u10 r10.length (eI.encs r10)) (fun _ h_=>h_) (fun _=>ho12)
   refine done ?_
   refine Yu (X8 hN_ (by assumption)) hN_ (l9:=(Zb 21 65535)) (by kernel_rfl) (fun hN_=>?_)
   refine aO 16 rfl (Y4 (sz:=1) hC [(0,u10)] [u10] rfl (fun _=>Zbe u10 (Ze7 (hC.getM 0 rfl)) _) rfl (by decide) fun b12 w21 hB_ hC=>?_)
   replace hC:=hC.pushM0 (Yj (ZTa 2 (eI.tr)) [] [] []) (Zat _ _) rfl
   replace hC:=hC.sM [2,0,1,3,4,5,6,7,8,9] (M':=[own 2 1 u10 r10.length (eI.encs r10),Yj (ZTa 2 (eI.tr)) [] [] [],own 22 1 (.slice (some ⟨b12,0,none⟩) 1 1) 1 [u10],mapS b14 r11,mapS b13 (Yh ([]:List (A8×Int)) ((C.LV a1).getD i10 ZEx) 1),blk b15 73 (ZMk .i64 ((C.LV a1).getD i10 ZEx)),Z1 (vvI .i64) vvP mb0 (((D36++ev38::D37)++D50).map Lev.key),lvB 125 ((D36++D37)++D50),blk b10 125 [ev38.vl,.map (some ev38.pb),v10,ev38.vc,ev38.vd,ev38.vk],ZM4 (ZTa 22 (ZTa 2 (eI.tr))) s10 [v10] f10]) (by decide) rfl
   replace hC:=hC.gather (c:=Yj (ZTa 2 (eI.tr)) [r10] [u10] [(ZNm (ZFq u10))]) (fun x_ hx_=>Zgi hx_) (fun h1_ h2_ hd_=>Ze6 (c:=[u10]) (id (Xy h1_)) h2_ hd_)
   replace hC:=hC.sM [1,0,2,3,4,5,6,7,8] (M':=[own 22 1 (.slice (some ⟨b12,0,none⟩) 1 1) 1 [u10],Yj (ZTa 2 (eI.tr)) [r10] [u10] [(ZNm (ZFq u10))],mapS b14 r11,mapS b13 (Yh ([]:List (A8×Int)) ((C.LV a1).getD i10 ZEx) 1),blk b15 73 (ZMk .i64 ((C.LV a1).getD i10 ZEx)),Z1 (vvI .i64) vvP mb0 (((D36++ev38::D37)++D50).map Lev.key),lvB 125 ((D36++D37)++D50),blk b10 125 [ev38.vl,.map (some ev38.pb),v10,ev38.vc,ev38.vd,ev38.vk],ZM4 (ZTa 22 (ZTa 2 (eI.tr))) s10 [v10] f10]) (by decide) rfl
   replace hC:=hC.gather (c:=ZM4 (ZTa 22 (ZTa 2 (eI.tr))) [r10] [.slice (some ⟨b12,0,none⟩) 1 1] ((ZNm (ZFq (.slice (some ⟨b12,0,none⟩) 1 1)))++([(ZNm (ZFq u10))]:List (List Nat)).flatten)) (fun x_ hx_=>ZE4.1 hx_) (fun h1_ h2_ hd_=>Zah h1_ h2_ hd_)
   refine done ?_
   refine Yu (X8 hN_ (by assumption)) hN_ (l9:=(Zb 21 131071)) (by kernel_rfl) (fun hN_=>?_)
   refine aO 17 rfl ?_
   replace hC:=hC.sM [7,0,1,2,3,4,5,6] (M':=[ZM4 (ZTa 22 (ZTa 2 (eI.tr))) s10 [v10] f10,ZM4 (ZTa 22 (ZTa 2 (eI.tr))) [r10] [.slice (some ⟨b12,0,none⟩) 1 1] ((ZNm (ZFq (.slice (some ⟨b12,0,none⟩) 1 1)))++([(ZNm (ZFq u10))]:List (List Nat)).flatten),mapS b14 r11,mapS b13 (Yh ([]:List (A8×Int)) ((C.LV a1).getD i10 ZEx) 1),blk b15 73 (ZMk .i64 ((C.LV a1).getD i10 ZEx)),Z1 (vvI .i64) vvP mb0 (((D36++ev38::D37)++D50).map Lev.key),lvB 125 ((D36++D37)++D50),blk b10 125 [ev38.vl,.map (some ev38.pb),v10,ev38.vc,ev38.vd,ev38.vk]]) (by decide) rfl
   obtain ⟨hm11,h⟩:=h
   refine Zgh hC ZT8 Zbf rfl (by decide) (by decide) rfl rfl hm11 fun v11 f12 w22 hC=>done (Zf6 (by decide) (l9:=(Zb 21 262143)) (by kernel_rfl) (Zz 18 (by decide) (by decide) (by kernel_rfl) (by kernel_rfl) rfl (Xg rfl (Zu 2 ZTk rfl sc85.size rfl rfl (Zx (v:=v11) hC 6 [v11] [ev38.vl,.map (some ev38.pb),v11,ev38.vc,ev38.vd,ev38.vk] rfl sc85.size rfl rfl (Zlh (Tr.trep _ (hC.getM 0 rfl).1)) rfl (Xk (Zdz (Tr.trep _ (hC.getM 0 rfl).1)) rfl) (ZMw rfl) rfl fun w23 hC=>done (Z0 (Zq (Zd (Zg (Zo rfl rfl (Za (v:=vI (ZHd.wrap ((i10:Int)+1))) rfl (done ?_))))))))))))
   exact hK10 (s10++[r10]) _ _ ⟨v11,f12,(sl ⟨rfl,rfl,rfl,rfl,rfl,(tr rfl (congrArg _ (Z6 hi10 hN10))),trivial⟩),(hC.xM [4,5,6,0] rfl)⟩ h
  ·clear hC h
   rintro s10 e_ w24 K10 ⟨v10,f10,hS_,hC⟩ h
   rw [ue hS_]
   refine sr (Zn rfl rfl (dn (ZMn (Z2 rfl (decide_eq_false (by omega)) ?_))))
   refine wp_exit (Zh (Zh (Zy ?_)))
   refine Zd (sr (Za (v:=vQ b10) rfl (Zc (v:=vQ b10) rfl (dn (ZMv ?_)))))
   obtain ⟨hmx234,h⟩:=h
   obtain ⟨D235,F236,hle237,hat238,hx239,hf14⟩:=ZAd (n:=a1) (hC.getM 0 rfl) (hC.getM 1 rfl) (hC.getM 2 rfl) (hC.getP 0 rfl) (hmx234 ▸ (hC.getM 3 rfl)) hn10 hb11 (hC.mm 0 2 rfl rfl (by decide)) (hC.mm 0 1 rfl rfl (by decide)) (hC.mm 0 3 rfl rfl (by decide)) (hC.mm 2 1 rfl rfl (by decide)) (hC.mm 2 3 rfl rfl (by decide)) (hC.mm 1 3 rfl rfl (by decide)) (fun x_ hx_ hy_=>hC.pdk 0 0 rfl rfl x_ hx_ hy_) (fun x_ hx_ hy_=>hC.pdk 0 2 rfl rfl x_ hx_ hy_) (fun x_ hx_ hy_=>hC.pdk 0 1 rfl rfl x_ hx_ hy_) hnw57
   exact Zi rfl (Ze rfl) ⟨b10,D235,F236,rfl,h,hat238,(hle12.trans hle237),hx239,(fun x_ hx_=>((hf14 x_ hx_).elim (hC.anyX 0 rfl x_) (fun q_=>q_.elim (hC.anyX 2 rfl x_) (fun q_=>q_.elim (hC.anyX 1 rfl x_) (fun q_=>q_.elim (hz41 x_) (fun q_=>q_.elim (fun q_=>.inl (ZEy hz58 (hz55 x_ q_))) (hC.anyX 3 rfl x_)))))).symm),hC.belO⟩ (.inl rfl)
  ·skip
   exact⟨.slice (some ⟨b11,0,none⟩) 0 0,((ZNm (ZFq (.slice (some ⟨b11,0,none⟩) 0 0)))++([]:List (List Nat)).flatten),(slq rfl),hC⟩
 ·replace h:=h.2
  refine Zjx false ZT8 (tr rfl hv10) rfl rfl ?_
  have hat32:=hmd30 _ rfl
  refine dn (Z2 rfl rfl (ZMr (Zd (sr (Za (v:=vvP b10) rfl (Zc (v:=vvP b10) rfl (dn (ZMv ?_))))))))
  exact Zi rfl (Ze rfl) ⟨b10,D10,F11,rfl,h,hat32,hle12,(hC.getM 0 rfl),(fun x_ hx_=>(hC.anyX 0 rfl x_ hx_).symm),hC.belO⟩ (.inl rfl)
end Go.Proofs.YtaagfepgbofmlaaGreat
namespace Go.Proofs.YtaagfepgbofmlaaGreat
open Go Go.RowKit Vc
def Zho (C:Cx) (a:Alg) (n:Int):Prop:=Zj1 C a n True
theorem Zq4 (C:Cx) (a:Alg) (n:Int) {cb ab mb:Nat} {u0 u1:Value} {fpA:List Nat} {D:List Lev} {F:List Nat} (h:Zho C a n) (w0:World)
    (q0:TAlg.rep a [u0,u1] fpA w0) (qa:(blk ab 32 [u0,u1]).holds w0) (qc:(blk cb 198 [.pointer (some ⟨ab,0,none⟩),.map (some mb)]).holds w0) (qx:(cpx C 125 mb D F).holds w0)
    (dq:∀ b,b∈fpA→b∉(cpx C 125 mb D F).fp) (da:ab∉(cpx C 125 mb D F).fp) (dc:cb∉(cpx C 125 mb D F).fp) :
    Calls ZMq 135 #[.pointer (some ⟨cb,0,none⟩),.int .i64 n] w0 fun e w'=>∃ (b:Nat) (D':List Lev) (F':List Nat),
      e=.returned (vvP b)∧LvAt D' n b true false∧CpLe D D' F F'∧(cpx C 125 mb D' F').holds w'∧(∀ x,x∈(cpx C 125 mb D' F').fp→x∈(cpx C 125 mb D F).fp∨w0.heap.size≤x)∧BelO (cpx C 125 mb D F).fp w0 w':=by
  refine(ZAp C a n h w0 q0 qa qc qx dq da dc).mono ?_
  rintro e w' ⟨b,D',F',h1,_,h2⟩
  exact⟨b,D',F',h1,h2⟩
end Go.Proofs.YtaagfepgbofmlaaGreat
