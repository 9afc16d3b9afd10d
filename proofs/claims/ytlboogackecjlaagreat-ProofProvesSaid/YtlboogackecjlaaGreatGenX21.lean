/- Texts, merged: Pv10, Pv11, Pv12, Pr10. No conditions. -/
import Derived.Test.YtlboogackecjlaaGreatPv9
import Derived.Test.YtlboogackecjlaaGreatPv8
import Derived.Test.YtlboogackecjlaaGreatGenX18
/- proof: types stay bounded. No conditions. -/
set_option linter.unusedVariables false
set_option linter.unusedSimpArgs false
namespace Go.Proofs.YtlboogackecjlaaGreat.E
open Go

theorem nodesL_mem' : ∀ (l : List Ty) (t : Ty), t ∈ l → nodes t ≤ nodesL l
  | x :: l, t, h => by
    simp only [nodesL]
    rcases List.mem_cons.1 h with rfl | h
    · omega
    · have := nodesL_mem' l t h; omega
theorem tyok_nodes (a : Ty) : nodes a ≤ 100000 → TyOk a := by
  induction a using Ty.ind with
  | _ k ks ih =>
  intro h
  simp only [nodes] at h
  have hl := nodesL_len ks
  exact .node (by omega) fun t ht => ih t ht (by have := nodesL_mem' ks t ht; omega)
theorem tyok_unk : TyOk unk := .node (by simp) (by simp)
theorem tyok_kid {k : Int} {ks : List Ty} (h : TyOk (.node k ks)) {t : Ty} (ht : t ∈ ks) : TyOk t := by
  cases h with
  | node h1 h2 => exact h2 t ht
theorem tyok_getD {k : Int} {ks : List Ty} (h : TyOk (.node k ks)) (i : Nat) : TyOk (ks.getD i unk) := by
  rw [List.getD_eq_getElem?_getD]
  cases hx : ks[i]? with
  | none => exact tyok_unk
  | some x => exact tyok_kid h (List.mem_of_getElem? hx)
theorem tyok_asL (q : Int) {a : Ty} (h : TyOk a) : TyOk (asL q a) := by
  obtain ⟨k, ks⟩ := a
  simp only [asL]
  split
  · exact tyok_getD h 0
  · exact tyok_unk
theorem tyok_asR (q : Int) {a : Ty} (h : TyOk a) : TyOk (asR q a) := by
  obtain ⟨k, ks⟩ := a
  simp only [asR]
  split
  · exact tyok_getD h 1
  · exact tyok_unk
theorem tyok_two (q : Int) {a b : Ty} (ha : TyOk a) (hb : TyOk b) : TyOk (.node q [a, b]) :=
  .node (by simp) fun t ht => by
    simp at ht
    rcases ht with rfl | rfl
    · exact ha
    · exact hb
theorem tyok_one (q : Int) : TyOk (.node q []) := .node (by simp) (by simp)
theorem meet_nodes (a : Ty) : ∀ b, nodes (meetF a b) ≤ nodes a + nodes b := by
  induction a using Ty.ind with
  | _ k ks ih =>
  rintro ⟨k', ks'⟩
  have hs : ∀ (l l' : List Ty), (∀ t ∈ l, ∀ b, nodes (meetF t b) ≤ nodes t + nodes b) → nodesL (meetL l l') ≤ nodesL l + nodesL l' := fun l => by
    induction l with
    | nil => intro l' _; simp [meetL, nodesL]
    | cons x l il =>
      intro l' h
      cases l' with
      | nil => simp [meetL, nodesL]
      | cons y l' =>
        have h1 := h x (by simp) y
        have h2 := il l' fun t ht => h t (by simp [ht])
        simp only [meetL, nodesL]; omega
  have := hs ks ks' ih
  simp only [meetF]
  split
  · simp only [nodes]; omega
  · split
    · simp only [nodes]; omega
    · simp only [nodes]; omega
theorem tyok_meet (a b : Ty) : TyOk (MeetS a b) := by
  unfold MeetS
  split
  · rename_i h
    have : tcheck a = 0 ∧ tcheck b = 0 := by
      simp [agreeS] at h
      exact ⟨h.1.1, h.1.2⟩
    have hn : ∀ {c : Ty}, tcheck c = 0 → nodes c ≤ 8192 := fun {c} h => by
      unfold tcheck at h
      split at h
      · cases h
      · omega
    have h1 := hn this.1
    have h2 := hn this.2
    have h3 := meet_nodes a b
    exact tyok_nodes _ (by omega)
  · exact tyok_one 0
theorem tyok_K {K : List Ty} (h : ∀ a ∈ K, TyOk a) (i : Nat) : TyOk (K.getD i unk) := by
  rw [List.getD_eq_getElem?_getD]
  cases hx : K[i]? with
  | none => exact tyok_unk
  | some x => exact h x (List.mem_of_getElem? hx)
theorem tyok_ite {c : Prop} [Decidable c] {x y : Ty × Bool} (hx : TyOk x.1) (hy : TyOk y.1) : TyOk (if c then x else y).1 := by split <;> assumption
theorem tyok_ite1 {c : Prop} [Decidable c] {x y : Ty} (hx : TyOk x) (hy : TyOk y) : TyOk (if c then x else y) := by split <;> assumption
theorem ruleM_ok (k : Int) (name : ByteArray) {T U : Ty} {K : List Ty} (hT : TyOk T) (hU : TyOk U) (hK : ∀ a ∈ K, TyOk a) : TyOk (ruleM k name T U K).1 := by
  have ha := tyok_K hK 0
  have hb := tyok_K hK 1
  have hc := tyok_K hK 2
  unfold ruleM
  dsimp only
  repeat' first | exact tyok_meet _ _ | refine tyok_ite ?_ ?_ | refine tyok_ite1 ?_ ?_
  all_goals first | exact tyok_one _ | exact tyok_two _ hT ha | exact tyok_two _ hT hU | exact tyok_unk | exact tyok_asR _ ha | exact hb | exact tyok_meet _ _ | exact tyok_two _ ha hb | exact tyok_asL _ ha | exact tyok_two _ (tyok_asL _ hT) (tyok_asR _ hT) | exact hT
theorem findB_ok {l : List Bd} (hl : ∀ b ∈ l, TyOk b.a) (s : ByteArray) : TyOk ((findB l s).getD unk) := by
  unfold findB
  cases h : l.reverse.find? fun b => decide (b.name = s) with
  | none => exact tyok_unk
  | some b => exact hl b (List.mem_reverse.1 (List.mem_of_find?_eq_some h))
theorem innerM_ok (k : Int) (name arg : ByteArray) {T U : Ty} {l : List Bd} (i : Nat) {a : Ty} (hT : TyOk T) (hU : TyOk U) (hl : ∀ b ∈ l, TyOk b.a) (ha : TyOk a) : ∀ b ∈ innerM k name arg T U l i a, TyOk b.a := by
  intro b hb
  unfold innerM at hb
  have one : ∀ x : Bd, TyOk x.a → b ∈ l ++ [x] → TyOk b.a := fun x hx h => by
    rcases List.mem_append.1 h with h | h
    · exact hl b h
    · simp at h; subst h; exact hx
  split at hb
  · exact one _ hT hb
  · split at hb
    · rcases List.mem_append.1 hb with h | h
      · exact hl b h
      · simp at h
        rcases h with rfl | rfl
        · exact tyok_two _ hT hU
        · exact hT
    · split at hb
      · split at hb
        · exact one _ (tyok_asL _ ha) hb
        · exact one _ (tyok_asR _ ha) hb
      · exact hl b hb
end Go.Proofs.YtlboogackecjlaaGreat.E

/- proof: derive computes drv. No conditions. -/
set_option linter.unusedVariables false
set_option linter.unusedSimpArgs false
namespace Go.Proofs.YtlboogackecjlaaGreat.E
open Go

theorem drv_ok (t : Tm) : Fine2 t → ∀ (l : List Bd) (p : Option Pf), (∀ b ∈ l, TyOk b.a) → TyOk (drv t l p).1.ty := by
  induction t using Tm.ind with
  | _ k name arg num tk tks uk uks label place ks ih =>
  rintro (⟨hT, hU, _, hks⟩) l p hl
  have hs : ∀ (ks : List Tm), (∀ t ∈ ks, Fine2 t → ∀ (l : List Bd) (p : Option Pf), (∀ b ∈ l, TyOk b.a) → TyOk (drv t l p).1.ty) → (∀ t ∈ ks, Fine2 t) → ∀ (i : Nat) (a : Ty), TyOk a →
      ∀ q ∈ (drvs k name arg (.node tk tks) (.node uk uks) l p ks i a).1, TyOk q.ty := fun ks => by
    induction ks with
    | nil => intro _ _ i a _ q hq; simp [drvs] at hq
    | cons t r ir =>
      intro h1 h2 i a ha q hq
      have hq1 := h1 t (by simp) (h2 t (by simp)) (innerM k name arg (.node tk tks) (.node uk uks) l i a) (pkid p i) (innerM_ok k name arg i hT hU hl ha)
      simp only [drvs] at hq
      split at hq
      · simp only [List.mem_cons] at hq
        rcases hq with rfl | hq
        · exact hq1
        · refine ir (fun t ht => h1 t (by simp [ht])) (fun t ht => h2 t (by simp [ht])) _ _ ?_ q hq
          split
          · exact hq1
          · exact ha
      · simp at hq
  rw [drv]
  split
  · exact tyok_unk
  · unfold drvF
    split
    · exact tyok_unk
    · have hK := hs ks ih hks 0 unk tyok_unk
      have : TyOk (if k = 0 then ((findB l name).getD unk, (findB l name).isSome) else ruleM k name (.node tk tks) (.node uk uks) ((drvs k name arg (.node tk tks) (.node uk uks) l p ks 0 unk).1.map Pf.ty)).1 := by
        refine tyok_ite (findB_ok hl name) (ruleM_ok k name hT hU fun a ha => ?_)
        obtain ⟨q, hq, rfl⟩ := List.mem_map.1 ha
        exact hK q hq
      exact this
theorem drvs_ok (k : Int) (name arg : ByteArray) {T U : Ty} (l : List Bd) (p : Option Pf) (hT : TyOk T) (hU : TyOk U) (hl : ∀ b ∈ l, TyOk b.a) : ∀ (ks : List Tm), (∀ t ∈ ks, Fine2 t) → ∀ (i : Nat) (a : Ty), TyOk a →
    ∀ q ∈ (drvs k name arg T U l p ks i a).1, TyOk q.ty
  | [], _, i, a, _, q, hq => by simp [drvs] at hq
  | t :: r, h2, i, a, ha, q, hq => by
    have hq1 := drv_ok t (h2 t (by simp)) (innerM k name arg T U l i a) (pkid p i) (innerM_ok k name arg i hT hU hl ha)
    simp only [drvs] at hq
    split at hq
    · simp only [List.mem_cons] at hq
      rcases hq with rfl | hq
      · exact hq1
      · refine drvs_ok k name arg l p hT hU hl r (fun t ht => h2 t (by simp [ht])) _ _ ?_ q hq
        split
        · exact hq1
        · exact ha
    · simp at hq
theorem derive_all (t : Tm) : Fine2 t → tmright t = true → tmhas 17 t = false → ∀ (l : List Bd) (p : Option Pf), l.length + 2 * tmN t ≤ 90000 → (∀ b ∈ l, TyOk b.a) →
    ACall Tryz.prog 19 [.c (.mp 0), .c (.d (.rp 0 t.cells)), .c (.d (.sl 0 3 (bds l))), .c (.d (pV p))] [.mp (.int .i8) 16 rulesM]
      (fun o σ => o = .ret (.tup [(drv t l p).1.val, .c (.d (.bool (drv t l p).2))]) ∧ σ = [.mp (.int .i8) 16 rulesM]) := by
  induction t using Tm.ind with
  | _ k name arg num tk tks uk uks label place ks ih =>
  rintro (⟨hT, hU, hlen, hks⟩) hr h17 l p hl hb
  have h17' : ¬ k = 17 ∧ tmhass 17 ks = false := by simpa [tmhas] using h17
  have hv := tmright_valid hr
  have hv : 0 ≤ k ∧ k ≤ 17 := by simpa [validK] using hv
  have hN := tmN_pos (.node k name arg num tk tks uk uks label place ks)
  have hD := drvs_ok k name arg l p hT hU hb ks hks 0 unk tyok_unk
  refine derive_call k ⟨hv.1, by omega⟩ name arg num tk tks uk uks label place ks l p hlen (by omega) (by have := tmright_len hr; omega) (fun L hL => ?_) (fun l' => ∀ b ∈ l', TyOk b.a) (fun i zs X h => ?_) (fun t ht l' p' hl' hb' => ?_)
  · refine tyok_ite (findB_ok hb name) (ruleM_ok k name hT hU fun a ha => ?_)
    obtain ⟨q, hq, rfl⟩ := List.mem_map.1 ha
    exact hD q (by rw [hL]; exact hq)
  · refine innerM_ok k name arg i hT hU hb ?_
    cases zs with
    | nil => exact tyok_unk
    | cons z zs => exact hD z (by rw [h]; simp)
  · have h1 := tmN_mem ks t ht
    have h2 : tmN t + 1 ≤ tmN (.node k name arg num tk tks uk uks label place ks) := by simp only [tmN]; omega
    refine ih t ht (hks t ht) (tmright_kid hr ht) ?_ l' p' (by omega) hb'
    cases e : tmhas 17 t with
    | false => rfl
    | true => rw [tmhass_mem 17 ks t ht e] at h17'; exact absurd h17'.2 (by simp)
end Go.Proofs.YtlboogackecjlaaGreat.E

/- proof: Proves, for every derivation and term. No conditions. -/
set_option linter.unusedVariables false
set_option linter.unusedSimpArgs false
namespace Go.Proofs.YtlboogackecjlaaGreat.E
open Go

theorem soundP_ok {t : Tm} (h : soundP t = 0) : tmcheck t = 0 ∧ tmhas 17 t = false := by
  unfold soundP at h
  split at h
  · rename_i h1; exact absurd h h1
  · rename_i h1
    split at h
    · cases h
    · rename_i h2; exact ⟨by simpa using h1, by simpa using h2⟩
set_option maxRecDepth 10000 in
theorem Proves_all (p : Pf) (t : Tm) (hf : tmcheck t = 0 → Fine2 t) : ACall Tryz.prog 7 [p.val, t.val] [] (fun o σ => o = .ret (.c (.d (.bool (decide (soundP t = 0) && (drv t [] (some p)).2)))) ∧ σ = []) := by
  have c1 := psound_call t
  by_cases h : soundP t = 0
  · obtain ⟨h1, h2⟩ := soundP_ok h
    obtain ⟨h3, h4⟩ := tmcheck_ok h1
    have c3 := derive_all t (hf h1) h4 h2 [] (some p) (by simp; omega) (by simp)
    rw [h] at c1
    simp only [h, decide_true, Bool.true_and]
    generalize drv t [] (some p) = q at *
    clear h h1 h2 h3 h4 hf
    obtain ⟨⟨qr, ⟨qk, qks⟩, qqs⟩, bq⟩ := q
    obtain ⟨k, name, arg, num, tk, tks, uk, uks, label, place, ks⟩ := t
    obtain ⟨pr, ⟨pk, pks⟩, pqs⟩ := p
    refine ACall.body tab_ok (ρ := 0) (N := 15) Tryz.func7 rfl rfl rfl rfl rfl ?_
    repeat' first | refine AW.seq ?_ | refine AW.block ?_ | ((first | refine AW.region tab_ok ?_ | refine AW.cond ?_ | refine AW.skip ?_ | refine AW.ret ?_ | refine AW.exit ?_); conv => whnf) | ((first | refine (c1).mono ?_ | refine (table_call).mono ?_ | refine (c3).mono ?_); rintro _ _ ⟨rfl, rfl⟩; conv => whnf) | ((first | refine And.intro (@rfl Val _) ?_ | refine And.intro (by decide) ?_ | refine cs (fun _ => ?_) (fun _ => ?_)) <;> conv => whnf)
    all_goals exact ⟨rfl, rfl⟩
  · simp only [h, decide_false, Bool.false_and]
    generalize soundP t = S at *
    obtain ⟨k, name, arg, num, tk, tks, uk, uks, label, place, ks⟩ := t
    obtain ⟨pr, ⟨pk, pks⟩, pqs⟩ := p
    refine ACall.body tab_ok (ρ := 0) (N := 15) Tryz.func7 rfl rfl rfl rfl rfl ?_
    repeat' first | ((refine cs (fun _ => ?_) (fun g => absurd g (by simpa using h)); conv => whnf)) | refine AW.seq ?_ | refine AW.block ?_ | ((first | refine AW.region tab_ok ?_ | refine AW.cond ?_ | refine AW.skip ?_ | refine AW.ret ?_ | refine AW.exit ?_); conv => whnf) | (refine (c1).mono ?_; rintro _ _ ⟨rfl, rfl⟩; conv => whnf) | ((first | refine And.intro (@rfl Val _) ?_ | refine And.intro (by decide) ?_ | refine cs (fun _ => ?_) (fun _ => ?_)) <;> conv => whnf)
    all_goals exact ⟨rfl, rfl⟩
end Go.Proofs.YtlboogackecjlaaGreat.E

/- The document's derivations: Sound, Find, Same, Proves. No conditions. -/
set_option linter.unusedVariables false
set_option linter.unusedSimpArgs false
namespace Go.Proofs.YtlboogackecjlaaGreat.E
open Go

set_option maxRecDepth 10000 in
theorem RSound_call (t : Tm) : ACall Tryz.prog 22 [t.val, .c (.d (.int .i8 17))] [] (fun o σ => o = .ret (.c (.d (.int .i64 (soundP t)))) ∧ σ = []) := by
  have c1 := rtmCheck_call t
  by_cases hc : tmcheck t = 0
  · have c2 := rhas_call 17 t (tmcheck_ok hc).1
    have e : soundP t = if tmhas 17 t = true then 30 else 0 := by simp [soundP, hc]
    rw [e]
    rw [hc] at c1
    generalize tmhas 17 t = b at *
    clear hc e
    obtain ⟨k, name, arg, num, tk, tks, uk, uks, label, place, ks⟩ := t
    refine ACall.body tab_ok (ρ := 0) (N := 14) Tryz.func22 rfl rfl rfl rfl rfl ?_
    repeat' first | refine AW.seq ?_ | refine AW.block ?_ | ((first | refine AW.region tab_ok ?_ | refine AW.cond ?_ | refine AW.skip ?_ | refine AW.ret ?_ | refine AW.exit ?_); conv => whnf) | ((first | refine (c1).mono ?_ | refine (c2).mono ?_); rintro _ _ ⟨rfl, rfl⟩; conv => whnf) | ((first | refine And.intro (@rfl Val _) ?_ | refine And.intro (by decide) ?_ | refine cs (fun _ => ?_) (fun _ => ?_)) <;> conv => whnf)
    · rename_i h
      rw [if_pos h]
      exact ⟨rfl, rfl⟩
    · rename_i h
      rw [if_neg (by simp [h])]
      exact ⟨rfl, rfl⟩
  · have e : soundP t = tmcheck t := by simp [soundP, hc]
    rw [e]
    generalize tmcheck t = cc at *
    clear e
    obtain ⟨k, name, arg, num, tk, tks, uk, uks, label, place, ks⟩ := t
    refine ACall.body tab_ok (ρ := 0) (N := 14) Tryz.func22 rfl rfl rfl rfl rfl ?_
    repeat' first | ((refine cs (fun _ => ?_) (fun h => absurd h (by simpa using hc)); conv => whnf)) | refine AW.seq ?_ | refine AW.block ?_ | ((first | refine AW.region tab_ok ?_ | refine AW.cond ?_ | refine AW.skip ?_ | refine AW.ret ?_ | refine AW.exit ?_); conv => whnf) | (refine (c1).mono ?_; rintro _ _ ⟨rfl, rfl⟩; conv => whnf) | ((first | refine And.intro (@rfl Val _) ?_ | refine And.intro (by decide) ?_ | refine cs (fun _ => ?_) (fun _ => ?_)) <;> conv => whnf)
    exact ⟨rfl, rfl⟩
def rfindE (t : Tm) : Int := if soundP t ≠ 0 then soundP t else if (rul t []).2.e = 0 then 0 else 100
def rfindP (t : Tm) : Pf := if rfindE t = 0 then dvd t [] else pf0
set_option maxRecDepth 10000 in
theorem RFindP_call (t : Tm) : ACall Tryz.prog 10 [t.val] [] (fun o σ => o = .ret (.tup [(rfindP t).val, .c (.d (.int .i64 (rfindE t)))]) ∧ σ = []) := by
  have c1 := RSound_call t
  by_cases h : soundP t = 0
  · obtain ⟨h1, h2⟩ := soundP_ok h
    obtain ⟨h3, h4⟩ := tmcheck_ok h1
    have c2 := Rules_call t h4 h2 [] (by simp; omega)
    have c3 := derived_call t h4 h2 [] (by simp; omega)
    rw [h] at c1
    have e1 : rfindE t = if (rul t []).2.e = 0 then 0 else 100 := by simp [rfindE, h]
    unfold rfindP
    rw [e1]
    generalize rul t [] = q at *
    generalize dvd t [] = d at *
    clear h h1 h2 h3 h4 e1
    obtain ⟨⟨qk, qks⟩, ⟨e, x, w⟩⟩ := q
    obtain ⟨dr, ⟨dk, dks⟩, ds⟩ := d
    obtain ⟨k, name, arg, num, tk, tks, uk, uks, label, place, ks⟩ := t
    dsimp only at *
    by_cases he : e = 0
    · subst he
      rw [if_pos rfl, if_pos rfl]
      refine ACall.body tab_ok (ρ := 0) (N := 24) Tryz.func10 rfl rfl rfl rfl rfl ?_
      repeat' first | refine AW.seq ?_ | refine AW.block ?_ | ((first | refine AW.region tab_ok ?_ | refine AW.cond ?_ | refine AW.skip ?_ | refine AW.ret ?_ | refine AW.exit ?_); conv => whnf) | ((first | refine (c1).mono ?_ | refine (c2).mono ?_ | refine (c3).mono ?_); rintro _ _ ⟨rfl, rfl⟩; conv => whnf) | ((first | refine And.intro (@rfl Val _) ?_ | refine And.intro (by decide) ?_ | refine cs (fun _ => ?_) (fun _ => ?_)) <;> conv => whnf)
      all_goals first | exact ⟨rfl, rfl⟩
    · rw [if_neg he, if_neg (by decide)]
      refine ACall.body tab_ok (ρ := 0) (N := 24) Tryz.func10 rfl rfl rfl rfl rfl ?_
      repeat' first | ((refine cs (fun _ => ?_) (fun g => absurd g (by simpa using he)); conv => whnf)) | refine AW.seq ?_ | refine AW.block ?_ | ((first | refine AW.region tab_ok ?_ | refine AW.cond ?_ | refine AW.skip ?_ | refine AW.ret ?_ | refine AW.exit ?_); conv => whnf) | ((first | refine (c1).mono ?_ | refine (c2).mono ?_ | refine (c3).mono ?_); rintro _ _ ⟨rfl, rfl⟩; conv => whnf) | ((first | refine And.intro (@rfl Val _) ?_ | refine And.intro (by decide) ?_ | refine cs (fun _ => ?_) (fun _ => ?_)) <;> conv => whnf)
      all_goals first | exact ⟨rfl, rfl⟩
  · have e1 : rfindE t = soundP t := by simp [rfindE, h]
    have e2 : rfindP t = pf0 := by simp [rfindP, e1, h]
    rw [e1, e2]
    generalize soundP t = S at *
    obtain ⟨k, name, arg, num, tk, tks, uk, uks, label, place, ks⟩ := t
    refine ACall.body tab_ok (ρ := 0) (N := 24) Tryz.func10 rfl rfl rfl rfl rfl ?_
    repeat' first | ((refine cs (fun _ => ?_) (fun g => absurd g (by simpa using h)); conv => whnf)) | refine AW.seq ?_ | refine AW.block ?_ | ((first | refine AW.region tab_ok ?_ | refine AW.cond ?_ | refine AW.skip ?_ | refine AW.ret ?_ | refine AW.exit ?_); conv => whnf) | (refine (c1).mono ?_; rintro _ _ ⟨rfl, rfl⟩; conv => whnf) | ((first | refine And.intro (@rfl Val _) ?_ | refine And.intro (by decide) ?_ | refine cs (fun _ => ?_) (fun _ => ?_)) <;> conv => whnf)
    all_goals exact ⟨rfl, rfl⟩
mutual
/-- Are two derivations the same? -/
def psame : Pf → Pf → Bool
  | .node r a ps, .node r' a' ps' => decide (r = r') && decide (ps.length = ps'.length) && sameS a a' && psames ps ps'
def psames : List Pf → List Pf → Bool
  | [], _ => true
  | _ :: _, [] => true
  | p :: ps, q :: qs => psame p q && psames ps qs
end
/-- Three kids at most, everywhere. -/
inductive Pf3 : Pf → Prop where
  | node {r a ks} (h : ks.length ≤ 3) (hk : ∀ q ∈ ks, Pf3 q) : Pf3 (.node r a ks)
theorem dvds_len (k : Int) (name arg : ByteArray) (T U : Ty) (l : List Bd) (a : Ty) : ∀ (ks : List Tm) (i : Nat), (dvds k name arg T U l a ks i).length = ks.length
  | [], _ => rfl
  | t :: r, i => by simp [dvds, dvds_len k name arg T U l a r]
theorem dvds_mem (k : Int) (name arg : ByteArray) (T U : Ty) (l : List Bd) (a : Ty) : ∀ (ks : List Tm) (i : Nat), ∀ q ∈ dvds k name arg T U l a ks i, ∃ t ∈ ks, ∃ l', q = dvd t l'
  | [], _, q, h => by simp [dvds] at h
  | t :: r, i, q, h => by
    simp only [dvds, List.mem_cons] at h
    rcases h with rfl | h
    · exact ⟨t, by simp, _, rfl⟩
    · obtain ⟨t', h1, l', h2⟩ := dvds_mem k name arg T U l a r _ q h
      exact ⟨t', by simp [h1], l', h2⟩
theorem dvd_pf3 (t : Tm) : tmright t = true → ∀ l, Pf3 (dvd t l) := by
  induction t using Tm.ind with
  | _ k name arg num tk tks uk uks label place ks ih =>
  intro hr l
  rw [dvd]
  refine .node ?_ fun q hq => ?_
  · rw [dvds_len]
    have h1 := tmright_len hr
    have h2 := kidsK_le k
    omega
  · obtain ⟨t, ht, l', rfl⟩ := dvds_mem _ _ _ _ _ _ _ _ _ q hq
    exact ih t ht (tmright_kid hr ht) l'
theorem findP_pf3 (t : Tm) : Pf3 (rfindP t) := by
  unfold rfindP
  split
  · rename_i h
    by_cases hs : soundP t = 0
    · exact dvd_pf3 t (tmcheck_ok (soundP_ok hs).1).2 []
    · simp [rfindE, hs] at h
  · exact .node (by simp) (by simp)
set_option maxRecDepth 10000 in
set_option maxHeartbeats 4000000 in
theorem PSame_call (q : Pf) : Pf3 q → ∀ p, ACall Tryz.prog 21 [p.val, q.val] [] (fun o σ => o = .ret (.c (.d (.bool (psame p q)))) ∧ σ = []) := by
  intro hq
  induction hq with
  | @node qr qa qqs hlen hk ih =>
  rintro ⟨pr, pa, pqs⟩
  have cT := rSame_call pa qa
  rw [psame]
  by_cases hl : pqs.length = qqs.length
  · simp only [hl, decide_true, Bool.and_true]
    generalize sameS pa qa = S at *
    obtain ⟨pk, pks⟩ := pa
    obtain ⟨qk, qks⟩ := qa
    have hL : (0 : Int) = qqs.length ∨ (1 : Int) = qqs.length ∨ (2 : Int) = qqs.length ∨ (3 : Int) = qqs.length := by omega
    by_cases hr : pr = qr
    · subst hr
      simp only [decide_true, Bool.true_and]
      cases S
      · simp only [Bool.false_and]
        refine ACall.body tab_ok (ρ := 0) (N := 49) Tryz.func21 rfl rfl rfl rfl rfl ?_
        repeat' first | refine AW.seq ?_ | refine AW.block ?_ | (refine (id : AW _ _ _ (.region 6 _ true) _ _ → _) ?_; refine AW.draw (id := 6) tab_ok mixed [0, 1, 2, 3, 4, 5, 6, 7, 8, 9, 10, 11] (by kernel_rfl) ?_; conv => whnf) | ((first | refine AW.region tab_ok ?_ | refine AW.cond ?_ | refine AW.skip ?_ | refine AW.ret ?_ | refine AW.exit ?_); conv => whnf) | (refine (cT).mono ?_; rintro _ _ ⟨rfl, rfl⟩; conv => whnf) | ((first | refine And.intro (@rfl Val _) ?_ | refine And.intro (by decide) ?_ | refine cs (fun _ => ?_) (fun _ => ?_)) <;> conv => whnf)
        all_goals first | exact ⟨rfl, rfl⟩ | (exfalso; simp_all [prows_len]; done) | (exfalso; simp_all [prows_len]; omega)
      simp only [Bool.true_and]
      rcases hL with h | h | h | h
      · obtain rfl := len0 h
        obtain rfl := len0 (show (0 : Int) = pqs.length by rw [hl]; exact h)
        clear ih hk hlen hl h
        simp only [psames, Bool.and_true]
        refine ACall.body tab_ok (ρ := 0) (N := 49) Tryz.func21 rfl rfl rfl rfl rfl ?_
        repeat' first | ((refine AW.rounds 5 ?_; conv => whnf)) | ((refine And.intro (⟨by decide, by first | decide | (simp [Tm.rows, Pf.rows]; done) | (simp [Tm.rows, Pf.rows]; decide)⟩ : _ ∧ _) ?_; conv => whnf)) | ((intro row hrow; obtain rfl := Option.some.inj hrow; conv => whnf)) | refine AW.seq ?_ | refine AW.block ?_ | (refine (id : AW _ _ _ (.region 6 _ true) _ _ → _) ?_; refine AW.draw (id := 6) tab_ok mixed [0, 1, 2, 3, 4, 5, 6, 7, 8, 9, 10, 11] (by kernel_rfl) ?_; conv => whnf) | ((first | refine AW.region tab_ok ?_ | refine AW.cond ?_ | refine AW.skip ?_ | refine AW.ret ?_ | refine AW.exit ?_); conv => whnf) | (refine (cT).mono ?_; rintro _ _ ⟨rfl, rfl⟩; conv => whnf) | ((first | refine And.intro (@rfl Val _) ?_ | refine And.intro (by decide) ?_ | refine cs (fun _ => ?_) (fun _ => ?_)) <;> conv => whnf)
        all_goals first | exact ⟨rfl, rfl⟩ | (exfalso; simp_all; done)
      · obtain ⟨q0, rfl⟩ := len1 h
        obtain ⟨p0, rfl⟩ := len1 (show (1 : Int) = pqs.length by rw [hl]; exact h)
        have c0 := ih q0 (by simp) p0
        clear ih hk hlen hl h
        simp only [psames, Bool.and_true]
        generalize psame p0 q0 = b0 at *
        obtain ⟨r0, ⟨v0, vs0⟩, rs0⟩ := p0
        obtain ⟨r0', ⟨v0', vs0'⟩, rs0'⟩ := q0
        cases b0
        · skip
          refine ACall.body tab_ok (ρ := 0) (N := 49) Tryz.func21 rfl rfl rfl rfl rfl ?_
          repeat' first | ((refine AW.rounds 5 ?_; conv => whnf)) | ((refine And.intro (⟨by decide, by first | decide | (simp [Tm.rows, Pf.rows]; done) | (simp [Tm.rows, Pf.rows]; decide)⟩ : _ ∧ _) ?_; conv => whnf)) | ((intro row hrow; obtain rfl := Option.some.inj hrow; conv => whnf)) | refine AW.seq ?_ | refine AW.block ?_ | (refine (id : AW _ _ _ (.region 6 _ true) _ _ → _) ?_; refine AW.draw (id := 6) tab_ok mixed [0, 1, 2, 3, 4, 5, 6, 7, 8, 9, 10, 11] (by kernel_rfl) ?_; conv => whnf) | ((first | refine AW.region tab_ok ?_ | refine AW.cond ?_ | refine AW.skip ?_ | refine AW.ret ?_ | refine AW.exit ?_); conv => whnf) | ((first | refine (cT).mono ?_ | refine (c0).mono ?_); rintro _ _ ⟨rfl, rfl⟩; conv => whnf) | ((first | refine And.intro (@rfl Val _) ?_ | refine And.intro (by decide) ?_ | refine cs (fun _ => ?_) (fun _ => ?_)) <;> conv => whnf)
          all_goals first | exact ⟨rfl, rfl⟩ | (exfalso; simp_all; done)
        refine ACall.body tab_ok (ρ := 0) (N := 49) Tryz.func21 rfl rfl rfl rfl rfl ?_
        repeat' first | ((refine AW.rounds 5 ?_; conv => whnf)) | ((refine And.intro (⟨by decide, by first | decide | (simp [Tm.rows, Pf.rows]; done) | (simp [Tm.rows, Pf.rows]; decide)⟩ : _ ∧ _) ?_; conv => whnf)) | ((intro row hrow; obtain rfl := Option.some.inj hrow; conv => whnf)) | refine AW.seq ?_ | refine AW.block ?_ | (refine (id : AW _ _ _ (.region 6 _ true) _ _ → _) ?_; refine AW.draw (id := 6) tab_ok mixed [0, 1, 2, 3, 4, 5, 6, 7, 8, 9, 10, 11] (by kernel_rfl) ?_; conv => whnf) | ((first | refine AW.region tab_ok ?_ | refine AW.cond ?_ | refine AW.skip ?_ | refine AW.ret ?_ | refine AW.exit ?_); conv => whnf) | ((first | refine (cT).mono ?_ | refine (c0).mono ?_); rintro _ _ ⟨rfl, rfl⟩; conv => whnf) | ((first | refine And.intro (@rfl Val _) ?_ | refine And.intro (by decide) ?_ | refine cs (fun _ => ?_) (fun _ => ?_)) <;> conv => whnf)
        all_goals first | exact ⟨rfl, rfl⟩ | (exfalso; simp_all; done)
      · obtain ⟨q0, q1, rfl⟩ := len2 h
        obtain ⟨p0, p1, rfl⟩ := len2 (show (2 : Int) = pqs.length by rw [hl]; exact h)
        have c0 := ih q0 (by simp) p0
        have c1 := ih q1 (by simp) p1
        clear ih hk hlen hl h
        simp only [psames, Bool.and_true]
        generalize psame p0 q0 = b0 at *
        obtain ⟨r0, ⟨v0, vs0⟩, rs0⟩ := p0
        obtain ⟨r0', ⟨v0', vs0'⟩, rs0'⟩ := q0
        generalize psame p1 q1 = b1 at *
        obtain ⟨r1, ⟨v1, vs1⟩, rs1⟩ := p1
        obtain ⟨r1', ⟨v1', vs1'⟩, rs1'⟩ := q1
        cases b0
        · skip
          refine ACall.body tab_ok (ρ := 0) (N := 49) Tryz.func21 rfl rfl rfl rfl rfl ?_
          repeat' first | ((refine AW.rounds 5 ?_; conv => whnf)) | ((refine And.intro (⟨by decide, by first | decide | (simp [Tm.rows, Pf.rows]; done) | (simp [Tm.rows, Pf.rows]; decide)⟩ : _ ∧ _) ?_; conv => whnf)) | ((intro row hrow; obtain rfl := Option.some.inj hrow; conv => whnf)) | refine AW.seq ?_ | refine AW.block ?_ | (refine (id : AW _ _ _ (.region 6 _ true) _ _ → _) ?_; refine AW.draw (id := 6) tab_ok mixed [0, 1, 2, 3, 4, 5, 6, 7, 8, 9, 10, 11] (by kernel_rfl) ?_; conv => whnf) | ((first | refine AW.region tab_ok ?_ | refine AW.cond ?_ | refine AW.skip ?_ | refine AW.ret ?_ | refine AW.exit ?_); conv => whnf) | ((first | refine (cT).mono ?_ | refine (c0).mono ?_ | refine (c1).mono ?_); rintro _ _ ⟨rfl, rfl⟩; conv => whnf) | ((first | refine And.intro (@rfl Val _) ?_ | refine And.intro (by decide) ?_ | refine cs (fun _ => ?_) (fun _ => ?_)) <;> conv => whnf)
          all_goals first | exact ⟨rfl, rfl⟩ | (exfalso; simp_all; done)
        cases b1
        · skip
          refine ACall.body tab_ok (ρ := 0) (N := 49) Tryz.func21 rfl rfl rfl rfl rfl ?_
          repeat' first | ((refine AW.rounds 5 ?_; conv => whnf)) | ((refine And.intro (⟨by decide, by first | decide | (simp [Tm.rows, Pf.rows]; done) | (simp [Tm.rows, Pf.rows]; decide)⟩ : _ ∧ _) ?_; conv => whnf)) | ((intro row hrow; obtain rfl := Option.some.inj hrow; conv => whnf)) | refine AW.seq ?_ | refine AW.block ?_ | (refine (id : AW _ _ _ (.region 6 _ true) _ _ → _) ?_; refine AW.draw (id := 6) tab_ok mixed [0, 1, 2, 3, 4, 5, 6, 7, 8, 9, 10, 11] (by kernel_rfl) ?_; conv => whnf) | ((first | refine AW.region tab_ok ?_ | refine AW.cond ?_ | refine AW.skip ?_ | refine AW.ret ?_ | refine AW.exit ?_); conv => whnf) | ((first | refine (cT).mono ?_ | refine (c0).mono ?_ | refine (c1).mono ?_); rintro _ _ ⟨rfl, rfl⟩; conv => whnf) | ((first | refine And.intro (@rfl Val _) ?_ | refine And.intro (by decide) ?_ | refine cs (fun _ => ?_) (fun _ => ?_)) <;> conv => whnf)
          all_goals first | exact ⟨rfl, rfl⟩ | (exfalso; simp_all; done)
        refine ACall.body tab_ok (ρ := 0) (N := 49) Tryz.func21 rfl rfl rfl rfl rfl ?_
        repeat' first | ((refine AW.rounds 5 ?_; conv => whnf)) | ((refine And.intro (⟨by decide, by first | decide | (simp [Tm.rows, Pf.rows]; done) | (simp [Tm.rows, Pf.rows]; decide)⟩ : _ ∧ _) ?_; conv => whnf)) | ((intro row hrow; obtain rfl := Option.some.inj hrow; conv => whnf)) | refine AW.seq ?_ | refine AW.block ?_ | (refine (id : AW _ _ _ (.region 6 _ true) _ _ → _) ?_; refine AW.draw (id := 6) tab_ok mixed [0, 1, 2, 3, 4, 5, 6, 7, 8, 9, 10, 11] (by kernel_rfl) ?_; conv => whnf) | ((first | refine AW.region tab_ok ?_ | refine AW.cond ?_ | refine AW.skip ?_ | refine AW.ret ?_ | refine AW.exit ?_); conv => whnf) | ((first | refine (cT).mono ?_ | refine (c0).mono ?_ | refine (c1).mono ?_); rintro _ _ ⟨rfl, rfl⟩; conv => whnf) | ((first | refine And.intro (@rfl Val _) ?_ | refine And.intro (by decide) ?_ | refine cs (fun _ => ?_) (fun _ => ?_)) <;> conv => whnf)
        all_goals first | exact ⟨rfl, rfl⟩ | (exfalso; simp_all; done)
      · obtain ⟨q0, q1, q2, rfl⟩ := len3 h
        obtain ⟨p0, p1, p2, rfl⟩ := len3 (show (3 : Int) = pqs.length by rw [hl]; exact h)
        have c0 := ih q0 (by simp) p0
        have c1 := ih q1 (by simp) p1
        have c2 := ih q2 (by simp) p2
        clear ih hk hlen hl h
        simp only [psames, Bool.and_true]
        generalize psame p0 q0 = b0 at *
        obtain ⟨r0, ⟨v0, vs0⟩, rs0⟩ := p0
        obtain ⟨r0', ⟨v0', vs0'⟩, rs0'⟩ := q0
        generalize psame p1 q1 = b1 at *
        obtain ⟨r1, ⟨v1, vs1⟩, rs1⟩ := p1
        obtain ⟨r1', ⟨v1', vs1'⟩, rs1'⟩ := q1
        generalize psame p2 q2 = b2 at *
        obtain ⟨r2, ⟨v2, vs2⟩, rs2⟩ := p2
        obtain ⟨r2', ⟨v2', vs2'⟩, rs2'⟩ := q2
        cases b0
        · skip
          refine ACall.body tab_ok (ρ := 0) (N := 49) Tryz.func21 rfl rfl rfl rfl rfl ?_
          repeat' first | ((refine AW.rounds 5 ?_; conv => whnf)) | ((refine And.intro (⟨by decide, by first | decide | (simp [Tm.rows, Pf.rows]; done) | (simp [Tm.rows, Pf.rows]; decide)⟩ : _ ∧ _) ?_; conv => whnf)) | ((intro row hrow; obtain rfl := Option.some.inj hrow; conv => whnf)) | refine AW.seq ?_ | refine AW.block ?_ | (refine (id : AW _ _ _ (.region 6 _ true) _ _ → _) ?_; refine AW.draw (id := 6) tab_ok mixed [0, 1, 2, 3, 4, 5, 6, 7, 8, 9, 10, 11] (by kernel_rfl) ?_; conv => whnf) | ((first | refine AW.region tab_ok ?_ | refine AW.cond ?_ | refine AW.skip ?_ | refine AW.ret ?_ | refine AW.exit ?_); conv => whnf) | ((first | refine (cT).mono ?_ | refine (c0).mono ?_ | refine (c1).mono ?_ | refine (c2).mono ?_); rintro _ _ ⟨rfl, rfl⟩; conv => whnf) | ((first | refine And.intro (@rfl Val _) ?_ | refine And.intro (by decide) ?_ | refine cs (fun _ => ?_) (fun _ => ?_)) <;> conv => whnf)
          all_goals first | exact ⟨rfl, rfl⟩ | (exfalso; simp_all; done)
        cases b1
        · skip
          refine ACall.body tab_ok (ρ := 0) (N := 49) Tryz.func21 rfl rfl rfl rfl rfl ?_
          repeat' first | ((refine AW.rounds 5 ?_; conv => whnf)) | ((refine And.intro (⟨by decide, by first | decide | (simp [Tm.rows, Pf.rows]; done) | (simp [Tm.rows, Pf.rows]; decide)⟩ : _ ∧ _) ?_; conv => whnf)) | ((intro row hrow; obtain rfl := Option.some.inj hrow; conv => whnf)) | refine AW.seq ?_ | refine AW.block ?_ | (refine (id : AW _ _ _ (.region 6 _ true) _ _ → _) ?_; refine AW.draw (id := 6) tab_ok mixed [0, 1, 2, 3, 4, 5, 6, 7, 8, 9, 10, 11] (by kernel_rfl) ?_; conv => whnf) | ((first | refine AW.region tab_ok ?_ | refine AW.cond ?_ | refine AW.skip ?_ | refine AW.ret ?_ | refine AW.exit ?_); conv => whnf) | ((first | refine (cT).mono ?_ | refine (c0).mono ?_ | refine (c1).mono ?_ | refine (c2).mono ?_); rintro _ _ ⟨rfl, rfl⟩; conv => whnf) | ((first | refine And.intro (@rfl Val _) ?_ | refine And.intro (by decide) ?_ | refine cs (fun _ => ?_) (fun _ => ?_)) <;> conv => whnf)
          all_goals first | exact ⟨rfl, rfl⟩ | (exfalso; simp_all; done)
        cases b2
        · skip
          refine ACall.body tab_ok (ρ := 0) (N := 49) Tryz.func21 rfl rfl rfl rfl rfl ?_
          repeat' first | ((refine AW.rounds 5 ?_; conv => whnf)) | ((refine And.intro (⟨by decide, by first | decide | (simp [Tm.rows, Pf.rows]; done) | (simp [Tm.rows, Pf.rows]; decide)⟩ : _ ∧ _) ?_; conv => whnf)) | ((intro row hrow; obtain rfl := Option.some.inj hrow; conv => whnf)) | refine AW.seq ?_ | refine AW.block ?_ | (refine (id : AW _ _ _ (.region 6 _ true) _ _ → _) ?_; refine AW.draw (id := 6) tab_ok mixed [0, 1, 2, 3, 4, 5, 6, 7, 8, 9, 10, 11] (by kernel_rfl) ?_; conv => whnf) | ((first | refine AW.region tab_ok ?_ | refine AW.cond ?_ | refine AW.skip ?_ | refine AW.ret ?_ | refine AW.exit ?_); conv => whnf) | ((first | refine (cT).mono ?_ | refine (c0).mono ?_ | refine (c1).mono ?_ | refine (c2).mono ?_); rintro _ _ ⟨rfl, rfl⟩; conv => whnf) | ((first | refine And.intro (@rfl Val _) ?_ | refine And.intro (by decide) ?_ | refine cs (fun _ => ?_) (fun _ => ?_)) <;> conv => whnf)
          all_goals first | exact ⟨rfl, rfl⟩ | (exfalso; simp_all; done)
        refine ACall.body tab_ok (ρ := 0) (N := 49) Tryz.func21 rfl rfl rfl rfl rfl ?_
        repeat' first | ((refine AW.rounds 5 ?_; conv => whnf)) | ((refine And.intro (⟨by decide, by first | decide | (simp [Tm.rows, Pf.rows]; done) | (simp [Tm.rows, Pf.rows]; decide)⟩ : _ ∧ _) ?_; conv => whnf)) | ((intro row hrow; obtain rfl := Option.some.inj hrow; conv => whnf)) | refine AW.seq ?_ | refine AW.block ?_ | (refine (id : AW _ _ _ (.region 6 _ true) _ _ → _) ?_; refine AW.draw (id := 6) tab_ok mixed [0, 1, 2, 3, 4, 5, 6, 7, 8, 9, 10, 11] (by kernel_rfl) ?_; conv => whnf) | ((first | refine AW.region tab_ok ?_ | refine AW.cond ?_ | refine AW.skip ?_ | refine AW.ret ?_ | refine AW.exit ?_); conv => whnf) | ((first | refine (cT).mono ?_ | refine (c0).mono ?_ | refine (c1).mono ?_ | refine (c2).mono ?_); rintro _ _ ⟨rfl, rfl⟩; conv => whnf) | ((first | refine And.intro (@rfl Val _) ?_ | refine And.intro (by decide) ?_ | refine cs (fun _ => ?_) (fun _ => ?_)) <;> conv => whnf)
        all_goals first | exact ⟨rfl, rfl⟩ | (exfalso; simp_all; done)
    · have e : decide (pr = qr) = false := by simpa using hr
      simp only [e, Bool.false_and]
      refine ACall.body tab_ok (ρ := 0) (N := 49) Tryz.func21 rfl rfl rfl rfl rfl ?_
      repeat' first | refine AW.seq ?_ | refine AW.block ?_ | (refine (id : AW _ _ _ (.region 6 _ true) _ _ → _) ?_; refine AW.draw (id := 6) tab_ok mixed [0, 1, 2, 3, 4, 5, 6, 7, 8, 9, 10, 11] (by kernel_rfl) ?_; conv => whnf) | ((first | refine AW.region tab_ok ?_ | refine AW.cond ?_ | refine AW.skip ?_ | refine AW.ret ?_ | refine AW.exit ?_); conv => whnf) | (refine (cT).mono ?_; rintro _ _ ⟨rfl, rfl⟩; conv => whnf) | ((first | refine And.intro (@rfl Val _) ?_ | refine And.intro (by decide) ?_ | refine cs (fun _ => ?_) (fun _ => ?_)) <;> conv => whnf)
      all_goals first | exact ⟨rfl, rfl⟩ | (exfalso; simp_all [prows_len]; done) | (exfalso; simp_all [prows_len]; omega)
  · have e : decide (pqs.length = qqs.length) = false := by simpa using hl
    simp only [e, Bool.and_false, Bool.false_and]
    generalize sameS pa qa = S at *
    obtain ⟨pk, pks⟩ := pa
    obtain ⟨qk, qks⟩ := qa
    refine ACall.body tab_ok (ρ := 0) (N := 49) Tryz.func21 rfl rfl rfl rfl rfl ?_
    repeat' first | refine AW.seq ?_ | refine AW.block ?_ | (refine (id : AW _ _ _ (.region 6 _ true) _ _ → _) ?_; refine AW.draw (id := 6) tab_ok mixed [0, 1, 2, 3, 4, 5, 6, 7, 8, 9, 10, 11] (by kernel_rfl) ?_; conv => whnf) | ((first | refine AW.region tab_ok ?_ | refine AW.cond ?_ | refine AW.skip ?_ | refine AW.ret ?_ | refine AW.exit ?_); conv => whnf) | (refine (cT).mono ?_; rintro _ _ ⟨rfl, rfl⟩; conv => whnf) | ((first | refine And.intro (@rfl Val _) ?_ | refine And.intro (by decide) ?_ | refine cs (fun _ => ?_) (fun _ => ?_)) <;> conv => whnf)
    all_goals first | exact ⟨rfl, rfl⟩ | (exfalso; simp_all [prows_len]; done) | (exfalso; simp_all [prows_len]; omega)
set_option maxRecDepth 10000 in
theorem RProves_call (p : Pf) (t : Tm) : ACall Tryz.prog 8 [p.val, t.val] [] (fun o σ => o = .ret (.c (.d (.bool (decide (rfindE t = 0) && psame p (rfindP t))))) ∧ σ = []) := by
  have c1 := RFindP_call t
  have c2 := PSame_call (rfindP t) (findP_pf3 t) p
  generalize rfindE t = e at *
  generalize psame p (rfindP t) = b at *
  generalize rfindP t = q at *
  obtain ⟨k, name, arg, num, tk, tks, uk, uks, label, place, ks⟩ := t
  obtain ⟨pr, ⟨pk, pks⟩, pqs⟩ := p
  obtain ⟨qr, ⟨qk, qks⟩, qqs⟩ := q
  by_cases h : e = 0
  · subst h
    simp only [decide_true, Bool.true_and]
    refine ACall.body tab_ok (ρ := 0) (N := 19) Tryz.func8 rfl rfl rfl rfl rfl ?_
    repeat' first | refine AW.seq ?_ | refine AW.block ?_ | ((first | refine AW.region tab_ok ?_ | refine AW.cond ?_ | refine AW.skip ?_ | refine AW.ret ?_ | refine AW.exit ?_); conv => whnf) | ((first | refine (c1).mono ?_ | refine (c2).mono ?_); rintro _ _ ⟨rfl, rfl⟩; conv => whnf) | ((first | refine And.intro (@rfl Val _) ?_ | refine And.intro (by decide) ?_ | refine cs (fun _ => ?_) (fun _ => ?_)) <;> conv => whnf)
    all_goals first | exact ⟨rfl, rfl⟩
  · have e1 : decide (e = 0) = false := by simpa using h
    simp only [e1, Bool.false_and]
    refine ACall.body tab_ok (ρ := 0) (N := 19) Tryz.func8 rfl rfl rfl rfl rfl ?_
    repeat' first | ((refine cs (fun g => absurd g (by simpa using h)) (fun _ => ?_); conv => whnf)) | refine AW.seq ?_ | refine AW.block ?_ | ((first | refine AW.region tab_ok ?_ | refine AW.cond ?_ | refine AW.skip ?_ | refine AW.ret ?_ | refine AW.exit ?_); conv => whnf) | ((first | refine (c1).mono ?_ | refine (c2).mono ?_); rintro _ _ ⟨rfl, rfl⟩; conv => whnf) | ((first | refine And.intro (@rfl Val _) ?_ | refine And.intro (by decide) ?_ | refine cs (fun _ => ?_) (fun _ => ?_)) <;> conv => whnf)
    all_goals first | exact ⟨rfl, rfl⟩
end Go.Proofs.YtlboogackecjlaaGreat.E
