/- Texts, merged: Ls1, Lt1. No conditions. -/
import Derived.Test.YtlboogackecjlaaGenX9
import Derived.Test.YtlboogackecjlaaGenX5
/- The document's answer for lessen: ref22.spots, counted, Spots, has, opened. No conditions. -/
set_option linter.unusedVariables false
set_option linter.unusedSimpArgs false
namespace Go.Proofs.Ytlboogackecjlaa.E
open Go

set_option maxRecDepth 10000 in
theorem rspots_call (a : Ty) : nodes a ≤ 8192 → ACall Try.prog 60 [a.val] [] (fun o σ => o = .ret (.c (.d (.int .i64 (spN a : Nat)))) ∧ σ = []) := by
  induction a using Ty.ind with
  | _ k ks ih =>
  intro ha
  have hle := nodes_len ha
  have hsn := spN_nodes (.node k ks)
  simp only [nodes] at ha hsn
  by_cases h0 : k = 0
  · subst h0
    simp only [spN, if_true]
    clear ih ha hle hsn
    refine ACall.body tab_ok (ρ := 0) (N := 24) Try.func60 rfl rfl rfl rfl rfl ?_
    repeat' first | refine AW.seq ?_ | refine AW.block ?_ | ((first | refine AW.region tab_ok ?_ | refine AW.cond ?_ | refine AW.skip ?_ | refine AW.ret ?_ | refine AW.exit ?_); conv => whnf) | ((first | refine And.intro (@rfl Val _) ?_ | refine And.intro (by decide) ?_ | refine cs (fun _ => ?_) (fun _ => ?_)) <;> conv => whnf)
    all_goals first | exact ⟨rfl, rfl⟩ | (exfalso; simp_all; done)
  have b0 : (k == 0) = false := by simpa using h0
  have e : spN (.node k ks) = 1 + spNL ks := by simp only [spN, if_neg h0]
  rw [e] at hsn ⊢
  refine ACall.body tab_ok (ρ := 0) (N := 24) Try.func60 rfl rfl rfl rfl rfl ?_
  repeat' first | ((refine cs (fun h => absurd h (by rw [b0]; decide)) (fun _ => ?_); conv => whnf)) | refine AW.seq ?_ | refine AW.block ?_ | ((first | refine AW.region tab_ok ?_ | refine AW.cond ?_ | refine AW.skip ?_ | refine AW.ret ?_ | refine AW.exit ?_); conv => whnf) | ((first | refine And.intro (@rfl Val _) ?_ | refine And.intro (by decide) ?_ | refine cs (fun _ => ?_) (fun _ => ?_)) <;> conv => whnf)
  refine AW.loop (ι := UpTo ks) (fun x => ⟨24, [(4, .c (.d (.int .i64 x.i))), (3, .c (.d (.int .i64 ((1 + spNL (ks.take x.i) : Nat) : Int)))), (1, .c (.ptr 0 0))], [.var [.d (.int .i8 k), .d (.sl 0 2 (Ty.rows ks))]], []⟩)
    (fun x => ks.length - x.i) ⟨0, Nat.zero_le _⟩ 1 (fun _ => rfl) (Nat.le_of_ble_eq_true rfl) ⟨⟨rfl, rfl, rfl, trivial⟩, rfl, rfl, ⟨[], rfl⟩, rfl⟩ (fun x => ?_)
  obtain ⟨i, hi⟩ := x
  repeat' first | refine AW.seq ?_ | refine AW.block ?_ | ((first | refine AW.region tab_ok ?_ | refine AW.cond ?_ | refine AW.skip ?_ | refine AW.ret ?_ | refine AW.exit ?_); conv => whnf) | ((first | refine And.intro (@rfl Val _) ?_ | refine And.intro (by decide) ?_ | refine cs (fun _ => ?_) (fun _ => ?_)) <;> conv => whnf)
  · rename_i h1
    simp only [rows_length] at h1 ⊢
    have := of_decide_eq_true h1
    refine ⟨by omega, fun row hrow => ?_⟩
    obtain ⟨x, ht, rfl⟩ := rows_get ks i row (by simpa using hrow)
    have hlt : i < ks.length := (List.getElem?_eq_some_iff.1 ht).1
    have hm := List.mem_of_getElem? ht
    have hc := ih x hm (by have := nodes_mem ks x hm; omega)
    have hn := spNL_take ks i x ht
    have hn2 := spNL_le ks (i + 1)
    generalize spN x = m at *
    obtain ⟨km, kms⟩ := x
    conv => whnf
    repeat' first | refine AW.seq ?_ | refine AW.block ?_ | ((first | refine AW.region tab_ok ?_ | refine AW.cond ?_ | refine AW.skip ?_ | refine AW.ret ?_ | refine AW.exit ?_); conv => whnf) | (refine (hc).mono ?_; rintro _ _ ⟨rfl, rfl⟩; conv => whnf) | ((first | refine And.intro (@rfl Val _) ?_ | refine And.intro (by decide) ?_ | refine cs (fun _ => ?_) (fun _ => ?_)) <;> conv => whnf)
    rw [wrap64 (x := (i : Int) + 1) (by omega) (by omega), wrap64 (x := ((1 + spNL (ks.take i) : Nat) : Int) + (m : Int)) (by omega) (by omega), show ((1 + spNL (ks.take i) : Nat) : Int) + (m : Int) = ((1 + spNL (ks.take (i + 1)) : Nat) : Int) by rw [hn]; omega]
    exact ⟨⟨i + 1, hlt⟩, ⟨⟨rfl, rfl, rfl, trivial⟩, rfl, rfl, ⟨[], rfl⟩, rfl⟩, show ks.length - (i + 1) < ks.length - i by omega⟩
  · rename_i h1
    simp only [rows_length] at h1
    have := of_decide_eq_false h1
    obtain rfl : i = ks.length := by omega
    simp only [List.take_length]
    first | exact ⟨rfl, rfl⟩ | exact ⟨rfl, trivial⟩
noncomputable def restLC : Code := match Try.f32.body with
  | some (.seq _ (.seq _ (.seq _ (.seq _ c)))) => c
  | _ => .skip
set_option maxRecDepth 10000 in
theorem rcnt_rest (k : Int) (name arg : ByteArray) (num tk : Int) (tks : List Ty) (uk : Int) (uks : List Ty) (label place : Int) (ks : List Tm) (d0 : Nat) (hd : d0 + tmSpL ks ≤ 100000) (hlen : ks.length ≤ 8192)
    (ih : ∀ t ∈ ks, ACall Try.prog 32 [t.val] [] (fun o σ => o = .ret (.c (.d (.int .i64 (tmSp t : Nat)))) ∧ σ = [])) :
    AW Try.prog tab 0 restLC ⟨37, [(1, .c (.ptr 0 0)), (3, .c (.d (.int .i64 d0)))], [.var ((Tm.node k name arg num tk tks uk uks label place ks).cells.map .d)], []⟩
      (afin tab 0 32 [.tmp 2] 0 (fun o σ => o = .ret (.c (.d (.int .i64 (d0 + tmSpL ks : Nat)))) ∧ σ = [])) := by
  repeat' first | refine AW.seq ?_ | refine AW.block ?_ | ((first | refine AW.region tab_ok ?_ | refine AW.cond ?_ | refine AW.skip ?_ | refine AW.ret ?_ | refine AW.exit ?_); conv => whnf) | ((first | refine And.intro (@rfl Val _) ?_ | refine And.intro (by decide) ?_ | refine cs (fun _ => ?_) (fun _ => ?_)) <;> conv => whnf)
  refine AW.loop (ι := UpToT ks) (fun x => ⟨37, [(4, .c (.d (.int .i64 x.i))), (1, .c (.ptr 0 0)), (3, .c (.d (.int .i64 (d0 + tmSpL (ks.take x.i) : Nat))))], [.var ((Tm.node k name arg num tk tks uk uks label place ks).cells.map .d)], []⟩)
    (fun x => ks.length - x.i) ⟨0, Nat.zero_le _⟩ 1 (fun _ => rfl) (Nat.le_of_ble_eq_true rfl) ⟨⟨rfl, rfl, ?_, trivial⟩, rfl, rfl, ⟨[], rfl⟩, rfl⟩ (fun x => ?_)
  · show Val.c (.d (.int .i64 _)) = Val.c (.d (.int .i64 _))
    simp [tmSpL]
  obtain ⟨i, hi⟩ := x
  repeat' first | refine AW.seq ?_ | refine AW.block ?_ | ((first | refine AW.region tab_ok ?_ | refine AW.cond ?_ | refine AW.skip ?_ | refine AW.ret ?_ | refine AW.exit ?_); conv => whnf) | ((first | refine And.intro (@rfl Val _) ?_ | refine And.intro (by decide) ?_ | refine cs (fun _ => ?_) (fun _ => ?_)) <;> conv => whnf)
  · rename_i h1
    simp only [trows_length] at h1
    have := of_decide_eq_true h1
    refine ⟨by simp only [trows_length]; omega, fun row hrow => ?_⟩
    obtain ⟨t, ht, rfl⟩ := trows_get ks i row (by simpa using hrow)
    have hlt : i < ks.length := (List.getElem?_eq_some_iff.1 ht).1
    have hm := List.mem_of_getElem? ht
    have hc := ih t hm
    have hn := tmSpL_take ks i _ ht
    have hn2 := tmSpL_le ks (i + 1)
    generalize tmSp t = m at *
    obtain ⟨kx, namex, argx, numx, tkx, tksx, ukx, uksx, labelx, placex, ksx⟩ := t
    conv => whnf
    repeat' first | refine AW.seq ?_ | refine AW.block ?_ | ((first | refine AW.region tab_ok ?_ | refine AW.cond ?_ | refine AW.skip ?_ | refine AW.ret ?_ | refine AW.exit ?_); conv => whnf) | (refine (hc).mono ?_; rintro _ _ ⟨rfl, rfl⟩; conv => whnf) | ((first | refine And.intro (@rfl Val _) ?_ | refine And.intro (by decide) ?_ | refine cs (fun _ => ?_) (fun _ => ?_)) <;> conv => whnf)
    rw [wrap64 (x := (i : Int) + 1) (by omega) (by omega), wrap64 (x := ((d0 + tmSpL (List.take i ks) : Nat) : Int) + (m : Int)) (by omega) (by omega), show ((d0 + tmSpL (List.take i ks) : Nat) : Int) + (m : Int) = (d0 + tmSpL (List.take (i + 1) ks) : Nat) by rw [hn]; omega]
    exact ⟨⟨i + 1, hlt⟩, ⟨⟨rfl, rfl, rfl, trivial⟩, rfl, rfl, ⟨[], rfl⟩, rfl⟩, show ks.length - (i + 1) < ks.length - i by omega⟩
  · rename_i h1
    simp only [trows_length] at h1
    have := of_decide_eq_false h1
    obtain rfl : i = ks.length := by omega
    simp only [List.take_length]
    first | exact ⟨rfl, rfl⟩ | exact ⟨rfl, trivial⟩
theorem ownSp_if {k tk : Int} {tks : List Ty} {uk : Int} {uks : List Ty} (h : k ≠ 17) : ownSp k tk tks uk uks = (if typeK k = true then spN (.node tk tks) else 0) + (if toK k = true then spN (.node uk uks) else 0) := by
  simp only [ownSp, fromA_type h, toA_to h]
set_option maxRecDepth 10000 in
set_option maxHeartbeats 4000000 in
theorem rcounted_call (t : Tm) : tmN t ≤ 8192 → tmhas 17 t = false → ACall Try.prog 32 [t.val] [] (fun o σ => o = .ret (.c (.d (.int .i64 (tmSp t : Nat)))) ∧ σ = []) := by
  induction t using Tm.ind with
  | _ k name arg num tk tks uk uks label place ks ih =>
  intro hN h17
  have hlen := tmNL_len ks
  have hk17 := not17 h17
  have hsp := Nat.le_trans (tmSp_N _ hN h17) hN
  have e : tmSp (.node k name arg num tk tks uk uks label place ks) = ownSp k tk tks uk uks + tmSpL ks := by simp only [tmSp]
  rw [e] at hsp ⊢
  simp only [tmN] at hN
  have ih' : ∀ t ∈ ks, ACall Try.prog 32 [t.val] [] (fun o σ => o = .ret (.c (.d (.int .i64 (tmSp t : Nat)))) ∧ σ = []) := fun t ht => ih t ht (by have := tmN_mem ks t ht; omega) (tmhas_kid h17 ht)
  have n1 : typeK k = true → nodes (.node tk tks) ≤ 8192 := fun h => by rw [if_pos h] at hN; omega
  have n2 : toK k = true → nodes (.node uk uks) ≤ 8192 := fun h => by rw [if_pos h] at hN; omega
  rw [ownSp_if hk17] at hsp ⊢
  have hsp2 : (if typeK k = true then spN (.node tk tks) else 0) + (if toK k = true then spN (.node uk uks) else 0) + tmSpL ks ≤ 20000 := by
    omega
  have fin : ∀ z : Int, z = (((if typeK k = true then spN (.node tk tks) else 0) + (if toK k = true then spN (.node uk uks) else 0) : Nat) : Int) → ∀ env, get env 1 = .c (.ptr 0 0) → get env 3 = .c (.d (.int .i64 z)) →
      AW Try.prog tab 0 restLC ⟨37, env, [.var ((Tm.node k name arg num tk tks uk uks label place ks).cells.map .d)], []⟩ (afin tab 0 32 Try.f32.results.toList ([] : List AObj).length (fun o σ => o = .ret (.c (.d (.int .i64 ((if typeK k = true then spN (.node tk tks) else 0) + (if toK k = true then spN (.node uk uks) else 0) + tmSpL ks : Nat)))) ∧ σ = [])) := fun z hz env g0 g3 => by
    generalize (if typeK k = true then spN (.node tk tks) else 0) + (if toK k = true then spN (.node uk uks) else 0) = d0 at *
    subst hz
    refine AW.fits ?_ ?_ (rcnt_rest k name arg num tk tks uk uks label place ks d0 (by omega) (by omega) ih')
    · exact ⟨⟨g0, g3, trivial⟩, rfl, rfl, ⟨[], rfl⟩, rfl⟩
    · rfl
  have w1 : typeK k = true → ACall Try.prog 60 [(Ty.node tk tks).val] [] (fun o σ => o = .ret (.c (.d (.int .i64 (spN (.node tk tks) : Nat)))) ∧ σ = []) := fun h => rspots_call _ (n1 h)
  have w2 : toK k = true → ACall Try.prog 60 [(Ty.node uk uks).val] [] (fun o σ => o = .ret (.c (.d (.int .i64 (spN (.node uk uks) : Nat)))) ∧ σ = []) := fun h => rspots_call _ (n2 h)
  have c1 := rhasType_call k
  have c2 := rhasTo_call k
  clear ih ih' hN hlen n1 n2 h17 hk17 e hsp
  generalize spN (.node tk tks) = m1 at *
  generalize spN (.node uk uks) = m2 at *
  generalize typeK k = b1 at *
  generalize toK k = b2 at *
  cases b1 <;> cases b2
  all_goals simp only [if_true, if_false, Bool.false_eq_true, Nat.zero_add, Nat.add_zero] at hsp2 fin ⊢
  all_goals
    refine ACall.body tab_ok (ρ := 0) (N := 37) Try.func32 rfl rfl rfl rfl rfl ?_
    repeat' first | (refine fin _ ?_ _ rfl rfl) | refine AW.seq ?_ | refine AW.block ?_ | ((first | refine AW.region tab_ok ?_ | refine AW.cond ?_ | refine AW.skip ?_ | refine AW.ret ?_ | refine AW.exit ?_); conv => whnf) | ((first | refine (c1).mono ?_ | refine (c2).mono ?_ | refine (w1 rfl).mono ?_ | refine (w2 rfl).mono ?_); rintro _ _ ⟨rfl, rfl⟩; conv => whnf) | ((first | refine And.intro (@rfl Val _) ?_ | refine And.intro (by decide) ?_ | refine cs (fun _ => ?_) (fun _ => ?_)) <;> conv => whnf)
  all_goals clear fin w1 w2
  all_goals first | rfl | (rw [wrap64 (by omega) (by omega)]; omega) | (rw [wrap64 (x := (0 : Int) + (m1 : Int)) (by omega) (by omega), wrap64 (by omega) (by omega)]; omega)
set_option maxRecDepth 10000 in
theorem RSoundL_call (t : Tm) : ACall Try.prog 31 [t.val, .c (.d (.int .i8 17))] [] (fun o σ => o = .ret (.c (.d (.int .i64 (soundE t)))) ∧ σ = []) := by
  have c1 := rtmCheck_call t
  by_cases hc : tmcheck t = 0
  · have c2 := rhas_call 17 t (tmcheck_ok hc).1
    have e : soundE t = if tmhas 17 t = true then 30 else 0 := by simp [soundE, hc]
    rw [e]
    rw [hc] at c1
    generalize tmhas 17 t = b at *
    clear hc e
    obtain ⟨k, name, arg, num, tk, tks, uk, uks, label, place, ks⟩ := t
    refine ACall.body tab_ok (ρ := 0) (N := 14) Try.func31 rfl rfl rfl rfl rfl ?_
    repeat' first | refine AW.seq ?_ | refine AW.block ?_ | ((first | refine AW.region tab_ok ?_ | refine AW.cond ?_ | refine AW.skip ?_ | refine AW.ret ?_ | refine AW.exit ?_); conv => whnf) | ((first | refine (c1).mono ?_ | refine (c2).mono ?_); rintro _ _ ⟨rfl, rfl⟩; conv => whnf) | ((first | refine And.intro (@rfl Val _) ?_ | refine And.intro (by decide) ?_ | refine cs (fun _ => ?_) (fun _ => ?_)) <;> conv => whnf)
    · rename_i h
      rw [if_pos h]
      exact ⟨rfl, rfl⟩
    · rename_i h
      rw [if_neg (by simp [h])]
      exact ⟨rfl, rfl⟩
  · have e : soundE t = tmcheck t := by simp [soundE, hc]
    rw [e]
    generalize tmcheck t = cc at *
    clear e
    obtain ⟨k, name, arg, num, tk, tks, uk, uks, label, place, ks⟩ := t
    refine ACall.body tab_ok (ρ := 0) (N := 14) Try.func31 rfl rfl rfl rfl rfl ?_
    repeat' first | ((refine cs (fun _ => ?_) (fun h => absurd h (by simpa using hc)); conv => whnf)) | refine AW.seq ?_ | refine AW.block ?_ | ((first | refine AW.region tab_ok ?_ | refine AW.cond ?_ | refine AW.skip ?_ | refine AW.ret ?_ | refine AW.exit ?_); conv => whnf) | (refine (c1).mono ?_; rintro _ _ ⟨rfl, rfl⟩; conv => whnf) | ((first | refine And.intro (@rfl Val _) ?_ | refine And.intro (by decide) ?_ | refine cs (fun _ => ?_) (fun _ => ?_)) <;> conv => whnf)
    exact ⟨rfl, rfl⟩
set_option maxRecDepth 10000 in
theorem RSpots_call (t : Tm) : ACall Try.prog 8 [t.val] [] (fun o σ => o = .ret (.c (.d (.int .i64 (SpotsS t : Nat)))) ∧ σ = []) := by
  have c1 := RSoundL_call t
  by_cases h : soundE t = 0
  · obtain ⟨h1, h2⟩ := sound_ok h
    have c2 := rcounted_call t (tmcheck_ok h1).1 h2
    have e : SpotsS t = tmSp t := by simp [SpotsS, h]
    rw [e]
    rw [h] at c1
    generalize tmSp t = m at *
    clear h h1 h2 e
    obtain ⟨k, name, arg, num, tk, tks, uk, uks, label, place, ks⟩ := t
    refine ACall.body tab_ok (ρ := 0) (N := 8) Try.func8 rfl rfl rfl rfl rfl ?_
    repeat' first | refine AW.seq ?_ | refine AW.block ?_ | ((first | refine AW.region tab_ok ?_ | refine AW.cond ?_ | refine AW.skip ?_ | refine AW.ret ?_ | refine AW.exit ?_); conv => whnf) | ((first | refine (c1).mono ?_ | refine (c2).mono ?_); rintro _ _ ⟨rfl, rfl⟩; conv => whnf) | ((first | refine And.intro (@rfl Val _) ?_ | refine And.intro (by decide) ?_ | refine cs (fun _ => ?_) (fun _ => ?_)) <;> conv => whnf)
    exact ⟨rfl, rfl⟩
  · have e : SpotsS t = 0 := by simp [SpotsS, h]
    rw [e]
    generalize soundE t = S at *
    clear e
    obtain ⟨k, name, arg, num, tk, tks, uk, uks, label, place, ks⟩ := t
    refine ACall.body tab_ok (ρ := 0) (N := 8) Try.func8 rfl rfl rfl rfl rfl ?_
    repeat' first | ((refine cs (fun _ => ?_) (fun g => absurd g (by simpa using h)); conv => whnf)) | refine AW.seq ?_ | refine AW.block ?_ | ((first | refine AW.region tab_ok ?_ | refine AW.cond ?_ | refine AW.skip ?_ | refine AW.ret ?_ | refine AW.exit ?_); conv => whnf) | (refine (c1).mono ?_; rintro _ _ ⟨rfl, rfl⟩; conv => whnf) | ((first | refine And.intro (@rfl Val _) ?_ | refine And.intro (by decide) ?_ | refine cs (fun _ => ?_) (fun _ => ?_)) <;> conv => whnf)
    exact ⟨rfl, rfl⟩
/-! ### has, opened -/
structure HasIx (l : List Int) (n : Int) where
  i : Nat
  hi : i ≤ l.length
  no : n ∉ l.take i
set_option maxRecDepth 10000 in
theorem rhas22_call (l : List Int) (n : Int) (hl : l.length ≤ 100000) : ACall Try.prog 86 [.c (.d (.sl 0 1 (ints l))), .c (.d (.int .i64 n))] [] (fun o σ => o = .ret (.c (.d (.bool (decide (n ∈ l))))) ∧ σ = []) := by
  refine ACall.body tab_ok (ρ := 0) (N := 18) Try.func86 rfl rfl rfl rfl rfl ?_
  repeat' first | refine AW.seq ?_ | refine AW.block ?_ | ((first | refine AW.region tab_ok ?_ | refine AW.cond ?_ | refine AW.skip ?_ | refine AW.ret ?_ | refine AW.exit ?_); conv => whnf) | ((first | refine And.intro (@rfl Val _) ?_ | refine And.intro (by decide) ?_ | refine cs (fun _ => ?_) (fun _ => ?_)) <;> conv => whnf)
  refine AW.loop (ι := HasIx l n) (fun x => ⟨18, [(5, .c (.d (.int .i64 x.i))), (0, .c (.d (.sl 0 1 (ints l)))), (1, .c (.d (.int .i64 n)))], [], []⟩)
    (fun x => l.length - x.i) ⟨0, Nat.zero_le _, by simp⟩ 0 (fun _ => rfl) (Nat.le_of_ble_eq_true rfl) ⟨⟨rfl, rfl, rfl, trivial⟩, rfl, rfl, ⟨[], rfl⟩, rfl⟩ (fun x => ?_)
  obtain ⟨i, hi, no⟩ := x
  repeat' first | refine AW.seq ?_ | refine AW.block ?_ | ((first | refine AW.region tab_ok ?_ | refine AW.cond ?_ | refine AW.skip ?_ | refine AW.ret ?_ | refine AW.exit ?_); conv => whnf) | ((first | refine And.intro (@rfl Val _) ?_ | refine And.intro (by decide) ?_ | refine cs (fun _ => ?_) (fun _ => ?_)) <;> conv => whnf)
  · rename_i h1
    simp only [ints_len] at h1
    have := of_decide_eq_true h1
    refine ⟨by simp only [ints_len]; omega, fun row hrow => ?_⟩
    obtain ⟨s, ht, rfl⟩ := ints_get (by simpa using hrow)
    have hlt : i < l.length := (List.getElem?_eq_some_iff.1 ht).1
    conv => whnf
    repeat' first | refine AW.seq ?_ | refine AW.block ?_ | ((first | refine AW.region tab_ok ?_ | refine AW.cond ?_ | refine AW.skip ?_ | refine AW.ret ?_ | refine AW.exit ?_); conv => whnf) | ((first | refine And.intro (@rfl Val _) ?_ | refine And.intro (by decide) ?_ | refine cs (fun _ => ?_) (fun _ => ?_)) <;> conv => whnf)
    · rename_i h2
      have : s = n := by simpa using h2
      subst this
      rw [decide_eq_true (List.mem_of_getElem? ht)]
      exact ⟨rfl, rfl⟩
    · rename_i h2
      have h3 : ¬ s = n := by simpa using h2
      rw [wrap64 (x := (i : Int) + 1) (by omega) (by omega)]
      refine ⟨⟨i + 1, hlt, ?_⟩, ⟨⟨rfl, rfl, rfl, trivial⟩, rfl, rfl, ⟨[], rfl⟩, rfl⟩, show l.length - (i + 1) < l.length - i by omega⟩
      rw [List.take_add_one, ht]
      simp only [Option.toList_some, List.mem_append, List.mem_singleton]
      rintro (h | h)
      · exact no h
      · exact h3 h.symm
  · rename_i h1
    simp only [ints_len] at h1
    have := of_decide_eq_false h1
    obtain rfl : i = l.length := by omega
    rw [List.take_length] at no
    rw [decide_eq_false no]
    exact ⟨rfl, rfl⟩
set_option maxRecDepth 10000 in
theorem ropened_call (l : List Int) (hl : l.length ≤ 100000) (a : Ty) : ∀ n : Nat, nodes a ≤ 8192 → n + spN a ≤ 500000 → ACall Try.prog 64 [a.val, .c (.d (.sl 0 1 (ints l))), .c (.d (.int .i64 (n : Nat)))] [] (fun o σ => o = .ret (walkT (atB l) false a n).val ∧ σ = []) := by
  induction a using Ty.ind with
  | _ k ks ih =>
  intro n ha hn
  have hlk := nodesL_len ks
  have c1 := rhas22_call l (n : Int) hl
  simp only [nodes] at ha
  by_cases h0 : k = 0
  · subst h0
    simp only [walkT, if_true]
    clear ih c1
    refine ACall.body tab_ok (ρ := 0) (N := 52) Try.func64 rfl rfl rfl rfl rfl ?_
    repeat' first | refine AW.seq ?_ | refine AW.block ?_ | (refine (id : AW _ _ _ (.region 8 _ true) _ _ → _) ?_; refine AW.draw (id := 8) tab_ok mixed [0, 1, 2, 3, 4, 5, 6, 7, 8, 9, 10, 11, 12, 13] (by kernel_rfl) ?_; conv => whnf) | ((first | refine AW.region tab_ok ?_ | refine AW.cond ?_ | refine AW.skip ?_ | refine AW.ret ?_ | refine AW.exit ?_); conv => whnf) | ((first | refine And.intro (@rfl Val _) ?_ | refine And.intro (by decide) ?_ | refine cs (fun _ => ?_) (fun _ => ?_)) <;> conv => whnf)
    all_goals first | exact ⟨rfl, rfl⟩ | (exfalso; simp_all; done)
  have b0 : (k == 0) = false := by simpa using h0
  have e1 : spN (.node k ks) = 1 + spNL ks := by simp only [spN, if_neg h0]
  rw [e1] at hn
  by_cases hB : atB l n = true
  · have e : walkT (atB l) false (.node k ks) n = .node 0 [] := by simp [walkT, h0, hB]
    rw [e]
    rw [show decide ((n : Int) ∈ l) = true from hB] at c1
    clear ih e
    refine ACall.body tab_ok (ρ := 0) (N := 52) Try.func64 rfl rfl rfl rfl rfl ?_
    repeat' first | refine AW.seq ?_ | refine AW.block ?_ | (refine (id : AW _ _ _ (.region 8 _ true) _ _ → _) ?_; refine AW.draw (id := 8) tab_ok mixed [0, 1, 2, 3, 4, 5, 6, 7, 8, 9, 10, 11, 12, 13] (by kernel_rfl) ?_; conv => whnf) | ((first | refine AW.region tab_ok ?_ | refine AW.cond ?_ | refine AW.skip ?_ | refine AW.ret ?_ | refine AW.exit ?_); conv => whnf) | (refine (c1).mono ?_; rintro _ _ ⟨rfl, rfl⟩; conv => whnf) | ((first | refine And.intro (@rfl Val _) ?_ | refine And.intro (by decide) ?_ | refine cs (fun _ => ?_) (fun _ => ?_)) <;> conv => whnf)
    all_goals first | exact ⟨rfl, rfl⟩ | (exfalso; simp_all; done)
  have e : walkT (atB l) false (.node k ks) n = .node k (walkGs (atB l) false ks (n + 1)) := by simp [walkT, h0, hB, walkGs_false]
  rw [e]
  rw [show decide ((n : Int) ∈ l) = false from eq_false_of_ne_true hB] at c1
  clear e
  have hwl := walkGs_len (atB l) false ks (n + 1)
  refine ACall.body tab_ok (ρ := 0) (N := 52) Try.func64 rfl rfl rfl rfl rfl ?_
  repeat' first | ((refine cs (fun h => absurd h (by rw [b0]; decide)) (fun _ => ?_); conv => whnf)) | refine AW.seq ?_ | refine AW.block ?_ | (refine (id : AW _ _ _ (.region 8 _ true) _ _ → _) ?_; refine AW.draw (id := 8) tab_ok mixed [0, 1, 2, 3, 4, 5, 6, 7, 8, 9, 10, 11, 12, 13] (by kernel_rfl) ?_; conv => whnf) | ((first | refine AW.region tab_ok ?_ | refine AW.cond ?_ | refine AW.skip ?_ | refine AW.ret ?_ | refine AW.exit ?_); conv => whnf) | (refine (c1).mono ?_; rintro _ _ ⟨rfl, rfl⟩; conv => whnf) | ((first | refine And.intro (@rfl Val _) ?_ | refine And.intro (by decide) ?_ | refine cs (fun _ => ?_) (fun _ => ?_)) <;> conv => whnf)
  rw [wrap64 (x := (n : Int) + 1) (by omega) (by omega), show (n : Int) + 1 = ((n + 1 + spNL (ks.take 0) : Nat) : Int) by simp [spNL]]
  refine AW.ghost 25 2 2 1 (by decide) rfl rfl ?_
  refine AW.loop (ι := UpTo ks) (fun x => ⟨52, [(8, .c (.d (.int .i64 x.i))), (2, .c (.d (.int .i64 ((n + 1 + spNL (ks.take x.i) : Nat) : Int)))), (1, .c (.d (.sl 0 1 (ints l)))), (3, .c (.ptr 0 0)), (6, .c (.ptr 1 0)), (7, .c (.ptr 2 0))],
      [.var [.d (.int .i8 k), .d (.sl 0 2 (Ty.rows ks))], .var [.d (.int .i8 0), .d .nils], .var [.d (.int .i8 k), .own 3 (Ty.rows ((walkGs (atB l) false ks (n + 1)).take x.i)).length], .row 25 2 (Ty.rows ((walkGs (atB l) false ks (n + 1)).take x.i))], []⟩)
    (fun x => ks.length - x.i) ⟨0, Nat.zero_le _⟩ 4 (fun _ => rfl) (Nat.le_of_ble_eq_true rfl) ⟨⟨rfl, rfl, rfl, rfl, rfl, rfl, trivial⟩, rfl, rfl, ⟨[], rfl⟩, rfl⟩ (fun x => ?_)
  obtain ⟨i, hi⟩ := x
  repeat' first | refine AW.seq ?_ | refine AW.block ?_ | (refine (id : AW _ _ _ (.region 8 _ true) _ _ → _) ?_; refine AW.draw (id := 8) tab_ok mixed [0, 1, 2, 3, 4, 5, 6, 7, 8, 9, 10, 11, 12, 13] (by kernel_rfl) ?_; conv => whnf) | ((first | refine AW.region tab_ok ?_ | refine AW.cond ?_ | refine AW.skip ?_ | refine AW.ret ?_ | refine AW.exit ?_); conv => whnf) | ((first | refine And.intro (@rfl Val _) ?_ | refine And.intro (by decide) ?_ | refine cs (fun _ => ?_) (fun _ => ?_)) <;> conv => whnf)
  · rename_i h1
    have h1 : (i : Int) < ((Ty.rows ks).length : Nat) := of_decide_eq_true h1
    rw [rows_length] at h1
    have hlt : i < ks.length := by omega
    obtain ⟨x, ht⟩ : ∃ x, ks[i]? = some x := ⟨_, List.getElem?_eq_getElem hlt⟩
    have hm := List.mem_of_getElem? ht
    have hnm := nodes_mem ks x hm
    have hs := spNL_take ks i x ht
    have hs2 := spNL_le ks (i + 1)
    have hc := ih x hm (n + 1 + spNL (ks.take i)) (by omega) (by omega)
    have hsc := rspots_call x (by omega)
    have hw := walkGs_take (atB l) false ks i (n + 1) x ht
    have f1 : (0 : Int) ≤ (i : Int) ∧ (i : Int) < ((Ty.rows ks).length : Nat) := by rw [rows_length]; omega
    have er : ∀ row, (Ty.rows ks)[(i : Int).toNat]? = some row → x.cells = row := fun row h => by
      obtain ⟨y, hy, rfl⟩ := rows_get ks i row h
      rw [ht] at hy; cases hy; rfl
    generalize hq : walkT (atB l) false x (n + 1 + spNL (ks.take i)) = q at hc hw
    generalize spN x = sx at *
    clear ht hm hq ih c1
    obtain ⟨kx, kxs⟩ := x
    obtain ⟨kq, kqs⟩ := q
    conv => whnf
    repeat' first | ((refine ⟨f1, fun row hrow => ?_⟩; obtain rfl := er row hrow; conv => whnf)) | ((refine ⟨⟨rfl, by (simp only [rows_length, List.length_take, List.length_cons, List.length_nil]; omega), by (simp only [rows_length, List.length_take, List.length_cons, List.length_nil]; omega)⟩, ?_⟩; conv => whnf)) | refine AW.seq ?_ | refine AW.block ?_ | (refine (id : AW _ _ _ (.region 8 _ true) _ _ → _) ?_; refine AW.draw (id := 8) tab_ok mixed [0, 1, 2, 3, 4, 5, 6, 7, 8, 9, 10, 11, 12, 13] (by kernel_rfl) ?_; conv => whnf) | ((first | refine AW.region tab_ok ?_ | refine AW.cond ?_ | refine AW.skip ?_ | refine AW.ret ?_ | refine AW.exit ?_); conv => whnf) | ((first | refine (hc).mono ?_ | refine (hsc).mono ?_); rintro _ _ ⟨rfl, rfl⟩; conv => whnf) | ((first | refine And.intro (@rfl Val _) ?_ | refine And.intro (by decide) ?_ | refine cs (fun _ => ?_) (fun _ => ?_)) <;> conv => whnf)
    have e : Ty.rows ((walkGs (atB l) false ks (n + 1)).take i) ++ [[.int .i8 kq, .sl 0 2 (Ty.rows kqs)]] = Ty.rows ((walkGs (atB l) false ks (n + 1)).take (i + 1)) := by
      rw [hw, rowsL_map ((walkGs (atB l) false ks (n + 1)).take i), rowsL_map ((walkGs (atB l) false ks (n + 1)).take i ++ _), List.map_append]; rfl
    have el : (Ty.rows ((walkGs (atB l) false ks (n + 1)).take i)).length + [[DV.int .i8 kq, .sl 0 2 (Ty.rows kqs)]].length = (Ty.rows ((walkGs (atB l) false ks (n + 1)).take (i + 1))).length := by
      rw [← List.length_append, e]
    rw [el, e, wrap64 (x := (i : Int) + 1) (by omega) (by omega), wrap64 (x := ((n + 1 + spNL (ks.take i) : Nat) : Int) + (sx : Int)) (by omega) (by omega), show ((n + 1 + spNL (ks.take i) : Nat) : Int) + (sx : Int) = ((n + 1 + spNL (ks.take (i + 1)) : Nat) : Int) by rw [hs]; omega]
    exact ⟨⟨i + 1, hlt⟩, ⟨⟨rfl, rfl, rfl, rfl, rfl, rfl, trivial⟩, rfl, rfl, ⟨[], rfl⟩, rfl⟩, show ks.length - (i + 1) < ks.length - i by omega⟩
  · rename_i h1
    have h1 : ¬ (i : Int) < ((Ty.rows ks).length : Nat) := of_decide_eq_false h1
    rw [rows_length] at h1
    obtain rfl : i = ks.length := by omega
    have e2 : (walkGs (atB l) false ks (n + 1)).take ks.length = walkGs (atB l) false ks (n + 1) := List.take_of_length_le (by rw [walkGs_len]; exact Nat.le_refl _)
    simp only [List.take_length, e2]
    first | refine ⟨trivial, ?_⟩ | refine ⟨rfl, ?_⟩
    conv => whnf
    exact ⟨rfl, rfl⟩
end Go.Proofs.Ytlboogackecjlaa.E

/- ref14.Counting. No conditions. -/
set_option linter.unusedVariables false
set_option linter.unusedSimpArgs false
namespace Go.Proofs.Ytlboogackecjlaa.E
open Go

/-! ### Counting, erased -/
/-- The table, but that Counting hands a nil slice of kids on as nil. -/
def tab3 : Tab := { tab with rsl := fun f => bif Nat.beq f 63 then [.fz [none, none, none, none, none, some 2, none, some 2, none, none, none]] else tab.rsl f }
theorem tab3_ok : TabOk Try.prog tab3 := ⟨tab_ok.eqa, tab_ok.ti, tab_ok.fok⟩
set_option maxRecDepth 10000 in
set_option maxHeartbeats 4000000 in
theorem counting_call (k : Int) (name arg : ByteArray) (num tk : Int) (tks : List Ty) (uk : Int) (uks : List Ty) (label place : Int) (ks : List Tm) (hv : validK k = true) :
    ACall Try.prog 63 [(Tm.node k name arg num tk tks uk uks label place ks).val] [] (fun o σ => o = .ret (.agg [.d (.int .i8 k), .d (.str (if nameK k || decide (k = 15) then name else ⟨#[]⟩)), .d (.str (if argK k then arg else ⟨#[]⟩)), .d (.int .i64 (if decide (k = 1) then num else 0)), .d (.int .i8 (if typeK k then tk else 0)), .d (.sl 0 2 (Ty.rows (if typeK k then tks else []))), .d (.int .i8 (if toK k then uk else 0)), .d (.sl 0 2 (Ty.rows (if toK k then uks else []))), .d (.int .i64 (if decide (k = 17) then label else 0)), .d (.int .i64 place), .d .nils]) ∧ σ = []) := by
  have c1 := rhasName_call k
  have c2 := rhasArg_call k
  have c3 := rhasType_call k
  have c4 := rhasTo_call k
  rcases kinds k hv with rfl | rfl | rfl | rfl | rfl | rfl | rfl | rfl | rfl | rfl | rfl | rfl | rfl | rfl | rfl | rfl | rfl | rfl
  all_goals
    clear hv
    refine ACall.body tab3_ok (ρ := 0) (N := 46) Try.func63 rfl rfl rfl rfl rfl ?_
    skip
    repeat' first | refine AW.seq ?_ | refine AW.block ?_ | ((first | refine AW.region tab3_ok ?_ | refine AW.cond ?_ | refine AW.skip ?_ | refine AW.ret ?_ | refine AW.exit ?_); conv => whnf) | ((first | refine (c1).mono ?_ | refine (c2).mono ?_ | refine (c3).mono ?_ | refine (c4).mono ?_); rintro _ _ ⟨rfl, rfl⟩; conv => whnf) | ((first | refine And.intro (@rfl Val _) ?_ | refine And.intro (by decide) ?_ | refine cs (fun _ => ?_) (fun _ => ?_)) <;> conv => whnf)
    all_goals first | exact ⟨rfl, rfl⟩
end Go.Proofs.Ytlboogackecjlaa.E
