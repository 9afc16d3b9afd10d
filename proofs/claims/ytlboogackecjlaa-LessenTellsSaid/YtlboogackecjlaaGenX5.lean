/- Texts, merged: Tm7, Tm8, Tm9, Ty5, Ty6, Tm10, Tm11, Ty7, Ty8, Ty9, Tm12, Tm13, Tm15, Tm16, Tm14, Tmd, Le0. No conditions. -/
import Derived.Test.YtlboogackecjlaaGenX4
import Derived.Test.YtlboogackecjlaaGenX2
import Derived.Test.YtlboogackecjlaaEngX3
/- Walk: terms.right. No conditions. -/
set_option linter.unusedVariables false
set_option linter.unusedSimpArgs false
namespace Go.Proofs.Ytlboogackecjlaa.E
open Go

set_option maxRecDepth 10000 in
set_option maxHeartbeats 4000000 in
theorem tmright_call (t : Tm) : tmN t ≤ 8192 → ACall Try.prog 68 [.c (.d (.rp 0 t.cells))] [] (fun o σ => o = .ret (.c (.d (.bool (tmright t)))) ∧ σ = []) := by
  induction t using Tm.ind with
  | _ k name arg num tk tks uk uks label place ks ih =>
  intro hN
  have hlen := tmNL_len ks
  simp only [tmN] at hN
  have ih' : ∀ t ∈ ks, ACall Try.prog 68 [.c (.d (.rp 0 t.cells))] [] (fun o σ => o = .ret (.c (.d (.bool (tmright t)))) ∧ σ = []) := fun t ht => ih t ht (by have := tmN_mem ks t ht; omega)
  have fin : ∀ (s0 : Int) (b1 b2 b3 b4 b5 b6 b7 : Bool), ownRight (.node k name arg num tk tks uk uks label place ks) = true → ∀ env, get env 0 = .c (.d (.rp 0 (Tm.node k name arg num tk tks uk uks label place ks).cells)) →
      AW Try.prog tab 0 rest72 ⟨120, env, [.var [.d (.int .i64 s0), .d (.bool b1), .d (.bool b2), .d (.bool b3), .d (.bool b4), .d (.bool b5), .d (.bool b6), .d (.bool b7)]], []⟩ (afin tab 0 68 Try.f68.results.toList ([] : List AObj).length (fun o σ => o = .ret (.c (.d (.bool (tmright (.node k name arg num tk tks uk uks label place ks))))) ∧ σ = [])) := fun s0 b1 b2 b3 b4 b5 b6 b7 ho env g0 => by
    have e : tmright (.node k name arg num tk tks uk uks label place ks) = tmrights ks := by simp [tmright, ho]
    rw [e]
    refine AW.fits ?_ ?_ (right_rest k name arg num tk tks uk uks label place ks s0 b1 b2 b3 b4 b5 b6 b7 (by omega) ih')
    · exact ⟨⟨g0, trivial⟩, rfl, rfl, ⟨[], rfl⟩, rfl⟩
    · rfl
  clear ih ih' hN hlen
  have c1 := of_call k
  by_cases hv : validK k = true
  · rcases kinds k hv with rfl | rfl | rfl | rfl | rfl | rfl | rfl | rfl | rfl | rfl | rfl | rfl | rfl | rfl | rfl | rfl | rfl | rfl
    all_goals
      refine ACall.body tab_ok (ρ := 0) (N := 120) Try.func68 rfl rfl rfl rfl rfl ?_
      repeat' first | (refine fin _ _ _ _ _ _ _ _ ?_ _ rfl) | refine AW.seq ?_ | refine AW.block ?_ | (refine (id : AW _ _ _ (.region 3 _ true) _ _ → _) ?_; refine AW.draw (id := 3) tab_ok mixed [0, 1, 2, 3, 4, 5, 6, 7, 8] (by kernel_rfl) ?_; conv => whnf) | ((first | refine AW.region tab_ok ?_ | refine AW.cond ?_ | refine AW.skip ?_ | refine AW.ret ?_ | refine AW.exit ?_); conv => whnf) | ((first | refine (c1).mono ?_ | refine (name_call name).mono ?_ | refine (name_call arg).mono ?_ | refine (check_call (.node tk tks)).mono ?_ | refine (check_call (.node uk uks)).mono ?_); rintro _ _ ⟨rfl, rfl⟩; conv => whnf) | ((first | refine And.intro (@rfl Val _) ?_ | refine And.intro (by decide) ?_ | refine cs (fun _ => ?_) (fun _ => ?_)) <;> conv => whnf)
    all_goals clear c1 fin hv
    all_goals first
      | (refine ⟨outb ?_, rfl⟩
         simp only [tmright, ownRight]
         simp_all [kidsK, validK, nameK, argK, typeK, toK, opF, opsF, trows_length]
         done)
      | (refine ⟨outb ?_, rfl⟩
         simp only [tmright, ownRight]
         simp_all [kidsK, validK, nameK, argK, typeK, toK, opF, opsF, trows_length]
         omega)
      | (simp only [ownRight]
         simp_all [kidsK, validK, nameK, argK, typeK, toK, opF, opsF, trows_length]
         done)
      | (simp only [ownRight]
         simp_all [kidsK, validK, nameK, argK, typeK, toK, opF, opsF, trows_length]
         omega)
  · have hv : validK k = false := by simpa using hv
    rw [hv] at c1
    refine ACall.body tab_ok (ρ := 0) (N := 120) Try.func68 rfl rfl rfl rfl rfl ?_
    skip
    repeat' first | refine AW.seq ?_ | refine AW.block ?_ | (refine (id : AW _ _ _ (.region 3 _ true) _ _ → _) ?_; refine AW.draw (id := 3) tab_ok mixed [0, 1, 2, 3, 4, 5, 6, 7, 8] (by kernel_rfl) ?_; conv => whnf) | ((first | refine AW.region tab_ok ?_ | refine AW.cond ?_ | refine AW.skip ?_ | refine AW.ret ?_ | refine AW.exit ?_); conv => whnf) | (refine (c1).mono ?_; rintro _ _ ⟨rfl, rfl⟩; conv => whnf) | ((first | refine And.intro (@rfl Val _) ?_ | refine And.intro (by decide) ?_ | refine cs (fun _ => ?_) (fun _ => ?_)) <;> conv => whnf)
    have hk : kidsK k = -1 := by simp [validK] at hv; unfold kidsK; repeat rw [if_neg (by omega)]
    refine ⟨outb ?_, rfl⟩
    simp only [tmright, ownRight, hk]
    rw [show decide ((-1 : Int) = (ks.length : Int)) = false by simp <;> omega]
    rfl
end Go.Proofs.Ytlboogackecjlaa.E

/- Walk: ref right of terms. No conditions. -/
set_option linter.unusedVariables false
set_option linter.unusedSimpArgs false
namespace Go.Proofs.Ytlboogackecjlaa.E
open Go

noncomputable def rest73 : Code := match Try.f71.body with
  | some (.seq _ (.seq _ (.seq _ (.seq _ c)))) => c
  | _ => .skip
set_option maxRecDepth 10000 in
theorem rright_rest (k : Int) (name arg : ByteArray) (num tk : Int) (tks : List Ty) (uk : Int) (uks : List Ty) (label place : Int) (ks : List Tm) (hlen : ks.length ≤ 8192)
    (ih : ∀ t ∈ ks, ACall Try.prog 71 [t.val] [] (fun o σ => o = .ret (.c (.d (.bool (tmright t)))) ∧ σ = [])) :
    AW Try.prog tab 0 rest73 ⟨101, [(1, .c (.ptr 0 0))], [.var [.d (.int .i8 k), .d (.str name), .d (.str arg), .d (.int .i64 num), .d (.int .i8 tk), .d (.sl 0 2 (Ty.rows tks)), .d (.int .i8 uk), .d (.sl 0 2 (Ty.rows uks)), .d (.int .i64 label), .d (.int .i64 place), .d (.sl 0 11 (Tm.rows ks))]], []⟩
      (afin tab 0 71 [.tmp 2] 0 (fun o σ => o = .ret (.c (.d (.bool (tmrights ks)))) ∧ σ = [])) := by
  repeat' first | refine AW.seq ?_ | refine AW.block ?_ | (refine (id : AW _ _ _ (.region 1 _ true) _ _ → _) ?_; refine AW.draw (id := 1) tab_ok mixed [0, 1, 3, 4, 5, 2, 6, 7, 8, 9, 10, 11, 12, 13, 14, 15, 16, 17, 18, 19, 20, 21, 22, 23, 24, 25, 26] (by kernel_rfl) ?_; conv => whnf) | ((first | refine AW.region tab_ok ?_ | refine AW.cond ?_ | refine AW.skip ?_ | refine AW.ret ?_ | refine AW.exit ?_); conv => whnf) | ((first | refine And.intro (@rfl Val _) ?_ | refine And.intro (by decide) ?_ | refine cs (fun _ => ?_) (fun _ => ?_)) <;> conv => whnf)
  refine AW.loop (ι := TmRightI ks) (fun x => ⟨101, [(3, .c (.d (.int .i64 x.i))), (1, .c (.ptr 0 0))], [.var [.d (.int .i8 k), .d (.str name), .d (.str arg), .d (.int .i64 num), .d (.int .i8 tk), .d (.sl 0 2 (Ty.rows tks)), .d (.int .i8 uk), .d (.sl 0 2 (Ty.rows uks)), .d (.int .i64 label), .d (.int .i64 place), .d (.sl 0 11 (Tm.rows ks))]], []⟩)
    (fun x => ks.length - x.i) ⟨0, Nat.zero_le _, rfl⟩ 1 (fun _ => rfl) (Nat.le_of_ble_eq_true rfl) ⟨⟨rfl, rfl, trivial⟩, rfl, rfl, ⟨[], rfl⟩, rfl⟩ (fun x => ?_)
  obtain ⟨i, hi, hj⟩ := x
  repeat' first | refine AW.seq ?_ | refine AW.block ?_ | (refine (id : AW _ _ _ (.region 1 _ true) _ _ → _) ?_; refine AW.draw (id := 1) tab_ok mixed [0, 1, 3, 4, 5, 2, 6, 7, 8, 9, 10, 11, 12, 13, 14, 15, 16, 17, 18, 19, 20, 21, 22, 23, 24, 25, 26] (by kernel_rfl) ?_; conv => whnf) | ((first | refine AW.region tab_ok ?_ | refine AW.cond ?_ | refine AW.skip ?_ | refine AW.ret ?_ | refine AW.exit ?_); conv => whnf) | ((first | refine And.intro (@rfl Val _) ?_ | refine And.intro (by decide) ?_ | refine cs (fun _ => ?_) (fun _ => ?_)) <;> conv => whnf)
  · rename_i h2
    simp only [trows_length] at h2 ⊢
    have := of_decide_eq_true h2
    refine ⟨by omega, fun row hrow => ?_⟩
    obtain ⟨t, ht, rfl⟩ := trows_get ks i row (by simpa using hrow)
    have hlt : i < ks.length := (List.getElem?_eq_some_iff.1 ht).1
    have hmem := List.mem_of_getElem? ht
    have hc := ih t hmem
    have hn := tmrights_take ks i _ ht
    have hf := tmrights_no ks t hmem
    generalize tmright t = b at hc hn hf
    obtain ⟨k', name', arg', num', tk', tks', uk', uks', label', place', ks'⟩ := t
    conv => whnf
    repeat' first | refine AW.seq ?_ | refine AW.block ?_ | (refine (id : AW _ _ _ (.region 1 _ true) _ _ → _) ?_; refine AW.draw (id := 1) tab_ok mixed [0, 1, 3, 4, 5, 2, 6, 7, 8, 9, 10, 11, 12, 13, 14, 15, 16, 17, 18, 19, 20, 21, 22, 23, 24, 25, 26] (by kernel_rfl) ?_; conv => whnf) | ((first | refine AW.region tab_ok ?_ | refine AW.cond ?_ | refine AW.skip ?_ | refine AW.ret ?_ | refine AW.exit ?_); conv => whnf) | (refine (hc).mono ?_; rintro _ _ ⟨rfl, rfl⟩; conv => whnf) | ((first | refine And.intro (@rfl Val _) ?_ | refine And.intro (by decide) ?_ | refine cs (fun _ => ?_) (fun _ => ?_)) <;> conv => whnf)
    · rename_i h3
      have h3 : b = false := by simpa using h3
      exact ⟨outb (hf h3).symm, rfl⟩
    · rename_i h3
      have h3 : b = true := by simpa using h3
      rw [wrap64 (x := (i : Int) + 1) (by omega) (by omega)]
      exact ⟨⟨i + 1, hlt, by rw [hn, hj, h3]; rfl⟩, ⟨⟨rfl, rfl, trivial⟩, rfl, rfl, ⟨[], rfl⟩, rfl⟩, show ks.length - (i + 1) < ks.length - i by omega⟩
  · rename_i h2
    simp only [trows_length] at h2
    have := of_decide_eq_false h2
    obtain rfl : i = ks.length := by omega
    simp only [List.take_length] at hj
    exact ⟨outb hj.symm, rfl⟩
set_option maxRecDepth 10000 in
set_option maxHeartbeats 4000000 in
theorem rtmright_call (t : Tm) : tmN t ≤ 8192 → ACall Try.prog 71 [t.val] [] (fun o σ => o = .ret (.c (.d (.bool (tmright t)))) ∧ σ = []) := by
  induction t using Tm.ind with
  | _ k name arg num tk tks uk uks label place ks ih =>
  intro hN
  have hlen := tmNL_len ks
  simp only [tmN] at hN
  have ih' : ∀ t ∈ ks, ACall Try.prog 71 [t.val] [] (fun o σ => o = .ret (.c (.d (.bool (tmright t)))) ∧ σ = []) := fun t ht => ih t ht (by have := tmN_mem ks t ht; omega)
  have fin : ownRight (.node k name arg num tk tks uk uks label place ks) = true → ∀ env, get env 1 = .c (.ptr 0 0) →
      AW Try.prog tab 0 rest73 ⟨101, env, [.var [.d (.int .i8 k), .d (.str name), .d (.str arg), .d (.int .i64 num), .d (.int .i8 tk), .d (.sl 0 2 (Ty.rows tks)), .d (.int .i8 uk), .d (.sl 0 2 (Ty.rows uks)), .d (.int .i64 label), .d (.int .i64 place), .d (.sl 0 11 (Tm.rows ks))]], []⟩ (afin tab 0 71 Try.f71.results.toList ([] : List AObj).length (fun o σ => o = .ret (.c (.d (.bool (tmright (.node k name arg num tk tks uk uks label place ks))))) ∧ σ = [])) := fun ho env g0 => by
    have e : tmright (.node k name arg num tk tks uk uks label place ks) = tmrights ks := by simp [tmright, ho]
    rw [e]
    refine AW.fits ?_ ?_ (rright_rest k name arg num tk tks uk uks label place ks (by omega) ih')
    · exact ⟨⟨g0, trivial⟩, rfl, rfl, ⟨[], rfl⟩, rfl⟩
    · rfl
  clear ih ih' hN hlen
  by_cases hv : validK k = true
  · rcases kinds k hv with rfl | rfl | rfl | rfl | rfl | rfl | rfl | rfl | rfl | rfl | rfl | rfl | rfl | rfl | rfl | rfl | rfl | rfl
    all_goals
      refine ACall.body tab_ok (ρ := 0) (N := 101) Try.func71 rfl rfl rfl rfl rfl ?_
      repeat' first | (refine fin ?_ _ rfl) | refine AW.seq ?_ | refine AW.block ?_ | (refine (id : AW _ _ _ (.region 1 _ true) _ _ → _) ?_; refine AW.draw (id := 1) tab_ok mixed [0, 1, 3, 4, 5, 2, 6, 7, 8, 9, 10, 11, 12, 13, 14, 15, 16, 17, 18, 19, 20, 21, 22, 23, 24, 25, 26] (by kernel_rfl) ?_; conv => whnf) | ((first | refine AW.region tab_ok ?_ | refine AW.cond ?_ | refine AW.skip ?_ | refine AW.ret ?_ | refine AW.exit ?_); conv => whnf) | ((first | refine (rkids_call _).mono ?_ | refine (rop_call _).mono ?_ | refine (rhasName_call _).mono ?_ | refine (rhasArg_call _).mono ?_ | refine (rhasType_call _).mono ?_ | refine (rhasTo_call _).mono ?_ | refine (rname_call name).mono ?_ | refine (rname_call arg).mono ?_ | refine (rcheck_call (.node tk tks)).mono ?_ | refine (rcheck_call (.node uk uks)).mono ?_); rintro _ _ ⟨rfl, rfl⟩; conv => whnf) | ((first | refine And.intro (@rfl Val _) ?_ | refine And.intro (by decide) ?_ | refine cs (fun _ => ?_) (fun _ => ?_)) <;> conv => whnf)
    all_goals clear fin hv
    all_goals first
      | (refine ⟨outb ?_, rfl⟩
         simp only [tmright, ownRight]
         simp_all [kidsK, validK, nameK, argK, typeK, toK, trows_length]
         done)
      | (refine ⟨outb ?_, rfl⟩
         simp only [tmright, ownRight]
         simp_all [kidsK, validK, nameK, argK, typeK, toK, trows_length]
         omega)
      | (simp only [ownRight]
         simp_all [kidsK, validK, nameK, argK, typeK, toK, trows_length]
         done)
      | (simp only [ownRight]
         simp_all [kidsK, validK, nameK, argK, typeK, toK, trows_length]
         omega)
      | trace_state
  · have hv : validK k = false := by simpa using hv
    have hk : kidsK k = -1 := by simp [validK] at hv; unfold kidsK; repeat rw [if_neg (by omega)]
    have c1 := rkids_call k
    rw [hk] at c1
    have hb : decide ((-1 : Int) = (ks.length : Int)) = false := by simp <;> omega
    have hr : tmright (.node k name arg num tk tks uk uks label place ks) = false := by
      simp only [tmright, ownRight, hk]
      rw [hb]
      rfl
    rw [hr] at *
    clear fin
    have hl : ((-1 : Int) != ((Tm.rows ks).length : Int)) = true := by simp <;> omega
    refine ACall.body tab_ok (ρ := 0) (N := 101) Try.func71 rfl rfl rfl rfl rfl ?_
    skip
    repeat' first | refine AW.seq ?_ | refine AW.block ?_ | (refine (id : AW _ _ _ (.region 1 _ true) _ _ → _) ?_; refine AW.draw (id := 1) tab_ok mixed [0, 1, 3, 4, 5, 2, 6, 7, 8, 9, 10, 11, 12, 13, 14, 15, 16, 17, 18, 19, 20, 21, 22, 23, 24, 25, 26] (by kernel_rfl) ?_; conv => whnf) | ((first | refine AW.region tab_ok ?_ | refine AW.cond ?_ | refine AW.skip ?_ | refine AW.ret ?_ | refine AW.exit ?_); conv => whnf) | (refine (c1).mono ?_; rintro _ _ ⟨rfl, rfl⟩; conv => whnf) | ((first | refine And.intro (@rfl Val _) ?_ | refine And.intro (by decide) ?_ | refine cs (fun _ => ?_) (fun _ => ?_)) <;> conv => whnf)
    all_goals exact ⟨rfl, rfl⟩
end Go.Proofs.Ytlboogackecjlaa.E

/- Walks: Check of terms, both; the law TermsCheck. No conditions. -/
set_option linter.unusedVariables false
set_option linter.unusedSimpArgs false
namespace Go.Proofs.Ytlboogackecjlaa.E
open Go

def tmcheck (t : Tm) : Int := if tmN t > 8192 then 32 else if tmD t 201 > 200 then 31 else if tmright t then 0 else 30
theorem tmcheck_eq (t : Tm) : tmcheck t = if tmN t > 8192 then 32 else if tmDepth t > 200 then 31 else if tmright t then 0 else 30 := by
  unfold tmcheck tmDepth
  split <;> rfl
set_option maxRecDepth 10000 in
theorem tmCheck_call (t : Tm) : ACall Try.prog 40 [t.val] [] (fun o σ => o = .ret (.c (.d (.int .i64 (tmcheck t)))) ∧ σ = []) := by
  have c1 := tnodes_call t
  have c2 := tDepth_call t
  have c3 := tmright_call t
  rw [tmcheck_eq]
  generalize tmN t = nn at *
  generalize tmDepth t = dd at *
  generalize tmright t = rr at *
  obtain ⟨k, name, arg, num, tk, tks, uk, uks, label, place, ks⟩ := t
  refine ACall.body tab_ok (ρ := 0) (N := 11) Try.func40 rfl rfl rfl rfl rfl ?_
  repeat' first | refine AW.seq ?_ | refine AW.block ?_ | ((first | refine AW.region tab_ok ?_ | refine AW.cond ?_ | refine AW.skip ?_ | refine AW.ret ?_ | refine AW.exit ?_); conv => whnf) | ((first | refine (c1).mono ?_ | refine (c2).mono ?_); rintro _ _ ⟨rfl, rfl⟩; conv => whnf) | ((first | refine And.intro (@rfl Val _) ?_ | refine And.intro (by decide) ?_ | refine cs (fun _ => ?_) (fun _ => ?_)) <;> conv => whnf)
  · rename_i h
    have := of_decide_eq_true h
    refine ⟨?_, rfl⟩
    simp only [oneOf]
    rw [if_pos (by omega)]
  · rename_i h1 h2
    have := of_decide_eq_false h1
    have h2 := of_decide_eq_true h2
    refine ⟨?_, rfl⟩
    simp only [oneOf]
    rw [if_neg (by omega), if_pos (by omega)]
  · rename_i h1 h2
    have := of_decide_eq_false h1
    have h2 := of_decide_eq_false h2
    refine (c3 (by omega)).mono ?_
    rintro _ _ ⟨rfl, rfl⟩
    conv => whnf
    repeat' first | refine AW.seq ?_ | refine AW.block ?_ | ((first | refine AW.region tab_ok ?_ | refine AW.cond ?_ | refine AW.skip ?_ | refine AW.ret ?_ | refine AW.exit ?_); conv => whnf) | ((first | refine And.intro (@rfl Val _) ?_ | refine And.intro (by decide) ?_ | refine cs (fun _ => ?_) (fun _ => ?_)) <;> conv => whnf)
    all_goals
      rename_i h3
      refine ⟨?_, rfl⟩
      simp only [oneOf]
      rw [if_neg (by omega), if_neg (by omega)]
      simp at h3
      simp [h3]
set_option maxRecDepth 10000 in
theorem rtmCheck_call (t : Tm) : ACall Try.prog 44 [t.val] [] (fun o σ => o = .ret (.c (.d (.int .i64 (tmcheck t)))) ∧ σ = []) := by
  have c1 := rtnodes_call t
  have c2 := rtDepth_call t
  have c3 := rtmright_call t
  rw [tmcheck_eq]
  generalize tmN t = nn at *
  generalize tmDepth t = dd at *
  generalize tmright t = rr at *
  obtain ⟨k, name, arg, num, tk, tks, uk, uks, label, place, ks⟩ := t
  refine ACall.body tab_ok (ρ := 0) (N := 12) Try.func44 rfl rfl rfl rfl rfl ?_
  repeat' first | refine AW.seq ?_ | refine AW.block ?_ | ((first | refine AW.region tab_ok ?_ | refine AW.cond ?_ | refine AW.skip ?_ | refine AW.ret ?_ | refine AW.exit ?_); conv => whnf) | ((first | refine (c1).mono ?_ | refine (c2).mono ?_); rintro _ _ ⟨rfl, rfl⟩; conv => whnf) | ((first | refine And.intro (@rfl Val _) ?_ | refine And.intro (by decide) ?_ | refine cs (fun _ => ?_) (fun _ => ?_)) <;> conv => whnf)
  · rename_i h
    have := of_decide_eq_true h
    refine ⟨?_, rfl⟩
    simp only [oneOf]
    rw [if_pos (by omega)]
  · rename_i h1 h2
    have := of_decide_eq_false h1
    have h2 := of_decide_eq_true h2
    refine ⟨?_, rfl⟩
    simp only [oneOf]
    rw [if_neg (by omega), if_pos (by omega)]
  · rename_i h1 h2
    have := of_decide_eq_false h1
    have h2 := of_decide_eq_false h2
    refine (c3 (by omega)).mono ?_
    rintro _ _ ⟨rfl, rfl⟩
    conv => whnf
    repeat' first | refine AW.seq ?_ | refine AW.block ?_ | ((first | refine AW.region tab_ok ?_ | refine AW.cond ?_ | refine AW.skip ?_ | refine AW.ret ?_ | refine AW.exit ?_); conv => whnf) | ((first | refine And.intro (@rfl Val _) ?_ | refine And.intro (by decide) ?_ | refine cs (fun _ => ?_) (fun _ => ?_)) <;> conv => whnf)
    all_goals
      rename_i h3
      refine ⟨?_, rfl⟩
      simp only [oneOf]
      rw [if_neg (by omega), if_neg (by omega)]
      simp at h3
      simp [h3]
end Go.Proofs.Ytlboogackecjlaa.E

/- Walks: less of both; Less of both; the law. No conditions. -/
set_option linter.unusedVariables false
set_option linter.unusedSimpArgs false
namespace Go.Proofs.Ytlboogackecjlaa.E
open Go

/-! ### less, Less -/
end Go.Proofs.Ytlboogackecjlaa.E

/- Walks: types.equal, Same; the law OrderGoes. No conditions. -/
set_option linter.unusedVariables false
set_option linter.unusedSimpArgs false
namespace Go.Proofs.Ytlboogackecjlaa.E
open Go

/-! ### An order -/
end Go.Proofs.Ytlboogackecjlaa.E

/- Walks: Same of types in the document's answer; same of terms, both. No conditions. -/
set_option linter.unusedVariables false
set_option linter.unusedSimpArgs false
namespace Go.Proofs.Ytlboogackecjlaa.E
open Go

/-! ### Same of types, the document's -/
/-! ### Same of terms -/
theorem tmright_len {k name arg num tk tks uk uks label place ks} (h : tmright (.node k name arg num tk tks uk uks label place ks) = true) : kidsK k = ks.length := by
  simp [tmright, ownRight] at h
  exact h.1.1.1.1.1.1.1
theorem tmright_kid {k name arg num tk tks uk uks label place ks} (h : tmright (.node k name arg num tk tks uk uks label place ks) = true) {t : Tm} (ht : t ∈ ks) : tmright t = true := by
  simp only [tmright, Bool.and_eq_true] at h
  exact (tmrights_all ks).1 h.2 t ht
theorem kidsK_le (k : Int) : kidsK k ≤ 3 := by
  unfold kidsK
  repeat (split <;> try omega)
theorem tmright_valid {k name arg num tk tks uk uks label place ks} (h : tmright (.node k name arg num tk tks uk uks label place ks) = true) : validK k = true := by
  have h := tmright_len h
  cases hv : validK k with
  | true => rfl
  | false =>
    have hk : kidsK k = -1 := by simp [validK] at hv; unfold kidsK; repeat rw [if_neg (by omega)]
    omega
end Go.Proofs.Ytlboogackecjlaa.E

/- Walks: same of terms in the document's answer. No conditions. -/
set_option linter.unusedVariables false
set_option linter.unusedSimpArgs false
namespace Go.Proofs.Ytlboogackecjlaa.E
open Go

theorem tmcheck_right {t : Tm} (h : tmcheck t = 0) : tmright t = true := by
  unfold tmcheck at h
  split at h
  · omega
  · split at h
    · omega
    · split at h
      · assumption
      · omega
end Go.Proofs.Ytlboogackecjlaa.E

/- Walks: agree of both. No conditions. -/
set_option linter.unusedVariables false
set_option linter.unusedSimpArgs false
namespace Go.Proofs.Ytlboogackecjlaa.E
open Go

end Go.Proofs.Ytlboogackecjlaa.E

/- Walks: meet of both. No conditions. -/
set_option linter.unusedVariables false
set_option linter.unusedSimpArgs false
namespace Go.Proofs.Ytlboogackecjlaa.E
open Go

/-! ### order.meet -/
end Go.Proofs.Ytlboogackecjlaa.E

/- Walks: Meet, kind, met; the law OrderMeet. No conditions. -/
set_option linter.unusedVariables false
set_option linter.unusedSimpArgs false
namespace Go.Proofs.Ytlboogackecjlaa.E
open Go

/-! ### kind, of a type and itself -/
end Go.Proofs.Ytlboogackecjlaa.E

/- Walks: kind, Whole of a thing and itself; whole. No conditions. -/
set_option linter.unusedVariables false
set_option linter.unusedSimpArgs false
namespace Go.Proofs.Ytlboogackecjlaa.E
open Go

theorem nodes_len {k : Int} {ks : List Ty} (h : nodes (.node k ks) ≤ 8192) : ks.length ≤ 8192 := by
  have := nodesL_len ks
  simp only [nodes] at h
  omega
/-! ### whole -/
end Go.Proofs.Ytlboogackecjlaa.E

/- Walks: bare of terms, both. No conditions. -/
set_option linter.unusedVariables false
set_option linter.unusedSimpArgs false
namespace Go.Proofs.Ytlboogackecjlaa.E
open Go

def tcell (b : Bool) (ks : List Ty) : DV := match b with
  | true => .sl 0 2 (Ty.rows ks)
  | false => .nils
end Go.Proofs.Ytlboogackecjlaa.E

/- Walks: order.each, Has. No conditions. -/
set_option linter.unusedVariables false
set_option linter.unusedSimpArgs false
namespace Go.Proofs.Ytlboogackecjlaa.E
open Go

def fromA (k : Int) : Bool := decide (k = 5 ∨ k = 4 ∨ k = 7 ∨ k = 12 ∨ k = 13 ∨ k = 16)
/-! ### Has -/
mutual
def tmhas (q : Int) : Tm → Bool
  | .node k name arg num tk tks uk uks label place ks => decide (k = q) || tmhass q ks
def tmhass (q : Int) : List Tm → Bool
  | [] => false
  | t :: l => tmhas q t || tmhass q l
end
theorem tmhass_take (q : Int) : ∀ (ks : List Tm) (i : Nat) t, ks[i]? = some t → tmhass q (ks.take (i + 1)) = (tmhass q (ks.take i) || tmhas q t)
  | x :: l, 0, t, h => by simp at h; subst h; simp [tmhass]
  | x :: l, i + 1, t, h => by
    simp only [List.getElem?_cons_succ] at h
    have := tmhass_take q l i t h
    simp only [List.take_succ_cons, tmhass, this, Bool.or_assoc]
theorem tmhass_mem (q : Int) : ∀ (ks : List Tm) (t : Tm), t ∈ ks → tmhas q t = true → tmhass q ks = true
  | x :: l, t, hm, h => by
    simp only [tmhass, Bool.or_eq_true]
    rcases List.mem_cons.1 hm with rfl | hm
    · exact .inl h
    · exact .inr (tmhass_mem q l t hm h)
theorem tmhas_kid {q : Int} {k name arg num tk tks uk uks label place ks} (h : tmhas q (.node k name arg num tk tks uk uks label place ks) = false) {t : Tm} (ht : t ∈ ks) : tmhas q t = false := by
  cases hb : tmhas q t with
  | false => rfl
  | true => have := tmhass_mem q ks t ht hb; simp [tmhas, this] at h
structure TmHasI (q : Int) (ks : List Tm) where
  i : Nat
  hi : i ≤ ks.length
  h : tmhass q (ks.take i) = false
set_option maxRecDepth 10000 in
theorem rhas_call (q : Int) (t : Tm) : tmN t ≤ 8192 → ACall Try.prog 58 [t.val, .c (.d (.int .i8 q))] [] (fun o σ => o = .ret (.c (.d (.bool (tmhas q t)))) ∧ σ = []) := by
  induction t using Tm.ind with
  | _ k name arg num tk tks uk uks label place ks ih =>
  intro hN
  have hlen := tmNL_len ks
  simp only [tmN] at hN
  have ih' : ∀ t ∈ ks, ACall Try.prog 58 [t.val, .c (.d (.int .i8 q))] [] (fun o σ => o = .ret (.c (.d (.bool (tmhas q t)))) ∧ σ = []) := fun t ht => ih t ht (by have := tmN_mem ks t ht; omega)
  have e : tmhas q (.node k name arg num tk tks uk uks label place ks) = (decide (k = q) || tmhass q ks) := rfl
  rw [e]
  refine ACall.body tab_ok (ρ := 0) (N := 24) Try.func58 rfl rfl rfl rfl rfl ?_
  repeat' first | refine AW.seq ?_ | refine AW.block ?_ | ((first | refine AW.region tab_ok ?_ | refine AW.cond ?_ | refine AW.skip ?_ | refine AW.ret ?_ | refine AW.exit ?_); conv => whnf) | ((first | refine And.intro (@rfl Val _) ?_ | refine And.intro (by decide) ?_ | refine cs (fun _ => ?_) (fun _ => ?_)) <;> conv => whnf)
  · rename_i h
    have h : k = q := by simpa using h
    exact ⟨outb (by simp [h]), rfl⟩
  · rename_i h
    have h : k ≠ q := by simpa using h
    rw [show decide (k = q) = false by simp [h], Bool.false_or]
    refine AW.loop (ι := TmHasI q ks) (fun x => ⟨24, [(5, .c (.d (.int .i64 x.i))), (2, .c (.ptr 0 0)), (1, .c (.d (.int .i8 q)))], [.var [.d (.int .i8 k), .d (.str name), .d (.str arg), .d (.int .i64 num), .d (.int .i8 tk), .d (.sl 0 2 (Ty.rows tks)), .d (.int .i8 uk), .d (.sl 0 2 (Ty.rows uks)), .d (.int .i64 label), .d (.int .i64 place), .d (.sl 0 11 (Tm.rows ks))]], []⟩)
      (fun x => ks.length - x.i) ⟨0, Nat.zero_le _, rfl⟩ 1 (fun _ => rfl) (Nat.le_of_ble_eq_true rfl) ⟨⟨rfl, rfl, rfl, trivial⟩, rfl, rfl, ⟨[], rfl⟩, rfl⟩ (fun x => ?_)
    obtain ⟨i, hi, hj⟩ := x
    repeat' first | refine AW.seq ?_ | refine AW.block ?_ | ((first | refine AW.region tab_ok ?_ | refine AW.cond ?_ | refine AW.skip ?_ | refine AW.ret ?_ | refine AW.exit ?_); conv => whnf) | ((first | refine And.intro (@rfl Val _) ?_ | refine And.intro (by decide) ?_ | refine cs (fun _ => ?_) (fun _ => ?_)) <;> conv => whnf)
    · rename_i h2
      simp only [trows_length] at h2 ⊢
      have := of_decide_eq_true h2
      refine ⟨by omega, fun row hrow => ?_⟩
      obtain ⟨⟨kx, namex, argx, numx, tkx, tksx, ukx, uksx, labelx, placex, ksx⟩, ht, rfl⟩ := trows_get ks i row (by simpa using hrow)
      have hlt : i < ks.length := (List.getElem?_eq_some_iff.1 ht).1
      have hmem := List.mem_of_getElem? ht
      have hc := ih' _ hmem
      have hn := tmhass_take q ks i _ ht
      have hf := tmhass_mem q ks _ hmem
      generalize tmhas q (Tm.node kx namex argx numx tkx tksx ukx uksx labelx placex ksx) = b at hc hn hf
      conv => whnf
      repeat' first | refine AW.seq ?_ | refine AW.block ?_ | ((first | refine AW.region tab_ok ?_ | refine AW.cond ?_ | refine AW.skip ?_ | refine AW.ret ?_ | refine AW.exit ?_); conv => whnf) | (refine (hc).mono ?_; rintro _ _ ⟨rfl, rfl⟩; conv => whnf) | ((first | refine And.intro (@rfl Val _) ?_ | refine And.intro (by decide) ?_ | refine cs (fun _ => ?_) (fun _ => ?_)) <;> conv => whnf)
      · rename_i h3
        exact ⟨outb (hf h3).symm, rfl⟩
      · rename_i h3
        rw [wrap64 (x := (i : Int) + 1) (by omega) (by omega)]
        exact ⟨⟨i + 1, hlt, by rw [hn, hj, h3]; rfl⟩, ⟨⟨rfl, rfl, rfl, trivial⟩, rfl, rfl, ⟨[], rfl⟩, rfl⟩, show ks.length - (i + 1) < ks.length - i by omega⟩
    · rename_i h2
      simp only [trows_length] at h2
      have := of_decide_eq_false h2
      obtain rfl : i = ks.length := by omega
      simp only [List.take_length] at hj
      exact ⟨outb hj.symm, rfl⟩
/-! ### each -/
end Go.Proofs.Ytlboogackecjlaa.E

/- Walk: order.open. No conditions. -/
set_option linter.unusedVariables false
set_option linter.unusedSimpArgs false
namespace Go.Proofs.Ytlboogackecjlaa.E
open Go

end Go.Proofs.Ytlboogackecjlaa.E

/- Walks: bare of terms in the document's answer; Bare, both. No conditions. -/
set_option linter.unusedVariables false
set_option linter.unusedSimpArgs false
namespace Go.Proofs.Ytlboogackecjlaa.E
open Go

theorem tmcheck_ok {t : Tm} (h : tmcheck t = 0) : tmN t ≤ 8192 ∧ tmright t = true := by
  unfold tmcheck at h
  split at h
  · omega
  · split at h
    · omega
    · split at h
      · rename_i h3; exact ⟨by omega, h3⟩
      · omega
end Go.Proofs.Ytlboogackecjlaa.E

/- Plain laws: parts of a term that is one. No conditions. -/
set_option linter.unusedVariables false
set_option linter.unusedSimpArgs false
namespace Go.Proofs.Ytlboogackecjlaa.E
open Go

end Go.Proofs.Ytlboogackecjlaa.E

/- Less annotated terms: the model; maps of numbers; whether a term may be lessened. No conditions. -/
set_option linter.unusedVariables false
set_option linter.unusedSimpArgs false
namespace Go.Proofs.Ytlboogackecjlaa.E
open Go

/-! ### The model -/
mutual
/-- The spots of a type. -/
def spN : Ty → Nat
  | .node k ks => if k = 0 then 0 else 1 + spNL ks
def spNL : List Ty → Nat
  | [] => 0
  | t :: l => spN t + spNL l
end
mutual
/-- A type with the spots for which B holds made unknown; the first has the number n. -/
def walkT (B : Nat → Bool) (g : Bool) : Ty → Nat → Ty
  | .node k ks, n => if k = 0 then .node 0 [] else if (B n || g) = true then .node 0 [] else .node k (walkTs B ks (n + 1))
def walkTs (B : Nat → Bool) : List Ty → Nat → List Ty
  | [], _ => []
  | t :: l, n => walkT B false t n :: walkTs B l (n + spN t)
end
def walkGs (B : Nat → Bool) (g : Bool) : List Ty → Nat → List Ty
  | [], _ => []
  | t :: l, n => walkT B g t n :: walkGs B g l (n + spN t)
theorem walkGs_false (B : Nat → Bool) : ∀ (l : List Ty) (n : Nat), walkGs B false l n = walkTs B l n
  | [], _ => rfl
  | t :: l, n => by simp only [walkGs, walkTs, walkGs_false B l]
theorem spNL_take : ∀ (ks : List Ty) (i : Nat) t, ks[i]? = some t → spNL (ks.take (i + 1)) = spNL (ks.take i) + spN t
  | x :: l, 0, t, h => by simp at h; subst h; simp [spNL]
  | x :: l, i + 1, t, h => by
    simp only [List.getElem?_cons_succ] at h
    have := spNL_take l i t h
    simp only [List.take_succ_cons, spNL, this]; omega
theorem spNL_le : ∀ (ks : List Ty) (i : Nat), spNL (ks.take i) ≤ spNL ks
  | [], i => by simp
  | x :: l, 0 => by simp [spNL]
  | x :: l, i + 1 => by
    have := spNL_le l i
    simp only [List.take_succ_cons, spNL]; omega
theorem walkGs_take (B : Nat → Bool) (g : Bool) : ∀ (ks : List Ty) (i n : Nat) t, ks[i]? = some t → (walkGs B g ks n).take (i + 1) = (walkGs B g ks n).take i ++ [walkT B g t (n + spNL (ks.take i))]
  | x :: l, 0, n, t, h => by simp at h; subst h; simp [walkGs, spNL]
  | x :: l, i + 1, n, t, h => by
    simp only [List.getElem?_cons_succ] at h
    have := walkGs_take B g l i (n + spN x) t h
    simp only [walkGs, List.take_succ_cons, this, List.cons_append, spNL, Nat.add_assoc]
theorem walkGs_len (B : Nat → Bool) (g : Bool) : ∀ (l : List Ty) (n : Nat), (walkGs B g l n).length = l.length
  | [], _ => rfl
  | t :: l, n => by simp [walkGs, walkGs_len B g l]
theorem spN_nodes (a : Ty) : spN a ≤ nodes a := by
  induction a using Ty.ind with
  | _ k ks ih =>
  have hs : ∀ l : List Ty, (∀ t ∈ l, spN t ≤ nodes t) → spNL l ≤ nodesL l := fun l => by
    induction l with
    | nil => intro _; simp [spNL, nodesL]
    | cons x l il =>
      intro h
      have h1 := h x (by simp)
      have h2 := il fun t ht => h t (by simp [ht])
      simp only [spNL, nodesL]; omega
  have := hs ks ih
  simp only [spN, nodes]
  split <;> omega
/-- The spots of a term's own annotations. -/
def ownSp (k tk : Int) (tks : List Ty) (uk : Int) (uks : List Ty) : Nat := (if fromA k then spN (.node tk tks) else 0) + (if k = 5 then spN (.node uk uks) else 0)
mutual
def tmSp : Tm → Nat
  | .node k _ _ _ tk tks uk uks _ _ ks => ownSp k tk tks uk uks + tmSpL ks
def tmSpL : List Tm → Nat
  | [] => 0
  | t :: l => tmSp t + tmSpL l
end
def tyK : Ty → Int
  | .node k _ => k
def tyKs : Ty → List Ty
  | .node _ ks => ks
mutual
def leT (B : Nat → Bool) : Tm → Nat → Tm
  | .node k name arg num tk tks uk uks label place ks, n =>
    .node k (if nameK k || decide (k = 15) then name else ⟨#[]⟩) (if argK k then arg else ⟨#[]⟩) (if k = 1 then num else 0)
      (if fromA k then tyK (walkT B false (.node tk tks) n) else 0) (if fromA k then tyKs (walkT B false (.node tk tks) n) else [])
      (if k = 5 then tyK (walkT B false (.node uk uks) (n + spN (.node tk tks))) else 0) (if k = 5 then tyKs (walkT B false (.node uk uks) (n + spN (.node tk tks))) else [])
      0 place (leTs B ks (n + ownSp k tk tks uk uks))
def leTs (B : Nat → Bool) : List Tm → Nat → List Tm
  | [], _ => []
  | t :: l, n => leT B t n :: leTs B l (n + tmSp t)
end
theorem leTs_len (B : Nat → Bool) : ∀ (l : List Tm) (n : Nat), (leTs B l n).length = l.length
  | [], _ => rfl
  | t :: l, n => by simp [leTs, leTs_len B l]
theorem tmSpL_take : ∀ (ks : List Tm) (i : Nat) t, ks[i]? = some t → tmSpL (ks.take (i + 1)) = tmSpL (ks.take i) + tmSp t
  | x :: l, 0, t, h => by simp at h; subst h; simp [tmSpL]
  | x :: l, i + 1, t, h => by
    simp only [List.getElem?_cons_succ] at h
    have := tmSpL_take l i t h
    simp only [List.take_succ_cons, tmSpL, this]; omega
theorem tmSpL_le : ∀ (ks : List Tm) (i : Nat), tmSpL (ks.take i) ≤ tmSpL ks
  | [], i => by simp
  | x :: l, 0 => by simp [tmSpL]
  | x :: l, i + 1 => by
    have := tmSpL_le l i
    simp only [List.take_succ_cons, tmSpL]; omega
theorem leTs_get (B : Nat → Bool) : ∀ (ks : List Tm) (i n : Nat) t, ks[i]? = some t → (leTs B ks n)[i]? = some (leT B t (n + tmSpL (ks.take i)))
  | x :: l, 0, n, t, h => by simp at h; subst h; simp [leTs, tmSpL]
  | x :: l, i + 1, n, t, h => by
    simp only [List.getElem?_cons_succ] at h
    have := leTs_get B l i (n + tmSp x) t h
    simp only [leTs, List.getElem?_cons_succ, this, List.take_succ_cons, tmSpL, Nat.add_assoc]
theorem ownSp_le (k tk : Int) (tks : List Ty) (uk : Int) (uks : List Ty) (h17 : k ≠ 17) (h1 : typeK k = true → nodes (.node tk tks) ≤ 8192) (h2 : toK k = true → nodes (.node uk uks) ≤ 8192) :
    ownSp k tk tks uk uks ≤ (if typeK k = true then min (nodes (.node tk tks)) 8193 else 0) + (if toK k = true then min (nodes (.node uk uks)) 8193 else 0) := by
  have s1 := spN_nodes (.node tk tks)
  have s2 := spN_nodes (.node uk uks)
  unfold ownSp
  have e1 : fromA k = typeK k := by rw [Bool.eq_iff_iff]; simp [fromA, typeK]; omega
  have e2 : toK k = decide (k = 5) := by rw [Bool.eq_iff_iff]; simp [toK]; omega
  rw [e1, e2]
  rw [e2] at h2
  have m1 : (if typeK k = true then spN (.node tk tks) else 0) ≤ (if typeK k = true then min (nodes (.node tk tks)) 8193 else 0) := by
    split
    · rename_i h; have := h1 h; omega
    · exact Nat.le_refl 0
  have m2 : (if k = 5 then spN (.node uk uks) else 0) ≤ (if decide (k = 5) = true then min (nodes (.node uk uks)) 8193 else 0) := by
    split
    · rename_i h; have := h2 (by simpa using h); rw [if_pos (by simpa using h)]; omega
    · exact Nat.zero_le _
  omega
theorem tmSp_N (t : Tm) : tmN t ≤ 8192 → tmhas 17 t = false → tmSp t ≤ tmN t := by
  induction t using Tm.ind with
  | _ k name arg num tk tks uk uks label place ks ih =>
  intro hN h17
  simp only [tmN] at hN
  have hs : ∀ l : List Tm, tmNL l ≤ 8192 → (∀ t ∈ l, tmN t ≤ 8192 → tmhas 17 t = false → tmSp t ≤ tmN t) → (∀ t ∈ l, tmhas 17 t = false) → tmSpL l ≤ tmNL l := fun l => by
    induction l with
    | nil => intro _ _ _; simp [tmSpL, tmNL]
    | cons x l il =>
      intro hn h h'
      simp only [tmNL] at hn
      have h1 := h x (by simp) (by omega) (h' x (by simp))
      have h2 := il (by omega) (fun t ht => h t (by simp [ht])) (fun t ht => h' t (by simp [ht]))
      simp only [tmSpL, tmNL]; omega
  have h1 := hs ks (by omega) ih (fun t ht => tmhas_kid h17 ht)
  have hk : k ≠ 17 := fun e => by subst e; simp [tmhas] at h17
  have h2 := ownSp_le k tk tks uk uks hk (fun h => by rw [if_pos h] at hN; omega) (fun h => by rw [if_pos h] at hN; omega)
  simp only [tmSp, tmN]; omega

theorem rowsL_map : ∀ ks : List Ty, Ty.rows ks = ks.map Ty.cells
  | [] => rfl
  | t :: l => by simp [Ty.rows, rowsL_map l]
/-! ### Maps from numbers to numbers -/
abbrev IL := List (Nat × Int × Int)
def encI (l : IL) : List (Nat × DV × DV) := l.map fun x => (x.1, .int .i64 x.2.1, .int .i64 x.2.2)
def iget (s : Int) : IL → Nat → Option (Nat × Int)
  | [], _ => none
  | (_, k, v) :: l, i => if s = k then some (i, v) else iget s l (i + 1)
def iset (j : Nat) (v : Int) : IL → IL
  | [] => []
  | (c, k, u) :: l => match j with
    | 0 => (c, k, v) :: l
    | j + 1 => (c, k, u) :: iset j v l
theorem iget_enc (s : Int) : ∀ (l : IL) (i : Nat), mget (.int .i64 s) (encI l) i = (iget s l i).map fun x => (x.1, DV.int .i64 x.2)
  | [], i => rfl
  | (c, k, v) :: l, i => by
    have ih := iget_enc s l (i + 1)
    have hik : ikEq .i64 .i64 = true := rfl
    simp only [encI, List.map_cons, mget, iget, dvEq, hik, Bool.true_and, beq_iff_eq] at ih ⊢
    by_cases h : s = k
    · rw [if_pos h, if_pos h]; rfl
    · rw [if_neg h, if_neg h, ih]
theorem iset_enc : ∀ (l : IL) (j : Nat) (v : Int), mset j (.int .i64 v) (encI l) = encI (iset j v l)
  | [], j, v => by simp [mset, iset, encI]
  | (c, k, u) :: l, 0, v => rfl
  | (c, k, u) :: l, j + 1, v => by
    have ih := iset_enc l j v
    simp only [encI] at ih
    simp only [encI, List.map_cons, mset, iset, ih]
def ival (s : Int) (l : IL) : Int := match iget s l 0 with
  | some (_, v) => v
  | none => 0
def iput (s : Int) (v : Int) (m : Nat × IL) : Nat × IL := match iget s m.2 0 with
  | some (j, _) => (m.1, iset j v m.2)
  | none => (m.1 + 1, m.2 ++ [(m.1, s, v)])
theorem ilook_of {s : Int} {l : IL} {X : DV → Prop} (h : X (.int .i64 (ival s l))) : mlook (.int .i64 s) (encI l) (.int .i64 0) X := by
  refine ⟨?_⟩
  unfold mlookD
  rw [iget_enc]
  unfold ival at h
  cases hg : iget s l 0 with
  | none => rw [hg] at h; exact h
  | some x => rw [hg] at h; exact h
theorem iput_of {s : Int} {v : Int} {l : IL} {ck : Nat} {X : Nat → List (Nat × DV × DV) → Prop} (h : X (iput s v (ck, l)).1 (encI (iput s v (ck, l)).2)) : mput (.int .i64 s) (.int .i64 v) (encI l) ck X := by
  refine ⟨?_⟩
  unfold mputD
  rw [iget_enc]
  unfold iput at h
  cases hg : iget s l 0 with
  | none =>
    rw [hg] at h
    simp only [Option.map_none]
    have : encI l ++ [(ck, DV.int .i64 s, DV.int .i64 v)] = encI (l ++ [(ck, s, v)]) := by simp [encI]
    rw [this]; exact h
  | some x =>
    rw [hg] at h
    simp only [Option.map_some]
    rw [iset_enc]; exact h
def iv (s : Int) : IL → Option Int
  | [] => none
  | (_, k, v) :: l => if s = k then some v else iv s l
theorem iget_iv (s : Int) : ∀ (l : IL) (i : Nat), (iget s l i).map (·.2) = iv s l
  | [], i => rfl
  | (c, k, v) :: l, i => by
    simp only [iget, iv]
    split
    · rfl
    · exact iget_iv s l (i + 1)
theorem ival_iv (s : Int) (l : IL) : ival s l = (iv s l).getD 0 := by
  rw [← iget_iv s l 0]
  unfold ival
  cases iget s l 0 <;> rfl
theorem iget_some {s : Int} : ∀ {l : IL} {i j : Nat} {v : Int}, iget s l i = some (j, v) → ∃ k, j = i + k
  | (c, k, u) :: l, i, j, v, h => by
    simp only [iget] at h
    split at h
    · simp only [Option.some.injEq, Prod.mk.injEq] at h; exact ⟨0, by omega⟩
    · obtain ⟨n, hn⟩ := iget_some h; exact ⟨n + 1, by omega⟩
theorem iv_iset (s s' : Int) (v : Int) : ∀ (l : IL) (i k : Nat) (u : Int), iget s l i = some (i + k, u) → iv s' (iset k v l) = if s' = s then some v else iv s' l
  | [], i, k, u, h => by simp [iget] at h
  | (c, q, w) :: l, i, k, u, h => by
    simp only [iget] at h
    split at h
    · rename_i e
      simp only [Option.some.injEq, Prod.mk.injEq] at h
      obtain rfl : k = 0 := by omega
      subst e
      simp only [iset, iv]
      split <;> rfl
    · rename_i e
      obtain ⟨n, hn⟩ := iget_some h
      obtain rfl : k = n + 1 := by omega
      simp only [iset, iv]
      have ih := iv_iset s s' v l (i + 1) n u (by rw [h]; congr 2 <;> omega)
      split
      · rename_i e2
        subst e2
        rw [if_neg (fun e3 => e e3.symm)]
      · exact ih
theorem iv_app (s : Int) (x : Nat × Int × Int) : ∀ l : IL, iv s (l ++ [x]) = (iv s l).or (if s = x.2.1 then some x.2.2 else none)
  | [] => by obtain ⟨c, k, v⟩ := x; simp [iv]
  | (c, k, v) :: l => by
    simp only [List.cons_append, iv]
    split
    · rfl
    · exact iv_app s x l
theorem ival_iput (s s' : Int) (v : Int) (m : Nat × IL) : ival s' (iput s v m).2 = if s' = s then v else ival s' m.2 := by
  have : iv s' (iput s v m).2 = if s' = s then some v else iv s' m.2 := by
    unfold iput
    cases hg : iget s m.2 0 with
    | some x =>
      obtain ⟨j, u⟩ := x
      exact iv_iset s s' v m.2 0 j u (by simpa using hg)
    | none =>
      have hn : iv s m.2 = none := by rw [← iget_iv s m.2 0, hg]; rfl
      simp only [iv_app]
      split
      · rename_i e; subst e; rw [hn]; rfl
      · simp
  rw [ival_iv, this, ival_iv]; split <;> rfl
/-- How often numbers are there, counted into a map. -/
def imany : List Int → Nat × IL → Nat × IL
  | [], m => m
  | s :: l, m => imany l (iput s (IntKind.i64.wrap (ival s m.2 + 1)) m)
theorem imany_snoc (l : List Int) (s : Int) : ∀ m, imany (l ++ [s]) m = iput s (IntKind.i64.wrap (ival s (imany l m).2 + 1)) (imany l m) := by
  induction l with
  | nil => intro m; rfl
  | cons x l ih => intro m; exact ih _
theorem imany_val (q : Int) : ∀ (l : List Int) (m : Nat × IL), l.length ≤ 100000 → 0 ≤ ival q m.2 → ival q m.2 ≤ 1000000 → (∀ s, 0 ≤ ival s m.2 ∧ ival s m.2 + l.length ≤ 1000000) →
    (0 < ival q (imany l m).2 ↔ 0 < ival q m.2 ∨ q ∈ l)
  | [], m, _, _, _, _ => by simp [imany]
  | s :: l, m, hl, h1, h2, hb => by
    simp only [imany]
    have hs := hb s
    simp only [List.length_cons] at hl hb hs
    have hw : IntKind.i64.wrap (ival s m.2 + 1) = ival s m.2 + 1 := wrap64 (by omega) (by omega)
    rw [hw]
    have hv := fun s' => ival_iput s s' (ival s m.2 + 1) m
    rw [imany_val q l _ (by omega) (by rw [hv]; split <;> omega) (by rw [hv]; split <;> omega) (fun s' => by
      have := hb s'
      rw [hv]; split
      · omega
      · omega)]
    rw [hv, List.mem_cons]
    by_cases e : q = s
    · rw [if_pos e]; constructor
      · intro _; exact .inr (.inl e)
      · intro _; left; omega
    · rw [if_neg e]
      constructor
      · rintro (h | h)
        · exact .inl h
        · exact .inr (.inr h)
      · rintro (h | h | h)
        · exact .inl h
        · exact absurd h e
        · exact .inr h
attribute [irreducible] ival iput encI
end Go.Proofs.Ytlboogackecjlaa.E
