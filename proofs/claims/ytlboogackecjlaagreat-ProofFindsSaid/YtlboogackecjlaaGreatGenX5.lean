/- Texts, merged: Tm7, Tm8, Tm9, Ty5, Ty6, Tm10, Ty7. No conditions. -/
import Derived.Test.YtlboogackecjlaaGreatGenX4
import Derived.Test.YtlboogackecjlaaGreatGenX2
/- Walk: terms.right. No conditions. -/
set_option linter.unusedVariables false
set_option linter.unusedSimpArgs false
namespace Go.Proofs.YtlboogackecjlaaGreat.E
open Go

set_option maxRecDepth 10000 in
set_option maxHeartbeats 4000000 in
theorem tmright_call (t : Tm) : tmN t ≤ 8192 → ACall Tryz.prog 73 [.c (.d (.rp 0 t.cells))] [] (fun o σ => o = .ret (.c (.d (.bool (tmright t)))) ∧ σ = []) := by
  induction t using Tm.ind with
  | _ k name arg num tk tks uk uks label place ks ih =>
  intro hN
  have hlen := tmNL_len ks
  simp only [tmN] at hN
  have ih' : ∀ t ∈ ks, ACall Tryz.prog 73 [.c (.d (.rp 0 t.cells))] [] (fun o σ => o = .ret (.c (.d (.bool (tmright t)))) ∧ σ = []) := fun t ht => ih t ht (by have := tmN_mem ks t ht; omega)
  have fin : ∀ (s0 : Int) (b1 b2 b3 b4 b5 b6 b7 : Bool), ownRight (.node k name arg num tk tks uk uks label place ks) = true → ∀ env, get env 0 = .c (.d (.rp 0 (Tm.node k name arg num tk tks uk uks label place ks).cells)) →
      AW Tryz.prog tab 0 rest72 ⟨120, env, [.var [.d (.int .i64 s0), .d (.bool b1), .d (.bool b2), .d (.bool b3), .d (.bool b4), .d (.bool b5), .d (.bool b6), .d (.bool b7)]], []⟩ (afin tab 0 73 Tryz.f73.results.toList ([] : List AObj).length (fun o σ => o = .ret (.c (.d (.bool (tmright (.node k name arg num tk tks uk uks label place ks))))) ∧ σ = [])) := fun s0 b1 b2 b3 b4 b5 b6 b7 ho env g0 => by
    have e : tmright (.node k name arg num tk tks uk uks label place ks) = tmrights ks := by simp [tmright, ho]
    rw [e]
    refine AW.fits ?_ ?_ (right_rest k name arg num tk tks uk uks label place ks s0 b1 b2 b3 b4 b5 b6 b7 (by omega) ih')
    · exact ⟨⟨g0, trivial⟩, rfl, rfl, ⟨[], rfl⟩, rfl⟩
    · rfl
  clear ih ih' hN hlen
  have c1 := of_call k
  by_cases hv : validK k = true
  · rcases kinds k hv with rfl | rfl | rfl | rfl | rfl | rfl | rfl | rfl | rfl | rfl | rfl | rfl | rfl | rfl | rfl | rfl | rfl | rfl
    all_goals
      refine ACall.body tab_ok (ρ := 0) (N := 120) Tryz.func73 rfl rfl rfl rfl rfl ?_
      repeat' first | (refine fin _ _ _ _ _ _ _ _ ?_ _ rfl) | refine AW.seq ?_ | refine AW.block ?_ | (refine (id : AW _ _ _ (.region 3 _ true) _ _ → _) ?_; refine AW.draw (id := 3) tab_ok mixed [0, 1, 2, 3, 4, 5, 6, 7, 8] (by kernel_rfl) ?_; conv => whnf) | ((first | refine AW.region tab_ok ?_ | refine AW.cond ?_ | refine AW.skip ?_ | refine AW.ret ?_ | refine AW.exit ?_); conv => whnf) | ((first | refine (c1).mono ?_ | refine (name_call name).mono ?_ | refine (name_call arg).mono ?_ | refine (check_call (.node tk tks)).mono ?_ | refine (check_call (.node uk uks)).mono ?_); rintro _ _ ⟨rfl, rfl⟩; conv => whnf) | ((first | refine And.intro (@rfl Val _) ?_ | refine And.intro (by decide) ?_ | refine cs (fun _ => ?_) (fun _ => ?_)) <;> conv => whnf)
    all_goals clear c1 fin hv
    all_goals first
      | (refine ⟨outb ?_, rfl⟩
         simp only [tmright, ownRight]
         simp_all [kidsK, validK, nameK, argK, typeK, toK, opF, opsF, trows_length]
         done)
      | (refine ⟨outb ?_, rfl⟩
         simp only [tmright, ownRight]
         simp_all [kidsK, validK, nameK, argK, typeK, toK, opF, opsF, trows_length]
         omega)
      | (simp only [ownRight]
         simp_all [kidsK, validK, nameK, argK, typeK, toK, opF, opsF, trows_length]
         done)
      | (simp only [ownRight]
         simp_all [kidsK, validK, nameK, argK, typeK, toK, opF, opsF, trows_length]
         omega)
  · have hv : validK k = false := by simpa using hv
    rw [hv] at c1
    refine ACall.body tab_ok (ρ := 0) (N := 120) Tryz.func73 rfl rfl rfl rfl rfl ?_
    skip
    repeat' first | refine AW.seq ?_ | refine AW.block ?_ | (refine (id : AW _ _ _ (.region 3 _ true) _ _ → _) ?_; refine AW.draw (id := 3) tab_ok mixed [0, 1, 2, 3, 4, 5, 6, 7, 8] (by kernel_rfl) ?_; conv => whnf) | ((first | refine AW.region tab_ok ?_ | refine AW.cond ?_ | refine AW.skip ?_ | refine AW.ret ?_ | refine AW.exit ?_); conv => whnf) | (refine (c1).mono ?_; rintro _ _ ⟨rfl, rfl⟩; conv => whnf) | ((first | refine And.intro (@rfl Val _) ?_ | refine And.intro (by decide) ?_ | refine cs (fun _ => ?_) (fun _ => ?_)) <;> conv => whnf)
    have hk : kidsK k = -1 := by simp [validK] at hv; unfold kidsK; repeat rw [if_neg (by omega)]
    refine ⟨outb ?_, rfl⟩
    simp only [tmright, ownRight, hk]
    rw [show decide ((-1 : Int) = (ks.length : Int)) = false by simp <;> omega]
    rfl
end Go.Proofs.YtlboogackecjlaaGreat.E

/- Walk: ref right of terms. No conditions. -/
set_option linter.unusedVariables false
set_option linter.unusedSimpArgs false
namespace Go.Proofs.YtlboogackecjlaaGreat.E
open Go

noncomputable def rest73 : Code := match Tryz.f83.body with
  | some (.seq _ (.seq _ (.seq _ (.seq _ c)))) => c
  | _ => .skip
set_option maxRecDepth 10000 in
theorem rright_rest (k : Int) (name arg : ByteArray) (num tk : Int) (tks : List Ty) (uk : Int) (uks : List Ty) (label place : Int) (ks : List Tm) (hlen : ks.length ≤ 8192)
    (ih : ∀ t ∈ ks, ACall Tryz.prog 83 [t.val] [] (fun o σ => o = .ret (.c (.d (.bool (tmright t)))) ∧ σ = [])) :
    AW Tryz.prog tab 0 rest73 ⟨101, [(1, .c (.ptr 0 0))], [.var [.d (.int .i8 k), .d (.str name), .d (.str arg), .d (.int .i64 num), .d (.int .i8 tk), .d (.sl 0 2 (Ty.rows tks)), .d (.int .i8 uk), .d (.sl 0 2 (Ty.rows uks)), .d (.int .i64 label), .d (.int .i64 place), .d (.sl 0 11 (Tm.rows ks))]], []⟩
      (afin tab 0 83 [.tmp 2] 0 (fun o σ => o = .ret (.c (.d (.bool (tmrights ks)))) ∧ σ = [])) := by
  repeat' first | refine AW.seq ?_ | refine AW.block ?_ | (refine (id : AW _ _ _ (.region 1 _ true) _ _ → _) ?_; refine AW.draw (id := 1) tab_ok mixed [0, 1, 3, 4, 5, 2, 6, 7, 8, 9, 10, 11, 12, 13, 14, 15, 16, 17, 18, 19, 20, 21, 22, 23, 24, 25, 26] (by kernel_rfl) ?_; conv => whnf) | ((first | refine AW.region tab_ok ?_ | refine AW.cond ?_ | refine AW.skip ?_ | refine AW.ret ?_ | refine AW.exit ?_); conv => whnf) | ((first | refine And.intro (@rfl Val _) ?_ | refine And.intro (by decide) ?_ | refine cs (fun _ => ?_) (fun _ => ?_)) <;> conv => whnf)
  refine AW.loop (ι := TmRightI ks) (fun x => ⟨101, [(3, .c (.d (.int .i64 x.i))), (1, .c (.ptr 0 0))], [.var [.d (.int .i8 k), .d (.str name), .d (.str arg), .d (.int .i64 num), .d (.int .i8 tk), .d (.sl 0 2 (Ty.rows tks)), .d (.int .i8 uk), .d (.sl 0 2 (Ty.rows uks)), .d (.int .i64 label), .d (.int .i64 place), .d (.sl 0 11 (Tm.rows ks))]], []⟩)
    (fun x => ks.length - x.i) ⟨0, Nat.zero_le _, rfl⟩ 1 (fun _ => rfl) (Nat.le_of_ble_eq_true rfl) ⟨⟨rfl, rfl, trivial⟩, rfl, rfl, ⟨[], rfl⟩, rfl⟩ (fun x => ?_)
  obtain ⟨i, hi, hj⟩ := x
  repeat' first | refine AW.seq ?_ | refine AW.block ?_ | (refine (id : AW _ _ _ (.region 1 _ true) _ _ → _) ?_; refine AW.draw (id := 1) tab_ok mixed [0, 1, 3, 4, 5, 2, 6, 7, 8, 9, 10, 11, 12, 13, 14, 15, 16, 17, 18, 19, 20, 21, 22, 23, 24, 25, 26] (by kernel_rfl) ?_; conv => whnf) | ((first | refine AW.region tab_ok ?_ | refine AW.cond ?_ | refine AW.skip ?_ | refine AW.ret ?_ | refine AW.exit ?_); conv => whnf) | ((first | refine And.intro (@rfl Val _) ?_ | refine And.intro (by decide) ?_ | refine cs (fun _ => ?_) (fun _ => ?_)) <;> conv => whnf)
  · rename_i h2
    simp only [trows_length] at h2 ⊢
    have := of_decide_eq_true h2
    refine ⟨by omega, fun row hrow => ?_⟩
    obtain ⟨t, ht, rfl⟩ := trows_get ks i row (by simpa using hrow)
    have hlt : i < ks.length := (List.getElem?_eq_some_iff.1 ht).1
    have hmem := List.mem_of_getElem? ht
    have hc := ih t hmem
    have hn := tmrights_take ks i _ ht
    have hf := tmrights_no ks t hmem
    generalize tmright t = b at hc hn hf
    obtain ⟨k', name', arg', num', tk', tks', uk', uks', label', place', ks'⟩ := t
    conv => whnf
    repeat' first | refine AW.seq ?_ | refine AW.block ?_ | (refine (id : AW _ _ _ (.region 1 _ true) _ _ → _) ?_; refine AW.draw (id := 1) tab_ok mixed [0, 1, 3, 4, 5, 2, 6, 7, 8, 9, 10, 11, 12, 13, 14, 15, 16, 17, 18, 19, 20, 21, 22, 23, 24, 25, 26] (by kernel_rfl) ?_; conv => whnf) | ((first | refine AW.region tab_ok ?_ | refine AW.cond ?_ | refine AW.skip ?_ | refine AW.ret ?_ | refine AW.exit ?_); conv => whnf) | (refine (hc).mono ?_; rintro _ _ ⟨rfl, rfl⟩; conv => whnf) | ((first | refine And.intro (@rfl Val _) ?_ | refine And.intro (by decide) ?_ | refine cs (fun _ => ?_) (fun _ => ?_)) <;> conv => whnf)
    · rename_i h3
      have h3 : b = false := by simpa using h3
      exact ⟨outb (hf h3).symm, rfl⟩
    · rename_i h3
      have h3 : b = true := by simpa using h3
      rw [wrap64 (x := (i : Int) + 1) (by omega) (by omega)]
      exact ⟨⟨i + 1, hlt, by rw [hn, hj, h3]; rfl⟩, ⟨⟨rfl, rfl, trivial⟩, rfl, rfl, ⟨[], rfl⟩, rfl⟩, show ks.length - (i + 1) < ks.length - i by omega⟩
  · rename_i h2
    simp only [trows_length] at h2
    have := of_decide_eq_false h2
    obtain rfl : i = ks.length := by omega
    simp only [List.take_length] at hj
    exact ⟨outb hj.symm, rfl⟩
set_option maxRecDepth 10000 in
set_option maxHeartbeats 4000000 in
theorem rtmright_call (t : Tm) : tmN t ≤ 8192 → ACall Tryz.prog 83 [t.val] [] (fun o σ => o = .ret (.c (.d (.bool (tmright t)))) ∧ σ = []) := by
  induction t using Tm.ind with
  | _ k name arg num tk tks uk uks label place ks ih =>
  intro hN
  have hlen := tmNL_len ks
  simp only [tmN] at hN
  have ih' : ∀ t ∈ ks, ACall Tryz.prog 83 [t.val] [] (fun o σ => o = .ret (.c (.d (.bool (tmright t)))) ∧ σ = []) := fun t ht => ih t ht (by have := tmN_mem ks t ht; omega)
  have fin : ownRight (.node k name arg num tk tks uk uks label place ks) = true → ∀ env, get env 1 = .c (.ptr 0 0) →
      AW Tryz.prog tab 0 rest73 ⟨101, env, [.var [.d (.int .i8 k), .d (.str name), .d (.str arg), .d (.int .i64 num), .d (.int .i8 tk), .d (.sl 0 2 (Ty.rows tks)), .d (.int .i8 uk), .d (.sl 0 2 (Ty.rows uks)), .d (.int .i64 label), .d (.int .i64 place), .d (.sl 0 11 (Tm.rows ks))]], []⟩ (afin tab 0 83 Tryz.f83.results.toList ([] : List AObj).length (fun o σ => o = .ret (.c (.d (.bool (tmright (.node k name arg num tk tks uk uks label place ks))))) ∧ σ = [])) := fun ho env g0 => by
    have e : tmright (.node k name arg num tk tks uk uks label place ks) = tmrights ks := by simp [tmright, ho]
    rw [e]
    refine AW.fits ?_ ?_ (rright_rest k name arg num tk tks uk uks label place ks (by omega) ih')
    · exact ⟨⟨g0, trivial⟩, rfl, rfl, ⟨[], rfl⟩, rfl⟩
    · rfl
  clear ih ih' hN hlen
  by_cases hv : validK k = true
  · rcases kinds k hv with rfl | rfl | rfl | rfl | rfl | rfl | rfl | rfl | rfl | rfl | rfl | rfl | rfl | rfl | rfl | rfl | rfl | rfl
    all_goals
      refine ACall.body tab_ok (ρ := 0) (N := 101) Tryz.func83 rfl rfl rfl rfl rfl ?_
      repeat' first | (refine fin ?_ _ rfl) | refine AW.seq ?_ | refine AW.block ?_ | (refine (id : AW _ _ _ (.region 1 _ true) _ _ → _) ?_; refine AW.draw (id := 1) tab_ok mixed [0, 1, 3, 4, 5, 2, 6, 7, 8, 9, 10, 11, 12, 13, 14, 15, 16, 17, 18, 19, 20, 21, 22, 23, 24, 25, 26] (by kernel_rfl) ?_; conv => whnf) | ((first | refine AW.region tab_ok ?_ | refine AW.cond ?_ | refine AW.skip ?_ | refine AW.ret ?_ | refine AW.exit ?_); conv => whnf) | ((first | refine (rkids_call _).mono ?_ | refine (rop_call _).mono ?_ | refine (rhasName_call _).mono ?_ | refine (rhasArg_call _).mono ?_ | refine (rhasType_call _).mono ?_ | refine (rhasTo_call _).mono ?_ | refine (rname_call name).mono ?_ | refine (rname_call arg).mono ?_ | refine (rcheck_call (.node tk tks)).mono ?_ | refine (rcheck_call (.node uk uks)).mono ?_); rintro _ _ ⟨rfl, rfl⟩; conv => whnf) | ((first | refine And.intro (@rfl Val _) ?_ | refine And.intro (by decide) ?_ | refine cs (fun _ => ?_) (fun _ => ?_)) <;> conv => whnf)
    all_goals clear fin hv
    all_goals first
      | (refine ⟨outb ?_, rfl⟩
         simp only [tmright, ownRight]
         simp_all [kidsK, validK, nameK, argK, typeK, toK, trows_length]
         done)
      | (refine ⟨outb ?_, rfl⟩
         simp only [tmright, ownRight]
         simp_all [kidsK, validK, nameK, argK, typeK, toK, trows_length]
         omega)
      | (simp only [ownRight]
         simp_all [kidsK, validK, nameK, argK, typeK, toK, trows_length]
         done)
      | (simp only [ownRight]
         simp_all [kidsK, validK, nameK, argK, typeK, toK, trows_length]
         omega)
      | trace_state
  · have hv : validK k = false := by simpa using hv
    have hk : kidsK k = -1 := by simp [validK] at hv; unfold kidsK; repeat rw [if_neg (by omega)]
    have c1 := rkids_call k
    rw [hk] at c1
    have hb : decide ((-1 : Int) = (ks.length : Int)) = false := by simp <;> omega
    have hr : tmright (.node k name arg num tk tks uk uks label place ks) = false := by
      simp only [tmright, ownRight, hk]
      rw [hb]
      rfl
    rw [hr] at *
    clear fin
    have hl : ((-1 : Int) != ((Tm.rows ks).length : Int)) = true := by simp <;> omega
    refine ACall.body tab_ok (ρ := 0) (N := 101) Tryz.func83 rfl rfl rfl rfl rfl ?_
    skip
    repeat' first | refine AW.seq ?_ | refine AW.block ?_ | (refine (id : AW _ _ _ (.region 1 _ true) _ _ → _) ?_; refine AW.draw (id := 1) tab_ok mixed [0, 1, 3, 4, 5, 2, 6, 7, 8, 9, 10, 11, 12, 13, 14, 15, 16, 17, 18, 19, 20, 21, 22, 23, 24, 25, 26] (by kernel_rfl) ?_; conv => whnf) | ((first | refine AW.region tab_ok ?_ | refine AW.cond ?_ | refine AW.skip ?_ | refine AW.ret ?_ | refine AW.exit ?_); conv => whnf) | (refine (c1).mono ?_; rintro _ _ ⟨rfl, rfl⟩; conv => whnf) | ((first | refine And.intro (@rfl Val _) ?_ | refine And.intro (by decide) ?_ | refine cs (fun _ => ?_) (fun _ => ?_)) <;> conv => whnf)
    all_goals exact ⟨rfl, rfl⟩
end Go.Proofs.YtlboogackecjlaaGreat.E

/- Walks: Check of terms, both; the law TermsCheck. No conditions. -/
set_option linter.unusedVariables false
set_option linter.unusedSimpArgs false
namespace Go.Proofs.YtlboogackecjlaaGreat.E
open Go

def tmcheck (t : Tm) : Int := if tmN t > 8192 then 32 else if tmD t 201 > 200 then 31 else if tmright t then 0 else 30
theorem tmcheck_eq (t : Tm) : tmcheck t = if tmN t > 8192 then 32 else if tmDepth t > 200 then 31 else if tmright t then 0 else 30 := by
  unfold tmcheck tmDepth
  split <;> rfl
set_option maxRecDepth 10000 in
theorem tmCheck_call (t : Tm) : ACall Tryz.prog 31 [t.val] [] (fun o σ => o = .ret (.c (.d (.int .i64 (tmcheck t)))) ∧ σ = []) := by
  have c1 := tnodes_call t
  have c2 := tDepth_call t
  have c3 := tmright_call t
  rw [tmcheck_eq]
  generalize tmN t = nn at *
  generalize tmDepth t = dd at *
  generalize tmright t = rr at *
  obtain ⟨k, name, arg, num, tk, tks, uk, uks, label, place, ks⟩ := t
  refine ACall.body tab_ok (ρ := 0) (N := 11) Tryz.func31 rfl rfl rfl rfl rfl ?_
  repeat' first | refine AW.seq ?_ | refine AW.block ?_ | ((first | refine AW.region tab_ok ?_ | refine AW.cond ?_ | refine AW.skip ?_ | refine AW.ret ?_ | refine AW.exit ?_); conv => whnf) | ((first | refine (c1).mono ?_ | refine (c2).mono ?_); rintro _ _ ⟨rfl, rfl⟩; conv => whnf) | ((first | refine And.intro (@rfl Val _) ?_ | refine And.intro (by decide) ?_ | refine cs (fun _ => ?_) (fun _ => ?_)) <;> conv => whnf)
  · rename_i h
    have := of_decide_eq_true h
    refine ⟨?_, rfl⟩
    simp only [oneOf]
    rw [if_pos (by omega)]
  · rename_i h1 h2
    have := of_decide_eq_false h1
    have h2 := of_decide_eq_true h2
    refine ⟨?_, rfl⟩
    simp only [oneOf]
    rw [if_neg (by omega), if_pos (by omega)]
  · rename_i h1 h2
    have := of_decide_eq_false h1
    have h2 := of_decide_eq_false h2
    refine (c3 (by omega)).mono ?_
    rintro _ _ ⟨rfl, rfl⟩
    conv => whnf
    repeat' first | refine AW.seq ?_ | refine AW.block ?_ | ((first | refine AW.region tab_ok ?_ | refine AW.cond ?_ | refine AW.skip ?_ | refine AW.ret ?_ | refine AW.exit ?_); conv => whnf) | ((first | refine And.intro (@rfl Val _) ?_ | refine And.intro (by decide) ?_ | refine cs (fun _ => ?_) (fun _ => ?_)) <;> conv => whnf)
    all_goals
      rename_i h3
      refine ⟨?_, rfl⟩
      simp only [oneOf]
      rw [if_neg (by omega), if_neg (by omega)]
      simp at h3
      simp [h3]
set_option maxRecDepth 10000 in
theorem rtmCheck_call (t : Tm) : ACall Tryz.prog 54 [t.val] [] (fun o σ => o = .ret (.c (.d (.int .i64 (tmcheck t)))) ∧ σ = []) := by
  have c1 := rtnodes_call t
  have c2 := rtDepth_call t
  have c3 := rtmright_call t
  rw [tmcheck_eq]
  generalize tmN t = nn at *
  generalize tmDepth t = dd at *
  generalize tmright t = rr at *
  obtain ⟨k, name, arg, num, tk, tks, uk, uks, label, place, ks⟩ := t
  refine ACall.body tab_ok (ρ := 0) (N := 12) Tryz.func54 rfl rfl rfl rfl rfl ?_
  repeat' first | refine AW.seq ?_ | refine AW.block ?_ | ((first | refine AW.region tab_ok ?_ | refine AW.cond ?_ | refine AW.skip ?_ | refine AW.ret ?_ | refine AW.exit ?_); conv => whnf) | ((first | refine (c1).mono ?_ | refine (c2).mono ?_); rintro _ _ ⟨rfl, rfl⟩; conv => whnf) | ((first | refine And.intro (@rfl Val _) ?_ | refine And.intro (by decide) ?_ | refine cs (fun _ => ?_) (fun _ => ?_)) <;> conv => whnf)
  · rename_i h
    have := of_decide_eq_true h
    refine ⟨?_, rfl⟩
    simp only [oneOf]
    rw [if_pos (by omega)]
  · rename_i h1 h2
    have := of_decide_eq_false h1
    have h2 := of_decide_eq_true h2
    refine ⟨?_, rfl⟩
    simp only [oneOf]
    rw [if_neg (by omega), if_pos (by omega)]
  · rename_i h1 h2
    have := of_decide_eq_false h1
    have h2 := of_decide_eq_false h2
    refine (c3 (by omega)).mono ?_
    rintro _ _ ⟨rfl, rfl⟩
    conv => whnf
    repeat' first | refine AW.seq ?_ | refine AW.block ?_ | ((first | refine AW.region tab_ok ?_ | refine AW.cond ?_ | refine AW.skip ?_ | refine AW.ret ?_ | refine AW.exit ?_); conv => whnf) | ((first | refine And.intro (@rfl Val _) ?_ | refine And.intro (by decide) ?_ | refine cs (fun _ => ?_) (fun _ => ?_)) <;> conv => whnf)
    all_goals
      rename_i h3
      refine ⟨?_, rfl⟩
      simp only [oneOf]
      rw [if_neg (by omega), if_neg (by omega)]
      simp at h3
      simp [h3]
end Go.Proofs.YtlboogackecjlaaGreat.E

/- Walks: less of both; Less of both; the law. No conditions. -/
set_option linter.unusedVariables false
set_option linter.unusedSimpArgs false
namespace Go.Proofs.YtlboogackecjlaaGreat.E
open Go

theorem tright_len {k : Int} {ks : List Ty} (h : tright (.node k ks) = true) : parts k = ks.length := by
  simp [tright] at h; exact h.1
theorem tright_kid {k : Int} {ks : List Ty} (h : tright (.node k ks) = true) {t : Ty} (ht : t ∈ ks) : tright t = true := by
  simp [tright] at h
  exact (trights_all ks).1 h.2 t ht
theorem parts_le (k : Int) : parts k ≤ 2 := by
  unfold parts; split
  · omega
  · split <;> omega

/-! ### less, Less -/
theorem tcheck_right {t : Ty} (h : tcheck t = 0) : tright t = true := by
  unfold tcheck at h
  split at h
  · cases h
  · split at h
    · cases h
    · split at h
      · assumption
      · cases h
end Go.Proofs.YtlboogackecjlaaGreat.E

/- Walks: types.equal, Same; the law OrderGoes. No conditions. -/
set_option linter.unusedVariables false
set_option linter.unusedSimpArgs false
namespace Go.Proofs.YtlboogackecjlaaGreat.E
open Go

mutual
def equalF : Ty → Ty → Bool
  | .node k ks, .node k' ks' => k == k' && equalL ks ks'
def equalL : List Ty → List Ty → Bool
  | [], _ => true
  | x :: xs, y :: ys => equalF x y && equalL xs ys
  | _ :: _, [] => false
end
theorem equalL_all : ∀ (ks ks' : List Ty), ks.length = ks'.length → (equalL ks ks' = true ↔ ∀ (j : Nat) x y, ks[j]? = some x → ks'[j]? = some y → equalF x y = true)
  | [], [], _ => by simp [equalL]
  | x :: xs, y :: ys, h => by
    simp only [equalL, Bool.and_eq_true, equalL_all xs ys (by simpa using h)]
    constructor
    · rintro ⟨h1, h2⟩ j a b ha hb
      cases j with
      | zero => simp at ha hb; subst ha; subst hb; exact h1
      | succ j => exact h2 j a b (by simpa using ha) (by simpa using hb)
    · intro h
      exact ⟨h 0 x y rfl rfl, fun j a b ha hb => h (j + 1) a b (by simpa using ha) (by simpa using hb)⟩
structure EqualI (ks ks' : List Ty) where
  i : Nat
  hi : i ≤ ks.length
  h : ∀ (j : Nat), j < i → ∀ x y, ks[j]? = some x → ks'[j]? = some y → equalF x y = true

set_option maxRecDepth 10000 in
theorem equal_call (a : Ty) : ∀ b, tright a = true → tright b = true → ACall Tryz.prog 30 [a.val, b.val] [] (fun o σ => o = .ret (.c (.d (.bool (equalF a b)))) ∧ σ = []) := by
  induction a using Ty.ind with
  | _ k ks ih =>
  rintro ⟨k', ks'⟩ ha hb
  refine ACall.body tab_ok (ρ := 0) (N := 30) Tryz.func30 rfl rfl rfl rfl rfl ?_
  repeat' first | refine AW.seq ?_ | refine AW.block ?_ | (refine (id : AW _ _ _ (.region 6 _ true) _ _ → _) ?_; refine AW.draw (id := 6) tab_ok mixed [0, 1, 2, 3, 4, 5, 6, 7, 8, 9, 10, 11] (by kernel_rfl) ?_; conv => whnf) | ((first | refine AW.region tab_ok ?_ | refine AW.cond ?_ | refine AW.skip ?_ | refine AW.ret ?_ | refine AW.exit ?_); conv => whnf) | ((first | refine And.intro (@rfl Val _) ?_ | refine And.intro (by decide) ?_ | refine cs (fun _ => ?_) (fun _ => ?_)) <;> conv => whnf)
  · rename_i h
    refine ⟨?_, rfl⟩
    simp at h
    simp [oneOf, equalF, h]
  · rename_i h
    have e : k = k' := by simpa using h
    subst e
    have hkk : ks.length = ks'.length := by
      have := tright_len ha
      have := tright_len hb
      omega
    have hle := parts_le k
    have hl1 := tright_len ha
    refine AW.loop (ι := EqualI ks ks') (fun x => ⟨30, [(14, .c (.d (.int .i64 x.i))), (13, .c (.d (.int .i64 (Ty.rows ks).length))), (2, .c (.ptr 0 0)), (3, .c (.ptr 1 0))], [.var [.d (.int .i8 k), .d (.sl 0 2 (Ty.rows ks))], .var [.d (.int .i8 k), .d (.sl 0 2 (Ty.rows ks'))]], []⟩)
      (fun x => ks.length - x.i) ⟨0, Nat.zero_le _, fun j h => by omega⟩ 2 (fun _ => rfl) (Nat.le_of_ble_eq_true rfl) ⟨⟨rfl, rfl, rfl, rfl, trivial⟩, rfl, rfl, ⟨[], rfl⟩, rfl⟩ (fun x => ?_)
    obtain ⟨i, hi, hj⟩ := x
    repeat' first | refine AW.seq ?_ | refine AW.block ?_ | (refine (id : AW _ _ _ (.region 6 _ true) _ _ → _) ?_; refine AW.draw (id := 6) tab_ok mixed [0, 1, 2, 3, 4, 5, 6, 7, 8, 9, 10, 11] (by kernel_rfl) ?_; conv => whnf) | ((first | refine AW.region tab_ok ?_ | refine AW.cond ?_ | refine AW.skip ?_ | refine AW.ret ?_ | refine AW.exit ?_); conv => whnf) | ((first | refine And.intro (@rfl Val _) ?_ | refine And.intro (by decide) ?_ | refine cs (fun _ => ?_) (fun _ => ?_)) <;> conv => whnf)
    · rename_i h1
      simp only [rows_length] at h1 ⊢
      have := of_decide_eq_true h1
      refine ⟨by omega, fun row hrow => ?_⟩
      obtain ⟨⟨kx, kxs⟩, ht, rfl⟩ := rows_get ks i row (by simpa using hrow)
      have hlt : i < ks.length := (List.getElem?_eq_some_iff.1 ht).1
      have hm := List.mem_of_getElem? ht
      conv => whnf
      repeat' first | refine AW.seq ?_ | refine AW.block ?_ | (refine (id : AW _ _ _ (.region 6 _ true) _ _ → _) ?_; refine AW.draw (id := 6) tab_ok mixed [0, 1, 2, 3, 4, 5, 6, 7, 8, 9, 10, 11] (by kernel_rfl) ?_; conv => whnf) | ((first | refine AW.region tab_ok ?_ | refine AW.cond ?_ | refine AW.skip ?_ | refine AW.ret ?_ | refine AW.exit ?_); conv => whnf) | ((first | refine And.intro (@rfl Val _) ?_ | refine And.intro (by decide) ?_ | refine cs (fun _ => ?_) (fun _ => ?_)) <;> conv => whnf)
      simp only [rows_length]
      refine ⟨by omega, fun row hrow => ?_⟩
      obtain ⟨⟨ky, kys⟩, hu, rfl⟩ := rows_get ks' i row (by simpa using hrow)
      have hm' := List.mem_of_getElem? hu
      conv => whnf
      repeat' first | refine AW.seq ?_ | refine AW.block ?_ | (refine (id : AW _ _ _ (.region 6 _ true) _ _ → _) ?_; refine AW.draw (id := 6) tab_ok mixed [0, 1, 2, 3, 4, 5, 6, 7, 8, 9, 10, 11] (by kernel_rfl) ?_; conv => whnf) | ((first | refine AW.region tab_ok ?_ | refine AW.cond ?_ | refine AW.skip ?_ | refine AW.ret ?_ | refine AW.exit ?_); conv => whnf) | (refine (ih _ hm _ (tright_kid ha hm) (tright_kid hb hm')).mono ?_; rintro _ _ ⟨rfl, rfl⟩; conv => whnf) | ((first | refine And.intro (@rfl Val _) ?_ | refine And.intro (by decide) ?_ | refine cs (fun _ => ?_) (fun _ => ?_)) <;> conv => whnf)
      · rename_i h2
        refine ⟨?_, rfl⟩
        have h2 : equalF (Ty.node kx kxs) (Ty.node ky kys) = false := by simpa using h2
        have : equalL ks ks' = false := by
          cases hc : equalL ks ks' with
          | false => rfl
          | true => rw [(equalL_all ks ks' hkk).1 hc i _ _ ht hu] at h2; cases h2
        simp [oneOf, equalF, this]
      · rename_i h2
        have h2 : equalF (Ty.node kx kxs) (Ty.node ky kys) = true := by simpa using h2
        rw [wrap64 (x := (i : Int) + 1) (by omega) (by omega)]
        refine ⟨⟨i + 1, hlt, fun j h x y hx hy => ?_⟩, ⟨⟨rfl, rfl, rfl, rfl, trivial⟩, rfl, rfl, ⟨[], rfl⟩, rfl⟩, show ks.length - (i + 1) < ks.length - i by omega⟩
        by_cases e : j = i
        · subst e; rw [ht] at hx; rw [hu] at hy; cases hx; cases hy; exact h2
        · exact hj j (by omega) x y hx hy
    · rename_i h1
      simp only [rows_length] at h1
      have := of_decide_eq_false h1
      obtain rfl : i = ks.length := by omega
      refine ⟨?_, rfl⟩
      have : equalL ks ks' = true := (equalL_all ks ks' hkk).2 fun j x y hx hy => hj j (List.getElem?_eq_some_iff.1 hx).1 x y hx hy
      simp [oneOf, equalF, this]
def sameS (a b : Ty) : Bool := decide (tcheck a = 0) && decide (tcheck b = 0) && equalF a b
set_option maxRecDepth 10000 in
theorem Same_call (a b : Ty) : ACall Tryz.prog 17 [a.val, b.val] [] (fun o σ => o = .ret (.c (.d (.bool (sameS a b)))) ∧ σ = []) := by
  obtain ⟨k, ks⟩ := a
  obtain ⟨k', ks'⟩ := b
  refine ACall.body tab_ok (ρ := 0) (N := 18) Tryz.func17 rfl rfl rfl rfl rfl ?_
  repeat' first | refine AW.seq ?_ | refine AW.block ?_ | ((first | refine AW.region tab_ok ?_ | refine AW.cond ?_ | refine AW.skip ?_ | refine AW.ret ?_ | refine AW.exit ?_); conv => whnf) | ((first | refine (check_call (.node k ks)).mono ?_ | refine (check_call (.node k' ks')).mono ?_); rintro _ _ ⟨rfl, rfl⟩; conv => whnf) | ((first | refine And.intro (@rfl Val _) ?_ | refine And.intro (by decide) ?_ | refine cs (fun _ => ?_) (fun _ => ?_)) <;> conv => whnf)
  · rename_i h1 h2
    have h1 : tcheck (.node k ks) = 0 := by simpa using h1
    have h2 : tcheck (.node k' ks') = 0 := by simpa using h2
    refine (equal_call (.node k ks) (.node k' ks') (tcheck_right h1) (tcheck_right h2)).mono ?_
    rintro _ _ ⟨rfl, rfl⟩
    conv => whnf
    repeat' first | refine AW.seq ?_ | refine AW.block ?_ | ((first | refine AW.region tab_ok ?_ | refine AW.cond ?_ | refine AW.skip ?_ | refine AW.ret ?_ | refine AW.exit ?_); conv => whnf) | ((first | refine And.intro (@rfl Val _) ?_ | refine And.intro (by decide) ?_ | refine cs (fun _ => ?_) (fun _ => ?_)) <;> conv => whnf)
    refine ⟨?_, rfl⟩
    simp [oneOf, sameS, h1, h2]
  · rename_i h1 h2
    refine ⟨?_, rfl⟩
    simp at h1 h2
    simp [oneOf, sameS, h1, h2]
  · rename_i h1
    refine ⟨?_, rfl⟩
    simp at h1
    simp [oneOf, sameS, h1]

/-! ### An order -/
theorem get_both {ks ks' : List Ty} (h : ks.length = ks'.length) {i : Nat} {x : Ty} (hx : ks[i]? = some x) : ∃ y, ks'[i]? = some y :=
  ⟨_, List.getElem?_eq_getElem (by have := (List.getElem?_eq_some_iff.1 hx).1; omega)⟩
theorem right_eq_len {k : Int} {ks ks' : List Ty} (ha : tright (.node k ks) = true) (hb : tright (.node k ks') = true) : ks.length = ks'.length := by
  have := tright_len ha
  have := tright_len hb
  omega
end Go.Proofs.YtlboogackecjlaaGreat.E

/- Walks: Same of types in the document's answer; same of terms, both. No conditions. -/
set_option linter.unusedVariables false
set_option linter.unusedSimpArgs false
namespace Go.Proofs.YtlboogackecjlaaGreat.E
open Go

/-! ### Same of types, the document's -/
/-! ### Same of terms -/
theorem tmright_len {k name arg num tk tks uk uks label place ks} (h : tmright (.node k name arg num tk tks uk uks label place ks) = true) : kidsK k = ks.length := by
  simp [tmright, ownRight] at h
  exact h.1.1.1.1.1.1.1
theorem tmright_kid {k name arg num tk tks uk uks label place ks} (h : tmright (.node k name arg num tk tks uk uks label place ks) = true) {t : Tm} (ht : t ∈ ks) : tmright t = true := by
  simp only [tmright, Bool.and_eq_true] at h
  exact (tmrights_all ks).1 h.2 t ht
theorem kidsK_le (k : Int) : kidsK k ≤ 3 := by
  unfold kidsK
  repeat (split <;> try omega)
theorem tmright_valid {k name arg num tk tks uk uks label place ks} (h : tmright (.node k name arg num tk tks uk uks label place ks) = true) : validK k = true := by
  have h := tmright_len h
  cases hv : validK k with
  | true => rfl
  | false =>
    have hk : kidsK k = -1 := by simp [validK] at hv; unfold kidsK; repeat rw [if_neg (by omega)]
    omega
end Go.Proofs.YtlboogackecjlaaGreat.E

/- Walks: agree of both. No conditions. -/
set_option linter.unusedVariables false
set_option linter.unusedSimpArgs false
namespace Go.Proofs.YtlboogackecjlaaGreat.E
open Go

mutual
def agreeF : Ty → Ty → Bool
  | .node k ks, .node k' ks' => k == 0 || k' == 0 || (k == k' && agreeL ks ks')
def agreeL : List Ty → List Ty → Bool
  | [], _ => true
  | x :: xs, y :: ys => agreeF x y && agreeL xs ys
  | _ :: _, [] => false
end
theorem agreeL_all : ∀ (ks ks' : List Ty), ks.length = ks'.length → (agreeL ks ks' = true ↔ ∀ (j : Nat) x y, ks[j]? = some x → ks'[j]? = some y → agreeF x y = true)
  | [], [], _ => by simp [agreeL]
  | x :: xs, y :: ys, h => by
    simp only [agreeL, Bool.and_eq_true, agreeL_all xs ys (by simpa using h)]
    constructor
    · rintro ⟨h1, h2⟩ j a b ha hb
      cases j with
      | zero => simp at ha hb; subst ha; subst hb; exact h1
      | succ j => exact h2 j a b (by simpa using ha) (by simpa using hb)
    · intro h
      exact ⟨h 0 x y rfl rfl, fun j a b ha hb => h (j + 1) a b (by simpa using ha) (by simpa using hb)⟩
structure AgreeI (ks ks' : List Ty) where
  i : Nat
  hi : i ≤ ks.length
  h : ∀ (j : Nat), j < i → ∀ x y, ks[j]? = some x → ks'[j]? = some y → agreeF x y = true
set_option maxRecDepth 10000 in
theorem level_call (a : Ty) : ∀ b, tright a = true → tright b = true → ACall Tryz.prog 77 [a.val, b.val] [] (fun o σ => o = .ret (.c (.d (.bool (agreeF a b)))) ∧ σ = []) := by
  induction a using Ty.ind with
  | _ k ks ih =>
  rintro ⟨k', ks'⟩ ha hb
  refine ACall.body tab_ok (ρ := 0) (N := 44) Tryz.func77 rfl rfl rfl rfl rfl ?_
  repeat' first | refine AW.seq ?_ | refine AW.block ?_ | (refine (id : AW _ _ _ (.region 10 _ true) _ _ → _) ?_; refine AW.draw (id := 10) tab_ok mixed [0, 1, 2, 3, 4, 5, 6, 7, 8, 9, 10, 11] (by kernel_rfl) ?_; conv => whnf) | ((first | refine AW.region tab_ok ?_ | refine AW.cond ?_ | refine AW.skip ?_ | refine AW.ret ?_ | refine AW.exit ?_); conv => whnf) | ((first | refine And.intro (@rfl Val _) ?_ | refine And.intro (by decide) ?_ | refine cs (fun _ => ?_) (fun _ => ?_)) <;> conv => whnf)
  · rename_i h
    refine ⟨?_, rfl⟩
    simp at h
    simp [oneOf, agreeF, h]
  · rename_i h0 h
    refine ⟨?_, rfl⟩
    simp at h h0
    simp [oneOf, agreeF, h, h0]
  · rename_i h00 h0 h
    refine ⟨?_, rfl⟩
    simp at h h0 h00
    simp [oneOf, agreeF, h, h0, h00]
  · rename_i h00 h0 h
    have e : k = k' := by simpa using h
    subst e
    have hkk : ks.length = ks'.length := right_eq_len ha hb
    have hle := parts_le k
    have hl1 := tright_len ha
    refine AW.loop (ι := AgreeI ks ks') (fun x => ⟨44, [(28, .c (.d (.int .i64 x.i))), (27, .c (.d (.int .i64 (Ty.rows ks).length))), (2, .c (.ptr 0 0)), (3, .c (.ptr 1 0))], [.var [.d (.int .i8 k), .d (.sl 0 2 (Ty.rows ks))], .var [.d (.int .i8 k), .d (.sl 0 2 (Ty.rows ks'))], .var [.d (.int .i8 k), .d (.int .i8 k)]], []⟩)
      (fun x => ks.length - x.i) ⟨0, Nat.zero_le _, fun j h => by omega⟩ 3 (fun _ => rfl) (Nat.le_of_ble_eq_true rfl) ⟨⟨rfl, rfl, rfl, rfl, trivial⟩, rfl, rfl, ⟨[], rfl⟩, rfl⟩ (fun x => ?_)
    obtain ⟨i, hi, hj⟩ := x
    repeat' first | refine AW.seq ?_ | refine AW.block ?_ | (refine (id : AW _ _ _ (.region 10 _ true) _ _ → _) ?_; refine AW.draw (id := 10) tab_ok mixed [0, 1, 2, 3, 4, 5, 6, 7, 8, 9, 10, 11] (by kernel_rfl) ?_; conv => whnf) | ((first | refine AW.region tab_ok ?_ | refine AW.cond ?_ | refine AW.skip ?_ | refine AW.ret ?_ | refine AW.exit ?_); conv => whnf) | ((first | refine And.intro (@rfl Val _) ?_ | refine And.intro (by decide) ?_ | refine cs (fun _ => ?_) (fun _ => ?_)) <;> conv => whnf)
    · rename_i h1
      simp only [rows_length] at h1 ⊢
      have := of_decide_eq_true h1
      refine ⟨by omega, fun row hrow => ?_⟩
      obtain ⟨⟨kx, kxs⟩, ht, rfl⟩ := rows_get ks i row (by simpa using hrow)
      have hlt : i < ks.length := (List.getElem?_eq_some_iff.1 ht).1
      have hm := List.mem_of_getElem? ht
      conv => whnf
      repeat' first | refine AW.seq ?_ | refine AW.block ?_ | (refine (id : AW _ _ _ (.region 10 _ true) _ _ → _) ?_; refine AW.draw (id := 10) tab_ok mixed [0, 1, 2, 3, 4, 5, 6, 7, 8, 9, 10, 11] (by kernel_rfl) ?_; conv => whnf) | ((first | refine AW.region tab_ok ?_ | refine AW.cond ?_ | refine AW.skip ?_ | refine AW.ret ?_ | refine AW.exit ?_); conv => whnf) | ((first | refine And.intro (@rfl Val _) ?_ | refine And.intro (by decide) ?_ | refine cs (fun _ => ?_) (fun _ => ?_)) <;> conv => whnf)
      simp only [rows_length]
      refine ⟨by omega, fun row hrow => ?_⟩
      obtain ⟨⟨ky, kys⟩, hu, rfl⟩ := rows_get ks' i row (by simpa using hrow)
      have hm' := List.mem_of_getElem? hu
      conv => whnf
      repeat' first | refine AW.seq ?_ | refine AW.block ?_ | (refine (id : AW _ _ _ (.region 10 _ true) _ _ → _) ?_; refine AW.draw (id := 10) tab_ok mixed [0, 1, 2, 3, 4, 5, 6, 7, 8, 9, 10, 11] (by kernel_rfl) ?_; conv => whnf) | ((first | refine AW.region tab_ok ?_ | refine AW.cond ?_ | refine AW.skip ?_ | refine AW.ret ?_ | refine AW.exit ?_); conv => whnf) | (refine (ih _ hm _ (tright_kid ha hm) (tright_kid hb hm')).mono ?_; rintro _ _ ⟨rfl, rfl⟩; conv => whnf) | ((first | refine And.intro (@rfl Val _) ?_ | refine And.intro (by decide) ?_ | refine cs (fun _ => ?_) (fun _ => ?_)) <;> conv => whnf)
      · rename_i h2
        refine ⟨?_, rfl⟩
        have h2 : agreeF (Ty.node kx kxs) (Ty.node ky kys) = false := by simpa using h2
        have : agreeL ks ks' = false := by
          cases hc : agreeL ks ks' with
          | false => rfl
          | true => rw [(agreeL_all ks ks' hkk).1 hc i _ _ ht hu] at h2; cases h2
        simp_all [oneOf, agreeF, this]
      · rename_i h2
        have h2 : agreeF (Ty.node kx kxs) (Ty.node ky kys) = true := by simpa using h2
        rw [wrap64 (x := (i : Int) + 1) (by omega) (by omega)]
        refine ⟨⟨i + 1, hlt, fun j h x y hx hy => ?_⟩, ⟨⟨rfl, rfl, rfl, rfl, trivial⟩, rfl, rfl, ⟨[], rfl⟩, rfl⟩, show ks.length - (i + 1) < ks.length - i by omega⟩
        by_cases e : j = i
        · subst e; rw [ht] at hx; rw [hu] at hy; cases hx; cases hy; exact h2
        · exact hj j (by omega) x y hx hy
    · rename_i h1
      simp only [rows_length] at h1
      have := of_decide_eq_false h1
      obtain rfl : i = ks.length := by omega
      refine ⟨?_, rfl⟩
      have : agreeL ks ks' = true := (agreeL_all ks ks' hkk).2 fun j x y hx hy => hj j (List.getElem?_eq_some_iff.1 hx).1 x y hx hy
      simp_all [oneOf, agreeF, this]
set_option maxRecDepth 10000 in
theorem rRight_call (a : Ty) : ∀ b, tright a = true → tright b = true → ACall Tryz.prog 113 [a.val, b.val] [] (fun o σ => o = .ret (.c (.d (.bool (agreeF a b)))) ∧ σ = []) := by
  induction a using Ty.ind with
  | _ k ks ih =>
  rintro ⟨k', ks'⟩ ha hb
  refine ACall.body tab_ok (ρ := 0) (N := 40) Tryz.func113 rfl rfl rfl rfl rfl ?_
  repeat' first | refine AW.seq ?_ | refine AW.block ?_ | (refine (id : AW _ _ _ (.region 8 _ true) _ _ → _) ?_; refine AW.draw (id := 8) tab_ok mixed [0, 1, 2, 3, 4, 5, 6, 7, 8, 9, 10, 11] (by kernel_rfl) ?_; conv => whnf) | ((first | refine AW.region tab_ok ?_ | refine AW.cond ?_ | refine AW.skip ?_ | refine AW.ret ?_ | refine AW.exit ?_); conv => whnf) | ((first | refine And.intro (@rfl Val _) ?_ | refine And.intro (by decide) ?_ | refine cs (fun _ => ?_) (fun _ => ?_)) <;> conv => whnf)
  · rename_i h
    refine ⟨?_, rfl⟩
    simp at h
    simp [oneOf, agreeF, h]
  · rename_i h0 h
    refine ⟨?_, rfl⟩
    simp at h h0
    simp [oneOf, agreeF, h, h0]
  · rename_i h00 h0 h
    refine ⟨?_, rfl⟩
    simp at h h0 h00
    simp [oneOf, agreeF, h, h0, h00]
  · rename_i h00 h0 h
    have e : k = k' := by simpa using h
    subst e
    have hkk : ks.length = ks'.length := right_eq_len ha hb
    have hle := parts_le k
    have hl1 := tright_len ha
    refine AW.loop (ι := AgreeI ks ks') (fun x => ⟨40, [(5, .c (.d (.int .i64 x.i))), (2, .c (.ptr 0 0)), (3, .c (.ptr 1 0))], [.var [.d (.int .i8 k), .d (.sl 0 2 (Ty.rows ks))], .var [.d (.int .i8 k), .d (.sl 0 2 (Ty.rows ks'))]], []⟩)
      (fun x => ks.length - x.i) ⟨0, Nat.zero_le _, fun j h => by omega⟩ 2 (fun _ => rfl) (Nat.le_of_ble_eq_true rfl) ⟨⟨rfl, rfl, rfl, trivial⟩, rfl, rfl, ⟨[], rfl⟩, rfl⟩ (fun x => ?_)
    obtain ⟨i, hi, hj⟩ := x
    repeat' first | refine AW.seq ?_ | refine AW.block ?_ | (refine (id : AW _ _ _ (.region 8 _ true) _ _ → _) ?_; refine AW.draw (id := 8) tab_ok mixed [0, 1, 2, 3, 4, 5, 6, 7, 8, 9, 10, 11] (by kernel_rfl) ?_; conv => whnf) | ((first | refine AW.region tab_ok ?_ | refine AW.cond ?_ | refine AW.skip ?_ | refine AW.ret ?_ | refine AW.exit ?_); conv => whnf) | ((first | refine And.intro (@rfl Val _) ?_ | refine And.intro (by decide) ?_ | refine cs (fun _ => ?_) (fun _ => ?_)) <;> conv => whnf)
    · rename_i h1
      simp only [rows_length] at h1 ⊢
      have := of_decide_eq_true h1
      refine ⟨by omega, fun row hrow => ?_⟩
      obtain ⟨⟨kx, kxs⟩, ht, rfl⟩ := rows_get ks i row (by simpa using hrow)
      have hlt : i < ks.length := (List.getElem?_eq_some_iff.1 ht).1
      have hm := List.mem_of_getElem? ht
      conv => whnf
      repeat' first | refine AW.seq ?_ | refine AW.block ?_ | (refine (id : AW _ _ _ (.region 8 _ true) _ _ → _) ?_; refine AW.draw (id := 8) tab_ok mixed [0, 1, 2, 3, 4, 5, 6, 7, 8, 9, 10, 11] (by kernel_rfl) ?_; conv => whnf) | ((first | refine AW.region tab_ok ?_ | refine AW.cond ?_ | refine AW.skip ?_ | refine AW.ret ?_ | refine AW.exit ?_); conv => whnf) | ((first | refine And.intro (@rfl Val _) ?_ | refine And.intro (by decide) ?_ | refine cs (fun _ => ?_) (fun _ => ?_)) <;> conv => whnf)
      simp only [rows_length]
      refine ⟨by omega, fun row hrow => ?_⟩
      obtain ⟨⟨ky, kys⟩, hu, rfl⟩ := rows_get ks' i row (by simpa using hrow)
      have hm' := List.mem_of_getElem? hu
      conv => whnf
      repeat' first | refine AW.seq ?_ | refine AW.block ?_ | (refine (id : AW _ _ _ (.region 8 _ true) _ _ → _) ?_; refine AW.draw (id := 8) tab_ok mixed [0, 1, 2, 3, 4, 5, 6, 7, 8, 9, 10, 11] (by kernel_rfl) ?_; conv => whnf) | ((first | refine AW.region tab_ok ?_ | refine AW.cond ?_ | refine AW.skip ?_ | refine AW.ret ?_ | refine AW.exit ?_); conv => whnf) | (refine (ih _ hm _ (tright_kid ha hm) (tright_kid hb hm')).mono ?_; rintro _ _ ⟨rfl, rfl⟩; conv => whnf) | ((first | refine And.intro (@rfl Val _) ?_ | refine And.intro (by decide) ?_ | refine cs (fun _ => ?_) (fun _ => ?_)) <;> conv => whnf)
      · rename_i h2
        refine ⟨?_, rfl⟩
        have h2 : agreeF (Ty.node kx kxs) (Ty.node ky kys) = false := by simpa using h2
        have : agreeL ks ks' = false := by
          cases hc : agreeL ks ks' with
          | false => rfl
          | true => rw [(agreeL_all ks ks' hkk).1 hc i _ _ ht hu] at h2; cases h2
        simp_all [oneOf, agreeF, this]
      · rename_i h2
        have h2 : agreeF (Ty.node kx kxs) (Ty.node ky kys) = true := by simpa using h2
        rw [wrap64 (x := (i : Int) + 1) (by omega) (by omega)]
        refine ⟨⟨i + 1, hlt, fun j h x y hx hy => ?_⟩, ⟨⟨rfl, rfl, rfl, trivial⟩, rfl, rfl, ⟨[], rfl⟩, rfl⟩, show ks.length - (i + 1) < ks.length - i by omega⟩
        by_cases e : j = i
        · subst e; rw [ht] at hx; rw [hu] at hy; cases hx; cases hy; exact h2
        · exact hj j (by omega) x y hx hy
    · rename_i h1
      simp only [rows_length] at h1
      have := of_decide_eq_false h1
      obtain rfl : i = ks.length := by omega
      refine ⟨?_, rfl⟩
      have : agreeL ks ks' = true := (agreeL_all ks ks' hkk).2 fun j x y hx hy => hj j (List.getElem?_eq_some_iff.1 hx).1 x y hx hy
      simp_all [oneOf, agreeF, this]
def agreeS (a b : Ty) : Bool := decide (tcheck a = 0) && decide (tcheck b = 0) && agreeF a b
set_option maxRecDepth 10000 in
theorem Agree_call (a b : Ty) : ACall Tryz.prog 44 [a.val, b.val] [] (fun o σ => o = .ret (.c (.d (.bool (agreeS a b)))) ∧ σ = []) := by
  obtain ⟨k, ks⟩ := a
  obtain ⟨k', ks'⟩ := b
  refine ACall.body tab_ok (ρ := 0) (N := 18) Tryz.func44 rfl rfl rfl rfl rfl ?_
  repeat' first | refine AW.seq ?_ | refine AW.block ?_ | ((first | refine AW.region tab_ok ?_ | refine AW.cond ?_ | refine AW.skip ?_ | refine AW.ret ?_ | refine AW.exit ?_); conv => whnf) | ((first | refine (check_call (.node k ks)).mono ?_ | refine (check_call (.node k' ks')).mono ?_); rintro _ _ ⟨rfl, rfl⟩; conv => whnf) | ((first | refine And.intro (@rfl Val _) ?_ | refine And.intro (by decide) ?_ | refine cs (fun _ => ?_) (fun _ => ?_)) <;> conv => whnf)
  · rename_i h1 h2
    have h1 : tcheck (.node k ks) = 0 := by simpa using h1
    have h2 : tcheck (.node k' ks') = 0 := by simpa using h2
    refine (level_call (.node k ks) (.node k' ks') (tcheck_right h1) (tcheck_right h2)).mono ?_
    rintro _ _ ⟨rfl, rfl⟩
    conv => whnf
    repeat' first | refine AW.seq ?_ | refine AW.block ?_ | ((first | refine AW.region tab_ok ?_ | refine AW.cond ?_ | refine AW.skip ?_ | refine AW.ret ?_ | refine AW.exit ?_); conv => whnf) | ((first | refine And.intro (@rfl Val _) ?_ | refine And.intro (by decide) ?_ | refine cs (fun _ => ?_) (fun _ => ?_)) <;> conv => whnf)
    refine ⟨?_, rfl⟩
    simp [oneOf, agreeS, h1, h2]
  · rename_i h1 h2
    refine ⟨?_, rfl⟩
    simp at h1 h2
    simp [oneOf, agreeS, h1, h2]
  · rename_i h1
    refine ⟨?_, rfl⟩
    simp at h1
    simp [oneOf, agreeS, h1]
set_option maxRecDepth 10000 in
theorem rAgree_call (a b : Ty) : ACall Tryz.prog 86 [a.val, b.val] [] (fun o σ => o = .ret (.c (.d (.bool (agreeS a b)))) ∧ σ = []) := by
  obtain ⟨k, ks⟩ := a
  obtain ⟨k', ks'⟩ := b
  refine ACall.body tab_ok (ρ := 0) (N := 18) Tryz.func86 rfl rfl rfl rfl rfl ?_
  repeat' first | refine AW.seq ?_ | refine AW.block ?_ | ((first | refine AW.region tab_ok ?_ | refine AW.cond ?_ | refine AW.skip ?_ | refine AW.ret ?_ | refine AW.exit ?_); conv => whnf) | ((first | refine (rcheck_call (.node k ks)).mono ?_ | refine (rcheck_call (.node k' ks')).mono ?_); rintro _ _ ⟨rfl, rfl⟩; conv => whnf) | ((first | refine And.intro (@rfl Val _) ?_ | refine And.intro (by decide) ?_ | refine cs (fun _ => ?_) (fun _ => ?_)) <;> conv => whnf)
  · rename_i h1 h2
    have h1 : tcheck (.node k ks) = 0 := by simpa using h1
    have h2 : tcheck (.node k' ks') = 0 := by simpa using h2
    refine (rRight_call (.node k ks) (.node k' ks') (tcheck_right h1) (tcheck_right h2)).mono ?_
    rintro _ _ ⟨rfl, rfl⟩
    conv => whnf
    repeat' first | refine AW.seq ?_ | refine AW.block ?_ | ((first | refine AW.region tab_ok ?_ | refine AW.cond ?_ | refine AW.skip ?_ | refine AW.ret ?_ | refine AW.exit ?_); conv => whnf) | ((first | refine And.intro (@rfl Val _) ?_ | refine And.intro (by decide) ?_ | refine cs (fun _ => ?_) (fun _ => ?_)) <;> conv => whnf)
    refine ⟨?_, rfl⟩
    simp [oneOf, agreeS, h1, h2]
  · rename_i h1 h2
    refine ⟨?_, rfl⟩
    simp at h1 h2
    simp [oneOf, agreeS, h1, h2]
  · rename_i h1
    refine ⟨?_, rfl⟩
    simp at h1
    simp [oneOf, agreeS, h1]
end Go.Proofs.YtlboogackecjlaaGreat.E
