/- Texts, merged: Tm7, Tm8, Tm9, Ty5, Ty6, Tm10, Ty7, Ty8, Ty9, Tm12, Tm13, Tm14, Tmd, Tm11, On0, Tm15, Lay190, FrS, St0, St1. No conditions. -/
import Derived.Test.YthmbncehoblgpaaDoorGenX4
import Derived.Test.YthmbncehoblgpaaDoorGenX2
import Derived.Test.YthmbncehoblgpaaDoorEngX3
import Derived.Test.YthmbncehoblgpaaDoorTab
import Derived.Shelf.Sort.Plain
import Derived.KernelRfl
import Derived.Shelf.Slices.In.SortNone
import Derived.Sort.OwnSorted
import Derived.Lib.OwnBridge
import Derived.Lib.Join
import Derived.Lib.ItoaNum
/- Walk: terms.right. No conditions. -/
set_option linter.unusedVariables false
set_option linter.unusedSimpArgs false
namespace Go.Proofs.YthmbncehoblgpaaDoor.E
open Go

set_option maxRecDepth 10000 in
set_option maxHeartbeats 4000000 in
theorem tmright_call (t : Tm) : tmN t ≤ 8192 → ACall Tryd.prog 32 [.c (.d (.rp 0 t.cells))] [] (fun o σ => o = .ret (.c (.d (.bool (tmright t)))) ∧ σ = []) := by
  induction t using Tm.ind with
  | _ k name arg num tk tks uk uks label place ks ih =>
  intro hN
  have hlen := tmNL_len ks
  simp only [tmN] at hN
  have ih' : ∀ t ∈ ks, ACall Tryd.prog 32 [.c (.d (.rp 0 t.cells))] [] (fun o σ => o = .ret (.c (.d (.bool (tmright t)))) ∧ σ = []) := fun t ht => ih t ht (by have := tmN_mem ks t ht; omega)
  have fin : ∀ (s0 : Int) (b1 b2 b3 b4 b5 b6 b7 : Bool), ownRight (.node k name arg num tk tks uk uks label place ks) = true → ∀ env, get env 0 = .c (.d (.rp 0 (Tm.node k name arg num tk tks uk uks label place ks).cells)) →
      AW Tryd.prog tab 0 rest72 ⟨120, env, [.var [.d (.int .i64 s0), .d (.bool b1), .d (.bool b2), .d (.bool b3), .d (.bool b4), .d (.bool b5), .d (.bool b6), .d (.bool b7)]], []⟩ (afin tab 0 32 Tryd.f32.results.toList ([] : List AObj).length (fun o σ => o = .ret (.c (.d (.bool (tmright (.node k name arg num tk tks uk uks label place ks))))) ∧ σ = [])) := fun s0 b1 b2 b3 b4 b5 b6 b7 ho env g0 => by
    have e : tmright (.node k name arg num tk tks uk uks label place ks) = tmrights ks := by simp [tmright, ho]
    rw [e]
    refine AW.fits ?_ ?_ (right_rest k name arg num tk tks uk uks label place ks s0 b1 b2 b3 b4 b5 b6 b7 (by omega) ih')
    · exact ⟨⟨g0, trivial⟩, rfl, rfl, ⟨[], rfl⟩, rfl⟩
    · rfl
  clear ih ih' hN hlen
  have c1 := of_call k
  by_cases hv : validK k = true
  · rcases kinds k hv with rfl | rfl | rfl | rfl | rfl | rfl | rfl | rfl | rfl | rfl | rfl | rfl | rfl | rfl | rfl | rfl | rfl | rfl
    all_goals
      refine ACall.body tab_ok (ρ := 0) (N := 120) Tryd.func32 rfl rfl rfl rfl rfl ?_
      repeat' first | (refine fin _ _ _ _ _ _ _ _ ?_ _ rfl) | refine AW.seq ?_ | refine AW.block ?_ | (refine (_root_.id : AW _ _ _ (.region 3 _ true) _ _ → _) ?_; refine AW.draw (id := 3) tab_ok mixed [0, 1, 2, 3, 4, 5, 6, 7, 8] (by kernel_rfl) ?_; conv => whnf) | ((first | refine AW.region tab_ok ?_ | refine AW.cond ?_ | refine AW.skip ?_ | refine AW.ret ?_ | refine AW.exit ?_); conv => whnf) | ((first | refine (c1).mono ?_ | refine (name_call name).mono ?_ | refine (name_call arg).mono ?_ | refine (check_call (.node tk tks)).mono ?_ | refine (check_call (.node uk uks)).mono ?_); rintro _ _ ⟨rfl, rfl⟩; conv => whnf) | ((first | refine And.intro (@rfl Val _) ?_ | refine And.intro (by decide) ?_ | refine cs (fun _ => ?_) (fun _ => ?_)) <;> conv => whnf)
    all_goals clear c1 fin hv
    all_goals first
      | (refine ⟨outb ?_, rfl⟩
         simp only [tmright, ownRight]
         simp_all [kidsK, validK, nameK, argK, typeK, toK, opF, opsF, trows_length]
         done)
      | (refine ⟨outb ?_, rfl⟩
         simp only [tmright, ownRight]
         simp_all [kidsK, validK, nameK, argK, typeK, toK, opF, opsF, trows_length]
         omega)
      | (simp only [ownRight]
         simp_all [kidsK, validK, nameK, argK, typeK, toK, opF, opsF, trows_length]
         done)
      | (simp only [ownRight]
         simp_all [kidsK, validK, nameK, argK, typeK, toK, opF, opsF, trows_length]
         omega)
  · have hv : validK k = false := by simpa using hv
    rw [hv] at c1
    refine ACall.body tab_ok (ρ := 0) (N := 120) Tryd.func32 rfl rfl rfl rfl rfl ?_
    skip
    repeat' first | refine AW.seq ?_ | refine AW.block ?_ | (refine (_root_.id : AW _ _ _ (.region 3 _ true) _ _ → _) ?_; refine AW.draw (id := 3) tab_ok mixed [0, 1, 2, 3, 4, 5, 6, 7, 8] (by kernel_rfl) ?_; conv => whnf) | ((first | refine AW.region tab_ok ?_ | refine AW.cond ?_ | refine AW.skip ?_ | refine AW.ret ?_ | refine AW.exit ?_); conv => whnf) | (refine (c1).mono ?_; rintro _ _ ⟨rfl, rfl⟩; conv => whnf) | ((first | refine And.intro (@rfl Val _) ?_ | refine And.intro (by decide) ?_ | refine cs (fun _ => ?_) (fun _ => ?_)) <;> conv => whnf)
    have hk : kidsK k = -1 := by simp [validK] at hv; unfold kidsK; repeat rw [if_neg (by omega)]
    refine ⟨outb ?_, rfl⟩
    simp only [tmright, ownRight, hk]
    rw [show decide ((-1 : Int) = (ks.length : Int)) = false by simp <;> omega]
    rfl
end Go.Proofs.YthmbncehoblgpaaDoor.E

/- Walk: ref right of terms. No conditions. -/
set_option linter.unusedVariables false
set_option linter.unusedSimpArgs false
namespace Go.Proofs.YthmbncehoblgpaaDoor.E
open Go

noncomputable def rest73 : Code := match Tryd.f47.body with
  | some (.seq _ (.seq _ (.seq _ (.seq _ c)))) => c
  | _ => .skip
set_option maxRecDepth 10000 in
theorem rright_rest (k : Int) (name arg : ByteArray) (num tk : Int) (tks : List Ty) (uk : Int) (uks : List Ty) (label place : Int) (ks : List Tm) (hlen : ks.length ≤ 8192)
    (ih : ∀ t ∈ ks, ACall Tryd.prog 47 [t.val] [] (fun o σ => o = .ret (.c (.d (.bool (tmright t)))) ∧ σ = [])) :
    AW Tryd.prog tab 0 rest73 ⟨101, [(1, .c (.ptr 0 0))], [.var [.d (.int .i8 k), .d (.str name), .d (.str arg), .d (.int .i64 num), .d (.int .i8 tk), .d (.sl 0 2 (Ty.rows tks)), .d (.int .i8 uk), .d (.sl 0 2 (Ty.rows uks)), .d (.int .i64 label), .d (.int .i64 place), .d (.sl 0 11 (Tm.rows ks))]], []⟩
      (afin tab 0 47 [.tmp 2] 0 (fun o σ => o = .ret (.c (.d (.bool (tmrights ks)))) ∧ σ = [])) := by
  repeat' first | refine AW.seq ?_ | refine AW.block ?_ | (refine (_root_.id : AW _ _ _ (.region 1 _ true) _ _ → _) ?_; refine AW.draw (id := 1) tab_ok mixed [0, 1, 3, 4, 5, 2, 6, 7, 8, 9, 10, 11, 12, 13, 14, 15, 16, 17, 18, 19, 20, 21, 22, 23, 24, 25, 26] (by kernel_rfl) ?_; conv => whnf) | ((first | refine AW.region tab_ok ?_ | refine AW.cond ?_ | refine AW.skip ?_ | refine AW.ret ?_ | refine AW.exit ?_); conv => whnf) | ((first | refine And.intro (@rfl Val _) ?_ | refine And.intro (by decide) ?_ | refine cs (fun _ => ?_) (fun _ => ?_)) <;> conv => whnf)
  refine AW.loop (ι := TmRightI ks) (fun x => ⟨101, [(3, .c (.d (.int .i64 x.i))), (1, .c (.ptr 0 0))], [.var [.d (.int .i8 k), .d (.str name), .d (.str arg), .d (.int .i64 num), .d (.int .i8 tk), .d (.sl 0 2 (Ty.rows tks)), .d (.int .i8 uk), .d (.sl 0 2 (Ty.rows uks)), .d (.int .i64 label), .d (.int .i64 place), .d (.sl 0 11 (Tm.rows ks))]], []⟩)
    (fun x => ks.length - x.i) ⟨0, Nat.zero_le _, rfl⟩ 1 (fun _ => rfl) (Nat.le_of_ble_eq_true rfl) ⟨⟨rfl, rfl, trivial⟩, rfl, rfl, ⟨[], rfl⟩, rfl⟩ (fun x => ?_)
  obtain ⟨i, hi, hj⟩ := x
  repeat' first | refine AW.seq ?_ | refine AW.block ?_ | (refine (_root_.id : AW _ _ _ (.region 1 _ true) _ _ → _) ?_; refine AW.draw (id := 1) tab_ok mixed [0, 1, 3, 4, 5, 2, 6, 7, 8, 9, 10, 11, 12, 13, 14, 15, 16, 17, 18, 19, 20, 21, 22, 23, 24, 25, 26] (by kernel_rfl) ?_; conv => whnf) | ((first | refine AW.region tab_ok ?_ | refine AW.cond ?_ | refine AW.skip ?_ | refine AW.ret ?_ | refine AW.exit ?_); conv => whnf) | ((first | refine And.intro (@rfl Val _) ?_ | refine And.intro (by decide) ?_ | refine cs (fun _ => ?_) (fun _ => ?_)) <;> conv => whnf)
  · rename_i h2
    simp only [trows_length] at h2 ⊢
    have := of_decide_eq_true h2
    refine ⟨by omega, fun row hrow => ?_⟩
    obtain ⟨t, ht, rfl⟩ := trows_get ks i row (by simpa using hrow)
    have hlt : i < ks.length := (List.getElem?_eq_some_iff.1 ht).1
    have hmem := List.mem_of_getElem? ht
    have hc := ih t hmem
    have hn := tmrights_take ks i _ ht
    have hf := tmrights_no ks t hmem
    generalize tmright t = b at hc hn hf
    obtain ⟨k', name', arg', num', tk', tks', uk', uks', label', place', ks'⟩ := t
    conv => whnf
    repeat' first | refine AW.seq ?_ | refine AW.block ?_ | (refine (_root_.id : AW _ _ _ (.region 1 _ true) _ _ → _) ?_; refine AW.draw (id := 1) tab_ok mixed [0, 1, 3, 4, 5, 2, 6, 7, 8, 9, 10, 11, 12, 13, 14, 15, 16, 17, 18, 19, 20, 21, 22, 23, 24, 25, 26] (by kernel_rfl) ?_; conv => whnf) | ((first | refine AW.region tab_ok ?_ | refine AW.cond ?_ | refine AW.skip ?_ | refine AW.ret ?_ | refine AW.exit ?_); conv => whnf) | (refine (hc).mono ?_; rintro _ _ ⟨rfl, rfl⟩; conv => whnf) | ((first | refine And.intro (@rfl Val _) ?_ | refine And.intro (by decide) ?_ | refine cs (fun _ => ?_) (fun _ => ?_)) <;> conv => whnf)
    · rename_i h3
      have h3 : b = false := by simpa using h3
      exact ⟨outb (hf h3).symm, rfl⟩
    · rename_i h3
      have h3 : b = true := by simpa using h3
      rw [wrap64 (x := (i : Int) + 1) (by omega) (by omega)]
      exact ⟨⟨i + 1, hlt, by rw [hn, hj, h3]; rfl⟩, ⟨⟨rfl, rfl, trivial⟩, rfl, rfl, ⟨[], rfl⟩, rfl⟩, show ks.length - (i + 1) < ks.length - i by omega⟩
  · rename_i h2
    simp only [trows_length] at h2
    have := of_decide_eq_false h2
    obtain rfl : i = ks.length := by omega
    simp only [List.take_length] at hj
    exact ⟨outb hj.symm, rfl⟩
set_option maxRecDepth 10000 in
set_option maxHeartbeats 4000000 in
theorem rtmright_call (t : Tm) : tmN t ≤ 8192 → ACall Tryd.prog 47 [t.val] [] (fun o σ => o = .ret (.c (.d (.bool (tmright t)))) ∧ σ = []) := by
  induction t using Tm.ind with
  | _ k name arg num tk tks uk uks label place ks ih =>
  intro hN
  have hlen := tmNL_len ks
  simp only [tmN] at hN
  have ih' : ∀ t ∈ ks, ACall Tryd.prog 47 [t.val] [] (fun o σ => o = .ret (.c (.d (.bool (tmright t)))) ∧ σ = []) := fun t ht => ih t ht (by have := tmN_mem ks t ht; omega)
  have fin : ownRight (.node k name arg num tk tks uk uks label place ks) = true → ∀ env, get env 1 = .c (.ptr 0 0) →
      AW Tryd.prog tab 0 rest73 ⟨101, env, [.var [.d (.int .i8 k), .d (.str name), .d (.str arg), .d (.int .i64 num), .d (.int .i8 tk), .d (.sl 0 2 (Ty.rows tks)), .d (.int .i8 uk), .d (.sl 0 2 (Ty.rows uks)), .d (.int .i64 label), .d (.int .i64 place), .d (.sl 0 11 (Tm.rows ks))]], []⟩ (afin tab 0 47 Tryd.f47.results.toList ([] : List AObj).length (fun o σ => o = .ret (.c (.d (.bool (tmright (.node k name arg num tk tks uk uks label place ks))))) ∧ σ = [])) := fun ho env g0 => by
    have e : tmright (.node k name arg num tk tks uk uks label place ks) = tmrights ks := by simp [tmright, ho]
    rw [e]
    refine AW.fits ?_ ?_ (rright_rest k name arg num tk tks uk uks label place ks (by omega) ih')
    · exact ⟨⟨g0, trivial⟩, rfl, rfl, ⟨[], rfl⟩, rfl⟩
    · rfl
  clear ih ih' hN hlen
  by_cases hv : validK k = true
  · rcases kinds k hv with rfl | rfl | rfl | rfl | rfl | rfl | rfl | rfl | rfl | rfl | rfl | rfl | rfl | rfl | rfl | rfl | rfl | rfl
    all_goals
      refine ACall.body tab_ok (ρ := 0) (N := 101) Tryd.func47 rfl rfl rfl rfl rfl ?_
      repeat' first | (refine fin ?_ _ rfl) | refine AW.seq ?_ | refine AW.block ?_ | (refine (_root_.id : AW _ _ _ (.region 1 _ true) _ _ → _) ?_; refine AW.draw (id := 1) tab_ok mixed [0, 1, 3, 4, 5, 2, 6, 7, 8, 9, 10, 11, 12, 13, 14, 15, 16, 17, 18, 19, 20, 21, 22, 23, 24, 25, 26] (by kernel_rfl) ?_; conv => whnf) | ((first | refine AW.region tab_ok ?_ | refine AW.cond ?_ | refine AW.skip ?_ | refine AW.ret ?_ | refine AW.exit ?_); conv => whnf) | ((first | refine (rkids_call _).mono ?_ | refine (rop_call _).mono ?_ | refine (rhasName_call _).mono ?_ | refine (rhasArg_call _).mono ?_ | refine (rhasType_call _).mono ?_ | refine (rhasTo_call _).mono ?_ | refine (rname_call name).mono ?_ | refine (rname_call arg).mono ?_ | refine (rcheck_call (.node tk tks)).mono ?_ | refine (rcheck_call (.node uk uks)).mono ?_); rintro _ _ ⟨rfl, rfl⟩; conv => whnf) | ((first | refine And.intro (@rfl Val _) ?_ | refine And.intro (by decide) ?_ | refine cs (fun _ => ?_) (fun _ => ?_)) <;> conv => whnf)
    all_goals clear fin hv
    all_goals first
      | (refine ⟨outb ?_, rfl⟩
         simp only [tmright, ownRight]
         simp_all [kidsK, validK, nameK, argK, typeK, toK, trows_length]
         done)
      | (refine ⟨outb ?_, rfl⟩
         simp only [tmright, ownRight]
         simp_all [kidsK, validK, nameK, argK, typeK, toK, trows_length]
         omega)
      | (simp only [ownRight]
         simp_all [kidsK, validK, nameK, argK, typeK, toK, trows_length]
         done)
      | (simp only [ownRight]
         simp_all [kidsK, validK, nameK, argK, typeK, toK, trows_length]
         omega)
      | trace_state
  · have hv : validK k = false := by simpa using hv
    have hk : kidsK k = -1 := by simp [validK] at hv; unfold kidsK; repeat rw [if_neg (by omega)]
    have c1 := rkids_call k
    rw [hk] at c1
    have hb : decide ((-1 : Int) = (ks.length : Int)) = false := by simp <;> omega
    have hr : tmright (.node k name arg num tk tks uk uks label place ks) = false := by
      simp only [tmright, ownRight, hk]
      rw [hb]
      rfl
    rw [hr] at *
    clear fin
    have hl : ((-1 : Int) != ((Tm.rows ks).length : Int)) = true := by simp <;> omega
    refine ACall.body tab_ok (ρ := 0) (N := 101) Tryd.func47 rfl rfl rfl rfl rfl ?_
    skip
    repeat' first | refine AW.seq ?_ | refine AW.block ?_ | (refine (_root_.id : AW _ _ _ (.region 1 _ true) _ _ → _) ?_; refine AW.draw (id := 1) tab_ok mixed [0, 1, 3, 4, 5, 2, 6, 7, 8, 9, 10, 11, 12, 13, 14, 15, 16, 17, 18, 19, 20, 21, 22, 23, 24, 25, 26] (by kernel_rfl) ?_; conv => whnf) | ((first | refine AW.region tab_ok ?_ | refine AW.cond ?_ | refine AW.skip ?_ | refine AW.ret ?_ | refine AW.exit ?_); conv => whnf) | (refine (c1).mono ?_; rintro _ _ ⟨rfl, rfl⟩; conv => whnf) | ((first | refine And.intro (@rfl Val _) ?_ | refine And.intro (by decide) ?_ | refine cs (fun _ => ?_) (fun _ => ?_)) <;> conv => whnf)
    all_goals exact ⟨rfl, rfl⟩
end Go.Proofs.YthmbncehoblgpaaDoor.E

/- Walks: Check of terms, both; the law TermsCheck. No conditions. -/
set_option linter.unusedVariables false
set_option linter.unusedSimpArgs false
namespace Go.Proofs.YthmbncehoblgpaaDoor.E
open Go

def tmcheck (t : Tm) : Int := if tmN t > 8192 then 32 else if tmD t 201 > 200 then 31 else if tmright t then 0 else 30
theorem tmcheck_eq (t : Tm) : tmcheck t = if tmN t > 8192 then 32 else if tmDepth t > 200 then 31 else if tmright t then 0 else 30 := by
  unfold tmcheck tmDepth
  split <;> rfl
set_option maxRecDepth 10000 in
theorem tmCheck_call (t : Tm) : ACall Tryd.prog 13 [t.val] [] (fun o σ => o = .ret (.c (.d (.int .i64 (tmcheck t)))) ∧ σ = []) := by
  have c1 := tnodes_call t
  have c2 := tDepth_call t
  have c3 := tmright_call t
  rw [tmcheck_eq]
  generalize tmN t = nn at *
  generalize tmDepth t = dd at *
  generalize tmright t = rr at *
  obtain ⟨k, name, arg, num, tk, tks, uk, uks, label, place, ks⟩ := t
  refine ACall.body tab_ok (ρ := 0) (N := 11) Tryd.func13 rfl rfl rfl rfl rfl ?_
  repeat' first | refine AW.seq ?_ | refine AW.block ?_ | ((first | refine AW.region tab_ok ?_ | refine AW.cond ?_ | refine AW.skip ?_ | refine AW.ret ?_ | refine AW.exit ?_); conv => whnf) | ((first | refine (c1).mono ?_ | refine (c2).mono ?_); rintro _ _ ⟨rfl, rfl⟩; conv => whnf) | ((first | refine And.intro (@rfl Val _) ?_ | refine And.intro (by decide) ?_ | refine cs (fun _ => ?_) (fun _ => ?_)) <;> conv => whnf)
  · rename_i h
    have := of_decide_eq_true h
    refine ⟨?_, rfl⟩
    simp only [oneOf]
    rw [if_pos (by omega)]
  · rename_i h1 h2
    have := of_decide_eq_false h1
    have h2 := of_decide_eq_true h2
    refine ⟨?_, rfl⟩
    simp only [oneOf]
    rw [if_neg (by omega), if_pos (by omega)]
  · rename_i h1 h2
    have := of_decide_eq_false h1
    have h2 := of_decide_eq_false h2
    refine (c3 (by omega)).mono ?_
    rintro _ _ ⟨rfl, rfl⟩
    conv => whnf
    repeat' first | refine AW.seq ?_ | refine AW.block ?_ | ((first | refine AW.region tab_ok ?_ | refine AW.cond ?_ | refine AW.skip ?_ | refine AW.ret ?_ | refine AW.exit ?_); conv => whnf) | ((first | refine And.intro (@rfl Val _) ?_ | refine And.intro (by decide) ?_ | refine cs (fun _ => ?_) (fun _ => ?_)) <;> conv => whnf)
    all_goals
      rename_i h3
      refine ⟨?_, rfl⟩
      simp only [oneOf]
      rw [if_neg (by omega), if_neg (by omega)]
      simp at h3
      simp [h3]
set_option maxRecDepth 10000 in
theorem rtmCheck_call (t : Tm) : ACall Tryd.prog 21 [t.val] [] (fun o σ => o = .ret (.c (.d (.int .i64 (tmcheck t)))) ∧ σ = []) := by
  have c1 := rtnodes_call t
  have c2 := rtDepth_call t
  have c3 := rtmright_call t
  rw [tmcheck_eq]
  generalize tmN t = nn at *
  generalize tmDepth t = dd at *
  generalize tmright t = rr at *
  obtain ⟨k, name, arg, num, tk, tks, uk, uks, label, place, ks⟩ := t
  refine ACall.body tab_ok (ρ := 0) (N := 12) Tryd.func21 rfl rfl rfl rfl rfl ?_
  repeat' first | refine AW.seq ?_ | refine AW.block ?_ | ((first | refine AW.region tab_ok ?_ | refine AW.cond ?_ | refine AW.skip ?_ | refine AW.ret ?_ | refine AW.exit ?_); conv => whnf) | ((first | refine (c1).mono ?_ | refine (c2).mono ?_); rintro _ _ ⟨rfl, rfl⟩; conv => whnf) | ((first | refine And.intro (@rfl Val _) ?_ | refine And.intro (by decide) ?_ | refine cs (fun _ => ?_) (fun _ => ?_)) <;> conv => whnf)
  · rename_i h
    have := of_decide_eq_true h
    refine ⟨?_, rfl⟩
    simp only [oneOf]
    rw [if_pos (by omega)]
  · rename_i h1 h2
    have := of_decide_eq_false h1
    have h2 := of_decide_eq_true h2
    refine ⟨?_, rfl⟩
    simp only [oneOf]
    rw [if_neg (by omega), if_pos (by omega)]
  · rename_i h1 h2
    have := of_decide_eq_false h1
    have h2 := of_decide_eq_false h2
    refine (c3 (by omega)).mono ?_
    rintro _ _ ⟨rfl, rfl⟩
    conv => whnf
    repeat' first | refine AW.seq ?_ | refine AW.block ?_ | ((first | refine AW.region tab_ok ?_ | refine AW.cond ?_ | refine AW.skip ?_ | refine AW.ret ?_ | refine AW.exit ?_); conv => whnf) | ((first | refine And.intro (@rfl Val _) ?_ | refine And.intro (by decide) ?_ | refine cs (fun _ => ?_) (fun _ => ?_)) <;> conv => whnf)
    all_goals
      rename_i h3
      refine ⟨?_, rfl⟩
      simp only [oneOf]
      rw [if_neg (by omega), if_neg (by omega)]
      simp at h3
      simp [h3]
end Go.Proofs.YthmbncehoblgpaaDoor.E

/- Walks: less of both; Less of both; the law. No conditions. -/
set_option linter.unusedVariables false
set_option linter.unusedSimpArgs false
namespace Go.Proofs.YthmbncehoblgpaaDoor.E
open Go

theorem tright_len {k : Int} {ks : List Ty} (h : tright (.node k ks) = true) : parts k = ks.length := by
  simp [tright] at h; exact h.1
theorem tright_kid {k : Int} {ks : List Ty} (h : tright (.node k ks) = true) {t : Ty} (ht : t ∈ ks) : tright t = true := by
  simp [tright] at h
  exact (trights_all ks).1 h.2 t ht
/-! ### less, Less -/
theorem tcheck_right {t : Ty} (h : tcheck t = 0) : tright t = true := by
  unfold tcheck at h
  split at h
  · cases h
  · split at h
    · cases h
    · split at h
      · assumption
      · cases h
end Go.Proofs.YthmbncehoblgpaaDoor.E

/- Walks: types.equal, Same; the law OrderGoes. No conditions. -/
set_option linter.unusedVariables false
set_option linter.unusedSimpArgs false
namespace Go.Proofs.YthmbncehoblgpaaDoor.E
open Go

/-! ### An order -/
end Go.Proofs.YthmbncehoblgpaaDoor.E

/- Walks: Same of types in the document's answer; same of terms, both. No conditions. -/
set_option linter.unusedVariables false
set_option linter.unusedSimpArgs false
namespace Go.Proofs.YthmbncehoblgpaaDoor.E
open Go

/-! ### Same of types, the document's -/
/-! ### Same of terms -/
theorem tmright_len {k name arg num tk tks uk uks label place ks} (h : tmright (.node k name arg num tk tks uk uks label place ks) = true) : kidsK k = ks.length := by
  simp [tmright, ownRight] at h
  exact h.1.1.1.1.1.1.1
theorem tmright_kid {k name arg num tk tks uk uks label place ks} (h : tmright (.node k name arg num tk tks uk uks label place ks) = true) {t : Tm} (ht : t ∈ ks) : tmright t = true := by
  simp only [tmright, Bool.and_eq_true] at h
  exact (tmrights_all ks).1 h.2 t ht
theorem tmright_valid {k name arg num tk tks uk uks label place ks} (h : tmright (.node k name arg num tk tks uk uks label place ks) = true) : validK k = true := by
  have h := tmright_len h
  cases hv : validK k with
  | true => rfl
  | false =>
    have hk : kidsK k = -1 := by simp [validK] at hv; unfold kidsK; repeat rw [if_neg (by omega)]
    omega
end Go.Proofs.YthmbncehoblgpaaDoor.E

/- Walks: agree of both. No conditions. -/
set_option linter.unusedVariables false
set_option linter.unusedSimpArgs false
namespace Go.Proofs.YthmbncehoblgpaaDoor.E
open Go

end Go.Proofs.YthmbncehoblgpaaDoor.E

/- Walks: meet of both. No conditions. -/
set_option linter.unusedVariables false
set_option linter.unusedSimpArgs false
namespace Go.Proofs.YthmbncehoblgpaaDoor.E
open Go

/-! ### order.meet -/
end Go.Proofs.YthmbncehoblgpaaDoor.E

/- Walks: Meet, kind, met; the law OrderMeet. No conditions. -/
set_option linter.unusedVariables false
set_option linter.unusedSimpArgs false
namespace Go.Proofs.YthmbncehoblgpaaDoor.E
open Go

/-! ### kind, of a type and itself -/
end Go.Proofs.YthmbncehoblgpaaDoor.E

/- Walks: kind, Whole of a thing and itself; whole. No conditions. -/
set_option linter.unusedVariables false
set_option linter.unusedSimpArgs false
namespace Go.Proofs.YthmbncehoblgpaaDoor.E
open Go

/-! ### whole -/
end Go.Proofs.YthmbncehoblgpaaDoor.E

/- Walks: bare of terms, both. No conditions. -/
set_option linter.unusedVariables false
set_option linter.unusedSimpArgs false
namespace Go.Proofs.YthmbncehoblgpaaDoor.E
open Go

end Go.Proofs.YthmbncehoblgpaaDoor.E

/- Walks: bare of terms in the document's answer; Bare, both. No conditions. -/
set_option linter.unusedVariables false
set_option linter.unusedSimpArgs false
namespace Go.Proofs.YthmbncehoblgpaaDoor.E
open Go

theorem tmcheck_ok {t : Tm} (h : tmcheck t = 0) : tmN t ≤ 8192 ∧ tmright t = true := by
  unfold tmcheck at h
  split at h
  · omega
  · split at h
    · omega
    · split at h
      · rename_i h3; exact ⟨by omega, h3⟩
      · omega
end Go.Proofs.YthmbncehoblgpaaDoor.E

/- Plain laws: parts of a term that is one. No conditions. -/
set_option linter.unusedVariables false
set_option linter.unusedSimpArgs false
namespace Go.Proofs.YthmbncehoblgpaaDoor.E
open Go

end Go.Proofs.YthmbncehoblgpaaDoor.E

/- Walks: same of terms in the document's answer. No conditions. -/
set_option linter.unusedVariables false
set_option linter.unusedSimpArgs false
namespace Go.Proofs.YthmbncehoblgpaaDoor.E
open Go

end Go.Proofs.YthmbncehoblgpaaDoor.E

/- Small facts of terms. No conditions. -/
set_option linter.unusedVariables false
set_option linter.unusedSimpArgs false
namespace Go.Proofs.YthmbncehoblgpaaDoor.E
open Go

theorem tmright_own {k name arg num tk tks uk uks label place ks} (h : tmright (.node k name arg num tk tks uk uks label place ks) = true) : (typeK k = true → tcheck (.node tk tks) = 0) ∧ (toK k = true → tcheck (.node uk uks) = 0) := by
  simp only [tmright, ownRight, Bool.and_eq_true, Bool.or_eq_true, Bool.not_eq_true', decide_eq_true_eq] at h
  refine ⟨fun q => ?_, fun q => ?_⟩
  · rcases h.1.1.1.2 with e | e
    · rw [q] at e; cases e
    · exact e
  · rcases h.1.1.2 with e | e
    · rw [q] at e; cases e
    · exact e
end Go.Proofs.YthmbncehoblgpaaDoor.E

/- Walks: order.each, Has. No conditions. -/
set_option linter.unusedVariables false
set_option linter.unusedSimpArgs false
namespace Go.Proofs.YthmbncehoblgpaaDoor.E
open Go

/-! ### Has -/
mutual
def tmhas (q : Int) : Tm → Bool
  | .node k name arg num tk tks uk uks label place ks => decide (k = q) || tmhass q ks
def tmhass (q : Int) : List Tm → Bool
  | [] => false
  | t :: l => tmhas q t || tmhass q l
end
theorem tmhass_take (q : Int) : ∀ (ks : List Tm) (i : Nat) t, ks[i]? = some t → tmhass q (ks.take (i + 1)) = (tmhass q (ks.take i) || tmhas q t)
  | x :: l, 0, t, h => by simp at h; subst h; simp [tmhass]
  | x :: l, i + 1, t, h => by
    simp only [List.getElem?_cons_succ] at h
    have := tmhass_take q l i t h
    simp only [List.take_succ_cons, tmhass, this, Bool.or_assoc]
theorem tmhass_mem (q : Int) : ∀ (ks : List Tm) (t : Tm), t ∈ ks → tmhas q t = true → tmhass q ks = true
  | x :: l, t, hm, h => by
    simp only [tmhass, Bool.or_eq_true]
    rcases List.mem_cons.1 hm with rfl | hm
    · exact .inl h
    · exact .inr (tmhass_mem q l t hm h)
structure TmHasI (q : Int) (ks : List Tm) where
  i : Nat
  hi : i ≤ ks.length
  h : tmhass q (ks.take i) = false
set_option maxRecDepth 10000 in
theorem rhas_call (q : Int) (t : Tm) : tmN t ≤ 8192 → ACall Tryd.prog 22 [t.val, .c (.d (.int .i8 q))] [] (fun o σ => o = .ret (.c (.d (.bool (tmhas q t)))) ∧ σ = []) := by
  induction t using Tm.ind with
  | _ k name arg num tk tks uk uks label place ks ih =>
  intro hN
  have hlen := tmNL_len ks
  simp only [tmN] at hN
  have ih' : ∀ t ∈ ks, ACall Tryd.prog 22 [t.val, .c (.d (.int .i8 q))] [] (fun o σ => o = .ret (.c (.d (.bool (tmhas q t)))) ∧ σ = []) := fun t ht => ih t ht (by have := tmN_mem ks t ht; omega)
  have e : tmhas q (.node k name arg num tk tks uk uks label place ks) = (decide (k = q) || tmhass q ks) := rfl
  rw [e]
  refine ACall.body tab_ok (ρ := 0) (N := 24) Tryd.func22 rfl rfl rfl rfl rfl ?_
  repeat' first | refine AW.seq ?_ | refine AW.block ?_ | ((first | refine AW.region tab_ok ?_ | refine AW.cond ?_ | refine AW.skip ?_ | refine AW.ret ?_ | refine AW.exit ?_); conv => whnf) | ((first | refine And.intro (@rfl Val _) ?_ | refine And.intro (by decide) ?_ | refine cs (fun _ => ?_) (fun _ => ?_)) <;> conv => whnf)
  · rename_i h
    have h : k = q := by simpa using h
    exact ⟨outb (by simp [h]), rfl⟩
  · rename_i h
    have h : k ≠ q := by simpa using h
    rw [show decide (k = q) = false by simp [h], Bool.false_or]
    refine AW.loop (ι := TmHasI q ks) (fun x => ⟨24, [(5, .c (.d (.int .i64 x.i))), (2, .c (.ptr 0 0)), (1, .c (.d (.int .i8 q)))], [.var [.d (.int .i8 k), .d (.str name), .d (.str arg), .d (.int .i64 num), .d (.int .i8 tk), .d (.sl 0 2 (Ty.rows tks)), .d (.int .i8 uk), .d (.sl 0 2 (Ty.rows uks)), .d (.int .i64 label), .d (.int .i64 place), .d (.sl 0 11 (Tm.rows ks))]], []⟩)
      (fun x => ks.length - x.i) ⟨0, Nat.zero_le _, rfl⟩ 1 (fun _ => rfl) (Nat.le_of_ble_eq_true rfl) ⟨⟨rfl, rfl, rfl, trivial⟩, rfl, rfl, ⟨[], rfl⟩, rfl⟩ (fun x => ?_)
    obtain ⟨i, hi, hj⟩ := x
    repeat' first | refine AW.seq ?_ | refine AW.block ?_ | ((first | refine AW.region tab_ok ?_ | refine AW.cond ?_ | refine AW.skip ?_ | refine AW.ret ?_ | refine AW.exit ?_); conv => whnf) | ((first | refine And.intro (@rfl Val _) ?_ | refine And.intro (by decide) ?_ | refine cs (fun _ => ?_) (fun _ => ?_)) <;> conv => whnf)
    · rename_i h2
      simp only [trows_length] at h2 ⊢
      have := of_decide_eq_true h2
      refine ⟨by omega, fun row hrow => ?_⟩
      obtain ⟨⟨kx, namex, argx, numx, tkx, tksx, ukx, uksx, labelx, placex, ksx⟩, ht, rfl⟩ := trows_get ks i row (by simpa using hrow)
      have hlt : i < ks.length := (List.getElem?_eq_some_iff.1 ht).1
      have hmem := List.mem_of_getElem? ht
      have hc := ih' _ hmem
      have hn := tmhass_take q ks i _ ht
      have hf := tmhass_mem q ks _ hmem
      generalize tmhas q (Tm.node kx namex argx numx tkx tksx ukx uksx labelx placex ksx) = b at hc hn hf
      conv => whnf
      repeat' first | refine AW.seq ?_ | refine AW.block ?_ | ((first | refine AW.region tab_ok ?_ | refine AW.cond ?_ | refine AW.skip ?_ | refine AW.ret ?_ | refine AW.exit ?_); conv => whnf) | (refine (hc).mono ?_; rintro _ _ ⟨rfl, rfl⟩; conv => whnf) | ((first | refine And.intro (@rfl Val _) ?_ | refine And.intro (by decide) ?_ | refine cs (fun _ => ?_) (fun _ => ?_)) <;> conv => whnf)
      · rename_i h3
        exact ⟨outb (hf h3).symm, rfl⟩
      · rename_i h3
        rw [wrap64 (x := (i : Int) + 1) (by omega) (by omega)]
        exact ⟨⟨i + 1, hlt, by rw [hn, hj, h3]; rfl⟩, ⟨⟨rfl, rfl, rfl, trivial⟩, rfl, rfl, ⟨[], rfl⟩, rfl⟩, show ks.length - (i + 1) < ks.length - i by omega⟩
    · rename_i h2
      simp only [trows_length] at h2
      have := of_decide_eq_false h2
      obtain rfl : i = ks.length := by omega
      simp only [List.take_length] at hj
      exact ⟨outb hj.symm, rfl⟩
/-! ### each -/
end Go.Proofs.YthmbncehoblgpaaDoor.E

/- A function of Go's library laid at this translation: its code is the one that the library's contract speaks of. No conditions. -/
namespace Go.Proofs.YthmbncehoblgpaaDoor.E
open Go.Shelf
end Go.Proofs.YthmbncehoblgpaaDoor.E

/- slices.Sort at an own row of strings: the library's contract in the engine's words. No conditions. -/
set_option linter.unusedVariables false
set_option linter.unusedSimpArgs false
namespace Go.Proofs.YthmbncehoblgpaaDoor.E
open Go Go.Sort Go.Shelf

def strs (l : List ByteArray) : List (List DV) := l.map fun s => [.str s]
theorem strs_len (l : List ByteArray) : (strs l).length = l.length := by simp [strs]
end Go.Proofs.YthmbncehoblgpaaDoor.E

/- Texts of types and terms: the words that the program and the document write. No conditions. -/
set_option linter.unusedVariables false
set_option linter.unusedSimpArgs false
namespace Go.Proofs.YthmbncehoblgpaaDoor.E
open Go

/-! ### Types -/
def tyK : Ty → Int
  | .node k _ => k
def tsign (k : Int) : List UInt8 :=
  if k = 0 then [63] else if k = 1 then [105, 110, 116] else if k = 2 then [98, 111, 111, 108] else if k = 3 then [32, 45, 62, 32] else if k = 4 then [32, 42, 32] else [32, 43, 32]
def ttight (k : Int) : Int := if k = 3 then 1 else if k = 4 then 3 else if k = 5 then 2 else 4
/-- In brackets, where it does not bind as tightly as it must. -/
def tbr (least : Int) (k : Int) (s : List UInt8) : List UInt8 := if ttight k < least then 40 :: (s ++ [41]) else s
def tleft (k : Int) : Int := if k = 3 then 2 else ttight k
def tright2 (k : Int) : Int := if k = 3 then 1 else ttight k + 1
def tyJ (k : Int) : List (Int × List UInt8) → List UInt8
  | [p, q] => tbr (tleft k) p.1 p.2 ++ tsign k ++ tbr (tright2 k) q.1 q.2
  | _ => tsign k
mutual
def tyO : Ty → List UInt8
  | .node k ks => tyJ k (tyOL ks)
def tyOL : List Ty → List (Int × List UInt8)
  | [] => []
  | t :: l => (tyK t, tyO t) :: tyOL l
end
def tyW (least : Int) (t : Ty) : List UInt8 := tbr least (tyK t) (tyO t)

/-! ### Terms -/
def bw (l : List UInt8) : ByteArray := ⟨l.toArray⟩
def tmS : Tm → Int
  | .node k name _ num _ _ _ _ _ _ _ =>
    if k = 4 ∨ k = 5 ∨ k = 7 ∨ k = 8 ∨ k = 14 then -1 else if k = 16 then 0 else if k = 10 ∨ k = 11 ∨ k = 12 ∨ k = 13 then 4 else if k = 1 ∧ num < 0 then 4
    else if k = 15 then (if name = bw [60] ∨ name = bw [61] then 1 else if name = bw [43] ∨ name = bw [45] then 2 else 3) else 5
def wbr (least : Int) (p : Int × List ByteArray) : List ByteArray := if p.1 ≥ least then p.2 else [bw [40]] ++ p.2 ++ [bw [41]]
def wat (l : List (Int × List ByteArray)) (i : Nat) (least : Int) : List ByteArray := match l[i]? with
  | some p => wbr least p
  | none => []
def digs (n : Int) : ByteArray := ⟨(Lib.itoa n).toArray⟩
/-- A term's own words. -/
def tmJ (k : Int) (name arg : ByteArray) (num s : Int) (T U : ByteArray) (l : List (Int × List ByteArray)) : List ByteArray :=
  if k = 0 then [name] else if k = 1 then (if num < 0 then [bw [45], digs (-num)] else [digs num]) else if k = 2 then [bw [116, 114, 117, 101]] else if k = 3 then [bw [102, 97, 108, 115, 101]]
  else if k = 4 then [bw [92], name, bw [58]] ++ [T] ++ [bw [46]] ++ wat l 0 (-1)
  else if k = 5 then [bw [114, 101, 99], name, bw [40], arg, bw [58]] ++ [T] ++ [bw [41], bw [58]] ++ [U] ++ [bw [46]] ++ wat l 0 (-1)
  else if k = 6 then wat l 0 5 ++ [bw [40]] ++ wat l 1 (-1) ++ [bw [41]]
  else if k = 7 then [bw [108, 101, 116], name, bw [58]] ++ [T] ++ [bw [61]] ++ wat l 0 (-1) ++ [bw [105, 110]] ++ wat l 1 (-1)
  else if k = 8 then [bw [105, 102]] ++ wat l 0 (-1) ++ [bw [116, 104, 101, 110]] ++ wat l 1 (-1) ++ [bw [101, 108, 115, 101]] ++ wat l 2 (-1)
  else if k = 9 then [bw [91]] ++ wat l 0 (-1) ++ [bw [44]] ++ wat l 1 (-1) ++ [bw [93]]
  else if k = 10 then [bw [102, 115, 116]] ++ wat l 0 4 else if k = 11 then [bw [115, 110, 100]] ++ wat l 0 4
  else if k = 12 then [bw [105, 110, 108]] ++ [bw [123]] ++ [T] ++ [bw [125]] ++ wat l 0 4 else if k = 13 then [bw [105, 110, 114]] ++ [bw [123]] ++ [T] ++ [bw [125]] ++ wat l 0 4
  else if k = 14 then [bw [99, 97, 115, 101]] ++ wat l 0 (-1) ++ [bw [111, 102], name, bw [46]] ++ wat l 1 (-1) ++ [bw [124], arg, bw [46]] ++ wat l 2 (-1)
  else if k = 15 then wat l 0 (if s = 1 then 2 else s) ++ [name] ++ wat l 1 (s + 1)
  else wat l 0 0 ++ [bw [58]] ++ [T]
mutual
def tmW : Tm → List ByteArray
  | .node k name arg num tk tks uk uks label place ks => tmJ k name arg num (tmS (.node k name arg num tk tks uk uks label place ks)) (bw (tyO (.node tk tks))) (bw (tyO (.node uk uks))) (tmWL ks)
def tmWL : List Tm → List (Int × List ByteArray)
  | [] => []
  | t :: l => (tmS t, tmW t) :: tmWL l
end
def tmA (least : Int) (t : Tm) : List ByteArray := wbr least (tmS t, tmW t)
end Go.Proofs.YthmbncehoblgpaaDoor.E

/- Walks: types.tight, sign, write, Text. No conditions. -/
set_option linter.unusedVariables false
set_option linter.unusedSimpArgs false
namespace Go.Proofs.YthmbncehoblgpaaDoor.E
open Go

theorem tkinds {k : Int} {n : Nat} (h : parts k = n) : k = 0 ∨ k = 1 ∨ k = 2 ∨ k = 3 ∨ k = 4 ∨ k = 5 := by
  unfold parts at h
  split at h
  · omega
  · split at h
    · omega
    · omega
set_option maxRecDepth 10000 in
theorem tight_call (k : Int) (hk : k = 0 ∨ k = 1 ∨ k = 2 ∨ k = 3 ∨ k = 4 ∨ k = 5) : ACall Tryd.prog 134 [.c (.d (.int .i8 k))] [] (fun o σ => o = .ret (.c (.d (.int .i64 (ttight k)))) ∧ σ = []) := by
  rcases hk with rfl | rfl | rfl | rfl | rfl | rfl
  all_goals
    refine ACall.body tab_ok (ρ := 0) (N := 8) Tryd.func134 rfl rfl rfl rfl rfl ?_
    repeat' first | ((refine ⟨by decide, ?_⟩; conv => whnf)) | refine AW.seq ?_ | refine AW.block ?_ | ((first | refine AW.region tab_ok ?_ | refine AW.cond ?_ | refine AW.skip ?_ | refine AW.ret ?_ | refine AW.exit ?_); conv => whnf) | ((first | refine And.intro (@rfl Val _) ?_ | refine And.intro (by decide) ?_ | refine cs (fun _ => ?_) (fun _ => ?_)) <;> conv => whnf)
    exact ⟨rfl, rfl⟩
set_option maxRecDepth 10000 in
theorem sign_call (k : Int) (hk : k = 0 ∨ k = 1 ∨ k = 2 ∨ k = 3 ∨ k = 4 ∨ k = 5) : ACall Tryd.prog 135 [.c (.d (.int .i8 k))] [] (fun o σ => o = .ret (.c (.d (.str (bw (tsign k))))) ∧ σ = []) := by
  rcases hk with rfl | rfl | rfl | rfl | rfl | rfl
  all_goals
    refine ACall.body tab_ok (ρ := 0) (N := 8) Tryd.func135 rfl rfl rfl rfl rfl ?_
    repeat' first | ((refine ⟨by decide, ?_⟩; conv => whnf)) | refine AW.seq ?_ | refine AW.block ?_ | ((first | refine AW.region tab_ok ?_ | refine AW.cond ?_ | refine AW.skip ?_ | refine AW.ret ?_ | refine AW.exit ?_); conv => whnf) | ((first | refine And.intro (@rfl Val _) ?_ | refine And.intro (by decide) ?_ | refine cs (fun _ => ?_) (fun _ => ?_)) <;> conv => whnf)
    exact ⟨rfl, rfl⟩
theorem tsign_len (k : Int) : 0 < (tsign k).length ∧ (tsign k).length ≤ 4 := by
  unfold tsign
  repeat' split
  all_goals decide
theorem u8e (b : List (List DV)) (c s : List UInt8) (h : b = u8rows c) : b ++ u8rows (bw s).data.toList = u8rows (c ++ s) := by rw [h, u8rows_app]; rfl
theorem u8one (b : List (List DV)) (c : List UInt8) (x : UInt8) (n : Int) (hn : n = x.toNat) (h : b = u8rows c) : b ++ [[.int .u8 n]] = u8rows (c ++ [x]) := by rw [h, u8rows_app, hn]; rfl
theorem len2 {α : Type} {l : List α} (h : l.length = 2) : ∃ x y, l = [x, y] := by
  match l, h with
  | [x, y], _ => exact ⟨x, y, rfl⟩
def WriteR (a : Ty) (least : Int) (out : List UInt8) : Prop := ∀ (b : List UInt8) (n : Nat) (rows : List (List DV)), rows = u8rows b → n = rows.length → b.length + out.length ≤ 1000000000 →
  ACall Tryd.prog 119 [.c (.own 0 n), a.val, .c (.d (.int .i64 least))] [.row 5 1 rows]
    (fun o σ => o = .ret (.c (.own 0 (u8rows (b ++ out)).length)) ∧ σ = [.row 5 1 (u8rows (b ++ out))])
theorem wfin {a b : List (List DV)} {n t : Nat} (h : a = b) (hn : n = a.length) : Out.ret (.c (.own 0 n)) = Out.ret (.c (.own 0 b.length)) ∧ [AObj.row t 1 a] = [AObj.row t 1 b] := by subst h; subst hn; exact ⟨rfl, rfl⟩
theorem bw_size (s : List UInt8) : (bw s).size = s.length := rfl
set_option maxRecDepth 10000 in
set_option maxHeartbeats 2000000 in
theorem write_call (a : Ty) : tright a = true → ∀ least, WriteR a least (tyW least a) := by
  induction a using Ty.ind with
  | _ k ks ih =>
  intro hr
  have hpl := tright_len hr
  have hk := tkinds hpl
  have c1 := tight_call k hk
  have c2 := sign_call k hk
  have hsl := tsign_len k
  have hO : ∀ least, ¬ ttight k < least → WriteR (.node k ks) least (tyO (.node k ks)) := by
    intro least hl b n rows hrows hn hb
    have hlt : decide (ttight k < least) = false := by simp [hl]
    have hn' : n = b.length := by rw [hn, hrows, u8rows_len]
    subst hrows
    have leaf : ks = [] → tyO (.node k ks) = tsign k := fun e => by subst e; rfl
    by_cases h3 : k < 3
    · have hks : ks = [] := List.eq_nil_of_length_eq_zero (by rcases hk with rfl | rfl | rfl | rfl | rfl | rfl <;> simp [parts] at hpl h3 <;> omega)
      subst hks
      rw [leaf rfl] at hb ⊢
      rcases hk with rfl | rfl | rfl | rfl | rfl | rfl
      all_goals first
        | exact absurd h3 (by decide)
        | skip
          refine ACall.body tab_ok (ρ := 0) (N := 60) Tryd.func119 rfl rfl rfl rfl rfl ?_
          repeat' first | ((rw [hlt]; conv => whnf)) | ((refine ⟨⟨hn, hsl.1, by simp only [bnd, u8rows_len, bw_size]; omega⟩, ?_⟩; conv => whnf)) | refine AW.seq ?_ | refine AW.block ?_ | (refine (_root_.id : AW _ _ _ (.region 3 _ true) _ _ → _) ?_; refine AW.draw (id := 3) tab_ok mixed [0, 1, 3, 5, 2, 4, 6, 7] (by kernel_rfl) ?_; conv => whnf) | ((first | refine AW.region tab_ok ?_ | refine AW.cond ?_ | refine AW.skip ?_ | refine AW.ret ?_ | refine AW.exit ?_); conv => whnf) | ((first | refine (c1).mono ?_ | refine (c2).mono ?_); rintro _ _ ⟨rfl, rfl⟩; conv => whnf) | ((first | refine And.intro (@rfl Val _) ?_ | refine And.intro (by decide) ?_ | refine cs (fun _ => ?_) (fun _ => ?_)) <;> conv => whnf)
          exact wfin (u8e _ b _ rfl) (by rw [List.length_append]; rfl)
    · obtain ⟨x, y, rfl⟩ : ∃ x y, ks = [x, y] := len2 (by rcases hk with rfl | rfl | rfl | rfl | rfl | rfl <;> simp [parts] at hpl h3 <;> omega)
      have hO : tyO (.node k [x, y]) = tyW (tleft k) x ++ tsign k ++ tyW (tright2 k) y := rfl
      rw [hO] at hb ⊢
      simp only [List.length_append] at hb
      have hx : tright x = true := tright_kid hr (by simp)
      have hy : tright y = true := tright_kid hr (by simp)
      have cx := ih x (by simp) hx (tleft k) b n _ rfl hn (by omega)
      have cy := ih y (by simp) hy (tright2 k) (b ++ tyW (tleft k) x ++ tsign k)
      generalize tyW (tleft k) x = sx at hb cx cy ⊢
      generalize tyW (tright2 k) y = sy at hb cy ⊢
      clear hO
      obtain ⟨kx, lx⟩ := x
      obtain ⟨ky, ly⟩ := y
      rcases hk with rfl | rfl | rfl | rfl | rfl | rfl
      all_goals first
        | exact absurd (by decide) h3
        | skip
          refine ACall.body tab_ok (ρ := 0) (N := 60) Tryd.func119 rfl rfl rfl rfl rfl ?_
          repeat' first | ((rw [hlt]; conv => whnf)) | ((refine ⟨⟨rfl, hsl.1, by simp only [bnd, u8rows_len, bw_size, List.length_append]; omega⟩, ?_⟩; conv => whnf)) | ((refine And.intro (⟨by decide, by first | decide | (simp [Ty.rows]; done) | (simp [Ty.rows]; decide)⟩ : _ ∧ _) ?_; conv => whnf)) | ((intro row hrow; obtain rfl := Option.some.inj hrow; conv => whnf)) | refine AW.seq ?_ | refine AW.block ?_ | (refine (_root_.id : AW _ _ _ (.region 3 _ true) _ _ → _) ?_; refine AW.draw (id := 3) tab_ok mixed [0, 1, 3, 5, 2, 4, 6, 7] (by kernel_rfl) ?_; conv => whnf) | ((first | refine AW.region tab_ok ?_ | refine AW.cond ?_ | refine AW.skip ?_ | refine AW.ret ?_ | refine AW.exit ?_); conv => whnf) | ((first | refine (c1).mono ?_ | refine (c2).mono ?_ | refine (cx).mono ?_ | refine (cy _ _ (u8e _ _ _ rfl) (by rw [List.length_append]; rfl) (by simp only [List.length_append]; omega)).mono ?_); rintro _ _ ⟨rfl, rfl⟩; conv => whnf) | ((first | refine And.intro (@rfl Val _) ?_ | refine And.intro (by decide) ?_ | refine cs (fun _ => ?_) (fun _ => ?_)) <;> conv => whnf)
          exact wfin (congrArg u8rows (by simp only [List.append_assoc])) rfl
  intro least b n rows hrows hn hb
  by_cases hl : ttight k < least
  · have hlt : decide (ttight k < least) = true := by simp [hl]
    have hn' : n = b.length := by rw [hn, hrows, u8rows_len]
    have hO' : tyW least (.node k ks) = 40 :: (tyO (.node k ks) ++ [41]) := by simp [tyW, tbr, tyK, hl]
    subst hrows
    rw [hO'] at hb ⊢
    simp only [List.length_append, List.length_cons, List.length_nil] at hb
    have ht0 : ¬ ttight k < 0 := by rcases hk with rfl | rfl | rfl | rfl | rfl | rfl <;> decide
    have c3 := hO 0 ht0 (b ++ [40])
    refine ACall.body tab_ok (ρ := 0) (N := 60) Tryd.func119 rfl rfl rfl rfl rfl ?_
    repeat' first | ((rw [hlt]; conv => whnf)) | ((refine ⟨⟨by first | exact hn | rfl, by simp only [bnd, u8rows_len, List.length_append, List.length_cons, List.length_nil]; omega⟩, ?_⟩; conv => whnf)) | refine AW.seq ?_ | refine AW.block ?_ | (refine (_root_.id : AW _ _ _ (.region 3 _ true) _ _ → _) ?_; refine AW.draw (id := 3) tab_ok mixed [0, 1, 3, 5, 2, 4, 6, 7] (by kernel_rfl) ?_; conv => whnf) | ((first | refine AW.region tab_ok ?_ | refine AW.cond ?_ | refine AW.skip ?_ | refine AW.ret ?_ | refine AW.exit ?_); conv => whnf) | ((first | refine (c1).mono ?_ | refine (c3 _ _ (u8one _ _ _ _ rfl rfl) (by rw [List.length_append]; rfl) (by simp only [List.length_append, List.length_cons, List.length_nil]; omega)).mono ?_); rintro _ _ ⟨rfl, rfl⟩; conv => whnf) | ((first | refine And.intro (@rfl Val _) ?_ | refine And.intro (by decide) ?_ | refine cs (fun _ => ?_) (fun _ => ?_)) <;> conv => whnf)
    refine wfin ?_ ?_
    · refine Eq.trans (u8one _ (b ++ [40] ++ tyO (.node k ks)) 41 41 rfl rfl) ?_
      exact congrArg u8rows (by simp only [List.append_assoc, List.cons_append, List.nil_append])
    · first | rfl | (rw [List.length_append]; done) | (rw [List.length_append]; rfl)
  · have hO' : tyW least (.node k ks) = tyO (.node k ks) := by simp [tyW, tbr, tyK, hl]
    rw [hO'] at hb ⊢
    exact hO least hl b n rows hrows hn hb
end Go.Proofs.YthmbncehoblgpaaDoor.E
