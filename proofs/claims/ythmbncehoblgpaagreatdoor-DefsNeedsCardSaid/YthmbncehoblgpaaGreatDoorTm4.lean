/- Walks: ref Nodes, deep, Depth of terms. No conditions. -/
import Derived.Test.YthmbncehoblgpaaGreatDoorTm3
set_option linter.unusedVariables false
set_option linter.unusedSimpArgs false
namespace Go.Proofs.YthmbncehoblgpaaGreatDoor.E
open Go

set_option maxRecDepth 10000 in
theorem rtnodes_call (t : Tm) : ACall Tryz.prog 43 [t.val] [] (fun o σ => o = .ret (.c (.d (.int .i64 (min (tmN t) 8193 : Nat)))) ∧ σ = []) := by
  have cc := rtcount_call t 0 (by omega)
  generalize tmN t = nn at *
  obtain ⟨k, name, arg, num, tk, tks, uk, uks, label, place, ks⟩ := t
  refine ACall.body tab_ok (ρ := 0) (N := 6) Tryz.func43 rfl rfl rfl rfl rfl ?_
  repeat' first | refine AW.seq ?_ | refine AW.block ?_ | ((first | refine AW.region tab_ok ?_ | refine AW.cond ?_ | refine AW.skip ?_ | refine AW.ret ?_ | refine AW.exit ?_); conv => whnf) | ((first | refine And.intro (@rfl Val _) ?_ | refine And.intro (by decide) ?_ | refine cs (fun _ => ?_) (fun _ => ?_)) <;> conv => whnf)
  refine cc.mono ?_
  rintro _ _ ⟨r, hr, rfl, rfl⟩
  conv => whnf
  repeat' first | refine AW.seq ?_ | refine AW.block ?_ | ((first | refine AW.region tab_ok ?_ | refine AW.cond ?_ | refine AW.skip ?_ | refine AW.ret ?_ | refine AW.exit ?_); conv => whnf) | ((first | refine And.intro (@rfl Val _) ?_ | refine And.intro (by decide) ?_ | refine cs (fun _ => ?_) (fun _ => ?_)) <;> conv => whnf)
  refine ⟨?_, rfl⟩
  unfold sizeR at hr
  simp only [oneOf]
  rw [show min (r : Int) 8193 = (min nn 8193 : Nat) by omega]
noncomputable def rest78 : Code := match Tryz.f72.body with
  | some (.seq _ (.seq _ (.seq _ (.seq _ (.seq _ c))))) => c
  | _ => .skip
set_option maxRecDepth 10000 in
theorem rdeep_rest (k : Int) (name arg : ByteArray) (num tk : Int) (tks : List Ty) (uk : Int) (uks : List Ty) (label place : Int) (ks : List Tm) (most d0 : Nat) (hd : d0 ≤ 201) (h1 : 1 < most) (hm : most ≤ 201) (hlen : ks.length ≤ 8192)
    (ih : ∀ t ∈ ks, ∀ most : Nat, most ≤ 201 → ACall Tryz.prog 72 [t.val, .c (.d (.int .i64 most))] [] (fun o σ => o = .ret (.c (.d (.int .i64 (tmD t most)))) ∧ σ = [])) :
    AW Tryz.prog tab 0 rest78 ⟨47, [(1, .c (.d (.int .i64 most))), (2, .c (.ptr 0 0)), (5, .c (.d (.int .i64 d0)))], [.var [.d (.int .i8 k), .d (.str name), .d (.str arg), .d (.int .i64 num), .d (.int .i8 tk), .d (.sl 0 2 (Ty.rows tks)), .d (.int .i8 uk), .d (.sl 0 2 (Ty.rows uks)), .d (.int .i64 label), .d (.int .i64 place), .d (.sl 0 11 (Tm.rows ks))]], []⟩
      (afin tab 0 72 [.tmp 4] 0 (fun o σ => o = .ret (.c (.d (.int .i64 (min (max d0 (tmDL ks (most - 1)) + 1) most : Nat)))) ∧ σ = [])) := by
  repeat' first | refine AW.seq ?_ | refine AW.block ?_ | ((first | refine AW.region tab_ok ?_ | refine AW.cond ?_ | refine AW.skip ?_ | refine AW.ret ?_ | refine AW.exit ?_); conv => whnf) | ((first | refine And.intro (@rfl Val _) ?_ | refine And.intro (by decide) ?_ | refine cs (fun _ => ?_) (fun _ => ?_)) <;> conv => whnf)
  refine AW.loop (ι := UpToT ks) (fun x => ⟨47, [(6, .c (.d (.int .i64 x.i))), (1, .c (.d (.int .i64 most))), (2, .c (.ptr 0 0)), (5, .c (.d (.int .i64 (max d0 (tmDL (ks.take x.i) (most - 1)) : Nat))))],
      [.var [.d (.int .i8 k), .d (.str name), .d (.str arg), .d (.int .i64 num), .d (.int .i8 tk), .d (.sl 0 2 (Ty.rows tks)), .d (.int .i8 uk), .d (.sl 0 2 (Ty.rows uks)), .d (.int .i64 label), .d (.int .i64 place), .d (.sl 0 11 (Tm.rows ks))]], []⟩)
    (fun x => ks.length - x.i) ⟨0, Nat.zero_le _⟩ 1 (fun _ => rfl) (Nat.le_of_ble_eq_true rfl) ⟨⟨rfl, rfl, rfl, ?_, trivial⟩, rfl, rfl, ⟨[], rfl⟩, rfl⟩ (fun x => ?_)
  · show Val.c (.d (.int .i64 _)) = Val.c (.d (.int .i64 _))
    simp [tmDL]
  obtain ⟨i, hi⟩ := x
  repeat' first | refine AW.seq ?_ | refine AW.block ?_ | ((first | refine AW.region tab_ok ?_ | refine AW.cond ?_ | refine AW.skip ?_ | refine AW.ret ?_ | refine AW.exit ?_); conv => whnf) | ((first | refine And.intro (@rfl Val _) ?_ | refine And.intro (by decide) ?_ | refine cs (fun _ => ?_) (fun _ => ?_)) <;> conv => whnf)
  · rename_i h2
    simp only [trows_length] at h2 ⊢
    have := of_decide_eq_true h2
    refine ⟨by omega, fun row hrow => ?_⟩
    obtain ⟨t, ht, rfl⟩ := trows_get ks i row (by simpa using hrow)
    have hlt : i < ks.length := (List.getElem?_eq_some_iff.1 ht).1
    have hmem := List.mem_of_getElem? ht
    have hc := ih t hmem (most - 1) (by omega)
    have hn := tmDL_take (most - 1) ks i _ ht
    generalize tmD t (most - 1) = dd at hc hn
    obtain ⟨k', name', arg', num', tk', tks', uk', uks', label', place', ks'⟩ := t
    conv => whnf
    repeat' first | refine AW.seq ?_ | refine AW.block ?_ | ((first | refine AW.region tab_ok ?_ | refine AW.cond ?_ | refine AW.skip ?_ | refine AW.ret ?_ | refine AW.exit ?_); conv => whnf) | ((first | refine And.intro (@rfl Val _) ?_ | refine And.intro (by decide) ?_ | refine cs (fun _ => ?_) (fun _ => ?_)) <;> conv => whnf)
    rw [wrap64 (by omega) (by omega), show (most : Int) - 1 = ((most - 1 : Nat) : Int) by omega]
    refine hc.mono ?_
    rintro _ _ ⟨rfl, rfl⟩
    conv => whnf
    repeat' first | refine AW.seq ?_ | refine AW.block ?_ | ((first | refine AW.region tab_ok ?_ | refine AW.cond ?_ | refine AW.skip ?_ | refine AW.ret ?_ | refine AW.exit ?_); conv => whnf) | ((first | refine And.intro (@rfl Val _) ?_ | refine And.intro (by decide) ?_ | refine cs (fun _ => ?_) (fun _ => ?_)) <;> conv => whnf)
    rw [wrap64 (x := (i : Int) + 1) (by omega) (by omega), show max ((max d0 (tmDL (List.take i ks) (most - 1)) : Nat) : Int) (dd : Int) = (max d0 (tmDL (List.take (i + 1) ks) (most - 1)) : Nat) by rw [hn]; omega]
    exact ⟨⟨i + 1, hlt⟩, ⟨⟨rfl, rfl, rfl, rfl, trivial⟩, rfl, rfl, ⟨[], rfl⟩, rfl⟩, show ks.length - (i + 1) < ks.length - i by omega⟩
  · rename_i h2
    simp only [trows_length] at h2
    have := of_decide_eq_false h2
    obtain rfl : i = ks.length := by omega
    simp only [List.take_length]
    refine ⟨?_, rfl⟩
    have hle : tmDL ks (most - 1) ≤ most - 1 := tmDL_le ks (most - 1)
    simp only [oneOf]
    rw [wrap64 (by omega) (by omega)]
    rw [show min (1 + ((max d0 (tmDL ks (most - 1)) : Nat) : Int)) (most : Int) = (min (max d0 (tmDL ks (most - 1)) + 1) most : Nat) by omega]
set_option maxRecDepth 10000 in
theorem rtdeep_call (t : Tm) : tmN t ≤ 8192 → ∀ most : Nat, most ≤ 201 → ACall Tryz.prog 72 [t.val, .c (.d (.int .i64 most))] [] (fun o σ => o = .ret (.c (.d (.int .i64 (tmD t most)))) ∧ σ = []) := by
  induction t using Tm.ind with
  | _ k name arg num tk tks uk uks label place ks ih =>
  intro hN most hm
  have hlen := tmNL_len ks
  simp only [tmN] at hN
  have ih' : ∀ t ∈ ks, ∀ most : Nat, most ≤ 201 → ACall Tryz.prog 72 [t.val, .c (.d (.int .i64 most))] [] (fun o σ => o = .ret (.c (.d (.int .i64 (tmD t most)))) ∧ σ = []) := fun t ht => ih t ht (by have := tmN_mem ks t ht; omega)
  refine ACall.body tab_ok (ρ := 0) (N := 47) Tryz.func72 rfl rfl rfl rfl rfl ?_
  refine AW.seq ?_
  refine AW.region tab_ok ?_; conv => whnf
  refine AW.seq ?_
  refine AW.seq ?_
  refine AW.region tab_ok ?_; conv => whnf
  refine AW.cond ?_; conv => whnf
  refine cs (fun h2 => ?_) (fun h2 => ?_) <;> conv => whnf
  · skip
    repeat' first | refine AW.seq ?_ | refine AW.block ?_ | ((first | refine AW.region tab_ok ?_ | refine AW.cond ?_ | refine AW.skip ?_ | refine AW.ret ?_ | refine AW.exit ?_); conv => whnf) | ((first | refine And.intro (@rfl Val _) ?_ | refine And.intro (by decide) ?_ | refine cs (fun _ => ?_) (fun _ => ?_)) <;> conv => whnf)
    have : most ≤ 1 := by have := of_decide_eq_true h2; omega
    refine ⟨?_, rfl⟩
    simp only [oneOf, tmD]
    rw [if_pos this]
  · have hgt : 1 < most := by have := of_decide_eq_false h2; omega
    refine AW.skip ?_; conv => whnf
    refine AW.seq ?_
    refine AW.region tab_ok ?_; conv => whnf
    have fin : ∀ (d0 : Nat), d0 ≤ 201 → d0 = max (if typeK k = true then tdepth (.node tk tks) else 0) (if toK k = true then tdepth (.node uk uks) else 0) → ∀ env, get env 1 = .c (.d (.int .i64 most)) → get env 2 = .c (.ptr 0 0) → get env 5 = .c (.d (.int .i64 d0)) →
        AW Tryz.prog tab 0 rest78 ⟨47, env, [.var [.d (.int .i8 k), .d (.str name), .d (.str arg), .d (.int .i64 num), .d (.int .i8 tk), .d (.sl 0 2 (Ty.rows tks)), .d (.int .i8 uk), .d (.sl 0 2 (Ty.rows uks)), .d (.int .i64 label), .d (.int .i64 place), .d (.sl 0 11 (Tm.rows ks))]], []⟩ (afin tab 0 72 Tryz.f72.results.toList ([] : List AObj).length (fun o σ => o = .ret (.c (.d (.int .i64 (tmD (.node k name arg num tk tks uk uks label place ks) most)))) ∧ σ = [])) := fun d0 hd he env g1 g2 g5 => by
      have ed : tmD (.node k name arg num tk tks uk uks label place ks) most = min (max d0 (tmDL ks (most - 1)) + 1) most := by
        simp only [tmD]
        rw [if_neg (by omega), ← he]
      rw [ed]
      refine AW.fits ?_ ?_ (rdeep_rest k name arg num tk tks uk uks label place ks most d0 hd hgt hm (by omega) ih')
      · exact ⟨⟨g1, g2, g5, trivial⟩, rfl, rfl, ⟨[], rfl⟩, rfl⟩
      · rfl
    refine AW.seq ?_
    refine AW.seq ?_
    refine AW.region tab_ok ?_; conv => whnf
    refine (rhasType_call k).mono ?_
    rintro _ _ ⟨rfl, rfl⟩
    conv => whnf
    refine AW.cond ?_; conv => whnf
    refine cs (fun h3 => ?_) (fun h3 => ?_) <;> conv => whnf
    · refine AW.region tab_ok ?_; conv => whnf
      refine (rdepth_call (.node tk tks)).mono ?_
      rintro _ _ ⟨rfl, rfl⟩
      conv => whnf
      have e0 : max (0 : Int) (tdepth (.node tk tks) : Int) = ((tdepth (.node tk tks) : Nat) : Int) := by omega
      rw [e0]
      refine AW.seq ?_
      refine AW.seq ?_
      refine AW.region tab_ok ?_; conv => whnf
      refine (rhasTo_call k).mono ?_
      rintro _ _ ⟨rfl, rfl⟩
      conv => whnf
      refine AW.cond ?_; conv => whnf
      refine cs (fun h4 => ?_) (fun h4 => ?_) <;> conv => whnf
      · refine AW.region tab_ok ?_; conv => whnf
        refine (rdepth_call (.node uk uks)).mono ?_
        rintro _ _ ⟨rfl, rfl⟩
        conv => whnf
        have e5 : max ((tdepth (.node tk tks) : Int)) (tdepth (.node uk uks) : Int) = ((max (tdepth (.node tk tks)) (tdepth (.node uk uks)) : Nat) : Int) := by omega
        rw [e5]
        exact fin _ (by have := tdepth_le (.node tk tks); have := tdepth_le (.node uk uks); omega) (by simp [h3, h4]) _ rfl rfl rfl
      · refine AW.skip ?_; conv => whnf
        skip
        exact fin (tdepth (.node tk tks)) (by have := tdepth_le (.node tk tks); omega) (by simp [h3, h4]) _ rfl rfl rfl
    · refine AW.skip ?_; conv => whnf
      refine AW.seq ?_
      refine AW.seq ?_
      refine AW.region tab_ok ?_; conv => whnf
      refine (rhasTo_call k).mono ?_
      rintro _ _ ⟨rfl, rfl⟩
      conv => whnf
      refine AW.cond ?_; conv => whnf
      refine cs (fun h4 => ?_) (fun h4 => ?_) <;> conv => whnf
      · refine AW.region tab_ok ?_; conv => whnf
        refine (rdepth_call (.node uk uks)).mono ?_
        rintro _ _ ⟨rfl, rfl⟩
        conv => whnf
        have e5 : max (0 : Int) (tdepth (.node uk uks) : Int) = ((max 0 (tdepth (.node uk uks)) : Nat) : Int) := by omega
        rw [e5]
        exact fin _ (by have := tdepth_le (.node tk tks); have := tdepth_le (.node uk uks); omega) (by simp [h3, h4]) _ rfl rfl rfl
      · refine AW.skip ?_; conv => whnf
        skip
        exact fin 0 (by have := tdepth_le (.node tk tks); omega) (by simp [h3, h4]) _ rfl rfl rfl
set_option maxRecDepth 10000 in
theorem rtDepth_call (t : Tm) : ACall Tryz.prog 44 [t.val] [] (fun o σ => o = .ret (.c (.d (.int .i64 (tmDepth t)))) ∧ σ = []) := by
  have c1 := rtnodes_call t
  have c2 := rtdeep_call t
  have e : tmDepth t = if tmN t > 8192 then 201 else tmD t 201 := rfl
  rw [e]
  generalize tmN t = nn at *
  generalize hd : tmD t 201 = dd
  have c3 : nn ≤ 8192 → ACall Tryz.prog 72 [t.val, .c (.d (.int .i64 201))] [] (fun o σ => o = .ret (.c (.d (.int .i64 dd))) ∧ σ = []) := fun h => by
    rw [← hd]; exact c2 h 201 (by omega)
  obtain ⟨k, name, arg, num, tk, tks, uk, uks, label, place, ks⟩ := t
  refine ACall.body tab_ok (ρ := 0) (N := 8) Tryz.func44 rfl rfl rfl rfl rfl ?_
  repeat' first | refine AW.seq ?_ | refine AW.block ?_ | ((first | refine AW.region tab_ok ?_ | refine AW.cond ?_ | refine AW.skip ?_ | refine AW.ret ?_ | refine AW.exit ?_); conv => whnf) | (refine (c1).mono ?_; rintro _ _ ⟨rfl, rfl⟩; conv => whnf) | ((first | refine And.intro (@rfl Val _) ?_ | refine And.intro (by decide) ?_ | refine cs (fun _ => ?_) (fun _ => ?_)) <;> conv => whnf)
  · rename_i h
    have := of_decide_eq_true h
    refine ⟨?_, rfl⟩
    simp only [oneOf]
    rw [if_pos (by omega)]
    rfl
  · rename_i h
    have := of_decide_eq_false h
    refine (c3 (by omega)).mono ?_
    rintro _ _ ⟨rfl, rfl⟩
    conv => whnf
    repeat' first | refine AW.seq ?_ | refine AW.block ?_ | ((first | refine AW.region tab_ok ?_ | refine AW.cond ?_ | refine AW.skip ?_ | refine AW.ret ?_ | refine AW.exit ?_); conv => whnf) | ((first | refine And.intro (@rfl Val _) ?_ | refine And.intro (by decide) ?_ | refine cs (fun _ => ?_) (fun _ => ?_)) <;> conv => whnf)
    refine ⟨?_, rfl⟩
    simp only [oneOf]
    rw [if_neg (by omega)]
end Go.Proofs.YthmbncehoblgpaaGreatDoor.E
