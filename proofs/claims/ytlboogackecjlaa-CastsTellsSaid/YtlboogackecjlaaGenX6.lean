/- Texts, merged: Tm4, Tm5, Tm6, Tm7, Tm8, Tm9, Tm10, Ty8, Ty9, Tm12, Tm11. No conditions. -/
import Derived.Test.YtlboogackecjlaaGenX5
import Derived.Test.YtlboogackecjlaaGenX3
import Derived.Test.YtlboogackecjlaaEngX3
/- Walks: ref Nodes, deep, Depth of terms. No conditions. -/
set_option linter.unusedVariables false
set_option linter.unusedSimpArgs false
namespace Go.Proofs.Ytlboogackecjlaa.E
open Go

set_option maxRecDepth 10000 in
theorem rtnodes_call (t : Tm) : ACall Try.prog 69 [t.val] [] (fun o σ => o = .ret (.c (.d (.int .i64 (min (tmN t) 8193 : Nat)))) ∧ σ = []) := by
  have cc := rtcount_call t 0 (by omega)
  generalize tmN t = nn at *
  obtain ⟨k, name, arg, num, tk, tks, uk, uks, label, place, ks⟩ := t
  refine ACall.body tab_ok (ρ := 0) (N := 6) Try.func69 rfl rfl rfl rfl rfl ?_
  repeat' first | refine AW.seq ?_ | refine AW.block ?_ | ((first | refine AW.region tab_ok ?_ | refine AW.cond ?_ | refine AW.skip ?_ | refine AW.ret ?_ | refine AW.exit ?_); conv => whnf) | ((first | refine And.intro (@rfl Val _) ?_ | refine And.intro (by decide) ?_ | refine cs (fun _ => ?_) (fun _ => ?_)) <;> conv => whnf)
  refine cc.mono ?_
  rintro _ _ ⟨r, hr, rfl, rfl⟩
  conv => whnf
  repeat' first | refine AW.seq ?_ | refine AW.block ?_ | ((first | refine AW.region tab_ok ?_ | refine AW.cond ?_ | refine AW.skip ?_ | refine AW.ret ?_ | refine AW.exit ?_); conv => whnf) | ((first | refine And.intro (@rfl Val _) ?_ | refine And.intro (by decide) ?_ | refine cs (fun _ => ?_) (fun _ => ?_)) <;> conv => whnf)
  refine ⟨?_, rfl⟩
  unfold sizeR at hr
  simp only [oneOf]
  rw [show min (r : Int) 8193 = (min nn 8193 : Nat) by omega]
noncomputable def rest78 : Code := match Try.f93.body with
  | some (.seq _ (.seq _ (.seq _ (.seq _ (.seq _ c))))) => c
  | _ => .skip
set_option maxRecDepth 10000 in
theorem rdeep_rest (k : Int) (name arg : ByteArray) (num tk : Int) (tks : List Ty) (uk : Int) (uks : List Ty) (label place : Int) (ks : List Tm) (most d0 : Nat) (hd : d0 ≤ 201) (h1 : 1 < most) (hm : most ≤ 201) (hlen : ks.length ≤ 8192)
    (ih : ∀ t ∈ ks, ∀ most : Nat, most ≤ 201 → ACall Try.prog 93 [t.val, .c (.d (.int .i64 most))] [] (fun o σ => o = .ret (.c (.d (.int .i64 (tmD t most)))) ∧ σ = [])) :
    AW Try.prog tab 0 rest78 ⟨47, [(1, .c (.d (.int .i64 most))), (2, .c (.ptr 0 0)), (5, .c (.d (.int .i64 d0)))], [.var [.d (.int .i8 k), .d (.str name), .d (.str arg), .d (.int .i64 num), .d (.int .i8 tk), .d (.sl 0 2 (Ty.rows tks)), .d (.int .i8 uk), .d (.sl 0 2 (Ty.rows uks)), .d (.int .i64 label), .d (.int .i64 place), .d (.sl 0 11 (Tm.rows ks))]], []⟩
      (afin tab 0 93 [.tmp 4] 0 (fun o σ => o = .ret (.c (.d (.int .i64 (min (max d0 (tmDL ks (most - 1)) + 1) most : Nat)))) ∧ σ = [])) := by
  repeat' first | refine AW.seq ?_ | refine AW.block ?_ | ((first | refine AW.region tab_ok ?_ | refine AW.cond ?_ | refine AW.skip ?_ | refine AW.ret ?_ | refine AW.exit ?_); conv => whnf) | ((first | refine And.intro (@rfl Val _) ?_ | refine And.intro (by decide) ?_ | refine cs (fun _ => ?_) (fun _ => ?_)) <;> conv => whnf)
  refine AW.loop (ι := UpToT ks) (fun x => ⟨47, [(6, .c (.d (.int .i64 x.i))), (1, .c (.d (.int .i64 most))), (2, .c (.ptr 0 0)), (5, .c (.d (.int .i64 (max d0 (tmDL (ks.take x.i) (most - 1)) : Nat))))],
      [.var [.d (.int .i8 k), .d (.str name), .d (.str arg), .d (.int .i64 num), .d (.int .i8 tk), .d (.sl 0 2 (Ty.rows tks)), .d (.int .i8 uk), .d (.sl 0 2 (Ty.rows uks)), .d (.int .i64 label), .d (.int .i64 place), .d (.sl 0 11 (Tm.rows ks))]], []⟩)
    (fun x => ks.length - x.i) ⟨0, Nat.zero_le _⟩ 1 (fun _ => rfl) (Nat.le_of_ble_eq_true rfl) ⟨⟨rfl, rfl, rfl, ?_, trivial⟩, rfl, rfl, ⟨[], rfl⟩, rfl⟩ (fun x => ?_)
  · show Val.c (.d (.int .i64 _)) = Val.c (.d (.int .i64 _))
    simp [tmDL]
  obtain ⟨i, hi⟩ := x
  repeat' first | refine AW.seq ?_ | refine AW.block ?_ | ((first | refine AW.region tab_ok ?_ | refine AW.cond ?_ | refine AW.skip ?_ | refine AW.ret ?_ | refine AW.exit ?_); conv => whnf) | ((first | refine And.intro (@rfl Val _) ?_ | refine And.intro (by decide) ?_ | refine cs (fun _ => ?_) (fun _ => ?_)) <;> conv => whnf)
  · rename_i h2
    simp only [trows_length] at h2 ⊢
    have := of_decide_eq_true h2
    refine ⟨by omega, fun row hrow => ?_⟩
    obtain ⟨t, ht, rfl⟩ := trows_get ks i row (by simpa using hrow)
    have hlt : i < ks.length := (List.getElem?_eq_some_iff.1 ht).1
    have hmem := List.mem_of_getElem? ht
    have hc := ih t hmem (most - 1) (by omega)
    have hn := tmDL_take (most - 1) ks i _ ht
    generalize tmD t (most - 1) = dd at hc hn
    obtain ⟨k', name', arg', num', tk', tks', uk', uks', label', place', ks'⟩ := t
    conv => whnf
    repeat' first | refine AW.seq ?_ | refine AW.block ?_ | ((first | refine AW.region tab_ok ?_ | refine AW.cond ?_ | refine AW.skip ?_ | refine AW.ret ?_ | refine AW.exit ?_); conv => whnf) | ((first | refine And.intro (@rfl Val _) ?_ | refine And.intro (by decide) ?_ | refine cs (fun _ => ?_) (fun _ => ?_)) <;> conv => whnf)
    rw [wrap64 (by omega) (by omega), show (most : Int) - 1 = ((most - 1 : Nat) : Int) by omega]
    refine hc.mono ?_
    rintro _ _ ⟨rfl, rfl⟩
    conv => whnf
    repeat' first | refine AW.seq ?_ | refine AW.block ?_ | ((first | refine AW.region tab_ok ?_ | refine AW.cond ?_ | refine AW.skip ?_ | refine AW.ret ?_ | refine AW.exit ?_); conv => whnf) | ((first | refine And.intro (@rfl Val _) ?_ | refine And.intro (by decide) ?_ | refine cs (fun _ => ?_) (fun _ => ?_)) <;> conv => whnf)
    rw [wrap64 (x := (i : Int) + 1) (by omega) (by omega), show max ((max d0 (tmDL (List.take i ks) (most - 1)) : Nat) : Int) (dd : Int) = (max d0 (tmDL (List.take (i + 1) ks) (most - 1)) : Nat) by rw [hn]; omega]
    exact ⟨⟨i + 1, hlt⟩, ⟨⟨rfl, rfl, rfl, rfl, trivial⟩, rfl, rfl, ⟨[], rfl⟩, rfl⟩, show ks.length - (i + 1) < ks.length - i by omega⟩
  · rename_i h2
    simp only [trows_length] at h2
    have := of_decide_eq_false h2
    obtain rfl : i = ks.length := by omega
    simp only [List.take_length]
    refine ⟨?_, rfl⟩
    have hle : tmDL ks (most - 1) ≤ most - 1 := tmDL_le ks (most - 1)
    simp only [oneOf]
    rw [wrap64 (by omega) (by omega)]
    rw [show min (1 + ((max d0 (tmDL ks (most - 1)) : Nat) : Int)) (most : Int) = (min (max d0 (tmDL ks (most - 1)) + 1) most : Nat) by omega]
set_option maxRecDepth 10000 in
theorem rtdeep_call (t : Tm) : tmN t ≤ 8192 → ∀ most : Nat, most ≤ 201 → ACall Try.prog 93 [t.val, .c (.d (.int .i64 most))] [] (fun o σ => o = .ret (.c (.d (.int .i64 (tmD t most)))) ∧ σ = []) := by
  induction t using Tm.ind with
  | _ k name arg num tk tks uk uks label place ks ih =>
  intro hN most hm
  have hlen := tmNL_len ks
  simp only [tmN] at hN
  have ih' : ∀ t ∈ ks, ∀ most : Nat, most ≤ 201 → ACall Try.prog 93 [t.val, .c (.d (.int .i64 most))] [] (fun o σ => o = .ret (.c (.d (.int .i64 (tmD t most)))) ∧ σ = []) := fun t ht => ih t ht (by have := tmN_mem ks t ht; omega)
  refine ACall.body tab_ok (ρ := 0) (N := 47) Try.func93 rfl rfl rfl rfl rfl ?_
  refine AW.seq ?_
  refine AW.region tab_ok ?_; conv => whnf
  refine AW.seq ?_
  refine AW.seq ?_
  refine AW.region tab_ok ?_; conv => whnf
  refine AW.cond ?_; conv => whnf
  refine cs (fun h2 => ?_) (fun h2 => ?_) <;> conv => whnf
  · skip
    repeat' first | refine AW.seq ?_ | refine AW.block ?_ | ((first | refine AW.region tab_ok ?_ | refine AW.cond ?_ | refine AW.skip ?_ | refine AW.ret ?_ | refine AW.exit ?_); conv => whnf) | ((first | refine And.intro (@rfl Val _) ?_ | refine And.intro (by decide) ?_ | refine cs (fun _ => ?_) (fun _ => ?_)) <;> conv => whnf)
    have : most ≤ 1 := by have := of_decide_eq_true h2; omega
    refine ⟨?_, rfl⟩
    simp only [oneOf, tmD]
    rw [if_pos this]
  · have hgt : 1 < most := by have := of_decide_eq_false h2; omega
    refine AW.skip ?_; conv => whnf
    refine AW.seq ?_
    refine AW.region tab_ok ?_; conv => whnf
    have fin : ∀ (d0 : Nat), d0 ≤ 201 → d0 = max (if typeK k = true then tdepth (.node tk tks) else 0) (if toK k = true then tdepth (.node uk uks) else 0) → ∀ env, get env 1 = .c (.d (.int .i64 most)) → get env 2 = .c (.ptr 0 0) → get env 5 = .c (.d (.int .i64 d0)) →
        AW Try.prog tab 0 rest78 ⟨47, env, [.var [.d (.int .i8 k), .d (.str name), .d (.str arg), .d (.int .i64 num), .d (.int .i8 tk), .d (.sl 0 2 (Ty.rows tks)), .d (.int .i8 uk), .d (.sl 0 2 (Ty.rows uks)), .d (.int .i64 label), .d (.int .i64 place), .d (.sl 0 11 (Tm.rows ks))]], []⟩ (afin tab 0 93 Try.f93.results.toList ([] : List AObj).length (fun o σ => o = .ret (.c (.d (.int .i64 (tmD (.node k name arg num tk tks uk uks label place ks) most)))) ∧ σ = [])) := fun d0 hd he env g1 g2 g5 => by
      have ed : tmD (.node k name arg num tk tks uk uks label place ks) most = min (max d0 (tmDL ks (most - 1)) + 1) most := by
        simp only [tmD]
        rw [if_neg (by omega), ← he]
      rw [ed]
      refine AW.fits ?_ ?_ (rdeep_rest k name arg num tk tks uk uks label place ks most d0 hd hgt hm (by omega) ih')
      · exact ⟨⟨g1, g2, g5, trivial⟩, rfl, rfl, ⟨[], rfl⟩, rfl⟩
      · rfl
    refine AW.seq ?_
    refine AW.seq ?_
    refine AW.region tab_ok ?_; conv => whnf
    refine (rhasType_call k).mono ?_
    rintro _ _ ⟨rfl, rfl⟩
    conv => whnf
    refine AW.cond ?_; conv => whnf
    refine cs (fun h3 => ?_) (fun h3 => ?_) <;> conv => whnf
    · refine AW.region tab_ok ?_; conv => whnf
      refine (rdepth_call (.node tk tks)).mono ?_
      rintro _ _ ⟨rfl, rfl⟩
      conv => whnf
      have e0 : max (0 : Int) (tdepth (.node tk tks) : Int) = ((tdepth (.node tk tks) : Nat) : Int) := by omega
      rw [e0]
      refine AW.seq ?_
      refine AW.seq ?_
      refine AW.region tab_ok ?_; conv => whnf
      refine (rhasTo_call k).mono ?_
      rintro _ _ ⟨rfl, rfl⟩
      conv => whnf
      refine AW.cond ?_; conv => whnf
      refine cs (fun h4 => ?_) (fun h4 => ?_) <;> conv => whnf
      · refine AW.region tab_ok ?_; conv => whnf
        refine (rdepth_call (.node uk uks)).mono ?_
        rintro _ _ ⟨rfl, rfl⟩
        conv => whnf
        have e5 : max ((tdepth (.node tk tks) : Int)) (tdepth (.node uk uks) : Int) = ((max (tdepth (.node tk tks)) (tdepth (.node uk uks)) : Nat) : Int) := by omega
        rw [e5]
        exact fin _ (by have := tdepth_le (.node tk tks); have := tdepth_le (.node uk uks); omega) (by simp [h3, h4]) _ rfl rfl rfl
      · refine AW.skip ?_; conv => whnf
        skip
        exact fin (tdepth (.node tk tks)) (by have := tdepth_le (.node tk tks); omega) (by simp [h3, h4]) _ rfl rfl rfl
    · refine AW.skip ?_; conv => whnf
      refine AW.seq ?_
      refine AW.seq ?_
      refine AW.region tab_ok ?_; conv => whnf
      refine (rhasTo_call k).mono ?_
      rintro _ _ ⟨rfl, rfl⟩
      conv => whnf
      refine AW.cond ?_; conv => whnf
      refine cs (fun h4 => ?_) (fun h4 => ?_) <;> conv => whnf
      · refine AW.region tab_ok ?_; conv => whnf
        refine (rdepth_call (.node uk uks)).mono ?_
        rintro _ _ ⟨rfl, rfl⟩
        conv => whnf
        have e5 : max (0 : Int) (tdepth (.node uk uks) : Int) = ((max 0 (tdepth (.node uk uks)) : Nat) : Int) := by omega
        rw [e5]
        exact fin _ (by have := tdepth_le (.node tk tks); have := tdepth_le (.node uk uks); omega) (by simp [h3, h4]) _ rfl rfl rfl
      · refine AW.skip ?_; conv => whnf
        skip
        exact fin 0 (by have := tdepth_le (.node tk tks); omega) (by simp [h3, h4]) _ rfl rfl rfl
set_option maxRecDepth 10000 in
theorem rtDepth_call (t : Tm) : ACall Try.prog 70 [t.val] [] (fun o σ => o = .ret (.c (.d (.int .i64 (tmDepth t)))) ∧ σ = []) := by
  have c1 := rtnodes_call t
  have c2 := rtdeep_call t
  have e : tmDepth t = if tmN t > 8192 then 201 else tmD t 201 := rfl
  rw [e]
  generalize tmN t = nn at *
  generalize hd : tmD t 201 = dd
  have c3 : nn ≤ 8192 → ACall Try.prog 93 [t.val, .c (.d (.int .i64 201))] [] (fun o σ => o = .ret (.c (.d (.int .i64 dd))) ∧ σ = []) := fun h => by
    rw [← hd]; exact c2 h 201 (by omega)
  obtain ⟨k, name, arg, num, tk, tks, uk, uks, label, place, ks⟩ := t
  refine ACall.body tab_ok (ρ := 0) (N := 8) Try.func70 rfl rfl rfl rfl rfl ?_
  repeat' first | refine AW.seq ?_ | refine AW.block ?_ | ((first | refine AW.region tab_ok ?_ | refine AW.cond ?_ | refine AW.skip ?_ | refine AW.ret ?_ | refine AW.exit ?_); conv => whnf) | (refine (c1).mono ?_; rintro _ _ ⟨rfl, rfl⟩; conv => whnf) | ((first | refine And.intro (@rfl Val _) ?_ | refine And.intro (by decide) ?_ | refine cs (fun _ => ?_) (fun _ => ?_)) <;> conv => whnf)
  · rename_i h
    have := of_decide_eq_true h
    refine ⟨?_, rfl⟩
    simp only [oneOf]
    rw [if_pos (by omega)]
    rfl
  · rename_i h
    have := of_decide_eq_false h
    refine (c3 (by omega)).mono ?_
    rintro _ _ ⟨rfl, rfl⟩
    conv => whnf
    repeat' first | refine AW.seq ?_ | refine AW.block ?_ | ((first | refine AW.region tab_ok ?_ | refine AW.cond ?_ | refine AW.skip ?_ | refine AW.ret ?_ | refine AW.exit ?_); conv => whnf) | ((first | refine And.intro (@rfl Val _) ?_ | refine And.intro (by decide) ?_ | refine cs (fun _ => ?_) (fun _ => ?_)) <;> conv => whnf)
    refine ⟨?_, rfl⟩
    simp only [oneOf]
    rw [if_neg (by omega)]
end Go.Proofs.Ytlboogackecjlaa.E

/- Walks: right of terms. No conditions. -/
set_option linter.unusedVariables false
set_option linter.unusedSimpArgs false
namespace Go.Proofs.Ytlboogackecjlaa.E
open Go

def opsF : List ByteArray := [⟨#[43]⟩, ⟨#[45]⟩, ⟨#[42]⟩, ⟨#[47]⟩, ⟨#[60]⟩, ⟨#[61]⟩]
def opF (s : ByteArray) : Bool := opsF.any (fun k => decide (s = k))
set_option maxRecDepth 10000 in
theorem rop_call (s : ByteArray) : ACall Try.prog 95 [.c (.d (.str s))] [] (fun o σ => o = .ret (.c (.d (.bool (opF s)))) ∧ σ = []) := by
  refine ACall.body tab_ok (ρ := 0) (N := 25) Try.func95 rfl rfl rfl rfl rfl ?_
  repeat' first | refine AW.seq ?_ | refine AW.block ?_ | ((first | refine AW.region tab_ok ?_ | refine AW.cond ?_ | refine AW.skip ?_ | refine AW.ret ?_ | refine AW.exit ?_); conv => whnf) | ((first | refine And.intro (@rfl Val _) ?_ | refine And.intro (by decide) ?_ | refine cs (fun _ => ?_) (fun _ => ?_)) <;> conv => whnf)
  all_goals
    refine ⟨outb ?_, rfl⟩
    simp at *
    simp [opF, opsF, *]

/-- A term's own cells are right. -/
def ownRight : Tm → Bool
  | .node k name arg num tk tks uk uks label place ks =>
    decide (kidsK k = ks.length) && (!decide (k = 17) || (!decide (label = 0) && decide (-2147483648 ≤ label) && decide (label ≤ 2147483648)))
      && (!nameK k || nameF name) && (!argK k || nameF arg) && (!typeK k || decide (tcheck (.node tk tks) = 0)) && (!toK k || decide (tcheck (.node uk uks) = 0)) && (!decide (k = 15) || opF name)
mutual
def tmright : Tm → Bool
  | .node k name arg num tk tks uk uks label place ks => ownRight (.node k name arg num tk tks uk uks label place ks) && tmrights ks
def tmrights : List Tm → Bool
  | [] => true
  | t :: l => tmright t && tmrights l
end
theorem tmrights_all : ∀ (ks : List Tm), tmrights ks = true ↔ ∀ t ∈ ks, tmright t = true
  | [] => by simp [tmrights]
  | t :: l => by simp [tmrights, tmrights_all l]
end Go.Proofs.Ytlboogackecjlaa.E

/- Walk: terms.right. No conditions. -/
set_option linter.unusedVariables false
set_option linter.unusedSimpArgs false
namespace Go.Proofs.Ytlboogackecjlaa.E
open Go

theorem tmrights_take : ∀ (ks : List Tm) (i : Nat) t, ks[i]? = some t → tmrights (ks.take (i + 1)) = (tmrights (ks.take i) && tmright t)
  | x :: l, 0, t, h => by simp at h; subst h; simp [tmrights]
  | x :: l, i + 1, t, h => by
    simp only [List.getElem?_cons_succ] at h
    have := tmrights_take l i t h
    simp only [List.take_succ_cons, tmrights, this, Bool.and_assoc]
theorem tmrights_no (ks : List Tm) (t : Tm) (hm : t ∈ ks) (h : tmright t = false) : tmrights ks = false := by
  cases hb : tmrights ks with
  | false => rfl
  | true => have := (tmrights_all ks).1 hb t hm; rw [h] at this; cases this
theorem kinds (k : Int) (h : validK k = true) : k = 0 ∨ k = 1 ∨ k = 2 ∨ k = 3 ∨ k = 4 ∨ k = 5 ∨ k = 6 ∨ k = 7 ∨ k = 8 ∨ k = 9 ∨ k = 10 ∨ k = 11 ∨ k = 12 ∨ k = 13 ∨ k = 14 ∨ k = 15 ∨ k = 16 ∨ k = 17 := by
  simp [validK] at h; omega
structure TmRightI (ks : List Tm) where
  i : Nat
  hi : i ≤ ks.length
  h : tmrights (ks.take i) = true
noncomputable def rest72 : Code := match Try.f68.body with
  | some (.seq _ (.seq _ (.seq _ (.seq _ c)))) => c
  | _ => .skip
set_option maxRecDepth 10000 in
theorem right_rest (k : Int) (name arg : ByteArray) (num tk : Int) (tks : List Ty) (uk : Int) (uks : List Ty) (label place : Int) (ks : List Tm) (s0 : Int) (b1 b2 b3 b4 b5 b6 b7 : Bool) (hlen : ks.length ≤ 8192)
    (ih : ∀ t ∈ ks, ACall Try.prog 68 [.c (.d (.rp 0 t.cells))] [] (fun o σ => o = .ret (.c (.d (.bool (tmright t)))) ∧ σ = [])) :
    AW Try.prog tab 0 rest72 ⟨120, [(0, .c (.d (.rp 0 (Tm.node k name arg num tk tks uk uks label place ks).cells)))], [.var [.d (.int .i64 s0), .d (.bool b1), .d (.bool b2), .d (.bool b3), .d (.bool b4), .d (.bool b5), .d (.bool b6), .d (.bool b7)]], []⟩
      (afin tab 0 68 [.tmp 2] 0 (fun o σ => o = .ret (.c (.d (.bool (tmrights ks)))) ∧ σ = [])) := by
  repeat' first | refine AW.seq ?_ | refine AW.block ?_ | (refine (id : AW _ _ _ (.region 3 _ true) _ _ → _) ?_; refine AW.draw (id := 3) tab_ok mixed [0, 1, 2, 3, 4, 5, 6, 7, 8] (by kernel_rfl) ?_; conv => whnf) | ((first | refine AW.region tab_ok ?_ | refine AW.cond ?_ | refine AW.skip ?_ | refine AW.ret ?_ | refine AW.exit ?_); conv => whnf) | ((first | refine And.intro (@rfl Val _) ?_ | refine And.intro (by decide) ?_ | refine cs (fun _ => ?_) (fun _ => ?_)) <;> conv => whnf)
  refine AW.loop (ι := TmRightI ks) (fun x => ⟨120, [(108, .c (.d (.int .i64 x.i))), (107, .c (.d (.int .i64 (Tm.rows ks).length))), (0, .c (.d (.rp 0 (Tm.node k name arg num tk tks uk uks label place ks).cells)))],
      [.var [.d (.int .i64 s0), .d (.bool b1), .d (.bool b2), .d (.bool b3), .d (.bool b4), .d (.bool b5), .d (.bool b6), .d (.bool b7)]], []⟩)
    (fun x => ks.length - x.i) ⟨0, Nat.zero_le _, rfl⟩ 1 (fun _ => rfl) (Nat.le_of_ble_eq_true rfl) ⟨⟨rfl, rfl, rfl, trivial⟩, rfl, rfl, ⟨[], rfl⟩, rfl⟩ (fun x => ?_)
  obtain ⟨i, hi, hj⟩ := x
  repeat' first | refine AW.seq ?_ | refine AW.block ?_ | (refine (id : AW _ _ _ (.region 3 _ true) _ _ → _) ?_; refine AW.draw (id := 3) tab_ok mixed [0, 1, 2, 3, 4, 5, 6, 7, 8] (by kernel_rfl) ?_; conv => whnf) | ((first | refine AW.region tab_ok ?_ | refine AW.cond ?_ | refine AW.skip ?_ | refine AW.ret ?_ | refine AW.exit ?_); conv => whnf) | ((first | refine And.intro (@rfl Val _) ?_ | refine And.intro (by decide) ?_ | refine cs (fun _ => ?_) (fun _ => ?_)) <;> conv => whnf)
  · rename_i h2
    simp only [trows_length] at h2 ⊢
    have := of_decide_eq_true h2
    refine ⟨by omega, fun row hrow => ?_⟩
    obtain ⟨t, ht, rfl⟩ := trows_get ks i row (by simpa using hrow)
    have hlt : i < ks.length := (List.getElem?_eq_some_iff.1 ht).1
    have hmem := List.mem_of_getElem? ht
    have hc := ih t hmem
    have hn := tmrights_take ks i _ ht
    have hf := tmrights_no ks t hmem
    generalize tmright t = b at hc hn hf
    conv => whnf
    repeat' first | refine AW.seq ?_ | refine AW.block ?_ | (refine (id : AW _ _ _ (.region 3 _ true) _ _ → _) ?_; refine AW.draw (id := 3) tab_ok mixed [0, 1, 2, 3, 4, 5, 6, 7, 8] (by kernel_rfl) ?_; conv => whnf) | ((first | refine AW.region tab_ok ?_ | refine AW.cond ?_ | refine AW.skip ?_ | refine AW.ret ?_ | refine AW.exit ?_); conv => whnf) | (refine (hc).mono ?_; rintro _ _ ⟨rfl, rfl⟩; conv => whnf) | ((first | refine And.intro (@rfl Val _) ?_ | refine And.intro (by decide) ?_ | refine cs (fun _ => ?_) (fun _ => ?_)) <;> conv => whnf)
    · rename_i h3
      have h3 : b = false := by simpa using h3
      exact ⟨outb (hf h3).symm, rfl⟩
    · rename_i h3
      have h3 : b = true := by simpa using h3
      rw [wrap64 (x := (i : Int) + 1) (by omega) (by omega)]
      exact ⟨⟨i + 1, hlt, by rw [hn, hj, h3]; rfl⟩, ⟨⟨rfl, rfl, rfl, trivial⟩, rfl, rfl, ⟨[], rfl⟩, rfl⟩, show ks.length - (i + 1) < ks.length - i by omega⟩
  · rename_i h2
    simp only [trows_length] at h2
    have := of_decide_eq_false h2
    obtain rfl : i = ks.length := by omega
    simp only [List.take_length] at hj
    exact ⟨outb hj.symm, rfl⟩
end Go.Proofs.Ytlboogackecjlaa.E

/- Walk: terms.right. No conditions. -/
set_option linter.unusedVariables false
set_option linter.unusedSimpArgs false
namespace Go.Proofs.Ytlboogackecjlaa.E
open Go

set_option maxRecDepth 10000 in
set_option maxHeartbeats 4000000 in
theorem tmright_call (t : Tm) : tmN t ≤ 8192 → ACall Try.prog 68 [.c (.d (.rp 0 t.cells))] [] (fun o σ => o = .ret (.c (.d (.bool (tmright t)))) ∧ σ = []) := by
  induction t using Tm.ind with
  | _ k name arg num tk tks uk uks label place ks ih =>
  intro hN
  have hlen := tmNL_len ks
  simp only [tmN] at hN
  have ih' : ∀ t ∈ ks, ACall Try.prog 68 [.c (.d (.rp 0 t.cells))] [] (fun o σ => o = .ret (.c (.d (.bool (tmright t)))) ∧ σ = []) := fun t ht => ih t ht (by have := tmN_mem ks t ht; omega)
  have fin : ∀ (s0 : Int) (b1 b2 b3 b4 b5 b6 b7 : Bool), ownRight (.node k name arg num tk tks uk uks label place ks) = true → ∀ env, get env 0 = .c (.d (.rp 0 (Tm.node k name arg num tk tks uk uks label place ks).cells)) →
      AW Try.prog tab 0 rest72 ⟨120, env, [.var [.d (.int .i64 s0), .d (.bool b1), .d (.bool b2), .d (.bool b3), .d (.bool b4), .d (.bool b5), .d (.bool b6), .d (.bool b7)]], []⟩ (afin tab 0 68 Try.f68.results.toList ([] : List AObj).length (fun o σ => o = .ret (.c (.d (.bool (tmright (.node k name arg num tk tks uk uks label place ks))))) ∧ σ = [])) := fun s0 b1 b2 b3 b4 b5 b6 b7 ho env g0 => by
    have e : tmright (.node k name arg num tk tks uk uks label place ks) = tmrights ks := by simp [tmright, ho]
    rw [e]
    refine AW.fits ?_ ?_ (right_rest k name arg num tk tks uk uks label place ks s0 b1 b2 b3 b4 b5 b6 b7 (by omega) ih')
    · exact ⟨⟨g0, trivial⟩, rfl, rfl, ⟨[], rfl⟩, rfl⟩
    · rfl
  clear ih ih' hN hlen
  have c1 := of_call k
  by_cases hv : validK k = true
  · rcases kinds k hv with rfl | rfl | rfl | rfl | rfl | rfl | rfl | rfl | rfl | rfl | rfl | rfl | rfl | rfl | rfl | rfl | rfl | rfl
    all_goals
      refine ACall.body tab_ok (ρ := 0) (N := 120) Try.func68 rfl rfl rfl rfl rfl ?_
      repeat' first | (refine fin _ _ _ _ _ _ _ _ ?_ _ rfl) | refine AW.seq ?_ | refine AW.block ?_ | (refine (id : AW _ _ _ (.region 3 _ true) _ _ → _) ?_; refine AW.draw (id := 3) tab_ok mixed [0, 1, 2, 3, 4, 5, 6, 7, 8] (by kernel_rfl) ?_; conv => whnf) | ((first | refine AW.region tab_ok ?_ | refine AW.cond ?_ | refine AW.skip ?_ | refine AW.ret ?_ | refine AW.exit ?_); conv => whnf) | ((first | refine (c1).mono ?_ | refine (name_call name).mono ?_ | refine (name_call arg).mono ?_ | refine (check_call (.node tk tks)).mono ?_ | refine (check_call (.node uk uks)).mono ?_); rintro _ _ ⟨rfl, rfl⟩; conv => whnf) | ((first | refine And.intro (@rfl Val _) ?_ | refine And.intro (by decide) ?_ | refine cs (fun _ => ?_) (fun _ => ?_)) <;> conv => whnf)
    all_goals clear c1 fin hv
    all_goals first
      | (refine ⟨outb ?_, rfl⟩
         simp only [tmright, ownRight]
         simp_all [kidsK, validK, nameK, argK, typeK, toK, opF, opsF, trows_length]
         done)
      | (refine ⟨outb ?_, rfl⟩
         simp only [tmright, ownRight]
         simp_all [kidsK, validK, nameK, argK, typeK, toK, opF, opsF, trows_length]
         omega)
      | (simp only [ownRight]
         simp_all [kidsK, validK, nameK, argK, typeK, toK, opF, opsF, trows_length]
         done)
      | (simp only [ownRight]
         simp_all [kidsK, validK, nameK, argK, typeK, toK, opF, opsF, trows_length]
         omega)
  · have hv : validK k = false := by simpa using hv
    rw [hv] at c1
    refine ACall.body tab_ok (ρ := 0) (N := 120) Try.func68 rfl rfl rfl rfl rfl ?_
    skip
    repeat' first | refine AW.seq ?_ | refine AW.block ?_ | (refine (id : AW _ _ _ (.region 3 _ true) _ _ → _) ?_; refine AW.draw (id := 3) tab_ok mixed [0, 1, 2, 3, 4, 5, 6, 7, 8] (by kernel_rfl) ?_; conv => whnf) | ((first | refine AW.region tab_ok ?_ | refine AW.cond ?_ | refine AW.skip ?_ | refine AW.ret ?_ | refine AW.exit ?_); conv => whnf) | (refine (c1).mono ?_; rintro _ _ ⟨rfl, rfl⟩; conv => whnf) | ((first | refine And.intro (@rfl Val _) ?_ | refine And.intro (by decide) ?_ | refine cs (fun _ => ?_) (fun _ => ?_)) <;> conv => whnf)
    have hk : kidsK k = -1 := by simp [validK] at hv; unfold kidsK; repeat rw [if_neg (by omega)]
    refine ⟨outb ?_, rfl⟩
    simp only [tmright, ownRight, hk]
    rw [show decide ((-1 : Int) = (ks.length : Int)) = false by simp <;> omega]
    rfl
end Go.Proofs.Ytlboogackecjlaa.E

/- Walk: ref right of terms. No conditions. -/
set_option linter.unusedVariables false
set_option linter.unusedSimpArgs false
namespace Go.Proofs.Ytlboogackecjlaa.E
open Go

noncomputable def rest73 : Code := match Try.f71.body with
  | some (.seq _ (.seq _ (.seq _ (.seq _ c)))) => c
  | _ => .skip
set_option maxRecDepth 10000 in
theorem rright_rest (k : Int) (name arg : ByteArray) (num tk : Int) (tks : List Ty) (uk : Int) (uks : List Ty) (label place : Int) (ks : List Tm) (hlen : ks.length ≤ 8192)
    (ih : ∀ t ∈ ks, ACall Try.prog 71 [t.val] [] (fun o σ => o = .ret (.c (.d (.bool (tmright t)))) ∧ σ = [])) :
    AW Try.prog tab 0 rest73 ⟨101, [(1, .c (.ptr 0 0))], [.var [.d (.int .i8 k), .d (.str name), .d (.str arg), .d (.int .i64 num), .d (.int .i8 tk), .d (.sl 0 2 (Ty.rows tks)), .d (.int .i8 uk), .d (.sl 0 2 (Ty.rows uks)), .d (.int .i64 label), .d (.int .i64 place), .d (.sl 0 11 (Tm.rows ks))]], []⟩
      (afin tab 0 71 [.tmp 2] 0 (fun o σ => o = .ret (.c (.d (.bool (tmrights ks)))) ∧ σ = [])) := by
  repeat' first | refine AW.seq ?_ | refine AW.block ?_ | (refine (id : AW _ _ _ (.region 1 _ true) _ _ → _) ?_; refine AW.draw (id := 1) tab_ok mixed [0, 1, 3, 4, 5, 2, 6, 7, 8, 9, 10, 11, 12, 13, 14, 15, 16, 17, 18, 19, 20, 21, 22, 23, 24, 25, 26] (by kernel_rfl) ?_; conv => whnf) | ((first | refine AW.region tab_ok ?_ | refine AW.cond ?_ | refine AW.skip ?_ | refine AW.ret ?_ | refine AW.exit ?_); conv => whnf) | ((first | refine And.intro (@rfl Val _) ?_ | refine And.intro (by decide) ?_ | refine cs (fun _ => ?_) (fun _ => ?_)) <;> conv => whnf)
  refine AW.loop (ι := TmRightI ks) (fun x => ⟨101, [(3, .c (.d (.int .i64 x.i))), (1, .c (.ptr 0 0))], [.var [.d (.int .i8 k), .d (.str name), .d (.str arg), .d (.int .i64 num), .d (.int .i8 tk), .d (.sl 0 2 (Ty.rows tks)), .d (.int .i8 uk), .d (.sl 0 2 (Ty.rows uks)), .d (.int .i64 label), .d (.int .i64 place), .d (.sl 0 11 (Tm.rows ks))]], []⟩)
    (fun x => ks.length - x.i) ⟨0, Nat.zero_le _, rfl⟩ 1 (fun _ => rfl) (Nat.le_of_ble_eq_true rfl) ⟨⟨rfl, rfl, trivial⟩, rfl, rfl, ⟨[], rfl⟩, rfl⟩ (fun x => ?_)
  obtain ⟨i, hi, hj⟩ := x
  repeat' first | refine AW.seq ?_ | refine AW.block ?_ | (refine (id : AW _ _ _ (.region 1 _ true) _ _ → _) ?_; refine AW.draw (id := 1) tab_ok mixed [0, 1, 3, 4, 5, 2, 6, 7, 8, 9, 10, 11, 12, 13, 14, 15, 16, 17, 18, 19, 20, 21, 22, 23, 24, 25, 26] (by kernel_rfl) ?_; conv => whnf) | ((first | refine AW.region tab_ok ?_ | refine AW.cond ?_ | refine AW.skip ?_ | refine AW.ret ?_ | refine AW.exit ?_); conv => whnf) | ((first | refine And.intro (@rfl Val _) ?_ | refine And.intro (by decide) ?_ | refine cs (fun _ => ?_) (fun _ => ?_)) <;> conv => whnf)
  · rename_i h2
    simp only [trows_length] at h2 ⊢
    have := of_decide_eq_true h2
    refine ⟨by omega, fun row hrow => ?_⟩
    obtain ⟨t, ht, rfl⟩ := trows_get ks i row (by simpa using hrow)
    have hlt : i < ks.length := (List.getElem?_eq_some_iff.1 ht).1
    have hmem := List.mem_of_getElem? ht
    have hc := ih t hmem
    have hn := tmrights_take ks i _ ht
    have hf := tmrights_no ks t hmem
    generalize tmright t = b at hc hn hf
    obtain ⟨k', name', arg', num', tk', tks', uk', uks', label', place', ks'⟩ := t
    conv => whnf
    repeat' first | refine AW.seq ?_ | refine AW.block ?_ | (refine (id : AW _ _ _ (.region 1 _ true) _ _ → _) ?_; refine AW.draw (id := 1) tab_ok mixed [0, 1, 3, 4, 5, 2, 6, 7, 8, 9, 10, 11, 12, 13, 14, 15, 16, 17, 18, 19, 20, 21, 22, 23, 24, 25, 26] (by kernel_rfl) ?_; conv => whnf) | ((first | refine AW.region tab_ok ?_ | refine AW.cond ?_ | refine AW.skip ?_ | refine AW.ret ?_ | refine AW.exit ?_); conv => whnf) | (refine (hc).mono ?_; rintro _ _ ⟨rfl, rfl⟩; conv => whnf) | ((first | refine And.intro (@rfl Val _) ?_ | refine And.intro (by decide) ?_ | refine cs (fun _ => ?_) (fun _ => ?_)) <;> conv => whnf)
    · rename_i h3
      have h3 : b = false := by simpa using h3
      exact ⟨outb (hf h3).symm, rfl⟩
    · rename_i h3
      have h3 : b = true := by simpa using h3
      rw [wrap64 (x := (i : Int) + 1) (by omega) (by omega)]
      exact ⟨⟨i + 1, hlt, by rw [hn, hj, h3]; rfl⟩, ⟨⟨rfl, rfl, trivial⟩, rfl, rfl, ⟨[], rfl⟩, rfl⟩, show ks.length - (i + 1) < ks.length - i by omega⟩
  · rename_i h2
    simp only [trows_length] at h2
    have := of_decide_eq_false h2
    obtain rfl : i = ks.length := by omega
    simp only [List.take_length] at hj
    exact ⟨outb hj.symm, rfl⟩
set_option maxRecDepth 10000 in
set_option maxHeartbeats 4000000 in
theorem rtmright_call (t : Tm) : tmN t ≤ 8192 → ACall Try.prog 71 [t.val] [] (fun o σ => o = .ret (.c (.d (.bool (tmright t)))) ∧ σ = []) := by
  induction t using Tm.ind with
  | _ k name arg num tk tks uk uks label place ks ih =>
  intro hN
  have hlen := tmNL_len ks
  simp only [tmN] at hN
  have ih' : ∀ t ∈ ks, ACall Try.prog 71 [t.val] [] (fun o σ => o = .ret (.c (.d (.bool (tmright t)))) ∧ σ = []) := fun t ht => ih t ht (by have := tmN_mem ks t ht; omega)
  have fin : ownRight (.node k name arg num tk tks uk uks label place ks) = true → ∀ env, get env 1 = .c (.ptr 0 0) →
      AW Try.prog tab 0 rest73 ⟨101, env, [.var [.d (.int .i8 k), .d (.str name), .d (.str arg), .d (.int .i64 num), .d (.int .i8 tk), .d (.sl 0 2 (Ty.rows tks)), .d (.int .i8 uk), .d (.sl 0 2 (Ty.rows uks)), .d (.int .i64 label), .d (.int .i64 place), .d (.sl 0 11 (Tm.rows ks))]], []⟩ (afin tab 0 71 Try.f71.results.toList ([] : List AObj).length (fun o σ => o = .ret (.c (.d (.bool (tmright (.node k name arg num tk tks uk uks label place ks))))) ∧ σ = [])) := fun ho env g0 => by
    have e : tmright (.node k name arg num tk tks uk uks label place ks) = tmrights ks := by simp [tmright, ho]
    rw [e]
    refine AW.fits ?_ ?_ (rright_rest k name arg num tk tks uk uks label place ks (by omega) ih')
    · exact ⟨⟨g0, trivial⟩, rfl, rfl, ⟨[], rfl⟩, rfl⟩
    · rfl
  clear ih ih' hN hlen
  by_cases hv : validK k = true
  · rcases kinds k hv with rfl | rfl | rfl | rfl | rfl | rfl | rfl | rfl | rfl | rfl | rfl | rfl | rfl | rfl | rfl | rfl | rfl | rfl
    all_goals
      refine ACall.body tab_ok (ρ := 0) (N := 101) Try.func71 rfl rfl rfl rfl rfl ?_
      repeat' first | (refine fin ?_ _ rfl) | refine AW.seq ?_ | refine AW.block ?_ | (refine (id : AW _ _ _ (.region 1 _ true) _ _ → _) ?_; refine AW.draw (id := 1) tab_ok mixed [0, 1, 3, 4, 5, 2, 6, 7, 8, 9, 10, 11, 12, 13, 14, 15, 16, 17, 18, 19, 20, 21, 22, 23, 24, 25, 26] (by kernel_rfl) ?_; conv => whnf) | ((first | refine AW.region tab_ok ?_ | refine AW.cond ?_ | refine AW.skip ?_ | refine AW.ret ?_ | refine AW.exit ?_); conv => whnf) | ((first | refine (rkids_call _).mono ?_ | refine (rop_call _).mono ?_ | refine (rhasName_call _).mono ?_ | refine (rhasArg_call _).mono ?_ | refine (rhasType_call _).mono ?_ | refine (rhasTo_call _).mono ?_ | refine (rname_call name).mono ?_ | refine (rname_call arg).mono ?_ | refine (rcheck_call (.node tk tks)).mono ?_ | refine (rcheck_call (.node uk uks)).mono ?_); rintro _ _ ⟨rfl, rfl⟩; conv => whnf) | ((first | refine And.intro (@rfl Val _) ?_ | refine And.intro (by decide) ?_ | refine cs (fun _ => ?_) (fun _ => ?_)) <;> conv => whnf)
    all_goals clear fin hv
    all_goals first
      | (refine ⟨outb ?_, rfl⟩
         simp only [tmright, ownRight]
         simp_all [kidsK, validK, nameK, argK, typeK, toK, trows_length]
         done)
      | (refine ⟨outb ?_, rfl⟩
         simp only [tmright, ownRight]
         simp_all [kidsK, validK, nameK, argK, typeK, toK, trows_length]
         omega)
      | (simp only [ownRight]
         simp_all [kidsK, validK, nameK, argK, typeK, toK, trows_length]
         done)
      | (simp only [ownRight]
         simp_all [kidsK, validK, nameK, argK, typeK, toK, trows_length]
         omega)
      | trace_state
  · have hv : validK k = false := by simpa using hv
    have hk : kidsK k = -1 := by simp [validK] at hv; unfold kidsK; repeat rw [if_neg (by omega)]
    have c1 := rkids_call k
    rw [hk] at c1
    have hb : decide ((-1 : Int) = (ks.length : Int)) = false := by simp <;> omega
    have hr : tmright (.node k name arg num tk tks uk uks label place ks) = false := by
      simp only [tmright, ownRight, hk]
      rw [hb]
      rfl
    rw [hr] at *
    clear fin
    have hl : ((-1 : Int) != ((Tm.rows ks).length : Int)) = true := by simp <;> omega
    refine ACall.body tab_ok (ρ := 0) (N := 101) Try.func71 rfl rfl rfl rfl rfl ?_
    skip
    repeat' first | refine AW.seq ?_ | refine AW.block ?_ | (refine (id : AW _ _ _ (.region 1 _ true) _ _ → _) ?_; refine AW.draw (id := 1) tab_ok mixed [0, 1, 3, 4, 5, 2, 6, 7, 8, 9, 10, 11, 12, 13, 14, 15, 16, 17, 18, 19, 20, 21, 22, 23, 24, 25, 26] (by kernel_rfl) ?_; conv => whnf) | ((first | refine AW.region tab_ok ?_ | refine AW.cond ?_ | refine AW.skip ?_ | refine AW.ret ?_ | refine AW.exit ?_); conv => whnf) | (refine (c1).mono ?_; rintro _ _ ⟨rfl, rfl⟩; conv => whnf) | ((first | refine And.intro (@rfl Val _) ?_ | refine And.intro (by decide) ?_ | refine cs (fun _ => ?_) (fun _ => ?_)) <;> conv => whnf)
    all_goals exact ⟨rfl, rfl⟩
end Go.Proofs.Ytlboogackecjlaa.E

/- Walks: Check of terms, both; the law TermsCheck. No conditions. -/
set_option linter.unusedVariables false
set_option linter.unusedSimpArgs false
namespace Go.Proofs.Ytlboogackecjlaa.E
open Go

def tmcheck (t : Tm) : Int := if tmN t > 8192 then 32 else if tmD t 201 > 200 then 31 else if tmright t then 0 else 30
theorem tmcheck_eq (t : Tm) : tmcheck t = if tmN t > 8192 then 32 else if tmDepth t > 200 then 31 else if tmright t then 0 else 30 := by
  unfold tmcheck tmDepth
  split <;> rfl
set_option maxRecDepth 10000 in
theorem tmCheck_call (t : Tm) : ACall Try.prog 40 [t.val] [] (fun o σ => o = .ret (.c (.d (.int .i64 (tmcheck t)))) ∧ σ = []) := by
  have c1 := tnodes_call t
  have c2 := tDepth_call t
  have c3 := tmright_call t
  rw [tmcheck_eq]
  generalize tmN t = nn at *
  generalize tmDepth t = dd at *
  generalize tmright t = rr at *
  obtain ⟨k, name, arg, num, tk, tks, uk, uks, label, place, ks⟩ := t
  refine ACall.body tab_ok (ρ := 0) (N := 11) Try.func40 rfl rfl rfl rfl rfl ?_
  repeat' first | refine AW.seq ?_ | refine AW.block ?_ | ((first | refine AW.region tab_ok ?_ | refine AW.cond ?_ | refine AW.skip ?_ | refine AW.ret ?_ | refine AW.exit ?_); conv => whnf) | ((first | refine (c1).mono ?_ | refine (c2).mono ?_); rintro _ _ ⟨rfl, rfl⟩; conv => whnf) | ((first | refine And.intro (@rfl Val _) ?_ | refine And.intro (by decide) ?_ | refine cs (fun _ => ?_) (fun _ => ?_)) <;> conv => whnf)
  · rename_i h
    have := of_decide_eq_true h
    refine ⟨?_, rfl⟩
    simp only [oneOf]
    rw [if_pos (by omega)]
  · rename_i h1 h2
    have := of_decide_eq_false h1
    have h2 := of_decide_eq_true h2
    refine ⟨?_, rfl⟩
    simp only [oneOf]
    rw [if_neg (by omega), if_pos (by omega)]
  · rename_i h1 h2
    have := of_decide_eq_false h1
    have h2 := of_decide_eq_false h2
    refine (c3 (by omega)).mono ?_
    rintro _ _ ⟨rfl, rfl⟩
    conv => whnf
    repeat' first | refine AW.seq ?_ | refine AW.block ?_ | ((first | refine AW.region tab_ok ?_ | refine AW.cond ?_ | refine AW.skip ?_ | refine AW.ret ?_ | refine AW.exit ?_); conv => whnf) | ((first | refine And.intro (@rfl Val _) ?_ | refine And.intro (by decide) ?_ | refine cs (fun _ => ?_) (fun _ => ?_)) <;> conv => whnf)
    all_goals
      rename_i h3
      refine ⟨?_, rfl⟩
      simp only [oneOf]
      rw [if_neg (by omega), if_neg (by omega)]
      simp at h3
      simp [h3]
set_option maxRecDepth 10000 in
theorem rtmCheck_call (t : Tm) : ACall Try.prog 44 [t.val] [] (fun o σ => o = .ret (.c (.d (.int .i64 (tmcheck t)))) ∧ σ = []) := by
  have c1 := rtnodes_call t
  have c2 := rtDepth_call t
  have c3 := rtmright_call t
  rw [tmcheck_eq]
  generalize tmN t = nn at *
  generalize tmDepth t = dd at *
  generalize tmright t = rr at *
  obtain ⟨k, name, arg, num, tk, tks, uk, uks, label, place, ks⟩ := t
  refine ACall.body tab_ok (ρ := 0) (N := 12) Try.func44 rfl rfl rfl rfl rfl ?_
  repeat' first | refine AW.seq ?_ | refine AW.block ?_ | ((first | refine AW.region tab_ok ?_ | refine AW.cond ?_ | refine AW.skip ?_ | refine AW.ret ?_ | refine AW.exit ?_); conv => whnf) | ((first | refine (c1).mono ?_ | refine (c2).mono ?_); rintro _ _ ⟨rfl, rfl⟩; conv => whnf) | ((first | refine And.intro (@rfl Val _) ?_ | refine And.intro (by decide) ?_ | refine cs (fun _ => ?_) (fun _ => ?_)) <;> conv => whnf)
  · rename_i h
    have := of_decide_eq_true h
    refine ⟨?_, rfl⟩
    simp only [oneOf]
    rw [if_pos (by omega)]
  · rename_i h1 h2
    have := of_decide_eq_false h1
    have h2 := of_decide_eq_true h2
    refine ⟨?_, rfl⟩
    simp only [oneOf]
    rw [if_neg (by omega), if_pos (by omega)]
  · rename_i h1 h2
    have := of_decide_eq_false h1
    have h2 := of_decide_eq_false h2
    refine (c3 (by omega)).mono ?_
    rintro _ _ ⟨rfl, rfl⟩
    conv => whnf
    repeat' first | refine AW.seq ?_ | refine AW.block ?_ | ((first | refine AW.region tab_ok ?_ | refine AW.cond ?_ | refine AW.skip ?_ | refine AW.ret ?_ | refine AW.exit ?_); conv => whnf) | ((first | refine And.intro (@rfl Val _) ?_ | refine And.intro (by decide) ?_ | refine cs (fun _ => ?_) (fun _ => ?_)) <;> conv => whnf)
    all_goals
      rename_i h3
      refine ⟨?_, rfl⟩
      simp only [oneOf]
      rw [if_neg (by omega), if_neg (by omega)]
      simp at h3
      simp [h3]
end Go.Proofs.Ytlboogackecjlaa.E

/- Walks: Same of types in the document's answer; same of terms, both. No conditions. -/
set_option linter.unusedVariables false
set_option linter.unusedSimpArgs false
namespace Go.Proofs.Ytlboogackecjlaa.E
open Go

/-! ### Same of types, the document's -/
/-! ### Same of terms -/
theorem tmright_len {k name arg num tk tks uk uks label place ks} (h : tmright (.node k name arg num tk tks uk uks label place ks) = true) : kidsK k = ks.length := by
  simp [tmright, ownRight] at h
  exact h.1.1.1.1.1.1.1
theorem tmright_kid {k name arg num tk tks uk uks label place ks} (h : tmright (.node k name arg num tk tks uk uks label place ks) = true) {t : Tm} (ht : t ∈ ks) : tmright t = true := by
  simp only [tmright, Bool.and_eq_true] at h
  exact (tmrights_all ks).1 h.2 t ht
theorem kidsK_le (k : Int) : kidsK k ≤ 3 := by
  unfold kidsK
  repeat (split <;> try omega)
theorem tmright_valid {k name arg num tk tks uk uks label place ks} (h : tmright (.node k name arg num tk tks uk uks label place ks) = true) : validK k = true := by
  have h := tmright_len h
  cases hv : validK k with
  | true => rfl
  | false =>
    have hk : kidsK k = -1 := by simp [validK] at hv; unfold kidsK; repeat rw [if_neg (by omega)]
    omega
end Go.Proofs.Ytlboogackecjlaa.E

/- Walks: meet of both. No conditions. -/
set_option linter.unusedVariables false
set_option linter.unusedSimpArgs false
namespace Go.Proofs.Ytlboogackecjlaa.E
open Go

/-! ### order.meet -/
end Go.Proofs.Ytlboogackecjlaa.E

/- Walks: Meet, kind, met; the law OrderMeet. No conditions. -/
set_option linter.unusedVariables false
set_option linter.unusedSimpArgs false
namespace Go.Proofs.Ytlboogackecjlaa.E
open Go

/-! ### kind, of a type and itself -/
end Go.Proofs.Ytlboogackecjlaa.E

/- Walks: kind, Whole of a thing and itself; whole. No conditions. -/
set_option linter.unusedVariables false
set_option linter.unusedSimpArgs false
namespace Go.Proofs.Ytlboogackecjlaa.E
open Go

theorem nodes_kid {k : Int} {ks : List Ty} (h : nodes (.node k ks) ≤ 8192) {t : Ty} (ht : t ∈ ks) : nodes t ≤ 8192 := by
  have := nodes_mem ks t ht
  simp only [nodes] at h
  omega
theorem nodes_len {k : Int} {ks : List Ty} (h : nodes (.node k ks) ≤ 8192) : ks.length ≤ 8192 := by
  have := nodesL_len ks
  simp only [nodes] at h
  omega
/-! ### whole -/
end Go.Proofs.Ytlboogackecjlaa.E

/- Walks: same of terms in the document's answer. No conditions. -/
set_option linter.unusedVariables false
set_option linter.unusedSimpArgs false
namespace Go.Proofs.Ytlboogackecjlaa.E
open Go

theorem tmcheck_right {t : Tm} (h : tmcheck t = 0) : tmright t = true := by
  unfold tmcheck at h
  split at h
  · omega
  · split at h
    · omega
    · split at h
      · assumption
      · omega
end Go.Proofs.Ytlboogackecjlaa.E
