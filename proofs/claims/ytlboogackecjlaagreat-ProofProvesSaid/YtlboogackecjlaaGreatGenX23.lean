/- Texts, merged: Pr12, Sm0, Pr13, TyOpen, Glue, TmOpen. No conditions. -/
import Derived.Test.YtlboogackecjlaaGreatPr11
import Derived.Test.YtlboogackecjlaaGreatGenX6
import Derived.Test.YtlboogackecjlaaGreatGenX7
import Derived.Test.YtlboogackecjlaaGreatGenX2
import Derived.Deep.Slices
import Derived.WideKeyArgs
import Derived.ChangeArms
import Derived.ChangeOld
import Derived.Below
import Derived.WalkKit
import Derived.ProofKit
import Derived.OpenShut
import Derived.SizedLaws
import Derived.Test.YtlboogackecjlaaGreatGenX3
/- The plain law: a derivation is one of a term just if it is the document's. No conditions. -/
set_option linter.unusedVariables false
set_option linter.unusedSimpArgs false
namespace Go.Proofs.YtlboogackecjlaaGreat.E
open Go

def DS (t : Tm) (l : List Bd) (p : Pf) : Prop := (drv t l (some p)).2 = ((drv t l none).2 && psame p (drv t l none).1) ∧ ((drv t l (some p)).2 = true → (drv t l (some p)).1 = (drv t l none).1)
theorem drvs_len (k : Int) (name arg : ByteArray) (T U : Ty) (l : List Bd) (p : Option Pf) : ∀ (ks : List Tm) (i : Nat) (a : Ty), (drvs k name arg T U l p ks i a).2 = true → (drvs k name arg T U l p ks i a).1.length = ks.length
  | [], _, _, _ => rfl
  | t :: r, i, a, h => by
    simp only [drvs] at h ⊢
    split at h
    · rename_i hd
      rw [if_pos hd]
      simp only at h
      simp [drvs_len k name arg T U l p r _ _ h]
    · simp at h
theorem drvs_some {k : Int} {name arg : ByteArray} {T U : Ty} {l : List Bd} {pr : ByteArray} {pa : Ty} {ps : List Pf} : ∀ (ks : List Tm), (∀ t ∈ ks, ∀ l p, DS t l p) → ∀ (i : Nat) (a : Ty) (qs : List Pf), ps.drop i = qs → qs.length = ks.length →
    (drvs k name arg T U l (some (.node pr pa ps)) ks i a).2 = ((drvs k name arg T U l none ks i a).2 && psames qs (drvs k name arg T U l none ks i a).1) ∧
    ((drvs k name arg T U l (some (.node pr pa ps)) ks i a).2 = true → (drvs k name arg T U l (some (.node pr pa ps)) ks i a).1 = (drvs k name arg T U l none ks i a).1)
  | [], _, i, a, qs, hq, hl => by
    obtain rfl : qs = [] := List.length_eq_zero_iff.1 hl
    simp [drvs, psames]
  | t :: r, ih, i, a, qs, hq, hl => by
    obtain ⟨q, qs, rfl⟩ : ∃ q qs', qs = q :: qs' := by
      cases qs with
      | nil => simp at hl
      | cons q qs => exact ⟨q, qs, rfl⟩
    have hx : ps.getD i pf0 = q := by
      have : (ps.drop i)[0]? = some q := by rw [hq]; rfl
      rw [List.getElem?_drop] at this
      rw [List.getD_eq_getElem?_getD, show ps[i]? = some q from this]; rfl
    have hd1 : ps.drop (i + 1) = qs := by rw [← List.drop_drop, hq]; rfl
    obtain ⟨h1, h2⟩ := ih t (by simp) (innerM k name arg T U l i a) q
    have ir := fun a' => drvs_some (k := k) (name := name) (arg := arg) (T := T) (U := U) (l := l) (pr := pr) (pa := pa) (ps := ps) r (fun t ht => ih t (by simp [ht])) (i + 1) a' qs hd1 (by simpa using hl)
    simp only [drvs, pkid, Option.map_some, Option.map_none, Pf.kids, hx]
    by_cases hd : (drv t (innerM k name arg T U l i a) none).2 = true
    · by_cases hp : psame q (drv t (innerM k name arg T U l i a) none).1 = true
      · rw [hd, hp] at h1
        simp only [Bool.and_self] at h1
        have h2 := h2 h1
        simp only [h1, hd, if_true, h2]
        obtain ⟨i1, i2⟩ := ir (if i = 0 then (drv t (innerM k name arg T U l i a) none).1.ty else a)
        simp only [psames, hp, Bool.true_and]
        exact ⟨i1, fun h => by rw [i2 h]⟩
      · have hp : psame q (drv t (innerM k name arg T U l i a) none).1 = false := by simpa using hp
        rw [hp, Bool.and_false] at h1
        simp [h1, hd, psames, hp]
    · have hd' : (drv t (innerM k name arg T U l i a) none).2 = false := by simpa using hd
      rw [hd', Bool.false_and] at h1
      simp [h1, hd']
theorem drv_some (t : Tm) : ∀ (l : List Bd) (p : Pf), DS t l p := by
  induction t using Tm.ind with
  | _ k name arg num tk tks uk uks label place ks ih =>
  rintro l ⟨pr, pa, ps⟩
  have hlen := drvs_len k name arg (.node tk tks) (.node uk uks) l none ks 0 unk
  have hs := @drvs_some k name arg (.node tk tks) (.node uk uks) l pr pa ps ks ih 0 unk ps rfl
  unfold DS
  rw [drv, drv]
  simp only [pbad, Pf.rule, Pf.kids, Bool.false_eq_true, if_false]
  generalize drvs k name arg (.node tk tks) (.node uk uks) l none ks 0 unk = z at *
  generalize drvs k name arg (.node tk tks) (.node uk uks) l (some (.node pr pa ps)) ks 0 unk = z' at *
  obtain ⟨zl, zb⟩ := z
  obtain ⟨zl', zb'⟩ := z'
  dsimp only at hlen hs
  by_cases hr : pr = ruleN k
  · by_cases hl : ps.length = ks.length
    · obtain ⟨h1, h2⟩ := hs hl
      simp only [hr, hl, decide_true, Bool.not_true, Bool.or_self, Bool.false_eq_true, if_false]
      cases zb with
      | false =>
        simp only [Bool.false_and] at h1
        subst h1
        simp [drvF]
      | true =>
        have hz : zl.length = ks.length := hlen rfl
        simp only [Bool.true_and] at h1
        cases zb' with
        | false => simp [drvF, psame, ← h1]
        | true =>
          have h2 := h2 rfl
          subst h2
          simp [drvF, psame, ← h1, hz, hl, Pf.ty]
    · simp only [hr, hl, decide_true, decide_false, Bool.not_true, Bool.not_false, Bool.or_true, if_true]
      cases zb with
      | false => simp [drvF]
      | true =>
        have hz : zl.length = ks.length := hlen rfl
        simp [drvF, psame, hz, hl]
  · simp only [hr, decide_false, Bool.not_false, Bool.true_or, if_true]
    cases zb with
    | false => simp [drvF]
    | true => simp [drvF, psame, hr]
/-- Both tell the same of every derivation and term. -/
theorem proves_same (p : Pf) (t : Tm) : (decide (soundP t = 0) && (drv t [] (some p)).2) = (decide (rfindE t = 0) && psame p (rfindP t)) := by
  by_cases h : soundP t = 0
  · obtain ⟨h1, h2⟩ := soundP_ok h
    obtain ⟨h3, h4⟩ := tmcheck_ok h1
    obtain ⟨r1, r2⟩ := rul_drv t h4 h2 [] (by simp)
    have hd := (drv_some t [] p).1
    rw [hd]
    cases hb : (drv t [] none).2 with
    | false =>
      have : rfindE t = 100 := by
        have : ¬ (rul t []).2.e = 0 := fun h => by rw [r1.1 h] at hb; cases hb
        simp [rfindE, h, this]
      simp [this]
    | true =>
      have e0 : rfindE t = 0 := by simp [rfindE, h, r1.2 hb]
      simp [h, e0, rfindP, (r2 hb).2.1]
  · have : rfindE t = soundP t := by simp [rfindE, h]
    simp [h, this]
end Go.Proofs.YtlboogackecjlaaGreat.E

/- Small terms: counted with an early end. No conditions. -/
set_option linter.unusedVariables false
set_option linter.unusedSimpArgs false
namespace Go.Proofs.YtlboogackecjlaaGreat.E
open Go

structure TypedI (n m : Nat) where
  i : Nat
  c : Nat
  hi : i ≤ m
  h : i + n + 1 ≤ c ∧ c ≤ max 32769 (n + 1)
set_option maxRecDepth 10000 in
theorem typed_call (a : Ty) : ∀ n : Nat, n ≤ 32770 → ACall Tryz.prog 67 [a.val, .c (.d (.int .i64 n))] [] (fun o σ => ∃ r : Nat, (n < r ∧ r ≤ max 32769 (n + 1)) ∧ o = .ret (.c (.d (.int .i64 r))) ∧ σ = []) := by
  induction a using Ty.ind with
  | _ k ks ih =>
  intro n hn
  have hw : IntKind.i64.wrap ((n : Int) + 1) = ((n + 1 : Nat) : Int) := by rw [wrap64 (x := (n : Int) + 1) (by omega) (by omega)]; omega
  refine ACall.body tab_ok (ρ := 0) (N := 27) Tryz.func67 rfl rfl rfl rfl rfl ?_
  repeat' first | refine AW.seq ?_ | refine AW.block ?_ | ((first | refine AW.region tab_ok ?_ | refine AW.cond ?_ | refine AW.skip ?_ | refine AW.ret ?_ | refine AW.exit ?_); conv => whnf) | ((first | refine And.intro (@rfl Val _) ?_ | refine And.intro (by decide) ?_ | refine cs (fun _ => ?_) (fun _ => ?_)) <;> conv => whnf)
  refine AW.loop (ι := TypedI n ks.length) (fun x => ⟨27, [(5, .c (.d (.int .i64 x.i))), (1, .c (.d (.int .i64 x.c))), (2, .c (.ptr 0 0))], [.var [.d (.int .i8 k), .d (.sl 0 2 (Ty.rows ks))]], []⟩)
    (fun x => ks.length - x.i) ⟨0, n + 1, Nat.zero_le _, ⟨by omega, Nat.le_max_right _ _⟩⟩ 1 (fun _ => rfl) (Nat.le_of_ble_eq_true rfl) ⟨⟨rfl, by rw [hw]; rfl, rfl, trivial⟩, rfl, rfl, ⟨[], rfl⟩, rfl⟩ (fun x => ?_)
  obtain ⟨i, c, hi, h⟩ := x
  repeat' first | refine AW.seq ?_ | refine AW.block ?_ | ((first | refine AW.region tab_ok ?_ | refine AW.cond ?_ | refine AW.skip ?_ | refine AW.ret ?_ | refine AW.exit ?_); conv => whnf) | ((first | refine And.intro (@rfl Val _) ?_ | refine And.intro (by decide) ?_ | refine cs (fun _ => ?_) (fun _ => ?_)) <;> conv => whnf)
  · rename_i h1 h2
    simp only [rows_length] at h1 ⊢
    have := of_decide_eq_true h1
    have h3 : c ≤ 32768 := by have := of_decide_eq_true h2; simp only at this; omega
    refine ⟨by omega, fun row hrow => ?_⟩
    obtain ⟨⟨k', ks'⟩, ht, rfl⟩ := rows_get ks i row (by simpa using hrow)
    have hlt : i < ks.length := (List.getElem?_eq_some_iff.1 ht).1
    conv => whnf
    repeat' first | refine AW.seq ?_ | refine AW.block ?_ | ((first | refine AW.region tab_ok ?_ | refine AW.cond ?_ | refine AW.skip ?_ | refine AW.ret ?_ | refine AW.exit ?_); conv => whnf) | ((first | refine And.intro (@rfl Val _) ?_ | refine And.intro (by decide) ?_ | refine cs (fun _ => ?_) (fun _ => ?_)) <;> conv => whnf)
    refine (ih _ (List.mem_of_getElem? ht) _ (by omega)).mono ?_
    rintro _ _ ⟨r, hr, rfl, rfl⟩
    conv => whnf
    repeat' first | refine AW.seq ?_ | refine AW.block ?_ | ((first | refine AW.region tab_ok ?_ | refine AW.cond ?_ | refine AW.skip ?_ | refine AW.ret ?_ | refine AW.exit ?_); conv => whnf) | ((first | refine And.intro (@rfl Val _) ?_ | refine And.intro (by decide) ?_ | refine cs (fun _ => ?_) (fun _ => ?_)) <;> conv => whnf)
    rw [wrap64 (x := (i : Int) + 1) (by omega) (by omega)]
    exact ⟨⟨i + 1, r, hlt, by omega⟩, ⟨⟨rfl, rfl, rfl, trivial⟩, rfl, rfl, ⟨[], rfl⟩, rfl⟩, show ks.length - (i + 1) < ks.length - i by omega⟩
  · exact ⟨c, by omega, rfl, rfl⟩
  · exact ⟨c, by omega, rfl, rfl⟩
end Go.Proofs.YtlboogackecjlaaGreat.E

/- ProofProves: the law, walked. No conditions. -/
set_option linter.unusedVariables false
set_option linter.unusedSimpArgs false
namespace Go.Proofs.YtlboogackecjlaaGreat.E
open Go

structure CountedP (n m most : Nat) where
  i : Nat
  c : Nat
  hi : i ≤ m
  h : i + n + 1 ≤ c ∧ c ≤ most
set_option maxRecDepth 10000 in
theorem smcounted_call (t : Tm) : ∀ n : Nat, n ≤ 32768 → ACall Tryz.prog 26 [t.val, .c (.d (.int .i64 n))] [] (fun o σ => ∃ r : Nat, (n < r ∧ r ≤ 32771) ∧ o = .ret (.c (.d (.int .i64 r))) ∧ σ = []) := by
  induction t using Tm.ind with
  | _ k name arg num tk tks uk uks label place ks ih =>
  intro n hn
  have hw : IntKind.i64.wrap ((n : Int) + 1) = ((n + 1 : Nat) : Int) := by rw [wrap64 (x := (n : Int) + 1) (by omega) (by omega)]; omega
  refine ACall.body tab_ok (ρ := 0) (N := 33) Tryz.func26 rfl rfl rfl rfl rfl ?_
  repeat' first | refine AW.seq ?_ | refine AW.block ?_ | (refine (id : AW _ _ _ (.region 1 _ true) _ _ → _) ?_; refine AW.draw (id := 1) tab_ok mixed [0, 1, 2, 3, 4, 5, 6, 7, 8] (by kernel_rfl) ?_; conv => whnf) | ((first | refine AW.region tab_ok ?_ | refine AW.cond ?_ | refine AW.skip ?_ | refine AW.ret ?_ | refine AW.exit ?_); conv => whnf) | ((first | refine And.intro (@rfl Val _) ?_ | refine And.intro (by decide) ?_ | refine cs (fun _ => ?_) (fun _ => ?_)) <;> conv => whnf)
  all_goals rw [hw]
  refine (typed_call (.node tk tks) (n + 1) (by omega)).mono ?_
  rintro _ _ ⟨r1, hr1, rfl, rfl⟩
  conv => whnf
  repeat' first | refine AW.seq ?_ | refine AW.block ?_ | (refine (id : AW _ _ _ (.region 1 _ true) _ _ → _) ?_; refine AW.draw (id := 1) tab_ok mixed [0, 1, 2, 3, 4, 5, 6, 7, 8] (by kernel_rfl) ?_; conv => whnf) | ((first | refine AW.region tab_ok ?_ | refine AW.cond ?_ | refine AW.skip ?_ | refine AW.ret ?_ | refine AW.exit ?_); conv => whnf) | ((first | refine And.intro (@rfl Val _) ?_ | refine And.intro (by decide) ?_ | refine cs (fun _ => ?_) (fun _ => ?_)) <;> conv => whnf)
  refine (typed_call (.node uk uks) r1 (by omega)).mono ?_
  rintro _ _ ⟨r2, hr2, rfl, rfl⟩
  conv => whnf
  repeat' first | refine AW.seq ?_ | refine AW.block ?_ | (refine (id : AW _ _ _ (.region 1 _ true) _ _ → _) ?_; refine AW.draw (id := 1) tab_ok mixed [0, 1, 2, 3, 4, 5, 6, 7, 8] (by kernel_rfl) ?_; conv => whnf) | ((first | refine AW.region tab_ok ?_ | refine AW.cond ?_ | refine AW.skip ?_ | refine AW.ret ?_ | refine AW.exit ?_); conv => whnf) | ((first | refine And.intro (@rfl Val _) ?_ | refine And.intro (by decide) ?_ | refine cs (fun _ => ?_) (fun _ => ?_)) <;> conv => whnf)
  refine AW.loop (ι := CountedP n ks.length 32771) (fun x => ⟨33, [(5, .c (.d (.int .i64 x.i))), (1, .c (.d (.int .i64 x.c))), (2, .c (.ptr 0 0))], [.var (Tm.cells (.node k name arg num tk tks uk uks label place ks) |>.map .d)], []⟩)
    (fun x => ks.length - x.i) ⟨0, r2, Nat.zero_le _, by omega⟩ 1 (fun _ => rfl) (Nat.le_of_ble_eq_true rfl) ⟨⟨rfl, rfl, rfl, trivial⟩, rfl, rfl, ⟨[], rfl⟩, rfl⟩ (fun x => ?_)
  obtain ⟨i, c, hi, h⟩ := x
  repeat' first | refine AW.seq ?_ | refine AW.block ?_ | (refine (id : AW _ _ _ (.region 1 _ true) _ _ → _) ?_; refine AW.draw (id := 1) tab_ok mixed [0, 1, 2, 3, 4, 5, 6, 7, 8] (by kernel_rfl) ?_; conv => whnf) | ((first | refine AW.region tab_ok ?_ | refine AW.cond ?_ | refine AW.skip ?_ | refine AW.ret ?_ | refine AW.exit ?_); conv => whnf) | ((first | refine And.intro (@rfl Val _) ?_ | refine And.intro (by decide) ?_ | refine cs (fun _ => ?_) (fun _ => ?_)) <;> conv => whnf)
  · rename_i h1 h2
    simp only [trows_length] at h1 ⊢
    have := of_decide_eq_true h1
    have h3 : c ≤ 32768 := by have := of_decide_eq_true h2; simp only at this; omega
    refine ⟨by omega, fun row hrow => ?_⟩
    obtain ⟨t, ht, rfl⟩ := trows_get ks i row (by simpa using hrow)
    have hlt : i < ks.length := (List.getElem?_eq_some_iff.1 ht).1
    obtain ⟨kx, namex, argx, numx, tkx, tksx, ukx, uksx, labelx, placex, ksx⟩ := t
    conv => whnf
    repeat' first | refine AW.seq ?_ | refine AW.block ?_ | (refine (id : AW _ _ _ (.region 1 _ true) _ _ → _) ?_; refine AW.draw (id := 1) tab_ok mixed [0, 1, 2, 3, 4, 5, 6, 7, 8] (by kernel_rfl) ?_; conv => whnf) | ((first | refine AW.region tab_ok ?_ | refine AW.cond ?_ | refine AW.skip ?_ | refine AW.ret ?_ | refine AW.exit ?_); conv => whnf) | ((first | refine And.intro (@rfl Val _) ?_ | refine And.intro (by decide) ?_ | refine cs (fun _ => ?_) (fun _ => ?_)) <;> conv => whnf)
    refine (ih _ (List.mem_of_getElem? ht) _ (by omega)).mono ?_
    rintro _ _ ⟨r, hr, rfl, rfl⟩
    conv => whnf
    repeat' first | refine AW.seq ?_ | refine AW.block ?_ | (refine (id : AW _ _ _ (.region 1 _ true) _ _ → _) ?_; refine AW.draw (id := 1) tab_ok mixed [0, 1, 2, 3, 4, 5, 6, 7, 8] (by kernel_rfl) ?_; conv => whnf) | ((first | refine AW.region tab_ok ?_ | refine AW.cond ?_ | refine AW.skip ?_ | refine AW.ret ?_ | refine AW.exit ?_); conv => whnf) | ((first | refine And.intro (@rfl Val _) ?_ | refine And.intro (by decide) ?_ | refine cs (fun _ => ?_) (fun _ => ?_)) <;> conv => whnf)
    rw [wrap64 (x := (i : Int) + 1) (by omega) (by omega)]
    exact ⟨⟨i + 1, r, hlt, by omega⟩, ⟨⟨rfl, rfl, rfl, trivial⟩, rfl, rfl, ⟨[], rfl⟩, rfl⟩, show ks.length - (i + 1) < ks.length - i by omega⟩
  · exact ⟨c, by omega, rfl, rfl⟩
  · exact ⟨c, by omega, rfl, rfl⟩
set_option maxRecDepth 10000 in
theorem Small_call (t : Tm) : ACall Tryz.prog 12 [t.val] [] (fun o σ => ∃ b : Bool, o = .ret (.c (.d (.bool b))) ∧ σ = []) := by
  obtain ⟨k, name, arg, num, tk, tks, uk, uks, label, place, ks⟩ := t
  refine ACall.body tab_ok (ρ := 0) (N := 6) Tryz.func12 rfl rfl rfl rfl rfl ?_
  repeat' first | refine AW.seq ?_ | refine AW.block ?_ | ((first | refine AW.region tab_ok ?_ | refine AW.cond ?_ | refine AW.skip ?_ | refine AW.ret ?_ | refine AW.exit ?_); conv => whnf) | ((first | refine And.intro (@rfl Val _) ?_ | refine And.intro (by decide) ?_ | refine cs (fun _ => ?_) (fun _ => ?_)) <;> conv => whnf)
  refine (smcounted_call (.node k name arg num tk tks uk uks label place ks) 0 (by omega)).mono ?_
  rintro _ _ ⟨r, hr, rfl, rfl⟩
  conv => whnf
  repeat' first | refine AW.seq ?_ | refine AW.block ?_ | ((first | refine AW.region tab_ok ?_ | refine AW.cond ?_ | refine AW.skip ?_ | refine AW.ret ?_ | refine AW.exit ?_); conv => whnf) | ((first | refine And.intro (@rfl Val _) ?_ | refine And.intro (by decide) ?_ | refine cs (fun _ => ?_) (fun _ => ?_)) <;> conv => whnf)
  exact ⟨_, rfl, rfl⟩
set_option maxRecDepth 10000 in
theorem pcounted_call (t : Tm) : ∀ n : Nat, n ≤ 2000 → ACall Tryz.prog 16 [t.val, .c (.ptr 0 0)] [.var [.d (.int .i64 n)]] (fun o σ => ∃ r : Nat, (n < r ∧ r ≤ 2001) ∧ o = .ret (.c (.d (.int .i64 r))) ∧ σ = [.var [.d (.int .i64 r)]]) := by
  induction t using Tm.ind with
  | _ k name arg num tk tks uk uks label place ks ih =>
  intro n hn
  have hw : IntKind.i64.wrap ((n : Int) + 1) = ((n + 1 : Nat) : Int) := by rw [wrap64 (x := (n : Int) + 1) (by omega) (by omega)]; omega
  refine ACall.body tab_ok (ρ := 0) (N := 35) Tryz.func16 rfl rfl rfl rfl rfl ?_
  repeat' first | refine AW.seq ?_ | refine AW.block ?_ | ((first | refine AW.region tab_ok ?_ | refine AW.cond ?_ | refine AW.skip ?_ | refine AW.ret ?_ | refine AW.exit ?_); conv => whnf) | ((first | refine And.intro (@rfl Val _) ?_ | refine And.intro (by decide) ?_ | refine cs (fun _ => ?_) (fun _ => ?_)) <;> conv => whnf)
  refine AW.loop (ι := CountedP n ks.length 2001) (fun x => ⟨35, [(5, .c (.d (.int .i64 x.i))), (1, .c (.ptr 0 0)), (2, .c (.ptr 1 0))], [.var [.d (.int .i64 x.c)], .var (Tm.cells (.node k name arg num tk tks uk uks label place ks) |>.map .d)], []⟩)
    (fun x => ks.length - x.i) ⟨0, n + 1, Nat.zero_le _, by omega⟩ 2 (fun _ => rfl) (Nat.le_of_ble_eq_true rfl) ⟨⟨rfl, rfl, rfl, trivial⟩, rfl, rfl, ⟨[], by rw [hw]; rfl⟩, rfl⟩ (fun x => ?_)
  obtain ⟨i, c, hi, h⟩ := x
  repeat' first | refine AW.seq ?_ | refine AW.block ?_ | ((first | refine AW.region tab_ok ?_ | refine AW.cond ?_ | refine AW.skip ?_ | refine AW.ret ?_ | refine AW.exit ?_); conv => whnf) | ((first | refine And.intro (@rfl Val _) ?_ | refine And.intro (by decide) ?_ | refine cs (fun _ => ?_) (fun _ => ?_)) <;> conv => whnf)
  · rename_i h1 h2
    simp only [trows_length] at h1 ⊢
    have := of_decide_eq_true h1
    have h3 : c ≤ 2000 := by have := of_decide_eq_true h2; simp only at this; omega
    refine ⟨by omega, fun row hrow => ?_⟩
    obtain ⟨t, ht, rfl⟩ := trows_get ks i row (by simpa using hrow)
    have hlt : i < ks.length := (List.getElem?_eq_some_iff.1 ht).1
    obtain ⟨kx, namex, argx, numx, tkx, tksx, ukx, uksx, labelx, placex, ksx⟩ := t
    conv => whnf
    repeat' first | refine AW.seq ?_ | refine AW.block ?_ | ((first | refine AW.region tab_ok ?_ | refine AW.cond ?_ | refine AW.skip ?_ | refine AW.ret ?_ | refine AW.exit ?_); conv => whnf) | ((first | refine And.intro (@rfl Val _) ?_ | refine And.intro (by decide) ?_ | refine cs (fun _ => ?_) (fun _ => ?_)) <;> conv => whnf)
    refine (ih _ (List.mem_of_getElem? ht) _ h3).mono ?_
    rintro _ _ ⟨r, hr, rfl, rfl⟩
    conv => whnf
    repeat' first | refine AW.seq ?_ | refine AW.block ?_ | ((first | refine AW.region tab_ok ?_ | refine AW.cond ?_ | refine AW.skip ?_ | refine AW.ret ?_ | refine AW.exit ?_); conv => whnf) | ((first | refine And.intro (@rfl Val _) ?_ | refine And.intro (by decide) ?_ | refine cs (fun _ => ?_) (fun _ => ?_)) <;> conv => whnf)
    rw [wrap64 (x := (i : Int) + 1) (by omega) (by omega)]
    exact ⟨⟨i + 1, r, hlt, by omega⟩, ⟨⟨rfl, rfl, rfl, trivial⟩, rfl, rfl, ⟨[], rfl⟩, rfl⟩, show ks.length - (i + 1) < ks.length - i by omega⟩
  · exact ⟨c, by omega, rfl, rfl⟩
  · exact ⟨c, by omega, rfl, rfl⟩
set_option maxRecDepth 10000 in
theorem pgreat_call (t : Tm) : ACall Tryz.prog 5 [t.val] [] (fun o σ => ∃ b : Bool, o = .ret (.c (.d (.bool b))) ∧ σ = []) := by
  obtain ⟨k, name, arg, num, tk, tks, uk, uks, label, place, ks⟩ := t
  have c1 := Small_call (.node k name arg num tk tks uk uks label place ks)
  have c2 := pcounted_call (.node k name arg num tk tks uk uks label place ks) 0 (by omega)
  refine ACall.body tab_ok (ρ := 0) (N := 11) Tryz.func5 rfl rfl rfl rfl rfl ?_
  repeat' first | ((refine c1.mono ?_; rintro _ _ ⟨b, rfl, rfl⟩; cases b <;> conv => whnf)) | ((refine c2.mono ?_; rintro _ _ ⟨r, hr, rfl, rfl⟩; conv => whnf)) | refine AW.seq ?_ | refine AW.block ?_ | ((first | refine AW.region tab_ok ?_ | refine AW.cond ?_ | refine AW.skip ?_ | refine AW.ret ?_ | refine AW.exit ?_); conv => whnf) | ((first | refine And.intro (@rfl Val _) ?_ | refine And.intro (by decide) ?_ | refine cs (fun _ => ?_) (fun _ => ?_)) <;> conv => whnf)
  all_goals first | exact ⟨_, rfl, rfl⟩
set_option maxRecDepth 10000 in
theorem law_ProofProves (p : Pf) (t : Tm) (hf : TmOk t) : ACall Tryz.prog 3 [p.val, t.val] [] (fun o σ => o = .ret (.c (.d (.bool true))) ∧ σ = []) := by
  have c0 := pgreat_call t
  have c1 := Proves_all p t (fun h => fine2_of t hf (tmcheck_ok h).2)
  have c2 := RProves_call p t
  rw [← proves_same] at c2
  generalize (decide (soundP t = 0) && (drv t [] (some p)).2) = w at *
  clear hf
  obtain ⟨k, name, arg, num, tk, tks, uk, uks, label, place, ks⟩ := t
  obtain ⟨pr, ⟨pk, pks⟩, pqs⟩ := p
  refine ACall.body tab_ok (ρ := 0) (N := 18) Tryz.func3 rfl rfl rfl rfl rfl ?_
  repeat' first | ((refine c0.mono ?_; rintro _ _ ⟨b, rfl, rfl⟩; cases b <;> conv => whnf)) | refine AW.seq ?_ | refine AW.block ?_ | (refine (id : AW _ _ _ (.region 3 _ true) _ _ → _) ?_; refine AW.draw (id := 3) tab_ok mixed [0, 1, 3, 4, 2, 5, 6, 7, 8, 9, 10] (by kernel_rfl) ?_; conv => whnf) | ((first | refine AW.region tab_ok ?_ | refine AW.cond ?_ | refine AW.skip ?_ | refine AW.ret ?_ | refine AW.exit ?_); conv => whnf) | ((first | refine (c1).mono ?_ | refine (c2).mono ?_ | refine (wakes10_call).mono ?_); rintro _ _ ⟨rfl, rfl⟩; conv => whnf) | ((first | refine And.intro (@rfl Val _) ?_ | refine And.intro (by decide) ?_ | refine cs (fun _ => ?_) (fun _ => ?_)) <;> conv => whnf)
  all_goals (cases w <;> first | exact ⟨rfl, rfl⟩ | (exfalso; simp_all; done))
end Go.Proofs.YtlboogackecjlaaGreat.E

/- From a row's reading of an argument to a tree. No conditions. -/
set_option linter.unusedVariables false
set_option linter.unusedSimpArgs false
namespace Go.Proofs.YtlboogackecjlaaGreat.E
open Go Go.RowKit

/-- All that was there is one region. -/
def rgAll (w : World) : Nat → Option Nat := fun b => if b < w.heap.size then some 0 else none
def czAll (w : World) : Cz := ⟨[], rgAll w⟩
theorem inv_all (w : World) : Inv w (czAll w) [] :=
  ⟨rfl, fun i o e h => by simp at h, fun i o e b h => by simp at h, fun i j o p e f b h => by simp at h, fun b r h => by
    simp only [czAll, rgAll] at h
    split at h
    · assumption
    · cases h⟩

theorem cell_parts {w : World} {a : Addr} {v : Value} (h : w.cell? a = some v) : a.spot = none ∧ ∃ cs e fz, w.heap[a.block]? = some (.cells cs e fz) ∧ cs[a.off]? = some v := by
  have hs := World.cell?_spot h
  refine ⟨hs, ?_⟩
  unfold World.cell? at h
  split at h
  · rename_i cs e fz hh
    exact ⟨cs, e, fz, hh, by simpa [hs] using h⟩
  · cases h

noncomputable def fld (t i : Nat) : Field := match Tryz.prog.underlying t with
  | some (.struct fs) => fs.getD i default
  | _ => default
theorem u30 : Tryz.prog.underlying 25 = some (.struct #[fld 25 0, fld 25 1]) := by kernel_rfl
theorem f30_0 : (fld 25 0).type = 22 ∧ (fld 25 0).offset = 0 := ⟨by kernel_rfl, by kernel_rfl⟩
theorem f30_1 : (fld 25 1).type = 23 ∧ (fld 25 1).offset = 1 := ⟨by kernel_rfl, by kernel_rfl⟩
theorem u28 : Tryz.prog.underlying 23 = some (.slice 25) := by kernel_rfl
theorem u27 : Tryz.prog.underlying 22 = some (.int .i8) := by kernel_rfl
theorem c30 : Tryz.prog.cellsOf 25 = 2 := by kernel_rfl
theorem c28 : Tryz.prog.cellsOf 23 = 1 := by kernel_rfl
theorem c27 : Tryz.prog.cellsOf 22 = 1 := by kernel_rfl

/-- The cells of a value stand for the data. -/
def Stand (w : World) (cs : List Value) (xs : List DV) : Prop := cs.length = xs.length ∧ ∀ (i : Nat) v x, cs[i]? = some v → xs[i]? = some x → RepD w (rgAll w) v x

section
variable {H : Type} {enc : TypeId × Value → H} {w : World} {base : Nat} {spare : Nat → Bool} {held : Bool}

theorem list_of {α : Type} {Q : Nat → α → Prop} : ∀ n, (∀ i, i < n → ∃ x, Q i x) → ∃ xs : List α, xs.length = n ∧ ∀ (i : Nat) x, xs[i]? = some x → Q i x
  | 0, _ => ⟨[], rfl, fun i x h => by simp at h⟩
  | n + 1, h => by
    obtain ⟨xs, h1, h2⟩ := list_of n (fun i hi => h i (by omega))
    obtain ⟨x, hx⟩ := h n (by omega)
    refine ⟨xs ++ [x], by simp [h1], fun i y hy => ?_⟩
    by_cases hi : i < n
    · rw [List.getElem?_append_left (by omega)] at hy
      exact h2 i y hy
    · rw [List.getElem?_append_right (by omega)] at hy
      cases he : i - xs.length with
      | zero =>
        rw [he] at hy
        simp at hy
        subst hy
        obtain rfl : i = n := by omega
        exact hx
      | succ k => rw [he] at hy; simp at hy

theorem add_none (b o k : Nat) : (⟨b, o, none⟩ : Addr).add k = ⟨b, o + k, none⟩ := by
  unfold Addr.add
  split
  · rename_i h; subst h; rfl
  · rfl

/-- A slice, from its elements. -/
theorem stand_slice {α : Type} (sz : Nat) (hsz : 0 < sz) (f : α → List DV) (hf : ∀ x, (f x).length = sz) {a : Addr} {len cap : Nat} (hlc : len ≤ cap) (h : ∀ i, i < len → ∃ x cs, w.cells? base (a.add (i * sz)) sz = some cs ∧ Stand w cs (f x)) :
    ∃ xs : List α, xs.length = len ∧ RepD w (rgAll w) (.slice (some a) len cap) (.sl 0 sz (xs.map f)) := by
  obtain ⟨xs, hx1, hx2⟩ := list_of len h
  refine ⟨xs, hx1, ?_⟩
  cases xs with
  | nil =>
    simp at hx1
    subst hx1
    exact .sl0 (some a) 0 sz cap
  | cons x0 xr =>
    obtain ⟨cs0, g1, g2⟩ := hx2 0 x0 rfl
    obtain ⟨_, g3, g4⟩ := World.cells?_some g1
    have hc0 := g4 0 hsz
    rw [List.getElem?_eq_getElem (by omega)] at hc0
    obtain ⟨k1, cs, e, fz, k2, k3⟩ := cell_parts hc0
    obtain ⟨b, o, spot⟩ := a
    have hspot : spot = none := by simpa [Addr.add] using k1
    subst hspot
    simp only [Nat.zero_mul, add_none, Nat.add_zero] at k2
    have hlt : b < w.heap.size := by
      rcases Nat.lt_or_ge b w.heap.size with h | h
      · exact h
      · rw [Array.getElem?_eq_none h] at k2; cases k2
    have hcell : ∀ (j i : Nat) x, (x0 :: xr)[j]? = some x → i < sz → ∃ v, cs[o + j * sz + i]? = some v ∧ ∀ y, (f x)[i]? = some y → RepD w (rgAll w) v y := fun j i x hj hi => by
      obtain ⟨cs', q1, q2, q3⟩ := hx2 j x hj
      obtain ⟨_, q4, q5⟩ := World.cells?_some q1
      have q6 := q5 i hi
      rw [List.getElem?_eq_getElem (by omega)] at q6
      obtain ⟨_, cs2, e2, fz2, r2, r3⟩ := cell_parts q6
      simp only [add_none] at r2 r3
      rw [k2] at r2
      cases r2
      exact ⟨_, r3, fun y hy => q3 i _ y (List.getElem?_eq_getElem (by omega)) hy⟩
    refine .sl 0 sz b o len cap _ cs e fz (fun j i => (cs[o + j * sz + i]?).getD undef) (by simp [rgAll, hlt]) k2 (by simpa using hx1.symm) hlc (fun row hr => ?_) (fun j i hj hi => ?_) (fun j i row y hj hi => ?_)
    · obtain ⟨x, _, rfl⟩ := List.mem_map.1 hr
      exact hf x
    · obtain ⟨v, hv, _⟩ := hcell j i _ (List.getElem?_eq_getElem (by omega)) hi
      rw [hv]; rfl
    · rw [List.getElem?_map] at hj
      cases hjx : (x0 :: xr)[j]? with
      | none => rw [hjx] at hj; cases hj
      | some x =>
        rw [hjx] at hj
        cases hj
        have hil : i < sz := by
          have := (List.getElem?_eq_some_iff.1 hi).1
          rw [hf] at this; exact this
        obtain ⟨v, hv, hr⟩ := hcell j i x hjx hil
        show RepD w (rgAll w) ((cs[o + j * sz + i]?).getD undef) y
        rw [hv]
        exact hr y hi

theorem rows_map : ∀ ks : List Ty, Ty.rows ks = ks.map Ty.cells
  | [] => rfl
  | t :: l => by simp [Ty.rows, rows_map l]
theorem cells_len (t : Ty) : t.cells.length = 2 := by cases t; rfl

set_option maxRecDepth 100000 in
theorem open_ty : ∀ (fuel : Nat) (cs : List Value) x, DataW.trod enc Tryz.prog w base spare held fuel 25 cs = some x → ∃ t : Ty, Stand w cs t.cells
  | 0, cs, x, h => by simp [DataW.trod] at h
  | fuel + 1, cs, x, h => by
    obtain ⟨xs, n, hn, _, hl, hxl, hf⟩ := DataW.trod_struct u30 h
    obtain rfl : fuel = n := by omega
    rw [c30] at hl
    obtain ⟨a, b, rfl⟩ : ∃ a b, cs = [a, b] := by
      match cs, hl with
      | [a, b], _ => exact ⟨a, b, rfl⟩
    have h0 := hf 0 (fld 25 0) rfl
    have h1 := hf 1 (fld 25 1) rfl
    rw [f30_0.1, f30_0.2, c27] at h0
    rw [f30_1.1, f30_1.2, c28] at h1
    have hx0 : 0 < xs.length := by rw [hxl]; exact Nat.zero_lt_succ _
    have hx1 : 1 < xs.length := by rw [hxl]; exact Nat.lt_succ_self _
    rw [List.getElem?_eq_getElem hx0] at h0
    rw [List.getElem?_eq_getElem hx1] at h1
    simp only [List.drop_zero, List.take_succ_cons, List.take_zero, List.drop_succ_cons] at h0 h1
    obtain ⟨k, hk, _, _⟩ := DataW.trod_int u27 h0
    cases hk
    have two : ∀ ks : List Ty, RepD w (rgAll w) b (.sl 0 2 (Ty.rows ks)) → ∃ t : Ty, Stand w [.int .i8 k, b] t.cells := fun ks hr =>
      ⟨.node k ks, rfl, fun i v y hv hy => by
        match i with
        | 0 => simp [Ty.cells] at hv hy; subst hv; subst hy; exact .int _ _
        | 1 => simp [Ty.cells] at hv hy; subst hv; subst hy; exact hr
        | i + 2 => simp at hv⟩
    rcases DataW.trod_slice u28 h1 with ⟨hb, _⟩ | ⟨a, len, cap, elems, rest, n, hn, hb, _, _, hlc, _, hel, hall, _⟩
    · cases hb
      exact two [] (.sl0 none 0 2 0)
    · cases hb
      rw [c30] at hall
      obtain ⟨ks, hks, hr⟩ := stand_slice (w := w) (base := base) 2 (by decide) Ty.cells cells_len (a := a) hlc (fun i hi => by
        have := hall i hi
        rw [List.getElem?_eq_getElem (by omega)] at this
        obtain ⟨cs', h2, h3⟩ := Option.bind_eq_some_iff.1 this
        obtain ⟨t, ht⟩ := open_ty n cs' _ h3
        exact ⟨t, cs', h2, ht⟩)
      exact two ks (by rw [rows_map]; exact hr)
  termination_by fuel => fuel
  decreasing_by all_goals omega
end

/-- What was there is as it was. -/
theorem below_same {w w' : World} (h : Below w.heap.size w w') {p : MemPlace} (hp : p.block < w.heap.size) : w.sameAt w' p := by
  cases p with
  | cell b off =>
    show w'.cell? _ = w.cell? _
    unfold World.cell?
    rw [h.block b hp]
  | map b => exact h.block b hp
end Go.Proofs.YtlboogackecjlaaGreat.E

/- From a law's walk to its row: parts for all rows. No conditions. -/
namespace Go.Proofs.YtlboogackecjlaaGreat.E
open Go Go.RowKit

theorem rep2 {w : World} {C : Cz} {u v : Value} {x y : Val} (h : RepV w C u x) (g : RepV w C v y) : RepVs w C #[u, v].toList [x, y] := .cons h (.cons g ⟨rfl, fun i v x h => by simp at h⟩)
/-- A law that is true: as a call. -/
theorem law_true {P : Program} {f : FuncId} {args : List Val} (h : ACall P f args [] (fun o σ => o = .ret (.c (.d (.bool true))) ∧ σ = [])) {w : World} {vs : Array Value} (hv : RepVs w (czAll w) vs.toList args) :
    Calls P f vs w fun e w' => e = .returned (.bool true) ∧ Below w.heap.size w w' :=
  (h.out w (czAll w) vs (inv_all w) hv).mono fun e w' ⟨o, σ', C', ⟨ho, hs⟩, hI, hX, hO⟩ => by
    subst ho; subst hs
    obtain ⟨v, rfl, hr⟩ := hO
    have := bool_of hr
    subst this
    exact ⟨rfl, hX.os, hX.tape, hX.output, hX.size, fun k hk => hX.frame k hk (fun ⟨i, o, e, h, _⟩ => by simp at h)⟩
end Go.Proofs.YtlboogackecjlaaGreat.E

/- From a row's reading of a term to a tree. No conditions. -/
set_option linter.unusedVariables false
set_option linter.unusedSimpArgs false
namespace Go.Proofs.YtlboogackecjlaaGreat.E
open Go Go.RowKit

theorem u39 : Tryz.prog.underlying 31 = some (.struct #[fld 31 0, fld 31 1, fld 31 2, fld 31 3, fld 31 4, fld 31 5, fld 31 6, fld 31 7, fld 31 8]) := by kernel_rfl
theorem f39_0 : (fld 31 0).type = 22 ∧ (fld 31 0).offset = 0 := ⟨by kernel_rfl, by kernel_rfl⟩
theorem f39_1 : (fld 31 1).type = 9 ∧ (fld 31 1).offset = 1 := ⟨by kernel_rfl, by kernel_rfl⟩
theorem f39_2 : (fld 31 2).type = 9 ∧ (fld 31 2).offset = 2 := ⟨by kernel_rfl, by kernel_rfl⟩
theorem f39_3 : (fld 31 3).type = 2 ∧ (fld 31 3).offset = 3 := ⟨by kernel_rfl, by kernel_rfl⟩
theorem f39_4 : (fld 31 4).type = 25 ∧ (fld 31 4).offset = 4 := ⟨by kernel_rfl, by kernel_rfl⟩
theorem f39_5 : (fld 31 5).type = 25 ∧ (fld 31 5).offset = 6 := ⟨by kernel_rfl, by kernel_rfl⟩
theorem f39_6 : (fld 31 6).type = 3 ∧ (fld 31 6).offset = 8 := ⟨by kernel_rfl, by kernel_rfl⟩
theorem f39_7 : (fld 31 7).type = 3 ∧ (fld 31 7).offset = 9 := ⟨by kernel_rfl, by kernel_rfl⟩
theorem f39_8 : (fld 31 8).type = 29 ∧ (fld 31 8).offset = 10 := ⟨by kernel_rfl, by kernel_rfl⟩
theorem u37 : Tryz.prog.underlying 29 = some (.slice 31) := by kernel_rfl
theorem u9 : Tryz.prog.underlying 9 = some .string := by kernel_rfl
theorem u2 : Tryz.prog.underlying 2 = some (.int .i64) := by kernel_rfl
theorem u3 : Tryz.prog.underlying 3 = some (.int .i64) := by kernel_rfl
theorem c39 : Tryz.prog.cellsOf 31 = 11 := by kernel_rfl
theorem c37 : Tryz.prog.cellsOf 29 = 1 := by kernel_rfl
theorem c9 : Tryz.prog.cellsOf 9 = 1 := by kernel_rfl
theorem c2 : Tryz.prog.cellsOf 2 = 1 := by kernel_rfl
theorem c3 : Tryz.prog.cellsOf 3 = 1 := by kernel_rfl
theorem tcells_len (t : Tm) : t.cells.length = 11 := by cases t; rfl
theorem tm_val {w : World} {v : Value} {t : Tm} (h : Stand w v.cells.toList t.cells) : RepV w (czAll w) v t.val := by
  have hl := h.1
  rw [tcells_len] at hl
  have key : ∀ arr : Array Value, Stand w arr.toList t.cells → RepV w (czAll w) (.agg arr) t.val := fun arr h =>
    .agg _ _ (RepL.ofD (C := czAll w) h.1 h.2)
  cases v <;> first | exact key _ h | (simp [Value.cells] at hl)
section
variable {H : Type} {enc : TypeId × Value → H} {w : World} {base : Nat} {spare : Nat → Bool} {held : Bool}
end
end Go.Proofs.YtlboogackecjlaaGreat.E
