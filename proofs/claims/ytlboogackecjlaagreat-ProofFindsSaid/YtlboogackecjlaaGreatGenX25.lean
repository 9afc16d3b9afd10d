/- Texts, merged: Pr12, Sm0, Sm1, Rw7, Glue, TmOpen, OpenS. No conditions. -/
import Derived.Test.YtlboogackecjlaaGreatPr11
import Derived.Test.YtlboogackecjlaaGreatGenX6
import Derived.Test.YtlboogackecjlaaGreatGenX15
import Derived.Test.YtlboogackecjlaaGreatGenX7
import Derived.Test.YtlboogackecjlaaGreatGenX14
import Derived.WalkKit
import Derived.ProofKit
import Derived.OpenShut
import Derived.ChangeOld
import Derived.Below
import Derived.SizedLaws
import Derived.WideKeyArgs
import Derived.Test.YtlboogackecjlaaGreatGenX3
/- The plain law: a derivation is one of a term just if it is the document's. No conditions. -/
set_option linter.unusedVariables false
set_option linter.unusedSimpArgs false
namespace Go.Proofs.YtlboogackecjlaaGreat.E
open Go

/-- What is found is the same. -/
theorem find_same (t : Tm) : findE t = rfindE t ∧ findP t = rfindP t := by
  by_cases h : soundP t = 0
  · obtain ⟨h1, h2⟩ := soundP_ok h
    obtain ⟨h3, h4⟩ := tmcheck_ok h1
    obtain ⟨r1, r2⟩ := rul_drv t h4 h2 [] (by simp)
    cases hb : (drv t [] none).2 with
    | false =>
      have : ¬ (rul t []).2.e = 0 := fun h => by rw [r1.1 h] at hb; cases hb
      simp [findE, rfindE, findP, rfindP, h, hb, this]
    | true => simp [findE, rfindE, findP, rfindP, h, hb, r1.2 hb, (r2 hb).2.1]
  · have h1 : findE t = soundP t := by simp [findE, h]
    have h2 : rfindE t = soundP t := by simp [rfindE, h]
    simp [h1, h2, findP, rfindP, h]
end Go.Proofs.YtlboogackecjlaaGreat.E

/- Small terms: counted with an early end. No conditions. -/
set_option linter.unusedVariables false
set_option linter.unusedSimpArgs false
namespace Go.Proofs.YtlboogackecjlaaGreat.E
open Go

structure TypedI (n m : Nat) where
  i : Nat
  c : Nat
  hi : i ≤ m
  h : i + n + 1 ≤ c ∧ c ≤ max 32769 (n + 1)
set_option maxRecDepth 10000 in
theorem typed_call (a : Ty) : ∀ n : Nat, n ≤ 32770 → ACall Tryz.prog 67 [a.val, .c (.d (.int .i64 n))] [] (fun o σ => ∃ r : Nat, (n < r ∧ r ≤ max 32769 (n + 1)) ∧ o = .ret (.c (.d (.int .i64 r))) ∧ σ = []) := by
  induction a using Ty.ind with
  | _ k ks ih =>
  intro n hn
  have hw : IntKind.i64.wrap ((n : Int) + 1) = ((n + 1 : Nat) : Int) := by rw [wrap64 (x := (n : Int) + 1) (by omega) (by omega)]; omega
  refine ACall.body tab_ok (ρ := 0) (N := 27) Tryz.func67 rfl rfl rfl rfl rfl ?_
  repeat' first | refine AW.seq ?_ | refine AW.block ?_ | ((first | refine AW.region tab_ok ?_ | refine AW.cond ?_ | refine AW.skip ?_ | refine AW.ret ?_ | refine AW.exit ?_); conv => whnf) | ((first | refine And.intro (@rfl Val _) ?_ | refine And.intro (by decide) ?_ | refine cs (fun _ => ?_) (fun _ => ?_)) <;> conv => whnf)
  refine AW.loop (ι := TypedI n ks.length) (fun x => ⟨27, [(5, .c (.d (.int .i64 x.i))), (1, .c (.d (.int .i64 x.c))), (2, .c (.ptr 0 0))], [.var [.d (.int .i8 k), .d (.sl 0 2 (Ty.rows ks))]], []⟩)
    (fun x => ks.length - x.i) ⟨0, n + 1, Nat.zero_le _, ⟨by omega, Nat.le_max_right _ _⟩⟩ 1 (fun _ => rfl) (Nat.le_of_ble_eq_true rfl) ⟨⟨rfl, by rw [hw]; rfl, rfl, trivial⟩, rfl, rfl, ⟨[], rfl⟩, rfl⟩ (fun x => ?_)
  obtain ⟨i, c, hi, h⟩ := x
  repeat' first | refine AW.seq ?_ | refine AW.block ?_ | ((first | refine AW.region tab_ok ?_ | refine AW.cond ?_ | refine AW.skip ?_ | refine AW.ret ?_ | refine AW.exit ?_); conv => whnf) | ((first | refine And.intro (@rfl Val _) ?_ | refine And.intro (by decide) ?_ | refine cs (fun _ => ?_) (fun _ => ?_)) <;> conv => whnf)
  · rename_i h1 h2
    simp only [rows_length] at h1 ⊢
    have := of_decide_eq_true h1
    have h3 : c ≤ 32768 := by have := of_decide_eq_true h2; simp only at this; omega
    refine ⟨by omega, fun row hrow => ?_⟩
    obtain ⟨⟨k', ks'⟩, ht, rfl⟩ := rows_get ks i row (by simpa using hrow)
    have hlt : i < ks.length := (List.getElem?_eq_some_iff.1 ht).1
    conv => whnf
    repeat' first | refine AW.seq ?_ | refine AW.block ?_ | ((first | refine AW.region tab_ok ?_ | refine AW.cond ?_ | refine AW.skip ?_ | refine AW.ret ?_ | refine AW.exit ?_); conv => whnf) | ((first | refine And.intro (@rfl Val _) ?_ | refine And.intro (by decide) ?_ | refine cs (fun _ => ?_) (fun _ => ?_)) <;> conv => whnf)
    refine (ih _ (List.mem_of_getElem? ht) _ (by omega)).mono ?_
    rintro _ _ ⟨r, hr, rfl, rfl⟩
    conv => whnf
    repeat' first | refine AW.seq ?_ | refine AW.block ?_ | ((first | refine AW.region tab_ok ?_ | refine AW.cond ?_ | refine AW.skip ?_ | refine AW.ret ?_ | refine AW.exit ?_); conv => whnf) | ((first | refine And.intro (@rfl Val _) ?_ | refine And.intro (by decide) ?_ | refine cs (fun _ => ?_) (fun _ => ?_)) <;> conv => whnf)
    rw [wrap64 (x := (i : Int) + 1) (by omega) (by omega)]
    exact ⟨⟨i + 1, r, hlt, by omega⟩, ⟨⟨rfl, rfl, rfl, trivial⟩, rfl, rfl, ⟨[], rfl⟩, rfl⟩, show ks.length - (i + 1) < ks.length - i by omega⟩
  · exact ⟨c, by omega, rfl, rfl⟩
  · exact ⟨c, by omega, rfl, rfl⟩
end Go.Proofs.YtlboogackecjlaaGreat.E

/- Small terms, great ones of layer 10: counted with an early end. No conditions. -/
set_option linter.unusedVariables false
set_option linter.unusedSimpArgs false
namespace Go.Proofs.YtlboogackecjlaaGreat.E
open Go

structure CountedP (n m most : Nat) where
  i : Nat
  c : Nat
  hi : i ≤ m
  h : i + n + 1 ≤ c ∧ c ≤ most
set_option maxRecDepth 10000 in
theorem smcounted_call (t : Tm) : ∀ n : Nat, n ≤ 32768 → ACall Tryz.prog 26 [t.val, .c (.d (.int .i64 n))] [] (fun o σ => ∃ r : Nat, (n < r ∧ r ≤ 32771) ∧ o = .ret (.c (.d (.int .i64 r))) ∧ σ = []) := by
  induction t using Tm.ind with
  | _ k name arg num tk tks uk uks label place ks ih =>
  intro n hn
  have hw : IntKind.i64.wrap ((n : Int) + 1) = ((n + 1 : Nat) : Int) := by rw [wrap64 (x := (n : Int) + 1) (by omega) (by omega)]; omega
  refine ACall.body tab_ok (ρ := 0) (N := 33) Tryz.func26 rfl rfl rfl rfl rfl ?_
  repeat' first | refine AW.seq ?_ | refine AW.block ?_ | (refine (id : AW _ _ _ (.region 1 _ true) _ _ → _) ?_; refine AW.draw (id := 1) tab_ok mixed [0, 1, 2, 3, 4, 5, 6, 7, 8] (by kernel_rfl) ?_; conv => whnf) | ((first | refine AW.region tab_ok ?_ | refine AW.cond ?_ | refine AW.skip ?_ | refine AW.ret ?_ | refine AW.exit ?_); conv => whnf) | ((first | refine And.intro (@rfl Val _) ?_ | refine And.intro (by decide) ?_ | refine cs (fun _ => ?_) (fun _ => ?_)) <;> conv => whnf)
  all_goals rw [hw]
  refine (typed_call (.node tk tks) (n + 1) (by omega)).mono ?_
  rintro _ _ ⟨r1, hr1, rfl, rfl⟩
  conv => whnf
  repeat' first | refine AW.seq ?_ | refine AW.block ?_ | (refine (id : AW _ _ _ (.region 1 _ true) _ _ → _) ?_; refine AW.draw (id := 1) tab_ok mixed [0, 1, 2, 3, 4, 5, 6, 7, 8] (by kernel_rfl) ?_; conv => whnf) | ((first | refine AW.region tab_ok ?_ | refine AW.cond ?_ | refine AW.skip ?_ | refine AW.ret ?_ | refine AW.exit ?_); conv => whnf) | ((first | refine And.intro (@rfl Val _) ?_ | refine And.intro (by decide) ?_ | refine cs (fun _ => ?_) (fun _ => ?_)) <;> conv => whnf)
  refine (typed_call (.node uk uks) r1 (by omega)).mono ?_
  rintro _ _ ⟨r2, hr2, rfl, rfl⟩
  conv => whnf
  repeat' first | refine AW.seq ?_ | refine AW.block ?_ | (refine (id : AW _ _ _ (.region 1 _ true) _ _ → _) ?_; refine AW.draw (id := 1) tab_ok mixed [0, 1, 2, 3, 4, 5, 6, 7, 8] (by kernel_rfl) ?_; conv => whnf) | ((first | refine AW.region tab_ok ?_ | refine AW.cond ?_ | refine AW.skip ?_ | refine AW.ret ?_ | refine AW.exit ?_); conv => whnf) | ((first | refine And.intro (@rfl Val _) ?_ | refine And.intro (by decide) ?_ | refine cs (fun _ => ?_) (fun _ => ?_)) <;> conv => whnf)
  refine AW.loop (ι := CountedP n ks.length 32771) (fun x => ⟨33, [(5, .c (.d (.int .i64 x.i))), (1, .c (.d (.int .i64 x.c))), (2, .c (.ptr 0 0))], [.var (Tm.cells (.node k name arg num tk tks uk uks label place ks) |>.map .d)], []⟩)
    (fun x => ks.length - x.i) ⟨0, r2, Nat.zero_le _, by omega⟩ 1 (fun _ => rfl) (Nat.le_of_ble_eq_true rfl) ⟨⟨rfl, rfl, rfl, trivial⟩, rfl, rfl, ⟨[], rfl⟩, rfl⟩ (fun x => ?_)
  obtain ⟨i, c, hi, h⟩ := x
  repeat' first | refine AW.seq ?_ | refine AW.block ?_ | (refine (id : AW _ _ _ (.region 1 _ true) _ _ → _) ?_; refine AW.draw (id := 1) tab_ok mixed [0, 1, 2, 3, 4, 5, 6, 7, 8] (by kernel_rfl) ?_; conv => whnf) | ((first | refine AW.region tab_ok ?_ | refine AW.cond ?_ | refine AW.skip ?_ | refine AW.ret ?_ | refine AW.exit ?_); conv => whnf) | ((first | refine And.intro (@rfl Val _) ?_ | refine And.intro (by decide) ?_ | refine cs (fun _ => ?_) (fun _ => ?_)) <;> conv => whnf)
  · rename_i h1 h2
    simp only [trows_length] at h1 ⊢
    have := of_decide_eq_true h1
    have h3 : c ≤ 32768 := by have := of_decide_eq_true h2; simp only at this; omega
    refine ⟨by omega, fun row hrow => ?_⟩
    obtain ⟨t, ht, rfl⟩ := trows_get ks i row (by simpa using hrow)
    have hlt : i < ks.length := (List.getElem?_eq_some_iff.1 ht).1
    obtain ⟨kx, namex, argx, numx, tkx, tksx, ukx, uksx, labelx, placex, ksx⟩ := t
    conv => whnf
    repeat' first | refine AW.seq ?_ | refine AW.block ?_ | (refine (id : AW _ _ _ (.region 1 _ true) _ _ → _) ?_; refine AW.draw (id := 1) tab_ok mixed [0, 1, 2, 3, 4, 5, 6, 7, 8] (by kernel_rfl) ?_; conv => whnf) | ((first | refine AW.region tab_ok ?_ | refine AW.cond ?_ | refine AW.skip ?_ | refine AW.ret ?_ | refine AW.exit ?_); conv => whnf) | ((first | refine And.intro (@rfl Val _) ?_ | refine And.intro (by decide) ?_ | refine cs (fun _ => ?_) (fun _ => ?_)) <;> conv => whnf)
    refine (ih _ (List.mem_of_getElem? ht) _ (by omega)).mono ?_
    rintro _ _ ⟨r, hr, rfl, rfl⟩
    conv => whnf
    repeat' first | refine AW.seq ?_ | refine AW.block ?_ | (refine (id : AW _ _ _ (.region 1 _ true) _ _ → _) ?_; refine AW.draw (id := 1) tab_ok mixed [0, 1, 2, 3, 4, 5, 6, 7, 8] (by kernel_rfl) ?_; conv => whnf) | ((first | refine AW.region tab_ok ?_ | refine AW.cond ?_ | refine AW.skip ?_ | refine AW.ret ?_ | refine AW.exit ?_); conv => whnf) | ((first | refine And.intro (@rfl Val _) ?_ | refine And.intro (by decide) ?_ | refine cs (fun _ => ?_) (fun _ => ?_)) <;> conv => whnf)
    rw [wrap64 (x := (i : Int) + 1) (by omega) (by omega)]
    exact ⟨⟨i + 1, r, hlt, by omega⟩, ⟨⟨rfl, rfl, rfl, trivial⟩, rfl, rfl, ⟨[], rfl⟩, rfl⟩, show ks.length - (i + 1) < ks.length - i by omega⟩
  · exact ⟨c, by omega, rfl, rfl⟩
  · exact ⟨c, by omega, rfl, rfl⟩
set_option maxRecDepth 10000 in
theorem Small_call (t : Tm) : ACall Tryz.prog 12 [t.val] [] (fun o σ => ∃ b : Bool, o = .ret (.c (.d (.bool b))) ∧ σ = []) := by
  obtain ⟨k, name, arg, num, tk, tks, uk, uks, label, place, ks⟩ := t
  refine ACall.body tab_ok (ρ := 0) (N := 6) Tryz.func12 rfl rfl rfl rfl rfl ?_
  repeat' first | refine AW.seq ?_ | refine AW.block ?_ | ((first | refine AW.region tab_ok ?_ | refine AW.cond ?_ | refine AW.skip ?_ | refine AW.ret ?_ | refine AW.exit ?_); conv => whnf) | ((first | refine And.intro (@rfl Val _) ?_ | refine And.intro (by decide) ?_ | refine cs (fun _ => ?_) (fun _ => ?_)) <;> conv => whnf)
  refine (smcounted_call (.node k name arg num tk tks uk uks label place ks) 0 (by omega)).mono ?_
  rintro _ _ ⟨r, hr, rfl, rfl⟩
  conv => whnf
  repeat' first | refine AW.seq ?_ | refine AW.block ?_ | ((first | refine AW.region tab_ok ?_ | refine AW.cond ?_ | refine AW.skip ?_ | refine AW.ret ?_ | refine AW.exit ?_); conv => whnf) | ((first | refine And.intro (@rfl Val _) ?_ | refine And.intro (by decide) ?_ | refine cs (fun _ => ?_) (fun _ => ?_)) <;> conv => whnf)
  exact ⟨_, rfl, rfl⟩
set_option maxRecDepth 10000 in
theorem pcounted_call (t : Tm) : ∀ n : Nat, n ≤ 2000 → ACall Tryz.prog 16 [t.val, .c (.ptr 0 0)] [.var [.d (.int .i64 n)]] (fun o σ => ∃ r : Nat, (n < r ∧ r ≤ 2001) ∧ o = .ret (.c (.d (.int .i64 r))) ∧ σ = [.var [.d (.int .i64 r)]]) := by
  induction t using Tm.ind with
  | _ k name arg num tk tks uk uks label place ks ih =>
  intro n hn
  have hw : IntKind.i64.wrap ((n : Int) + 1) = ((n + 1 : Nat) : Int) := by rw [wrap64 (x := (n : Int) + 1) (by omega) (by omega)]; omega
  refine ACall.body tab_ok (ρ := 0) (N := 35) Tryz.func16 rfl rfl rfl rfl rfl ?_
  repeat' first | refine AW.seq ?_ | refine AW.block ?_ | ((first | refine AW.region tab_ok ?_ | refine AW.cond ?_ | refine AW.skip ?_ | refine AW.ret ?_ | refine AW.exit ?_); conv => whnf) | ((first | refine And.intro (@rfl Val _) ?_ | refine And.intro (by decide) ?_ | refine cs (fun _ => ?_) (fun _ => ?_)) <;> conv => whnf)
  refine AW.loop (ι := CountedP n ks.length 2001) (fun x => ⟨35, [(5, .c (.d (.int .i64 x.i))), (1, .c (.ptr 0 0)), (2, .c (.ptr 1 0))], [.var [.d (.int .i64 x.c)], .var (Tm.cells (.node k name arg num tk tks uk uks label place ks) |>.map .d)], []⟩)
    (fun x => ks.length - x.i) ⟨0, n + 1, Nat.zero_le _, by omega⟩ 2 (fun _ => rfl) (Nat.le_of_ble_eq_true rfl) ⟨⟨rfl, rfl, rfl, trivial⟩, rfl, rfl, ⟨[], by rw [hw]; rfl⟩, rfl⟩ (fun x => ?_)
  obtain ⟨i, c, hi, h⟩ := x
  repeat' first | refine AW.seq ?_ | refine AW.block ?_ | ((first | refine AW.region tab_ok ?_ | refine AW.cond ?_ | refine AW.skip ?_ | refine AW.ret ?_ | refine AW.exit ?_); conv => whnf) | ((first | refine And.intro (@rfl Val _) ?_ | refine And.intro (by decide) ?_ | refine cs (fun _ => ?_) (fun _ => ?_)) <;> conv => whnf)
  · rename_i h1 h2
    simp only [trows_length] at h1 ⊢
    have := of_decide_eq_true h1
    have h3 : c ≤ 2000 := by have := of_decide_eq_true h2; simp only at this; omega
    refine ⟨by omega, fun row hrow => ?_⟩
    obtain ⟨t, ht, rfl⟩ := trows_get ks i row (by simpa using hrow)
    have hlt : i < ks.length := (List.getElem?_eq_some_iff.1 ht).1
    obtain ⟨kx, namex, argx, numx, tkx, tksx, ukx, uksx, labelx, placex, ksx⟩ := t
    conv => whnf
    repeat' first | refine AW.seq ?_ | refine AW.block ?_ | ((first | refine AW.region tab_ok ?_ | refine AW.cond ?_ | refine AW.skip ?_ | refine AW.ret ?_ | refine AW.exit ?_); conv => whnf) | ((first | refine And.intro (@rfl Val _) ?_ | refine And.intro (by decide) ?_ | refine cs (fun _ => ?_) (fun _ => ?_)) <;> conv => whnf)
    refine (ih _ (List.mem_of_getElem? ht) _ h3).mono ?_
    rintro _ _ ⟨r, hr, rfl, rfl⟩
    conv => whnf
    repeat' first | refine AW.seq ?_ | refine AW.block ?_ | ((first | refine AW.region tab_ok ?_ | refine AW.cond ?_ | refine AW.skip ?_ | refine AW.ret ?_ | refine AW.exit ?_); conv => whnf) | ((first | refine And.intro (@rfl Val _) ?_ | refine And.intro (by decide) ?_ | refine cs (fun _ => ?_) (fun _ => ?_)) <;> conv => whnf)
    rw [wrap64 (x := (i : Int) + 1) (by omega) (by omega)]
    exact ⟨⟨i + 1, r, hlt, by omega⟩, ⟨⟨rfl, rfl, rfl, trivial⟩, rfl, rfl, ⟨[], rfl⟩, rfl⟩, show ks.length - (i + 1) < ks.length - i by omega⟩
  · exact ⟨c, by omega, rfl, rfl⟩
  · exact ⟨c, by omega, rfl, rfl⟩
set_option maxRecDepth 10000 in
theorem pgreat_call (t : Tm) : ACall Tryz.prog 5 [t.val] [] (fun o σ => ∃ b : Bool, o = .ret (.c (.d (.bool b))) ∧ σ = []) := by
  obtain ⟨k, name, arg, num, tk, tks, uk, uks, label, place, ks⟩ := t
  have c1 := Small_call (.node k name arg num tk tks uk uks label place ks)
  have c2 := pcounted_call (.node k name arg num tk tks uk uks label place ks) 0 (by omega)
  refine ACall.body tab_ok (ρ := 0) (N := 11) Tryz.func5 rfl rfl rfl rfl rfl ?_
  repeat' first | ((refine c1.mono ?_; rintro _ _ ⟨b, rfl, rfl⟩; cases b <;> conv => whnf)) | ((refine c2.mono ?_; rintro _ _ ⟨r, hr, rfl, rfl⟩; conv => whnf)) | refine AW.seq ?_ | refine AW.block ?_ | ((first | refine AW.region tab_ok ?_ | refine AW.cond ?_ | refine AW.skip ?_ | refine AW.ret ?_ | refine AW.exit ?_); conv => whnf) | ((first | refine And.intro (@rfl Val _) ?_ | refine And.intro (by decide) ?_ | refine cs (fun _ => ?_) (fun _ => ?_)) <;> conv => whnf)
  all_goals first | exact ⟨_, rfl, rfl⟩
end Go.Proofs.YtlboogackecjlaaGreat.E

/- ProofFinds: the law, walked. No conditions. -/
set_option linter.unusedVariables false
set_option linter.unusedSimpArgs false
namespace Go.Proofs.YtlboogackecjlaaGreat.E
open Go

theorem pl_cells0 {l : List DV} (h : RtC 0 l l) : ∀ a ∈ l.map AV.d, PlA a := fun a ha => by
  obtain ⟨x, hx, rfl⟩ := List.mem_map.1 ha
  obtain ⟨i, hi, rfl⟩ := List.getElem_of_mem hx
  exact .d _ (h.get.2 i _ _ (List.getElem?_eq_getElem hi) (List.getElem?_eq_getElem hi))
theorem pl_cells2 {l : List DV} (h : RtC 2 l l) : ∀ a ∈ l.map AV.d, PlA a := fun a ha => by
  obtain ⟨x, hx, rfl⟩ := List.mem_map.1 ha
  obtain ⟨i, hi, rfl⟩ := List.getElem_of_mem hx
  exact .d2 _ (h.get.2 i _ _ (List.getElem?_eq_getElem hi) (List.getElem?_eq_getElem hi))
theorem thl_of : ∀ {l m : List DV}, ThCells l m → ThL (l.map .d) (m.map .d)
  | [], [], h => .nil
  | [], _ :: _, h => by have := h.1; simp at this
  | _ :: _, [], h => by have := h.1; simp at this
  | x :: l, y :: m, h => .cons (.d _ _ (h.2 0 x y rfl rfl)) (thl_of ⟨by simpa using h.1, fun i u v hu hv => h.2 (i + 1) u v (by simpa using hu) (by simpa using hv)⟩)
theorem thl_keep0 {l : List DV} (h : RtC 0 l l) : ThL (l.map .d) (l.map .d) := thl_of ⟨rfl, fun i x y hx hy => by
  rw [hx] at hy; cases hy; exact .keep0 _ (h.get.2 i x x hx hx)⟩
theorem thl_keep2 {l : List DV} (h : RtC 2 l l) : ThL (l.map .d) (l.map .d) := thl_of ⟨rfl, fun i x y hx hy => by
  rw [hx] at hy; cases hy; exact .keep2 _ (h.get.2 i x x hx hx)⟩
theorem tm_rt0 (t : Tm) : RtC 0 t.cells t.cells := by have := tm_rt 0 0 0 t; rwa [tm_R0] at this
theorem pf_rt0 (p : Pf) : RtC 0 p.cells p.cells := by have := pf_rt 0 0 p; rwa [pf_R0] at this
theorem Find2_of (t : Tm) (p q : Nat) (hf : tmcheck t = 0 → Fine2 t) : ACall Tryz.prog 9 [t.valR p q] [] (fun o σ => o = .ret (.tup [(findP t).valR 2, .c (.d (.int .i64 (findE t)))]) ∧ σ = []) :=
  ACall.argsT (.cons (.rt (tm_rtV p q 9 t)) .nil) (Find2_call t hf)
theorem plike2_call (p : Pf) (h : PfOk p) : ACall Tryz.prog 11 [p.valR 2, p.val] [] (fun o σ => o = .ret (.c (.d (.bool true))) ∧ σ = []) :=
  (plike_call p h).any (.cons (by rw [← pf_V0]; exact pf_rtV 2 0 p) (.cons (by rw [← pf_V0]; exact pf_rtV 0 0 p) .nil)) (.bool _)
theorem likeTm14_call (t : Tm) (h : TmOk t) : ACall Tryz.prog 14 [t.valR 1 4, t.val] [] (fun o σ => o = .ret (.c (.d (.bool true))) ∧ σ = []) :=
  (likeTmO_call t h).any (.cons (by rw [← tm_V0]; exact tm_rtV 1 4 0 t) (.cons (by rw [← tm_V0]; exact tm_rtV 0 0 0 t) .nil)) (.bool _)
set_option maxRecDepth 10000 in
set_option maxHeartbeats 1000000 in
theorem law_ProofFinds (t : Tm) (hf : TmOk t) : ACall Tryz.prog 4 [t.val] [] (fun o σ => o = .ret (.c (.d (.bool true))) ∧ σ = []) := by
  have c0 := pgreat_call t
  have cs0 := Small_call t
  have hff : tmcheck t = 0 → Fine2 t := fun h => fine2_of t hf (tmcheck_ok h).2
  have c1 := Find2_of t 0 0 hff
  rw [tm_V0] at c1
  have c2 := RFindP_call t
  rw [← (find_same t).1, ← (find_same t).2] at c2
  have hp := findP_ok t hff
  have c3 := plike2_call (findP t) hp
  have c4 := copiedTm_call t hf
  have c5 := Find2_of t 1 4 hff
  have c6 := likeTm14_call t hf
  have c7 := spoilTm_call t hf
  generalize findE t = E at *
  generalize findP t = Q at *
  have pl : PlS ⟨52, [(1, .c (.ptr 0 0)), (3, .c (.ptr 1 0)), (5, .c (.ptr 2 0))], [.var (t.cells.map .d), .var ((Q.cellsR 2).map .d), .var (Q.cells.map .d)], []⟩ := ⟨fun p hp => by
      rcases List.mem_cons.1 hp with rfl | hp
      · exact .c _ (.ptr _ _)
      · rcases List.mem_cons.1 hp with rfl | hp
        · exact .c _ (.ptr _ _)
        · rcases List.mem_cons.1 hp with rfl | hp
          · exact .c _ (.ptr _ _)
          · simp at hp, fun o ho => by
      rcases List.mem_cons.1 ho with rfl | ho
      · exact .var _ (pl_cells0 (tm_rt0 t))
      · rcases List.mem_cons.1 ho with rfl | ho
        · exact .var _ (pl_cells2 (pf_rt 2 2 Q))
        · rcases List.mem_cons.1 ho with rfl | ho
          · exact .var _ (pl_cells0 (pf_rt0 Q))
          · simp at ho, rfl⟩
  have th : ThS ⟨52, [(1, .c (.ptr 0 0)), (3, .c (.ptr 1 0)), (5, .c (.ptr 2 0)), (7, .c (.ptr 3 0)), (8, .c (.ptr 4 0))], [.var (t.cells.map .d), .var ((Q.cellsR 2).map .d), .var (Q.cells.map .d), .var ((t.cellsR 1 4).map .d), .var ((Q.cellsR 2).map .d)], []⟩ ⟨52, [(1, .c (.ptr 0 0)), (3, .c (.ptr 1 0)), (5, .c (.ptr 2 0)), (7, .c (.ptr 3 0)), (8, .c (.ptr 4 0))], [.var (t.cells.map .d), .var ((Q.cellsR 2).map .d), .var (Q.cells.map .d), .var (t.cellsW.map .d), .var ((Q.cellsR 2).map .d)], []⟩ := ⟨fun p hp => by
      rcases List.mem_cons.1 hp with rfl | hp
      · exact .c (.ptr _ _)
      · rcases List.mem_cons.1 hp with rfl | hp
        · exact .c (.ptr _ _)
        · rcases List.mem_cons.1 hp with rfl | hp
          · exact .c (.ptr _ _)
          · rcases List.mem_cons.1 hp with rfl | hp
            · exact .c (.ptr _ _)
            · rcases List.mem_cons.1 hp with rfl | hp
              · exact .c (.ptr _ _)
              · simp at hp,
    .cons (thl_keep0 (tm_rt0 t)) (.cons (thl_keep2 (pf_rt 2 2 Q)) (.cons (thl_keep0 (pf_rt0 Q)) (.cons (thl_of (tm_th t)) (.cons (thl_keep2 (pf_rt 2 2 Q)) .nil)))), rfl, rfl, rfl⟩
  clear hf hff hp
  obtain ⟨k, name, arg, num, tk, tks, uk, uks, label, place, ks⟩ := t
  obtain ⟨pr, ⟨pk, pks⟩, pqs⟩ := Q
  refine ACall.body tab_ok (ρ := 0) (N := 52) Tryz.func4 rfl rfl rfl rfl rfl ?_
  repeat' first | ((refine FitsX.mk ⟨?_, rfl, rfl, ⟨[], rfl⟩, rfl⟩ rfl; repeat' (first | exact rfl | exact trivial | refine ⟨rfl, ?_⟩))) | ((refine (id : AW _ _ _ (.seq (.region 8 _ false) _) _ _ → _) ?_; refine AW.fits (I := ⟨52, [(1, .c (.ptr 0 0)), (3, .c (.ptr 1 0)), (5, .c (.ptr 2 0))], [.var ((Tm.node k name arg num tk tks uk uks label place ks).cells.map .d), .var (((Pf.node pr (.node pk pks) pqs).cellsR 2).map .d), .var ((Pf.node pr (.node pk pks) pqs).cells.map .d)], []⟩) ⟨⟨rfl, rfl, rfl, trivial⟩, rfl, rfl, ⟨[], rfl⟩, rfl⟩ rfl ?_; refine AW.hide pl (fun w0 C0 hI0 => AWx.step (S1 := ⟨52, [(1, .c (.ptr 0 0)), (3, .c (.ptr 1 0)), (5, .c (.ptr 2 0)), (7, .c (.ptr 3 0))], [.var ((Tm.node k name arg num tk tks uk uks label place ks).cells.map .d), .var (((Pf.node pr (.node pk pks) pqs).cellsR 2).map .d), .var ((Pf.node pr (.node pk pks) pqs).cells.map .d), .var (((Tm.node k name arg num tk tks uk uks label place ks).cellsR 1 4).map .d)], []⟩) rfl ?_ (AWx.step (S1 := ⟨52, [(1, .c (.ptr 0 0)), (3, .c (.ptr 1 0)), (5, .c (.ptr 2 0)), (7, .c (.ptr 3 0)), (8, .c (.ptr 4 0))], [.var ((Tm.node k name arg num tk tks uk uks label place ks).cells.map .d), .var (((Pf.node pr (.node pk pks) pqs).cellsR 2).map .d), .var ((Pf.node pr (.node pk pks) pqs).cells.map .d), .var (((Tm.node k name arg num tk tks uk uks label place ks).cellsR 1 4).map .d), .var (((Pf.node pr (.node pk pks) pqs).cellsR 2).map .d)], []⟩) rfl ?_ (AWx.step (S1 := ⟨52, [(1, .c (.ptr 0 0)), (3, .c (.ptr 1 0)), (5, .c (.ptr 2 0)), (7, .c (.ptr 3 0)), (8, .c (.ptr 4 0))], [.var ((Tm.node k name arg num tk tks uk uks label place ks).cells.map .d), .var (((Pf.node pr (.node pk pks) pqs).cellsR 2).map .d), .var ((Pf.node pr (.node pk pks) pqs).cells.map .d), .var (((Tm.node k name arg num tk tks uk uks label place ks).cellsR 1 4).map .d), .var (((Pf.node pr (.node pk pks) pqs).cellsR 2).map .d)], []⟩) rfl ?_ (AWx.thaw (S' := ⟨52, [(1, .c (.ptr 0 0)), (3, .c (.ptr 1 0)), (5, .c (.ptr 2 0)), (7, .c (.ptr 3 0)), (8, .c (.ptr 4 0))], [.var ((Tm.node k name arg num tk tks uk uks label place ks).cells.map .d), .var (((Pf.node pr (.node pk pks) pqs).cellsR 2).map .d), .var ((Pf.node pr (.node pk pks) pqs).cells.map .d), .var ((Tm.node k name arg num tk tks uk uks label place ks).cellsW.map .d), .var (((Pf.node pr (.node pk pks) pqs).cellsR 2).map .d)], []⟩) hI0 th ?_)))))) | ((refine c0.mono ?_; rintro _ _ ⟨b, rfl, rfl⟩; cases b <;> conv => whnf)) | ((refine cs0.mono ?_; rintro _ _ ⟨b, rfl, rfl⟩; cases b <;> conv => whnf)) | refine AW.seq ?_ | refine AW.block ?_ | ((first | refine AW.region tab_ok ?_ | refine AW.cond ?_ | refine AW.skip ?_ | refine AW.ret ?_ | refine AW.exit ?_); conv => whnf) | ((first | refine (c1).mono ?_ | refine (c2).mono ?_ | refine (c3).mono ?_ | refine (c4).mono ?_ | refine (c5).mono ?_ | refine (c6).mono ?_ | refine (c7).mono ?_ | refine (wakes10_call).mono ?_); rintro _ _ ⟨rfl, rfl⟩; conv => whnf) | ((first | refine And.intro (@rfl Val _) ?_ | refine And.intro (by decide) ?_ | refine cs (fun _ => ?_) (fun _ => ?_)) <;> conv => whnf)
  all_goals first | exact ⟨rfl, rfl⟩ | exact trivial | (exfalso; simp_all; done)
end Go.Proofs.YtlboogackecjlaaGreat.E

/- From a law's walk to its row: parts for all rows. No conditions. -/
namespace Go.Proofs.YtlboogackecjlaaGreat.E
open Go Go.RowKit

theorem rep1 {w : World} {C : Cz} {u : Value} {x : Val} (h : RepV w C u x) : RepVs w C #[u].toList [x] := .cons h ⟨rfl, fun i v x h => by simp at h⟩
/-- A law that is true: as a call. -/
theorem law_true {P : Program} {f : FuncId} {args : List Val} (h : ACall P f args [] (fun o σ => o = .ret (.c (.d (.bool true))) ∧ σ = [])) {w : World} {vs : Array Value} (hv : RepVs w (czAll w) vs.toList args) :
    Calls P f vs w fun e w' => e = .returned (.bool true) ∧ Below w.heap.size w w' :=
  (h.out w (czAll w) vs (inv_all w) hv).mono fun e w' ⟨o, σ', C', ⟨ho, hs⟩, hI, hX, hO⟩ => by
    subst ho; subst hs
    obtain ⟨v, rfl, hr⟩ := hO
    have := bool_of hr
    subst this
    exact ⟨rfl, hX.os, hX.tape, hX.output, hX.size, fun k hk => hX.frame k hk (fun ⟨i, o, e, h, _⟩ => by simp at h) (fun r hr => by simp only [czAll, rgAll] at hr; rw [if_pos hk] at hr; cases hr; rfl)⟩
end Go.Proofs.YtlboogackecjlaaGreat.E

/- From a row's reading of a term to a tree. No conditions. -/
set_option linter.unusedVariables false
set_option linter.unusedSimpArgs false
namespace Go.Proofs.YtlboogackecjlaaGreat.E
open Go Go.RowKit

theorem u39 : Tryz.prog.underlying 31 = some (.struct #[fld 31 0, fld 31 1, fld 31 2, fld 31 3, fld 31 4, fld 31 5, fld 31 6, fld 31 7, fld 31 8]) := by kernel_rfl
theorem f39_0 : (fld 31 0).type = 22 ∧ (fld 31 0).offset = 0 := ⟨by kernel_rfl, by kernel_rfl⟩
theorem f39_1 : (fld 31 1).type = 9 ∧ (fld 31 1).offset = 1 := ⟨by kernel_rfl, by kernel_rfl⟩
theorem f39_2 : (fld 31 2).type = 9 ∧ (fld 31 2).offset = 2 := ⟨by kernel_rfl, by kernel_rfl⟩
theorem f39_3 : (fld 31 3).type = 2 ∧ (fld 31 3).offset = 3 := ⟨by kernel_rfl, by kernel_rfl⟩
theorem f39_4 : (fld 31 4).type = 25 ∧ (fld 31 4).offset = 4 := ⟨by kernel_rfl, by kernel_rfl⟩
theorem f39_5 : (fld 31 5).type = 25 ∧ (fld 31 5).offset = 6 := ⟨by kernel_rfl, by kernel_rfl⟩
theorem f39_6 : (fld 31 6).type = 3 ∧ (fld 31 6).offset = 8 := ⟨by kernel_rfl, by kernel_rfl⟩
theorem f39_7 : (fld 31 7).type = 3 ∧ (fld 31 7).offset = 9 := ⟨by kernel_rfl, by kernel_rfl⟩
theorem f39_8 : (fld 31 8).type = 29 ∧ (fld 31 8).offset = 10 := ⟨by kernel_rfl, by kernel_rfl⟩
theorem u37 : Tryz.prog.underlying 29 = some (.slice 31) := by kernel_rfl
theorem u9 : Tryz.prog.underlying 9 = some .string := by kernel_rfl
theorem u2 : Tryz.prog.underlying 2 = some (.int .i64) := by kernel_rfl
theorem u3 : Tryz.prog.underlying 3 = some (.int .i64) := by kernel_rfl
theorem c39 : Tryz.prog.cellsOf 31 = 11 := by kernel_rfl
theorem c37 : Tryz.prog.cellsOf 29 = 1 := by kernel_rfl
theorem c9 : Tryz.prog.cellsOf 9 = 1 := by kernel_rfl
theorem c2 : Tryz.prog.cellsOf 2 = 1 := by kernel_rfl
theorem c3 : Tryz.prog.cellsOf 3 = 1 := by kernel_rfl
theorem tcells_len (t : Tm) : t.cells.length = 11 := by cases t; rfl
theorem tm_val {w : World} {v : Value} {t : Tm} (h : Stand w v.cells.toList t.cells) : RepV w (czAll w) v t.val := by
  have hl := h.1
  rw [tcells_len] at hl
  have key : ∀ arr : Array Value, Stand w arr.toList t.cells → RepV w (czAll w) (.agg arr) t.val := fun arr h =>
    .agg _ _ (RepL.ofD (C := czAll w) h.1 h.2)
  cases v <;> first | exact key _ h | (simp [Value.cells] at hl)
section
variable {H : Type} {enc : TypeId × Value → H} {w : World} {base : Nat} {spare : Nat → Bool} {held : Bool}
end
end Go.Proofs.YtlboogackecjlaaGreat.E

/- From a row's reading to trees, with the reach of each slice. No conditions. -/
set_option linter.unusedVariables false
set_option linter.unusedSimpArgs false
namespace Go.Proofs.YtlboogackecjlaaGreat.E
open Go Go.RowKit

section
variable {H : Type} {enc : TypeId × Value → H} {w : World} {base : Nat} {spare : Nat → Bool} {held : Bool}
theorem stand_sliceQ {α : Type} (Q : α → Prop) (sz : Nat) (hsz : 0 < sz) (f : α → List DV) (hf : ∀ x, (f x).length = sz) {a : Addr} {len cap : Nat} (hlc : len ≤ cap) (h : ∀ i, i < len → ∃ x cs, w.cells? base (a.add (i * sz)) sz = some cs ∧ Stand w cs (f x) ∧ Q x) :
    ∃ xs : List α, xs.length = len ∧ (∀ x ∈ xs, Q x) ∧ RepD w (rgAll w) (.slice (some a) len cap) (.sl 0 sz (xs.map f)) := by
  obtain ⟨xs, h1, h2⟩ := stand_slice (α := {x : α // Q x}) (w := w) (base := base) sz hsz (fun x => f x.1) (fun x => hf x.1) hlc (fun i hi => by
    obtain ⟨x, cs, g1, g2, g3⟩ := h i hi
    exact ⟨⟨x, g3⟩, cs, g1, g2⟩)
  refine ⟨xs.map (·.1), by simpa using h1, fun x hx => ?_, by simpa [List.map_map] using h2⟩
  obtain ⟨y, _, rfl⟩ := List.mem_map.1 hx
  exact y.2
theorem weights_part {P : Program} {ts : List TypeId} {ds : List (DataW H)} (h : (DataW.weightsEach P ts ds).all (· ≤ reachBytes) = true) {j : Nat} {t : TypeId} {d : DataW H} (ht : ts[j]? = some t) (hd : ds[j]? = some d) : (d.weights P t).all (· ≤ reachBytes) = true :=
  List.all_eq_true.2 fun n hn => List.all_eq_true.1 h n (DataW.weights_mem_each ht hd n hn)
theorem weights_all {P : Program} {e : TypeId} : ∀ {ds : List (DataW H)} {j : Nat} {d : DataW H}, ds[j]? = some d → ∀ n ∈ d.weights P e, n ∈ DataW.weightsAll P e ds
  | d0 :: ds, 0, d, hd, n, hn => by
    simp only [List.getElem?_cons_zero, Option.some.injEq] at hd
    subst hd
    simp only [DataW.weightsAll, List.mem_append]
    exact .inl hn
  | d0 :: ds, j + 1, d, hd, n, hn => by
    simp only [List.getElem?_cons_succ] at hd
    simp only [DataW.weightsAll, List.mem_append]
    exact .inr (weights_all hd n hn)
  | [], _, _, hd, _, _ => by simp at hd
theorem weights_elem {P : Program} {t e : TypeId} {elems rest : List (DataW H)} (hu : P.underlying t = some (.slice e)) (h : ((DataW.slice elems rest).weights P t).all (· ≤ reachBytes) = true) :
    elems.length * P.bytesOf e ≤ reachBytes ∧ ∀ {j : Nat} {d : DataW H}, elems[j]? = some d → (d.weights P e).all (· ≤ reachBytes) = true := by
  simp only [DataW.weights, hu] at h
  rw [List.all_eq_true] at h
  refine ⟨?_, fun hd => List.all_eq_true.2 fun n hn => h n (List.mem_cons_of_mem _ (List.mem_append.2 (.inl (weights_all hd n hn))))⟩
  have h1 := h _ (List.mem_cons_self ..)
  have h1 : (elems.length + rest.length) * P.bytesOf e ≤ reachBytes := of_decide_eq_true h1
  exact Nat.le_trans (Nat.mul_le_mul_right _ (Nat.le_add_right _ _)) h1
theorem b30 : Tryz.prog.bytesOf 25 = 32 := by kernel_rfl
theorem b39 : Tryz.prog.bytesOf 31 = 152 := by kernel_rfl
theorem reach_le {n : Nat} (h : n ≤ reachBytes) : n ≤ 140737488355328 := by
  have : reachBytes < 2 ^ 47 := by decide
  omega
set_option maxRecDepth 100000 in
theorem open_tyS : ∀ (fuel : Nat) (cs : List Value) x, DataW.trod enc Tryz.prog w base spare held fuel 25 cs = some x → (x.1.weights Tryz.prog 25).all (· ≤ reachBytes) = true → ∃ t : Ty, Stand w cs t.cells ∧ TyOk t
  | 0, cs, x, h, hz => by simp [DataW.trod] at h
  | fuel + 1, cs, x, h, hz => by
    obtain ⟨xs, n, hn, hx, hl, hxl, hf⟩ := DataW.trod_struct u30 h
    subst hx
    simp only [DataW.weights, u30] at hz
    obtain rfl : fuel = n := by omega
    rw [c30] at hl
    obtain ⟨a, b, rfl⟩ : ∃ a b, cs = [a, b] := by
      match cs, hl with
      | [a, b], _ => exact ⟨a, b, rfl⟩
    have h0 := hf 0 (fld 25 0) rfl
    have h1 := hf 1 (fld 25 1) rfl
    rw [f30_0.1, f30_0.2, c27] at h0
    rw [f30_1.1, f30_1.2, c28] at h1
    have hx0 : 0 < xs.length := by rw [hxl]; exact Nat.zero_lt_succ _
    have hx1 : 1 < xs.length := by rw [hxl]; exact Nat.lt_succ_self _
    rw [List.getElem?_eq_getElem hx0] at h0
    rw [List.getElem?_eq_getElem hx1] at h1
    have hz1 := weights_part hz (j := 1) (t := 23) (by rw [← f30_1.1]; rfl) (d := xs[1].1) (by rw [List.getElem?_map, List.getElem?_eq_getElem hx1]; rfl)
    simp only [List.drop_zero, List.take_succ_cons, List.take_zero, List.drop_succ_cons] at h0 h1
    obtain ⟨k, hk, _, _⟩ := DataW.trod_int u27 h0
    cases hk
    have two : ∀ ks : List Ty, RepD w (rgAll w) b (.sl 0 2 (Ty.rows ks)) → TyOk (.node k ks) → ∃ t : Ty, Stand w [.int .i8 k, b] t.cells ∧ TyOk t := fun ks hr hok =>
      ⟨.node k ks, ⟨rfl, fun i v y hv hy => by
        match i with
        | 0 => simp [Ty.cells] at hv hy; subst hv; subst hy; exact .int _ _
        | 1 => simp [Ty.cells] at hv hy; subst hv; subst hy; exact hr
        | i + 2 => simp at hv⟩, hok⟩
    rcases DataW.trod_slice u28 h1 with ⟨hb, _⟩ | ⟨a, len, cap, elems, rest, n, hn, hb, hxs, _, hlc, _, hel, hall, _⟩
    · cases hb
      exact two [] (.sl0 none 0 2 0) (.node (by simp) (by simp))
    · cases hb
      rw [c30] at hall
      rw [hxs] at hz1
      obtain ⟨g1, g2⟩ := weights_elem u28 hz1
      rw [b30, List.length_map, hel] at g1
      obtain ⟨ks, hks, hq, hr⟩ := stand_sliceQ (w := w) (base := base) TyOk 2 (by decide) Ty.cells cells_len (a := a) hlc (fun i hi => by
        have := hall i hi
        rw [List.getElem?_eq_getElem (by omega)] at this
        obtain ⟨cs', h2, h3⟩ := Option.bind_eq_some_iff.1 this
        obtain ⟨t, ht, ho⟩ := open_tyS n cs' _ h3 (g2 (j := i) (by rw [List.getElem?_map, List.getElem?_eq_getElem (by omega)]; rfl))
        exact ⟨t, cs', h2, ht, ho⟩)
      exact two ks (by rw [rows_map]; exact hr) (.node (by rw [hks]; exact reach_le g1) hq)
  termination_by fuel => fuel
  decreasing_by all_goals omega
set_option maxRecDepth 100000 in
theorem open_tmS : ∀ (fuel : Nat) (cs : List Value) x, DataW.trod enc Tryz.prog w base spare held fuel 31 cs = some x → (x.1.weights Tryz.prog 31).all (· ≤ reachBytes) = true → ∃ t : Tm, Stand w cs t.cells ∧ TmOk t
  | 0, cs, x, h, hz => by simp [DataW.trod] at h
  | fuel + 1, cs, x, h, hz => by
    obtain ⟨xs, n, hn, hxx, hl, hxl, hf⟩ := DataW.trod_struct u39 h
    subst hxx
    simp only [DataW.weights, u39] at hz
    obtain rfl : fuel = n := by omega
    rw [c39] at hl
    obtain ⟨v0, v1, v2, v3, v4, v5, v6, v7, v8, v9, v10, rfl⟩ : ∃ v0 v1 v2 v3 v4 v5 v6 v7 v8 v9 v10, cs = [v0, v1, v2, v3, v4, v5, v6, v7, v8, v9, v10] := by
      match cs, hl with
      | [v0, v1, v2, v3, v4, v5, v6, v7, v8, v9, v10], _ => exact ⟨_, _, _, _, _, _, _, _, _, _, _, rfl⟩
    have h0 := hf 0 (fld 31 0) rfl
    have h1 := hf 1 (fld 31 1) rfl
    have h2 := hf 2 (fld 31 2) rfl
    have h3 := hf 3 (fld 31 3) rfl
    have h4 := hf 4 (fld 31 4) rfl
    have h5 := hf 5 (fld 31 5) rfl
    have h6 := hf 6 (fld 31 6) rfl
    have h7 := hf 7 (fld 31 7) rfl
    have h8 := hf 8 (fld 31 8) rfl
    rw [f39_0.1, f39_0.2, c27] at h0
    rw [f39_1.1, f39_1.2, c9] at h1
    rw [f39_2.1, f39_2.2, c9] at h2
    rw [f39_3.1, f39_3.2, c2] at h3
    rw [f39_4.1, f39_4.2, c30] at h4
    rw [f39_5.1, f39_5.2, c30] at h5
    rw [f39_6.1, f39_6.2, c3] at h6
    rw [f39_7.1, f39_7.2, c3] at h7
    rw [f39_8.1, f39_8.2, c37] at h8
    have hx : ∀ i, i < 9 → i < xs.length := fun i hi => by rw [hxl]; exact hi
    rw [List.getElem?_eq_getElem (hx 0 (by omega))] at h0
    rw [List.getElem?_eq_getElem (hx 1 (by omega))] at h1
    rw [List.getElem?_eq_getElem (hx 2 (by omega))] at h2
    rw [List.getElem?_eq_getElem (hx 3 (by omega))] at h3
    rw [List.getElem?_eq_getElem (hx 4 (by omega))] at h4
    rw [List.getElem?_eq_getElem (hx 5 (by omega))] at h5
    rw [List.getElem?_eq_getElem (hx 6 (by omega))] at h6
    rw [List.getElem?_eq_getElem (hx 7 (by omega))] at h7
    rw [List.getElem?_eq_getElem (hx 8 (by omega))] at h8
    have hz4 := weights_part hz (j := 4) (t := 25) (by rw [← f39_4.1]; rfl) (d := (xs[4]'(hx 4 (by omega))).1) (by rw [List.getElem?_map, List.getElem?_eq_getElem (hx 4 (by omega))]; rfl)
    have hz5 := weights_part hz (j := 5) (t := 25) (by rw [← f39_5.1]; rfl) (d := (xs[5]'(hx 5 (by omega))).1) (by rw [List.getElem?_map, List.getElem?_eq_getElem (hx 5 (by omega))]; rfl)
    have hz8 := weights_part hz (j := 8) (t := 29) (by rw [← f39_8.1]; rfl) (d := (xs[8]'(hx 8 (by omega))).1) (by rw [List.getElem?_map, List.getElem?_eq_getElem (hx 8 (by omega))]; rfl)
    simp only [List.drop_zero, List.take_succ_cons, List.take_zero, List.drop_succ_cons] at h0 h1 h2 h3 h4 h5 h6 h7 h8
    obtain ⟨k, hk, _, _⟩ := DataW.trod_int u27 h0
    cases hk
    obtain ⟨name, hk, _, _⟩ := DataW.trod_string u9 h1
    cases hk
    obtain ⟨arg, hk, _, _⟩ := DataW.trod_string u9 h2
    cases hk
    obtain ⟨num, hk, _, _⟩ := DataW.trod_int u2 h3
    cases hk
    obtain ⟨⟨tk, tks⟩, ⟨_, s4⟩, o4⟩ := open_tyS _ _ _ h4 hz4
    obtain ⟨⟨uk, uks⟩, ⟨_, s5⟩, o5⟩ := open_tyS _ _ _ h5 hz5
    obtain ⟨label, hk, _, _⟩ := DataW.trod_int u3 h6
    cases hk
    obtain ⟨place, hk, _, _⟩ := DataW.trod_int u3 h7
    cases hk
    have q0 := s4 0 _ _ rfl rfl
    have q1 := s4 1 _ _ rfl rfl
    have q2 := s5 0 _ _ rfl rfl
    have q3 := s5 1 _ _ rfl rfl
    have two : ∀ ks : List Tm, RepD w (rgAll w) v10 (.sl 0 11 (Tm.rows ks)) → ks.length * 152 ≤ 140737488355328 → (∀ t ∈ ks, TmOk t) → ∃ t : Tm, Stand w [.int .i8 k, .string name, .string arg, .int .i64 num, v4, v5, v6, v7, .int .i64 label, .int .i64 place, v10] t.cells ∧ TmOk t := fun ks hr hk1 hk2 =>
      ⟨.node k name arg num tk tks uk uks label place ks, ⟨rfl, fun i v y hv hy => by
        match i with
        | 0 => simp [Tm.cells] at hv hy; subst hv; subst hy; exact .int _ _
        | 1 => simp [Tm.cells] at hv hy; subst hv; subst hy; exact .str _
        | 2 => simp [Tm.cells] at hv hy; subst hv; subst hy; exact .str _
        | 3 => simp [Tm.cells] at hv hy; subst hv; subst hy; exact .int _ _
        | 4 => simp [Tm.cells] at hv hy; subst hv; subst hy; exact q0
        | 5 => simp [Tm.cells] at hv hy; subst hv; subst hy; exact q1
        | 6 => simp [Tm.cells] at hv hy; subst hv; subst hy; exact q2
        | 7 => simp [Tm.cells] at hv hy; subst hv; subst hy; exact q3
        | 8 => simp [Tm.cells] at hv hy; subst hv; subst hy; exact .int _ _
        | 9 => simp [Tm.cells] at hv hy; subst hv; subst hy; exact .int _ _
        | 10 => simp [Tm.cells] at hv hy; subst hv; subst hy; exact hr
        | i + 11 => simp at hv⟩, .node o4 o5 hk1 hk2⟩
    rcases DataW.trod_slice u37 h8 with ⟨hb, _⟩ | ⟨a, len, cap, elems, rest, n, hn, hb, hxs, _, hlc, _, hel, hall, _⟩
    · cases hb
      exact two [] (.sl0 none 0 11 0) (by simp) (by simp)
    · cases hb
      rw [c39] at hall
      rw [hxs] at hz8
      obtain ⟨g1, g2⟩ := weights_elem u37 hz8
      rw [b39, List.length_map, hel] at g1
      obtain ⟨ks, hks, hq, hr⟩ := stand_sliceQ (w := w) (base := base) TmOk 11 (by decide) Tm.cells tcells_len (a := a) hlc (fun i hi => by
        have := hall i hi
        rw [List.getElem?_eq_getElem (by omega)] at this
        obtain ⟨cs', h2, h3⟩ := Option.bind_eq_some_iff.1 this
        obtain ⟨t, ht, ho⟩ := open_tmS n cs' _ h3 (g2 (j := i) (by rw [List.getElem?_map, List.getElem?_eq_getElem (by omega)]; rfl))
        exact ⟨t, cs', h2, ht, ho⟩)
      exact two ks (by rw [trows_map]; exact hr) (by rw [hks]; exact reach_le g1) hq
  termination_by fuel => fuel
  decreasing_by all_goals omega
end
end Go.Proofs.YtlboogackecjlaaGreat.E
