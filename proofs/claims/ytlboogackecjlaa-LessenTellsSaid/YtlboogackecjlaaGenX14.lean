/- Texts, merged: Rw2a, Ls3, Sm0, Sm. No conditions. -/
import Derived.Test.YtlboogackecjlaaGenX12
import Derived.Test.YtlboogackecjlaaEngX3
import Derived.Test.YtlboogackecjlaaGenX11
import Derived.Test.YtlboogackecjlaaGenX13
import Derived.Test.YtlboogackecjlaaGenX5
import Derived.Test.YtlboogackecjlaaGenX9
/- LikeType, LikeTerm of a thing and itself, of any size; what stands over a spoiling. No conditions. -/
set_option linter.unusedVariables false
set_option linter.unusedSimpArgs false
namespace Go.Proofs.Ytlboogackecjlaa.E
open Go

set_option maxRecDepth 10000 in
theorem likeTyO_call (a : Ty) : TyOk a → ACall Try.prog 19 [a.val, a.val] [] (fun o σ => o = .ret (.c (.d (.bool true))) ∧ σ = []) := by
  induction a using Ty.ind with
  | _ k ks ih =>
  rintro (⟨hle, hks⟩)
  refine ACall.body tab_ok (ρ := 0) (N := 39) Try.func19 rfl rfl rfl rfl rfl ?_
  repeat' first | refine AW.seq ?_ | refine AW.block ?_ | (refine (id : AW _ _ _ (.region 6 _ true) _ _ → _) ?_; refine AW.draw (id := 6) tab_ok mixed [0, 1, 2, 3, 4, 5, 6, 7, 8, 9, 10, 11] (by kernel_rfl) ?_; conv => whnf) | ((first | refine AW.region tab_ok ?_ | refine AW.cond ?_ | refine AW.skip ?_ | refine AW.ret ?_ | refine AW.exit ?_); conv => whnf) | ((first | refine And.intro (@rfl Val _) ?_ | refine And.intro (by decide) ?_ | refine cs (fun _ => ?_) (fun _ => ?_)) <;> conv => whnf)
  · rename_i h; simp at h
  · rename_i h0 h; simp at h
  · rename_i h0 h
    refine AW.loop (ι := UpTo ks) (fun x => ⟨39, [(5, .c (.d (.int .i64 x.i))), (2, .c (.ptr 0 0)), (3, .c (.ptr 1 0))], [.var [.d (.int .i8 k), .d (.sl 0 2 (Ty.rows ks))], .var [.d (.int .i8 k), .d (.sl 0 2 (Ty.rows ks))]], []⟩)
      (fun x => ks.length - x.i) ⟨0, Nat.zero_le _⟩ 2 (fun _ => rfl) (Nat.le_of_ble_eq_true rfl) ⟨⟨rfl, rfl, rfl, trivial⟩, rfl, rfl, ⟨[], rfl⟩, rfl⟩ (fun x => ?_)
    obtain ⟨i, hi⟩ := x
    repeat' first | refine AW.seq ?_ | refine AW.block ?_ | (refine (id : AW _ _ _ (.region 6 _ true) _ _ → _) ?_; refine AW.draw (id := 6) tab_ok mixed [0, 1, 2, 3, 4, 5, 6, 7, 8, 9, 10, 11] (by kernel_rfl) ?_; conv => whnf) | ((first | refine AW.region tab_ok ?_ | refine AW.cond ?_ | refine AW.skip ?_ | refine AW.ret ?_ | refine AW.exit ?_); conv => whnf) | ((first | refine And.intro (@rfl Val _) ?_ | refine And.intro (by decide) ?_ | refine cs (fun _ => ?_) (fun _ => ?_)) <;> conv => whnf)
    · rename_i h1
      simp only [rows_length] at h1 ⊢
      have := of_decide_eq_true h1
      refine ⟨by omega, fun row hrow => ?_⟩
      obtain ⟨⟨kx, kxs⟩, ht, rfl⟩ := rows_get ks i row (by simpa using hrow)
      have hlt : i < ks.length := (List.getElem?_eq_some_iff.1 ht).1
      have hm := List.mem_of_getElem? ht
      conv => whnf
      repeat' first | refine AW.seq ?_ | refine AW.block ?_ | (refine (id : AW _ _ _ (.region 6 _ true) _ _ → _) ?_; refine AW.draw (id := 6) tab_ok mixed [0, 1, 2, 3, 4, 5, 6, 7, 8, 9, 10, 11] (by kernel_rfl) ?_; conv => whnf) | ((first | refine AW.region tab_ok ?_ | refine AW.cond ?_ | refine AW.skip ?_ | refine AW.ret ?_ | refine AW.exit ?_); conv => whnf) | ((first | refine And.intro (@rfl Val _) ?_ | refine And.intro (by decide) ?_ | refine cs (fun _ => ?_) (fun _ => ?_)) <;> conv => whnf)
      simp only [rows_length]
      refine ⟨by omega, fun row hrow => ?_⟩
      obtain ⟨y, hu, rfl⟩ := rows_get ks i row (by simpa using hrow)
      rw [ht] at hu
      cases hu
      conv => whnf
      repeat' first | refine AW.seq ?_ | refine AW.block ?_ | (refine (id : AW _ _ _ (.region 6 _ true) _ _ → _) ?_; refine AW.draw (id := 6) tab_ok mixed [0, 1, 2, 3, 4, 5, 6, 7, 8, 9, 10, 11] (by kernel_rfl) ?_; conv => whnf) | ((first | refine AW.region tab_ok ?_ | refine AW.cond ?_ | refine AW.skip ?_ | refine AW.ret ?_ | refine AW.exit ?_); conv => whnf) | (refine (ih _ hm (hks _ hm)).mono ?_; rintro _ _ ⟨rfl, rfl⟩; conv => whnf) | ((first | refine And.intro (@rfl Val _) ?_ | refine And.intro (by decide) ?_ | refine cs (fun _ => ?_) (fun _ => ?_)) <;> conv => whnf)
      rw [wrap64 (x := (i : Int) + 1) (by omega) (by omega)]
      exact ⟨⟨i + 1, hlt⟩, ⟨⟨rfl, rfl, rfl, trivial⟩, rfl, rfl, ⟨[], rfl⟩, rfl⟩, show ks.length - (i + 1) < ks.length - i by omega⟩
    · exact ⟨rfl, rfl⟩
set_option maxRecDepth 10000 in
theorem likeTmO_call (a : Tm) : TmOk a → ACall Try.prog 13 [a.val, a.val] [] (fun o σ => o = .ret (.c (.d (.bool true))) ∧ σ = []) := by
  induction a using Tm.ind with
  | _ k name arg num tk tks uk uks label place ks ih =>
  rintro (⟨h1, h2, h3, h4⟩)
  have c1 := likeTyO_call _ h1
  have c2 := likeTyO_call _ h2
  refine ACall.body tab_ok (ρ := 0) (N := 90) Try.func13 rfl rfl rfl rfl rfl ?_
  repeat' first | refine AW.seq ?_ | refine AW.block ?_ | (refine (id : AW _ _ _ (.region 6 _ true) _ _ → _) ?_; refine AW.draw (id := 6) tab_ok mixed [0, 1, 2, 3, 4, 5, 6, 7, 8, 9, 10, 11] (by kernel_rfl) ?_; conv => whnf) | ((first | refine AW.region tab_ok ?_ | refine AW.cond ?_ | refine AW.skip ?_ | refine AW.ret ?_ | refine AW.exit ?_); conv => whnf) | ((first | refine (c1).mono ?_ | refine (c2).mono ?_); rintro _ _ ⟨rfl, rfl⟩; conv => whnf) | ((first | refine And.intro (@rfl Val _) ?_ | refine And.intro (by decide) ?_ | refine cs (fun _ => ?_) (fun _ => ?_)) <;> conv => whnf)
  all_goals first | (rename_i h; simp at h; done) | skip
  · refine AW.loop (ι := UpToT ks) (fun x => ⟨90, [(5, .c (.d (.int .i64 x.i))), (2, .c (.ptr 0 0)), (3, .c (.ptr 1 0))], [.var [.d (.int .i8 k), .d (.str name), .d (.str arg), .d (.int .i64 num), .d (.int .i8 tk), .d (.sl 0 2 (Ty.rows tks)), .d (.int .i8 uk), .d (.sl 0 2 (Ty.rows uks)), .d (.int .i64 label), .d (.int .i64 place), .d (.sl 0 11 (Tm.rows ks))], .var [.d (.int .i8 k), .d (.str name), .d (.str arg), .d (.int .i64 num), .d (.int .i8 tk), .d (.sl 0 2 (Ty.rows tks)), .d (.int .i8 uk), .d (.sl 0 2 (Ty.rows uks)), .d (.int .i64 label), .d (.int .i64 place), .d (.sl 0 11 (Tm.rows ks))]], []⟩)
      (fun x => ks.length - x.i) ⟨0, Nat.zero_le _⟩ 2 (fun _ => rfl) (Nat.le_of_ble_eq_true rfl) ⟨⟨rfl, rfl, rfl, trivial⟩, rfl, rfl, ⟨[], rfl⟩, rfl⟩ (fun x => ?_)
    obtain ⟨i, hi⟩ := x
    repeat' first | refine AW.seq ?_ | refine AW.block ?_ | (refine (id : AW _ _ _ (.region 6 _ true) _ _ → _) ?_; refine AW.draw (id := 6) tab_ok mixed [0, 1, 2, 3, 4, 5, 6, 7, 8, 9, 10, 11] (by kernel_rfl) ?_; conv => whnf) | ((first | refine AW.region tab_ok ?_ | refine AW.cond ?_ | refine AW.skip ?_ | refine AW.ret ?_ | refine AW.exit ?_); conv => whnf) | ((first | refine And.intro (@rfl Val _) ?_ | refine And.intro (by decide) ?_ | refine cs (fun _ => ?_) (fun _ => ?_)) <;> conv => whnf)
    · rename_i h1
      simp only [trows_length] at h1 ⊢
      have := of_decide_eq_true h1
      refine ⟨by omega, fun row hrow => ?_⟩
      obtain ⟨⟨kx, namex, argx, numx, tkx, tksx, ukx, uksx, labelx, placex, ksx⟩, ht, rfl⟩ := trows_get ks i row (by simpa using hrow)
      have hlt : i < ks.length := (List.getElem?_eq_some_iff.1 ht).1
      have hm := List.mem_of_getElem? ht
      conv => whnf
      repeat' first | refine AW.seq ?_ | refine AW.block ?_ | (refine (id : AW _ _ _ (.region 6 _ true) _ _ → _) ?_; refine AW.draw (id := 6) tab_ok mixed [0, 1, 2, 3, 4, 5, 6, 7, 8, 9, 10, 11] (by kernel_rfl) ?_; conv => whnf) | ((first | refine AW.region tab_ok ?_ | refine AW.cond ?_ | refine AW.skip ?_ | refine AW.ret ?_ | refine AW.exit ?_); conv => whnf) | ((first | refine And.intro (@rfl Val _) ?_ | refine And.intro (by decide) ?_ | refine cs (fun _ => ?_) (fun _ => ?_)) <;> conv => whnf)
      simp only [trows_length]
      refine ⟨by omega, fun row hrow => ?_⟩
      obtain ⟨y, hu, rfl⟩ := trows_get ks i row (by simpa using hrow)
      rw [ht] at hu
      cases hu
      have hc := ih _ hm (h4 _ hm)
      conv => whnf
      repeat' first | refine AW.seq ?_ | refine AW.block ?_ | (refine (id : AW _ _ _ (.region 6 _ true) _ _ → _) ?_; refine AW.draw (id := 6) tab_ok mixed [0, 1, 2, 3, 4, 5, 6, 7, 8, 9, 10, 11] (by kernel_rfl) ?_; conv => whnf) | ((first | refine AW.region tab_ok ?_ | refine AW.cond ?_ | refine AW.skip ?_ | refine AW.ret ?_ | refine AW.exit ?_); conv => whnf) | (refine (hc).mono ?_; rintro _ _ ⟨rfl, rfl⟩; conv => whnf) | ((first | refine And.intro (@rfl Val _) ?_ | refine And.intro (by decide) ?_ | refine cs (fun _ => ?_) (fun _ => ?_)) <;> conv => whnf)
      rw [wrap64 (x := (i : Int) + 1) (by omega) (by omega)]
      exact ⟨⟨i + 1, hlt⟩, ⟨⟨rfl, rfl, rfl, trivial⟩, rfl, rfl, ⟨[], rfl⟩, rfl⟩, show ks.length - (i + 1) < ks.length - i by omega⟩
    · exact ⟨rfl, rfl⟩
theorem pl_cells0 {l : List DV} (h : RtC 0 l l) : ∀ a ∈ l.map AV.d, PlA a := fun a ha => by
  obtain ⟨x, hx, rfl⟩ := List.mem_map.1 ha
  obtain ⟨i, hi, rfl⟩ := List.getElem_of_mem hx
  exact .d _ (h.get.2 i _ _ (List.getElem?_eq_getElem hi) (List.getElem?_eq_getElem hi))
theorem thl_of : ∀ {l m : List DV}, ThCells l m → ThL (l.map .d) (m.map .d)
  | [], [], h => .nil
  | [], _ :: _, h => by have := h.1; simp at this
  | _ :: _, [], h => by have := h.1; simp at this
  | x :: l, y :: m, h => .cons (.d _ _ (h.2 0 x y rfl rfl)) (thl_of ⟨by simpa using h.1, fun i u v hu hv => h.2 (i + 1) u v (by simpa using hu) (by simpa using hv)⟩)
theorem thl_keep0 {l : List DV} (h : RtC 0 l l) : ThL (l.map .d) (l.map .d) := thl_of ⟨rfl, fun i x y hx hy => by
  rw [hx] at hy; cases hy; exact .keep0 _ (h.get.2 i x x hx hx)⟩
theorem thl_keep2 {l : List DV} (h : RtC 2 l l) : ThL (l.map .d) (l.map .d) := thl_of ⟨rfl, fun i x y hx hy => by
  rw [hx] at hy; cases hy; exact .keep2 _ (h.get.2 i x x hx hx)⟩
theorem tm_rt0 (t : Tm) : RtC 0 t.cells t.cells := by have := tm_rt 0 0 0 t; rwa [tm_R0] at this
theorem likeTm14_call (t : Tm) (h : TmOk t) : ACall Try.prog 13 [t.valR 1 4, t.val] [] (fun o σ => o = .ret (.c (.d (.bool true))) ∧ σ = []) :=
  (likeTmO_call t h).any (.cons (by rw [← tm_V0]; exact tm_rtV 1 4 0 t) (.cons (by rw [← tm_V0]; exact tm_rtV 0 0 0 t) .nil)) (.bool _)
theorem likeTm2_call (t : Tm) (h : TmOk t) : ACall Try.prog 13 [t.valR 2 2, t.val] [] (fun o σ => o = .ret (.c (.d (.bool true))) ∧ σ = []) :=
  (likeTmO_call t h).any (.cons (by rw [← tm_V0]; exact tm_rtV 2 2 0 t) (.cons (by rw [← tm_V0]; exact tm_rtV 0 0 0 t) .nil)) (.bool _)
end Go.Proofs.Ytlboogackecjlaa.E

/- LessenTells: plain facts. No conditions. -/
set_option linter.unusedVariables false
set_option linter.unusedSimpArgs false
namespace Go.Proofs.Ytlboogackecjlaa.E
open Go

theorem walk_ok (B : Nat → Bool) (a : Ty) : ∀ g n, TyOk a → TyOk (walkT B g a n) := by
  induction a using Ty.ind with
  | _ k ks ih =>
  rintro g n (⟨h1, h2⟩)
  have hz : TyOk (.node 0 []) := .node (by simp) (by simp)
  simp only [walkT]
  split
  · exact hz
  · split
    · exact hz
    · refine .node (by rw [walkTs_len]; exact h1) fun x hx => ?_
      obtain ⟨i, hi, rfl⟩ := List.getElem_of_mem hx
      have hi' : i < ks.length := by rwa [walkTs_len] at hi
      have := walkTs_get B ks (n + 1) i _ (List.getElem?_eq_getElem hi')
      rw [List.getElem?_eq_getElem hi] at this
      rw [Option.some.inj this]
      exact ih _ (List.getElem_mem _) _ _ (h2 _ (List.getElem_mem _))
theorem le_fine2 (B : Nat → Bool) (t : Tm) : ∀ n, Fine2 t → Fine2 (leT B t n) := by
  induction t using Tm.ind with
  | _ k name arg num tk tks uk uks label place ks ih =>
  rintro n (⟨h1, h2, h3, h4⟩)
  have hz : TyOk (.node 0 []) := .node (by simp) (by simp)
  simp only [leT]
  refine .node ?_ ?_ (by rw [leTs_len]; exact h3) fun x hx => ?_
  · split
    · rw [walk_eta]; exact walk_ok B _ _ _ h1
    · exact hz
  · split
    · rw [walk_eta]; exact walk_ok B _ _ _ h2
    · exact hz
  · obtain ⟨y, hy, n', rfl⟩ := le_kid hx
    exact ih y hy n' (h4 y hy)
theorem ltmok_of (t : Tm) : Fine2 t → TmOk t := by
  induction t using Tm.ind with
  | _ k name arg num tk tks uk uks label place ks ih =>
  rintro (⟨h1, h2, h3, h4⟩)
  exact .node h1 h2 (by omega) fun x hx => ih x hx (h4 x hx)
theorem tm0_ok : TmOk tm0 := .node (.node (by simp) (by simp)) (.node (by simp) (by simp)) (by simp) (by simp)
theorem at_ok (t : Tm) (l : List Int) (hf : TmOk t) : TmOk (atT t l) := by
  unfold atT
  split
  · rename_i h
    have hs : soundE t = 0 := by
      unfold atE at h
      split at h
      · rename_i h2; exact absurd h h2
      · rename_i h2; simpa using h2
    exact ltmok_of _ (le_fine2 _ t 0 (fine2_of t hf (tmcheck_right (sound_ok hs).1)))
  · exact tm0_ok
theorem all_ok (t : Tm) (hf : TmOk t) : TmOk (if soundE t = 0 then leT leBT t 0 else tm0) := by
  split
  · rename_i h
    exact ltmok_of _ (le_fine2 _ t 0 (fine2_of t hf (tmcheck_right (sound_ok h).1)))
  · exact tm0_ok
theorem At2_of (t : Tm) (l : List Int) (hl : l.length ≤ 100000) : ACall Try.prog 9 [t.valR 1 4, .c (.d (.sl 0 1 (ints l)))] [] (fun o σ => o = .ret (.tup [(atT t l).valR 2 2, .c (.d (.int .i64 (atE t l)))]) ∧ σ = []) :=
  ACall.argsT (.cons (.rt (tm_rtV 1 4 9 t)) (.cons (.same _) .nil)) (At2_call t l hl)
theorem ints_rt : ∀ l : List Int, RtR 0 (ints l) (ints l)
  | [] => .nil
  | s :: l => .cons (.cons (.int _ _) .nil) (ints_rt l)
end Go.Proofs.Ytlboogackecjlaa.E

/- Small terms: counted with an early end. No conditions. -/
set_option linter.unusedVariables false
set_option linter.unusedSimpArgs false
namespace Go.Proofs.Ytlboogackecjlaa.E
open Go

structure TypedI (n m : Nat) where
  i : Nat
  c : Nat
  hi : i ≤ m
  h : i + n + 1 ≤ c ∧ c ≤ max 32769 (n + 1)
set_option maxRecDepth 10000 in
theorem typed_call (a : Ty) : ∀ n : Nat, n ≤ 32770 → ACall Try.prog 65 [a.val, .c (.d (.int .i64 n))] [] (fun o σ => ∃ r : Nat, (n < r ∧ r ≤ max 32769 (n + 1)) ∧ o = .ret (.c (.d (.int .i64 r))) ∧ σ = []) := by
  induction a using Ty.ind with
  | _ k ks ih =>
  intro n hn
  have hw : IntKind.i64.wrap ((n : Int) + 1) = ((n + 1 : Nat) : Int) := by rw [wrap64 (x := (n : Int) + 1) (by omega) (by omega)]; omega
  refine ACall.body tab_ok (ρ := 0) (N := 27) Try.func65 rfl rfl rfl rfl rfl ?_
  repeat' first | refine AW.seq ?_ | refine AW.block ?_ | ((first | refine AW.region tab_ok ?_ | refine AW.cond ?_ | refine AW.skip ?_ | refine AW.ret ?_ | refine AW.exit ?_); conv => whnf) | ((first | refine And.intro (@rfl Val _) ?_ | refine And.intro (by decide) ?_ | refine cs (fun _ => ?_) (fun _ => ?_)) <;> conv => whnf)
  refine AW.loop (ι := TypedI n ks.length) (fun x => ⟨27, [(5, .c (.d (.int .i64 x.i))), (1, .c (.d (.int .i64 x.c))), (2, .c (.ptr 0 0))], [.var [.d (.int .i8 k), .d (.sl 0 2 (Ty.rows ks))]], []⟩)
    (fun x => ks.length - x.i) ⟨0, n + 1, Nat.zero_le _, ⟨by omega, Nat.le_max_right _ _⟩⟩ 1 (fun _ => rfl) (Nat.le_of_ble_eq_true rfl) ⟨⟨rfl, by rw [hw]; rfl, rfl, trivial⟩, rfl, rfl, ⟨[], rfl⟩, rfl⟩ (fun x => ?_)
  obtain ⟨i, c, hi, h⟩ := x
  repeat' first | refine AW.seq ?_ | refine AW.block ?_ | ((first | refine AW.region tab_ok ?_ | refine AW.cond ?_ | refine AW.skip ?_ | refine AW.ret ?_ | refine AW.exit ?_); conv => whnf) | ((first | refine And.intro (@rfl Val _) ?_ | refine And.intro (by decide) ?_ | refine cs (fun _ => ?_) (fun _ => ?_)) <;> conv => whnf)
  · rename_i h1 h2
    simp only [rows_length] at h1 ⊢
    have := of_decide_eq_true h1
    have h3 : c ≤ 32768 := by have := of_decide_eq_true h2; simp only at this; omega
    refine ⟨by omega, fun row hrow => ?_⟩
    obtain ⟨⟨k', ks'⟩, ht, rfl⟩ := rows_get ks i row (by simpa using hrow)
    have hlt : i < ks.length := (List.getElem?_eq_some_iff.1 ht).1
    conv => whnf
    repeat' first | refine AW.seq ?_ | refine AW.block ?_ | ((first | refine AW.region tab_ok ?_ | refine AW.cond ?_ | refine AW.skip ?_ | refine AW.ret ?_ | refine AW.exit ?_); conv => whnf) | ((first | refine And.intro (@rfl Val _) ?_ | refine And.intro (by decide) ?_ | refine cs (fun _ => ?_) (fun _ => ?_)) <;> conv => whnf)
    refine (ih _ (List.mem_of_getElem? ht) _ (by omega)).mono ?_
    rintro _ _ ⟨r, hr, rfl, rfl⟩
    conv => whnf
    repeat' first | refine AW.seq ?_ | refine AW.block ?_ | ((first | refine AW.region tab_ok ?_ | refine AW.cond ?_ | refine AW.skip ?_ | refine AW.ret ?_ | refine AW.exit ?_); conv => whnf) | ((first | refine And.intro (@rfl Val _) ?_ | refine And.intro (by decide) ?_ | refine cs (fun _ => ?_) (fun _ => ?_)) <;> conv => whnf)
    rw [wrap64 (x := (i : Int) + 1) (by omega) (by omega)]
    exact ⟨⟨i + 1, r, hlt, by omega⟩, ⟨⟨rfl, rfl, rfl, trivial⟩, rfl, rfl, ⟨[], rfl⟩, rfl⟩, show ks.length - (i + 1) < ks.length - i by omega⟩
  · exact ⟨c, by omega, rfl, rfl⟩
  · exact ⟨c, by omega, rfl, rfl⟩
end Go.Proofs.Ytlboogackecjlaa.E

/- Small terms of layer 22: counted with an early end; wakes. No conditions. -/
set_option linter.unusedVariables false
set_option linter.unusedSimpArgs false
namespace Go.Proofs.Ytlboogackecjlaa.E
open Go


structure CountedI (n m most : Nat) where
  i : Nat
  c : Nat
  hi : i ≤ m
  h : i + n + 1 ≤ c ∧ c ≤ most
set_option maxRecDepth 10000 in
theorem smcounted_call (t : Tm) : ∀ n : Nat, n ≤ 32768 → ACall Try.prog 37 [t.val, .c (.d (.int .i64 n))] [] (fun o σ => ∃ r : Nat, (n < r ∧ r ≤ 32771) ∧ o = .ret (.c (.d (.int .i64 r))) ∧ σ = []) := by
  induction t using Tm.ind with
  | _ k name arg num tk tks uk uks label place ks ih =>
  intro n hn
  have hw : IntKind.i64.wrap ((n : Int) + 1) = ((n + 1 : Nat) : Int) := by rw [wrap64 (x := (n : Int) + 1) (by omega) (by omega)]; omega
  refine ACall.body tab_ok (ρ := 0) (N := 33) Try.func37 rfl rfl rfl rfl rfl ?_
  repeat' first | refine AW.seq ?_ | refine AW.block ?_ | (refine (id : AW _ _ _ (.region 1 _ true) _ _ → _) ?_; refine AW.draw (id := 1) tab_ok mixed [0, 1, 2, 3, 4, 5, 6, 7, 8] (by kernel_rfl) ?_; conv => whnf) | ((first | refine AW.region tab_ok ?_ | refine AW.cond ?_ | refine AW.skip ?_ | refine AW.ret ?_ | refine AW.exit ?_); conv => whnf) | ((first | refine And.intro (@rfl Val _) ?_ | refine And.intro (by decide) ?_ | refine cs (fun _ => ?_) (fun _ => ?_)) <;> conv => whnf)
  all_goals rw [hw]
  refine (typed_call (.node tk tks) (n + 1) (by omega)).mono ?_
  rintro _ _ ⟨r1, hr1, rfl, rfl⟩
  conv => whnf
  repeat' first | refine AW.seq ?_ | refine AW.block ?_ | (refine (id : AW _ _ _ (.region 1 _ true) _ _ → _) ?_; refine AW.draw (id := 1) tab_ok mixed [0, 1, 2, 3, 4, 5, 6, 7, 8] (by kernel_rfl) ?_; conv => whnf) | ((first | refine AW.region tab_ok ?_ | refine AW.cond ?_ | refine AW.skip ?_ | refine AW.ret ?_ | refine AW.exit ?_); conv => whnf) | ((first | refine And.intro (@rfl Val _) ?_ | refine And.intro (by decide) ?_ | refine cs (fun _ => ?_) (fun _ => ?_)) <;> conv => whnf)
  refine (typed_call (.node uk uks) r1 (by omega)).mono ?_
  rintro _ _ ⟨r2, hr2, rfl, rfl⟩
  conv => whnf
  repeat' first | refine AW.seq ?_ | refine AW.block ?_ | (refine (id : AW _ _ _ (.region 1 _ true) _ _ → _) ?_; refine AW.draw (id := 1) tab_ok mixed [0, 1, 2, 3, 4, 5, 6, 7, 8] (by kernel_rfl) ?_; conv => whnf) | ((first | refine AW.region tab_ok ?_ | refine AW.cond ?_ | refine AW.skip ?_ | refine AW.ret ?_ | refine AW.exit ?_); conv => whnf) | ((first | refine And.intro (@rfl Val _) ?_ | refine And.intro (by decide) ?_ | refine cs (fun _ => ?_) (fun _ => ?_)) <;> conv => whnf)
  refine AW.loop (ι := CountedI n ks.length 32771) (fun x => ⟨33, [(5, .c (.d (.int .i64 x.i))), (1, .c (.d (.int .i64 x.c))), (2, .c (.ptr 0 0))], [.var (Tm.cells (.node k name arg num tk tks uk uks label place ks) |>.map .d)], []⟩)
    (fun x => ks.length - x.i) ⟨0, r2, Nat.zero_le _, by omega⟩ 1 (fun _ => rfl) (Nat.le_of_ble_eq_true rfl) ⟨⟨rfl, rfl, rfl, trivial⟩, rfl, rfl, ⟨[], rfl⟩, rfl⟩ (fun x => ?_)
  obtain ⟨i, c, hi, h⟩ := x
  repeat' first | refine AW.seq ?_ | refine AW.block ?_ | (refine (id : AW _ _ _ (.region 1 _ true) _ _ → _) ?_; refine AW.draw (id := 1) tab_ok mixed [0, 1, 2, 3, 4, 5, 6, 7, 8] (by kernel_rfl) ?_; conv => whnf) | ((first | refine AW.region tab_ok ?_ | refine AW.cond ?_ | refine AW.skip ?_ | refine AW.ret ?_ | refine AW.exit ?_); conv => whnf) | ((first | refine And.intro (@rfl Val _) ?_ | refine And.intro (by decide) ?_ | refine cs (fun _ => ?_) (fun _ => ?_)) <;> conv => whnf)
  · rename_i h1 h2
    simp only [trows_length] at h1 ⊢
    have := of_decide_eq_true h1
    have h3 : c ≤ 32768 := by have := of_decide_eq_true h2; simp only at this; omega
    refine ⟨by omega, fun row hrow => ?_⟩
    obtain ⟨t, ht, rfl⟩ := trows_get ks i row (by simpa using hrow)
    have hlt : i < ks.length := (List.getElem?_eq_some_iff.1 ht).1
    obtain ⟨kx, namex, argx, numx, tkx, tksx, ukx, uksx, labelx, placex, ksx⟩ := t
    conv => whnf
    repeat' first | refine AW.seq ?_ | refine AW.block ?_ | (refine (id : AW _ _ _ (.region 1 _ true) _ _ → _) ?_; refine AW.draw (id := 1) tab_ok mixed [0, 1, 2, 3, 4, 5, 6, 7, 8] (by kernel_rfl) ?_; conv => whnf) | ((first | refine AW.region tab_ok ?_ | refine AW.cond ?_ | refine AW.skip ?_ | refine AW.ret ?_ | refine AW.exit ?_); conv => whnf) | ((first | refine And.intro (@rfl Val _) ?_ | refine And.intro (by decide) ?_ | refine cs (fun _ => ?_) (fun _ => ?_)) <;> conv => whnf)
    refine (ih _ (List.mem_of_getElem? ht) _ (by omega)).mono ?_
    rintro _ _ ⟨r, hr, rfl, rfl⟩
    conv => whnf
    repeat' first | refine AW.seq ?_ | refine AW.block ?_ | (refine (id : AW _ _ _ (.region 1 _ true) _ _ → _) ?_; refine AW.draw (id := 1) tab_ok mixed [0, 1, 2, 3, 4, 5, 6, 7, 8] (by kernel_rfl) ?_; conv => whnf) | ((first | refine AW.region tab_ok ?_ | refine AW.cond ?_ | refine AW.skip ?_ | refine AW.ret ?_ | refine AW.exit ?_); conv => whnf) | ((first | refine And.intro (@rfl Val _) ?_ | refine And.intro (by decide) ?_ | refine cs (fun _ => ?_) (fun _ => ?_)) <;> conv => whnf)
    rw [wrap64 (x := (i : Int) + 1) (by omega) (by omega)]
    exact ⟨⟨i + 1, r, hlt, by omega⟩, ⟨⟨rfl, rfl, rfl, trivial⟩, rfl, rfl, ⟨[], rfl⟩, rfl⟩, show ks.length - (i + 1) < ks.length - i by omega⟩
  · exact ⟨c, by omega, rfl, rfl⟩
  · exact ⟨c, by omega, rfl, rfl⟩
set_option maxRecDepth 10000 in
theorem Small_call (t : Tm) : ACall Try.prog 14 [t.val] [] (fun o σ => ∃ b : Bool, o = .ret (.c (.d (.bool b))) ∧ σ = []) := by
  obtain ⟨k, name, arg, num, tk, tks, uk, uks, label, place, ks⟩ := t
  refine ACall.body tab_ok (ρ := 0) (N := 6) Try.func14 rfl rfl rfl rfl rfl ?_
  repeat' first | refine AW.seq ?_ | refine AW.block ?_ | ((first | refine AW.region tab_ok ?_ | refine AW.cond ?_ | refine AW.skip ?_ | refine AW.ret ?_ | refine AW.exit ?_); conv => whnf) | ((first | refine And.intro (@rfl Val _) ?_ | refine And.intro (by decide) ?_ | refine cs (fun _ => ?_) (fun _ => ?_)) <;> conv => whnf)
  refine (smcounted_call (.node k name arg num tk tks uk uks label place ks) 0 (by omega)).mono ?_
  rintro _ _ ⟨r, hr, rfl, rfl⟩
  conv => whnf
  repeat' first | refine AW.seq ?_ | refine AW.block ?_ | ((first | refine AW.region tab_ok ?_ | refine AW.cond ?_ | refine AW.skip ?_ | refine AW.ret ?_ | refine AW.exit ?_); conv => whnf) | ((first | refine And.intro (@rfl Val _) ?_ | refine And.intro (by decide) ?_ | refine cs (fun _ => ?_) (fun _ => ?_)) <;> conv => whnf)
  exact ⟨_, rfl, rfl⟩
set_option maxRecDepth 10000 in
theorem wcounted_call (t : Tm) : ∀ n : Nat, n ≤ 600 → ACall Try.prog 27 [t.val, .c (.ptr 0 0)] [.var [.d (.int .i64 n)]] (fun o σ => ∃ r : Nat, (n < r ∧ r ≤ 601) ∧ o = .ret (.c (.d (.int .i64 r))) ∧ σ = [.var [.d (.int .i64 r)]]) := by
  induction t using Tm.ind with
  | _ k name arg num tk tks uk uks label place ks ih =>
  intro n hn
  have hw : IntKind.i64.wrap ((n : Int) + 1) = ((n + 1 : Nat) : Int) := by rw [wrap64 (x := (n : Int) + 1) (by omega) (by omega)]; omega
  refine ACall.body tab_ok (ρ := 0) (N := 35) Try.func27 rfl rfl rfl rfl rfl ?_
  repeat' first | refine AW.seq ?_ | refine AW.block ?_ | ((first | refine AW.region tab_ok ?_ | refine AW.cond ?_ | refine AW.skip ?_ | refine AW.ret ?_ | refine AW.exit ?_); conv => whnf) | ((first | refine And.intro (@rfl Val _) ?_ | refine And.intro (by decide) ?_ | refine cs (fun _ => ?_) (fun _ => ?_)) <;> conv => whnf)
  refine AW.loop (ι := CountedI n ks.length 601) (fun x => ⟨35, [(5, .c (.d (.int .i64 x.i))), (1, .c (.ptr 0 0)), (2, .c (.ptr 1 0))], [.var [.d (.int .i64 x.c)], .var (Tm.cells (.node k name arg num tk tks uk uks label place ks) |>.map .d)], []⟩)
    (fun x => ks.length - x.i) ⟨0, n + 1, Nat.zero_le _, by omega⟩ 2 (fun _ => rfl) (Nat.le_of_ble_eq_true rfl) ⟨⟨rfl, rfl, rfl, trivial⟩, rfl, rfl, ⟨[], by rw [hw]; rfl⟩, rfl⟩ (fun x => ?_)
  obtain ⟨i, c, hi, h⟩ := x
  repeat' first | refine AW.seq ?_ | refine AW.block ?_ | ((first | refine AW.region tab_ok ?_ | refine AW.cond ?_ | refine AW.skip ?_ | refine AW.ret ?_ | refine AW.exit ?_); conv => whnf) | ((first | refine And.intro (@rfl Val _) ?_ | refine And.intro (by decide) ?_ | refine cs (fun _ => ?_) (fun _ => ?_)) <;> conv => whnf)
  · rename_i h1 h2
    simp only [trows_length] at h1 ⊢
    have := of_decide_eq_true h1
    have h3 : c ≤ 600 := by have := of_decide_eq_true h2; simp only at this; omega
    refine ⟨by omega, fun row hrow => ?_⟩
    obtain ⟨t, ht, rfl⟩ := trows_get ks i row (by simpa using hrow)
    have hlt : i < ks.length := (List.getElem?_eq_some_iff.1 ht).1
    obtain ⟨kx, namex, argx, numx, tkx, tksx, ukx, uksx, labelx, placex, ksx⟩ := t
    conv => whnf
    repeat' first | refine AW.seq ?_ | refine AW.block ?_ | ((first | refine AW.region tab_ok ?_ | refine AW.cond ?_ | refine AW.skip ?_ | refine AW.ret ?_ | refine AW.exit ?_); conv => whnf) | ((first | refine And.intro (@rfl Val _) ?_ | refine And.intro (by decide) ?_ | refine cs (fun _ => ?_) (fun _ => ?_)) <;> conv => whnf)
    refine (ih _ (List.mem_of_getElem? ht) _ h3).mono ?_
    rintro _ _ ⟨r, hr, rfl, rfl⟩
    conv => whnf
    repeat' first | refine AW.seq ?_ | refine AW.block ?_ | ((first | refine AW.region tab_ok ?_ | refine AW.cond ?_ | refine AW.skip ?_ | refine AW.ret ?_ | refine AW.exit ?_); conv => whnf) | ((first | refine And.intro (@rfl Val _) ?_ | refine And.intro (by decide) ?_ | refine cs (fun _ => ?_) (fun _ => ?_)) <;> conv => whnf)
    rw [wrap64 (x := (i : Int) + 1) (by omega) (by omega)]
    exact ⟨⟨i + 1, r, hlt, by omega⟩, ⟨⟨rfl, rfl, rfl, trivial⟩, rfl, rfl, ⟨[], rfl⟩, rfl⟩, show ks.length - (i + 1) < ks.length - i by omega⟩
  · exact ⟨c, by omega, rfl, rfl⟩
  · exact ⟨c, by omega, rfl, rfl⟩
set_option maxRecDepth 10000 in
theorem great_call (t : Tm) (l : List Int) : ACall Try.prog 5 [t.val, .c (.d (.sl 0 1 (ints l)))] [] (fun o σ => ∃ b : Bool, (b = false → l.length ≤ 300) ∧ o = .ret (.c (.d (.bool b))) ∧ σ = []) := by
  obtain ⟨k, name, arg, num, tk, tks, uk, uks, label, place, ks⟩ := t
  refine ACall.body tab_ok (ρ := 0) (N := 18) Try.func5 rfl rfl rfl rfl rfl ?_
  repeat' first | refine AW.seq ?_ | refine AW.block ?_ | ((first | refine AW.region tab_ok ?_ | refine AW.cond ?_ | refine AW.skip ?_ | refine AW.ret ?_ | refine AW.exit ?_); conv => whnf) | ((first | refine And.intro (@rfl Val _) ?_ | refine And.intro (by decide) ?_ | refine cs (fun _ => ?_) (fun _ => ?_)) <;> conv => whnf)
  · exact ⟨true, (fun h => nomatch h), rfl, rfl⟩
  · rename_i h1
    have h1 := of_decide_eq_false h1
    rw [ints_len] at h1
    have hl : l.length ≤ 300 := by omega
    refine (Small_call (.node k name arg num tk tks uk uks label place ks)).mono ?_
    rintro _ _ ⟨b, rfl, rfl⟩
    conv => whnf
    cases b
    · skip
      repeat' first | refine AW.seq ?_ | refine AW.block ?_ | ((first | refine AW.region tab_ok ?_ | refine AW.cond ?_ | refine AW.skip ?_ | refine AW.ret ?_ | refine AW.exit ?_); conv => whnf) | ((first | refine And.intro (@rfl Val _) ?_ | refine And.intro (by decide) ?_ | refine cs (fun _ => ?_) (fun _ => ?_)) <;> conv => whnf)
      all_goals exact ⟨_, fun _ => hl, rfl, rfl⟩
    · skip
      repeat' first | refine AW.seq ?_ | refine AW.block ?_ | ((first | refine AW.region tab_ok ?_ | refine AW.cond ?_ | refine AW.skip ?_ | refine AW.ret ?_ | refine AW.exit ?_); conv => whnf) | ((first | refine And.intro (@rfl Val _) ?_ | refine And.intro (by decide) ?_ | refine cs (fun _ => ?_) (fun _ => ?_)) <;> conv => whnf)
      refine (wcounted_call (.node k name arg num tk tks uk uks label place ks) 0 (by omega)).mono ?_
      rintro _ _ ⟨r, hr, rfl, rfl⟩
      conv => whnf
      repeat' first | refine AW.seq ?_ | refine AW.block ?_ | ((first | refine AW.region tab_ok ?_ | refine AW.cond ?_ | refine AW.skip ?_ | refine AW.ret ?_ | refine AW.exit ?_); conv => whnf) | ((first | refine And.intro (@rfl Val _) ?_ | refine And.intro (by decide) ?_ | refine cs (fun _ => ?_) (fun _ => ?_)) <;> conv => whnf)
      all_goals exact ⟨_, fun _ => hl, rfl, rfl⟩
set_option maxRecDepth 10000 in
theorem LOf_call (k : Int) (a b : Ty) : ACall Try.prog 28 [.c (.d (.int .i8 k)), a.val, b.val] [] (fun o σ => o = .ret (Ty.node k [a, b]).val ∧ σ = []) := by
  obtain ⟨k1, s1⟩ := a
  obtain ⟨k2, s2⟩ := b
  refine ACall.body tab_ok (ρ := 0) (N := 12) Try.func28 rfl rfl rfl rfl rfl ?_
  repeat' first | refine AW.seq ?_ | refine AW.block ?_ | ((first | refine AW.region tab_ok ?_ | refine AW.cond ?_ | refine AW.skip ?_ | refine AW.ret ?_ | refine AW.exit ?_); conv => whnf) | ((first | refine And.intro (@rfl Val _) ?_ | refine And.intro (by decide) ?_ | refine cs (fun _ => ?_) (fun _ => ?_)) <;> conv => whnf)
  exact ⟨rfl, rfl⟩
def wkT : Tm := .node 4 ⟨#[120]⟩ ⟨#[]⟩ 0 3 [.node 1 [], .node 2 []] 0 [] 0 0 [.node 0 ⟨#[120]⟩ ⟨#[]⟩ 0 0 [] 0 [] 0 0 []]
theorem wk_sound : soundE wkT = 0 := by decide +kernel
theorem wk_sp : tmSp wkT = 3 := by decide +kernel
theorem wk_at1 : atE wkT [1] = 0 := by decide +kernel
theorem wk_at2 : atE wkT [0, 2] = 0 := by decide +kernel
theorem wk_at3 : atE wkT [3] = 2 := by decide +kernel
theorem wk_t1 : leT (atB [1]) wkT 0 = .node 4 ⟨#[120]⟩ ⟨#[]⟩ 0 3 [.node 0 [], .node 2 []] 0 [] 0 0 [.node 0 ⟨#[120]⟩ ⟨#[]⟩ 0 0 [] 0 [] 0 0 []] := by rfl
theorem wk_t2 : leT (atB [0, 2]) wkT 0 = .node 4 ⟨#[120]⟩ ⟨#[]⟩ 0 0 [] 0 [] 0 0 [.node 0 ⟨#[120]⟩ ⟨#[]⟩ 0 0 [] 0 [] 0 0 []] := by rfl
set_option maxRecDepth 10000 in
theorem lwakes_call : ACall Try.prog 6 [] [] (fun o σ => o = .ret (.c (.d (.bool true))) ∧ σ = []) := by
  have c0 := LOf_call 3 (.node 1 []) (.node 2 [])
  have c1 := At_call wkT [1] (by decide)
  have c2 := At_call wkT [0, 2] (by decide)
  have c3 := At_call wkT [3] (by decide)
  have c4 := Spots_call wkT
  rw [atT, wk_at1, if_pos rfl, wk_t1] at c1
  rw [atT, wk_at2, if_pos rfl, wk_t2] at c2
  rw [atT, wk_at3, if_neg (by decide)] at c3
  rw [SpotsS, if_pos wk_sound, wk_sp] at c4
  refine ACall.body tab_ok (ρ := 0) (N := 86) Try.func6 rfl rfl rfl rfl rfl ?_
  repeat' first | refine AW.seq ?_ | refine AW.block ?_ | ((first | refine AW.region tab_ok ?_ | refine AW.cond ?_ | refine AW.skip ?_ | refine AW.ret ?_ | refine AW.exit ?_); conv => whnf) | ((first | refine (c0).mono ?_ | refine (c1).mono ?_ | refine (c2).mono ?_ | refine (c3).mono ?_ | refine (c4).mono ?_); rintro _ _ ⟨rfl, rfl⟩; conv => whnf) | ((first | refine And.intro (@rfl Val _) ?_ | refine And.intro (by decide) ?_ | refine cs (fun _ => ?_) (fun _ => ?_)) <;> conv => whnf)
  intro row hrow
  obtain rfl : Ty.cells (.node 0 []) = row := Option.some.inj hrow
  conv => whnf
  repeat' first | refine AW.seq ?_ | refine AW.block ?_ | ((first | refine AW.region tab_ok ?_ | refine AW.cond ?_ | refine AW.skip ?_ | refine AW.ret ?_ | refine AW.exit ?_); conv => whnf) | ((first | refine (c0).mono ?_ | refine (c1).mono ?_ | refine (c2).mono ?_ | refine (c3).mono ?_ | refine (c4).mono ?_); rintro _ _ ⟨rfl, rfl⟩; conv => whnf) | ((first | refine And.intro (@rfl Val _) ?_ | refine And.intro (by decide) ?_ | refine cs (fun _ => ?_) (fun _ => ?_)) <;> conv => whnf)
  intro row hrow
  obtain rfl : Ty.cells (.node 2 []) = row := Option.some.inj hrow
  conv => whnf
  repeat' first | refine AW.seq ?_ | refine AW.block ?_ | ((first | refine AW.region tab_ok ?_ | refine AW.cond ?_ | refine AW.skip ?_ | refine AW.ret ?_ | refine AW.exit ?_); conv => whnf) | ((first | refine (c0).mono ?_ | refine (c1).mono ?_ | refine (c2).mono ?_ | refine (c3).mono ?_ | refine (c4).mono ?_); rintro _ _ ⟨rfl, rfl⟩; conv => whnf) | ((first | refine And.intro (@rfl Val _) ?_ | refine And.intro (by decide) ?_ | refine cs (fun _ => ?_) (fun _ => ?_)) <;> conv => whnf)
  all_goals exact ⟨rfl, rfl⟩
end Go.Proofs.Ytlboogackecjlaa.E
