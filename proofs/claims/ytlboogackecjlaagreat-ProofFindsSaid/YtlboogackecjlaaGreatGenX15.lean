/- Texts, merged: Rw2, Rw6, Pr1. No conditions. -/
import Derived.Test.YtlboogackecjlaaGreatGenX7
import Derived.Test.YtlboogackecjlaaGreatGenX10
import Derived.Test.YtlboogackecjlaaGreatGenX14
import Derived.Test.YtlboogackecjlaaGreatGenX5
import Derived.Test.YtlboogackecjlaaGreatGenX6
import Derived.Test.YtlboogackecjlaaGreatGenX9
/- LikeType, LikeTerm, like of a thing and itself, of any size. No conditions. -/
set_option linter.unusedVariables false
set_option linter.unusedSimpArgs false
namespace Go.Proofs.YtlboogackecjlaaGreat.E
open Go

set_option maxRecDepth 10000 in
theorem likeTyO_call (a : Ty) : TyOk a → ACall Tryz.prog 25 [a.val, a.val] [] (fun o σ => o = .ret (.c (.d (.bool true))) ∧ σ = []) := by
  induction a using Ty.ind with
  | _ k ks ih =>
  rintro (⟨hle, hks⟩)
  refine ACall.body tab_ok (ρ := 0) (N := 39) Tryz.func25 rfl rfl rfl rfl rfl ?_
  repeat' first | refine AW.seq ?_ | refine AW.block ?_ | (refine (id : AW _ _ _ (.region 6 _ true) _ _ → _) ?_; refine AW.draw (id := 6) tab_ok mixed [0, 1, 2, 3, 4, 5, 6, 7, 8, 9, 10, 11] (by kernel_rfl) ?_; conv => whnf) | ((first | refine AW.region tab_ok ?_ | refine AW.cond ?_ | refine AW.skip ?_ | refine AW.ret ?_ | refine AW.exit ?_); conv => whnf) | ((first | refine And.intro (@rfl Val _) ?_ | refine And.intro (by decide) ?_ | refine cs (fun _ => ?_) (fun _ => ?_)) <;> conv => whnf)
  · rename_i h; simp at h
  · rename_i h0 h; simp at h
  · rename_i h0 h
    refine AW.loop (ι := UpTo ks) (fun x => ⟨39, [(5, .c (.d (.int .i64 x.i))), (2, .c (.ptr 0 0)), (3, .c (.ptr 1 0))], [.var [.d (.int .i8 k), .d (.sl 0 2 (Ty.rows ks))], .var [.d (.int .i8 k), .d (.sl 0 2 (Ty.rows ks))]], []⟩)
      (fun x => ks.length - x.i) ⟨0, Nat.zero_le _⟩ 2 (fun _ => rfl) (Nat.le_of_ble_eq_true rfl) ⟨⟨rfl, rfl, rfl, trivial⟩, rfl, rfl, ⟨[], rfl⟩, rfl⟩ (fun x => ?_)
    obtain ⟨i, hi⟩ := x
    repeat' first | refine AW.seq ?_ | refine AW.block ?_ | (refine (id : AW _ _ _ (.region 6 _ true) _ _ → _) ?_; refine AW.draw (id := 6) tab_ok mixed [0, 1, 2, 3, 4, 5, 6, 7, 8, 9, 10, 11] (by kernel_rfl) ?_; conv => whnf) | ((first | refine AW.region tab_ok ?_ | refine AW.cond ?_ | refine AW.skip ?_ | refine AW.ret ?_ | refine AW.exit ?_); conv => whnf) | ((first | refine And.intro (@rfl Val _) ?_ | refine And.intro (by decide) ?_ | refine cs (fun _ => ?_) (fun _ => ?_)) <;> conv => whnf)
    · rename_i h1
      simp only [rows_length] at h1 ⊢
      have := of_decide_eq_true h1
      refine ⟨by omega, fun row hrow => ?_⟩
      obtain ⟨⟨kx, kxs⟩, ht, rfl⟩ := rows_get ks i row (by simpa using hrow)
      have hlt : i < ks.length := (List.getElem?_eq_some_iff.1 ht).1
      have hm := List.mem_of_getElem? ht
      conv => whnf
      repeat' first | refine AW.seq ?_ | refine AW.block ?_ | (refine (id : AW _ _ _ (.region 6 _ true) _ _ → _) ?_; refine AW.draw (id := 6) tab_ok mixed [0, 1, 2, 3, 4, 5, 6, 7, 8, 9, 10, 11] (by kernel_rfl) ?_; conv => whnf) | ((first | refine AW.region tab_ok ?_ | refine AW.cond ?_ | refine AW.skip ?_ | refine AW.ret ?_ | refine AW.exit ?_); conv => whnf) | ((first | refine And.intro (@rfl Val _) ?_ | refine And.intro (by decide) ?_ | refine cs (fun _ => ?_) (fun _ => ?_)) <;> conv => whnf)
      simp only [rows_length]
      refine ⟨by omega, fun row hrow => ?_⟩
      obtain ⟨y, hu, rfl⟩ := rows_get ks i row (by simpa using hrow)
      rw [ht] at hu
      cases hu
      conv => whnf
      repeat' first | refine AW.seq ?_ | refine AW.block ?_ | (refine (id : AW _ _ _ (.region 6 _ true) _ _ → _) ?_; refine AW.draw (id := 6) tab_ok mixed [0, 1, 2, 3, 4, 5, 6, 7, 8, 9, 10, 11] (by kernel_rfl) ?_; conv => whnf) | ((first | refine AW.region tab_ok ?_ | refine AW.cond ?_ | refine AW.skip ?_ | refine AW.ret ?_ | refine AW.exit ?_); conv => whnf) | (refine (ih _ hm (hks _ hm)).mono ?_; rintro _ _ ⟨rfl, rfl⟩; conv => whnf) | ((first | refine And.intro (@rfl Val _) ?_ | refine And.intro (by decide) ?_ | refine cs (fun _ => ?_) (fun _ => ?_)) <;> conv => whnf)
      rw [wrap64 (x := (i : Int) + 1) (by omega) (by omega)]
      exact ⟨⟨i + 1, hlt⟩, ⟨⟨rfl, rfl, rfl, trivial⟩, rfl, rfl, ⟨[], rfl⟩, rfl⟩, show ks.length - (i + 1) < ks.length - i by omega⟩
    · exact ⟨rfl, rfl⟩
set_option maxRecDepth 10000 in
theorem likeTmO_call (a : Tm) : TmOk a → ACall Tryz.prog 14 [a.val, a.val] [] (fun o σ => o = .ret (.c (.d (.bool true))) ∧ σ = []) := by
  induction a using Tm.ind with
  | _ k name arg num tk tks uk uks label place ks ih =>
  rintro (⟨h1, h2, h3, h4⟩)
  have c1 := likeTyO_call _ h1
  have c2 := likeTyO_call _ h2
  refine ACall.body tab_ok (ρ := 0) (N := 90) Tryz.func14 rfl rfl rfl rfl rfl ?_
  repeat' first | refine AW.seq ?_ | refine AW.block ?_ | (refine (id : AW _ _ _ (.region 6 _ true) _ _ → _) ?_; refine AW.draw (id := 6) tab_ok mixed [0, 1, 2, 3, 4, 5, 6, 7, 8, 9, 10, 11] (by kernel_rfl) ?_; conv => whnf) | ((first | refine AW.region tab_ok ?_ | refine AW.cond ?_ | refine AW.skip ?_ | refine AW.ret ?_ | refine AW.exit ?_); conv => whnf) | ((first | refine (c1).mono ?_ | refine (c2).mono ?_); rintro _ _ ⟨rfl, rfl⟩; conv => whnf) | ((first | refine And.intro (@rfl Val _) ?_ | refine And.intro (by decide) ?_ | refine cs (fun _ => ?_) (fun _ => ?_)) <;> conv => whnf)
  all_goals first | (rename_i h; simp at h; done) | skip
  · refine AW.loop (ι := UpToT ks) (fun x => ⟨90, [(5, .c (.d (.int .i64 x.i))), (2, .c (.ptr 0 0)), (3, .c (.ptr 1 0))], [.var [.d (.int .i8 k), .d (.str name), .d (.str arg), .d (.int .i64 num), .d (.int .i8 tk), .d (.sl 0 2 (Ty.rows tks)), .d (.int .i8 uk), .d (.sl 0 2 (Ty.rows uks)), .d (.int .i64 label), .d (.int .i64 place), .d (.sl 0 11 (Tm.rows ks))], .var [.d (.int .i8 k), .d (.str name), .d (.str arg), .d (.int .i64 num), .d (.int .i8 tk), .d (.sl 0 2 (Ty.rows tks)), .d (.int .i8 uk), .d (.sl 0 2 (Ty.rows uks)), .d (.int .i64 label), .d (.int .i64 place), .d (.sl 0 11 (Tm.rows ks))]], []⟩)
      (fun x => ks.length - x.i) ⟨0, Nat.zero_le _⟩ 2 (fun _ => rfl) (Nat.le_of_ble_eq_true rfl) ⟨⟨rfl, rfl, rfl, trivial⟩, rfl, rfl, ⟨[], rfl⟩, rfl⟩ (fun x => ?_)
    obtain ⟨i, hi⟩ := x
    repeat' first | refine AW.seq ?_ | refine AW.block ?_ | (refine (id : AW _ _ _ (.region 6 _ true) _ _ → _) ?_; refine AW.draw (id := 6) tab_ok mixed [0, 1, 2, 3, 4, 5, 6, 7, 8, 9, 10, 11] (by kernel_rfl) ?_; conv => whnf) | ((first | refine AW.region tab_ok ?_ | refine AW.cond ?_ | refine AW.skip ?_ | refine AW.ret ?_ | refine AW.exit ?_); conv => whnf) | ((first | refine And.intro (@rfl Val _) ?_ | refine And.intro (by decide) ?_ | refine cs (fun _ => ?_) (fun _ => ?_)) <;> conv => whnf)
    · rename_i h1
      simp only [trows_length] at h1 ⊢
      have := of_decide_eq_true h1
      refine ⟨by omega, fun row hrow => ?_⟩
      obtain ⟨⟨kx, namex, argx, numx, tkx, tksx, ukx, uksx, labelx, placex, ksx⟩, ht, rfl⟩ := trows_get ks i row (by simpa using hrow)
      have hlt : i < ks.length := (List.getElem?_eq_some_iff.1 ht).1
      have hm := List.mem_of_getElem? ht
      conv => whnf
      repeat' first | refine AW.seq ?_ | refine AW.block ?_ | (refine (id : AW _ _ _ (.region 6 _ true) _ _ → _) ?_; refine AW.draw (id := 6) tab_ok mixed [0, 1, 2, 3, 4, 5, 6, 7, 8, 9, 10, 11] (by kernel_rfl) ?_; conv => whnf) | ((first | refine AW.region tab_ok ?_ | refine AW.cond ?_ | refine AW.skip ?_ | refine AW.ret ?_ | refine AW.exit ?_); conv => whnf) | ((first | refine And.intro (@rfl Val _) ?_ | refine And.intro (by decide) ?_ | refine cs (fun _ => ?_) (fun _ => ?_)) <;> conv => whnf)
      simp only [trows_length]
      refine ⟨by omega, fun row hrow => ?_⟩
      obtain ⟨y, hu, rfl⟩ := trows_get ks i row (by simpa using hrow)
      rw [ht] at hu
      cases hu
      have hc := ih _ hm (h4 _ hm)
      conv => whnf
      repeat' first | refine AW.seq ?_ | refine AW.block ?_ | (refine (id : AW _ _ _ (.region 6 _ true) _ _ → _) ?_; refine AW.draw (id := 6) tab_ok mixed [0, 1, 2, 3, 4, 5, 6, 7, 8, 9, 10, 11] (by kernel_rfl) ?_; conv => whnf) | ((first | refine AW.region tab_ok ?_ | refine AW.cond ?_ | refine AW.skip ?_ | refine AW.ret ?_ | refine AW.exit ?_); conv => whnf) | (refine (hc).mono ?_; rintro _ _ ⟨rfl, rfl⟩; conv => whnf) | ((first | refine And.intro (@rfl Val _) ?_ | refine And.intro (by decide) ?_ | refine cs (fun _ => ?_) (fun _ => ?_)) <;> conv => whnf)
      rw [wrap64 (x := (i : Int) + 1) (by omega) (by omega)]
      exact ⟨⟨i + 1, hlt⟩, ⟨⟨rfl, rfl, rfl, trivial⟩, rfl, rfl, ⟨[], rfl⟩, rfl⟩, show ks.length - (i + 1) < ks.length - i by omega⟩
    · exact ⟨rfl, rfl⟩
/-- A derivation whose types and kids are bounded. -/
inductive PfOk : Pf → Prop where
  | node {r a ks} (ha : TyOk a) (h : ks.length ≤ 8192) (hk : ∀ q ∈ ks, PfOk q) : PfOk (.node r a ks)
structure UpToP (ks : List Pf) where
  i : Nat
  hi : i ≤ ks.length
set_option maxRecDepth 10000 in
theorem plike_call (p : Pf) : PfOk p → ACall Tryz.prog 11 [p.val, p.val] [] (fun o σ => o = .ret (.c (.d (.bool true))) ∧ σ = []) := by
  intro hp
  induction hp with
  | @node r a ks ha hlen hk ih =>
  have c1 := likeTyO_call a ha
  obtain ⟨ak, aks⟩ := a
  refine ACall.body tab_ok (ρ := 0) (N := 47) Tryz.func11 rfl rfl rfl rfl rfl ?_
  repeat' first | refine AW.seq ?_ | refine AW.block ?_ | (refine (id : AW _ _ _ (.region 6 _ true) _ _ → _) ?_; refine AW.draw (id := 6) tab_ok mixed [0, 1, 2, 3, 4, 5, 6, 7, 8, 9, 10, 11] (by kernel_rfl) ?_; conv => whnf) | ((first | refine AW.region tab_ok ?_ | refine AW.cond ?_ | refine AW.skip ?_ | refine AW.ret ?_ | refine AW.exit ?_); conv => whnf) | (refine (c1).mono ?_; rintro _ _ ⟨rfl, rfl⟩; conv => whnf) | ((first | refine And.intro (@rfl Val _) ?_ | refine And.intro (by decide) ?_ | refine cs (fun _ => ?_) (fun _ => ?_)) <;> conv => whnf)
  all_goals first | (rename_i h; simp at h; done) | skip
  · refine AW.loop (ι := UpToP ks) (fun x => ⟨47, [(5, .c (.d (.int .i64 x.i))), (2, .c (.ptr 0 0)), (3, .c (.ptr 1 0))], [.var [.d (.str r), .d (.int .i8 ak), .d (.sl 0 2 (Ty.rows aks)), .d (.sl 0 4 (Pf.rows ks))], .var [.d (.str r), .d (.int .i8 ak), .d (.sl 0 2 (Ty.rows aks)), .d (.sl 0 4 (Pf.rows ks))]], []⟩)
      (fun x => ks.length - x.i) ⟨0, Nat.zero_le _⟩ 2 (fun _ => rfl) (Nat.le_of_ble_eq_true rfl) ⟨⟨rfl, rfl, rfl, trivial⟩, rfl, rfl, ⟨[], rfl⟩, rfl⟩ (fun x => ?_)
    obtain ⟨i, hi⟩ := x
    repeat' first | refine AW.seq ?_ | refine AW.block ?_ | (refine (id : AW _ _ _ (.region 6 _ true) _ _ → _) ?_; refine AW.draw (id := 6) tab_ok mixed [0, 1, 2, 3, 4, 5, 6, 7, 8, 9, 10, 11] (by kernel_rfl) ?_; conv => whnf) | ((first | refine AW.region tab_ok ?_ | refine AW.cond ?_ | refine AW.skip ?_ | refine AW.ret ?_ | refine AW.exit ?_); conv => whnf) | ((first | refine And.intro (@rfl Val _) ?_ | refine And.intro (by decide) ?_ | refine cs (fun _ => ?_) (fun _ => ?_)) <;> conv => whnf)
    · rename_i h1
      simp only [prows_len] at h1
      have h1 := of_decide_eq_true h1
      try simp only at h1
      have hlt : i < ks.length := by omega
      obtain ⟨x, ht⟩ : ∃ x, ks[i]? = some x := ⟨_, List.getElem?_eq_getElem hlt⟩
      have f1 : (0 : Int) ≤ (i : Int) ∧ (i : Int) < ((Pf.rows ks).length : Nat) := by rw [prows_len]; omega
      have e1 : ∀ row, (Pf.rows ks)[((i : Nat) : Int).toNat]? = some row → x.cells = row := fun row h => by
        obtain ⟨y, hy, rfl⟩ := prows_get ks i row (by simpa using h)
        rw [ht] at hy; cases hy; rfl
      have hc := ih x (List.mem_of_getElem? ht)
      obtain ⟨xr, ⟨xk, xks⟩, xqs⟩ := x
      refine ⟨f1, fun row hrow => ?_⟩
      obtain rfl := e1 row hrow
      conv => whnf
      repeat' first | ((refine And.intro f1 fun row hrow => ?_; obtain rfl := e1 row hrow; conv => whnf)) | refine AW.seq ?_ | refine AW.block ?_ | (refine (id : AW _ _ _ (.region 6 _ true) _ _ → _) ?_; refine AW.draw (id := 6) tab_ok mixed [0, 1, 2, 3, 4, 5, 6, 7, 8, 9, 10, 11] (by kernel_rfl) ?_; conv => whnf) | ((first | refine AW.region tab_ok ?_ | refine AW.cond ?_ | refine AW.skip ?_ | refine AW.ret ?_ | refine AW.exit ?_); conv => whnf) | (refine (hc).mono ?_; rintro _ _ ⟨rfl, rfl⟩; conv => whnf) | ((first | refine And.intro (@rfl Val _) ?_ | refine And.intro (by decide) ?_ | refine cs (fun _ => ?_) (fun _ => ?_)) <;> conv => whnf)
      rw [wrap64 (x := (i : Int) + 1) (by omega) (by omega)]
      exact ⟨⟨i + 1, hlt⟩, ⟨⟨rfl, rfl, rfl, trivial⟩, rfl, rfl, ⟨[], rfl⟩, rfl⟩, show ks.length - (i + 1) < ks.length - i by omega⟩
    · exact ⟨rfl, rfl⟩
end Go.Proofs.YtlboogackecjlaaGreat.E

/- proof.Find: what it finds lies in blocks of its own. No conditions. -/
set_option linter.unusedVariables false
set_option linter.unusedSimpArgs false
namespace Go.Proofs.YtlboogackecjlaaGreat.E
open Go

theorem derive2_all (t : Tm) : Fine2 t → tmright t = true → tmhas 17 t = false → ∀ (l : List Bd), l.length + 2 * tmN t ≤ 90000 → (∀ b ∈ l, TyOk b.a) →
    ACall Tryz.prog 19 [.c (.mp 0), .c (.d (.rp 9 (t.cellsR 9 9))), .c (.d (.sl 9 3 (bdsR 9 l))), .c (.d .nilp)] [.mp (.int .i8) 16 rulesM]
      (fun o σ => o = .ret (.tup [(drv t l none).1.valR 2, .c (.d (.bool (drv t l none).2))]) ∧ σ = [.mp (.int .i8) 16 rulesM]) := by
  induction t using Tm.ind with
  | _ k name arg num tk tks uk uks label place ks ih =>
  rintro (⟨hT, hU, hlen, hks⟩)
  intro hr h17 l hl hb
  have h17' : ¬ k = 17 ∧ tmhass 17 ks = false := by simpa [tmhas] using h17
  have hv := tmright_valid hr
  have hv : 0 ≤ k ∧ k ≤ 17 := by simpa [validK] using hv
  have hN := tmN_pos (.node k name arg num tk tks uk uks label place ks)
  have hD := drvs_ok k name arg l none hT hU hb ks hks 0 unk tyok_unk
  refine derive2_call k ⟨hv.1, by omega⟩ name arg num tk tks uk uks label place ks l hlen (by omega) (by have := tmright_len hr; omega) (fun L hL => ?_) (fun l' => ∀ b ∈ l', TyOk b.a) (fun i zs X h => ?_) (fun t ht l' hl' hb' => ?_)
  · refine tyok_ite (findB_ok hb name) (ruleM_ok k name hT hU fun a ha => ?_)
    obtain ⟨q, hq, rfl⟩ := List.mem_map.1 ha
    exact hD q (by rw [hL]; exact hq)
  · refine innerM_ok k name arg i hT hU hb ?_
    cases zs with
    | nil => exact tyok_unk
    | cons z zs => exact hD z (by rw [h]; simp)
  · have h1 := tmN_mem ks t ht
    have h2 : tmN t + 1 ≤ tmN (.node k name arg num tk tks uk uks label place ks) := by simp only [tmN]; omega
    refine ih t ht (hks t ht) (tmright_kid hr ht) ?_ l' (by omega) hb'
    cases e : tmhas 17 t with
    | false => rfl
    | true => rw [tmhass_mem 17 ks t ht e] at h17'; exact absurd h17'.2 (by simp)
theorem sound_any (t : Tm) : ACall Tryz.prog 18 [.c (.d (.rp 2 (t.cellsR 9 9)))] [] (fun o σ => o = .ret (.c (.d (.int .i64 (soundP t)))) ∧ σ = []) :=
  (psound_call t).any (.cons (by rw [← tm_R0]; exact .c _ _ (tm_rt 9 9 0 t).rp) .nil) (.int _ _)
set_option maxRecDepth 10000 in
theorem Find2_call (t : Tm) (hf : tmcheck t = 0 → Fine2 t) : ACall Tryz.prog 9 [t.valR 9 9] [] (fun o σ => o = .ret (.tup [(findP t).valR 2, .c (.d (.int .i64 (findE t)))]) ∧ σ = []) := by
  have c1 := sound_any t
  by_cases h : soundP t = 0
  · obtain ⟨h1, h2⟩ := soundP_ok h
    obtain ⟨h3, h4⟩ := tmcheck_ok h1
    have c3 := derive2_all t (hf h1) h4 h2 [] (by simp; omega) (by simp)
    have c3 := ACall.argsT (xs := [.c (.mp 0), .c (.d (.rp 2 (t.cellsR 9 9))), .c (.d (.sl 2 3 [])), .c (.d .nilp)]) (.cons (.same _) (.cons (.rt (.c _ _ (tm_rt 9 9 9 t).rp)) (.cons (.rt (.c _ _ (RtR.nil.sl))) (.cons (.same _) .nil)))) c3
    rw [h] at c1
    have e1 : findE t = if (drv t [] none).2 = true then 0 else 100 := by simp [findE, h]
    unfold findP
    rw [e1]
    generalize drv t [] none = q at *
    clear h h1 h2 h3 h4 hf e1
    obtain ⟨⟨qr, ⟨qk, qks⟩, qqs⟩, bq⟩ := q
    obtain ⟨k, name, arg, num, tk, tks, uk, uks, label, place, ks⟩ := t
    cases bq
    · skip
      refine ACall.body tab_ok (ρ := 2) (N := 21) Tryz.func9 rfl rfl rfl rfl rfl ?_
      repeat' first | refine AW.seq ?_ | refine AW.block ?_ | ((first | refine AW.region tab_ok ?_ | refine AW.cond ?_ | refine AW.skip ?_ | refine AW.ret ?_ | refine AW.exit ?_); conv => whnf) | ((first | refine (c1).mono ?_ | refine (table_call).mono ?_ | refine (c3).mono ?_); rintro _ _ ⟨rfl, rfl⟩; conv => whnf) | ((first | refine And.intro (@rfl Val _) ?_ | refine And.intro (by decide) ?_ | refine cs (fun _ => ?_) (fun _ => ?_)) <;> conv => whnf)
      all_goals exact ⟨rfl, rfl⟩
    · skip
      refine ACall.body tab_ok (ρ := 2) (N := 21) Tryz.func9 rfl rfl rfl rfl rfl ?_
      repeat' first | refine AW.seq ?_ | refine AW.block ?_ | ((first | refine AW.region tab_ok ?_ | refine AW.cond ?_ | refine AW.skip ?_ | refine AW.ret ?_ | refine AW.exit ?_); conv => whnf) | ((first | refine (c1).mono ?_ | refine (table_call).mono ?_ | refine (c3).mono ?_); rintro _ _ ⟨rfl, rfl⟩; conv => whnf) | ((first | refine And.intro (@rfl Val _) ?_ | refine And.intro (by decide) ?_ | refine cs (fun _ => ?_) (fun _ => ?_)) <;> conv => whnf)
      all_goals exact ⟨rfl, rfl⟩
  · have e1 : findE t = soundP t := by simp [findE, h]
    have e2 : findP t = pf0 := by simp [findP, e1, h]
    rw [e1, e2]
    generalize soundP t = S at *
    obtain ⟨k, name, arg, num, tk, tks, uk, uks, label, place, ks⟩ := t
    refine ACall.body tab_ok (ρ := 2) (N := 21) Tryz.func9 rfl rfl rfl rfl rfl ?_
    repeat' first | ((refine cs (fun _ => ?_) (fun g => absurd g (by simpa using h)); conv => whnf)) | refine AW.seq ?_ | refine AW.block ?_ | ((first | refine AW.region tab_ok ?_ | refine AW.cond ?_ | refine AW.skip ?_ | refine AW.ret ?_ | refine AW.exit ?_); conv => whnf) | (refine (c1).mono ?_; rintro _ _ ⟨rfl, rfl⟩; conv => whnf) | ((first | refine And.intro (@rfl Val _) ?_ | refine And.intro (by decide) ?_ | refine cs (fun _ => ?_) (fun _ => ?_)) <;> conv => whnf)
    all_goals exact ⟨rfl, rfl⟩
theorem drv_pfok (t : Tm) : Fine2 t → ∀ (l : List Bd), (∀ b ∈ l, TyOk b.a) → PfOk (drv t l none).1 := by
  induction t using Tm.ind with
  | _ k name arg num tk tks uk uks label place ks ih =>
  intro hf
  have hf0 := hf
  obtain ⟨hT, hU, hlen, hks⟩ := hf
  intro l hl
  have hty := drv_ok _ hf0 l none hl
  have hs : ∀ (ks : List Tm), (∀ t ∈ ks, Fine2 t → ∀ (l : List Bd), (∀ b ∈ l, TyOk b.a) → PfOk (drv t l none).1) → (∀ t ∈ ks, Fine2 t) → ∀ (i : Nat) (a : Ty), TyOk a →
      (drvs k name arg (.node tk tks) (.node uk uks) l none ks i a).1.length ≤ ks.length ∧ ∀ q ∈ (drvs k name arg (.node tk tks) (.node uk uks) l none ks i a).1, PfOk q := fun ks => by
    induction ks with
    | nil => intro _ _ i a _; simp [drvs]
    | cons t r ir =>
      intro h1 h2 i a ha
      have hi := innerM_ok k name arg i hT hU hl ha
      have hq1 := h1 t (by simp) (h2 t (by simp)) _ hi
      have hq2 := drv_ok t (h2 t (by simp)) _ none hi
      simp only [drvs, pkid, Option.map_none]
      by_cases hd : (drv t (innerM k name arg (.node tk tks) (.node uk uks) l i a) none).2 = true
      · simp only [hd, if_true]
        obtain ⟨g1, g2⟩ := ir (fun t ht => h1 t (by simp [ht])) (fun t ht => h2 t (by simp [ht])) (i + 1) (if i = 0 then (drv t (innerM k name arg (.node tk tks) (.node uk uks) l i a) none).1.ty else a) (by split <;> assumption)
        refine ⟨by simp; exact g1, fun q hq => ?_⟩
        rcases List.mem_cons.1 hq with rfl | hq
        · exact hq1
        · exact g2 q hq
      · simp [hd]
  obtain ⟨s1, s2⟩ := hs ks ih hks 0 unk tyok_unk
  rw [drv] at hty ⊢
  simp only [pbad, Bool.false_eq_true, if_false] at hty ⊢
  unfold drvF at hty ⊢
  split
  · exact .node tyok_unk (by omega) s2
  · rename_i hz
    rw [if_neg hz] at hty
    exact .node hty (by omega) s2
theorem findP_ok (t : Tm) (hf : tmcheck t = 0 → Fine2 t) : PfOk (findP t) := by
  unfold findP
  split
  · rename_i h
    by_cases hs : soundP t = 0
    · exact drv_pfok t (hf (soundP_ok hs).1) [] (by simp)
    · exact absurd h (by simp [findE, hs])
  · exact .node tyok_unk (by simp) (by simp)
end Go.Proofs.YtlboogackecjlaaGreat.E

/- The document's rules: parts, words. No conditions. -/
set_option linter.unusedVariables false
set_option linter.unusedSimpArgs false
namespace Go.Proofs.YtlboogackecjlaaGreat.E
open Go

/-- A fault. -/
structure Flt where
  e : Int
  p : Int
  w : ByteArray
def Flt.val (f : Flt) : Val := .agg [.d (.int .i64 f.e), .d (.int .i64 f.p), .d (.str f.w)]
def flt0 : Flt := ⟨0, 0, ⟨#[]⟩⟩
def failM (e : Int) (place : Int) : Ty × Flt := (unk, ⟨e, place, ⟨#[]⟩⟩)
def fineM (a : Ty) (place : Int) : Ty × Flt := if nodes a > 8192 then failM 32 place else if tdepth a > 200 then failM 31 place else (a, flt0)
def rV (q : Ty × Flt) : Out := .ret (.tup [q.1.val, q.2.val])
set_option maxRecDepth 10000 in
theorem ROf_call (k : Int) (a b : Ty) : ACall Tryz.prog 90 [.c (.d (.int .i8 k)), a.val, b.val] [] (fun o σ => o = .ret (Ty.node k [a, b]).val ∧ σ = []) := by
  obtain ⟨k1, s1⟩ := a
  obtain ⟨k2, s2⟩ := b
  refine ACall.body tab_ok (ρ := 0) (N := 12) Tryz.func90 rfl rfl rfl rfl rfl ?_
  repeat' first | refine AW.seq ?_ | refine AW.block ?_ | ((first | refine AW.region tab_ok ?_ | refine AW.cond ?_ | refine AW.skip ?_ | refine AW.ret ?_ | refine AW.exit ?_); conv => whnf) | ((first | refine And.intro (@rfl Val _) ?_ | refine And.intro (by decide) ?_ | refine cs (fun _ => ?_) (fun _ => ?_)) <;> conv => whnf)
  exact ⟨rfl, rfl⟩
set_option maxRecDepth 10000 in
theorem RMake_call (k : Int) (a b : Ty) : ACall Tryz.prog 60 [.c (.d (.int .i8 k)), a.val, b.val] [] (fun o σ => o = .ret (Ty.node k [a, b]).val ∧ σ = []) := by
  obtain ⟨k1, s1⟩ := a
  obtain ⟨k2, s2⟩ := b
  refine ACall.body tab_ok (ρ := 0) (N := 12) Tryz.func60 rfl rfl rfl rfl rfl ?_
  repeat' first | refine AW.seq ?_ | refine AW.block ?_ | ((first | refine AW.region tab_ok ?_ | refine AW.cond ?_ | refine AW.skip ?_ | refine AW.ret ?_ | refine AW.exit ?_); conv => whnf) | ((first | refine And.intro (@rfl Val _) ?_ | refine And.intro (by decide) ?_ | refine cs (fun _ => ?_) (fun _ => ?_)) <;> conv => whnf)
  exact ⟨rfl, rfl⟩
set_option maxRecDepth 10000 in
theorem RSimple_call (k : Int) : ACall Tryz.prog 57 [.c (.d (.int .i8 k))] [] (fun o σ => o = .ret (Ty.node k []).val ∧ σ = []) := by
  refine ACall.body tab_ok (ρ := 0) (N := 5) Tryz.func57 rfl rfl rfl rfl rfl ?_
  repeat' first | refine AW.seq ?_ | refine AW.block ?_ | ((first | refine AW.region tab_ok ?_ | refine AW.cond ?_ | refine AW.skip ?_ | refine AW.ret ?_ | refine AW.exit ?_); conv => whnf) | ((first | refine And.intro (@rfl Val _) ?_ | refine And.intro (by decide) ?_ | refine cs (fun _ => ?_) (fun _ => ?_)) <;> conv => whnf)
  exact ⟨rfl, rfl⟩
set_option maxRecDepth 10000 in
theorem Rfail_call (e : Int) (k : Int) (name arg : ByteArray) (num tk : Int) (tks : List Ty) (uk : Int) (uks : List Ty) (label place : Int) (ks : List Tm) :
    ACall Tryz.prog 62 [.c (.d (.int .i64 e)), (Tm.node k name arg num tk tks uk uks label place ks).val] [] (fun o σ => o = rV (failM e place) ∧ σ = []) := by
  refine ACall.body tab_ok (ρ := 0) (N := 11) Tryz.func62 rfl rfl rfl rfl rfl ?_
  repeat' first | refine AW.seq ?_ | refine AW.block ?_ | (refine (id : AW _ _ _ (.region 1 _ true) _ _ → _) ?_; refine AW.draw (id := 1) tab_ok mixed [0, 1, 2, 3, 4, 5, 6] (by kernel_rfl) ?_; conv => whnf) | ((first | refine AW.region tab_ok ?_ | refine AW.cond ?_ | refine AW.skip ?_ | refine AW.ret ?_ | refine AW.exit ?_); conv => whnf) | ((first | refine And.intro (@rfl Val _) ?_ | refine And.intro (by decide) ?_ | refine cs (fun _ => ?_) (fun _ => ?_)) <;> conv => whnf)
  exact ⟨rfl, rfl⟩
set_option maxRecDepth 10000 in
theorem Rfine_call (a : Ty) (k : Int) (name arg : ByteArray) (num tk : Int) (tks : List Ty) (uk : Int) (uks : List Ty) (label place : Int) (ks : List Tm) :
    ACall Tryz.prog 59 [a.val, (Tm.node k name arg num tk tks uk uks label place ks).val] [] (fun o σ => o = rV (fineM a place) ∧ σ = []) := by
  have c1 := rnodes_call a
  have c2 := rdepth_call a
  have c3 := fun e => Rfail_call e k name arg num tk tks uk uks label place ks
  unfold fineM
  have h1 : (min (nodes a) 8193 : Nat) > 8192 ↔ nodes a > 8192 := by omega
  generalize min (nodes a) 8193 = n at *
  generalize tdepth a = d at *
  simp only [← h1]
  obtain ⟨ak, aks⟩ := a
  refine ACall.body tab_ok (ρ := 0) (N := 22) Tryz.func59 rfl rfl rfl rfl rfl ?_
  repeat' first | refine AW.seq ?_ | refine AW.block ?_ | ((first | refine AW.region tab_ok ?_ | refine AW.cond ?_ | refine AW.skip ?_ | refine AW.ret ?_ | refine AW.exit ?_); conv => whnf) | ((first | refine (c1).mono ?_ | refine (c2).mono ?_ | refine (c3 _).mono ?_); rintro _ _ ⟨rfl, rfl⟩; conv => whnf) | ((first | refine And.intro (@rfl Val _) ?_ | refine And.intro (by decide) ?_ | refine cs (fun _ => ?_) (fun _ => ?_)) <;> conv => whnf)
  · rename_i g
    have g := of_decide_eq_true g
    rw [if_pos (by omega)]; exact ⟨rfl, rfl⟩
  · rename_i g g2
    have g := of_decide_eq_false g
    have g2 := of_decide_eq_true g2
    rw [if_neg (by omega), if_pos (by omega)]; exact ⟨rfl, rfl⟩
  · rename_i g g2
    have g := of_decide_eq_false g
    have g2 := of_decide_eq_false g2
    rw [if_neg (by omega), if_neg (by omega)]; exact ⟨rfl, rfl⟩
set_option maxRecDepth 10000 in
theorem Ragrees_call (a b : Ty) : ACall Tryz.prog 61 [a.val, b.val, .c (.d (.int .i64 0))] [] (fun o σ => o = .ret (.c (.d (.bool (agreeS a b)))) ∧ σ = []) := by
  have c1 := rAgree_call a b
  generalize agreeS a b = w at *
  obtain ⟨k1, s1⟩ := a
  obtain ⟨k2, s2⟩ := b
  refine ACall.body tab_ok (ρ := 0) (N := 15) Tryz.func61 rfl rfl rfl rfl rfl ?_
  repeat' first | refine AW.seq ?_ | refine AW.block ?_ | ((first | refine AW.region tab_ok ?_ | refine AW.cond ?_ | refine AW.skip ?_ | refine AW.ret ?_ | refine AW.exit ?_); conv => whnf) | (refine (c1).mono ?_; rintro _ _ ⟨rfl, rfl⟩; conv => whnf) | ((first | refine And.intro (@rfl Val _) ?_ | refine And.intro (by decide) ?_ | refine cs (fun _ => ?_) (fun _ => ?_)) <;> conv => whnf)
  exact ⟨rfl, rfl⟩
set_option maxRecDepth 10000 in
theorem Rmeets_call (a b : Ty) : ACall Tryz.prog 88 [a.val, b.val, .c (.d (.int .i64 0))] [] (fun o σ => o = .ret (.tup [(MeetS a b).val, .c (.d (.bool (agreeS a b)))]) ∧ σ = []) := by
  have c1 := rMeet_call a b
  generalize agreeS a b = w at *
  generalize MeetS a b = m at *
  obtain ⟨k1, s1⟩ := a
  obtain ⟨k2, s2⟩ := b
  obtain ⟨k3, s3⟩ := m
  refine ACall.body tab_ok (ρ := 0) (N := 19) Tryz.func88 rfl rfl rfl rfl rfl ?_
  repeat' first | refine AW.seq ?_ | refine AW.block ?_ | (refine (id : AW _ _ _ (.region 3 _ true) _ _ → _) ?_; refine AW.draw (id := 3) tab_ok mixed [0, 1, 2, 3, 4, 5] (by kernel_rfl) ?_; conv => whnf) | ((first | refine AW.region tab_ok ?_ | refine AW.cond ?_ | refine AW.skip ?_ | refine AW.ret ?_ | refine AW.exit ?_); conv => whnf) | (refine (c1).mono ?_; rintro _ _ ⟨rfl, rfl⟩; conv => whnf) | ((first | refine And.intro (@rfl Val _) ?_ | refine And.intro (by decide) ?_ | refine cs (fun _ => ?_) (fun _ => ?_)) <;> conv => whnf)
  exact ⟨rfl, rfl⟩
set_option maxRecDepth 10000 in
theorem RAs_call (q : Int) (hq : q = 3 ∨ q = 4 ∨ q = 5) (a : Ty) : ACall Tryz.prog 91 [.c (.d (.int .i8 q)), a.val] [] (fun o σ => o = .ret (.tup [(asL q a).val, (asR q a).val, .c (.d (.bool (asB q a)))]) ∧ σ = []) := by
  obtain ⟨k, ks⟩ := a
  have c1 := rcheck_call (.node k ks)
  by_cases h : tcheck (.node k ks) = 0
  · rw [h] at c1
    by_cases h0 : k = 0
    · subst h0
      have e1 : asL q (.node 0 ks) = unk := by rcases hq with rfl | rfl | rfl <;> simp [asL]
      have e2 : asR q (.node 0 ks) = unk := by rcases hq with rfl | rfl | rfl <;> simp [asR]
      have e3 : asB q (.node 0 ks) = true := by simp [asB, h]
      rw [e1, e2, e3]
      rcases hq with rfl | rfl | rfl
      · skip
        refine ACall.body tab_ok (ρ := 0) (N := 43) Tryz.func91 rfl rfl rfl rfl rfl ?_
        repeat' first | refine AW.seq ?_ | refine AW.block ?_ | (refine (id : AW _ _ _ (.region 7 _ true) _ _ → _) ?_; refine AW.draw (id := 7) tab_ok mixed [0, 1, 2, 3, 4, 5, 6, 7, 8, 9, 10] (by kernel_rfl) ?_; conv => whnf) | ((first | refine AW.region tab_ok ?_ | refine AW.cond ?_ | refine AW.skip ?_ | refine AW.ret ?_ | refine AW.exit ?_); conv => whnf) | (refine (c1).mono ?_; rintro _ _ ⟨rfl, rfl⟩; conv => whnf) | ((first | refine And.intro (@rfl Val _) ?_ | refine And.intro (by decide) ?_ | refine cs (fun _ => ?_) (fun _ => ?_)) <;> conv => whnf)
        all_goals first | exact ⟨rfl, rfl⟩ | (exfalso; simp_all)
      · skip
        refine ACall.body tab_ok (ρ := 0) (N := 43) Tryz.func91 rfl rfl rfl rfl rfl ?_
        repeat' first | refine AW.seq ?_ | refine AW.block ?_ | (refine (id : AW _ _ _ (.region 7 _ true) _ _ → _) ?_; refine AW.draw (id := 7) tab_ok mixed [0, 1, 2, 3, 4, 5, 6, 7, 8, 9, 10] (by kernel_rfl) ?_; conv => whnf) | ((first | refine AW.region tab_ok ?_ | refine AW.cond ?_ | refine AW.skip ?_ | refine AW.ret ?_ | refine AW.exit ?_); conv => whnf) | (refine (c1).mono ?_; rintro _ _ ⟨rfl, rfl⟩; conv => whnf) | ((first | refine And.intro (@rfl Val _) ?_ | refine And.intro (by decide) ?_ | refine cs (fun _ => ?_) (fun _ => ?_)) <;> conv => whnf)
        all_goals first | exact ⟨rfl, rfl⟩ | (exfalso; simp_all)
      · skip
        refine ACall.body tab_ok (ρ := 0) (N := 43) Tryz.func91 rfl rfl rfl rfl rfl ?_
        repeat' first | refine AW.seq ?_ | refine AW.block ?_ | (refine (id : AW _ _ _ (.region 7 _ true) _ _ → _) ?_; refine AW.draw (id := 7) tab_ok mixed [0, 1, 2, 3, 4, 5, 6, 7, 8, 9, 10] (by kernel_rfl) ?_; conv => whnf) | ((first | refine AW.region tab_ok ?_ | refine AW.cond ?_ | refine AW.skip ?_ | refine AW.ret ?_ | refine AW.exit ?_); conv => whnf) | (refine (c1).mono ?_; rintro _ _ ⟨rfl, rfl⟩; conv => whnf) | ((first | refine And.intro (@rfl Val _) ?_ | refine And.intro (by decide) ?_ | refine cs (fun _ => ?_) (fun _ => ?_)) <;> conv => whnf)
        all_goals first | exact ⟨rfl, rfl⟩ | (exfalso; simp_all)
    · by_cases h1 : k = q
      · subst h1
        obtain ⟨x, y, rfl⟩ : ∃ x y, ks = [x, y] := by
          have := tright_len (tcheck_parts' h)
          match ks, this with
          | [x, y], _ => exact ⟨x, y, rfl⟩
          | [], e => rcases hq with rfl | rfl | rfl <;> simp [parts] at e
          | [_], e => rcases hq with rfl | rfl | rfl <;> simp [parts] at e
          | _ :: _ :: _ :: _, e => rcases hq with rfl | rfl | rfl <;> (simp [parts] at e; omega)
        have e1 : asL k (.node k [x, y]) = x := by simp [asL, h]
        have e2 : asR k (.node k [x, y]) = y := by simp [asR, h]
        have e3 : asB k (.node k [x, y]) = true := by simp [asB, h]
        rw [e1, e2, e3]
        clear e1 e2 e3 h h0
        obtain ⟨kx, xs⟩ := x
        obtain ⟨ky, ys⟩ := y
        rcases hq with rfl | rfl | rfl
        · skip
          refine ACall.body tab_ok (ρ := 0) (N := 43) Tryz.func91 rfl rfl rfl rfl rfl ?_
          repeat' first | ((refine And.intro (⟨by decide, by simp [Ty.rows]⟩ : _ ∧ _) ?_; conv => whnf)) | ((intro row hrow; obtain rfl := Option.some.inj hrow; conv => whnf)) | refine AW.seq ?_ | refine AW.block ?_ | (refine (id : AW _ _ _ (.region 7 _ true) _ _ → _) ?_; refine AW.draw (id := 7) tab_ok mixed [0, 1, 2, 3, 4, 5, 6, 7, 8, 9, 10] (by kernel_rfl) ?_; conv => whnf) | ((first | refine AW.region tab_ok ?_ | refine AW.cond ?_ | refine AW.skip ?_ | refine AW.ret ?_ | refine AW.exit ?_); conv => whnf) | (refine (c1).mono ?_; rintro _ _ ⟨rfl, rfl⟩; conv => whnf) | ((first | refine And.intro (@rfl Val _) ?_ | refine And.intro (by decide) ?_ | refine cs (fun _ => ?_) (fun _ => ?_)) <;> conv => whnf)
          all_goals first | exact ⟨rfl, rfl⟩ | (exfalso; simp_all)
        · skip
          refine ACall.body tab_ok (ρ := 0) (N := 43) Tryz.func91 rfl rfl rfl rfl rfl ?_
          repeat' first | ((refine And.intro (⟨by decide, by simp [Ty.rows]⟩ : _ ∧ _) ?_; conv => whnf)) | ((intro row hrow; obtain rfl := Option.some.inj hrow; conv => whnf)) | refine AW.seq ?_ | refine AW.block ?_ | (refine (id : AW _ _ _ (.region 7 _ true) _ _ → _) ?_; refine AW.draw (id := 7) tab_ok mixed [0, 1, 2, 3, 4, 5, 6, 7, 8, 9, 10] (by kernel_rfl) ?_; conv => whnf) | ((first | refine AW.region tab_ok ?_ | refine AW.cond ?_ | refine AW.skip ?_ | refine AW.ret ?_ | refine AW.exit ?_); conv => whnf) | (refine (c1).mono ?_; rintro _ _ ⟨rfl, rfl⟩; conv => whnf) | ((first | refine And.intro (@rfl Val _) ?_ | refine And.intro (by decide) ?_ | refine cs (fun _ => ?_) (fun _ => ?_)) <;> conv => whnf)
          all_goals first | exact ⟨rfl, rfl⟩ | (exfalso; simp_all)
        · skip
          refine ACall.body tab_ok (ρ := 0) (N := 43) Tryz.func91 rfl rfl rfl rfl rfl ?_
          repeat' first | ((refine And.intro (⟨by decide, by simp [Ty.rows]⟩ : _ ∧ _) ?_; conv => whnf)) | ((intro row hrow; obtain rfl := Option.some.inj hrow; conv => whnf)) | refine AW.seq ?_ | refine AW.block ?_ | (refine (id : AW _ _ _ (.region 7 _ true) _ _ → _) ?_; refine AW.draw (id := 7) tab_ok mixed [0, 1, 2, 3, 4, 5, 6, 7, 8, 9, 10] (by kernel_rfl) ?_; conv => whnf) | ((first | refine AW.region tab_ok ?_ | refine AW.cond ?_ | refine AW.skip ?_ | refine AW.ret ?_ | refine AW.exit ?_); conv => whnf) | (refine (c1).mono ?_; rintro _ _ ⟨rfl, rfl⟩; conv => whnf) | ((first | refine And.intro (@rfl Val _) ?_ | refine And.intro (by decide) ?_ | refine cs (fun _ => ?_) (fun _ => ?_)) <;> conv => whnf)
          all_goals first | exact ⟨rfl, rfl⟩ | (exfalso; simp_all)
      · have e1 : asL q (.node k ks) = unk := by simp [asL, h1]
        have e2 : asR q (.node k ks) = unk := by simp [asR, h1]
        have e3 : asB q (.node k ks) = false := by simp [asB, h0, h1]
        rw [e1, e2, e3]
        rcases hq with rfl | rfl | rfl
        · skip
          refine ACall.body tab_ok (ρ := 0) (N := 43) Tryz.func91 rfl rfl rfl rfl rfl ?_
          repeat' first | refine AW.seq ?_ | refine AW.block ?_ | (refine (id : AW _ _ _ (.region 7 _ true) _ _ → _) ?_; refine AW.draw (id := 7) tab_ok mixed [0, 1, 2, 3, 4, 5, 6, 7, 8, 9, 10] (by kernel_rfl) ?_; conv => whnf) | ((first | refine AW.region tab_ok ?_ | refine AW.cond ?_ | refine AW.skip ?_ | refine AW.ret ?_ | refine AW.exit ?_); conv => whnf) | (refine (c1).mono ?_; rintro _ _ ⟨rfl, rfl⟩; conv => whnf) | ((first | refine And.intro (@rfl Val _) ?_ | refine And.intro (by decide) ?_ | refine cs (fun _ => ?_) (fun _ => ?_)) <;> conv => whnf)
          all_goals first | exact ⟨rfl, rfl⟩ | (exfalso; simp_all)
        · skip
          refine ACall.body tab_ok (ρ := 0) (N := 43) Tryz.func91 rfl rfl rfl rfl rfl ?_
          repeat' first | refine AW.seq ?_ | refine AW.block ?_ | (refine (id : AW _ _ _ (.region 7 _ true) _ _ → _) ?_; refine AW.draw (id := 7) tab_ok mixed [0, 1, 2, 3, 4, 5, 6, 7, 8, 9, 10] (by kernel_rfl) ?_; conv => whnf) | ((first | refine AW.region tab_ok ?_ | refine AW.cond ?_ | refine AW.skip ?_ | refine AW.ret ?_ | refine AW.exit ?_); conv => whnf) | (refine (c1).mono ?_; rintro _ _ ⟨rfl, rfl⟩; conv => whnf) | ((first | refine And.intro (@rfl Val _) ?_ | refine And.intro (by decide) ?_ | refine cs (fun _ => ?_) (fun _ => ?_)) <;> conv => whnf)
          all_goals first | exact ⟨rfl, rfl⟩ | (exfalso; simp_all)
        · skip
          refine ACall.body tab_ok (ρ := 0) (N := 43) Tryz.func91 rfl rfl rfl rfl rfl ?_
          repeat' first | refine AW.seq ?_ | refine AW.block ?_ | (refine (id : AW _ _ _ (.region 7 _ true) _ _ → _) ?_; refine AW.draw (id := 7) tab_ok mixed [0, 1, 2, 3, 4, 5, 6, 7, 8, 9, 10] (by kernel_rfl) ?_; conv => whnf) | ((first | refine AW.region tab_ok ?_ | refine AW.cond ?_ | refine AW.skip ?_ | refine AW.ret ?_ | refine AW.exit ?_); conv => whnf) | (refine (c1).mono ?_; rintro _ _ ⟨rfl, rfl⟩; conv => whnf) | ((first | refine And.intro (@rfl Val _) ?_ | refine And.intro (by decide) ?_ | refine cs (fun _ => ?_) (fun _ => ?_)) <;> conv => whnf)
          all_goals first | exact ⟨rfl, rfl⟩ | (exfalso; simp_all)
  · have e1 : asL q (.node k ks) = unk := by simp [asL, h]
    have e2 : asR q (.node k ks) = unk := by simp [asR, h]
    have e3 : asB q (.node k ks) = false := by simp [asB, h]
    rw [e1, e2, e3]
    generalize tcheck (.node k ks) = E at *
    rcases hq with rfl | rfl | rfl
    · skip
      refine ACall.body tab_ok (ρ := 0) (N := 43) Tryz.func91 rfl rfl rfl rfl rfl ?_
      repeat' first | refine AW.seq ?_ | refine AW.block ?_ | (refine (id : AW _ _ _ (.region 7 _ true) _ _ → _) ?_; refine AW.draw (id := 7) tab_ok mixed [0, 1, 2, 3, 4, 5, 6, 7, 8, 9, 10] (by kernel_rfl) ?_; conv => whnf) | ((first | refine AW.region tab_ok ?_ | refine AW.cond ?_ | refine AW.skip ?_ | refine AW.ret ?_ | refine AW.exit ?_); conv => whnf) | (refine (c1).mono ?_; rintro _ _ ⟨rfl, rfl⟩; conv => whnf) | ((first | refine And.intro (@rfl Val _) ?_ | refine And.intro (by decide) ?_ | refine cs (fun _ => ?_) (fun _ => ?_)) <;> conv => whnf)
      all_goals first | exact ⟨rfl, rfl⟩ | (exfalso; simp_all)
    · skip
      refine ACall.body tab_ok (ρ := 0) (N := 43) Tryz.func91 rfl rfl rfl rfl rfl ?_
      repeat' first | refine AW.seq ?_ | refine AW.block ?_ | (refine (id : AW _ _ _ (.region 7 _ true) _ _ → _) ?_; refine AW.draw (id := 7) tab_ok mixed [0, 1, 2, 3, 4, 5, 6, 7, 8, 9, 10] (by kernel_rfl) ?_; conv => whnf) | ((first | refine AW.region tab_ok ?_ | refine AW.cond ?_ | refine AW.skip ?_ | refine AW.ret ?_ | refine AW.exit ?_); conv => whnf) | (refine (c1).mono ?_; rintro _ _ ⟨rfl, rfl⟩; conv => whnf) | ((first | refine And.intro (@rfl Val _) ?_ | refine And.intro (by decide) ?_ | refine cs (fun _ => ?_) (fun _ => ?_)) <;> conv => whnf)
      all_goals first | exact ⟨rfl, rfl⟩ | (exfalso; simp_all)
    · skip
      refine ACall.body tab_ok (ρ := 0) (N := 43) Tryz.func91 rfl rfl rfl rfl rfl ?_
      repeat' first | refine AW.seq ?_ | refine AW.block ?_ | (refine (id : AW _ _ _ (.region 7 _ true) _ _ → _) ?_; refine AW.draw (id := 7) tab_ok mixed [0, 1, 2, 3, 4, 5, 6, 7, 8, 9, 10] (by kernel_rfl) ?_; conv => whnf) | ((first | refine AW.region tab_ok ?_ | refine AW.cond ?_ | refine AW.skip ?_ | refine AW.ret ?_ | refine AW.exit ?_); conv => whnf) | (refine (c1).mono ?_; rintro _ _ ⟨rfl, rfl⟩; conv => whnf) | ((first | refine And.intro (@rfl Val _) ?_ | refine And.intro (by decide) ?_ | refine cs (fun _ => ?_) (fun _ => ?_)) <;> conv => whnf)
      all_goals first | exact ⟨rfl, rfl⟩ | (exfalso; simp_all)
set_option maxRecDepth 10000 in
theorem Rmatches_call (q : Int) (hq : q = 3 ∨ q = 4 ∨ q = 5) (a : Ty) : ACall Tryz.prog 87 [.c (.d (.int .i8 q)), a.val, .c (.d (.int .i64 0))] [] (fun o σ => o = .ret (.tup [(asL q a).val, (asR q a).val, .c (.d (.bool (asB q a)))]) ∧ σ = []) := by
  have c1 := RAs_call q hq a
  generalize asL q a = x at *
  generalize asR q a = y at *
  generalize asB q a = b at *
  obtain ⟨k1, s1⟩ := a
  obtain ⟨k2, s2⟩ := x
  obtain ⟨k3, s3⟩ := y
  refine ACall.body tab_ok (ρ := 0) (N := 31) Tryz.func87 rfl rfl rfl rfl rfl ?_
  repeat' first | refine AW.seq ?_ | refine AW.block ?_ | (refine (id : AW _ _ _ (.region 5 _ true) _ _ → _) ?_; refine AW.draw (id := 5) tab_ok mixed [0, 1, 2, 3, 4, 5, 6, 7, 8, 9, 10] (by kernel_rfl) ?_; conv => whnf) | ((first | refine AW.region tab_ok ?_ | refine AW.cond ?_ | refine AW.skip ?_ | refine AW.ret ?_ | refine AW.exit ?_); conv => whnf) | (refine (c1).mono ?_; rintro _ _ ⟨rfl, rfl⟩; conv => whnf) | ((first | refine And.intro (@rfl Val _) ?_ | refine And.intro (by decide) ?_ | refine cs (fun _ => ?_) (fun _ => ?_)) <;> conv => whnf)
  exact ⟨rfl, rfl⟩
end Go.Proofs.YtlboogackecjlaaGreat.E
