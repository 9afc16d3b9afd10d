/- Texts, merged: Pv1, Pv2, Pv3. No conditions. -/
import Derived.Test.YtlboogackecjlaaGreatGenX7
import Derived.Test.YtlboogackecjlaaGreatGenX6
/- proof: copies of types, names, what is around. No conditions. -/
set_option linter.unusedVariables false
set_option linter.unusedSimpArgs false
namespace Go.Proofs.YtlboogackecjlaaGreat.E
open Go

set_option maxRecDepth 10000 in
theorem pwhole_call (a : Ty) : TyOk a → ACall Tryz.prog 36 [a.val] [] (fun o σ => o = .ret a.val ∧ σ = []) := by
  induction a using Ty.ind with
  | _ k ks ih =>
  rintro (⟨hle, ha⟩)
  refine ACall.body tab_ok (ρ := 0) (N := 25) Tryz.func36 rfl rfl rfl rfl rfl ?_
  repeat' first | refine AW.seq ?_ | refine AW.block ?_ | (refine (id : AW _ _ _ (.region 5 _ true) _ _ → _) ?_; refine AW.draw (id := 5) tab_ok mixed [0, 1, 2, 3, 4, 5, 6, 7] (by kernel_rfl) ?_; conv => whnf) | ((first | refine AW.region tab_ok ?_ | refine AW.cond ?_ | refine AW.skip ?_ | refine AW.ret ?_ | refine AW.exit ?_); conv => whnf) | ((first | refine And.intro (@rfl Val _) ?_ | refine And.intro (by decide) ?_ | refine cs (fun _ => ?_) (fun _ => ?_)) <;> conv => whnf)
  refine AW.ghost 25 2 2 1 (by decide) rfl rfl ?_
  refine AW.loop (ι := UpTo ks) (fun x => ⟨25, [(12, .c (.d (.int .i64 x.i))), (11, .c (.d (.int .i64 (Ty.rows ks).length))), (10, .c (.d (.sl 0 2 (Ty.rows ks)))), (2, .c (.ptr 1 0)), (3, .c (.ptr 2 0))],
      [.var [.d (.int .i8 k), .d (.sl 0 2 (Ty.rows ks))], .var [.d (.int .i8 0), .d .nils], .var [.d (.int .i8 k), .own 3 (Ty.rows (ks.take x.i)).length], .row 25 2 (Ty.rows (ks.take x.i))], []⟩)
    (fun x => ks.length - x.i) ⟨0, Nat.zero_le _⟩ 4 (fun _ => rfl) (Nat.le_of_ble_eq_true rfl) ⟨⟨rfl, rfl, rfl, rfl, rfl, trivial⟩, rfl, rfl, ⟨[], rfl⟩, rfl⟩ (fun x => ?_)
  obtain ⟨i, hi⟩ := x
  repeat' first | refine AW.seq ?_ | refine AW.block ?_ | (refine (id : AW _ _ _ (.region 5 _ true) _ _ → _) ?_; refine AW.draw (id := 5) tab_ok mixed [0, 1, 2, 3, 4, 5, 6, 7] (by kernel_rfl) ?_; conv => whnf) | ((first | refine AW.region tab_ok ?_ | refine AW.cond ?_ | refine AW.skip ?_ | refine AW.ret ?_ | refine AW.exit ?_); conv => whnf) | ((first | refine And.intro (@rfl Val _) ?_ | refine And.intro (by decide) ?_ | refine cs (fun _ => ?_) (fun _ => ?_)) <;> conv => whnf)
  · rename_i h1
    simp only [rows_length] at h1
    have := of_decide_eq_true h1
    refine ⟨by simp only [rows_length]; omega, fun row hrow => ?_⟩
    obtain ⟨x, ht, rfl⟩ := rows_get ks i row (by simpa using hrow)
    have hlt : i < ks.length := (List.getElem?_eq_some_iff.1 ht).1
    have hm := List.mem_of_getElem? ht
    have hc := ih x hm (ha x hm)
    have hmt : ks.take (i + 1) = ks.take i ++ [x] := by
      rw [List.take_add_one, ht]; rfl
    obtain ⟨km, kms⟩ := x
    conv => whnf
    repeat' first | refine AW.seq ?_ | refine AW.block ?_ | (refine (id : AW _ _ _ (.region 5 _ true) _ _ → _) ?_; refine AW.draw (id := 5) tab_ok mixed [0, 1, 2, 3, 4, 5, 6, 7] (by kernel_rfl) ?_; conv => whnf) | ((first | refine AW.region tab_ok ?_ | refine AW.cond ?_ | refine AW.skip ?_ | refine AW.ret ?_ | refine AW.exit ?_); conv => whnf) | (refine (hc).mono ?_; rintro _ _ ⟨rfl, rfl⟩; conv => whnf) | ((first | refine And.intro (@rfl Val _) ?_ | refine And.intro (by decide) ?_ | refine cs (fun _ => ?_) (fun _ => ?_)) <;> conv => whnf)
    refine ⟨⟨rfl, ?_, ?_⟩, ?_⟩
    · simp only [rows_length, List.length_take, List.length_cons, List.length_nil]
      omega
    · simp only [rows_length, List.length_take, List.length_cons, List.length_nil]
      omega
    conv => whnf
    repeat' first | refine AW.seq ?_ | refine AW.block ?_ | (refine (id : AW _ _ _ (.region 5 _ true) _ _ → _) ?_; refine AW.draw (id := 5) tab_ok mixed [0, 1, 2, 3, 4, 5, 6, 7] (by kernel_rfl) ?_; conv => whnf) | ((first | refine AW.region tab_ok ?_ | refine AW.cond ?_ | refine AW.skip ?_ | refine AW.ret ?_ | refine AW.exit ?_); conv => whnf) | ((first | refine And.intro (@rfl Val _) ?_ | refine And.intro (by decide) ?_ | refine cs (fun _ => ?_) (fun _ => ?_)) <;> conv => whnf)
    have e : Ty.rows (ks.take i) ++ [[.int .i8 km, .sl 0 2 (Ty.rows kms)]] = Ty.rows (ks.take (i + 1)) := by
      rw [hmt, rows_map' (ks.take i), rows_map' (ks.take i ++ _), List.map_append]; rfl
    have el : (Ty.rows (ks.take i)).length + [[DV.int .i8 km, .sl 0 2 (Ty.rows kms)]].length = (Ty.rows (ks.take (i + 1))).length := by
      rw [← List.length_append, e]
    rw [el, e, wrap64 (x := (i : Int) + 1) (by omega) (by omega)]
    exact ⟨⟨i + 1, hlt⟩, ⟨⟨rfl, rfl, rfl, rfl, rfl, trivial⟩, rfl, rfl, ⟨[_], rfl⟩, rfl⟩, show ks.length - (i + 1) < ks.length - i by omega⟩
  · rename_i h1
    simp only [rows_length] at h1
    have := of_decide_eq_false h1
    obtain rfl : i = ks.length := by omega
    have e : ks.take ks.length = ks := List.take_of_length_le (by omega)
    simp only [e]
    first | refine ⟨trivial, ?_⟩ | refine ⟨rfl, ?_⟩ | skip
    conv => whnf
    first | exact ⟨rfl, rfl⟩ | exact ⟨rfl, trivial⟩ | (simp; rfl)

/-- What is bound: a name, its type. -/
structure Bd where
  name : ByteArray
  a : Ty
def Bd.cells (b : Bd) : List DV := .str b.name :: b.a.cells
def bds (l : List Bd) : List (List DV) := l.map Bd.cells
theorem bds_len (l : List Bd) : (bds l).length = l.length := by simp [bds]
theorem bds_get {l : List Bd} {i : Nat} {row : List DV} (h : (bds l)[i]? = some row) : ∃ b, l[i]? = some b ∧ row = b.cells := by
  rw [bds, List.getElem?_map] at h
  cases hb : l[i]? with
  | none => rw [hb] at h; cases h
  | some b => rw [hb] at h; exact ⟨b, rfl, (Option.some.inj h).symm⟩
/-- The type of a name: the last one's. -/
def findB (l : List Bd) (s : ByteArray) : Option Ty := (l.reverse.find? fun b => decide (b.name = s)).map (·.a)
theorem findB_nil (s : ByteArray) : findB [] s = none := rfl
theorem findB_snoc (l : List Bd) (b : Bd) (s : ByteArray) : findB (l ++ [b]) s = if b.name = s then some b.a else findB l s := by
  unfold findB
  rw [List.reverse_append]
  simp only [List.reverse_cons, List.reverse_nil, List.nil_append, List.singleton_append, List.find?_cons]
  by_cases h : b.name = s <;> simp [h]
structure FindI (l : List Bd) (s : ByteArray) where
  i : Nat
  hi : i ≤ l.length
  h : findB l s = findB (l.take i) s
set_option maxRecDepth 10000 in
theorem pfind_call (l : List Bd) (s : ByteArray) (hl : l.length ≤ 100000) : ACall Tryz.prog 35 [.c (.d (.sl 0 3 (bds l))), .c (.d (.str s))] [] (fun o σ => o = .ret (.tup [((findB l s).getD (.node 0 [])).val, .c (.d (.bool (findB l s).isSome))]) ∧ σ = []) := by
  refine ACall.body tab_ok (ρ := 0) (N := 27) Tryz.func35 rfl rfl rfl rfl rfl ?_
  repeat' first | refine AW.seq ?_ | refine AW.block ?_ | ((first | refine AW.region tab_ok ?_ | refine AW.cond ?_ | refine AW.skip ?_ | refine AW.ret ?_ | refine AW.exit ?_); conv => whnf) | ((first | refine And.intro (@rfl Val _) ?_ | refine And.intro (by decide) ?_ | refine cs (fun _ => ?_) (fun _ => ?_)) <;> conv => whnf)
  refine AW.loop (ι := FindI l s) (fun x => ⟨27, [(6, .c (.d (.int .i64 ((x.i : Int) - 1)))), (0, .c (.d (.sl 0 3 (bds l)))), (1, .c (.d (.str s))), (4, .c (.ptr 0 0))], [.var [.d (.int .i8 0), .d .nils]], []⟩)
    (fun x => x.i) ⟨l.length, Nat.le_refl _, by rw [List.take_length]⟩ 1 (fun _ => rfl) (Nat.le_of_ble_eq_true rfl) ⟨⟨by rw [bds_len, wrap64 (by omega) (by omega)]; rfl, rfl, rfl, rfl, trivial⟩, rfl, rfl, ⟨[], rfl⟩, rfl⟩ (fun x => ?_)
  obtain ⟨i, hi, h⟩ := x
  repeat' first | refine AW.seq ?_ | refine AW.block ?_ | ((first | refine AW.region tab_ok ?_ | refine AW.cond ?_ | refine AW.skip ?_ | refine AW.ret ?_ | refine AW.exit ?_); conv => whnf) | ((first | refine And.intro (@rfl Val _) ?_ | refine And.intro (by decide) ?_ | refine cs (fun _ => ?_) (fun _ => ?_)) <;> conv => whnf)
  · rename_i g1
    have g1 := of_decide_eq_true g1
    simp only at g1
    obtain ⟨j, rfl⟩ : ∃ j, i = j + 1 := ⟨i - 1, by omega⟩
    have hlt : j < l.length := by omega
    have hj : ((j + 1 : Nat) : Int) - 1 = (j : Int) := by omega
    refine ⟨by simp only [bds_len]; omega, fun row hrow => ?_⟩
    simp only [hj, Int.toNat_natCast] at hrow
    obtain ⟨b, hb, rfl⟩ := bds_get hrow
    have htk : l.take (j + 1) = l.take j ++ [b] := by rw [List.take_add_one, hb]; rfl
    rw [htk, findB_snoc] at h
    obtain ⟨bn, bk, bks⟩ := b
    conv => whnf
    have e1 : ∀ row, (bds l)[(((j + 1 : Nat) : Int) - 1).toNat]? = some row → (Bd.mk bn (.node bk bks)).cells = row := fun row h => by
      rw [hj, Int.toNat_natCast, bds, List.getElem?_map, hb] at h
      exact Option.some.inj h
    have f1 : 0 ≤ ((j + 1 : Nat) : Int) - 1 ∧ ((j + 1 : Nat) : Int) - 1 < ((bds l).length : Nat) := by rw [bds_len]; omega
    repeat' first | ((refine And.intro f1 fun row hrow => ?_; obtain rfl := e1 row hrow; conv => whnf)) | refine AW.seq ?_ | refine AW.block ?_ | ((first | refine AW.region tab_ok ?_ | refine AW.cond ?_ | refine AW.skip ?_ | refine AW.ret ?_ | refine AW.exit ?_); conv => whnf) | ((first | refine And.intro (@rfl Val _) ?_ | refine And.intro (by decide) ?_ | refine cs (fun _ => ?_) (fun _ => ?_)) <;> conv => whnf)
    · rename_i g2
      have g2 := of_decide_eq_true g2
      simp only at g2
      rw [if_pos g2] at h
      rw [h]
      exact ⟨rfl, rfl⟩
    · rename_i g2
      have g2 := of_decide_eq_false g2
      simp only at g2
      rw [if_neg g2] at h
      simp only [hj]
      rw [wrap64 (by omega) (by omega)]
      exact ⟨⟨j, by omega, h⟩, ⟨⟨rfl, rfl, rfl, rfl, trivial⟩, rfl, rfl, ⟨[], rfl⟩, rfl⟩, show j < j + 1 by omega⟩
  · rename_i g1
    have g1 := of_decide_eq_false g1
    simp only at g1
    obtain rfl : i = 0 := by omega
    rw [List.take_zero, findB_nil] at h
    rw [h]
    exact ⟨rfl, rfl⟩
end Go.Proofs.YtlboogackecjlaaGreat.E

/- proof: types' parts, the rules. No conditions. -/
set_option linter.unusedVariables false
set_option linter.unusedSimpArgs false
namespace Go.Proofs.YtlboogackecjlaaGreat.E
open Go

theorem tcheck_parts' {t : Ty} (h : tcheck t = 0) : tright t = true := by
  unfold tcheck at h
  split at h
  · cases h
  · split at h
    · cases h
    · split at h
      · assumption
      · cases h
def unk : Ty := .node 0 []
def asL (q : Int) : Ty → Ty
  | .node k ks => if tcheck (.node k ks) = 0 ∧ k = q then ks.getD 0 unk else unk
def asR (q : Int) : Ty → Ty
  | .node k ks => if tcheck (.node k ks) = 0 ∧ k = q then ks.getD 1 unk else unk
def asB (q : Int) : Ty → Bool
  | .node k ks => decide (tcheck (.node k ks) = 0) && (decide (k = 0) || decide (k = q))
set_option maxRecDepth 10000 in
theorem As_call (q : Int) (hq : q = 3 ∨ q = 4 ∨ q = 5) (a : Ty) : ACall Tryz.prog 46 [.c (.d (.int .i8 q)), a.val] [] (fun o σ => o = .ret (.tup [(asL q a).val, (asR q a).val, .c (.d (.bool (asB q a)))]) ∧ σ = []) := by
  obtain ⟨k, ks⟩ := a
  have c1 := check_call (.node k ks)
  by_cases h : tcheck (.node k ks) = 0
  · rw [h] at c1
    by_cases h0 : k = 0
    · subst h0
      have e1 : asL q (.node 0 ks) = unk := by rcases hq with rfl | rfl | rfl <;> simp [asL]
      have e2 : asR q (.node 0 ks) = unk := by rcases hq with rfl | rfl | rfl <;> simp [asR]
      have e3 : asB q (.node 0 ks) = true := by simp [asB, h]
      rw [e1, e2, e3]
      rcases hq with rfl | rfl | rfl
      · skip
        refine ACall.body tab_ok (ρ := 0) (N := 40) Tryz.func46 rfl rfl rfl rfl rfl ?_
        repeat' first | refine AW.seq ?_ | refine AW.block ?_ | (refine (id : AW _ _ _ (.region 3 _ true) _ _ → _) ?_; refine AW.draw (id := 3) tab_ok mixed [0, 1, 2, 3, 4] (by kernel_rfl) ?_; conv => whnf) | (refine (id : AW _ _ _ (.region 5 _ true) _ _ → _) ?_; refine AW.draw (id := 5) tab_ok mixed [0, 1, 2, 3, 4] (by kernel_rfl) ?_; conv => whnf) | (refine (id : AW _ _ _ (.region 7 _ true) _ _ → _) ?_; refine AW.draw (id := 7) tab_ok mixed [0, 1, 2, 3, 4] (by kernel_rfl) ?_; conv => whnf) | (refine (id : AW _ _ _ (.region 8 _ true) _ _ → _) ?_; refine AW.draw (id := 8) tab_ok mixed [0, 1, 2, 3, 4, 5, 6, 7, 8, 9, 10] (by kernel_rfl) ?_; conv => whnf) | ((first | refine AW.region tab_ok ?_ | refine AW.cond ?_ | refine AW.skip ?_ | refine AW.ret ?_ | refine AW.exit ?_); conv => whnf) | (refine (c1).mono ?_; rintro _ _ ⟨rfl, rfl⟩; conv => whnf) | ((first | refine And.intro (@rfl Val _) ?_ | refine And.intro (by decide) ?_ | refine cs (fun _ => ?_) (fun _ => ?_)) <;> conv => whnf)
        all_goals first | exact ⟨rfl, rfl⟩ | (exfalso; simp_all)
      · skip
        refine ACall.body tab_ok (ρ := 0) (N := 40) Tryz.func46 rfl rfl rfl rfl rfl ?_
        repeat' first | refine AW.seq ?_ | refine AW.block ?_ | (refine (id : AW _ _ _ (.region 3 _ true) _ _ → _) ?_; refine AW.draw (id := 3) tab_ok mixed [0, 1, 2, 3, 4] (by kernel_rfl) ?_; conv => whnf) | (refine (id : AW _ _ _ (.region 5 _ true) _ _ → _) ?_; refine AW.draw (id := 5) tab_ok mixed [0, 1, 2, 3, 4] (by kernel_rfl) ?_; conv => whnf) | (refine (id : AW _ _ _ (.region 7 _ true) _ _ → _) ?_; refine AW.draw (id := 7) tab_ok mixed [0, 1, 2, 3, 4] (by kernel_rfl) ?_; conv => whnf) | (refine (id : AW _ _ _ (.region 8 _ true) _ _ → _) ?_; refine AW.draw (id := 8) tab_ok mixed [0, 1, 2, 3, 4, 5, 6, 7, 8, 9, 10] (by kernel_rfl) ?_; conv => whnf) | ((first | refine AW.region tab_ok ?_ | refine AW.cond ?_ | refine AW.skip ?_ | refine AW.ret ?_ | refine AW.exit ?_); conv => whnf) | (refine (c1).mono ?_; rintro _ _ ⟨rfl, rfl⟩; conv => whnf) | ((first | refine And.intro (@rfl Val _) ?_ | refine And.intro (by decide) ?_ | refine cs (fun _ => ?_) (fun _ => ?_)) <;> conv => whnf)
        all_goals first | exact ⟨rfl, rfl⟩ | (exfalso; simp_all)
      · skip
        refine ACall.body tab_ok (ρ := 0) (N := 40) Tryz.func46 rfl rfl rfl rfl rfl ?_
        repeat' first | refine AW.seq ?_ | refine AW.block ?_ | (refine (id : AW _ _ _ (.region 3 _ true) _ _ → _) ?_; refine AW.draw (id := 3) tab_ok mixed [0, 1, 2, 3, 4] (by kernel_rfl) ?_; conv => whnf) | (refine (id : AW _ _ _ (.region 5 _ true) _ _ → _) ?_; refine AW.draw (id := 5) tab_ok mixed [0, 1, 2, 3, 4] (by kernel_rfl) ?_; conv => whnf) | (refine (id : AW _ _ _ (.region 7 _ true) _ _ → _) ?_; refine AW.draw (id := 7) tab_ok mixed [0, 1, 2, 3, 4] (by kernel_rfl) ?_; conv => whnf) | (refine (id : AW _ _ _ (.region 8 _ true) _ _ → _) ?_; refine AW.draw (id := 8) tab_ok mixed [0, 1, 2, 3, 4, 5, 6, 7, 8, 9, 10] (by kernel_rfl) ?_; conv => whnf) | ((first | refine AW.region tab_ok ?_ | refine AW.cond ?_ | refine AW.skip ?_ | refine AW.ret ?_ | refine AW.exit ?_); conv => whnf) | (refine (c1).mono ?_; rintro _ _ ⟨rfl, rfl⟩; conv => whnf) | ((first | refine And.intro (@rfl Val _) ?_ | refine And.intro (by decide) ?_ | refine cs (fun _ => ?_) (fun _ => ?_)) <;> conv => whnf)
        all_goals first | exact ⟨rfl, rfl⟩ | (exfalso; simp_all)
    · by_cases h1 : k = q
      · subst h1
        obtain ⟨x, y, rfl⟩ : ∃ x y, ks = [x, y] := by
          have := tright_len (tcheck_parts' h)
          match ks, this with
          | [x, y], _ => exact ⟨x, y, rfl⟩
          | [], e => rcases hq with rfl | rfl | rfl <;> simp [parts] at e
          | [_], e => rcases hq with rfl | rfl | rfl <;> simp [parts] at e
          | _ :: _ :: _ :: _, e => rcases hq with rfl | rfl | rfl <;> (simp [parts] at e; omega)
        have e1 : asL k (.node k [x, y]) = x := by simp [asL, h]
        have e2 : asR k (.node k [x, y]) = y := by simp [asR, h]
        have e3 : asB k (.node k [x, y]) = true := by simp [asB, h]
        rw [e1, e2, e3]
        clear e1 e2 e3 h h0
        obtain ⟨kx, xs⟩ := x
        obtain ⟨ky, ys⟩ := y
        rcases hq with rfl | rfl | rfl
        · skip
          refine ACall.body tab_ok (ρ := 0) (N := 40) Tryz.func46 rfl rfl rfl rfl rfl ?_
          repeat' first | ((refine And.intro (⟨by decide, by simp [Ty.rows]⟩ : _ ∧ _) ?_; conv => whnf)) | ((intro row hrow; obtain rfl := Option.some.inj hrow; conv => whnf)) | refine AW.seq ?_ | refine AW.block ?_ | (refine (id : AW _ _ _ (.region 3 _ true) _ _ → _) ?_; refine AW.draw (id := 3) tab_ok mixed [0, 1, 2, 3, 4] (by kernel_rfl) ?_; conv => whnf) | (refine (id : AW _ _ _ (.region 5 _ true) _ _ → _) ?_; refine AW.draw (id := 5) tab_ok mixed [0, 1, 2, 3, 4] (by kernel_rfl) ?_; conv => whnf) | (refine (id : AW _ _ _ (.region 7 _ true) _ _ → _) ?_; refine AW.draw (id := 7) tab_ok mixed [0, 1, 2, 3, 4] (by kernel_rfl) ?_; conv => whnf) | (refine (id : AW _ _ _ (.region 8 _ true) _ _ → _) ?_; refine AW.draw (id := 8) tab_ok mixed [0, 1, 2, 3, 4, 5, 6, 7, 8, 9, 10] (by kernel_rfl) ?_; conv => whnf) | ((first | refine AW.region tab_ok ?_ | refine AW.cond ?_ | refine AW.skip ?_ | refine AW.ret ?_ | refine AW.exit ?_); conv => whnf) | (refine (c1).mono ?_; rintro _ _ ⟨rfl, rfl⟩; conv => whnf) | ((first | refine And.intro (@rfl Val _) ?_ | refine And.intro (by decide) ?_ | refine cs (fun _ => ?_) (fun _ => ?_)) <;> conv => whnf)
          all_goals first | exact ⟨rfl, rfl⟩ | (exfalso; simp_all)
        · skip
          refine ACall.body tab_ok (ρ := 0) (N := 40) Tryz.func46 rfl rfl rfl rfl rfl ?_
          repeat' first | ((refine And.intro (⟨by decide, by simp [Ty.rows]⟩ : _ ∧ _) ?_; conv => whnf)) | ((intro row hrow; obtain rfl := Option.some.inj hrow; conv => whnf)) | refine AW.seq ?_ | refine AW.block ?_ | (refine (id : AW _ _ _ (.region 3 _ true) _ _ → _) ?_; refine AW.draw (id := 3) tab_ok mixed [0, 1, 2, 3, 4] (by kernel_rfl) ?_; conv => whnf) | (refine (id : AW _ _ _ (.region 5 _ true) _ _ → _) ?_; refine AW.draw (id := 5) tab_ok mixed [0, 1, 2, 3, 4] (by kernel_rfl) ?_; conv => whnf) | (refine (id : AW _ _ _ (.region 7 _ true) _ _ → _) ?_; refine AW.draw (id := 7) tab_ok mixed [0, 1, 2, 3, 4] (by kernel_rfl) ?_; conv => whnf) | (refine (id : AW _ _ _ (.region 8 _ true) _ _ → _) ?_; refine AW.draw (id := 8) tab_ok mixed [0, 1, 2, 3, 4, 5, 6, 7, 8, 9, 10] (by kernel_rfl) ?_; conv => whnf) | ((first | refine AW.region tab_ok ?_ | refine AW.cond ?_ | refine AW.skip ?_ | refine AW.ret ?_ | refine AW.exit ?_); conv => whnf) | (refine (c1).mono ?_; rintro _ _ ⟨rfl, rfl⟩; conv => whnf) | ((first | refine And.intro (@rfl Val _) ?_ | refine And.intro (by decide) ?_ | refine cs (fun _ => ?_) (fun _ => ?_)) <;> conv => whnf)
          all_goals first | exact ⟨rfl, rfl⟩ | (exfalso; simp_all)
        · skip
          refine ACall.body tab_ok (ρ := 0) (N := 40) Tryz.func46 rfl rfl rfl rfl rfl ?_
          repeat' first | ((refine And.intro (⟨by decide, by simp [Ty.rows]⟩ : _ ∧ _) ?_; conv => whnf)) | ((intro row hrow; obtain rfl := Option.some.inj hrow; conv => whnf)) | refine AW.seq ?_ | refine AW.block ?_ | (refine (id : AW _ _ _ (.region 3 _ true) _ _ → _) ?_; refine AW.draw (id := 3) tab_ok mixed [0, 1, 2, 3, 4] (by kernel_rfl) ?_; conv => whnf) | (refine (id : AW _ _ _ (.region 5 _ true) _ _ → _) ?_; refine AW.draw (id := 5) tab_ok mixed [0, 1, 2, 3, 4] (by kernel_rfl) ?_; conv => whnf) | (refine (id : AW _ _ _ (.region 7 _ true) _ _ → _) ?_; refine AW.draw (id := 7) tab_ok mixed [0, 1, 2, 3, 4] (by kernel_rfl) ?_; conv => whnf) | (refine (id : AW _ _ _ (.region 8 _ true) _ _ → _) ?_; refine AW.draw (id := 8) tab_ok mixed [0, 1, 2, 3, 4, 5, 6, 7, 8, 9, 10] (by kernel_rfl) ?_; conv => whnf) | ((first | refine AW.region tab_ok ?_ | refine AW.cond ?_ | refine AW.skip ?_ | refine AW.ret ?_ | refine AW.exit ?_); conv => whnf) | (refine (c1).mono ?_; rintro _ _ ⟨rfl, rfl⟩; conv => whnf) | ((first | refine And.intro (@rfl Val _) ?_ | refine And.intro (by decide) ?_ | refine cs (fun _ => ?_) (fun _ => ?_)) <;> conv => whnf)
          all_goals first | exact ⟨rfl, rfl⟩ | (exfalso; simp_all)
      · have e1 : asL q (.node k ks) = unk := by simp [asL, h1]
        have e2 : asR q (.node k ks) = unk := by simp [asR, h1]
        have e3 : asB q (.node k ks) = false := by simp [asB, h0, h1]
        rw [e1, e2, e3]
        rcases hq with rfl | rfl | rfl
        · skip
          refine ACall.body tab_ok (ρ := 0) (N := 40) Tryz.func46 rfl rfl rfl rfl rfl ?_
          repeat' first | refine AW.seq ?_ | refine AW.block ?_ | (refine (id : AW _ _ _ (.region 3 _ true) _ _ → _) ?_; refine AW.draw (id := 3) tab_ok mixed [0, 1, 2, 3, 4] (by kernel_rfl) ?_; conv => whnf) | (refine (id : AW _ _ _ (.region 5 _ true) _ _ → _) ?_; refine AW.draw (id := 5) tab_ok mixed [0, 1, 2, 3, 4] (by kernel_rfl) ?_; conv => whnf) | (refine (id : AW _ _ _ (.region 7 _ true) _ _ → _) ?_; refine AW.draw (id := 7) tab_ok mixed [0, 1, 2, 3, 4] (by kernel_rfl) ?_; conv => whnf) | (refine (id : AW _ _ _ (.region 8 _ true) _ _ → _) ?_; refine AW.draw (id := 8) tab_ok mixed [0, 1, 2, 3, 4, 5, 6, 7, 8, 9, 10] (by kernel_rfl) ?_; conv => whnf) | ((first | refine AW.region tab_ok ?_ | refine AW.cond ?_ | refine AW.skip ?_ | refine AW.ret ?_ | refine AW.exit ?_); conv => whnf) | (refine (c1).mono ?_; rintro _ _ ⟨rfl, rfl⟩; conv => whnf) | ((first | refine And.intro (@rfl Val _) ?_ | refine And.intro (by decide) ?_ | refine cs (fun _ => ?_) (fun _ => ?_)) <;> conv => whnf)
          all_goals first | exact ⟨rfl, rfl⟩ | (exfalso; simp_all)
        · skip
          refine ACall.body tab_ok (ρ := 0) (N := 40) Tryz.func46 rfl rfl rfl rfl rfl ?_
          repeat' first | refine AW.seq ?_ | refine AW.block ?_ | (refine (id : AW _ _ _ (.region 3 _ true) _ _ → _) ?_; refine AW.draw (id := 3) tab_ok mixed [0, 1, 2, 3, 4] (by kernel_rfl) ?_; conv => whnf) | (refine (id : AW _ _ _ (.region 5 _ true) _ _ → _) ?_; refine AW.draw (id := 5) tab_ok mixed [0, 1, 2, 3, 4] (by kernel_rfl) ?_; conv => whnf) | (refine (id : AW _ _ _ (.region 7 _ true) _ _ → _) ?_; refine AW.draw (id := 7) tab_ok mixed [0, 1, 2, 3, 4] (by kernel_rfl) ?_; conv => whnf) | (refine (id : AW _ _ _ (.region 8 _ true) _ _ → _) ?_; refine AW.draw (id := 8) tab_ok mixed [0, 1, 2, 3, 4, 5, 6, 7, 8, 9, 10] (by kernel_rfl) ?_; conv => whnf) | ((first | refine AW.region tab_ok ?_ | refine AW.cond ?_ | refine AW.skip ?_ | refine AW.ret ?_ | refine AW.exit ?_); conv => whnf) | (refine (c1).mono ?_; rintro _ _ ⟨rfl, rfl⟩; conv => whnf) | ((first | refine And.intro (@rfl Val _) ?_ | refine And.intro (by decide) ?_ | refine cs (fun _ => ?_) (fun _ => ?_)) <;> conv => whnf)
          all_goals first | exact ⟨rfl, rfl⟩ | (exfalso; simp_all)
        · skip
          refine ACall.body tab_ok (ρ := 0) (N := 40) Tryz.func46 rfl rfl rfl rfl rfl ?_
          repeat' first | refine AW.seq ?_ | refine AW.block ?_ | (refine (id : AW _ _ _ (.region 3 _ true) _ _ → _) ?_; refine AW.draw (id := 3) tab_ok mixed [0, 1, 2, 3, 4] (by kernel_rfl) ?_; conv => whnf) | (refine (id : AW _ _ _ (.region 5 _ true) _ _ → _) ?_; refine AW.draw (id := 5) tab_ok mixed [0, 1, 2, 3, 4] (by kernel_rfl) ?_; conv => whnf) | (refine (id : AW _ _ _ (.region 7 _ true) _ _ → _) ?_; refine AW.draw (id := 7) tab_ok mixed [0, 1, 2, 3, 4] (by kernel_rfl) ?_; conv => whnf) | (refine (id : AW _ _ _ (.region 8 _ true) _ _ → _) ?_; refine AW.draw (id := 8) tab_ok mixed [0, 1, 2, 3, 4, 5, 6, 7, 8, 9, 10] (by kernel_rfl) ?_; conv => whnf) | ((first | refine AW.region tab_ok ?_ | refine AW.cond ?_ | refine AW.skip ?_ | refine AW.ret ?_ | refine AW.exit ?_); conv => whnf) | (refine (c1).mono ?_; rintro _ _ ⟨rfl, rfl⟩; conv => whnf) | ((first | refine And.intro (@rfl Val _) ?_ | refine And.intro (by decide) ?_ | refine cs (fun _ => ?_) (fun _ => ?_)) <;> conv => whnf)
          all_goals first | exact ⟨rfl, rfl⟩ | (exfalso; simp_all)
  · have e1 : asL q (.node k ks) = unk := by simp [asL, h]
    have e2 : asR q (.node k ks) = unk := by simp [asR, h]
    have e3 : asB q (.node k ks) = false := by simp [asB, h]
    rw [e1, e2, e3]
    generalize tcheck (.node k ks) = E at *
    rcases hq with rfl | rfl | rfl
    · skip
      refine ACall.body tab_ok (ρ := 0) (N := 40) Tryz.func46 rfl rfl rfl rfl rfl ?_
      repeat' first | refine AW.seq ?_ | refine AW.block ?_ | (refine (id : AW _ _ _ (.region 3 _ true) _ _ → _) ?_; refine AW.draw (id := 3) tab_ok mixed [0, 1, 2, 3, 4] (by kernel_rfl) ?_; conv => whnf) | (refine (id : AW _ _ _ (.region 5 _ true) _ _ → _) ?_; refine AW.draw (id := 5) tab_ok mixed [0, 1, 2, 3, 4] (by kernel_rfl) ?_; conv => whnf) | (refine (id : AW _ _ _ (.region 7 _ true) _ _ → _) ?_; refine AW.draw (id := 7) tab_ok mixed [0, 1, 2, 3, 4] (by kernel_rfl) ?_; conv => whnf) | (refine (id : AW _ _ _ (.region 8 _ true) _ _ → _) ?_; refine AW.draw (id := 8) tab_ok mixed [0, 1, 2, 3, 4, 5, 6, 7, 8, 9, 10] (by kernel_rfl) ?_; conv => whnf) | ((first | refine AW.region tab_ok ?_ | refine AW.cond ?_ | refine AW.skip ?_ | refine AW.ret ?_ | refine AW.exit ?_); conv => whnf) | (refine (c1).mono ?_; rintro _ _ ⟨rfl, rfl⟩; conv => whnf) | ((first | refine And.intro (@rfl Val _) ?_ | refine And.intro (by decide) ?_ | refine cs (fun _ => ?_) (fun _ => ?_)) <;> conv => whnf)
      all_goals first | exact ⟨rfl, rfl⟩ | (exfalso; simp_all)
    · skip
      refine ACall.body tab_ok (ρ := 0) (N := 40) Tryz.func46 rfl rfl rfl rfl rfl ?_
      repeat' first | refine AW.seq ?_ | refine AW.block ?_ | (refine (id : AW _ _ _ (.region 3 _ true) _ _ → _) ?_; refine AW.draw (id := 3) tab_ok mixed [0, 1, 2, 3, 4] (by kernel_rfl) ?_; conv => whnf) | (refine (id : AW _ _ _ (.region 5 _ true) _ _ → _) ?_; refine AW.draw (id := 5) tab_ok mixed [0, 1, 2, 3, 4] (by kernel_rfl) ?_; conv => whnf) | (refine (id : AW _ _ _ (.region 7 _ true) _ _ → _) ?_; refine AW.draw (id := 7) tab_ok mixed [0, 1, 2, 3, 4] (by kernel_rfl) ?_; conv => whnf) | (refine (id : AW _ _ _ (.region 8 _ true) _ _ → _) ?_; refine AW.draw (id := 8) tab_ok mixed [0, 1, 2, 3, 4, 5, 6, 7, 8, 9, 10] (by kernel_rfl) ?_; conv => whnf) | ((first | refine AW.region tab_ok ?_ | refine AW.cond ?_ | refine AW.skip ?_ | refine AW.ret ?_ | refine AW.exit ?_); conv => whnf) | (refine (c1).mono ?_; rintro _ _ ⟨rfl, rfl⟩; conv => whnf) | ((first | refine And.intro (@rfl Val _) ?_ | refine And.intro (by decide) ?_ | refine cs (fun _ => ?_) (fun _ => ?_)) <;> conv => whnf)
      all_goals first | exact ⟨rfl, rfl⟩ | (exfalso; simp_all)
    · skip
      refine ACall.body tab_ok (ρ := 0) (N := 40) Tryz.func46 rfl rfl rfl rfl rfl ?_
      repeat' first | refine AW.seq ?_ | refine AW.block ?_ | (refine (id : AW _ _ _ (.region 3 _ true) _ _ → _) ?_; refine AW.draw (id := 3) tab_ok mixed [0, 1, 2, 3, 4] (by kernel_rfl) ?_; conv => whnf) | (refine (id : AW _ _ _ (.region 5 _ true) _ _ → _) ?_; refine AW.draw (id := 5) tab_ok mixed [0, 1, 2, 3, 4] (by kernel_rfl) ?_; conv => whnf) | (refine (id : AW _ _ _ (.region 7 _ true) _ _ → _) ?_; refine AW.draw (id := 7) tab_ok mixed [0, 1, 2, 3, 4] (by kernel_rfl) ?_; conv => whnf) | (refine (id : AW _ _ _ (.region 8 _ true) _ _ → _) ?_; refine AW.draw (id := 8) tab_ok mixed [0, 1, 2, 3, 4, 5, 6, 7, 8, 9, 10] (by kernel_rfl) ?_; conv => whnf) | ((first | refine AW.region tab_ok ?_ | refine AW.cond ?_ | refine AW.skip ?_ | refine AW.ret ?_ | refine AW.exit ?_); conv => whnf) | (refine (c1).mono ?_; rintro _ _ ⟨rfl, rfl⟩; conv => whnf) | ((first | refine And.intro (@rfl Val _) ?_ | refine And.intro (by decide) ?_ | refine cs (fun _ => ?_) (fun _ => ?_)) <;> conv => whnf)
      all_goals first | exact ⟨rfl, rfl⟩ | (exfalso; simp_all)
end Go.Proofs.YtlboogackecjlaaGreat.E

/- proof: the rules. No conditions. -/
set_option linter.unusedVariables false
set_option linter.unusedSimpArgs false
namespace Go.Proofs.YtlboogackecjlaaGreat.E
open Go
def oTPv3_41_1 : OT := (.op 0 (.op 1 (.op 2 (.op 3 (.op 4 (.op 5 (.op 6 (.op 7 (.alt (.op 8 (.op 9 (.op 10 (.op 11 .nil)))) (.op 9 (.op 8 (.op 10 (.op 11 .nil)))))))))))))
def oTPv3_50_1 : OT := (.op 0 (.op 1 (.op 2 (.op 3 (.op 4 (.op 5 (.op 6 (.alt (.op 7 (.op 8 (.op 9 (.op 10 .nil)))) (.op 8 (.op 7 (.op 9 (.op 10 .nil))))))))))))

def ofB (q : Int) (a b : Ty) : Bool := decide (tcheck (.node q [a, b]) = 0)
set_option maxRecDepth 10000 in
theorem pof_call (q : Int) (a b : Ty) : ACall Tryz.prog 42 [.c (.d (.int .i8 q)), a.val, b.val] [] (fun o σ => o = .ret (.tup [(Ty.node q [a, b]).val, .c (.d (.bool (ofB q a b)))]) ∧ σ = []) := by
  have c1 := check_call (.node q [a, b])
  unfold ofB
  generalize tcheck (.node q [a, b]) = E at *
  obtain ⟨ka, zas⟩ := a
  obtain ⟨kb, bs⟩ := b
  refine ACall.body tab_ok (ρ := 0) (N := 18) Tryz.func42 rfl rfl rfl rfl rfl ?_
  repeat' first | refine AW.seq ?_ | refine AW.block ?_ | (refine (id : AW _ _ _ (.region 2 _ true) _ _ → _) ?_; refine AW.draw (id := 2) tab_ok mixed [0, 1, 2, 3, 4, 5] (by kernel_rfl) ?_; conv => whnf) | ((first | refine AW.region tab_ok ?_ | refine AW.cond ?_ | refine AW.skip ?_ | refine AW.ret ?_ | refine AW.exit ?_); conv => whnf) | (refine (c1).mono ?_; rintro _ _ ⟨rfl, rfl⟩; conv => whnf) | ((first | refine And.intro (@rfl Val _) ?_ | refine And.intro (by decide) ?_ | refine cs (fun _ => ?_) (fun _ => ?_)) <;> conv => whnf)
  all_goals first | exact ⟨rfl, rfl⟩
set_option maxRecDepth 10000 in
theorem part1_call (k : Int) (name arg : ByteArray) (num tk : Int) (tks : List Ty) (uk : Int) (uks : List Ty) (label place : Int) (ks : List Tm) (a : Ty) (b : Bool) : ACall Tryz.prog 75 [.c (.d (.rp 0 (Tm.node k name arg num tk tks uk uks label place ks).cells)), .c (.d (.sl 0 2 (Ty.rows [a]))), .c (.d (.rp 0 [.bool b]))] [] (fun o σ => o = .ret (.tup [(if b then asR 4 a else asL 4 a).val, .c (.d (.bool (asB 4 a)))]) ∧ σ = []) := by
  have c1 := As_call 4 (by decide) a
  generalize asR 4 a = r at *
  generalize asL 4 a = l at *
  generalize asB 4 a = ok at *
  obtain ⟨ka, zas⟩ := a
  obtain ⟨kr, rs⟩ := r
  obtain ⟨kl, ls⟩ := l
  refine ACall.body tab_ok (ρ := 0) (N := 23) Tryz.func75 rfl rfl rfl rfl rfl ?_
  repeat' first | ((refine And.intro (⟨by decide, by simp [Ty.rows]⟩ : _ ∧ _) ?_; conv => whnf)) | ((intro row hrow; obtain rfl := Option.some.inj hrow; conv => whnf)) | refine AW.seq ?_ | refine AW.block ?_ | ((first | refine AW.region tab_ok ?_ | refine AW.cond ?_ | refine AW.skip ?_ | refine AW.ret ?_ | refine AW.exit ?_); conv => whnf) | (refine (c1).mono ?_; rintro _ _ ⟨rfl, rfl⟩; conv => whnf) | ((first | refine And.intro (@rfl Val _) ?_ | refine And.intro (by decide) ?_ | refine cs (fun _ => ?_) (fun _ => ?_)) <;> conv => whnf)
  all_goals (rename_i g; cases g; exact ⟨rfl, rfl⟩)
set_option maxRecDepth 10000 in
theorem tab1_call (k : Int) (name arg : ByteArray) (num tk : Int) (tks : List Ty) (uk : Int) (uks : List Ty) (label place : Int) (ks : List Tm) (a : Ty) : ACall Tryz.prog 41 [.c (.d (.rp 0 (Tm.node k name arg num tk tks uk uks label place ks).cells)), .c (.d (.sl 0 2 (Ty.rows [a])))] [] (fun o σ => o = .ret (.tup [(Ty.node 3 [.node tk tks, a]).val, .c (.d (.bool (ofB 3 (.node tk tks) a)))]) ∧ σ = []) := by
  have c1 := pof_call 3 (.node tk tks) a
  generalize ofB 3 (.node tk tks) a = E at *
  obtain ⟨ka, zas⟩ := a
  refine ACall.body tab_ok (ρ := 0) (N := 16) Tryz.func41 rfl rfl rfl rfl rfl ?_
  repeat' first | ((refine And.intro (⟨by decide, by simp [Ty.rows]⟩ : _ ∧ _) ?_; conv => whnf)) | ((intro row hrow; obtain rfl := Option.some.inj hrow; conv => whnf)) | refine AW.seq ?_ | refine AW.block ?_ | (refine (id : AW _ _ _ (.region 1 _ true) _ _ → _) ?_; refine AW.drawT (id := 1) tab_ok mixed [0, 1, 2, 3, 4, 5, 6, 7, 8, 9, 10, 11] oTPv3_41_1 (by kernel_rfl) ?_; conv => whnf) | (refine Fork.mk ?_ ?_ <;> conv => whnf) | ((first | refine AW.region tab_ok ?_ | refine AW.cond ?_ | refine AW.skip ?_ | refine AW.ret ?_ | refine AW.exit ?_); conv => whnf) | (refine (c1).mono ?_; rintro _ _ ⟨rfl, rfl⟩; conv => whnf) | ((first | refine And.intro (@rfl Val _) ?_ | refine And.intro (by decide) ?_ | refine cs (fun _ => ?_) (fun _ => ?_)) <;> conv => whnf)
  all_goals first | exact ⟨rfl, rfl⟩
set_option maxRecDepth 10000 in
theorem tab4_call (k : Int) (name arg : ByteArray) (num tk : Int) (tks : List Ty) (uk : Int) (uks : List Ty) (label place : Int) (ks : List Tm) (a b : Ty) : ACall Tryz.prog 47 [.c (.d (.rp 0 (Tm.node k name arg num tk tks uk uks label place ks).cells)), .c (.d (.sl 0 2 (Ty.rows [a, b])))] [] (fun o σ => o = .ret (.tup [(b).val, .c (.d (.bool (agreeS a (.node tk tks))))]) ∧ σ = []) := by
  have c1 := Agree_call a (.node tk tks)
  generalize agreeS a (.node tk tks) = E at *
  obtain ⟨ka, zas⟩ := a
  obtain ⟨kb, bs⟩ := b
  refine ACall.body tab_ok (ρ := 0) (N := 17) Tryz.func47 rfl rfl rfl rfl rfl ?_
  repeat' first | ((refine And.intro (⟨by decide, by simp [Ty.rows]⟩ : _ ∧ _) ?_; conv => whnf)) | ((intro row hrow; obtain rfl := Option.some.inj hrow; conv => whnf)) | refine AW.seq ?_ | refine AW.block ?_ | (refine (id : AW _ _ _ (.region 1 _ true) _ _ → _) ?_; refine AW.draw (id := 1) tab_ok mixed [0, 1, 2, 3, 4, 5, 6, 7, 8, 9, 10, 11, 12] (by kernel_rfl) ?_; conv => whnf) | ((first | refine AW.region tab_ok ?_ | refine AW.cond ?_ | refine AW.skip ?_ | refine AW.ret ?_ | refine AW.exit ?_); conv => whnf) | (refine (c1).mono ?_; rintro _ _ ⟨rfl, rfl⟩; conv => whnf) | ((first | refine And.intro (@rfl Val _) ?_ | refine And.intro (by decide) ?_ | refine cs (fun _ => ?_) (fun _ => ?_)) <;> conv => whnf)
  all_goals first | exact ⟨rfl, rfl⟩
set_option maxRecDepth 10000 in
theorem tab6_call (k : Int) (name arg : ByteArray) (num tk : Int) (tks : List Ty) (uk : Int) (uks : List Ty) (label place : Int) (ks : List Tm) (a b : Ty) : ACall Tryz.prog 50 [.c (.d (.rp 0 (Tm.node k name arg num tk tks uk uks label place ks).cells)), .c (.d (.sl 0 2 (Ty.rows [a, b])))] [] (fun o σ => o = .ret (.tup [(Ty.node 4 [a, b]).val, .c (.d (.bool (ofB 4 a b)))]) ∧ σ = []) := by
  have c1 := pof_call 4 a b
  generalize ofB 4 a b = E at *
  obtain ⟨ka, zas⟩ := a
  obtain ⟨kb, bs⟩ := b
  refine ACall.body tab_ok (ρ := 0) (N := 15) Tryz.func50 rfl rfl rfl rfl rfl ?_
  repeat' first | ((refine And.intro (⟨by decide, by simp [Ty.rows]⟩ : _ ∧ _) ?_; conv => whnf)) | ((intro row hrow; obtain rfl := Option.some.inj hrow; conv => whnf)) | refine AW.seq ?_ | refine AW.block ?_ | (refine (id : AW _ _ _ (.region 1 _ true) _ _ → _) ?_; refine AW.drawT (id := 1) tab_ok mixed [0, 1, 2, 3, 4, 5, 6, 7, 8, 9, 10] oTPv3_50_1 (by kernel_rfl) ?_; conv => whnf) | (refine Fork.mk ?_ ?_ <;> conv => whnf) | ((first | refine AW.region tab_ok ?_ | refine AW.cond ?_ | refine AW.skip ?_ | refine AW.ret ?_ | refine AW.exit ?_); conv => whnf) | (refine (c1).mono ?_; rintro _ _ ⟨rfl, rfl⟩; conv => whnf) | ((first | refine And.intro (@rfl Val _) ?_ | refine And.intro (by decide) ?_ | refine cs (fun _ => ?_) (fun _ => ?_)) <;> conv => whnf)
  all_goals first | exact ⟨rfl, rfl⟩
set_option maxRecDepth 10000 in
theorem tab8_call (k : Int) (name arg : ByteArray) (num tk : Int) (tks : List Ty) (uk : Int) (uks : List Ty) (label place : Int) (ks : List Tm) (a : Ty) : ACall Tryz.prog 52 [.c (.d (.rp 0 (Tm.node k name arg num tk tks uk uks label place ks).cells)), .c (.d (.sl 0 2 (Ty.rows [a])))] [] (fun o σ => o = .ret (.tup [(Ty.node tk tks).val, .c (.d (.bool (agreeS a (.node tk tks))))]) ∧ σ = []) := by
  have c1 := Agree_call a (.node tk tks)
  generalize agreeS a (.node tk tks) = E at *
  obtain ⟨ka, zas⟩ := a
  refine ACall.body tab_ok (ρ := 0) (N := 18) Tryz.func52 rfl rfl rfl rfl rfl ?_
  repeat' first | ((refine And.intro (⟨by decide, by simp [Ty.rows]⟩ : _ ∧ _) ?_; conv => whnf)) | ((intro row hrow; obtain rfl := Option.some.inj hrow; conv => whnf)) | refine AW.seq ?_ | refine AW.block ?_ | (refine (id : AW _ _ _ (.region 1 _ true) _ _ → _) ?_; refine AW.draw (id := 1) tab_ok mixed [0, 1, 2, 3, 4, 5, 6, 7, 8, 9, 10, 11, 12, 13] (by kernel_rfl) ?_; conv => whnf) | ((first | refine AW.region tab_ok ?_ | refine AW.cond ?_ | refine AW.skip ?_ | refine AW.ret ?_ | refine AW.exit ?_); conv => whnf) | (refine (c1).mono ?_; rintro _ _ ⟨rfl, rfl⟩; conv => whnf) | ((first | refine And.intro (@rfl Val _) ?_ | refine And.intro (by decide) ?_ | refine cs (fun _ => ?_) (fun _ => ?_)) <;> conv => whnf)
  all_goals first | exact ⟨rfl, rfl⟩
end Go.Proofs.YtlboogackecjlaaGreat.E
