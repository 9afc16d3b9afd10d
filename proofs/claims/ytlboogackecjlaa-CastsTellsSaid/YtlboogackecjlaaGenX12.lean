/- Texts, merged: Cp1, Rw2a. No conditions. -/
import Derived.Test.YtlboogackecjlaaGenX11
import Derived.Test.YtlboogackecjlaaEngX3
import Derived.Test.YtlboogackecjlaaGenX7
/- Copies of types and terms, in blocks of their own. No conditions. -/
set_option linter.unusedVariables false
set_option linter.unusedSimpArgs false
namespace Go.Proofs.Ytlboogackecjlaa.E
open Go
def oTCp1_38_3 : OT := (.op 0 (.op 1 (.op 2 (.op 3 (.op 4 (.op 5 (.alt (.op 6 (.op 7 (.op 8 (.op 9 .nil)))) (.op 8 (.op 6 (.op 7 (.op 9 .nil)))))))))))

theorem tyrowsR_app (r : Nat) (l : List Ty) (t : Ty) : Ty.rowsR r (l ++ [t]) = Ty.rowsR r l ++ [t.cellsR r] := by rw [tyrowsR_map, tyrowsR_map, List.map_append]; rfl
theorem tmrowsR_app (p q : Nat) (l : List Tm) (t : Tm) : Tm.rowsR p q (l ++ [t]) = Tm.rowsR p q l ++ [t.cellsR p q] := by rw [tmrowsR_map, tmrowsR_map, List.map_append]; rfl
set_option maxRecDepth 10000 in
set_option maxHeartbeats 1000000 in
theorem copiedTy_call (a : Ty) : TyOk a → ACall Try.prog 38 [a.val] [] (fun o σ => o = .ret (a.valR 1) ∧ σ = []) := by
  induction a using Ty.ind with
  | _ k ks ih =>
  rintro (⟨hlen, hks⟩)
  by_cases h0 : ks = []
  · subst h0
    refine ACall.body tab_ok (ρ := 1) (N := 39) Try.func38 rfl rfl rfl rfl rfl ?_
    repeat' first | refine AW.seq ?_ | refine AW.block ?_ | (refine (id : AW _ _ _ (.region 3 _ true) _ _ → _) ?_; refine AW.drawT (id := 3) tab_ok mixed [0, 1, 2, 3, 4, 5, 6, 7, 8, 9] oTCp1_38_3 (by kernel_rfl) ?_; conv => whnf) | (refine (id : AW _ _ _ (.region 7 _ true) _ _ → _) ?_; refine AW.draw (id := 7) tab_ok mixed [0, 1, 2, 3, 4, 5, 6, 7, 8, 9, 10, 11] (by kernel_rfl) ?_; conv => whnf) | (refine Fork.mk ?_ ?_ <;> conv => whnf) | ((first | refine AW.region tab_ok ?_ | refine AW.cond ?_ | refine AW.skip ?_ | refine AW.ret ?_ | refine AW.exit ?_); conv => whnf) | ((first | refine And.intro (@rfl Val _) ?_ | refine And.intro (by decide) ?_ | refine cs (fun _ => ?_) (fun _ => ?_)) <;> conv => whnf)
    all_goals exact ⟨rfl, rfl⟩
  have hpos : 0 < ks.length := List.length_pos_iff.2 h0
  have hw : IntKind.i64.wrap (((Ty.rows ks).length : Int) + 1) = (ks.length : Int) + 1 := by rw [rows_length, wrap64 (by omega) (by omega)]
  refine ACall.body tab_ok (ρ := 1) (N := 39) Try.func38 rfl rfl rfl rfl rfl ?_
  repeat' first | ((refine Or.inl ?_; refine FitsX.mk ⟨?_, rfl, rfl, ⟨[], rfl⟩, rfl⟩ rfl; repeat' (first | exact rfl | exact trivial | refine ⟨rfl, ?_⟩); done)) | ((refine Or.inr ?_; refine FitsX.mk ⟨?_, rfl, rfl, ⟨[], rfl⟩, rfl⟩ rfl; repeat' (first | exact rfl | exact trivial | refine ⟨rfl, ?_⟩); done)) | ((refine (id : AW _ _ _ (.seq (.region 3 _ true) _) _ _ → _) ?_; refine AW.cut2 ⟨39, [(1, .c (.ptr 0 0)), (2, .c (.ptr 1 0)), (3, .c (.ptr 3 0))], [.var [.d (.int .i8 k), .d (.sl 0 2 (Ty.rows ks))], .var [.d (.int .i8 0), .d .nils], .row 25 2 ([]), .var [.d (.int .i8 k), .own 2 0]], []⟩ ⟨39, [(1, .c (.ptr 0 0)), (2, .c (.ptr 1 0)), (3, .c (.ptr 2 0))], [.var [.d (.int .i8 k), .d (.sl 0 2 (Ty.rows ks))], .var [.d (.int .i8 0), .d .nils], .var [.d (.int .i8 k), .own 3 0], .row 25 2 ([])], []⟩ ?_ ?_ ?_; rotate_left; rotate_left)) | ((refine And.intro ⟨by decide, by rw [hw]; omega, by rw [hw]; show (32:Int) * _ ≤ _; omega, by rw [hw]; omega⟩ ?_; conv => whnf)) | refine AW.seq ?_ | refine AW.block ?_ | (refine (id : AW _ _ _ (.region 3 _ true) _ _ → _) ?_; refine AW.drawT (id := 3) tab_ok mixed [0, 1, 2, 3, 4, 5, 6, 7, 8, 9] oTCp1_38_3 (by kernel_rfl) ?_; conv => whnf) | (refine (id : AW _ _ _ (.region 7 _ true) _ _ → _) ?_; refine AW.draw (id := 7) tab_ok mixed [0, 1, 2, 3, 4, 5, 6, 7, 8, 9, 10, 11] (by kernel_rfl) ?_; conv => whnf) | (refine Fork.mk ?_ ?_ <;> conv => whnf) | ((first | refine AW.region tab_ok ?_ | refine AW.cond ?_ | refine AW.skip ?_ | refine AW.ret ?_ | refine AW.exit ?_); conv => whnf) | ((first | refine And.intro (@rfl Val _) ?_ | refine And.intro (by decide) ?_ | refine cs (fun _ => ?_) (fun _ => ?_)) <;> conv => whnf)
  all_goals try exact trivial
  · rename_i g
    exfalso
    rw [rows_length] at g
    have g : ((ks.length : Nat) : Int) = 0 := by simpa using g
    omega
  · skip
    refine AW.loop (ι := IdxI ks) (fun x => ⟨39, [(4, .c (.d (.int .i64 x.i))), (1, .c (.ptr 0 0)), (2, .c (.ptr 1 0)), (3, .c (.ptr 2 0))], [.var [.d (.int .i8 k), .d (.sl 0 2 (Ty.rows ks))], .var [.d (.int .i8 0), .d .nils], .var [.d (.int .i8 k), .own 3 (Ty.rowsR 1 (ks.take x.i)).length], .row 25 2 (Ty.rowsR 1 (ks.take x.i))], []⟩)
      (fun x => ks.length - x.i) ⟨0, Nat.zero_le _⟩ 4 (fun _ => rfl) (Nat.le_of_ble_eq_true rfl) ⟨⟨rfl, rfl, rfl, rfl, trivial⟩, rfl, rfl, ⟨[], rfl⟩, rfl⟩ (fun x => ?_)
    obtain ⟨i, hi⟩ := x
    repeat' first | refine AW.seq ?_ | refine AW.block ?_ | (refine (id : AW _ _ _ (.region 3 _ true) _ _ → _) ?_; refine AW.drawT (id := 3) tab_ok mixed [0, 1, 2, 3, 4, 5, 6, 7, 8, 9] oTCp1_38_3 (by kernel_rfl) ?_; conv => whnf) | (refine (id : AW _ _ _ (.region 7 _ true) _ _ → _) ?_; refine AW.draw (id := 7) tab_ok mixed [0, 1, 2, 3, 4, 5, 6, 7, 8, 9, 10, 11] (by kernel_rfl) ?_; conv => whnf) | (refine Fork.mk ?_ ?_ <;> conv => whnf) | ((first | refine AW.region tab_ok ?_ | refine AW.cond ?_ | refine AW.skip ?_ | refine AW.ret ?_ | refine AW.exit ?_); conv => whnf) | ((first | refine And.intro (@rfl Val _) ?_ | refine And.intro (by decide) ?_ | refine cs (fun _ => ?_) (fun _ => ?_)) <;> conv => whnf)
    · rename_i h1
      simp only [rows_length] at h1
      have h1 := of_decide_eq_true h1
      try simp only at h1
      have hlt : i < ks.length := by omega
      obtain ⟨x, ht⟩ : ∃ x, ks[i]? = some x := ⟨_, List.getElem?_eq_getElem hlt⟩
      have f1 : (0 : Int) ≤ (i : Int) ∧ (i : Int) < ((Ty.rows ks).length : Nat) := by rw [rows_length]; omega
      have e1 : ∀ row, (Ty.rows ks)[((i : Nat) : Int).toNat]? = some row → x.cells = row := fun row h => by
        obtain ⟨y, hy, rfl⟩ := rows_get ks i row (by simpa using h)
        rw [ht] at hy; cases hy; rfl
      have hm := List.mem_of_getElem? ht
      have hc := ih x hm (hks x hm)
      have hmt : ks.take (i + 1) = ks.take i ++ [x] := by rw [List.take_add_one, ht]; rfl
      obtain ⟨km, kms⟩ := x
      have hb : bnd ((Ty.rowsR 1 (ks.take i)).length + 1) 32 := by simp only [bnd, tyrowsR_len, List.length_take]; omega
      have e : Ty.rowsR 1 (ks.take i) ++ [[.int .i8 km, .sl 1 2 (Ty.rowsR 1 kms)]] = Ty.rowsR 1 (ks.take (i + 1)) := by
        rw [hmt, tyrowsR_app]; rfl
      have el : (Ty.rowsR 1 (ks.take i)).length + [[DV.int .i8 km, .sl 1 2 (Ty.rowsR 1 kms)]].length = (Ty.rowsR 1 (ks.take (i + 1))).length := by
        rw [← List.length_append, e]
      refine ⟨f1, fun row hrow => ?_⟩
      obtain rfl := e1 row hrow
      conv => whnf
      repeat' first | ((refine And.intro f1 fun row hrow => ?_; obtain rfl := e1 row hrow; conv => whnf)) | ((refine And.intro ⟨rfl, hb⟩ ?_; conv => whnf)) | refine AW.seq ?_ | refine AW.block ?_ | (refine (id : AW _ _ _ (.region 3 _ true) _ _ → _) ?_; refine AW.drawT (id := 3) tab_ok mixed [0, 1, 2, 3, 4, 5, 6, 7, 8, 9] oTCp1_38_3 (by kernel_rfl) ?_; conv => whnf) | (refine (id : AW _ _ _ (.region 7 _ true) _ _ → _) ?_; refine AW.draw (id := 7) tab_ok mixed [0, 1, 2, 3, 4, 5, 6, 7, 8, 9, 10, 11] (by kernel_rfl) ?_; conv => whnf) | (refine Fork.mk ?_ ?_ <;> conv => whnf) | ((first | refine AW.region tab_ok ?_ | refine AW.cond ?_ | refine AW.skip ?_ | refine AW.ret ?_ | refine AW.exit ?_); conv => whnf) | (refine (hc).mono ?_; rintro _ _ ⟨rfl, rfl⟩; conv => whnf) | ((first | refine And.intro (@rfl Val _) ?_ | refine And.intro (by decide) ?_ | refine cs (fun _ => ?_) (fun _ => ?_)) <;> conv => whnf)
      rw [el, e, wrap64 (x := (i : Int) + 1) (by omega) (by omega)]
      exact ⟨⟨i + 1, hlt⟩, ⟨⟨rfl, rfl, rfl, rfl, trivial⟩, rfl, rfl, ⟨[], rfl⟩, rfl⟩, show ks.length - (i + 1) < ks.length - i by omega⟩
    · rename_i h1
      simp only [rows_length] at h1
      have h1 := of_decide_eq_false h1
      try simp only at h1
      obtain rfl : i = ks.length := by omega
      have e : ks.take ks.length = ks := List.take_of_length_le (by omega)
      simp only [e]
      first | refine ⟨trivial, ?_⟩ | refine ⟨rfl, ?_⟩ | skip
      conv => whnf
      first | exact ⟨rfl, rfl⟩ | exact ⟨rfl, trivial⟩ | (simp; rfl)
  · skip
    refine AW.loop (ι := IdxI ks) (fun x => ⟨39, [(4, .c (.d (.int .i64 x.i))), (1, .c (.ptr 0 0)), (2, .c (.ptr 1 0)), (3, .c (.ptr 3 0))], [.var [.d (.int .i8 k), .d (.sl 0 2 (Ty.rows ks))], .var [.d (.int .i8 0), .d .nils], .row 25 2 (Ty.rowsR 1 (ks.take x.i)), .var [.d (.int .i8 k), .own 2 (Ty.rowsR 1 (ks.take x.i)).length]], []⟩)
      (fun x => ks.length - x.i) ⟨0, Nat.zero_le _⟩ 4 (fun _ => rfl) (Nat.le_of_ble_eq_true rfl) ⟨⟨rfl, rfl, rfl, rfl, trivial⟩, rfl, rfl, ⟨[], rfl⟩, rfl⟩ (fun x => ?_)
    obtain ⟨i, hi⟩ := x
    repeat' first | refine AW.seq ?_ | refine AW.block ?_ | (refine (id : AW _ _ _ (.region 3 _ true) _ _ → _) ?_; refine AW.drawT (id := 3) tab_ok mixed [0, 1, 2, 3, 4, 5, 6, 7, 8, 9] oTCp1_38_3 (by kernel_rfl) ?_; conv => whnf) | (refine (id : AW _ _ _ (.region 7 _ true) _ _ → _) ?_; refine AW.draw (id := 7) tab_ok mixed [0, 1, 2, 3, 4, 5, 6, 7, 8, 9, 10, 11] (by kernel_rfl) ?_; conv => whnf) | (refine Fork.mk ?_ ?_ <;> conv => whnf) | ((first | refine AW.region tab_ok ?_ | refine AW.cond ?_ | refine AW.skip ?_ | refine AW.ret ?_ | refine AW.exit ?_); conv => whnf) | ((first | refine And.intro (@rfl Val _) ?_ | refine And.intro (by decide) ?_ | refine cs (fun _ => ?_) (fun _ => ?_)) <;> conv => whnf)
    · rename_i h1
      simp only [rows_length] at h1
      have h1 := of_decide_eq_true h1
      try simp only at h1
      have hlt : i < ks.length := by omega
      obtain ⟨x, ht⟩ : ∃ x, ks[i]? = some x := ⟨_, List.getElem?_eq_getElem hlt⟩
      have f1 : (0 : Int) ≤ (i : Int) ∧ (i : Int) < ((Ty.rows ks).length : Nat) := by rw [rows_length]; omega
      have e1 : ∀ row, (Ty.rows ks)[((i : Nat) : Int).toNat]? = some row → x.cells = row := fun row h => by
        obtain ⟨y, hy, rfl⟩ := rows_get ks i row (by simpa using h)
        rw [ht] at hy; cases hy; rfl
      have hm := List.mem_of_getElem? ht
      have hc := ih x hm (hks x hm)
      have hmt : ks.take (i + 1) = ks.take i ++ [x] := by rw [List.take_add_one, ht]; rfl
      obtain ⟨km, kms⟩ := x
      have hb : bnd ((Ty.rowsR 1 (ks.take i)).length + 1) 32 := by simp only [bnd, tyrowsR_len, List.length_take]; omega
      have e : Ty.rowsR 1 (ks.take i) ++ [[.int .i8 km, .sl 1 2 (Ty.rowsR 1 kms)]] = Ty.rowsR 1 (ks.take (i + 1)) := by
        rw [hmt, tyrowsR_app]; rfl
      have el : (Ty.rowsR 1 (ks.take i)).length + [[DV.int .i8 km, .sl 1 2 (Ty.rowsR 1 kms)]].length = (Ty.rowsR 1 (ks.take (i + 1))).length := by
        rw [← List.length_append, e]
      refine ⟨f1, fun row hrow => ?_⟩
      obtain rfl := e1 row hrow
      conv => whnf
      repeat' first | ((refine And.intro f1 fun row hrow => ?_; obtain rfl := e1 row hrow; conv => whnf)) | ((refine And.intro ⟨rfl, hb⟩ ?_; conv => whnf)) | refine AW.seq ?_ | refine AW.block ?_ | (refine (id : AW _ _ _ (.region 3 _ true) _ _ → _) ?_; refine AW.drawT (id := 3) tab_ok mixed [0, 1, 2, 3, 4, 5, 6, 7, 8, 9] oTCp1_38_3 (by kernel_rfl) ?_; conv => whnf) | (refine (id : AW _ _ _ (.region 7 _ true) _ _ → _) ?_; refine AW.draw (id := 7) tab_ok mixed [0, 1, 2, 3, 4, 5, 6, 7, 8, 9, 10, 11] (by kernel_rfl) ?_; conv => whnf) | (refine Fork.mk ?_ ?_ <;> conv => whnf) | ((first | refine AW.region tab_ok ?_ | refine AW.cond ?_ | refine AW.skip ?_ | refine AW.ret ?_ | refine AW.exit ?_); conv => whnf) | (refine (hc).mono ?_; rintro _ _ ⟨rfl, rfl⟩; conv => whnf) | ((first | refine And.intro (@rfl Val _) ?_ | refine And.intro (by decide) ?_ | refine cs (fun _ => ?_) (fun _ => ?_)) <;> conv => whnf)
      rw [el, e, wrap64 (x := (i : Int) + 1) (by omega) (by omega)]
      exact ⟨⟨i + 1, hlt⟩, ⟨⟨rfl, rfl, rfl, rfl, trivial⟩, rfl, rfl, ⟨[], rfl⟩, rfl⟩, show ks.length - (i + 1) < ks.length - i by omega⟩
    · rename_i h1
      simp only [rows_length] at h1
      have h1 := of_decide_eq_false h1
      try simp only at h1
      obtain rfl : i = ks.length := by omega
      have e : ks.take ks.length = ks := List.take_of_length_le (by omega)
      simp only [e]
      first | refine ⟨trivial, ?_⟩ | refine ⟨rfl, ?_⟩ | skip
      conv => whnf
      first | exact ⟨rfl, rfl⟩ | exact ⟨rfl, trivial⟩ | (simp; rfl)
set_option maxRecDepth 10000 in
set_option maxHeartbeats 1000000 in
theorem copiedTm_call (t : Tm) : TmOk t → ACall Try.prog 15 [t.val] [] (fun o σ => o = .ret (t.valR 1 4) ∧ σ = []) := by
  induction t using Tm.ind with
  | _ k name arg num tk tks uk uks label place ks ih =>
  rintro (⟨hT, hU, hlen, hks⟩)
  have c1 := copiedTy_call _ hT
  have c2 := copiedTy_call _ hU
  refine ACall.body tab_ok (ρ := 4) (N := 34) Try.func15 rfl rfl rfl rfl rfl ?_
  repeat' first | refine AW.seq ?_ | refine AW.block ?_ | (refine (id : AW _ _ _ (.region 8 _ true) _ _ → _) ?_; refine AW.draw (id := 8) tab_ok mixed [0, 1, 2, 3, 4, 5, 6, 7, 8, 9, 10, 11] (by kernel_rfl) ?_; conv => whnf) | ((first | refine AW.region tab_ok ?_ | refine AW.cond ?_ | refine AW.skip ?_ | refine AW.ret ?_ | refine AW.exit ?_); conv => whnf) | ((first | refine (c1).mono ?_ | refine (c2).mono ?_); rintro _ _ ⟨rfl, rfl⟩; conv => whnf) | ((first | refine And.intro (@rfl Val _) ?_ | refine And.intro (by decide) ?_ | refine cs (fun _ => ?_) (fun _ => ?_)) <;> conv => whnf)
  refine AW.ghost 28 11 2 10 (by decide) rfl rfl ?_
  refine AW.loop (ι := IdxI ks) (fun x => ⟨34, [(4, .c (.d (.int .i64 x.i))), (1, .c (.ptr 0 0)), (2, .c (.ptr 1 0)), (3, .c (.ptr 2 0))], [.var ((Tm.node k name arg num tk tks uk uks label place ks).cells.map .d), .var [.d (.int .i8 0), .d (.str ⟨#[]⟩), .d (.str ⟨#[]⟩), .d (.int .i64 0), .d (.int .i8 0), .d .nils, .d (.int .i8 0), .d .nils, .d (.int .i64 0), .d (.int .i64 0), .d .nils], .var [.d (.int .i8 k), .d (.str name), .d (.str arg), .d (.int .i64 num), .d (.int .i8 tk), .d (.sl 1 2 (Ty.rowsR 1 tks)), .d (.int .i8 uk), .d (.sl 1 2 (Ty.rowsR 1 uks)), .d (.int .i64 label), .d (.int .i64 place), .own 3 (Tm.rowsR 1 4 (ks.take x.i)).length], .row 28 11 (Tm.rowsR 1 4 (ks.take x.i))], []⟩)
    (fun x => ks.length - x.i) ⟨0, Nat.zero_le _⟩ 4 (fun _ => rfl) (Nat.le_of_ble_eq_true rfl) ⟨⟨rfl, rfl, rfl, rfl, trivial⟩, rfl, rfl, ⟨[], rfl⟩, rfl⟩ (fun x => ?_)
  obtain ⟨i, hi⟩ := x
  repeat' first | refine AW.seq ?_ | refine AW.block ?_ | (refine (id : AW _ _ _ (.region 8 _ true) _ _ → _) ?_; refine AW.draw (id := 8) tab_ok mixed [0, 1, 2, 3, 4, 5, 6, 7, 8, 9, 10, 11] (by kernel_rfl) ?_; conv => whnf) | ((first | refine AW.region tab_ok ?_ | refine AW.cond ?_ | refine AW.skip ?_ | refine AW.ret ?_ | refine AW.exit ?_); conv => whnf) | ((first | refine And.intro (@rfl Val _) ?_ | refine And.intro (by decide) ?_ | refine cs (fun _ => ?_) (fun _ => ?_)) <;> conv => whnf)
  · rename_i h1
    simp only [trows_length] at h1
    have h1 := of_decide_eq_true h1
    try simp only at h1
    have hlt : i < ks.length := by omega
    obtain ⟨x, ht⟩ : ∃ x, ks[i]? = some x := ⟨_, List.getElem?_eq_getElem hlt⟩
    have f1 : (0 : Int) ≤ (i : Int) ∧ (i : Int) < ((Tm.rows ks).length : Nat) := by rw [trows_length]; omega
    have e1 : ∀ row, (Tm.rows ks)[((i : Nat) : Int).toNat]? = some row → x.cells = row := fun row h => by
      obtain ⟨y, hy, rfl⟩ := trows_get ks i row (by simpa using h)
      rw [ht] at hy; cases hy; rfl
    have hm := List.mem_of_getElem? ht
    have hc := ih x hm (hks x hm)
    have hmt : ks.take (i + 1) = ks.take i ++ [x] := by rw [List.take_add_one, ht]; rfl
    have e : Tm.rowsR 1 4 (ks.take i) ++ [x.cellsR 1 4] = Tm.rowsR 1 4 (ks.take (i + 1)) := by rw [hmt, tmrowsR_app]
    have el : (Tm.rowsR 1 4 (ks.take i)).length + [x.cellsR 1 4].length = (Tm.rowsR 1 4 (ks.take (i + 1))).length := by rw [← List.length_append, e]
    have hb : bnd ((Tm.rowsR 1 4 (ks.take i)).length + 1) 152 := by simp only [bnd, tmrowsR_len, List.length_take]; omega
    obtain ⟨kx, namex, argx, numx, tkx, tksx, ukx, uksx, labelx, placex, ksx⟩ := x
    refine ⟨f1, fun row hrow => ?_⟩
    obtain rfl := e1 row hrow
    conv => whnf
    repeat' first | ((refine And.intro f1 fun row hrow => ?_; obtain rfl := e1 row hrow; conv => whnf)) | ((refine And.intro ⟨rfl, hb⟩ ?_; conv => whnf)) | refine AW.seq ?_ | refine AW.block ?_ | (refine (id : AW _ _ _ (.region 8 _ true) _ _ → _) ?_; refine AW.draw (id := 8) tab_ok mixed [0, 1, 2, 3, 4, 5, 6, 7, 8, 9, 10, 11] (by kernel_rfl) ?_; conv => whnf) | ((first | refine AW.region tab_ok ?_ | refine AW.cond ?_ | refine AW.skip ?_ | refine AW.ret ?_ | refine AW.exit ?_); conv => whnf) | (refine (hc).mono ?_; rintro _ _ ⟨rfl, rfl⟩; conv => whnf) | ((first | refine And.intro (@rfl Val _) ?_ | refine And.intro (by decide) ?_ | refine cs (fun _ => ?_) (fun _ => ?_)) <;> conv => whnf)
    rw [show (Tm.rowsR 1 4 (ks.take i)).length + [[DV.int .i8 kx, .str namex, .str argx, .int .i64 numx, .int .i8 tkx, .sl 1 2 (Ty.rowsR 1 tksx), .int .i8 ukx, .sl 1 2 (Ty.rowsR 1 uksx), .int .i64 labelx, .int .i64 placex, .sl 4 11 (Tm.rowsR 1 4 ksx)]].length = _ from el, show Tm.rowsR 1 4 (ks.take i) ++ [[DV.int .i8 kx, .str namex, .str argx, .int .i64 numx, .int .i8 tkx, .sl 1 2 (Ty.rowsR 1 tksx), .int .i8 ukx, .sl 1 2 (Ty.rowsR 1 uksx), .int .i64 labelx, .int .i64 placex, .sl 4 11 (Tm.rowsR 1 4 ksx)]] = _ from e, wrap64 (x := (i : Int) + 1) (by omega) (by omega)]
    exact ⟨⟨i + 1, hlt⟩, ⟨⟨rfl, rfl, rfl, rfl, trivial⟩, rfl, rfl, ⟨[], rfl⟩, rfl⟩, show ks.length - (i + 1) < ks.length - i by omega⟩
  · rename_i h1
    simp only [trows_length] at h1
    have h1 := of_decide_eq_false h1
    try simp only at h1
    obtain rfl : i = ks.length := by omega
    have e : ks.take ks.length = ks := List.take_of_length_le (by omega)
    simp only [e]
    first | refine ⟨trivial, ?_⟩ | refine ⟨rfl, ?_⟩ | skip
    conv => whnf
    first | exact ⟨rfl, rfl⟩ | exact ⟨rfl, trivial⟩ | (simp; rfl)
end Go.Proofs.Ytlboogackecjlaa.E

/- LikeType, LikeTerm of a thing and itself, of any size; what stands over a spoiling. No conditions. -/
set_option linter.unusedVariables false
set_option linter.unusedSimpArgs false
namespace Go.Proofs.Ytlboogackecjlaa.E
open Go

set_option maxRecDepth 10000 in
theorem likeTyO_call (a : Ty) : TyOk a → ACall Try.prog 19 [a.val, a.val] [] (fun o σ => o = .ret (.c (.d (.bool true))) ∧ σ = []) := by
  induction a using Ty.ind with
  | _ k ks ih =>
  rintro (⟨hle, hks⟩)
  refine ACall.body tab_ok (ρ := 0) (N := 39) Try.func19 rfl rfl rfl rfl rfl ?_
  repeat' first | refine AW.seq ?_ | refine AW.block ?_ | (refine (id : AW _ _ _ (.region 6 _ true) _ _ → _) ?_; refine AW.draw (id := 6) tab_ok mixed [0, 1, 2, 3, 4, 5, 6, 7, 8, 9, 10, 11] (by kernel_rfl) ?_; conv => whnf) | ((first | refine AW.region tab_ok ?_ | refine AW.cond ?_ | refine AW.skip ?_ | refine AW.ret ?_ | refine AW.exit ?_); conv => whnf) | ((first | refine And.intro (@rfl Val _) ?_ | refine And.intro (by decide) ?_ | refine cs (fun _ => ?_) (fun _ => ?_)) <;> conv => whnf)
  · rename_i h; simp at h
  · rename_i h0 h; simp at h
  · rename_i h0 h
    refine AW.loop (ι := UpTo ks) (fun x => ⟨39, [(5, .c (.d (.int .i64 x.i))), (2, .c (.ptr 0 0)), (3, .c (.ptr 1 0))], [.var [.d (.int .i8 k), .d (.sl 0 2 (Ty.rows ks))], .var [.d (.int .i8 k), .d (.sl 0 2 (Ty.rows ks))]], []⟩)
      (fun x => ks.length - x.i) ⟨0, Nat.zero_le _⟩ 2 (fun _ => rfl) (Nat.le_of_ble_eq_true rfl) ⟨⟨rfl, rfl, rfl, trivial⟩, rfl, rfl, ⟨[], rfl⟩, rfl⟩ (fun x => ?_)
    obtain ⟨i, hi⟩ := x
    repeat' first | refine AW.seq ?_ | refine AW.block ?_ | (refine (id : AW _ _ _ (.region 6 _ true) _ _ → _) ?_; refine AW.draw (id := 6) tab_ok mixed [0, 1, 2, 3, 4, 5, 6, 7, 8, 9, 10, 11] (by kernel_rfl) ?_; conv => whnf) | ((first | refine AW.region tab_ok ?_ | refine AW.cond ?_ | refine AW.skip ?_ | refine AW.ret ?_ | refine AW.exit ?_); conv => whnf) | ((first | refine And.intro (@rfl Val _) ?_ | refine And.intro (by decide) ?_ | refine cs (fun _ => ?_) (fun _ => ?_)) <;> conv => whnf)
    · rename_i h1
      simp only [rows_length] at h1 ⊢
      have := of_decide_eq_true h1
      refine ⟨by omega, fun row hrow => ?_⟩
      obtain ⟨⟨kx, kxs⟩, ht, rfl⟩ := rows_get ks i row (by simpa using hrow)
      have hlt : i < ks.length := (List.getElem?_eq_some_iff.1 ht).1
      have hm := List.mem_of_getElem? ht
      conv => whnf
      repeat' first | refine AW.seq ?_ | refine AW.block ?_ | (refine (id : AW _ _ _ (.region 6 _ true) _ _ → _) ?_; refine AW.draw (id := 6) tab_ok mixed [0, 1, 2, 3, 4, 5, 6, 7, 8, 9, 10, 11] (by kernel_rfl) ?_; conv => whnf) | ((first | refine AW.region tab_ok ?_ | refine AW.cond ?_ | refine AW.skip ?_ | refine AW.ret ?_ | refine AW.exit ?_); conv => whnf) | ((first | refine And.intro (@rfl Val _) ?_ | refine And.intro (by decide) ?_ | refine cs (fun _ => ?_) (fun _ => ?_)) <;> conv => whnf)
      simp only [rows_length]
      refine ⟨by omega, fun row hrow => ?_⟩
      obtain ⟨y, hu, rfl⟩ := rows_get ks i row (by simpa using hrow)
      rw [ht] at hu
      cases hu
      conv => whnf
      repeat' first | refine AW.seq ?_ | refine AW.block ?_ | (refine (id : AW _ _ _ (.region 6 _ true) _ _ → _) ?_; refine AW.draw (id := 6) tab_ok mixed [0, 1, 2, 3, 4, 5, 6, 7, 8, 9, 10, 11] (by kernel_rfl) ?_; conv => whnf) | ((first | refine AW.region tab_ok ?_ | refine AW.cond ?_ | refine AW.skip ?_ | refine AW.ret ?_ | refine AW.exit ?_); conv => whnf) | (refine (ih _ hm (hks _ hm)).mono ?_; rintro _ _ ⟨rfl, rfl⟩; conv => whnf) | ((first | refine And.intro (@rfl Val _) ?_ | refine And.intro (by decide) ?_ | refine cs (fun _ => ?_) (fun _ => ?_)) <;> conv => whnf)
      rw [wrap64 (x := (i : Int) + 1) (by omega) (by omega)]
      exact ⟨⟨i + 1, hlt⟩, ⟨⟨rfl, rfl, rfl, trivial⟩, rfl, rfl, ⟨[], rfl⟩, rfl⟩, show ks.length - (i + 1) < ks.length - i by omega⟩
    · exact ⟨rfl, rfl⟩
set_option maxRecDepth 10000 in
theorem likeTmO_call (a : Tm) : TmOk a → ACall Try.prog 13 [a.val, a.val] [] (fun o σ => o = .ret (.c (.d (.bool true))) ∧ σ = []) := by
  induction a using Tm.ind with
  | _ k name arg num tk tks uk uks label place ks ih =>
  rintro (⟨h1, h2, h3, h4⟩)
  have c1 := likeTyO_call _ h1
  have c2 := likeTyO_call _ h2
  refine ACall.body tab_ok (ρ := 0) (N := 90) Try.func13 rfl rfl rfl rfl rfl ?_
  repeat' first | refine AW.seq ?_ | refine AW.block ?_ | (refine (id : AW _ _ _ (.region 6 _ true) _ _ → _) ?_; refine AW.draw (id := 6) tab_ok mixed [0, 1, 2, 3, 4, 5, 6, 7, 8, 9, 10, 11] (by kernel_rfl) ?_; conv => whnf) | ((first | refine AW.region tab_ok ?_ | refine AW.cond ?_ | refine AW.skip ?_ | refine AW.ret ?_ | refine AW.exit ?_); conv => whnf) | ((first | refine (c1).mono ?_ | refine (c2).mono ?_); rintro _ _ ⟨rfl, rfl⟩; conv => whnf) | ((first | refine And.intro (@rfl Val _) ?_ | refine And.intro (by decide) ?_ | refine cs (fun _ => ?_) (fun _ => ?_)) <;> conv => whnf)
  all_goals first | (rename_i h; simp at h; done) | skip
  · refine AW.loop (ι := UpToT ks) (fun x => ⟨90, [(5, .c (.d (.int .i64 x.i))), (2, .c (.ptr 0 0)), (3, .c (.ptr 1 0))], [.var [.d (.int .i8 k), .d (.str name), .d (.str arg), .d (.int .i64 num), .d (.int .i8 tk), .d (.sl 0 2 (Ty.rows tks)), .d (.int .i8 uk), .d (.sl 0 2 (Ty.rows uks)), .d (.int .i64 label), .d (.int .i64 place), .d (.sl 0 11 (Tm.rows ks))], .var [.d (.int .i8 k), .d (.str name), .d (.str arg), .d (.int .i64 num), .d (.int .i8 tk), .d (.sl 0 2 (Ty.rows tks)), .d (.int .i8 uk), .d (.sl 0 2 (Ty.rows uks)), .d (.int .i64 label), .d (.int .i64 place), .d (.sl 0 11 (Tm.rows ks))]], []⟩)
      (fun x => ks.length - x.i) ⟨0, Nat.zero_le _⟩ 2 (fun _ => rfl) (Nat.le_of_ble_eq_true rfl) ⟨⟨rfl, rfl, rfl, trivial⟩, rfl, rfl, ⟨[], rfl⟩, rfl⟩ (fun x => ?_)
    obtain ⟨i, hi⟩ := x
    repeat' first | refine AW.seq ?_ | refine AW.block ?_ | (refine (id : AW _ _ _ (.region 6 _ true) _ _ → _) ?_; refine AW.draw (id := 6) tab_ok mixed [0, 1, 2, 3, 4, 5, 6, 7, 8, 9, 10, 11] (by kernel_rfl) ?_; conv => whnf) | ((first | refine AW.region tab_ok ?_ | refine AW.cond ?_ | refine AW.skip ?_ | refine AW.ret ?_ | refine AW.exit ?_); conv => whnf) | ((first | refine And.intro (@rfl Val _) ?_ | refine And.intro (by decide) ?_ | refine cs (fun _ => ?_) (fun _ => ?_)) <;> conv => whnf)
    · rename_i h1
      simp only [trows_length] at h1 ⊢
      have := of_decide_eq_true h1
      refine ⟨by omega, fun row hrow => ?_⟩
      obtain ⟨⟨kx, namex, argx, numx, tkx, tksx, ukx, uksx, labelx, placex, ksx⟩, ht, rfl⟩ := trows_get ks i row (by simpa using hrow)
      have hlt : i < ks.length := (List.getElem?_eq_some_iff.1 ht).1
      have hm := List.mem_of_getElem? ht
      conv => whnf
      repeat' first | refine AW.seq ?_ | refine AW.block ?_ | (refine (id : AW _ _ _ (.region 6 _ true) _ _ → _) ?_; refine AW.draw (id := 6) tab_ok mixed [0, 1, 2, 3, 4, 5, 6, 7, 8, 9, 10, 11] (by kernel_rfl) ?_; conv => whnf) | ((first | refine AW.region tab_ok ?_ | refine AW.cond ?_ | refine AW.skip ?_ | refine AW.ret ?_ | refine AW.exit ?_); conv => whnf) | ((first | refine And.intro (@rfl Val _) ?_ | refine And.intro (by decide) ?_ | refine cs (fun _ => ?_) (fun _ => ?_)) <;> conv => whnf)
      simp only [trows_length]
      refine ⟨by omega, fun row hrow => ?_⟩
      obtain ⟨y, hu, rfl⟩ := trows_get ks i row (by simpa using hrow)
      rw [ht] at hu
      cases hu
      have hc := ih _ hm (h4 _ hm)
      conv => whnf
      repeat' first | refine AW.seq ?_ | refine AW.block ?_ | (refine (id : AW _ _ _ (.region 6 _ true) _ _ → _) ?_; refine AW.draw (id := 6) tab_ok mixed [0, 1, 2, 3, 4, 5, 6, 7, 8, 9, 10, 11] (by kernel_rfl) ?_; conv => whnf) | ((first | refine AW.region tab_ok ?_ | refine AW.cond ?_ | refine AW.skip ?_ | refine AW.ret ?_ | refine AW.exit ?_); conv => whnf) | (refine (hc).mono ?_; rintro _ _ ⟨rfl, rfl⟩; conv => whnf) | ((first | refine And.intro (@rfl Val _) ?_ | refine And.intro (by decide) ?_ | refine cs (fun _ => ?_) (fun _ => ?_)) <;> conv => whnf)
      rw [wrap64 (x := (i : Int) + 1) (by omega) (by omega)]
      exact ⟨⟨i + 1, hlt⟩, ⟨⟨rfl, rfl, rfl, trivial⟩, rfl, rfl, ⟨[], rfl⟩, rfl⟩, show ks.length - (i + 1) < ks.length - i by omega⟩
    · exact ⟨rfl, rfl⟩
theorem pl_cells0 {l : List DV} (h : RtC 0 l l) : ∀ a ∈ l.map AV.d, PlA a := fun a ha => by
  obtain ⟨x, hx, rfl⟩ := List.mem_map.1 ha
  obtain ⟨i, hi, rfl⟩ := List.getElem_of_mem hx
  exact .d _ (h.get.2 i _ _ (List.getElem?_eq_getElem hi) (List.getElem?_eq_getElem hi))
theorem thl_of : ∀ {l m : List DV}, ThCells l m → ThL (l.map .d) (m.map .d)
  | [], [], h => .nil
  | [], _ :: _, h => by have := h.1; simp at this
  | _ :: _, [], h => by have := h.1; simp at this
  | x :: l, y :: m, h => .cons (.d _ _ (h.2 0 x y rfl rfl)) (thl_of ⟨by simpa using h.1, fun i u v hu hv => h.2 (i + 1) u v (by simpa using hu) (by simpa using hv)⟩)
theorem thl_keep0 {l : List DV} (h : RtC 0 l l) : ThL (l.map .d) (l.map .d) := thl_of ⟨rfl, fun i x y hx hy => by
  rw [hx] at hy; cases hy; exact .keep0 _ (h.get.2 i x x hx hx)⟩
theorem thl_keep2 {l : List DV} (h : RtC 2 l l) : ThL (l.map .d) (l.map .d) := thl_of ⟨rfl, fun i x y hx hy => by
  rw [hx] at hy; cases hy; exact .keep2 _ (h.get.2 i x x hx hx)⟩
theorem tm_rt0 (t : Tm) : RtC 0 t.cells t.cells := by have := tm_rt 0 0 0 t; rwa [tm_R0] at this
theorem likeTm14_call (t : Tm) (h : TmOk t) : ACall Try.prog 13 [t.valR 1 4, t.val] [] (fun o σ => o = .ret (.c (.d (.bool true))) ∧ σ = []) :=
  (likeTmO_call t h).any (.cons (by rw [← tm_V0]; exact tm_rtV 1 4 0 t) (.cons (by rw [← tm_V0]; exact tm_rtV 0 0 0 t) .nil)) (.bool _)
theorem likeTm2_call (t : Tm) (h : TmOk t) : ACall Try.prog 13 [t.valR 2 2, t.val] [] (fun o σ => o = .ret (.c (.d (.bool true))) ∧ σ = []) :=
  (likeTmO_call t h).any (.cons (by rw [← tm_V0]; exact tm_rtV 2 2 0 t) (.cons (by rw [← tm_V0]; exact tm_rtV 0 0 0 t) .nil)) (.bool _)
end Go.Proofs.Ytlboogackecjlaa.E
