/- proof under tags: whole; rules. No conditions. -/
import Derived.Test.YtlboogackecjlaaGreatGenX10
import Derived.Test.YtlboogackecjlaaGreatGenX11
set_option linter.unusedVariables false
set_option linter.unusedSimpArgs false
namespace Go.Proofs.YtlboogackecjlaaGreat.E
open Go

set_option maxRecDepth 10000 in
theorem whole2_call (a : Ty) : TyOk a → ACall Tryz.prog 36 [a.valR 9] [] (fun o σ => o = .ret (a.valR 2) ∧ σ = []) := by
  induction a using Ty.ind with
  | _ k ks ih =>
  rintro (⟨hle, ha⟩)
  refine ACall.body tab_ok (ρ := 2) (N := 25) Tryz.func36 rfl rfl rfl rfl rfl ?_
  repeat' first | refine AW.seq ?_ | refine AW.block ?_ | (refine (id : AW _ _ _ (.region 5 _ true) _ _ → _) ?_; refine AW.draw (id := 5) tab_ok mixed [0, 1, 2, 3, 4, 5, 6, 7] (by kernel_rfl) ?_; conv => whnf) | ((first | refine AW.region tab_ok ?_ | refine AW.cond ?_ | refine AW.skip ?_ | refine AW.ret ?_ | refine AW.exit ?_); conv => whnf) | ((first | refine And.intro (@rfl Val _) ?_ | refine And.intro (by decide) ?_ | refine cs (fun _ => ?_) (fun _ => ?_)) <;> conv => whnf)
  refine AW.ghost 25 2 2 1 (by decide) rfl rfl ?_
  refine AW.loop (ι := UpTo ks) (fun x => ⟨25, [(12, .c (.d (.int .i64 x.i))), (11, .c (.d (.int .i64 (Ty.rowsR 9 ks).length))), (10, .c (.d (.sl 9 2 (Ty.rowsR 9 ks)))), (2, .c (.ptr 1 0)), (3, .c (.ptr 2 0))],
      [.var [.d (.int .i8 k), .d (.sl 9 2 (Ty.rowsR 9 ks))], .var [.d (.int .i8 0), .d .nils], .var [.d (.int .i8 k), .own 3 (Ty.rowsR 2 (ks.take x.i)).length], .row 25 2 (Ty.rowsR 2 (ks.take x.i))], []⟩)
    (fun x => ks.length - x.i) ⟨0, Nat.zero_le _⟩ 4 (fun _ => rfl) (Nat.le_of_ble_eq_true rfl) ⟨⟨rfl, rfl, rfl, rfl, rfl, trivial⟩, rfl, rfl, ⟨[], rfl⟩, rfl⟩ (fun x => ?_)
  obtain ⟨i, hi⟩ := x
  repeat' first | refine AW.seq ?_ | refine AW.block ?_ | (refine (id : AW _ _ _ (.region 5 _ true) _ _ → _) ?_; refine AW.draw (id := 5) tab_ok mixed [0, 1, 2, 3, 4, 5, 6, 7] (by kernel_rfl) ?_; conv => whnf) | ((first | refine AW.region tab_ok ?_ | refine AW.cond ?_ | refine AW.skip ?_ | refine AW.ret ?_ | refine AW.exit ?_); conv => whnf) | ((first | refine And.intro (@rfl Val _) ?_ | refine And.intro (by decide) ?_ | refine cs (fun _ => ?_) (fun _ => ?_)) <;> conv => whnf)
  · rename_i h1
    simp only [tyrowsR_len] at h1
    have := of_decide_eq_true h1
    refine ⟨by simp only [tyrowsR_len]; omega, fun row hrow => ?_⟩
    obtain ⟨x, ht, rfl⟩ := tyrowsR_get 9 ks i row (by simpa using hrow)
    have hlt : i < ks.length := (List.getElem?_eq_some_iff.1 ht).1
    have hm := List.mem_of_getElem? ht
    have hc := ih x hm (ha x hm)
    have hmt : ks.take (i + 1) = ks.take i ++ [x] := by
      rw [List.take_add_one, ht]; rfl
    obtain ⟨km, kms⟩ := x
    conv => whnf
    repeat' first | refine AW.seq ?_ | refine AW.block ?_ | (refine (id : AW _ _ _ (.region 5 _ true) _ _ → _) ?_; refine AW.draw (id := 5) tab_ok mixed [0, 1, 2, 3, 4, 5, 6, 7] (by kernel_rfl) ?_; conv => whnf) | ((first | refine AW.region tab_ok ?_ | refine AW.cond ?_ | refine AW.skip ?_ | refine AW.ret ?_ | refine AW.exit ?_); conv => whnf) | (refine (hc).mono ?_; rintro _ _ ⟨rfl, rfl⟩; conv => whnf) | ((first | refine And.intro (@rfl Val _) ?_ | refine And.intro (by decide) ?_ | refine cs (fun _ => ?_) (fun _ => ?_)) <;> conv => whnf)
    refine ⟨⟨rfl, ?_, ?_⟩, ?_⟩
    · simp only [tyrowsR_len, List.length_take, List.length_cons, List.length_nil]
      omega
    · simp only [tyrowsR_len, List.length_take, List.length_cons, List.length_nil]
      omega
    conv => whnf
    repeat' first | refine AW.seq ?_ | refine AW.block ?_ | (refine (id : AW _ _ _ (.region 5 _ true) _ _ → _) ?_; refine AW.draw (id := 5) tab_ok mixed [0, 1, 2, 3, 4, 5, 6, 7] (by kernel_rfl) ?_; conv => whnf) | ((first | refine AW.region tab_ok ?_ | refine AW.cond ?_ | refine AW.skip ?_ | refine AW.ret ?_ | refine AW.exit ?_); conv => whnf) | ((first | refine And.intro (@rfl Val _) ?_ | refine And.intro (by decide) ?_ | refine cs (fun _ => ?_) (fun _ => ?_)) <;> conv => whnf)
    have e : Ty.rowsR 2 (ks.take i) ++ [[.int .i8 km, .sl 2 2 (Ty.rowsR 2 kms)]] = Ty.rowsR 2 (ks.take (i + 1)) := by
      rw [hmt, tyrowsR_app]; rfl
    have el : (Ty.rowsR 2 (ks.take i)).length + [[DV.int .i8 km, .sl 2 2 (Ty.rowsR 2 kms)]].length = (Ty.rowsR 2 (ks.take (i + 1))).length := by
      rw [← List.length_append, e]
    rw [el, e, wrap64 (x := (i : Int) + 1) (by omega) (by omega)]
    exact ⟨⟨i + 1, hlt⟩, ⟨⟨rfl, rfl, rfl, rfl, rfl, trivial⟩, rfl, rfl, ⟨[_], rfl⟩, rfl⟩, show ks.length - (i + 1) < ks.length - i by omega⟩
  · rename_i h1
    simp only [tyrowsR_len] at h1
    have := of_decide_eq_false h1
    obtain rfl : i = ks.length := by omega
    have e : ks.take ks.length = ks := List.take_of_length_le (by omega)
    simp only [e]
    first | refine ⟨trivial, ?_⟩ | refine ⟨rfl, ?_⟩ | skip
    conv => whnf
    first | exact ⟨rfl, rfl⟩ | exact ⟨rfl, trivial⟩ | (simp; rfl)


def Bd.cellsR (r : Nat) (b : Bd) : List DV := .str b.name :: b.a.cellsR r
def bdsR (r : Nat) (l : List Bd) : List (List DV) := l.map (Bd.cellsR r)
theorem bd_R0 (b : Bd) : b.cellsR 0 = b.cells := by rw [Bd.cellsR, ty_R0]; rfl
theorem bds_R0 (l : List Bd) : bdsR 0 l = bds l := by simp [bdsR, bds, bd_R0]
theorem bds_rt (r c : Nat) : (l : List Bd) → RtR c (bdsR r l) (bdsR c l)
  | [] => .nil
  | b :: l => .cons (.cons (.str _) (ty_rt r c b.a)) (bds_rt r c l)
mutual
def Pf.cellsR (r : Nat) : Pf → List DV
  | .node ru a qs => .str ru :: (a.cellsR r ++ [.sl r 4 (Pf.rowsR r qs)])
def Pf.rowsR (r : Nat) : List Pf → List (List DV)
  | [] => []
  | p :: l => p.cellsR r :: Pf.rowsR r l
end
def Pf.valR (r : Nat) (p : Pf) : Val := .agg ((p.cellsR r).map .d)
theorem prowsR_len (r : Nat) : ∀ l : List Pf, (Pf.rowsR r l).length = l.length
  | [] => rfl
  | p :: l => by simp [Pf.rowsR, prowsR_len r l]
theorem prowsR_map (r : Nat) : ∀ l : List Pf, Pf.rowsR r l = l.map (Pf.cellsR r)
  | [] => rfl
  | p :: l => by rw [Pf.rowsR, prowsR_map r l]; rfl
theorem prowsR_app (r : Nat) (l : List Pf) (p : Pf) : Pf.rowsR r (l ++ [p]) = Pf.rowsR r l ++ [p.cellsR r] := by rw [prowsR_map, prowsR_map, List.map_append]; rfl
mutual
theorem pf_R0 : (p : Pf) → p.cellsR 0 = p.cells
  | .node ru a qs => by rw [Pf.cellsR, ty_R0, pfs_R0 qs]; rfl
theorem pfs_R0 : (l : List Pf) → Pf.rowsR 0 l = Pf.rows l
  | [] => rfl
  | p :: l => by rw [Pf.rowsR, Pf.rows, pf_R0 p, pfs_R0 l]
end
mutual
theorem pf_rt (r c : Nat) : (p : Pf) → RtC c (p.cellsR r) (p.cellsR c)
  | .node ru a qs => by rw [Pf.cellsR, Pf.cellsR]; exact .cons (.str _) ((ty_rt r c a).append (.cons (pfs_rt r c qs).sl .nil))
theorem pfs_rt (r c : Nat) : (l : List Pf) → RtR c (Pf.rowsR r l) (Pf.rowsR c l)
  | [] => by rw [Pf.rowsR, Pf.rowsR]; exact .nil
  | p :: l => by rw [Pf.rowsR, Pf.rowsR]; exact .cons (pf_rt r c p) (pfs_rt r c l)
end
theorem pf_rtV (r c : Nat) (p : Pf) : RtV c (p.valR r) (p.valR c) := (pf_rt r c p).agg
theorem pf_V0 (p : Pf) : p.valR 0 = p.val := by rw [Pf.valR, pf_R0]; rfl
theorem rt_tyb (a : Ty) (b : Bool) : RtV 9 (.tup [a.val, .c (.d (.bool b))]) (.tup [a.valR 9, .c (.d (.bool b))]) := by
  rw [← ty_V0]; exact (RtVL.cons (ty_rtV 0 9 a) (.cons (.bool b) .nil)).tup
/-- A rule, of a term and types under any tags. -/
theorem rule_any {f : FuncId} {t : Tm} {K : List Ty} {extra : List Val} {y : Ty} {b : Bool} (hx : RtVs 0 extra extra)
    (c : ACall Tryz.prog f (.c (.d (.rp 0 t.cells)) :: .c (.d (.sl 0 2 (Ty.rows K))) :: extra) [] (fun o σ => o = .ret (.tup [y.val, .c (.d (.bool b))]) ∧ σ = [])) :
    ACall Tryz.prog f (.c (.d (.rp 9 (t.cellsR 9 9))) :: .c (.d (.sl 2 2 (Ty.rowsR 2 K))) :: extra) [] (fun o σ => o = .ret (.tup [y.valR 9, .c (.d (.bool b))]) ∧ σ = []) :=
  c.any (.cons (by rw [← tm_R0]; exact .c _ _ (tm_rt 9 9 0 t).rp) (.cons (by rw [← tys_R0]; exact .c _ _ (tys_rt 2 0 K).sl) hx)) (rt_tyb y b)
theorem find_any (l : List Bd) (s : ByteArray) (hl : l.length ≤ 100000) : ACall Tryz.prog 35 [.c (.d (.sl 9 3 (bdsR 9 l))), .c (.d (.str s))] [] (fun o σ => o = .ret (.tup [((findB l s).getD unk).valR 9, .c (.d (.bool (findB l s).isSome))]) ∧ σ = []) :=
  (pfind_call l s hl).any (.cons (by rw [← bds_R0]; exact .c _ _ (bds_rt 9 0 l).sl) (.cons (.str s) .nil)) (rt_tyb _ _)
theorem inner_any (k : Int) (hk : 0 ≤ k ∧ k ≤ 16) (name arg : ByteArray) (num tk : Int) (tks : List Ty) (uk : Int) (uks : List Ty) (label place : Int) (ks : List Tm) (l : List Bd) (hl : l.length ≤ 100000) (i : Nat) (a : Ty) (r : Nat) :
    ACall Tryz.prog 34 [.c (.d (.rp 9 ((Tm.node k name arg num tk tks uk uks label place ks).cellsR 9 9))), .c (.d (.sl 9 3 (bdsR 9 l))), .c (.d (.int .i64 i)), a.valR r] [] (fun o σ => o = .ret (.c (.d (.sl 9 3 (bdsR 9 (innerM k name arg (.node tk tks) (.node uk uks) l i a))))) ∧ σ = []) :=
  (inner_call k hk name arg num tk tks uk uks label place ks l hl i a).any (.cons (by rw [← tm_R0]; exact .c _ _ (tm_rt 9 9 0 _).rp) (.cons (by rw [← bds_R0]; exact .c _ _ (bds_rt 9 0 l).sl) (.cons (.int _ _) (.cons (by rw [← ty_V0]; exact ty_rtV r 0 a) .nil)))) (by rw [← bds_R0]; exact .c _ _ (bds_rt 0 9 _).sl)
end Go.Proofs.YtlboogackecjlaaGreat.E
