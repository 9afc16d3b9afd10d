/- A value put for a name: the model; what hides a name, a kid changed, both. No conditions. -/
import Derived.Test.YtoglfnjankinnaaFr6
import Derived.Test.YtoglfnjankinnaaTmd
import Derived.Test.YtoglfnjankinnaaTm11
set_option linter.unusedVariables false
set_option linter.unusedSimpArgs false
namespace Go.Proofs.Ytoglfnjankinnaa.E
open Go

def hidF (k : Int) (nm arg : ByteArray) (i : Int) (name : ByteArray) : Bool :=
  if k = 4 then decide (nm = name) else if k = 5 then decide (nm = name) || decide (arg = name) else if k = 7 then decide (i = 1) && decide (nm = name)
  else if k = 14 then (decide (i = 1) && decide (nm = name)) || (decide (i = 2) && decide (arg = name)) else false
mutual
def tmput (name : ByteArray) (v : Tm) : Tm → Tm
  | .node k nm arg num tk tks uk uks label place ks => if k = 0 then (if nm = name then v else .node k nm arg num tk tks uk uks label place ks) else .node k nm arg num tk tks uk uks label place (tmputs name v k nm arg 0 ks)
def tmputs (name : ByteArray) (v : Tm) (k : Int) (nm arg : ByteArray) : Nat → List Tm → List Tm
  | _, [] => []
  | i, t :: l => (if hidF k nm arg i name then t else tmput name v t) :: tmputs name v k nm arg (i + 1) l
end
theorem tmputs_get (name : ByteArray) (v : Tm) (k : Int) (nm arg : ByteArray) : ∀ (l : List Tm) (s i : Nat), (tmputs name v k nm arg s l)[i]? = (l[i]?).map fun t => if hidF k nm arg ((s + i : Nat) : Int) name then t else tmput name v t
  | [], s, i => by simp [tmputs]
  | t :: l, s, 0 => by simp [tmputs]
  | t :: l, s, i + 1 => by
    have := tmputs_get name v k nm arg l (s + 1) i
    simp only [tmputs, List.getElem?_cons_succ, this, show s + 1 + i = s + (i + 1) by omega]
theorem tmputs_len (name : ByteArray) (v : Tm) (k : Int) (nm arg : ByteArray) : ∀ (l : List Tm) (s : Nat), (tmputs name v k nm arg s l).length = l.length
  | [], s => rfl
  | t :: l, s => by simp [tmputs, tmputs_len name v k nm arg l]
/-- The kids, the first i of which are gone through. -/
def putTo (name : ByteArray) (v : Tm) (k : Int) (nm arg : ByteArray) (ks : List Tm) (i : Nat) : List Tm := (tmputs name v k nm arg 0 ks).take i ++ ks.drop i
theorem putTo_zero (name : ByteArray) (v : Tm) (k : Int) (nm arg : ByteArray) (ks : List Tm) : putTo name v k nm arg ks 0 = ks := by simp [putTo]
theorem putTo_all (name : ByteArray) (v : Tm) (k : Int) (nm arg : ByteArray) (ks : List Tm) : putTo name v k nm arg ks ks.length = tmputs name v k nm arg 0 ks := by
  simp only [putTo, List.drop_length, List.append_nil]
  exact List.take_of_length_le (by rw [tmputs_len]; exact Nat.le_refl _)
theorem putTo_len (name : ByteArray) (v : Tm) (k : Int) (nm arg : ByteArray) (ks : List Tm) (i : Nat) : (putTo name v k nm arg ks i).length = ks.length := by
  simp only [putTo, List.length_append, List.length_take, List.length_drop, tmputs_len]; omega
theorem putTo_get (name : ByteArray) (v : Tm) (k : Int) (nm arg : ByteArray) (ks : List Tm) (i : Nat) (hi : i < ks.length) : (putTo name v k nm arg ks i)[i]? = ks[i]? := by
  simp only [putTo]
  rw [List.getElem?_append_right (by simp [tmputs_len]; omega)]
  simp only [List.length_take, tmputs_len, List.getElem?_drop]
  congr 1; omega
theorem putTo_next (name : ByteArray) (v : Tm) (k : Int) (nm arg : ByteArray) (ks : List Tm) (i : Nat) (t : Tm) (ht : ks[i]? = some t) :
    putTo name v k nm arg ks (i + 1) = (putTo name v k nm arg ks i).set i (if hidF k nm arg i name then t else tmput name v t) := by
  have hi : i < ks.length := (List.getElem?_eq_some_iff.1 ht).1
  refine List.ext_getElem? fun j => ?_
  have hl := tmputs_len name v k nm arg ks 0
  rw [List.getElem?_set, putTo_len]
  simp only [putTo]
  by_cases h1 : i = j
  · subst h1
    rw [if_pos rfl, if_pos hi, List.getElem?_append_left (by simp [hl]; omega), List.getElem?_take, if_pos (by omega), tmputs_get, ht]
    simp
  · rw [if_neg h1]
    by_cases h2 : j < i
    · rw [List.getElem?_append_left (by simp [hl]; omega), List.getElem?_append_left (by simp [hl]; omega), List.getElem?_take, List.getElem?_take, if_pos (by omega), if_pos (by omega)]
    · rw [List.getElem?_append_right (by simp [hl]; omega), List.getElem?_append_right (by simp [hl]; omega)]
      simp only [List.length_take, hl, List.getElem?_drop]
      congr 1; omega
theorem putTo_hid (name : ByteArray) (v : Tm) (k : Int) (nm arg : ByteArray) (ks : List Tm) (i : Nat) (t : Tm) (ht : ks[i]? = some t) (h : (if hidF k nm arg i name then t else tmput name v t) = t) :
    putTo name v k nm arg ks (i + 1) = putTo name v k nm arg ks i := by
  rw [putTo_next _ _ _ _ _ _ _ t ht, h]
  have hi : i < ks.length := (List.getElem?_eq_some_iff.1 ht).1
  have hg := putTo_get name v k nm arg ks i hi
  rw [ht] at hg
  refine List.ext_getElem? fun j => ?_
  rw [List.getElem?_set]
  split
  · rename_i e; subst e; rw [hg, if_pos (by rw [putTo_len]; exact hi)]
  · rfl
def hidCells (name : ByteArray) (v : Tm) : List DV := .str name :: v.cells
set_option maxRecDepth 10000 in
theorem hidden_call (k : Int) (nm arg : ByteArray) (num tk : Int) (tks : List Ty) (uk : Int) (uks : List Ty) (label place : Int) (ks : List Tm) (name : ByteArray) (vc : List DV) (i : Int) :
    ACall Try.prog 174 [.c (.d (.rp 0 (.str name :: vc))), .c (.ptr 0 0), .c (.d (.int .i64 i))] [.var ((Tm.node k nm arg num tk tks uk uks label place ks).cells.map .d)]
      (fun o σ => o = .ret (.c (.d (.bool (hidF k nm arg i name)))) ∧ σ = [.var ((Tm.node k nm arg num tk tks uk uks label place ks).cells.map .d)]) := by
  refine ACall.body tab_ok (ρ := 0) (N := 89) Try.func174 rfl rfl rfl rfl rfl ?_
  repeat' first
    | refine AW.seq ?_
    | refine AW.block ?_
    | (refine AW.region tab_ok ?_; conv => whnf)
    | (refine AW.draw (id := 3) tab_ok mixed [0, 1, 2, 3, 4, 5, 6, 7, 8, 9] (by kernel_rfl) ?_; conv => whnf)
    | (refine AW.draw (id := 5) tab_ok mixed [0, 1, 2, 3, 4, 5, 6, 7, 8, 9, 10, 11, 12, 13, 14, 15, 16, 17, 18, 19, 20] (by kernel_rfl) ?_; conv => whnf)
    | (refine AW.draw (id := 7) tab_ok mixed [0, 1, 2, 3, 4, 5, 6, 7, 8, 9, 10, 11, 12, 13] (by kernel_rfl) ?_; conv => whnf)
    | (refine AW.draw (id := 9) tab_ok mixed [0, 1, 2, 3, 4, 5, 6, 7, 8, 9, 10, 11, 12, 13, 14, 15, 16, 17, 18, 19, 20, 21, 22, 23, 24, 25, 26, 27, 28] (by kernel_rfl) ?_; conv => whnf)
    | (refine AW.cond ?_; conv => whnf)
    | (refine AW.skip ?_; conv => whnf)
    | (refine AW.ret ?_; conv => whnf)
    | (refine AW.exit ?_; conv => whnf)
    | (refine And.intro (@rfl Val _) ?_; conv => whnf)
    | (refine And.intro (by decide) ?_; conv => whnf)
    | (refine cs (fun _ => ?_) (fun _ => ?_) <;> conv => whnf)
  all_goals (refine ⟨outb ?_, rfl⟩; simp_all [hidF])
set_option maxRecDepth 10000 in
theorem hides_call (k : Int) (nm arg : ByteArray) (num tk : Int) (tks : List Ty) (uk : Int) (uks : List Ty) (label place : Int) (ks : List Tm) (name : ByteArray) (i : Int) :
    ACall Try.prog 133 [(Tm.node k nm arg num tk tks uk uks label place ks).val, .c (.d (.int .i64 i)), .c (.d (.str name))] [] (fun o σ => o = .ret (.c (.d (.bool (hidF k nm arg i name)))) ∧ σ = []) := by
  refine ACall.body tab_ok (ρ := 0) (N := 57) Try.func133 rfl rfl rfl rfl rfl ?_
  repeat' first
    | refine AW.seq ?_
    | refine AW.block ?_
    | (refine AW.region tab_ok ?_; conv => whnf)
    | (refine AW.cond ?_; conv => whnf)
    | (refine AW.skip ?_; conv => whnf)
    | (refine AW.ret ?_; conv => whnf)
    | (refine AW.exit ?_; conv => whnf)
    | (refine And.intro (@rfl Val _) ?_; conv => whnf)
    | (refine And.intro (by decide) ?_; conv => whnf)
    | (refine cs (fun _ => ?_) (fun _ => ?_) <;> conv => whnf)
  all_goals (refine ⟨outb ?_, rfl⟩; simp_all [hidF])
structure UpN (n : Nat) where
  i : Nat
  hi : i ≤ n
set_option maxRecDepth 10000 in
theorem withk_call (k : Int) (nm arg : ByteArray) (num tk : Int) (tks : List Ty) (uk : Int) (uks : List Ty) (label place : Int) (ks : List Tm) (j : Nat) (x : Tm) (hl : ks.length ≤ 8192) :
    ACall Try.prog 134 [(Tm.node k nm arg num tk tks uk uks label place ks).val, .c (.d (.int .i64 j)), x.val] [] (fun o σ => o = .ret (Tm.node k nm arg num tk tks uk uks label place (ks.set j x)).val ∧ σ = []) := by
  have hxc : x.cells.length = 11 := by cases x; rfl
  obtain ⟨kx, nx, gx, ux, tkx, tsx, ukx, usx, lx, px, ksx⟩ := x
  refine ACall.body tab_ok (ρ := 0) (N := 38) Try.func134 rfl rfl rfl rfl rfl ?_
  repeat' first
    | refine AW.seq ?_
    | refine AW.block ?_
    | (refine AW.region tab_ok ?_; conv => whnf)
    | (refine AW.cond ?_; conv => whnf)
    | (refine AW.skip ?_; conv => whnf)
    | (refine AW.ret ?_; conv => whnf)
    | (refine AW.exit ?_; conv => whnf)
    | (refine And.intro (@rfl Val _) ?_; conv => whnf)
    | (refine And.intro (by decide) ?_; conv => whnf)
    | (refine cs (fun _ => ?_) (fun _ => ?_) <;> conv => whnf)
  refine ⟨⟨by omega, by omega, by simp only [trows_length]; omega, by simp only [trows_length]; omega⟩, ?_⟩
  conv => whnf
  repeat' first
    | refine AW.seq ?_
    | refine AW.block ?_
    | (refine AW.region tab_ok ?_; conv => whnf)
    | (refine AW.cond ?_; conv => whnf)
    | (refine AW.skip ?_; conv => whnf)
    | (refine AW.ret ?_; conv => whnf)
    | (refine AW.exit ?_; conv => whnf)
    | (refine And.intro (@rfl Val _) ?_; conv => whnf)
    | (refine And.intro (by decide) ?_; conv => whnf)
    | (refine cs (fun _ => ?_) (fun _ => ?_) <;> conv => whnf)
  refine AW.loop (ι := UpN ks.length) (fun x => ⟨38, [(8, .c (.d (.int .i64 x.i))), (7, .c (.own 3 (Tm.rows ((ks.set j (Tm.node kx nx gx ux tkx tsx ukx usx lx px ksx)).take x.i)).length)), (1, .c (.d (.int .i64 j))), (3, .c (.ptr 0 0)), (5, .c (.ptr 1 0)), (6, .c (.ptr 2 0))],
      [.var [.d (.int .i8 k), .d (.str nm), .d (.str arg), .d (.int .i64 num), .d (.int .i8 tk), .d (.sl 0 2 (Ty.rows tks)), .d (.int .i8 uk), .d (.sl 0 2 (Ty.rows uks)), .d (.int .i64 label), .d (.int .i64 place), .d (.sl 0 11 (Tm.rows ks))],
       .var ((Tm.node kx nx gx ux tkx tsx ukx usx lx px ksx).cells.map .d),
       .var [.d (.int .i8 0), .d (.str ⟨#[]⟩), .d (.str ⟨#[]⟩), .d (.int .i64 0), .d (.int .i8 0), .d .nils, .d (.int .i8 0), .d .nils, .d (.int .i64 0), .d (.int .i64 0), .d .nils],
       .row 28 11 (Tm.rows ((ks.set j (Tm.node kx nx gx ux tkx tsx ukx usx lx px ksx)).take x.i))], []⟩)
    (fun x => ks.length - x.i) ⟨0, Nat.zero_le _⟩ 4 (fun _ => rfl) (Nat.le_of_ble_eq_true rfl) ⟨⟨rfl, rfl, rfl, rfl, rfl, rfl, trivial⟩, rfl, rfl, ⟨[], rfl⟩, rfl⟩ (fun x => ?_)
  obtain ⟨i, hi⟩ := x
  repeat' first
    | refine AW.seq ?_
    | refine AW.block ?_
    | (refine AW.region tab_ok ?_; conv => whnf)
    | (refine AW.cond ?_; conv => whnf)
    | (refine AW.skip ?_; conv => whnf)
    | (refine AW.ret ?_; conv => whnf)
    | (refine AW.exit ?_; conv => whnf)
    | (refine And.intro (@rfl Val _) ?_; conv => whnf)
    | (refine And.intro (by decide) ?_; conv => whnf)
    | (refine cs (fun _ => ?_) (fun _ => ?_) <;> conv => whnf)
  · rename_i h1 h2
    simp only [trows_length] at h1
    have h1 := of_decide_eq_true h1
    have h2 : i = j := by have : ((i : Nat) : Int) = (j : Int) := eq_of_beq h2; omega
    have hlt : i < ks.length := by omega
    have hg : (ks.set j (Tm.node kx nx gx ux tkx tsx ukx usx lx px ksx))[i]? = some (Tm.node kx nx gx ux tkx tsx ukx usx lx px ksx) := by rw [List.getElem?_set, if_pos h2.symm, if_pos (by omega)]
    have e : Tm.rows ((ks.set j (Tm.node kx nx gx ux tkx tsx ukx usx lx px ksx)).take i) ++ [(Tm.node kx nx gx ux tkx tsx ukx usx lx px ksx).cells] = Tm.rows ((ks.set j (Tm.node kx nx gx ux tkx tsx ukx usx lx px ksx)).take (i + 1)) := by
      rw [List.take_add_one, hg, trows_map, trows_map, List.map_append]; rfl
    have hlr : (Tm.rows ((ks.set j (Tm.node kx nx gx ux tkx tsx ukx usx lx px ksx)).take i)).length ≤ 8192 := by simp [trows_length]; omega
    have el := congrArg List.length e
    rw [List.length_append] at el
    refine ⟨⟨rfl, ?_, ?_⟩, ?_⟩
    · simp only [List.length_cons, List.length_nil]; omega
    · simp only [List.length_cons, List.length_nil]; omega
    conv => whnf
    repeat' first
      | refine AW.seq ?_
      | refine AW.block ?_
      | (refine AW.region tab_ok ?_; conv => whnf)
      | (refine AW.cond ?_; conv => whnf)
      | (refine AW.skip ?_; conv => whnf)
      | (refine AW.ret ?_; conv => whnf)
      | (refine AW.exit ?_; conv => whnf)
      | (refine And.intro (@rfl Val _) ?_; conv => whnf)
      | (refine And.intro (by decide) ?_; conv => whnf)
      | (refine cs (fun _ => ?_) (fun _ => ?_) <;> conv => whnf)
    simp only [Tm.cells] at e el
    rw [e, el, wrap64 (x := (i : Int) + 1) (by omega) (by omega)]
    exact ⟨⟨i + 1, hlt⟩, ⟨⟨rfl, rfl, rfl, rfl, rfl, rfl, trivial⟩, rfl, rfl, ⟨[], rfl⟩, rfl⟩, show ks.length - (i + 1) < ks.length - i by omega⟩
  · rename_i h1 h2
    simp only [trows_length] at h1
    have h1 := of_decide_eq_true h1
    have h2 : ¬ j = i := fun e => by simp [e] at h2
    have hlt : i < ks.length := by omega
    refine ⟨⟨by simp only; omega, (show ((i : Nat) : Int) < ((Tm.rows ks).length : Nat) by rw [trows_length]; omega)⟩, fun row hrow => ?_⟩
    obtain ⟨y, ht, rfl⟩ := trows_get ks i row (by simpa using hrow)
    have hg : (ks.set j (Tm.node kx nx gx ux tkx tsx ukx usx lx px ksx))[i]? = some y := by rw [List.getElem?_set, if_neg h2, ht]
    have e : Tm.rows ((ks.set j (Tm.node kx nx gx ux tkx tsx ukx usx lx px ksx)).take i) ++ [y.cells] = Tm.rows ((ks.set j (Tm.node kx nx gx ux tkx tsx ukx usx lx px ksx)).take (i + 1)) := by
      rw [List.take_add_one, hg, trows_map, trows_map, List.map_append]; rfl
    have hlr : (Tm.rows ((ks.set j (Tm.node kx nx gx ux tkx tsx ukx usx lx px ksx)).take i)).length ≤ 8192 := by simp [trows_length]; omega
    have el := congrArg List.length e
    rw [List.length_append] at el
    clear ht hrow hg
    obtain ⟨ky, ny, gy, uy, tky, tsy, uky, usy, ly, py, ksy⟩ := y
    conv => whnf
    repeat' first
      | refine AW.seq ?_
      | refine AW.block ?_
      | (refine AW.region tab_ok ?_; conv => whnf)
      | (refine AW.cond ?_; conv => whnf)
      | (refine AW.skip ?_; conv => whnf)
      | (refine AW.ret ?_; conv => whnf)
      | (refine AW.exit ?_; conv => whnf)
      | (refine And.intro (@rfl Val _) ?_; conv => whnf)
      | (refine And.intro (by decide) ?_; conv => whnf)
      | (refine cs (fun _ => ?_) (fun _ => ?_) <;> conv => whnf)
    refine ⟨⟨rfl, ?_, ?_⟩, ?_⟩
    · simp only [List.length_cons, List.length_nil]; omega
    · simp only [List.length_cons, List.length_nil]; omega
    conv => whnf
    repeat' first
      | refine AW.seq ?_
      | refine AW.block ?_
      | (refine AW.region tab_ok ?_; conv => whnf)
      | (refine AW.cond ?_; conv => whnf)
      | (refine AW.skip ?_; conv => whnf)
      | (refine AW.ret ?_; conv => whnf)
      | (refine AW.exit ?_; conv => whnf)
      | (refine And.intro (@rfl Val _) ?_; conv => whnf)
      | (refine And.intro (by decide) ?_; conv => whnf)
      | (refine cs (fun _ => ?_) (fun _ => ?_) <;> conv => whnf)
    simp only [Tm.cells] at e el
    rw [e, el, wrap64 (x := (i : Int) + 1) (by omega) (by omega)]
    exact ⟨⟨i + 1, hlt⟩, ⟨⟨rfl, rfl, rfl, rfl, rfl, rfl, trivial⟩, rfl, rfl, ⟨[], rfl⟩, rfl⟩, show ks.length - (i + 1) < ks.length - i by omega⟩
  · rename_i h1
    simp only [trows_length] at h1
    have h1 := of_decide_eq_false h1
    have e : (ks.set j (Tm.node kx nx gx ux tkx tsx ukx usx lx px ksx)).take i = ks.set j (Tm.node kx nx gx ux tkx tsx ukx usx lx px ksx) := List.take_of_length_le (by simp; omega)
    simp only [e]
    refine ⟨trivial, ?_⟩
    conv => whnf
    exact ⟨rfl, rfl⟩
end Go.Proofs.Ytoglfnjankinnaa.E
