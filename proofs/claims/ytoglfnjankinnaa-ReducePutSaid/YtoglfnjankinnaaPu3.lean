/- A value put for a name: copies of types, of terms. No conditions. -/
import Derived.Test.YtoglfnjankinnaaPu2
set_option linter.unusedVariables false
set_option linter.unusedSimpArgs false
namespace Go.Proofs.Ytoglfnjankinnaa.E
open Go

theorem rows_map' : ∀ ks : List Ty, Ty.rows ks = ks.map Ty.cells
  | [] => rfl
  | t :: l => by simp [Ty.rows, rows_map' l]
/-- Rows of types that the machine can hold. -/
inductive TyOk : Ty → Prop where
  | node {k ks} (h1 : ks.length * 32 ≤ 140737488355328) (h2 : ∀ t ∈ ks, TyOk t) : TyOk (.node k ks)
set_option maxRecDepth 10000 in
theorem rkind_call (a : Ty) : TyOk a → ACall Try.prog 132 [a.val] [] (fun o σ => o = .ret a.val ∧ σ = []) := by
  induction a using Ty.ind with
  | _ k ks ih =>
  rintro (⟨hle, ha⟩)
  refine ACall.body tab_ok (ρ := 0) (N := 25) Try.func132 rfl rfl rfl rfl rfl ?_
  repeat' first
    | refine AW.seq ?_
    | refine AW.block ?_
    | (refine AW.region tab_ok ?_; conv => whnf)
    | (refine AW.draw (id := 5) tab_ok mixed [0, 1, 2, 3, 4, 5, 6, 7] (by kernel_rfl) ?_; conv => whnf)
    | (refine AW.cond ?_; conv => whnf)
    | (refine AW.skip ?_; conv => whnf)
    | (refine AW.ret ?_; conv => whnf)
    | (refine AW.exit ?_; conv => whnf)
    | (refine And.intro (@rfl Val _) ?_; conv => whnf)
    | (refine And.intro (by decide) ?_; conv => whnf)
    | (refine cs (fun _ => ?_) (fun _ => ?_) <;> conv => whnf)
  refine AW.ghost 25 2 2 1 (by decide) rfl rfl ?_
  refine AW.loop (ι := UpTo ks) (fun x => ⟨25, [(12, .c (.d (.int .i64 x.i))), (11, .c (.d (.int .i64 (Ty.rows ks).length))), (10, .c (.d (.sl 0 2 (Ty.rows ks)))), (2, .c (.ptr 1 0)), (3, .c (.ptr 2 0))],
      [.var [.d (.int .i8 k), .d (.sl 0 2 (Ty.rows ks))], .var [.d (.int .i8 0), .d .nils], .var [.d (.int .i8 k), .own 3 (Ty.rows (ks.take x.i)).length], .row 25 2 (Ty.rows (ks.take x.i))], []⟩)
    (fun x => ks.length - x.i) ⟨0, Nat.zero_le _⟩ 4 (fun _ => rfl) (Nat.le_of_ble_eq_true rfl) ⟨⟨rfl, rfl, rfl, rfl, rfl, trivial⟩, rfl, rfl, ⟨[], rfl⟩, rfl⟩ (fun x => ?_)
  obtain ⟨i, hi⟩ := x
  repeat' first
    | refine AW.seq ?_
    | refine AW.block ?_
    | (refine AW.region tab_ok ?_; conv => whnf)
    | (refine AW.draw (id := 5) tab_ok mixed [0, 1, 2, 3, 4, 5, 6, 7] (by kernel_rfl) ?_; conv => whnf)
    | (refine AW.cond ?_; conv => whnf)
    | (refine AW.skip ?_; conv => whnf)
    | (refine AW.ret ?_; conv => whnf)
    | (refine AW.exit ?_; conv => whnf)
    | (refine And.intro (@rfl Val _) ?_; conv => whnf)
    | (refine And.intro (by decide) ?_; conv => whnf)
    | (refine cs (fun _ => ?_) (fun _ => ?_) <;> conv => whnf)
  · rename_i h1
    simp only [rows_length] at h1
    have := of_decide_eq_true h1
    refine ⟨by simp only [rows_length]; omega, fun row hrow => ?_⟩
    obtain ⟨x, ht, rfl⟩ := rows_get ks i row (by simpa using hrow)
    have hlt : i < ks.length := (List.getElem?_eq_some_iff.1 ht).1
    have hm := List.mem_of_getElem? ht
    have hc := ih x hm (ha x hm)
    have hmt : ks.take (i + 1) = ks.take i ++ [x] := by
      rw [List.take_add_one, ht]; rfl
    obtain ⟨km, kms⟩ := x
    conv => whnf
    repeat' first
      | refine AW.seq ?_
      | refine AW.block ?_
      | (refine AW.region tab_ok ?_; conv => whnf)
      | (refine AW.draw (id := 5) tab_ok mixed [0, 1, 2, 3, 4, 5, 6, 7] (by kernel_rfl) ?_; conv => whnf)
      | (refine AW.cond ?_; conv => whnf)
      | (refine AW.skip ?_; conv => whnf)
      | (refine AW.ret ?_; conv => whnf)
      | (refine AW.exit ?_; conv => whnf)
      | (refine (hc).mono ?_; rintro _ _ ⟨rfl, rfl⟩; conv => whnf)
      | (refine And.intro (@rfl Val _) ?_; conv => whnf)
      | (refine And.intro (by decide) ?_; conv => whnf)
      | (refine cs (fun _ => ?_) (fun _ => ?_) <;> conv => whnf)
    refine ⟨⟨rfl, ?_, ?_⟩, ?_⟩
    · simp only [rows_length, List.length_take, List.length_cons, List.length_nil]
      omega
    · simp only [rows_length, List.length_take, List.length_cons, List.length_nil]
      omega
    conv => whnf
    repeat' first
      | refine AW.seq ?_
      | refine AW.block ?_
      | (refine AW.region tab_ok ?_; conv => whnf)
      | (refine AW.draw (id := 5) tab_ok mixed [0, 1, 2, 3, 4, 5, 6, 7] (by kernel_rfl) ?_; conv => whnf)
      | (refine AW.cond ?_; conv => whnf)
      | (refine AW.skip ?_; conv => whnf)
      | (refine AW.ret ?_; conv => whnf)
      | (refine AW.exit ?_; conv => whnf)
      | (refine And.intro (@rfl Val _) ?_; conv => whnf)
      | (refine And.intro (by decide) ?_; conv => whnf)
      | (refine cs (fun _ => ?_) (fun _ => ?_) <;> conv => whnf)
    have e : Ty.rows (ks.take i) ++ [[.int .i8 km, .sl 0 2 (Ty.rows kms)]] = Ty.rows (ks.take (i + 1)) := by
      rw [hmt, rows_map' (ks.take i), rows_map' (ks.take i ++ _), List.map_append]; rfl
    have el : (Ty.rows (ks.take i)).length + [[DV.int .i8 km, .sl 0 2 (Ty.rows kms)]].length = (Ty.rows (ks.take (i + 1))).length := by
      rw [← List.length_append, e]
    rw [el, e, wrap64 (x := (i : Int) + 1) (by omega) (by omega)]
    exact ⟨⟨i + 1, hlt⟩, ⟨⟨rfl, rfl, rfl, rfl, rfl, trivial⟩, rfl, rfl, ⟨[_], rfl⟩, rfl⟩, show ks.length - (i + 1) < ks.length - i by omega⟩
  · rename_i h1
    simp only [rows_length] at h1
    have := of_decide_eq_false h1
    obtain rfl : i = ks.length := by omega
    have e : ks.take ks.length = ks := List.take_of_length_le (by omega)
    simp only [e]
    first | refine ⟨trivial, ?_⟩ | refine ⟨rfl, ?_⟩ | skip
    conv => whnf
    first | exact ⟨rfl, rfl⟩ | exact ⟨rfl, trivial⟩ | (simp; rfl)
/-- A term whose types are bounded, in all its parts, those that do not count too. -/
inductive Fine2 : Tm → Prop where
  | node {k name arg num tk tks uk uks label place ks} (h1 : TyOk (.node tk tks)) (h2 : TyOk (.node uk uks)) (h3 : ks.length ≤ 8192) (h4 : ∀ t ∈ ks, Fine2 t) : Fine2 (.node k name arg num tk tks uk uks label place ks)
set_option maxRecDepth 10000 in
theorem copied_call (t : Tm) : Fine2 t → ACall Try.prog 77 [t.val] [] (fun o σ => o = .ret t.val ∧ σ = []) := by
  induction t using Tm.ind with
  | _ k nm arg num tk tks uk uks label place ks ih =>
  rintro (⟨h1, h2, h3, h4⟩)
  have c1 := rkind_call _ h1
  have c2 := rkind_call _ h2
  refine ACall.body tab_ok (ρ := 0) (N := 32) Try.func77 rfl rfl rfl rfl rfl ?_
  repeat' first
    | refine AW.seq ?_
    | refine AW.block ?_
    | (refine AW.region tab_ok ?_; conv => whnf)
    | (refine AW.draw (id := 1) tab_ok mixed [0, 1, 3, 4, 2, 6, 5, 7, 8, 9] (by kernel_rfl) ?_; conv => whnf)
    | (refine AW.draw (id := 7) tab_ok mixed [0, 1, 2, 3, 4, 5, 6, 7] (by kernel_rfl) ?_; conv => whnf)
    | (refine AW.cond ?_; conv => whnf)
    | (refine AW.skip ?_; conv => whnf)
    | (refine AW.ret ?_; conv => whnf)
    | (refine AW.exit ?_; conv => whnf)
    | (refine (c1).mono ?_; rintro _ _ ⟨rfl, rfl⟩; conv => whnf)
    | (refine (c2).mono ?_; rintro _ _ ⟨rfl, rfl⟩; conv => whnf)
    | (refine And.intro (@rfl Val _) ?_; conv => whnf)
    | (refine And.intro (by decide) ?_; conv => whnf)
    | (refine cs (fun _ => ?_) (fun _ => ?_) <;> conv => whnf)
  refine AW.ghost 28 11 0 10 (by decide) rfl rfl ?_
  refine AW.loop (ι := UpN ks.length) (fun x => ⟨32, [(19, .c (.d (.int .i64 x.i))), (18, .c (.d (.int .i64 (Tm.rows ks).length))), (17, .c (.d (.sl 0 11 (Tm.rows ks)))), (1, .c (.ptr 0 0)), (2, .c (.ptr 1 0))],
      [.var [.d (.int .i8 k), .d (.str nm), .d (.str arg), .d (.int .i64 num), .d (.int .i8 tk), .d (.sl 0 2 (Ty.rows tks)), .d (.int .i8 uk), .d (.sl 0 2 (Ty.rows uks)), .d (.int .i64 label), .d (.int .i64 place), .own 2 (Tm.rows (ks.take x.i)).length],
       .var [.d (.int .i8 0), .d (.str ⟨#[]⟩), .d (.str ⟨#[]⟩), .d (.int .i64 0), .d (.int .i8 0), .d .nils, .d (.int .i8 0), .d .nils, .d (.int .i64 0), .d (.int .i64 0), .d .nils],
       .row 28 11 (Tm.rows (ks.take x.i))], []⟩)
    (fun x => ks.length - x.i) ⟨0, Nat.zero_le _⟩ 3 (fun _ => rfl) (Nat.le_of_ble_eq_true rfl) ⟨⟨rfl, rfl, rfl, rfl, rfl, trivial⟩, rfl, rfl, ⟨[], rfl⟩, rfl⟩ (fun x => ?_)
  obtain ⟨i, hi⟩ := x
  repeat' first
    | refine AW.seq ?_
    | refine AW.block ?_
    | (refine AW.region tab_ok ?_; conv => whnf)
    | (refine AW.draw (id := 1) tab_ok mixed [0, 1, 3, 4, 2, 6, 5, 7, 8, 9] (by kernel_rfl) ?_; conv => whnf)
    | (refine AW.draw (id := 7) tab_ok mixed [0, 1, 2, 3, 4, 5, 6, 7] (by kernel_rfl) ?_; conv => whnf)
    | (refine AW.cond ?_; conv => whnf)
    | (refine AW.skip ?_; conv => whnf)
    | (refine AW.ret ?_; conv => whnf)
    | (refine AW.exit ?_; conv => whnf)
    | (refine And.intro (@rfl Val _) ?_; conv => whnf)
    | (refine And.intro (by decide) ?_; conv => whnf)
    | (refine cs (fun _ => ?_) (fun _ => ?_) <;> conv => whnf)
  · rename_i g1
    simp only [trows_length] at g1
    have g1 := of_decide_eq_true g1
    have hlt : i < ks.length := by omega
    refine ⟨by simp only [trows_length]; omega, fun row hrow => ?_⟩
    obtain ⟨x, ht, rfl⟩ := trows_get ks i row (by simpa using hrow)
    have hm := List.mem_of_getElem? ht
    have hc := ih x hm (h4 x hm)
    have hmt : ks.take (i + 1) = ks.take i ++ [x] := by
      rw [List.take_add_one, ht]; rfl
    have e : Tm.rows (ks.take i) ++ [x.cells] = Tm.rows (ks.take (i + 1)) := by
      rw [hmt, trows_map (ks.take i), trows_map (ks.take i ++ _), List.map_append]; rfl
    have el : (Tm.rows (ks.take i)).length + [x.cells].length = (Tm.rows (ks.take (i + 1))).length := by
      rw [← List.length_append, e]
    clear hmt ht hrow hm
    obtain ⟨kx, namex, argx, numx, tkx, tksx, ukx, uksx, labelx, placex, ksx⟩ := x
    conv => whnf
    repeat' first
      | refine AW.seq ?_
      | refine AW.block ?_
      | (refine AW.region tab_ok ?_; conv => whnf)
      | (refine AW.draw (id := 1) tab_ok mixed [0, 1, 3, 4, 2, 6, 5, 7, 8, 9] (by kernel_rfl) ?_; conv => whnf)
      | (refine AW.draw (id := 7) tab_ok mixed [0, 1, 2, 3, 4, 5, 6, 7] (by kernel_rfl) ?_; conv => whnf)
      | (refine AW.cond ?_; conv => whnf)
      | (refine AW.skip ?_; conv => whnf)
      | (refine AW.ret ?_; conv => whnf)
      | (refine AW.exit ?_; conv => whnf)
      | (refine (hc).mono ?_; rintro _ _ ⟨rfl, rfl⟩; conv => whnf)
      | (refine And.intro (@rfl Val _) ?_; conv => whnf)
      | (refine And.intro (by decide) ?_; conv => whnf)
      | (refine cs (fun _ => ?_) (fun _ => ?_) <;> conv => whnf)
    refine ⟨⟨rfl, ?_, ?_⟩, ?_⟩
    · simp only [trows_length, List.length_take, List.length_cons, List.length_nil]
      omega
    · simp only [trows_length, List.length_take, List.length_cons, List.length_nil]
      omega
    conv => whnf
    repeat' first
      | refine AW.seq ?_
      | refine AW.block ?_
      | (refine AW.region tab_ok ?_; conv => whnf)
      | (refine AW.draw (id := 1) tab_ok mixed [0, 1, 3, 4, 2, 6, 5, 7, 8, 9] (by kernel_rfl) ?_; conv => whnf)
      | (refine AW.draw (id := 7) tab_ok mixed [0, 1, 2, 3, 4, 5, 6, 7] (by kernel_rfl) ?_; conv => whnf)
      | (refine AW.cond ?_; conv => whnf)
      | (refine AW.skip ?_; conv => whnf)
      | (refine AW.ret ?_; conv => whnf)
      | (refine AW.exit ?_; conv => whnf)
      | (refine And.intro (@rfl Val _) ?_; conv => whnf)
      | (refine And.intro (by decide) ?_; conv => whnf)
      | (refine cs (fun _ => ?_) (fun _ => ?_) <;> conv => whnf)
    simp only [Tm.cells] at e el
    rw [el, e, wrap64 (x := (i : Int) + 1) (by omega) (by omega)]
    exact ⟨⟨i + 1, hlt⟩, ⟨⟨rfl, rfl, rfl, rfl, rfl, trivial⟩, rfl, rfl, ⟨[_], rfl⟩, rfl⟩, show ks.length - (i + 1) < ks.length - i by omega⟩
  · rename_i g1
    simp only [trows_length] at g1
    have g1 := of_decide_eq_false g1
    obtain rfl : i = ks.length := by omega
    have e : ks.take ks.length = ks := List.take_of_length_le (by omega)
    simp only [e]
    first | refine ⟨trivial, ?_⟩ | refine ⟨rfl, ?_⟩ | skip
    conv => whnf
    first | exact ⟨rfl, rfl⟩ | exact ⟨rfl, trivial⟩ | (simp; rfl)
/-- Rows of terms that the machine can hold. -/
inductive TmOk : Tm → Prop where
  | node {k name arg num tk tks uk uks label place ks} (h1 : TyOk (.node tk tks)) (h2 : TyOk (.node uk uks)) (h3 : ks.length * 152 ≤ 140737488355328) (h4 : ∀ t ∈ ks, TmOk t) : TmOk (.node k name arg num tk tks uk uks label place ks)
theorem fine2_of (t : Tm) : TmOk t → tmright t = true → Fine2 t := by
  induction t using Tm.ind with
  | _ k name arg num tk tks uk uks label place ks ih =>
  rintro (⟨h1, h2, h3, h4⟩) hr
  have hl := tmright_len hr
  have hk := kidsK_le k
  exact .node h1 h2 (by omega) fun x hx => ih x hx (h4 x hx) (tmright_kid hr hx)
end Go.Proofs.Ytoglfnjankinnaa.E
