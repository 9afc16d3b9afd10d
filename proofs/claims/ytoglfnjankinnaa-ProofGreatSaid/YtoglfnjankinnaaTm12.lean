/- Walks: kind, Whole of a thing and itself; whole. No conditions. -/
import Derived.Test.YtoglfnjankinnaaTm10
import Derived.Test.YtoglfnjankinnaaTy9
import Derived.Test.YtoglfnjankinnaaEngX3
set_option linter.unusedVariables false
set_option linter.unusedSimpArgs false
namespace Go.Proofs.Ytoglfnjankinnaa.E
open Go

theorem nodes_kid {k : Int} {ks : List Ty} (h : nodes (.node k ks) ≤ 8192) {t : Ty} (ht : t ∈ ks) : nodes t ≤ 8192 := by
  have := nodes_mem ks t ht
  simp only [nodes] at h
  omega
theorem nodes_len {k : Int} {ks : List Ty} (h : nodes (.node k ks) ≤ 8192) : ks.length ≤ 8192 := by
  have := nodesL_len ks
  simp only [nodes] at h
  omega
set_option maxRecDepth 10000 in
theorem kind3_call (a : Ty) : nodes a ≤ 8192 → ACall Try.prog 74 [a.val, a.val] [] (fun o σ => o = .ret (.c (.d (.bool true))) ∧ σ = []) := by
  induction a using Ty.ind with
  | _ k ks ih =>
  intro ha
  have hle := nodes_len ha
  refine ACall.body tab_ok (ρ := 0) (N := 39) Try.func74 rfl rfl rfl rfl rfl ?_
  repeat' first
    | refine AW.seq ?_
    | refine AW.block ?_
    | (refine AW.region tab_ok ?_; conv => whnf)
    | (refine AW.draw (id := 6) tab_ok mixed [0, 1, 2, 3, 4, 5, 6, 7, 8, 9, 10, 11] (by kernel_rfl) ?_; conv => whnf)
    | (refine AW.cond ?_; conv => whnf)
    | (refine AW.skip ?_; conv => whnf)
    | (refine AW.ret ?_; conv => whnf)
    | (refine AW.exit ?_; conv => whnf)
    | (refine And.intro (@rfl Val _) ?_; conv => whnf)
    | (refine And.intro (by decide) ?_; conv => whnf)
    | (refine cs (fun _ => ?_) (fun _ => ?_) <;> conv => whnf)
  · rename_i h; simp at h
  · rename_i h0 h; simp at h
  · rename_i h0 h
    refine AW.loop (ι := UpTo ks) (fun x => ⟨39, [(23, .c (.d (.int .i64 x.i))), (22, .c (.d (.int .i64 (Ty.rows ks).length))), (2, .c (.ptr 0 0)), (3, .c (.ptr 1 0))], [.var [.d (.int .i8 k), .d (.sl 0 2 (Ty.rows ks))], .var [.d (.int .i8 k), .d (.sl 0 2 (Ty.rows ks))]], []⟩)
      (fun x => ks.length - x.i) ⟨0, Nat.zero_le _⟩ 2 (fun _ => rfl) (Nat.le_of_ble_eq_true rfl) ⟨⟨rfl, rfl, rfl, rfl, trivial⟩, rfl, rfl, ⟨[], rfl⟩, rfl⟩ (fun x => ?_)
    obtain ⟨i, hi⟩ := x
    repeat' first
      | refine AW.seq ?_
      | refine AW.block ?_
      | (refine AW.region tab_ok ?_; conv => whnf)
      | (refine AW.draw (id := 6) tab_ok mixed [0, 1, 2, 3, 4, 5, 6, 7, 8, 9, 10, 11] (by kernel_rfl) ?_; conv => whnf)
      | (refine AW.cond ?_; conv => whnf)
      | (refine AW.skip ?_; conv => whnf)
      | (refine AW.ret ?_; conv => whnf)
      | (refine AW.exit ?_; conv => whnf)
      | (refine And.intro (@rfl Val _) ?_; conv => whnf)
      | (refine And.intro (by decide) ?_; conv => whnf)
      | (refine cs (fun _ => ?_) (fun _ => ?_) <;> conv => whnf)
    · rename_i h1
      simp only [rows_length] at h1 ⊢
      have := of_decide_eq_true h1
      refine ⟨by omega, fun row hrow => ?_⟩
      obtain ⟨⟨kx, kxs⟩, ht, rfl⟩ := rows_get ks i row (by simpa using hrow)
      have hlt : i < ks.length := (List.getElem?_eq_some_iff.1 ht).1
      have hm := List.mem_of_getElem? ht
      conv => whnf
      repeat' first
        | refine AW.seq ?_
        | refine AW.block ?_
        | (refine AW.region tab_ok ?_; conv => whnf)
        | (refine AW.draw (id := 6) tab_ok mixed [0, 1, 2, 3, 4, 5, 6, 7, 8, 9, 10, 11] (by kernel_rfl) ?_; conv => whnf)
        | (refine AW.cond ?_; conv => whnf)
        | (refine AW.skip ?_; conv => whnf)
        | (refine AW.ret ?_; conv => whnf)
        | (refine AW.exit ?_; conv => whnf)
        | (refine And.intro (@rfl Val _) ?_; conv => whnf)
        | (refine And.intro (by decide) ?_; conv => whnf)
        | (refine cs (fun _ => ?_) (fun _ => ?_) <;> conv => whnf)
      simp only [rows_length]
      refine ⟨by omega, fun row hrow => ?_⟩
      obtain ⟨y, hu, rfl⟩ := rows_get ks i row (by simpa using hrow)
      rw [ht] at hu
      cases hu
      conv => whnf
      repeat' first
        | refine AW.seq ?_
        | refine AW.block ?_
        | (refine AW.region tab_ok ?_; conv => whnf)
        | (refine AW.draw (id := 6) tab_ok mixed [0, 1, 2, 3, 4, 5, 6, 7, 8, 9, 10, 11] (by kernel_rfl) ?_; conv => whnf)
        | (refine AW.cond ?_; conv => whnf)
        | (refine AW.skip ?_; conv => whnf)
        | (refine AW.ret ?_; conv => whnf)
        | (refine AW.exit ?_; conv => whnf)
        | (refine (ih _ hm (nodes_kid ha hm)).mono ?_; rintro _ _ ⟨rfl, rfl⟩; conv => whnf)
        | (refine And.intro (@rfl Val _) ?_; conv => whnf)
        | (refine And.intro (by decide) ?_; conv => whnf)
        | (refine cs (fun _ => ?_) (fun _ => ?_) <;> conv => whnf)
      rw [wrap64 (x := (i : Int) + 1) (by omega) (by omega)]
      exact ⟨⟨i + 1, hlt⟩, ⟨⟨rfl, rfl, rfl, rfl, trivial⟩, rfl, rfl, ⟨[], rfl⟩, rfl⟩, show ks.length - (i + 1) < ks.length - i by omega⟩
    · exact ⟨rfl, rfl⟩
/-- A term that is not too great, in all its parts. -/
inductive Fine : Tm → Prop where
  | node {k name arg num tk tks uk uks label place ks} (h1 : nodes (.node tk tks) ≤ 8192) (h2 : nodes (.node uk uks) ≤ 8192) (h3 : ks.length ≤ 8192) (h4 : ∀ t ∈ ks, Fine t) : Fine (.node k name arg num tk tks uk uks label place ks)
set_option maxRecDepth 10000 in
theorem Whole_call (a : Tm) : Fine a → ACall Try.prog 35 [a.val, a.val] [] (fun o σ => o = .ret (.c (.d (.bool true))) ∧ σ = []) := by
  induction a using Tm.ind with
  | _ k name arg num tk tks uk uks label place ks ih =>
  rintro (⟨h1, h2, h3, h4⟩)
  have c1 := kind3_call _ h1
  have c2 := kind3_call _ h2
  refine ACall.body tab_ok (ρ := 0) (N := 90) Try.func35 rfl rfl rfl rfl rfl ?_
  repeat' first
    | refine AW.seq ?_
    | refine AW.block ?_
    | (refine AW.region tab_ok ?_; conv => whnf)
    | (refine AW.draw (id := 6) tab_ok mixed [0, 1, 2, 3, 4, 5, 6, 7, 8, 9, 10, 11] (by kernel_rfl) ?_; conv => whnf)
    | (refine AW.cond ?_; conv => whnf)
    | (refine AW.skip ?_; conv => whnf)
    | (refine AW.ret ?_; conv => whnf)
    | (refine AW.exit ?_; conv => whnf)
    | (refine (c1).mono ?_; rintro _ _ ⟨rfl, rfl⟩; conv => whnf)
    | (refine (c2).mono ?_; rintro _ _ ⟨rfl, rfl⟩; conv => whnf)
    | (refine And.intro (@rfl Val _) ?_; conv => whnf)
    | (refine And.intro (by decide) ?_; conv => whnf)
    | (refine cs (fun _ => ?_) (fun _ => ?_) <;> conv => whnf)
  all_goals first | (rename_i h; simp at h; done) | skip
  · refine AW.loop (ι := UpToT ks) (fun x => ⟨90, [(74, .c (.d (.int .i64 x.i))), (73, .c (.d (.int .i64 (Tm.rows ks).length))), (2, .c (.ptr 0 0)), (3, .c (.ptr 1 0))], [.var [.d (.int .i8 k), .d (.str name), .d (.str arg), .d (.int .i64 num), .d (.int .i8 tk), .d (.sl 0 2 (Ty.rows tks)), .d (.int .i8 uk), .d (.sl 0 2 (Ty.rows uks)), .d (.int .i64 label), .d (.int .i64 place), .d (.sl 0 11 (Tm.rows ks))], .var [.d (.int .i8 k), .d (.str name), .d (.str arg), .d (.int .i64 num), .d (.int .i8 tk), .d (.sl 0 2 (Ty.rows tks)), .d (.int .i8 uk), .d (.sl 0 2 (Ty.rows uks)), .d (.int .i64 label), .d (.int .i64 place), .d (.sl 0 11 (Tm.rows ks))]], []⟩)
      (fun x => ks.length - x.i) ⟨0, Nat.zero_le _⟩ 2 (fun _ => rfl) (Nat.le_of_ble_eq_true rfl) ⟨⟨rfl, rfl, rfl, rfl, trivial⟩, rfl, rfl, ⟨[], rfl⟩, rfl⟩ (fun x => ?_)
    obtain ⟨i, hi⟩ := x
    repeat' first
      | refine AW.seq ?_
      | refine AW.block ?_
      | (refine AW.region tab_ok ?_; conv => whnf)
      | (refine AW.draw (id := 6) tab_ok mixed [0, 1, 2, 3, 4, 5, 6, 7, 8, 9, 10, 11] (by kernel_rfl) ?_; conv => whnf)
      | (refine AW.cond ?_; conv => whnf)
      | (refine AW.skip ?_; conv => whnf)
      | (refine AW.ret ?_; conv => whnf)
      | (refine AW.exit ?_; conv => whnf)
      | (refine And.intro (@rfl Val _) ?_; conv => whnf)
      | (refine And.intro (by decide) ?_; conv => whnf)
      | (refine cs (fun _ => ?_) (fun _ => ?_) <;> conv => whnf)
    · rename_i h1
      simp only [trows_length] at h1 ⊢
      have := of_decide_eq_true h1
      refine ⟨by omega, fun row hrow => ?_⟩
      obtain ⟨⟨kx, namex, argx, numx, tkx, tksx, ukx, uksx, labelx, placex, ksx⟩, ht, rfl⟩ := trows_get ks i row (by simpa using hrow)
      have hlt : i < ks.length := (List.getElem?_eq_some_iff.1 ht).1
      have hm := List.mem_of_getElem? ht
      conv => whnf
      repeat' first
        | refine AW.seq ?_
        | refine AW.block ?_
        | (refine AW.region tab_ok ?_; conv => whnf)
        | (refine AW.draw (id := 6) tab_ok mixed [0, 1, 2, 3, 4, 5, 6, 7, 8, 9, 10, 11] (by kernel_rfl) ?_; conv => whnf)
        | (refine AW.cond ?_; conv => whnf)
        | (refine AW.skip ?_; conv => whnf)
        | (refine AW.ret ?_; conv => whnf)
        | (refine AW.exit ?_; conv => whnf)
        | (refine And.intro (@rfl Val _) ?_; conv => whnf)
        | (refine And.intro (by decide) ?_; conv => whnf)
        | (refine cs (fun _ => ?_) (fun _ => ?_) <;> conv => whnf)
      simp only [trows_length]
      refine ⟨by omega, fun row hrow => ?_⟩
      obtain ⟨y, hu, rfl⟩ := trows_get ks i row (by simpa using hrow)
      rw [ht] at hu
      cases hu
      have hc := ih _ hm (h4 _ hm)
      conv => whnf
      repeat' first
        | refine AW.seq ?_
        | refine AW.block ?_
        | (refine AW.region tab_ok ?_; conv => whnf)
        | (refine AW.draw (id := 6) tab_ok mixed [0, 1, 2, 3, 4, 5, 6, 7, 8, 9, 10, 11] (by kernel_rfl) ?_; conv => whnf)
        | (refine AW.cond ?_; conv => whnf)
        | (refine AW.skip ?_; conv => whnf)
        | (refine AW.ret ?_; conv => whnf)
        | (refine AW.exit ?_; conv => whnf)
        | (refine (hc).mono ?_; rintro _ _ ⟨rfl, rfl⟩; conv => whnf)
        | (refine And.intro (@rfl Val _) ?_; conv => whnf)
        | (refine And.intro (by decide) ?_; conv => whnf)
        | (refine cs (fun _ => ?_) (fun _ => ?_) <;> conv => whnf)
      rw [wrap64 (x := (i : Int) + 1) (by omega) (by omega)]
      exact ⟨⟨i + 1, hlt⟩, ⟨⟨rfl, rfl, rfl, rfl, trivial⟩, rfl, rfl, ⟨[], rfl⟩, rfl⟩, show ks.length - (i + 1) < ks.length - i by omega⟩
    · exact ⟨rfl, rfl⟩

/-! ### whole -/
set_option maxRecDepth 10000 in
theorem whole_call (a : Ty) : nodes a ≤ 8192 → ACall Try.prog 130 [.c (.d (.rp 0 a.cells))] [] (fun o σ => o = .ret a.val ∧ σ = []) := by
  induction a using Ty.ind with
  | _ k ks ih =>
  intro ha
  have hle := nodes_len ha
  refine ACall.body tab_ok (ρ := 0) (N := 32) Try.func130 rfl rfl rfl rfl rfl ?_
  repeat' first
    | refine AW.seq ?_
    | refine AW.block ?_
    | (refine AW.region tab_ok ?_; conv => whnf)
    | (refine AW.draw (id := 5) tab_ok mixed [0, 1, 2, 3, 4, 5, 6, 7, 8, 9, 10, 11, 12] (by kernel_rfl) ?_; conv => whnf)
    | (refine AW.cond ?_; conv => whnf)
    | (refine AW.skip ?_; conv => whnf)
    | (refine AW.ret ?_; conv => whnf)
    | (refine AW.exit ?_; conv => whnf)
    | (refine And.intro (@rfl Val _) ?_; conv => whnf)
    | (refine And.intro (by decide) ?_; conv => whnf)
    | (refine cs (fun _ => ?_) (fun _ => ?_) <;> conv => whnf)
  refine AW.ghost 25 2 1 1 (by decide) rfl rfl ?_
  refine AW.loop (ι := UpTo ks) (fun x => ⟨32, [(15, .c (.d (.int .i64 x.i))), (14, .c (.d (.int .i64 (Ty.rows ks).length))), (0, .c (.d (.rp 0 (Ty.node k ks).cells))), (2, .c (.ptr 0 0)), (3, .c (.ptr 1 0))],
      [.var [.d (.int .i8 0), .d .nils], .var [.d (.int .i8 k), .own 2 (Ty.rows (ks.take x.i)).length], .row 25 2 (Ty.rows (ks.take x.i))], []⟩)
    (fun x => ks.length - x.i) ⟨0, Nat.zero_le _⟩ 3 (fun _ => rfl) (Nat.le_of_ble_eq_true rfl) ⟨⟨rfl, rfl, rfl, rfl, rfl, trivial⟩, rfl, rfl, ⟨[], rfl⟩, rfl⟩ (fun x => ?_)
  obtain ⟨i, hi⟩ := x
  repeat' first
    | refine AW.seq ?_
    | refine AW.block ?_
    | (refine AW.region tab_ok ?_; conv => whnf)
    | (refine AW.draw (id := 5) tab_ok mixed [0, 1, 2, 3, 4, 5, 6, 7, 8, 9, 10, 11, 12] (by kernel_rfl) ?_; conv => whnf)
    | (refine AW.cond ?_; conv => whnf)
    | (refine AW.skip ?_; conv => whnf)
    | (refine AW.ret ?_; conv => whnf)
    | (refine AW.exit ?_; conv => whnf)
    | (refine And.intro (@rfl Val _) ?_; conv => whnf)
    | (refine And.intro (by decide) ?_; conv => whnf)
    | (refine cs (fun _ => ?_) (fun _ => ?_) <;> conv => whnf)
  · rename_i h1
    simp only [rows_length] at h1 ⊢
    have := of_decide_eq_true h1
    refine ⟨by omega, fun row hrow => ?_⟩
    obtain ⟨x, ht, rfl⟩ := rows_get ks i row (by simpa using hrow)
    have hlt : i < ks.length := (List.getElem?_eq_some_iff.1 ht).1
    have hm := List.mem_of_getElem? ht
    conv => whnf
    have hc := ih x hm (nodes_kid ha hm)
    have hmt : ks.take (i + 1) = ks.take i ++ [x] := by
      rw [List.take_add_one, ht]; rfl
    obtain ⟨km, kms⟩ := x
    repeat' first
      | refine AW.seq ?_
      | refine AW.block ?_
      | (refine AW.region tab_ok ?_; conv => whnf)
      | (refine AW.draw (id := 5) tab_ok mixed [0, 1, 2, 3, 4, 5, 6, 7, 8, 9, 10, 11, 12] (by kernel_rfl) ?_; conv => whnf)
      | (refine AW.cond ?_; conv => whnf)
      | (refine AW.skip ?_; conv => whnf)
      | (refine AW.ret ?_; conv => whnf)
      | (refine AW.exit ?_; conv => whnf)
      | (refine (hc).mono ?_; rintro _ _ ⟨rfl, rfl⟩; conv => whnf)
      | (refine And.intro (@rfl Val _) ?_; conv => whnf)
      | (refine And.intro (by decide) ?_; conv => whnf)
      | (refine cs (fun _ => ?_) (fun _ => ?_) <;> conv => whnf)
    refine ⟨⟨(rows_length _).symm, ?_, ?_⟩, ?_⟩
    · simp only [rows_length, List.length_take, List.length_cons, List.length_nil]
      omega
    · simp only [rows_length, List.length_take, List.length_cons, List.length_nil]
      omega
    conv => whnf
    repeat' first
      | refine AW.seq ?_
      | refine AW.block ?_
      | (refine AW.region tab_ok ?_; conv => whnf)
      | (refine AW.draw (id := 5) tab_ok mixed [0, 1, 2, 3, 4, 5, 6, 7, 8, 9, 10, 11, 12] (by kernel_rfl) ?_; conv => whnf)
      | (refine AW.cond ?_; conv => whnf)
      | (refine AW.skip ?_; conv => whnf)
      | (refine AW.ret ?_; conv => whnf)
      | (refine AW.exit ?_; conv => whnf)
      | (refine And.intro (@rfl Val _) ?_; conv => whnf)
      | (refine And.intro (by decide) ?_; conv => whnf)
      | (refine cs (fun _ => ?_) (fun _ => ?_) <;> conv => whnf)
    have e : Ty.rows (ks.take i) ++ [[.int .i8 km, .sl 0 2 (Ty.rows kms)]] = Ty.rows (ks.take (i + 1)) := by
      rw [hmt, rows_map8 (ks.take i), rows_map8 (ks.take i ++ _), List.map_append]; rfl
    have el : (Ty.rows (ks.take i)).length + [[DV.int .i8 km, .sl 0 2 (Ty.rows kms)]].length = (ks.take (i + 1)).length := by
      rw [← List.length_append, e, rows_length]
    rw [el, e, wrap64 (x := (i : Int) + 1) (by omega) (by omega)]
    exact ⟨⟨i + 1, hlt⟩, ⟨⟨rfl, rfl, rfl, rfl, rfl, trivial⟩, rfl, rfl, ⟨[], rfl⟩, rfl⟩, show ks.length - (i + 1) < ks.length - i by omega⟩
  · rename_i h1
    simp only [rows_length] at h1
    have := of_decide_eq_false h1
    obtain rfl : i = ks.length := by omega
    have e : ks.take ks.length = ks := List.take_of_length_le (by omega)
    simp only [e]
    first | refine ⟨trivial, ?_⟩ | refine ⟨rfl, ?_⟩
    conv => whnf
    first | exact ⟨rfl, rfl⟩ | exact ⟨rfl, trivial⟩ | (simp; rfl)
/-- At a type within a term. -/
theorem whole_at (k : Int) (ks : List Ty) (ex : List DV) (h : nodes (.node k ks) ≤ 8192) : ACall Try.prog 130 [.c (.d (.rp 0 (.int .i8 k :: .sl 0 2 (Ty.rows ks) :: ex)))] [] (fun o σ => o = .ret (Ty.node k ks).val ∧ σ = []) :=
  (whole_call (.node k ks) h).args (.cons (.rp 0 [_, _] ex) .nil)
end Go.Proofs.Ytoglfnjankinnaa.E
