/- Walks: bare of terms, both. No conditions. -/
import Derived.Test.YtoglfnjankinnaaTm12
set_option linter.unusedVariables false
set_option linter.unusedSimpArgs false
namespace Go.Proofs.Ytoglfnjankinnaa.E
open Go

def tcell (b : Bool) (ks : List Ty) : DV := match b with
  | true => .sl 0 2 (Ty.rows ks)
  | false => .nils
mutual
/-- What counts of a term. -/
def tmbare : Tm → Tm
  | .node k name arg num tk tks uk uks label place ks => .node k (if nameK k || decide (k = 15) then name else ⟨#[]⟩) (if argK k then arg else ⟨#[]⟩) (if decide (k = 1) then num else 0) (if typeK k then tk else 0) (if typeK k then tks else [])
      (if toK k then uk else 0) (if toK k then uks else []) (if decide (k = 17) then label else 0) 0 (tmbares ks)
def tmbares : List Tm → List Tm
  | [] => []
  | t :: l => tmbare t :: tmbares l
end
theorem tmbares_map : ∀ ks : List Tm, tmbares ks = ks.map tmbare
  | [] => rfl
  | t :: l => by simp [tmbares, tmbares_map l]
theorem trows_take : ∀ (ks : List Tm) (i : Nat), Tm.rows (ks.take i) = (Tm.rows ks).take i := by
  intro ks i
  rw [trows_map, trows_map, List.map_take]
noncomputable def rest82 : Code := match Try.f73.body with
  | some (.seq _ (.seq _ (.seq _ (.seq _ (.seq _ (.seq _ (.seq _ (.seq _ (.seq _ c))))))))) => c
  | _ => .skip
set_option maxRecDepth 10000 in
theorem bare_rest (k : Int) (name arg : ByteArray) (num tk : Int) (tks : List Ty) (uk : Int) (uks : List Ty) (label place : Int) (ks : List Tm) (s0 : Int) (b1 b2 b3 b4 b5 b6 b7 : Bool) (name' arg' : ByteArray) (num' tk' uk' label' : Int) (bt bu : Bool) (ms : List Tm) (hlen : ks.length ≤ 8192) (hms : ms.length = ks.length)
    (hk : ∀ (i : Nat) x, ks[i]? = some x → ∃ m, ms[i]? = some m ∧ ACall Try.prog 73 [.c (.d (.rp 0 x.cells))] [] (fun o σ => o = .ret m.val ∧ σ = [])) :
    AW Try.prog tab 0 rest82 ⟨88, [(0, .c (.d (.rp 0 (Tm.node k name arg num tk tks uk uks label place ks).cells))), (2, .c (.ptr 0 0)), (5, .c (.ptr 2 0))], [.var [.d (.int .i8 0), .d (.str ⟨#[]⟩), .d (.str ⟨#[]⟩), .d (.int .i64 0), .d (.int .i8 0), .d .nils, .d (.int .i8 0), .d .nils, .d (.int .i64 0), .d (.int .i64 0), .d .nils], .var [.d (.int .i64 s0), .d (.bool b1), .d (.bool b2), .d (.bool b3), .d (.bool b4), .d (.bool b5), .d (.bool b6), .d (.bool b7)], .var [.d (.int .i8 k), .d (.str name'), .d (.str arg'), .d (.int .i64 num'), .d (.int .i8 tk'), .d (tcell bt tks), .d (.int .i8 uk'), .d (tcell bu uks), .d (.int .i64 label'), .d (.int .i64 0), .d .nils]], []⟩
      (afin tab 0 73 [.cell 2 28] 0 (fun o σ => o = .ret (Tm.node k name' arg' num' tk' (if bt then tks else []) uk' (if bu then uks else []) label' 0 ms).val ∧ σ = [])) := by
  repeat' first
    | refine AW.seq ?_
    | refine AW.block ?_
    | (refine AW.region tab_ok ?_; conv => whnf)
    | (refine AW.draw (id := 18) tab_ok mixed [0, 1, 2, 3, 4, 5, 6, 7, 8, 9, 10, 11, 12] (by kernel_rfl) ?_; conv => whnf)
    | (refine AW.cond ?_; conv => whnf)
    | (refine AW.skip ?_; conv => whnf)
    | (refine AW.ret ?_; conv => whnf)
    | (refine AW.exit ?_; conv => whnf)
    | (refine And.intro (@rfl Val _) ?_; conv => whnf)
    | (refine And.intro (by decide) ?_; conv => whnf)
    | (refine cs (fun _ => ?_) (fun _ => ?_) <;> conv => whnf)
  refine AW.ghost 28 11 2 10 (by decide) rfl rfl ?_
  refine AW.loop (ι := UpToT ks) (fun x => ⟨88, [(71, .c (.d (.int .i64 x.i))), (70, .c (.d (.int .i64 (Tm.rows ks).length))), (0, .c (.d (.rp 0 (Tm.node k name arg num tk tks uk uks label place ks).cells))), (2, .c (.ptr 0 0)), (5, .c (.ptr 2 0))],
      [.var [.d (.int .i8 0), .d (.str ⟨#[]⟩), .d (.str ⟨#[]⟩), .d (.int .i64 0), .d (.int .i8 0), .d .nils, .d (.int .i8 0), .d .nils, .d (.int .i64 0), .d (.int .i64 0), .d .nils], .var [.d (.int .i64 s0), .d (.bool b1), .d (.bool b2), .d (.bool b3), .d (.bool b4), .d (.bool b5), .d (.bool b6), .d (.bool b7)], .var [.d (.int .i8 k), .d (.str name'), .d (.str arg'), .d (.int .i64 num'), .d (.int .i8 tk'), .d (tcell bt tks), .d (.int .i8 uk'), .d (tcell bu uks), .d (.int .i64 label'), .d (.int .i64 0), .own 3 (Tm.rows (ms.take x.i)).length], .row 28 11 (Tm.rows (ms.take x.i))], []⟩)
    (fun x => ks.length - x.i) ⟨0, Nat.zero_le _⟩ 4 (fun _ => rfl) (Nat.le_of_ble_eq_true rfl) ⟨⟨rfl, rfl, rfl, rfl, rfl, trivial⟩, rfl, rfl, ⟨[], rfl⟩, rfl⟩ (fun x => ?_)
  obtain ⟨i, hi⟩ := x
  repeat' first
    | refine AW.seq ?_
    | refine AW.block ?_
    | (refine AW.region tab_ok ?_; conv => whnf)
    | (refine AW.draw (id := 18) tab_ok mixed [0, 1, 2, 3, 4, 5, 6, 7, 8, 9, 10, 11, 12] (by kernel_rfl) ?_; conv => whnf)
    | (refine AW.cond ?_; conv => whnf)
    | (refine AW.skip ?_; conv => whnf)
    | (refine AW.ret ?_; conv => whnf)
    | (refine AW.exit ?_; conv => whnf)
    | (refine And.intro (@rfl Val _) ?_; conv => whnf)
    | (refine And.intro (by decide) ?_; conv => whnf)
    | (refine cs (fun _ => ?_) (fun _ => ?_) <;> conv => whnf)
  · rename_i h1
    simp only [trows_length] at h1 ⊢
    have := of_decide_eq_true h1
    refine ⟨by omega, fun row hrow => ?_⟩
    obtain ⟨x, ht, rfl⟩ := trows_get ks i row (by simpa using hrow)
    have hlt : i < ks.length := (List.getElem?_eq_some_iff.1 ht).1
    conv => whnf
    obtain ⟨m, hm, hc⟩ := hk i x ht
    have hmt : ms.take (i + 1) = ms.take i ++ [m] := by
      rw [List.take_add_one, hm]; rfl
    have e : Tm.rows (ms.take i) ++ [m.cells] = Tm.rows (ms.take (i + 1)) := by
      rw [hmt, trows_map (ms.take i), trows_map (ms.take i ++ _), List.map_append]; rfl
    have el : (Tm.rows (ms.take i)).length + [m.cells].length = (ms.take (i + 1)).length := by
      rw [← List.length_append, e, trows_length]
    obtain ⟨kx, namex, argx, numx, tkx, tksx, ukx, uksx, labelx, placex, ksx⟩ := m
    repeat' first
      | refine AW.seq ?_
      | refine AW.block ?_
      | (refine AW.region tab_ok ?_; conv => whnf)
      | (refine AW.draw (id := 18) tab_ok mixed [0, 1, 2, 3, 4, 5, 6, 7, 8, 9, 10, 11, 12] (by kernel_rfl) ?_; conv => whnf)
      | (refine AW.cond ?_; conv => whnf)
      | (refine AW.skip ?_; conv => whnf)
      | (refine AW.ret ?_; conv => whnf)
      | (refine AW.exit ?_; conv => whnf)
      | (refine (hc).mono ?_; rintro _ _ ⟨rfl, rfl⟩; conv => whnf)
      | (refine And.intro (@rfl Val _) ?_; conv => whnf)
      | (refine And.intro (by decide) ?_; conv => whnf)
      | (refine cs (fun _ => ?_) (fun _ => ?_) <;> conv => whnf)
    refine ⟨⟨(trows_length _).symm, ?_, ?_⟩, ?_⟩
    · simp only [trows_length, List.length_take, List.length_cons, List.length_nil]
      omega
    · simp only [trows_length, List.length_take, List.length_cons, List.length_nil]
      omega
    conv => whnf
    repeat' first
      | refine AW.seq ?_
      | refine AW.block ?_
      | (refine AW.region tab_ok ?_; conv => whnf)
      | (refine AW.draw (id := 18) tab_ok mixed [0, 1, 2, 3, 4, 5, 6, 7, 8, 9, 10, 11, 12] (by kernel_rfl) ?_; conv => whnf)
      | (refine AW.cond ?_; conv => whnf)
      | (refine AW.skip ?_; conv => whnf)
      | (refine AW.ret ?_; conv => whnf)
      | (refine AW.exit ?_; conv => whnf)
      | (refine And.intro (@rfl Val _) ?_; conv => whnf)
      | (refine And.intro (by decide) ?_; conv => whnf)
      | (refine cs (fun _ => ?_) (fun _ => ?_) <;> conv => whnf)
    simp only [Tm.cells] at e el
    rw [el, e, wrap64 (x := (i : Int) + 1) (by omega) (by omega)]
    exact ⟨⟨i + 1, hlt⟩, ⟨⟨rfl, rfl, rfl, rfl, rfl, trivial⟩, rfl, rfl, ⟨[], rfl⟩, rfl⟩, show ks.length - (i + 1) < ks.length - i by omega⟩
  · rename_i h1
    simp only [trows_length] at h1
    have := of_decide_eq_false h1
    obtain rfl : i = ks.length := by omega
    have e : ms.take ks.length = ms := List.take_of_length_le (by omega)
    simp only [e]
    cases bt <;> cases bu
    all_goals
      first | refine ⟨trivial, ?_⟩ | refine ⟨rfl, ?_⟩
      conv => whnf
      first | exact ⟨rfl, rfl⟩ | exact ⟨rfl, trivial⟩ | (simp; rfl)
theorem tmbares_get {ks : List Tm} {i : Nat} {x : Tm} (h : ks[i]? = some x) : (tmbares ks)[i]? = some (tmbare x) := by rw [tmbares_map, List.getElem?_map, h]; rfl
theorem tmbares_len (ks : List Tm) : (tmbares ks).length = ks.length := by rw [tmbares_map, List.length_map]
set_option maxRecDepth 10000 in
set_option maxHeartbeats 4000000 in
theorem bare_call (a : Tm) : tmN a ≤ 8192 → tmright a = true → ACall Try.prog 73 [.c (.d (.rp 0 a.cells))] [] (fun o σ => o = .ret (tmbare a).val ∧ σ = []) := by
  induction a using Tm.ind with
  | _ k name arg num tk tks uk uks label place ks ih =>
  intro hN ha
  have hlen := tmNL_len ks
  simp only [tmN] at hN
  have ih' : ∀ (i : Nat) x, ks[i]? = some x → ∃ m, (tmbares ks)[i]? = some m ∧ ACall Try.prog 73 [.c (.d (.rp 0 x.cells))] [] (fun o σ => o = .ret m.val ∧ σ = []) := fun i x hx => by
    have hm := List.mem_of_getElem? hx
    have := tmN_mem ks x hm
    exact ⟨tmbare x, tmbares_get hx, ih x hm (by omega) (tmright_kid ha hm)⟩
  have fin : ∀ (bt bu : Bool) (s0 : Int) (b1 b2 b3 b4 b5 b6 b7 : Bool) (name' arg' : ByteArray) (num' tk' uk' label' : Int) (env : List (Nat × Val)), tmbare (.node k name arg num tk tks uk uks label place ks) = .node k name' arg' num' tk' (if bt then tks else []) uk' (if bu then uks else []) label' 0 (tmbares ks) →
      get env 0 = .c (.d (.rp 0 (Tm.node k name arg num tk tks uk uks label place ks).cells)) → get env 2 = .c (.ptr 0 0) → get env 5 = .c (.ptr 2 0) →
      AW Try.prog tab 0 rest82 ⟨88, env, [.var [.d (.int .i8 0), .d (.str ⟨#[]⟩), .d (.str ⟨#[]⟩), .d (.int .i64 0), .d (.int .i8 0), .d .nils, .d (.int .i8 0), .d .nils, .d (.int .i64 0), .d (.int .i64 0), .d .nils], .var [.d (.int .i64 s0), .d (.bool b1), .d (.bool b2), .d (.bool b3), .d (.bool b4), .d (.bool b5), .d (.bool b6), .d (.bool b7)], .var [.d (.int .i8 k), .d (.str name'), .d (.str arg'), .d (.int .i64 num'), .d (.int .i8 tk'), .d (tcell bt tks), .d (.int .i8 uk'), .d (tcell bu uks), .d (.int .i64 label'), .d (.int .i64 0), .d .nils]], []⟩ (afin tab 0 73 Try.f73.results.toList ([] : List AObj).length (fun o σ => o = .ret (tmbare (.node k name arg num tk tks uk uks label place ks)).val ∧ σ = [])) := fun bt bu s0 b1 b2 b3 b4 b5 b6 b7 name' arg' num' tk' uk' label' env e g0 g2 g5 => by
    rw [e]
    refine AW.fits ?_ ?_ (bare_rest k name arg num tk tks uk uks label place ks s0 b1 b2 b3 b4 b5 b6 b7 name' arg' num' tk' uk' label' bt bu (tmbares ks) (by omega) (tmbares_len ks) ih')
    · exact ⟨⟨g0, g2, g5, trivial⟩, rfl, rfl, ⟨[], rfl⟩, rfl⟩
    · rfl
  have c1 := of_call k
  have hv := tmright_valid ha
  have n1 : typeK k = true → nodes (.node tk tks) ≤ 8192 := fun h => by rw [if_pos h] at hN; omega
  have n2 : toK k = true → nodes (.node uk uks) ≤ 8192 := fun h => by rw [if_pos h] at hN; omega
  have w1 : typeK k = true → ∀ ex, ACall Try.prog 130 [.c (.d (.rp 0 (.int .i8 tk :: .sl 0 2 (Ty.rows tks) :: ex)))] [] (fun o σ => o = .ret (Ty.node tk tks).val ∧ σ = []) := fun h ex => whole_at _ _ ex (n1 h)
  have w2 : toK k = true → ∀ ex, ACall Try.prog 130 [.c (.d (.rp 0 (.int .i8 uk :: .sl 0 2 (Ty.rows uks) :: ex)))] [] (fun o σ => o = .ret (Ty.node uk uks).val ∧ σ = []) := fun h ex => whole_at _ _ ex (n2 h)
  clear ih ih' ha hlen hN n1 n2
  rcases kinds k hv with rfl | rfl | rfl | rfl | rfl | rfl | rfl | rfl | rfl | rfl | rfl | rfl | rfl | rfl | rfl | rfl | rfl | rfl
  all_goals
    refine ACall.body tab_ok (ρ := 0) (N := 88) Try.func73 rfl rfl rfl rfl rfl ?_
    repeat' first
      | (exact fin false false _ _ _ _ _ _ _ _ _ _ _ _ _ _ _ rfl rfl rfl rfl)
      | (exact fin true false _ _ _ _ _ _ _ _ _ _ _ _ _ _ _ rfl rfl rfl rfl)
      | (exact fin true true _ _ _ _ _ _ _ _ _ _ _ _ _ _ _ rfl rfl rfl rfl)
      | refine AW.seq ?_
      | refine AW.block ?_
      | (refine AW.region tab_ok ?_; conv => whnf)
      | (refine AW.draw (id := 18) tab_ok mixed [0, 1, 2, 3, 4, 5, 6, 7, 8, 9, 10, 11, 12] (by kernel_rfl) ?_; conv => whnf)
      | (refine AW.cond ?_; conv => whnf)
      | (refine AW.skip ?_; conv => whnf)
      | (refine AW.ret ?_; conv => whnf)
      | (refine AW.exit ?_; conv => whnf)
      | (refine (c1).mono ?_; rintro _ _ ⟨rfl, rfl⟩; conv => whnf)
      | (refine (w1 rfl _).mono ?_; rintro _ _ ⟨rfl, rfl⟩; conv => whnf)
      | (refine (w2 rfl _).mono ?_; rintro _ _ ⟨rfl, rfl⟩; conv => whnf)
      | (refine And.intro (@rfl Val _) ?_; conv => whnf)
      | (refine And.intro (by decide) ?_; conv => whnf)
      | (refine cs (fun _ => ?_) (fun _ => ?_) <;> conv => whnf)
end Go.Proofs.Ytoglfnjankinnaa.E
