/- Texts, merged: Tm13, Tm14, Tm11. No conditions. -/
import Derived.Test.YtoglfnjankinnaaGenX8
import Derived.Test.YtoglfnjankinnaaGenX7
/- Walks: bare of terms, both. No conditions. -/
set_option linter.unusedVariables false
set_option linter.unusedSimpArgs false
namespace Go.Proofs.Ytoglfnjankinnaa.E
open Go

def tcell (b : Bool) (ks : List Ty) : DV := match b with
  | true => .sl 0 2 (Ty.rows ks)
  | false => .nils
mutual
/-- What counts of a term. -/
def tmbare : Tm → Tm
  | .node k name arg num tk tks uk uks label place ks => .node k (if nameK k || decide (k = 15) then name else ⟨#[]⟩) (if argK k then arg else ⟨#[]⟩) (if decide (k = 1) then num else 0) (if typeK k then tk else 0) (if typeK k then tks else [])
      (if toK k then uk else 0) (if toK k then uks else []) (if decide (k = 17) then label else 0) 0 (tmbares ks)
def tmbares : List Tm → List Tm
  | [] => []
  | t :: l => tmbare t :: tmbares l
end
theorem tmbares_map : ∀ ks : List Tm, tmbares ks = ks.map tmbare
  | [] => rfl
  | t :: l => by simp [tmbares, tmbares_map l]
theorem trows_take : ∀ (ks : List Tm) (i : Nat), Tm.rows (ks.take i) = (Tm.rows ks).take i := by
  intro ks i
  rw [trows_map, trows_map, List.map_take]
noncomputable def rest82 : Code := match Try.f73.body with
  | some (.seq _ (.seq _ (.seq _ (.seq _ (.seq _ (.seq _ (.seq _ (.seq _ (.seq _ c))))))))) => c
  | _ => .skip
set_option maxRecDepth 10000 in
theorem bare_rest (k : Int) (name arg : ByteArray) (num tk : Int) (tks : List Ty) (uk : Int) (uks : List Ty) (label place : Int) (ks : List Tm) (s0 : Int) (b1 b2 b3 b4 b5 b6 b7 : Bool) (name' arg' : ByteArray) (num' tk' uk' label' : Int) (bt bu : Bool) (ms : List Tm) (hlen : ks.length ≤ 8192) (hms : ms.length = ks.length)
    (hk : ∀ (i : Nat) x, ks[i]? = some x → ∃ m, ms[i]? = some m ∧ ACall Try.prog 73 [.c (.d (.rp 0 x.cells))] [] (fun o σ => o = .ret m.val ∧ σ = [])) :
    AW Try.prog tab 0 rest82 ⟨88, [(0, .c (.d (.rp 0 (Tm.node k name arg num tk tks uk uks label place ks).cells))), (2, .c (.ptr 0 0)), (5, .c (.ptr 2 0))], [.var [.d (.int .i8 0), .d (.str ⟨#[]⟩), .d (.str ⟨#[]⟩), .d (.int .i64 0), .d (.int .i8 0), .d .nils, .d (.int .i8 0), .d .nils, .d (.int .i64 0), .d (.int .i64 0), .d .nils], .var [.d (.int .i64 s0), .d (.bool b1), .d (.bool b2), .d (.bool b3), .d (.bool b4), .d (.bool b5), .d (.bool b6), .d (.bool b7)], .var [.d (.int .i8 k), .d (.str name'), .d (.str arg'), .d (.int .i64 num'), .d (.int .i8 tk'), .d (tcell bt tks), .d (.int .i8 uk'), .d (tcell bu uks), .d (.int .i64 label'), .d (.int .i64 0), .d .nils]], []⟩
      (afin tab 0 73 [.cell 2 28] 0 (fun o σ => o = .ret (Tm.node k name' arg' num' tk' (if bt then tks else []) uk' (if bu then uks else []) label' 0 ms).val ∧ σ = [])) := by
  repeat' first
    | refine AW.seq ?_
    | refine AW.block ?_
    | (refine AW.region tab_ok ?_; conv => whnf)
    | (refine AW.draw (id := 18) tab_ok mixed [0, 1, 2, 3, 4, 5, 6, 7, 8, 9, 10, 11, 12] (by kernel_rfl) ?_; conv => whnf)
    | (refine AW.cond ?_; conv => whnf)
    | (refine AW.skip ?_; conv => whnf)
    | (refine AW.ret ?_; conv => whnf)
    | (refine AW.exit ?_; conv => whnf)
    | (refine And.intro (@rfl Val _) ?_; conv => whnf)
    | (refine And.intro (by decide) ?_; conv => whnf)
    | (refine cs (fun _ => ?_) (fun _ => ?_) <;> conv => whnf)
  refine AW.ghost 28 11 2 10 (by decide) rfl rfl ?_
  refine AW.loop (ι := UpToT ks) (fun x => ⟨88, [(71, .c (.d (.int .i64 x.i))), (70, .c (.d (.int .i64 (Tm.rows ks).length))), (0, .c (.d (.rp 0 (Tm.node k name arg num tk tks uk uks label place ks).cells))), (2, .c (.ptr 0 0)), (5, .c (.ptr 2 0))],
      [.var [.d (.int .i8 0), .d (.str ⟨#[]⟩), .d (.str ⟨#[]⟩), .d (.int .i64 0), .d (.int .i8 0), .d .nils, .d (.int .i8 0), .d .nils, .d (.int .i64 0), .d (.int .i64 0), .d .nils], .var [.d (.int .i64 s0), .d (.bool b1), .d (.bool b2), .d (.bool b3), .d (.bool b4), .d (.bool b5), .d (.bool b6), .d (.bool b7)], .var [.d (.int .i8 k), .d (.str name'), .d (.str arg'), .d (.int .i64 num'), .d (.int .i8 tk'), .d (tcell bt tks), .d (.int .i8 uk'), .d (tcell bu uks), .d (.int .i64 label'), .d (.int .i64 0), .own 3 (Tm.rows (ms.take x.i)).length], .row 28 11 (Tm.rows (ms.take x.i))], []⟩)
    (fun x => ks.length - x.i) ⟨0, Nat.zero_le _⟩ 4 (fun _ => rfl) (Nat.le_of_ble_eq_true rfl) ⟨⟨rfl, rfl, rfl, rfl, rfl, trivial⟩, rfl, rfl, ⟨[], rfl⟩, rfl⟩ (fun x => ?_)
  obtain ⟨i, hi⟩ := x
  repeat' first
    | refine AW.seq ?_
    | refine AW.block ?_
    | (refine AW.region tab_ok ?_; conv => whnf)
    | (refine AW.draw (id := 18) tab_ok mixed [0, 1, 2, 3, 4, 5, 6, 7, 8, 9, 10, 11, 12] (by kernel_rfl) ?_; conv => whnf)
    | (refine AW.cond ?_; conv => whnf)
    | (refine AW.skip ?_; conv => whnf)
    | (refine AW.ret ?_; conv => whnf)
    | (refine AW.exit ?_; conv => whnf)
    | (refine And.intro (@rfl Val _) ?_; conv => whnf)
    | (refine And.intro (by decide) ?_; conv => whnf)
    | (refine cs (fun _ => ?_) (fun _ => ?_) <;> conv => whnf)
  · rename_i h1
    simp only [trows_length] at h1 ⊢
    have := of_decide_eq_true h1
    refine ⟨by omega, fun row hrow => ?_⟩
    obtain ⟨x, ht, rfl⟩ := trows_get ks i row (by simpa using hrow)
    have hlt : i < ks.length := (List.getElem?_eq_some_iff.1 ht).1
    conv => whnf
    obtain ⟨m, hm, hc⟩ := hk i x ht
    have hmt : ms.take (i + 1) = ms.take i ++ [m] := by
      rw [List.take_add_one, hm]; rfl
    have e : Tm.rows (ms.take i) ++ [m.cells] = Tm.rows (ms.take (i + 1)) := by
      rw [hmt, trows_map (ms.take i), trows_map (ms.take i ++ _), List.map_append]; rfl
    have el : (Tm.rows (ms.take i)).length + [m.cells].length = (ms.take (i + 1)).length := by
      rw [← List.length_append, e, trows_length]
    obtain ⟨kx, namex, argx, numx, tkx, tksx, ukx, uksx, labelx, placex, ksx⟩ := m
    repeat' first
      | refine AW.seq ?_
      | refine AW.block ?_
      | (refine AW.region tab_ok ?_; conv => whnf)
      | (refine AW.draw (id := 18) tab_ok mixed [0, 1, 2, 3, 4, 5, 6, 7, 8, 9, 10, 11, 12] (by kernel_rfl) ?_; conv => whnf)
      | (refine AW.cond ?_; conv => whnf)
      | (refine AW.skip ?_; conv => whnf)
      | (refine AW.ret ?_; conv => whnf)
      | (refine AW.exit ?_; conv => whnf)
      | (refine (hc).mono ?_; rintro _ _ ⟨rfl, rfl⟩; conv => whnf)
      | (refine And.intro (@rfl Val _) ?_; conv => whnf)
      | (refine And.intro (by decide) ?_; conv => whnf)
      | (refine cs (fun _ => ?_) (fun _ => ?_) <;> conv => whnf)
    refine ⟨⟨(trows_length _).symm, ?_, ?_⟩, ?_⟩
    · simp only [trows_length, List.length_take, List.length_cons, List.length_nil]
      omega
    · simp only [trows_length, List.length_take, List.length_cons, List.length_nil]
      omega
    conv => whnf
    repeat' first
      | refine AW.seq ?_
      | refine AW.block ?_
      | (refine AW.region tab_ok ?_; conv => whnf)
      | (refine AW.draw (id := 18) tab_ok mixed [0, 1, 2, 3, 4, 5, 6, 7, 8, 9, 10, 11, 12] (by kernel_rfl) ?_; conv => whnf)
      | (refine AW.cond ?_; conv => whnf)
      | (refine AW.skip ?_; conv => whnf)
      | (refine AW.ret ?_; conv => whnf)
      | (refine AW.exit ?_; conv => whnf)
      | (refine And.intro (@rfl Val _) ?_; conv => whnf)
      | (refine And.intro (by decide) ?_; conv => whnf)
      | (refine cs (fun _ => ?_) (fun _ => ?_) <;> conv => whnf)
    simp only [Tm.cells] at e el
    rw [el, e, wrap64 (x := (i : Int) + 1) (by omega) (by omega)]
    exact ⟨⟨i + 1, hlt⟩, ⟨⟨rfl, rfl, rfl, rfl, rfl, trivial⟩, rfl, rfl, ⟨[], rfl⟩, rfl⟩, show ks.length - (i + 1) < ks.length - i by omega⟩
  · rename_i h1
    simp only [trows_length] at h1
    have := of_decide_eq_false h1
    obtain rfl : i = ks.length := by omega
    have e : ms.take ks.length = ms := List.take_of_length_le (by omega)
    simp only [e]
    cases bt <;> cases bu
    all_goals
      first | refine ⟨trivial, ?_⟩ | refine ⟨rfl, ?_⟩
      conv => whnf
      first | exact ⟨rfl, rfl⟩ | exact ⟨rfl, trivial⟩ | (simp; rfl)
theorem tmbares_get {ks : List Tm} {i : Nat} {x : Tm} (h : ks[i]? = some x) : (tmbares ks)[i]? = some (tmbare x) := by rw [tmbares_map, List.getElem?_map, h]; rfl
theorem tmbares_len (ks : List Tm) : (tmbares ks).length = ks.length := by rw [tmbares_map, List.length_map]
set_option maxRecDepth 10000 in
set_option maxHeartbeats 4000000 in
theorem bare_call (a : Tm) : tmN a ≤ 8192 → tmright a = true → ACall Try.prog 73 [.c (.d (.rp 0 a.cells))] [] (fun o σ => o = .ret (tmbare a).val ∧ σ = []) := by
  induction a using Tm.ind with
  | _ k name arg num tk tks uk uks label place ks ih =>
  intro hN ha
  have hlen := tmNL_len ks
  simp only [tmN] at hN
  have ih' : ∀ (i : Nat) x, ks[i]? = some x → ∃ m, (tmbares ks)[i]? = some m ∧ ACall Try.prog 73 [.c (.d (.rp 0 x.cells))] [] (fun o σ => o = .ret m.val ∧ σ = []) := fun i x hx => by
    have hm := List.mem_of_getElem? hx
    have := tmN_mem ks x hm
    exact ⟨tmbare x, tmbares_get hx, ih x hm (by omega) (tmright_kid ha hm)⟩
  have fin : ∀ (bt bu : Bool) (s0 : Int) (b1 b2 b3 b4 b5 b6 b7 : Bool) (name' arg' : ByteArray) (num' tk' uk' label' : Int) (env : List (Nat × Val)), tmbare (.node k name arg num tk tks uk uks label place ks) = .node k name' arg' num' tk' (if bt then tks else []) uk' (if bu then uks else []) label' 0 (tmbares ks) →
      get env 0 = .c (.d (.rp 0 (Tm.node k name arg num tk tks uk uks label place ks).cells)) → get env 2 = .c (.ptr 0 0) → get env 5 = .c (.ptr 2 0) →
      AW Try.prog tab 0 rest82 ⟨88, env, [.var [.d (.int .i8 0), .d (.str ⟨#[]⟩), .d (.str ⟨#[]⟩), .d (.int .i64 0), .d (.int .i8 0), .d .nils, .d (.int .i8 0), .d .nils, .d (.int .i64 0), .d (.int .i64 0), .d .nils], .var [.d (.int .i64 s0), .d (.bool b1), .d (.bool b2), .d (.bool b3), .d (.bool b4), .d (.bool b5), .d (.bool b6), .d (.bool b7)], .var [.d (.int .i8 k), .d (.str name'), .d (.str arg'), .d (.int .i64 num'), .d (.int .i8 tk'), .d (tcell bt tks), .d (.int .i8 uk'), .d (tcell bu uks), .d (.int .i64 label'), .d (.int .i64 0), .d .nils]], []⟩ (afin tab 0 73 Try.f73.results.toList ([] : List AObj).length (fun o σ => o = .ret (tmbare (.node k name arg num tk tks uk uks label place ks)).val ∧ σ = [])) := fun bt bu s0 b1 b2 b3 b4 b5 b6 b7 name' arg' num' tk' uk' label' env e g0 g2 g5 => by
    rw [e]
    refine AW.fits ?_ ?_ (bare_rest k name arg num tk tks uk uks label place ks s0 b1 b2 b3 b4 b5 b6 b7 name' arg' num' tk' uk' label' bt bu (tmbares ks) (by omega) (tmbares_len ks) ih')
    · exact ⟨⟨g0, g2, g5, trivial⟩, rfl, rfl, ⟨[], rfl⟩, rfl⟩
    · rfl
  have c1 := of_call k
  have hv := tmright_valid ha
  have n1 : typeK k = true → nodes (.node tk tks) ≤ 8192 := fun h => by rw [if_pos h] at hN; omega
  have n2 : toK k = true → nodes (.node uk uks) ≤ 8192 := fun h => by rw [if_pos h] at hN; omega
  have w1 : typeK k = true → ∀ ex, ACall Try.prog 130 [.c (.d (.rp 0 (.int .i8 tk :: .sl 0 2 (Ty.rows tks) :: ex)))] [] (fun o σ => o = .ret (Ty.node tk tks).val ∧ σ = []) := fun h ex => whole_at _ _ ex (n1 h)
  have w2 : toK k = true → ∀ ex, ACall Try.prog 130 [.c (.d (.rp 0 (.int .i8 uk :: .sl 0 2 (Ty.rows uks) :: ex)))] [] (fun o σ => o = .ret (Ty.node uk uks).val ∧ σ = []) := fun h ex => whole_at _ _ ex (n2 h)
  clear ih ih' ha hlen hN n1 n2
  rcases kinds k hv with rfl | rfl | rfl | rfl | rfl | rfl | rfl | rfl | rfl | rfl | rfl | rfl | rfl | rfl | rfl | rfl | rfl | rfl
  all_goals
    refine ACall.body tab_ok (ρ := 0) (N := 88) Try.func73 rfl rfl rfl rfl rfl ?_
    repeat' first
      | (exact fin false false _ _ _ _ _ _ _ _ _ _ _ _ _ _ _ rfl rfl rfl rfl)
      | (exact fin true false _ _ _ _ _ _ _ _ _ _ _ _ _ _ _ rfl rfl rfl rfl)
      | (exact fin true true _ _ _ _ _ _ _ _ _ _ _ _ _ _ _ rfl rfl rfl rfl)
      | refine AW.seq ?_
      | refine AW.block ?_
      | (refine AW.region tab_ok ?_; conv => whnf)
      | (refine AW.draw (id := 18) tab_ok mixed [0, 1, 2, 3, 4, 5, 6, 7, 8, 9, 10, 11, 12] (by kernel_rfl) ?_; conv => whnf)
      | (refine AW.cond ?_; conv => whnf)
      | (refine AW.skip ?_; conv => whnf)
      | (refine AW.ret ?_; conv => whnf)
      | (refine AW.exit ?_; conv => whnf)
      | (refine (c1).mono ?_; rintro _ _ ⟨rfl, rfl⟩; conv => whnf)
      | (refine (w1 rfl _).mono ?_; rintro _ _ ⟨rfl, rfl⟩; conv => whnf)
      | (refine (w2 rfl _).mono ?_; rintro _ _ ⟨rfl, rfl⟩; conv => whnf)
      | (refine And.intro (@rfl Val _) ?_; conv => whnf)
      | (refine And.intro (by decide) ?_; conv => whnf)
      | (refine cs (fun _ => ?_) (fun _ => ?_) <;> conv => whnf)
end Go.Proofs.Ytoglfnjankinnaa.E

/- Walks: bare of terms in the document's answer; Bare, both. No conditions. -/
set_option linter.unusedVariables false
set_option linter.unusedSimpArgs false
namespace Go.Proofs.Ytoglfnjankinnaa.E
open Go

def tmBareS (t : Tm) : Tm := if tmcheck t = 0 then tmbare t else .node 0 ⟨#[]⟩ ⟨#[]⟩ 0 0 [] 0 [] 0 0 []
theorem tmcheck_ok {t : Tm} (h : tmcheck t = 0) : tmN t ≤ 8192 ∧ tmright t = true := by
  unfold tmcheck at h
  split at h
  · omega
  · split at h
    · omega
    · split at h
      · rename_i h3; exact ⟨by omega, h3⟩
      · omega
set_option maxRecDepth 10000 in
theorem Bare_call (t : Tm) : ACall Try.prog 34 [t.val] [] (fun o σ => o = .ret (tmBareS t).val ∧ σ = []) := by
  have c1 := tmCheck_call t
  have c2 : tmcheck t = 0 → ACall Try.prog 73 [.c (.d (.rp 0 t.cells))] [] (fun o σ => o = .ret (tmBareS t).val ∧ σ = []) := fun h => by
    rw [show tmBareS t = tmbare t by simp [tmBareS, h]]
    exact bare_call t (tmcheck_ok h).1 (tmcheck_ok h).2
  have e3 : tmcheck t ≠ 0 → tmBareS t = .node 0 ⟨#[]⟩ ⟨#[]⟩ 0 0 [] 0 [] 0 0 [] := fun h => by simp [tmBareS, h]
  generalize tmcheck t = cc at *
  generalize tmBareS t = m at *
  obtain ⟨k, name, arg, num, tk, tks, uk, uks, label, place, ks⟩ := t
  refine ACall.body tab_ok (ρ := 0) (N := 8) Try.func34 rfl rfl rfl rfl rfl ?_
  repeat' first
    | refine AW.seq ?_
    | refine AW.block ?_
    | (refine AW.region tab_ok ?_; conv => whnf)
    | (refine AW.cond ?_; conv => whnf)
    | (refine AW.skip ?_; conv => whnf)
    | (refine AW.ret ?_; conv => whnf)
    | (refine AW.exit ?_; conv => whnf)
    | (refine (c1).mono ?_; rintro _ _ ⟨rfl, rfl⟩; conv => whnf)
    | (refine And.intro (@rfl Val _) ?_; conv => whnf)
    | (refine And.intro (by decide) ?_; conv => whnf)
    | (refine cs (fun _ => ?_) (fun _ => ?_) <;> conv => whnf)
  · rename_i h
    rw [e3 (by simpa using h)]
    exact ⟨rfl, rfl⟩
  · rename_i h
    have c2 := c2 (by simpa using h)
    obtain ⟨kx, namex, argx, numx, tkx, tksx, ukx, uksx, labelx, placex, ksx⟩ := m
    refine c2.mono ?_
    rintro _ _ ⟨rfl, rfl⟩
    conv => whnf
    repeat' first
      | refine AW.seq ?_
      | refine AW.block ?_
      | (refine AW.region tab_ok ?_; conv => whnf)
      | (refine AW.cond ?_; conv => whnf)
      | (refine AW.skip ?_; conv => whnf)
      | (refine AW.ret ?_; conv => whnf)
      | (refine AW.exit ?_; conv => whnf)
      | (refine And.intro (@rfl Val _) ?_; conv => whnf)
      | (refine And.intro (by decide) ?_; conv => whnf)
      | (refine cs (fun _ => ?_) (fun _ => ?_) <;> conv => whnf)
    exact ⟨rfl, rfl⟩
theorem fine_bare (t : Tm) : tmN t ≤ 8192 → Fine (tmbare t) := by
  induction t using Tm.ind with
  | _ k name arg num tk tks uk uks label place ks ih =>
  intro hN
  have hlen := tmNL_len ks
  simp only [tmN] at hN
  simp only [tmbare]
  refine .node ?_ ?_ ?_ ?_
  · cases h : typeK k <;> simp_all [nodes, nodesL] <;> omega
  · cases h : toK k <;> simp_all [nodes, nodesL] <;> omega
  · rw [tmbares_len]; omega
  · intro x hx
    rw [tmbares_map] at hx
    obtain ⟨y, hy, rfl⟩ := List.mem_map.1 hx
    have := tmN_mem ks y hy
    exact ih y hy (by omega)
theorem fine_BareS (t : Tm) : Fine (tmBareS t) := by
  unfold tmBareS
  split
  · rename_i h
    exact fine_bare t (tmcheck_ok h).1
  · exact .node (by simp [nodes, nodesL]) (by simp [nodes, nodesL]) (by simp) (by simp)
end Go.Proofs.Ytoglfnjankinnaa.E

/- Walks: same of terms in the document's answer. No conditions. -/
set_option linter.unusedVariables false
set_option linter.unusedSimpArgs false
namespace Go.Proofs.Ytoglfnjankinnaa.E
open Go

noncomputable def rest80 : Code := match Try.f80.body with
  | some (.seq _ (.seq _ (.seq _ (.seq _ c)))) => c
  | _ => .skip
set_option maxRecDepth 10000 in
theorem rsame_rest (k : Int) (name arg : ByteArray) (num tk : Int) (tks : List Ty) (uk : Int) (uks : List Ty) (label place : Int) (ks : List Tm) (k' : Int) (name' arg' : ByteArray) (num' tk' : Int) (tks' : List Ty) (uk' : Int) (uks' : List Ty) (label' place' : Int) (ks' : List Tm) (hkk : ks.length = ks'.length) (hlen : ks.length ≤ 3)
    (ih : ∀ x ∈ ks, ∀ y ∈ ks', ACall Try.prog 80 [x.val, y.val] [] (fun o σ => o = .ret (.c (.d (.bool (tmsame x y)))) ∧ σ = [])) :
    AW Try.prog tab 0 rest80 ⟨109, [(2, .c (.ptr 0 0)), (3, .c (.ptr 1 0))], [.var [.d (.int .i8 k), .d (.str name), .d (.str arg), .d (.int .i64 num), .d (.int .i8 tk), .d (.sl 0 2 (Ty.rows tks)), .d (.int .i8 uk), .d (.sl 0 2 (Ty.rows uks)), .d (.int .i64 label), .d (.int .i64 place), .d (.sl 0 11 (Tm.rows ks))], .var [.d (.int .i8 k'), .d (.str name'), .d (.str arg'), .d (.int .i64 num'), .d (.int .i8 tk'), .d (.sl 0 2 (Ty.rows tks')), .d (.int .i8 uk'), .d (.sl 0 2 (Ty.rows uks')), .d (.int .i64 label'), .d (.int .i64 place'), .d (.sl 0 11 (Tm.rows ks'))]], []⟩
      (afin tab 0 80 [.tmp 4] 0 (fun o σ => o = .ret (.c (.d (.bool (tmsames ks ks')))) ∧ σ = [])) := by
  repeat' first
    | refine AW.seq ?_
    | refine AW.block ?_
    | (refine AW.region tab_ok ?_; conv => whnf)
    | (refine AW.draw (id := 10) tab_ok mixed [0, 1, 2, 3, 4, 5, 6, 7, 8, 9, 10, 11] (by kernel_rfl) ?_; conv => whnf)
    | (refine AW.cond ?_; conv => whnf)
    | (refine AW.skip ?_; conv => whnf)
    | (refine AW.ret ?_; conv => whnf)
    | (refine AW.exit ?_; conv => whnf)
    | (refine And.intro (@rfl Val _) ?_; conv => whnf)
    | (refine And.intro (by decide) ?_; conv => whnf)
    | (refine cs (fun _ => ?_) (fun _ => ?_) <;> conv => whnf)
  refine AW.loop (ι := TmSameI ks ks') (fun x => ⟨109, [(5, .c (.d (.int .i64 x.i))), (2, .c (.ptr 0 0)), (3, .c (.ptr 1 0))], [.var [.d (.int .i8 k), .d (.str name), .d (.str arg), .d (.int .i64 num), .d (.int .i8 tk), .d (.sl 0 2 (Ty.rows tks)), .d (.int .i8 uk), .d (.sl 0 2 (Ty.rows uks)), .d (.int .i64 label), .d (.int .i64 place), .d (.sl 0 11 (Tm.rows ks))], .var [.d (.int .i8 k'), .d (.str name'), .d (.str arg'), .d (.int .i64 num'), .d (.int .i8 tk'), .d (.sl 0 2 (Ty.rows tks')), .d (.int .i8 uk'), .d (.sl 0 2 (Ty.rows uks')), .d (.int .i64 label'), .d (.int .i64 place'), .d (.sl 0 11 (Tm.rows ks'))]], []⟩)
    (fun x => ks.length - x.i) ⟨0, Nat.zero_le _, fun j h => by omega⟩ 2 (fun _ => rfl) (Nat.le_of_ble_eq_true rfl) ⟨⟨rfl, rfl, rfl, trivial⟩, rfl, rfl, ⟨[], rfl⟩, rfl⟩ (fun x => ?_)
  obtain ⟨i, hi, hj⟩ := x
  repeat' first
    | refine AW.seq ?_
    | refine AW.block ?_
    | (refine AW.region tab_ok ?_; conv => whnf)
    | (refine AW.draw (id := 10) tab_ok mixed [0, 1, 2, 3, 4, 5, 6, 7, 8, 9, 10, 11] (by kernel_rfl) ?_; conv => whnf)
    | (refine AW.cond ?_; conv => whnf)
    | (refine AW.skip ?_; conv => whnf)
    | (refine AW.ret ?_; conv => whnf)
    | (refine AW.exit ?_; conv => whnf)
    | (refine And.intro (@rfl Val _) ?_; conv => whnf)
    | (refine And.intro (by decide) ?_; conv => whnf)
    | (refine cs (fun _ => ?_) (fun _ => ?_) <;> conv => whnf)
  · rename_i h1
    simp only [trows_length] at h1 ⊢
    have := of_decide_eq_true h1
    refine ⟨by omega, fun row hrow => ?_⟩
    obtain ⟨⟨kx, namex, argx, numx, tkx, tksx, ukx, uksx, labelx, placex, ksx⟩, ht, rfl⟩ := trows_get ks i row (by simpa using hrow)
    have hlt : i < ks.length := (List.getElem?_eq_some_iff.1 ht).1
    have hm := List.mem_of_getElem? ht
    conv => whnf
    repeat' first
      | refine AW.seq ?_
      | refine AW.block ?_
      | (refine AW.region tab_ok ?_; conv => whnf)
      | (refine AW.draw (id := 10) tab_ok mixed [0, 1, 2, 3, 4, 5, 6, 7, 8, 9, 10, 11] (by kernel_rfl) ?_; conv => whnf)
      | (refine AW.cond ?_; conv => whnf)
      | (refine AW.skip ?_; conv => whnf)
      | (refine AW.ret ?_; conv => whnf)
      | (refine AW.exit ?_; conv => whnf)
      | (refine And.intro (@rfl Val _) ?_; conv => whnf)
      | (refine And.intro (by decide) ?_; conv => whnf)
      | (refine cs (fun _ => ?_) (fun _ => ?_) <;> conv => whnf)
    simp only [trows_length]
    refine ⟨by omega, fun row hrow => ?_⟩
    obtain ⟨⟨ky, namey, argy, numy, tky, tksy, uky, uksy, labely, placey, ksy⟩, hu, rfl⟩ := trows_get ks' i row (by simpa using hrow)
    have hm' := List.mem_of_getElem? hu
    have hc := ih _ hm _ hm'
    have hno : tmsame (Tm.node kx namex argx numx tkx tksx ukx uksx labelx placex ksx) (Tm.node ky namey argy numy tky tksy uky uksy labely placey ksy) = false → tmsames ks ks' = false := fun h2 => by
      cases hc : tmsames ks ks' with
      | false => rfl
      | true => rw [(tmsames_all ks ks' hkk).1 hc i _ _ ht hu] at h2; cases h2
    have hye : tmsame (Tm.node kx namex argx numx tkx tksx ukx uksx labelx placex ksx) (Tm.node ky namey argy numy tky tksy uky uksy labely placey ksy) = true → ∀ j, j < i + 1 → ∀ x y, ks[j]? = some x → ks'[j]? = some y → tmsame x y = true := fun h2 j h x y hx hy => by
      by_cases e : j = i
      · subst e; rw [ht] at hx; rw [hu] at hy; cases hx; cases hy; exact h2
      · exact hj j (by omega) x y hx hy
    generalize tmsame (Tm.node kx namex argx numx tkx tksx ukx uksx labelx placex ksx) (Tm.node ky namey argy numy tky tksy uky uksy labely placey ksy) = bb at hc hno hye
    conv => whnf
    repeat' first
      | refine AW.seq ?_
      | refine AW.block ?_
      | (refine AW.region tab_ok ?_; conv => whnf)
      | (refine AW.draw (id := 10) tab_ok mixed [0, 1, 2, 3, 4, 5, 6, 7, 8, 9, 10, 11] (by kernel_rfl) ?_; conv => whnf)
      | (refine AW.cond ?_; conv => whnf)
      | (refine AW.skip ?_; conv => whnf)
      | (refine AW.ret ?_; conv => whnf)
      | (refine AW.exit ?_; conv => whnf)
      | (refine (hc).mono ?_; rintro _ _ ⟨rfl, rfl⟩; conv => whnf)
      | (refine And.intro (@rfl Val _) ?_; conv => whnf)
      | (refine And.intro (by decide) ?_; conv => whnf)
      | (refine cs (fun _ => ?_) (fun _ => ?_) <;> conv => whnf)
    · rename_i h2
      have h2 : bb = false := by simpa using h2
      have := hno h2
      exact ⟨outb this.symm, rfl⟩
    · rename_i h2
      have h2 : bb = true := by simpa using h2
      rw [wrap64 (x := (i : Int) + 1) (by omega) (by omega)]
      exact ⟨⟨i + 1, hlt, hye h2⟩, ⟨⟨rfl, rfl, rfl, trivial⟩, rfl, rfl, ⟨[], rfl⟩, rfl⟩, show ks.length - (i + 1) < ks.length - i by omega⟩
  · rename_i h1
    simp only [trows_length] at h1
    have := of_decide_eq_false h1
    obtain rfl : i = ks.length := by omega
    have : tmsames ks ks' = true := (tmsames_all ks ks' hkk).2 fun j x y hx hy => hj j (List.getElem?_eq_some_iff.1 hx).1 x y hx hy
    exact ⟨outb this.symm, rfl⟩
set_option maxRecDepth 10000 in
set_option maxHeartbeats 4000000 in
theorem rtmsame_call (a : Tm) : ∀ b, tmright a = true → tmright b = true → ACall Try.prog 80 [a.val, b.val] [] (fun o σ => o = .ret (.c (.d (.bool (tmsame a b)))) ∧ σ = []) := by
  induction a using Tm.ind with
  | _ k name arg num tk tks uk uks label place ks ih =>
  rintro ⟨k', name', arg', num', tk', tks', uk', uks', label', place', ks'⟩ ha hb
  have ih' : ∀ x ∈ ks, ∀ y ∈ ks', ACall Try.prog 80 [x.val, y.val] [] (fun o σ => o = .ret (.c (.d (.bool (tmsame x y)))) ∧ σ = []) := fun x hx y hy => ih x hx y (tmright_kid ha hx) (tmright_kid hb hy)
  have la := tmright_len ha
  have lb := tmright_len hb
  have le := kidsK_le k
  have fin : ownSame (.node k name arg num tk tks uk uks label place ks) (.node k' name' arg' num' tk' tks' uk' uks' label' place' ks') = true → ∀ env, get env 2 = .c (.ptr 0 0) → get env 3 = .c (.ptr 1 0) →
      AW Try.prog tab 0 rest80 ⟨109, env, [.var [.d (.int .i8 k), .d (.str name), .d (.str arg), .d (.int .i64 num), .d (.int .i8 tk), .d (.sl 0 2 (Ty.rows tks)), .d (.int .i8 uk), .d (.sl 0 2 (Ty.rows uks)), .d (.int .i64 label), .d (.int .i64 place), .d (.sl 0 11 (Tm.rows ks))], .var [.d (.int .i8 k'), .d (.str name'), .d (.str arg'), .d (.int .i64 num'), .d (.int .i8 tk'), .d (.sl 0 2 (Ty.rows tks')), .d (.int .i8 uk'), .d (.sl 0 2 (Ty.rows uks')), .d (.int .i64 label'), .d (.int .i64 place'), .d (.sl 0 11 (Tm.rows ks'))]], []⟩ (afin tab 0 80 Try.f80.results.toList ([] : List AObj).length (fun o σ => o = .ret (.c (.d (.bool (tmsame (.node k name arg num tk tks uk uks label place ks) (.node k' name' arg' num' tk' tks' uk' uks' label' place' ks'))))) ∧ σ = [])) := fun ho env g0 g1 => by
    have e : tmsame (.node k name arg num tk tks uk uks label place ks) (.node k' name' arg' num' tk' tks' uk' uks' label' place' ks') = tmsames ks ks' := by simp [tmsame, ho]
    have ek : k = k' := by simp only [ownSame, Bool.and_eq_true, decide_eq_true_eq] at ho; exact ho.1.1.1.1.1.1
    rw [e]
    refine AW.fits ?_ ?_ (rsame_rest k name arg num tk tks uk uks label place ks k' name' arg' num' tk' tks' uk' uks' label' place' ks' (by subst ek; omega) (by omega) ih')
    · exact ⟨⟨g0, g1, trivial⟩, rfl, rfl, ⟨[], rfl⟩, rfl⟩
    · rfl
  have hv := tmright_valid ha
  have hlk : k = k' → ks.length = ks'.length := fun e => by subst e; omega
  clear ih ih' ha hb la lb le
  rcases kinds k hv with rfl | rfl | rfl | rfl | rfl | rfl | rfl | rfl | rfl | rfl | rfl | rfl | rfl | rfl | rfl | rfl | rfl | rfl
  all_goals
    refine ACall.body tab_ok (ρ := 0) (N := 109) Try.func80 rfl rfl rfl rfl rfl ?_
    repeat' first
      | (refine fin ?_ _ rfl rfl)
      | refine AW.seq ?_
      | refine AW.block ?_
      | (refine AW.region tab_ok ?_; conv => whnf)
      | (refine AW.draw (id := 10) tab_ok mixed [0, 1, 2, 3, 4, 5, 6, 7, 8, 9, 10, 11] (by kernel_rfl) ?_; conv => whnf)
      | (refine AW.cond ?_; conv => whnf)
      | (refine AW.skip ?_; conv => whnf)
      | (refine AW.ret ?_; conv => whnf)
      | (refine AW.exit ?_; conv => whnf)
      | (refine (rhasName_call _).mono ?_; rintro _ _ ⟨rfl, rfl⟩; conv => whnf)
      | (refine (rhasArg_call _).mono ?_; rintro _ _ ⟨rfl, rfl⟩; conv => whnf)
      | (refine (rhasType_call _).mono ?_; rintro _ _ ⟨rfl, rfl⟩; conv => whnf)
      | (refine (rhasTo_call _).mono ?_; rintro _ _ ⟨rfl, rfl⟩; conv => whnf)
      | (refine (rSame_call (.node tk tks) (.node tk' tks')).mono ?_; rintro _ _ ⟨rfl, rfl⟩; conv => whnf)
      | (refine (rSame_call (.node uk uks) (.node uk' uks')).mono ?_; rintro _ _ ⟨rfl, rfl⟩; conv => whnf)
      | (refine And.intro (@rfl Val _) ?_; conv => whnf)
      | (refine And.intro (by decide) ?_; conv => whnf)
      | (refine cs (fun _ => ?_) (fun _ => ?_) <;> conv => whnf)
  all_goals clear fin hv
  all_goals first
    | (refine ⟨outb ?_, rfl⟩
       simp only [tmsame, ownSame]
       try simp [kidsK, validK, nameK, argK, typeK, toK, trows_length] at *
       try simp_all
       done)
    | (simp only [ownSame]
       try simp [kidsK, validK, nameK, argK, typeK, toK, trows_length] at *
       try simp_all
       done)
    | trace_state

def sameT (a b : Tm) : Bool := decide (tmcheck a = 0) && decide (tmcheck b = 0) && tmsame a b
theorem tmcheck_right {t : Tm} (h : tmcheck t = 0) : tmright t = true := by
  unfold tmcheck at h
  split at h
  · omega
  · split at h
    · omega
    · split at h
      · assumption
      · omega
set_option maxRecDepth 10000 in
theorem tSame_call (a b : Tm) : ACall Try.prog 23 [a.val, b.val] [] (fun o σ => o = .ret (.c (.d (.bool (sameT a b)))) ∧ σ = []) := by
  have c1 := tmCheck_call a
  have c2 := tmCheck_call b
  have c3 : tmcheck a = 0 → tmcheck b = 0 → ACall Try.prog 57 [.c (.d (.rp 0 a.cells)), .c (.d (.rp 0 b.cells))] [] (fun o σ => o = .ret (.c (.d (.bool (tmsame a b)))) ∧ σ = []) := fun h1 h2 => tmsame_call a b (tmcheck_right h1) (tmcheck_right h2)
  have e : sameT a b = (decide (tmcheck a = 0) && decide (tmcheck b = 0) && tmsame a b) := rfl
  rw [e]
  generalize tmcheck a = ca at *
  generalize tmcheck b = cb at *
  generalize tmsame a b = ss at *
  obtain ⟨k, name, arg, num, tk, tks, uk, uks, label, place, ks⟩ := a
  obtain ⟨k', name', arg', num', tk', tks', uk', uks', label', place', ks'⟩ := b
  refine ACall.body tab_ok (ρ := 0) (N := 16) Try.func23 rfl rfl rfl rfl rfl ?_
  repeat' first
    | refine AW.seq ?_
    | refine AW.block ?_
    | (refine AW.region tab_ok ?_; conv => whnf)
    | (refine AW.cond ?_; conv => whnf)
    | (refine AW.skip ?_; conv => whnf)
    | (refine AW.ret ?_; conv => whnf)
    | (refine AW.exit ?_; conv => whnf)
    | (refine (c1).mono ?_; rintro _ _ ⟨rfl, rfl⟩; conv => whnf)
    | (refine (c2).mono ?_; rintro _ _ ⟨rfl, rfl⟩; conv => whnf)
    | (refine And.intro (@rfl Val _) ?_; conv => whnf)
    | (refine And.intro (by decide) ?_; conv => whnf)
    | (refine cs (fun _ => ?_) (fun _ => ?_) <;> conv => whnf)
  · rename_i h1 h2
    have h1 : ca = 0 := by simpa using h1
    have h2 : cb = 0 := by simpa using h2
    refine (c3 h1 h2).mono ?_
    rintro _ _ ⟨rfl, rfl⟩
    conv => whnf
    repeat' first
      | refine AW.seq ?_
      | refine AW.block ?_
      | (refine AW.region tab_ok ?_; conv => whnf)
      | (refine AW.cond ?_; conv => whnf)
      | (refine AW.skip ?_; conv => whnf)
      | (refine AW.ret ?_; conv => whnf)
      | (refine AW.exit ?_; conv => whnf)
      | (refine And.intro (@rfl Val _) ?_; conv => whnf)
      | (refine And.intro (by decide) ?_; conv => whnf)
      | (refine cs (fun _ => ?_) (fun _ => ?_) <;> conv => whnf)
    exact ⟨outb (by simp [h1, h2]), rfl⟩
  · rename_i h1 h2
    simp at h1 h2
    exact ⟨outb (by simp [h1, h2]), rfl⟩
  · rename_i h1
    simp at h1
    exact ⟨outb (by simp [h1]), rfl⟩
set_option maxRecDepth 10000 in
theorem rtSame_call (a b : Tm) : ACall Try.prog 38 [a.val, b.val] [] (fun o σ => o = .ret (.c (.d (.bool (sameT a b)))) ∧ σ = []) := by
  have c1 := rtmCheck_call a
  have c2 := rtmCheck_call b
  have c3 : tmcheck a = 0 → tmcheck b = 0 → ACall Try.prog 80 [a.val, b.val] [] (fun o σ => o = .ret (.c (.d (.bool (tmsame a b)))) ∧ σ = []) := fun h1 h2 => rtmsame_call a b (tmcheck_right h1) (tmcheck_right h2)
  have e : sameT a b = (decide (tmcheck a = 0) && decide (tmcheck b = 0) && tmsame a b) := rfl
  rw [e]
  generalize tmcheck a = ca at *
  generalize tmcheck b = cb at *
  generalize tmsame a b = ss at *
  obtain ⟨k, name, arg, num, tk, tks, uk, uks, label, place, ks⟩ := a
  obtain ⟨k', name', arg', num', tk', tks', uk', uks', label', place', ks'⟩ := b
  refine ACall.body tab_ok (ρ := 0) (N := 18) Try.func38 rfl rfl rfl rfl rfl ?_
  repeat' first
    | refine AW.seq ?_
    | refine AW.block ?_
    | (refine AW.region tab_ok ?_; conv => whnf)
    | (refine AW.cond ?_; conv => whnf)
    | (refine AW.skip ?_; conv => whnf)
    | (refine AW.ret ?_; conv => whnf)
    | (refine AW.exit ?_; conv => whnf)
    | (refine (c1).mono ?_; rintro _ _ ⟨rfl, rfl⟩; conv => whnf)
    | (refine (c2).mono ?_; rintro _ _ ⟨rfl, rfl⟩; conv => whnf)
    | (refine And.intro (@rfl Val _) ?_; conv => whnf)
    | (refine And.intro (by decide) ?_; conv => whnf)
    | (refine cs (fun _ => ?_) (fun _ => ?_) <;> conv => whnf)
  · rename_i h1 h2
    have h1 : ca = 0 := by simpa using h1
    have h2 : cb = 0 := by simpa using h2
    refine (c3 h1 h2).mono ?_
    rintro _ _ ⟨rfl, rfl⟩
    conv => whnf
    repeat' first
      | refine AW.seq ?_
      | refine AW.block ?_
      | (refine AW.region tab_ok ?_; conv => whnf)
      | (refine AW.cond ?_; conv => whnf)
      | (refine AW.skip ?_; conv => whnf)
      | (refine AW.ret ?_; conv => whnf)
      | (refine AW.exit ?_; conv => whnf)
      | (refine And.intro (@rfl Val _) ?_; conv => whnf)
      | (refine And.intro (by decide) ?_; conv => whnf)
      | (refine cs (fun _ => ?_) (fun _ => ?_) <;> conv => whnf)
    exact ⟨outb (by simp [h1, h2]), rfl⟩
  · rename_i h1 h2
    simp at h1 h2
    exact ⟨outb (by simp [h1, h2]), rfl⟩
  · rename_i h1
    simp at h1
    exact ⟨outb (by simp [h1]), rfl⟩
end Go.Proofs.Ytoglfnjankinnaa.E
