/- Texts, merged: Tm13, Tm15. No conditions. -/
import Derived.Test.YthmbncehoblgpaaGreatDoorGenX5
/- Walks: bare of terms, both. No conditions. -/
set_option linter.unusedVariables false
set_option linter.unusedSimpArgs false
namespace Go.Proofs.YthmbncehoblgpaaGreatDoor.E
open Go

def tcell (b : Bool) (ks : List Ty) : DV := match b with
  | true => .sl 0 2 (Ty.rows ks)
  | false => .nils
mutual
/-- What counts of a term. -/
def tmbare : Tm → Tm
  | .node k name arg num tk tks uk uks label place ks => .node k (if nameK k || decide (k = 15) then name else ⟨#[]⟩) (if argK k then arg else ⟨#[]⟩) (if decide (k = 1) then num else 0) (if typeK k then tk else 0) (if typeK k then tks else [])
      (if toK k then uk else 0) (if toK k then uks else []) (if decide (k = 17) then label else 0) 0 (tmbares ks)
def tmbares : List Tm → List Tm
  | [] => []
  | t :: l => tmbare t :: tmbares l
end
theorem tmbares_map : ∀ ks : List Tm, tmbares ks = ks.map tmbare
  | [] => rfl
  | t :: l => by simp [tmbares, tmbares_map l]
noncomputable def rest82 : Code := match Tryz.f24.body with
  | some (.seq _ (.seq _ (.seq _ (.seq _ (.seq _ (.seq _ (.seq _ (.seq _ (.seq _ c))))))))) => c
  | _ => .skip
set_option maxRecDepth 10000 in
theorem bare_rest (k : Int) (name arg : ByteArray) (num tk : Int) (tks : List Ty) (uk : Int) (uks : List Ty) (label place : Int) (ks : List Tm) (s0 : Int) (b1 b2 b3 b4 b5 b6 b7 : Bool) (name' arg' : ByteArray) (num' tk' uk' label' : Int) (bt bu : Bool) (ms : List Tm) (hlen : ks.length ≤ 8192) (hms : ms.length = ks.length)
    (hk : ∀ (i : Nat) x, ks[i]? = some x → ∃ m, ms[i]? = some m ∧ ACall Tryz.prog 24 [.c (.d (.rp 0 x.cells))] [] (fun o σ => o = .ret m.val ∧ σ = [])) :
    AW Tryz.prog tab 0 rest82 ⟨88, [(0, .c (.d (.rp 0 (Tm.node k name arg num tk tks uk uks label place ks).cells))), (2, .c (.ptr 0 0)), (5, .c (.ptr 2 0))], [.var [.d (.int .i8 0), .d (.str ⟨#[]⟩), .d (.str ⟨#[]⟩), .d (.int .i64 0), .d (.int .i8 0), .d .nils, .d (.int .i8 0), .d .nils, .d (.int .i64 0), .d (.int .i64 0), .d .nils], .var [.d (.int .i64 s0), .d (.bool b1), .d (.bool b2), .d (.bool b3), .d (.bool b4), .d (.bool b5), .d (.bool b6), .d (.bool b7)], .var [.d (.int .i8 k), .d (.str name'), .d (.str arg'), .d (.int .i64 num'), .d (.int .i8 tk'), .d (tcell bt tks), .d (.int .i8 uk'), .d (tcell bu uks), .d (.int .i64 label'), .d (.int .i64 0), .d .nils]], []⟩
      (afin tab 0 24 [.cell 2 35] 0 (fun o σ => o = .ret (Tm.node k name' arg' num' tk' (if bt then tks else []) uk' (if bu then uks else []) label' 0 ms).val ∧ σ = [])) := by
  repeat' first | refine AW.seq ?_ | refine AW.block ?_ | (refine (_root_.id : AW _ _ _ (.region 18 _ true) _ _ → _) ?_; refine AW.draw (id := 18) tab_ok mixed [0, 1, 2, 3, 4, 5, 6, 7, 8, 9, 10, 11, 12] (by kernel_rfl) ?_; conv => whnf) | ((first | refine AW.region tab_ok ?_ | refine AW.cond ?_ | refine AW.skip ?_ | refine AW.ret ?_ | refine AW.exit ?_); conv => whnf) | ((first | refine And.intro (@rfl Val _) ?_ | refine And.intro (by decide) ?_ | refine cs (fun _ => ?_) (fun _ => ?_)) <;> conv => whnf)
  refine AW.ghost 35 11 2 10 (by decide) rfl rfl ?_
  refine AW.loop (ι := UpToT ks) (fun x => ⟨88, [(71, .c (.d (.int .i64 x.i))), (70, .c (.d (.int .i64 (Tm.rows ks).length))), (0, .c (.d (.rp 0 (Tm.node k name arg num tk tks uk uks label place ks).cells))), (2, .c (.ptr 0 0)), (5, .c (.ptr 2 0))],
      [.var [.d (.int .i8 0), .d (.str ⟨#[]⟩), .d (.str ⟨#[]⟩), .d (.int .i64 0), .d (.int .i8 0), .d .nils, .d (.int .i8 0), .d .nils, .d (.int .i64 0), .d (.int .i64 0), .d .nils], .var [.d (.int .i64 s0), .d (.bool b1), .d (.bool b2), .d (.bool b3), .d (.bool b4), .d (.bool b5), .d (.bool b6), .d (.bool b7)], .var [.d (.int .i8 k), .d (.str name'), .d (.str arg'), .d (.int .i64 num'), .d (.int .i8 tk'), .d (tcell bt tks), .d (.int .i8 uk'), .d (tcell bu uks), .d (.int .i64 label'), .d (.int .i64 0), .own 3 (Tm.rows (ms.take x.i)).length], .row 35 11 (Tm.rows (ms.take x.i))], []⟩)
    (fun x => ks.length - x.i) ⟨0, Nat.zero_le _⟩ 4 (fun _ => rfl) (Nat.le_of_ble_eq_true rfl) ⟨⟨rfl, rfl, rfl, rfl, rfl, trivial⟩, rfl, rfl, ⟨[], rfl⟩, rfl⟩ (fun x => ?_)
  obtain ⟨i, hi⟩ := x
  repeat' first | refine AW.seq ?_ | refine AW.block ?_ | (refine (_root_.id : AW _ _ _ (.region 18 _ true) _ _ → _) ?_; refine AW.draw (id := 18) tab_ok mixed [0, 1, 2, 3, 4, 5, 6, 7, 8, 9, 10, 11, 12] (by kernel_rfl) ?_; conv => whnf) | ((first | refine AW.region tab_ok ?_ | refine AW.cond ?_ | refine AW.skip ?_ | refine AW.ret ?_ | refine AW.exit ?_); conv => whnf) | ((first | refine And.intro (@rfl Val _) ?_ | refine And.intro (by decide) ?_ | refine cs (fun _ => ?_) (fun _ => ?_)) <;> conv => whnf)
  · rename_i h1
    simp only [trows_length] at h1 ⊢
    have := of_decide_eq_true h1
    refine ⟨by omega, fun row hrow => ?_⟩
    obtain ⟨x, ht, rfl⟩ := trows_get ks i row (by simpa using hrow)
    have hlt : i < ks.length := (List.getElem?_eq_some_iff.1 ht).1
    conv => whnf
    obtain ⟨m, hm, hc⟩ := hk i x ht
    have hmt : ms.take (i + 1) = ms.take i ++ [m] := by
      rw [List.take_add_one, hm]; rfl
    have e : Tm.rows (ms.take i) ++ [m.cells] = Tm.rows (ms.take (i + 1)) := by
      rw [hmt, trows_map (ms.take i), trows_map (ms.take i ++ _), List.map_append]; rfl
    have el : (Tm.rows (ms.take i)).length + [m.cells].length = (ms.take (i + 1)).length := by
      rw [← List.length_append, e, trows_length]
    obtain ⟨kx, namex, argx, numx, tkx, tksx, ukx, uksx, labelx, placex, ksx⟩ := m
    repeat' first | refine AW.seq ?_ | refine AW.block ?_ | (refine (_root_.id : AW _ _ _ (.region 18 _ true) _ _ → _) ?_; refine AW.draw (id := 18) tab_ok mixed [0, 1, 2, 3, 4, 5, 6, 7, 8, 9, 10, 11, 12] (by kernel_rfl) ?_; conv => whnf) | ((first | refine AW.region tab_ok ?_ | refine AW.cond ?_ | refine AW.skip ?_ | refine AW.ret ?_ | refine AW.exit ?_); conv => whnf) | (refine (hc).mono ?_; rintro _ _ ⟨rfl, rfl⟩; conv => whnf) | ((first | refine And.intro (@rfl Val _) ?_ | refine And.intro (by decide) ?_ | refine cs (fun _ => ?_) (fun _ => ?_)) <;> conv => whnf)
    refine ⟨⟨(trows_length _).symm, ?_, ?_⟩, ?_⟩
    · simp only [trows_length, List.length_take, List.length_cons, List.length_nil]
      omega
    · simp only [trows_length, List.length_take, List.length_cons, List.length_nil]
      omega
    conv => whnf
    repeat' first | refine AW.seq ?_ | refine AW.block ?_ | (refine (_root_.id : AW _ _ _ (.region 18 _ true) _ _ → _) ?_; refine AW.draw (id := 18) tab_ok mixed [0, 1, 2, 3, 4, 5, 6, 7, 8, 9, 10, 11, 12] (by kernel_rfl) ?_; conv => whnf) | ((first | refine AW.region tab_ok ?_ | refine AW.cond ?_ | refine AW.skip ?_ | refine AW.ret ?_ | refine AW.exit ?_); conv => whnf) | ((first | refine And.intro (@rfl Val _) ?_ | refine And.intro (by decide) ?_ | refine cs (fun _ => ?_) (fun _ => ?_)) <;> conv => whnf)
    simp only [Tm.cells] at e el
    rw [el, e, wrap64 (x := (i : Int) + 1) (by omega) (by omega)]
    exact ⟨⟨i + 1, hlt⟩, ⟨⟨rfl, rfl, rfl, rfl, rfl, trivial⟩, rfl, rfl, ⟨[], rfl⟩, rfl⟩, show ks.length - (i + 1) < ks.length - i by omega⟩
  · rename_i h1
    simp only [trows_length] at h1
    have := of_decide_eq_false h1
    obtain rfl : i = ks.length := by omega
    have e : ms.take ks.length = ms := List.take_of_length_le (by omega)
    simp only [e]
    cases bt <;> cases bu
    all_goals
      first | refine ⟨trivial, ?_⟩ | refine ⟨rfl, ?_⟩
      conv => whnf
      first | exact ⟨rfl, rfl⟩ | exact ⟨rfl, trivial⟩ | (simp; rfl)
theorem tmbares_get {ks : List Tm} {i : Nat} {x : Tm} (h : ks[i]? = some x) : (tmbares ks)[i]? = some (tmbare x) := by rw [tmbares_map, List.getElem?_map, h]; rfl
theorem tmbares_len (ks : List Tm) : (tmbares ks).length = ks.length := by rw [tmbares_map, List.length_map]
set_option maxRecDepth 10000 in
set_option maxHeartbeats 4000000 in
theorem bare_call (a : Tm) : tmN a ≤ 8192 → tmright a = true → ACall Tryz.prog 24 [.c (.d (.rp 0 a.cells))] [] (fun o σ => o = .ret (tmbare a).val ∧ σ = []) := by
  induction a using Tm.ind with
  | _ k name arg num tk tks uk uks label place ks ih =>
  intro hN ha
  have hlen := tmNL_len ks
  simp only [tmN] at hN
  have ih' : ∀ (i : Nat) x, ks[i]? = some x → ∃ m, (tmbares ks)[i]? = some m ∧ ACall Tryz.prog 24 [.c (.d (.rp 0 x.cells))] [] (fun o σ => o = .ret m.val ∧ σ = []) := fun i x hx => by
    have hm := List.mem_of_getElem? hx
    have := tmN_mem ks x hm
    exact ⟨tmbare x, tmbares_get hx, ih x hm (by omega) (tmright_kid ha hm)⟩
  have fin : ∀ (bt bu : Bool) (s0 : Int) (b1 b2 b3 b4 b5 b6 b7 : Bool) (name' arg' : ByteArray) (num' tk' uk' label' : Int) (env : List (Nat × Val)), tmbare (.node k name arg num tk tks uk uks label place ks) = .node k name' arg' num' tk' (if bt then tks else []) uk' (if bu then uks else []) label' 0 (tmbares ks) →
      get env 0 = .c (.d (.rp 0 (Tm.node k name arg num tk tks uk uks label place ks).cells)) → get env 2 = .c (.ptr 0 0) → get env 5 = .c (.ptr 2 0) →
      AW Tryz.prog tab 0 rest82 ⟨88, env, [.var [.d (.int .i8 0), .d (.str ⟨#[]⟩), .d (.str ⟨#[]⟩), .d (.int .i64 0), .d (.int .i8 0), .d .nils, .d (.int .i8 0), .d .nils, .d (.int .i64 0), .d (.int .i64 0), .d .nils], .var [.d (.int .i64 s0), .d (.bool b1), .d (.bool b2), .d (.bool b3), .d (.bool b4), .d (.bool b5), .d (.bool b6), .d (.bool b7)], .var [.d (.int .i8 k), .d (.str name'), .d (.str arg'), .d (.int .i64 num'), .d (.int .i8 tk'), .d (tcell bt tks), .d (.int .i8 uk'), .d (tcell bu uks), .d (.int .i64 label'), .d (.int .i64 0), .d .nils]], []⟩ (afin tab 0 24 Tryz.f24.results.toList ([] : List AObj).length (fun o σ => o = .ret (tmbare (.node k name arg num tk tks uk uks label place ks)).val ∧ σ = [])) := fun bt bu s0 b1 b2 b3 b4 b5 b6 b7 name' arg' num' tk' uk' label' env e g0 g2 g5 => by
    rw [e]
    refine AW.fits ?_ ?_ (bare_rest k name arg num tk tks uk uks label place ks s0 b1 b2 b3 b4 b5 b6 b7 name' arg' num' tk' uk' label' bt bu (tmbares ks) (by omega) (tmbares_len ks) ih')
    · exact ⟨⟨g0, g2, g5, trivial⟩, rfl, rfl, ⟨[], rfl⟩, rfl⟩
    · rfl
  have c1 := of_call k
  have hv := tmright_valid ha
  have n1 : typeK k = true → nodes (.node tk tks) ≤ 8192 := fun h => by rw [if_pos h] at hN; omega
  have n2 : toK k = true → nodes (.node uk uks) ≤ 8192 := fun h => by rw [if_pos h] at hN; omega
  have w1 : typeK k = true → ∀ ex, ACall Tryz.prog 48 [.c (.d (.rp 0 (.int .i8 tk :: .sl 0 2 (Ty.rows tks) :: ex)))] [] (fun o σ => o = .ret (Ty.node tk tks).val ∧ σ = []) := fun h ex => whole_at _ _ ex (n1 h)
  have w2 : toK k = true → ∀ ex, ACall Tryz.prog 48 [.c (.d (.rp 0 (.int .i8 uk :: .sl 0 2 (Ty.rows uks) :: ex)))] [] (fun o σ => o = .ret (Ty.node uk uks).val ∧ σ = []) := fun h ex => whole_at _ _ ex (n2 h)
  clear ih ih' ha hlen hN n1 n2
  rcases kinds k hv with rfl | rfl | rfl | rfl | rfl | rfl | rfl | rfl | rfl | rfl | rfl | rfl | rfl | rfl | rfl | rfl | rfl | rfl
  all_goals
    refine ACall.body tab_ok (ρ := 0) (N := 88) Tryz.func24 rfl rfl rfl rfl rfl ?_
    repeat' first | (exact fin false false _ _ _ _ _ _ _ _ _ _ _ _ _ _ _ rfl rfl rfl rfl) | (exact fin true false _ _ _ _ _ _ _ _ _ _ _ _ _ _ _ rfl rfl rfl rfl) | (exact fin true true _ _ _ _ _ _ _ _ _ _ _ _ _ _ _ rfl rfl rfl rfl) | refine AW.seq ?_ | refine AW.block ?_ | (refine (_root_.id : AW _ _ _ (.region 18 _ true) _ _ → _) ?_; refine AW.draw (id := 18) tab_ok mixed [0, 1, 2, 3, 4, 5, 6, 7, 8, 9, 10, 11, 12] (by kernel_rfl) ?_; conv => whnf) | ((first | refine AW.region tab_ok ?_ | refine AW.cond ?_ | refine AW.skip ?_ | refine AW.ret ?_ | refine AW.exit ?_); conv => whnf) | ((first | refine (c1).mono ?_ | refine (w1 rfl _).mono ?_ | refine (w2 rfl _).mono ?_); rintro _ _ ⟨rfl, rfl⟩; conv => whnf) | ((first | refine And.intro (@rfl Val _) ?_ | refine And.intro (by decide) ?_ | refine cs (fun _ => ?_) (fun _ => ?_)) <;> conv => whnf)
end Go.Proofs.YthmbncehoblgpaaGreatDoor.E

/- Walks: order.each, Has. No conditions. -/
set_option linter.unusedVariables false
set_option linter.unusedSimpArgs false
namespace Go.Proofs.YthmbncehoblgpaaGreatDoor.E
open Go

/-! ### Has -/
mutual
def tmhas (q : Int) : Tm → Bool
  | .node k name arg num tk tks uk uks label place ks => decide (k = q) || tmhass q ks
def tmhass (q : Int) : List Tm → Bool
  | [] => false
  | t :: l => tmhas q t || tmhass q l
end
theorem tmhass_take (q : Int) : ∀ (ks : List Tm) (i : Nat) t, ks[i]? = some t → tmhass q (ks.take (i + 1)) = (tmhass q (ks.take i) || tmhas q t)
  | x :: l, 0, t, h => by simp at h; subst h; simp [tmhass]
  | x :: l, i + 1, t, h => by
    simp only [List.getElem?_cons_succ] at h
    have := tmhass_take q l i t h
    simp only [List.take_succ_cons, tmhass, this, Bool.or_assoc]
theorem tmhass_mem (q : Int) : ∀ (ks : List Tm) (t : Tm), t ∈ ks → tmhas q t = true → tmhass q ks = true
  | x :: l, t, hm, h => by
    simp only [tmhass, Bool.or_eq_true]
    rcases List.mem_cons.1 hm with rfl | hm
    · exact .inl h
    · exact .inr (tmhass_mem q l t hm h)
structure TmHasI (q : Int) (ks : List Tm) where
  i : Nat
  hi : i ≤ ks.length
  h : tmhass q (ks.take i) = false
set_option maxRecDepth 10000 in
theorem rhas_call (q : Int) (t : Tm) : tmN t ≤ 8192 → ACall Tryz.prog 63 [t.val, .c (.d (.int .i8 q))] [] (fun o σ => o = .ret (.c (.d (.bool (tmhas q t)))) ∧ σ = []) := by
  induction t using Tm.ind with
  | _ k name arg num tk tks uk uks label place ks ih =>
  intro hN
  have hlen := tmNL_len ks
  simp only [tmN] at hN
  have ih' : ∀ t ∈ ks, ACall Tryz.prog 63 [t.val, .c (.d (.int .i8 q))] [] (fun o σ => o = .ret (.c (.d (.bool (tmhas q t)))) ∧ σ = []) := fun t ht => ih t ht (by have := tmN_mem ks t ht; omega)
  have e : tmhas q (.node k name arg num tk tks uk uks label place ks) = (decide (k = q) || tmhass q ks) := rfl
  rw [e]
  refine ACall.body tab_ok (ρ := 0) (N := 24) Tryz.func63 rfl rfl rfl rfl rfl ?_
  repeat' first | refine AW.seq ?_ | refine AW.block ?_ | ((first | refine AW.region tab_ok ?_ | refine AW.cond ?_ | refine AW.skip ?_ | refine AW.ret ?_ | refine AW.exit ?_); conv => whnf) | ((first | refine And.intro (@rfl Val _) ?_ | refine And.intro (by decide) ?_ | refine cs (fun _ => ?_) (fun _ => ?_)) <;> conv => whnf)
  · rename_i h
    have h : k = q := by simpa using h
    exact ⟨outb (by simp [h]), rfl⟩
  · rename_i h
    have h : k ≠ q := by simpa using h
    rw [show decide (k = q) = false by simp [h], Bool.false_or]
    refine AW.loop (ι := TmHasI q ks) (fun x => ⟨24, [(5, .c (.d (.int .i64 x.i))), (2, .c (.ptr 0 0)), (1, .c (.d (.int .i8 q)))], [.var [.d (.int .i8 k), .d (.str name), .d (.str arg), .d (.int .i64 num), .d (.int .i8 tk), .d (.sl 0 2 (Ty.rows tks)), .d (.int .i8 uk), .d (.sl 0 2 (Ty.rows uks)), .d (.int .i64 label), .d (.int .i64 place), .d (.sl 0 11 (Tm.rows ks))]], []⟩)
      (fun x => ks.length - x.i) ⟨0, Nat.zero_le _, rfl⟩ 1 (fun _ => rfl) (Nat.le_of_ble_eq_true rfl) ⟨⟨rfl, rfl, rfl, trivial⟩, rfl, rfl, ⟨[], rfl⟩, rfl⟩ (fun x => ?_)
    obtain ⟨i, hi, hj⟩ := x
    repeat' first | refine AW.seq ?_ | refine AW.block ?_ | ((first | refine AW.region tab_ok ?_ | refine AW.cond ?_ | refine AW.skip ?_ | refine AW.ret ?_ | refine AW.exit ?_); conv => whnf) | ((first | refine And.intro (@rfl Val _) ?_ | refine And.intro (by decide) ?_ | refine cs (fun _ => ?_) (fun _ => ?_)) <;> conv => whnf)
    · rename_i h2
      simp only [trows_length] at h2 ⊢
      have := of_decide_eq_true h2
      refine ⟨by omega, fun row hrow => ?_⟩
      obtain ⟨⟨kx, namex, argx, numx, tkx, tksx, ukx, uksx, labelx, placex, ksx⟩, ht, rfl⟩ := trows_get ks i row (by simpa using hrow)
      have hlt : i < ks.length := (List.getElem?_eq_some_iff.1 ht).1
      have hmem := List.mem_of_getElem? ht
      have hc := ih' _ hmem
      have hn := tmhass_take q ks i _ ht
      have hf := tmhass_mem q ks _ hmem
      generalize tmhas q (Tm.node kx namex argx numx tkx tksx ukx uksx labelx placex ksx) = b at hc hn hf
      conv => whnf
      repeat' first | refine AW.seq ?_ | refine AW.block ?_ | ((first | refine AW.region tab_ok ?_ | refine AW.cond ?_ | refine AW.skip ?_ | refine AW.ret ?_ | refine AW.exit ?_); conv => whnf) | (refine (hc).mono ?_; rintro _ _ ⟨rfl, rfl⟩; conv => whnf) | ((first | refine And.intro (@rfl Val _) ?_ | refine And.intro (by decide) ?_ | refine cs (fun _ => ?_) (fun _ => ?_)) <;> conv => whnf)
      · rename_i h3
        exact ⟨outb (hf h3).symm, rfl⟩
      · rename_i h3
        rw [wrap64 (x := (i : Int) + 1) (by omega) (by omega)]
        exact ⟨⟨i + 1, hlt, by rw [hn, hj, h3]; rfl⟩, ⟨⟨rfl, rfl, rfl, trivial⟩, rfl, rfl, ⟨[], rfl⟩, rfl⟩, show ks.length - (i + 1) < ks.length - i by omega⟩
    · rename_i h2
      simp only [trows_length] at h2
      have := of_decide_eq_false h2
      obtain rfl : i = ks.length := by omega
      simp only [List.take_length] at hj
      exact ⟨outb hj.symm, rfl⟩
/-! ### each -/
end Go.Proofs.YthmbncehoblgpaaGreatDoor.E
