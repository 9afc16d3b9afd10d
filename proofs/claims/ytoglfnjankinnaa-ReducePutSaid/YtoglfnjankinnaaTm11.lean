/- Walks: same of terms in the document's answer. No conditions. -/
import Derived.Test.YtoglfnjankinnaaTm10
set_option linter.unusedVariables false
set_option linter.unusedSimpArgs false
namespace Go.Proofs.Ytoglfnjankinnaa.E
open Go

noncomputable def rest80 : Code := match Try.f80.body with
  | some (.seq _ (.seq _ (.seq _ (.seq _ c)))) => c
  | _ => .skip
set_option maxRecDepth 10000 in
theorem rsame_rest (k : Int) (name arg : ByteArray) (num tk : Int) (tks : List Ty) (uk : Int) (uks : List Ty) (label place : Int) (ks : List Tm) (k' : Int) (name' arg' : ByteArray) (num' tk' : Int) (tks' : List Ty) (uk' : Int) (uks' : List Ty) (label' place' : Int) (ks' : List Tm) (hkk : ks.length = ks'.length) (hlen : ks.length ≤ 3)
    (ih : ∀ x ∈ ks, ∀ y ∈ ks', ACall Try.prog 80 [x.val, y.val] [] (fun o σ => o = .ret (.c (.d (.bool (tmsame x y)))) ∧ σ = [])) :
    AW Try.prog tab 0 rest80 ⟨109, [(2, .c (.ptr 0 0)), (3, .c (.ptr 1 0))], [.var [.d (.int .i8 k), .d (.str name), .d (.str arg), .d (.int .i64 num), .d (.int .i8 tk), .d (.sl 0 2 (Ty.rows tks)), .d (.int .i8 uk), .d (.sl 0 2 (Ty.rows uks)), .d (.int .i64 label), .d (.int .i64 place), .d (.sl 0 11 (Tm.rows ks))], .var [.d (.int .i8 k'), .d (.str name'), .d (.str arg'), .d (.int .i64 num'), .d (.int .i8 tk'), .d (.sl 0 2 (Ty.rows tks')), .d (.int .i8 uk'), .d (.sl 0 2 (Ty.rows uks')), .d (.int .i64 label'), .d (.int .i64 place'), .d (.sl 0 11 (Tm.rows ks'))]], []⟩
      (afin tab 0 80 [.tmp 4] 0 (fun o σ => o = .ret (.c (.d (.bool (tmsames ks ks')))) ∧ σ = [])) := by
  repeat' first
    | refine AW.seq ?_
    | refine AW.block ?_
    | (refine AW.region tab_ok ?_; conv => whnf)
    | (refine AW.draw (id := 10) tab_ok mixed [0, 1, 2, 3, 4, 5, 6, 7, 8, 9, 10, 11] (by kernel_rfl) ?_; conv => whnf)
    | (refine AW.cond ?_; conv => whnf)
    | (refine AW.skip ?_; conv => whnf)
    | (refine AW.ret ?_; conv => whnf)
    | (refine AW.exit ?_; conv => whnf)
    | (refine And.intro (@rfl Val _) ?_; conv => whnf)
    | (refine And.intro (by decide) ?_; conv => whnf)
    | (refine cs (fun _ => ?_) (fun _ => ?_) <;> conv => whnf)
  refine AW.loop (ι := TmSameI ks ks') (fun x => ⟨109, [(5, .c (.d (.int .i64 x.i))), (2, .c (.ptr 0 0)), (3, .c (.ptr 1 0))], [.var [.d (.int .i8 k), .d (.str name), .d (.str arg), .d (.int .i64 num), .d (.int .i8 tk), .d (.sl 0 2 (Ty.rows tks)), .d (.int .i8 uk), .d (.sl 0 2 (Ty.rows uks)), .d (.int .i64 label), .d (.int .i64 place), .d (.sl 0 11 (Tm.rows ks))], .var [.d (.int .i8 k'), .d (.str name'), .d (.str arg'), .d (.int .i64 num'), .d (.int .i8 tk'), .d (.sl 0 2 (Ty.rows tks')), .d (.int .i8 uk'), .d (.sl 0 2 (Ty.rows uks')), .d (.int .i64 label'), .d (.int .i64 place'), .d (.sl 0 11 (Tm.rows ks'))]], []⟩)
    (fun x => ks.length - x.i) ⟨0, Nat.zero_le _, fun j h => by omega⟩ 2 (fun _ => rfl) (Nat.le_of_ble_eq_true rfl) ⟨⟨rfl, rfl, rfl, trivial⟩, rfl, rfl, ⟨[], rfl⟩, rfl⟩ (fun x => ?_)
  obtain ⟨i, hi, hj⟩ := x
  repeat' first
    | refine AW.seq ?_
    | refine AW.block ?_
    | (refine AW.region tab_ok ?_; conv => whnf)
    | (refine AW.draw (id := 10) tab_ok mixed [0, 1, 2, 3, 4, 5, 6, 7, 8, 9, 10, 11] (by kernel_rfl) ?_; conv => whnf)
    | (refine AW.cond ?_; conv => whnf)
    | (refine AW.skip ?_; conv => whnf)
    | (refine AW.ret ?_; conv => whnf)
    | (refine AW.exit ?_; conv => whnf)
    | (refine And.intro (@rfl Val _) ?_; conv => whnf)
    | (refine And.intro (by decide) ?_; conv => whnf)
    | (refine cs (fun _ => ?_) (fun _ => ?_) <;> conv => whnf)
  · rename_i h1
    simp only [trows_length] at h1 ⊢
    have := of_decide_eq_true h1
    refine ⟨by omega, fun row hrow => ?_⟩
    obtain ⟨⟨kx, namex, argx, numx, tkx, tksx, ukx, uksx, labelx, placex, ksx⟩, ht, rfl⟩ := trows_get ks i row (by simpa using hrow)
    have hlt : i < ks.length := (List.getElem?_eq_some_iff.1 ht).1
    have hm := List.mem_of_getElem? ht
    conv => whnf
    repeat' first
      | refine AW.seq ?_
      | refine AW.block ?_
      | (refine AW.region tab_ok ?_; conv => whnf)
      | (refine AW.draw (id := 10) tab_ok mixed [0, 1, 2, 3, 4, 5, 6, 7, 8, 9, 10, 11] (by kernel_rfl) ?_; conv => whnf)
      | (refine AW.cond ?_; conv => whnf)
      | (refine AW.skip ?_; conv => whnf)
      | (refine AW.ret ?_; conv => whnf)
      | (refine AW.exit ?_; conv => whnf)
      | (refine And.intro (@rfl Val _) ?_; conv => whnf)
      | (refine And.intro (by decide) ?_; conv => whnf)
      | (refine cs (fun _ => ?_) (fun _ => ?_) <;> conv => whnf)
    simp only [trows_length]
    refine ⟨by omega, fun row hrow => ?_⟩
    obtain ⟨⟨ky, namey, argy, numy, tky, tksy, uky, uksy, labely, placey, ksy⟩, hu, rfl⟩ := trows_get ks' i row (by simpa using hrow)
    have hm' := List.mem_of_getElem? hu
    have hc := ih _ hm _ hm'
    have hno : tmsame (Tm.node kx namex argx numx tkx tksx ukx uksx labelx placex ksx) (Tm.node ky namey argy numy tky tksy uky uksy labely placey ksy) = false → tmsames ks ks' = false := fun h2 => by
      cases hc : tmsames ks ks' with
      | false => rfl
      | true => rw [(tmsames_all ks ks' hkk).1 hc i _ _ ht hu] at h2; cases h2
    have hye : tmsame (Tm.node kx namex argx numx tkx tksx ukx uksx labelx placex ksx) (Tm.node ky namey argy numy tky tksy uky uksy labely placey ksy) = true → ∀ j, j < i + 1 → ∀ x y, ks[j]? = some x → ks'[j]? = some y → tmsame x y = true := fun h2 j h x y hx hy => by
      by_cases e : j = i
      · subst e; rw [ht] at hx; rw [hu] at hy; cases hx; cases hy; exact h2
      · exact hj j (by omega) x y hx hy
    generalize tmsame (Tm.node kx namex argx numx tkx tksx ukx uksx labelx placex ksx) (Tm.node ky namey argy numy tky tksy uky uksy labely placey ksy) = bb at hc hno hye
    conv => whnf
    repeat' first
      | refine AW.seq ?_
      | refine AW.block ?_
      | (refine AW.region tab_ok ?_; conv => whnf)
      | (refine AW.draw (id := 10) tab_ok mixed [0, 1, 2, 3, 4, 5, 6, 7, 8, 9, 10, 11] (by kernel_rfl) ?_; conv => whnf)
      | (refine AW.cond ?_; conv => whnf)
      | (refine AW.skip ?_; conv => whnf)
      | (refine AW.ret ?_; conv => whnf)
      | (refine AW.exit ?_; conv => whnf)
      | (refine (hc).mono ?_; rintro _ _ ⟨rfl, rfl⟩; conv => whnf)
      | (refine And.intro (@rfl Val _) ?_; conv => whnf)
      | (refine And.intro (by decide) ?_; conv => whnf)
      | (refine cs (fun _ => ?_) (fun _ => ?_) <;> conv => whnf)
    · rename_i h2
      have h2 : bb = false := by simpa using h2
      have := hno h2
      exact ⟨outb this.symm, rfl⟩
    · rename_i h2
      have h2 : bb = true := by simpa using h2
      rw [wrap64 (x := (i : Int) + 1) (by omega) (by omega)]
      exact ⟨⟨i + 1, hlt, hye h2⟩, ⟨⟨rfl, rfl, rfl, trivial⟩, rfl, rfl, ⟨[], rfl⟩, rfl⟩, show ks.length - (i + 1) < ks.length - i by omega⟩
  · rename_i h1
    simp only [trows_length] at h1
    have := of_decide_eq_false h1
    obtain rfl : i = ks.length := by omega
    have : tmsames ks ks' = true := (tmsames_all ks ks' hkk).2 fun j x y hx hy => hj j (List.getElem?_eq_some_iff.1 hx).1 x y hx hy
    exact ⟨outb this.symm, rfl⟩
set_option maxRecDepth 10000 in
set_option maxHeartbeats 4000000 in
theorem rtmsame_call (a : Tm) : ∀ b, tmright a = true → tmright b = true → ACall Try.prog 80 [a.val, b.val] [] (fun o σ => o = .ret (.c (.d (.bool (tmsame a b)))) ∧ σ = []) := by
  induction a using Tm.ind with
  | _ k name arg num tk tks uk uks label place ks ih =>
  rintro ⟨k', name', arg', num', tk', tks', uk', uks', label', place', ks'⟩ ha hb
  have ih' : ∀ x ∈ ks, ∀ y ∈ ks', ACall Try.prog 80 [x.val, y.val] [] (fun o σ => o = .ret (.c (.d (.bool (tmsame x y)))) ∧ σ = []) := fun x hx y hy => ih x hx y (tmright_kid ha hx) (tmright_kid hb hy)
  have la := tmright_len ha
  have lb := tmright_len hb
  have le := kidsK_le k
  have fin : ownSame (.node k name arg num tk tks uk uks label place ks) (.node k' name' arg' num' tk' tks' uk' uks' label' place' ks') = true → ∀ env, get env 2 = .c (.ptr 0 0) → get env 3 = .c (.ptr 1 0) →
      AW Try.prog tab 0 rest80 ⟨109, env, [.var [.d (.int .i8 k), .d (.str name), .d (.str arg), .d (.int .i64 num), .d (.int .i8 tk), .d (.sl 0 2 (Ty.rows tks)), .d (.int .i8 uk), .d (.sl 0 2 (Ty.rows uks)), .d (.int .i64 label), .d (.int .i64 place), .d (.sl 0 11 (Tm.rows ks))], .var [.d (.int .i8 k'), .d (.str name'), .d (.str arg'), .d (.int .i64 num'), .d (.int .i8 tk'), .d (.sl 0 2 (Ty.rows tks')), .d (.int .i8 uk'), .d (.sl 0 2 (Ty.rows uks')), .d (.int .i64 label'), .d (.int .i64 place'), .d (.sl 0 11 (Tm.rows ks'))]], []⟩ (afin tab 0 80 Try.f80.results.toList ([] : List AObj).length (fun o σ => o = .ret (.c (.d (.bool (tmsame (.node k name arg num tk tks uk uks label place ks) (.node k' name' arg' num' tk' tks' uk' uks' label' place' ks'))))) ∧ σ = [])) := fun ho env g0 g1 => by
    have e : tmsame (.node k name arg num tk tks uk uks label place ks) (.node k' name' arg' num' tk' tks' uk' uks' label' place' ks') = tmsames ks ks' := by simp [tmsame, ho]
    have ek : k = k' := by simp only [ownSame, Bool.and_eq_true, decide_eq_true_eq] at ho; exact ho.1.1.1.1.1.1
    rw [e]
    refine AW.fits ?_ ?_ (rsame_rest k name arg num tk tks uk uks label place ks k' name' arg' num' tk' tks' uk' uks' label' place' ks' (by subst ek; omega) (by omega) ih')
    · exact ⟨⟨g0, g1, trivial⟩, rfl, rfl, ⟨[], rfl⟩, rfl⟩
    · rfl
  have hv := tmright_valid ha
  have hlk : k = k' → ks.length = ks'.length := fun e => by subst e; omega
  clear ih ih' ha hb la lb le
  rcases kinds k hv with rfl | rfl | rfl | rfl | rfl | rfl | rfl | rfl | rfl | rfl | rfl | rfl | rfl | rfl | rfl | rfl | rfl | rfl
  all_goals
    refine ACall.body tab_ok (ρ := 0) (N := 109) Try.func80 rfl rfl rfl rfl rfl ?_
    repeat' first
      | (refine fin ?_ _ rfl rfl)
      | refine AW.seq ?_
      | refine AW.block ?_
      | (refine AW.region tab_ok ?_; conv => whnf)
      | (refine AW.draw (id := 10) tab_ok mixed [0, 1, 2, 3, 4, 5, 6, 7, 8, 9, 10, 11] (by kernel_rfl) ?_; conv => whnf)
      | (refine AW.cond ?_; conv => whnf)
      | (refine AW.skip ?_; conv => whnf)
      | (refine AW.ret ?_; conv => whnf)
      | (refine AW.exit ?_; conv => whnf)
      | (refine (rhasName_call _).mono ?_; rintro _ _ ⟨rfl, rfl⟩; conv => whnf)
      | (refine (rhasArg_call _).mono ?_; rintro _ _ ⟨rfl, rfl⟩; conv => whnf)
      | (refine (rhasType_call _).mono ?_; rintro _ _ ⟨rfl, rfl⟩; conv => whnf)
      | (refine (rhasTo_call _).mono ?_; rintro _ _ ⟨rfl, rfl⟩; conv => whnf)
      | (refine (rSame_call (.node tk tks) (.node tk' tks')).mono ?_; rintro _ _ ⟨rfl, rfl⟩; conv => whnf)
      | (refine (rSame_call (.node uk uks) (.node uk' uks')).mono ?_; rintro _ _ ⟨rfl, rfl⟩; conv => whnf)
      | (refine And.intro (@rfl Val _) ?_; conv => whnf)
      | (refine And.intro (by decide) ?_; conv => whnf)
      | (refine cs (fun _ => ?_) (fun _ => ?_) <;> conv => whnf)
  all_goals clear fin hv
  all_goals first
    | (refine ⟨outb ?_, rfl⟩
       simp only [tmsame, ownSame]
       try simp [kidsK, validK, nameK, argK, typeK, toK, trows_length] at *
       try simp_all
       done)
    | (simp only [ownSame]
       try simp [kidsK, validK, nameK, argK, typeK, toK, trows_length] at *
       try simp_all
       done)
    | trace_state

def sameT (a b : Tm) : Bool := decide (tmcheck a = 0) && decide (tmcheck b = 0) && tmsame a b
theorem tmcheck_right {t : Tm} (h : tmcheck t = 0) : tmright t = true := by
  unfold tmcheck at h
  split at h
  · omega
  · split at h
    · omega
    · split at h
      · assumption
      · omega
set_option maxRecDepth 10000 in
theorem tSame_call (a b : Tm) : ACall Try.prog 23 [a.val, b.val] [] (fun o σ => o = .ret (.c (.d (.bool (sameT a b)))) ∧ σ = []) := by
  have c1 := tmCheck_call a
  have c2 := tmCheck_call b
  have c3 : tmcheck a = 0 → tmcheck b = 0 → ACall Try.prog 57 [.c (.d (.rp 0 a.cells)), .c (.d (.rp 0 b.cells))] [] (fun o σ => o = .ret (.c (.d (.bool (tmsame a b)))) ∧ σ = []) := fun h1 h2 => tmsame_call a b (tmcheck_right h1) (tmcheck_right h2)
  have e : sameT a b = (decide (tmcheck a = 0) && decide (tmcheck b = 0) && tmsame a b) := rfl
  rw [e]
  generalize tmcheck a = ca at *
  generalize tmcheck b = cb at *
  generalize tmsame a b = ss at *
  obtain ⟨k, name, arg, num, tk, tks, uk, uks, label, place, ks⟩ := a
  obtain ⟨k', name', arg', num', tk', tks', uk', uks', label', place', ks'⟩ := b
  refine ACall.body tab_ok (ρ := 0) (N := 16) Try.func23 rfl rfl rfl rfl rfl ?_
  repeat' first
    | refine AW.seq ?_
    | refine AW.block ?_
    | (refine AW.region tab_ok ?_; conv => whnf)
    | (refine AW.cond ?_; conv => whnf)
    | (refine AW.skip ?_; conv => whnf)
    | (refine AW.ret ?_; conv => whnf)
    | (refine AW.exit ?_; conv => whnf)
    | (refine (c1).mono ?_; rintro _ _ ⟨rfl, rfl⟩; conv => whnf)
    | (refine (c2).mono ?_; rintro _ _ ⟨rfl, rfl⟩; conv => whnf)
    | (refine And.intro (@rfl Val _) ?_; conv => whnf)
    | (refine And.intro (by decide) ?_; conv => whnf)
    | (refine cs (fun _ => ?_) (fun _ => ?_) <;> conv => whnf)
  · rename_i h1 h2
    have h1 : ca = 0 := by simpa using h1
    have h2 : cb = 0 := by simpa using h2
    refine (c3 h1 h2).mono ?_
    rintro _ _ ⟨rfl, rfl⟩
    conv => whnf
    repeat' first
      | refine AW.seq ?_
      | refine AW.block ?_
      | (refine AW.region tab_ok ?_; conv => whnf)
      | (refine AW.cond ?_; conv => whnf)
      | (refine AW.skip ?_; conv => whnf)
      | (refine AW.ret ?_; conv => whnf)
      | (refine AW.exit ?_; conv => whnf)
      | (refine And.intro (@rfl Val _) ?_; conv => whnf)
      | (refine And.intro (by decide) ?_; conv => whnf)
      | (refine cs (fun _ => ?_) (fun _ => ?_) <;> conv => whnf)
    exact ⟨outb (by simp [h1, h2]), rfl⟩
  · rename_i h1 h2
    simp at h1 h2
    exact ⟨outb (by simp [h1, h2]), rfl⟩
  · rename_i h1
    simp at h1
    exact ⟨outb (by simp [h1]), rfl⟩
set_option maxRecDepth 10000 in
theorem rtSame_call (a b : Tm) : ACall Try.prog 38 [a.val, b.val] [] (fun o σ => o = .ret (.c (.d (.bool (sameT a b)))) ∧ σ = []) := by
  have c1 := rtmCheck_call a
  have c2 := rtmCheck_call b
  have c3 : tmcheck a = 0 → tmcheck b = 0 → ACall Try.prog 80 [a.val, b.val] [] (fun o σ => o = .ret (.c (.d (.bool (tmsame a b)))) ∧ σ = []) := fun h1 h2 => rtmsame_call a b (tmcheck_right h1) (tmcheck_right h2)
  have e : sameT a b = (decide (tmcheck a = 0) && decide (tmcheck b = 0) && tmsame a b) := rfl
  rw [e]
  generalize tmcheck a = ca at *
  generalize tmcheck b = cb at *
  generalize tmsame a b = ss at *
  obtain ⟨k, name, arg, num, tk, tks, uk, uks, label, place, ks⟩ := a
  obtain ⟨k', name', arg', num', tk', tks', uk', uks', label', place', ks'⟩ := b
  refine ACall.body tab_ok (ρ := 0) (N := 18) Try.func38 rfl rfl rfl rfl rfl ?_
  repeat' first
    | refine AW.seq ?_
    | refine AW.block ?_
    | (refine AW.region tab_ok ?_; conv => whnf)
    | (refine AW.cond ?_; conv => whnf)
    | (refine AW.skip ?_; conv => whnf)
    | (refine AW.ret ?_; conv => whnf)
    | (refine AW.exit ?_; conv => whnf)
    | (refine (c1).mono ?_; rintro _ _ ⟨rfl, rfl⟩; conv => whnf)
    | (refine (c2).mono ?_; rintro _ _ ⟨rfl, rfl⟩; conv => whnf)
    | (refine And.intro (@rfl Val _) ?_; conv => whnf)
    | (refine And.intro (by decide) ?_; conv => whnf)
    | (refine cs (fun _ => ?_) (fun _ => ?_) <;> conv => whnf)
  · rename_i h1 h2
    have h1 : ca = 0 := by simpa using h1
    have h2 : cb = 0 := by simpa using h2
    refine (c3 h1 h2).mono ?_
    rintro _ _ ⟨rfl, rfl⟩
    conv => whnf
    repeat' first
      | refine AW.seq ?_
      | refine AW.block ?_
      | (refine AW.region tab_ok ?_; conv => whnf)
      | (refine AW.cond ?_; conv => whnf)
      | (refine AW.skip ?_; conv => whnf)
      | (refine AW.ret ?_; conv => whnf)
      | (refine AW.exit ?_; conv => whnf)
      | (refine And.intro (@rfl Val _) ?_; conv => whnf)
      | (refine And.intro (by decide) ?_; conv => whnf)
      | (refine cs (fun _ => ?_) (fun _ => ?_) <;> conv => whnf)
    exact ⟨outb (by simp [h1, h2]), rfl⟩
  · rename_i h1 h2
    simp at h1 h2
    exact ⟨outb (by simp [h1, h2]), rfl⟩
  · rename_i h1
    simp at h1
    exact ⟨outb (by simp [h1]), rfl⟩
end Go.Proofs.Ytoglfnjankinnaa.E
