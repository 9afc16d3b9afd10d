/- Texts, merged: Le2, Tm17, LeP, LeQ. No conditions. -/
import Derived.Test.YtlboogackecjlaaLe1C
import Derived.Test.YtlboogackecjlaaLe1A
import Derived.Test.YtlboogackecjlaaGenX8
import Derived.Test.YtlboogackecjlaaGenX5
/- Less annotated terms: Spots, At, All. No conditions. -/
set_option linter.unusedVariables false
set_option linter.unusedSimpArgs false
namespace Go.Proofs.Ytlboogackecjlaa.E
open Go

set_option maxRecDepth 10000 in
theorem lcast_call (t : Tm) : tmN t ≤ 8192 → ACall Try.prog 56 [.c (.d (.rp 0 t.cells))] [] (fun o σ => o = .ret (.c (.d (.bool (tmhas 17 t)))) ∧ σ = []) := by
  induction t using Tm.ind with
  | _ k name arg num tk tks uk uks label place ks ih =>
  intro hN
  have hlen := tmNL_len ks
  simp only [tmN] at hN
  have ih' : ∀ t ∈ ks, ACall Try.prog 56 [.c (.d (.rp 0 t.cells))] [] (fun o σ => o = .ret (.c (.d (.bool (tmhas 17 t)))) ∧ σ = []) := fun t ht => ih t ht (by have := tmN_mem ks t ht; omega)
  have hl8 : ks.length ≤ 8192 := by omega
  clear ih hN hlen
  refine ACall.body tab_ok (ρ := 0) (N := 25) Try.func56 rfl rfl rfl rfl rfl ?_
  repeat' first | refine AW.seq ?_ | refine AW.block ?_ | ((first | refine AW.region tab_ok ?_ | refine AW.cond ?_ | refine AW.skip ?_ | refine AW.ret ?_ | refine AW.exit ?_); conv => whnf) | ((first | refine And.intro (@rfl Val _) ?_ | refine And.intro (by decide) ?_ | refine cs (fun _ => ?_) (fun _ => ?_)) <;> conv => whnf)
  refine AW.loop (ι := TmHasI 17 ks) (fun x => ⟨25, [(9, .c (.d (.int .i64 x.i))), (8, .c (.d (.int .i64 (Tm.rows ks).length))), (0, .c (.d (.rp 0 (Tm.node k name arg num tk tks uk uks label place ks).cells)))], [], []⟩)
    (fun x => ks.length - x.i) ⟨0, Nat.zero_le _, by simp [tmhass]⟩ 0 (fun _ => rfl) (Nat.le_of_ble_eq_true rfl) ⟨⟨rfl, rfl, rfl, trivial⟩, rfl, rfl, ⟨[], rfl⟩, rfl⟩ (fun x => ?_)
  obtain ⟨i, hi, hj⟩ := x
  repeat' first | refine AW.seq ?_ | refine AW.block ?_ | ((first | refine AW.region tab_ok ?_ | refine AW.cond ?_ | refine AW.skip ?_ | refine AW.ret ?_ | refine AW.exit ?_); conv => whnf) | ((first | refine And.intro (@rfl Val _) ?_ | refine And.intro (by decide) ?_ | refine cs (fun _ => ?_) (fun _ => ?_)) <;> conv => whnf)
  · rename_i h1
    have h1 : (i : Int) < ((Tm.rows ks).length : Nat) := of_decide_eq_true h1
    refine ⟨⟨by omega, h1⟩, fun row hrow => ?_⟩
    rw [trows_length] at h1
    obtain ⟨x, ht, rfl⟩ := trows_get ks i row (by simpa using hrow)
    have hlt : i < ks.length := by omega
    have hc := ih' x (List.mem_of_getElem? ht)
    have ht1 := tmhass_take 17 ks i _ ht
    have hm1 := tmhass_mem 17 ks x (List.mem_of_getElem? ht)
    rw [hj] at ht1
    generalize tmhas 17 x = bb at hc ht1 hm1
    conv => whnf
    repeat' first | refine AW.seq ?_ | refine AW.block ?_ | ((first | refine AW.region tab_ok ?_ | refine AW.cond ?_ | refine AW.skip ?_ | refine AW.ret ?_ | refine AW.exit ?_); conv => whnf) | (refine (hc).mono ?_; rintro _ _ ⟨rfl, rfl⟩; conv => whnf) | ((first | refine And.intro (@rfl Val _) ?_ | refine And.intro (by decide) ?_ | refine cs (fun _ => ?_) (fun _ => ?_)) <;> conv => whnf)
    · rename_i h2
      subst h2
      refine ⟨outb ?_, rfl⟩
      simp [tmhas, hm1 rfl]
    · rename_i h2
      subst h2
      rw [wrap64 (x := (i : Int) + 1) (by omega) (by omega)]
      exact ⟨⟨i + 1, hlt, by rw [ht1]; rfl⟩, ⟨⟨rfl, rfl, rfl, trivial⟩, rfl, rfl, ⟨[], rfl⟩, rfl⟩, show ks.length - (i + 1) < ks.length - i by omega⟩
  · rename_i h1
    have h1 : ¬ (i : Int) < ((Tm.rows ks).length : Nat) := of_decide_eq_false h1
    rw [trows_length] at h1
    obtain rfl : i = ks.length := by omega
    simp only [List.take_length] at hj
    refine ⟨outb ?_, rfl⟩
    rw [Bool.eq_iff_iff]
    simp [tmhas, hj]
def soundE (t : Tm) : Int := if tmcheck t ≠ 0 then tmcheck t else if tmhas 17 t = true then 30 else 0
set_option maxRecDepth 10000 in
theorem lsound_call (t : Tm) : ACall Try.prog 29 [.c (.d (.rp 0 t.cells))] [] (fun o σ => o = .ret (.c (.d (.int .i64 (soundE t)))) ∧ σ = []) := by
  have c1 := tmCheck_call t
  by_cases hc : tmcheck t = 0
  · have c2 := lcast_call t (tmcheck_ok hc).1
    have e : soundE t = if tmhas 17 t = true then 30 else 0 := by simp [soundE, hc]
    rw [e]
    rw [hc] at c1
    generalize tmhas 17 t = b at *
    clear hc e
    obtain ⟨k, name, arg, num, tk, tks, uk, uks, label, place, ks⟩ := t
    refine ACall.body tab_ok (ρ := 0) (N := 13) Try.func29 rfl rfl rfl rfl rfl ?_
    repeat' first | refine AW.seq ?_ | refine AW.block ?_ | ((first | refine AW.region tab_ok ?_ | refine AW.cond ?_ | refine AW.skip ?_ | refine AW.ret ?_ | refine AW.exit ?_); conv => whnf) | ((first | refine (c1).mono ?_ | refine (c2).mono ?_); rintro _ _ ⟨rfl, rfl⟩; conv => whnf) | ((first | refine And.intro (@rfl Val _) ?_ | refine And.intro (by decide) ?_ | refine cs (fun _ => ?_) (fun _ => ?_)) <;> conv => whnf)
    · rename_i h
      rw [if_pos h]
      exact ⟨rfl, rfl⟩
    · rename_i h
      rw [if_neg (by simp [h])]
      exact ⟨rfl, rfl⟩
  · have e : soundE t = tmcheck t := by simp [soundE, hc]
    rw [e]
    generalize tmcheck t = cc at *
    clear e
    obtain ⟨k, name, arg, num, tk, tks, uk, uks, label, place, ks⟩ := t
    refine ACall.body tab_ok (ρ := 0) (N := 13) Try.func29 rfl rfl rfl rfl rfl ?_
    repeat' first | ((refine cs (fun _ => ?_) (fun h => absurd h (by simpa using hc)); conv => whnf)) | refine AW.seq ?_ | refine AW.block ?_ | ((first | refine AW.region tab_ok ?_ | refine AW.cond ?_ | refine AW.skip ?_ | refine AW.ret ?_ | refine AW.exit ?_); conv => whnf) | (refine (c1).mono ?_; rintro _ _ ⟨rfl, rfl⟩; conv => whnf) | ((first | refine And.intro (@rfl Val _) ?_ | refine And.intro (by decide) ?_ | refine cs (fun _ => ?_) (fun _ => ?_)) <;> conv => whnf)
    exact ⟨rfl, rfl⟩
theorem sound_ok {t : Tm} (h : soundE t = 0) : tmcheck t = 0 ∧ tmhas 17 t = false := by
  unfold soundE at h
  split at h
  · rename_i h1; exact absurd h h1
  · rename_i h1
    split at h
    · cases h
    · rename_i h2; exact ⟨by simpa using h1, by simpa using h2⟩
set_option maxRecDepth 10000 in
theorem lcount_call (t : Tm) (h : soundE t = 0) : ACall Try.prog 30 [.c (.d (.rp 0 t.cells))] [] (fun o σ => o = .ret (.c (.d (.int .i64 (tmSp t : Nat)))) ∧ σ = []) := by
  obtain ⟨h1, h2⟩ := sound_ok h
  obtain ⟨h3, h4⟩ := tmcheck_ok h1
  have hs := tmSp_N t h3 h2
  have c := term_callC t 0 h3 h4 h2 (by omega)
  rw [Nat.zero_add] at c
  generalize leT leBC t 0 = q at c
  generalize tmSp t = S at *
  clear h h1 h2 h3 h4
  obtain ⟨k, name, arg, num, tk, tks, uk, uks, label, place, ks⟩ := t
  refine ACall.body tab_ok (ρ := 0) (N := 8) Try.func30 rfl rfl rfl rfl rfl ?_
  repeat' first | refine AW.seq ?_ | refine AW.block ?_ | ((first | refine AW.region tab_ok ?_ | refine AW.cond ?_ | refine AW.skip ?_ | refine AW.ret ?_ | refine AW.exit ?_); conv => whnf) | (refine (c).mono ?_; rintro _ _ ⟨rfl, rfl⟩; conv => whnf) | ((first | refine And.intro (@rfl Val _) ?_ | refine And.intro (by decide) ?_ | refine cs (fun _ => ?_) (fun _ => ?_)) <;> conv => whnf)
  exact ⟨rfl, rfl⟩
def SpotsS (t : Tm) : Nat := if soundE t = 0 then tmSp t else 0
set_option maxRecDepth 10000 in
theorem Spots_call (t : Tm) : ACall Try.prog 7 [t.val] [] (fun o σ => o = .ret (.c (.d (.int .i64 (SpotsS t : Nat)))) ∧ σ = []) := by
  have c1 := lsound_call t
  unfold SpotsS
  by_cases h : soundE t = 0
  · have c2 := lcount_call t h
    rw [if_pos h]
    rw [h] at c1
    generalize tmSp t = S at *
    clear h
    obtain ⟨k, name, arg, num, tk, tks, uk, uks, label, place, ks⟩ := t
    refine ACall.body tab_ok (ρ := 0) (N := 6) Try.func7 rfl rfl rfl rfl rfl ?_
    repeat' first | refine AW.seq ?_ | refine AW.block ?_ | ((first | refine AW.region tab_ok ?_ | refine AW.cond ?_ | refine AW.skip ?_ | refine AW.ret ?_ | refine AW.exit ?_); conv => whnf) | ((first | refine (c1).mono ?_ | refine (c2).mono ?_); rintro _ _ ⟨rfl, rfl⟩; conv => whnf) | ((first | refine And.intro (@rfl Val _) ?_ | refine And.intro (by decide) ?_ | refine cs (fun _ => ?_) (fun _ => ?_)) <;> conv => whnf)
    exact ⟨rfl, rfl⟩
  · rw [if_neg h]
    generalize soundE t = S at *
    obtain ⟨k, name, arg, num, tk, tks, uk, uks, label, place, ks⟩ := t
    refine ACall.body tab_ok (ρ := 0) (N := 6) Try.func7 rfl rfl rfl rfl rfl ?_
    repeat' first | ((refine cs (fun _ => ?_) (fun g => absurd g (by simpa using h)); conv => whnf)) | refine AW.seq ?_ | refine AW.block ?_ | ((first | refine AW.region tab_ok ?_ | refine AW.cond ?_ | refine AW.skip ?_ | refine AW.ret ?_ | refine AW.exit ?_); conv => whnf) | (refine (c1).mono ?_; rintro _ _ ⟨rfl, rfl⟩; conv => whnf) | ((first | refine And.intro (@rfl Val _) ?_ | refine And.intro (by decide) ?_ | refine cs (fun _ => ?_) (fun _ => ?_)) <;> conv => whnf)
    exact ⟨rfl, rfl⟩
set_option maxRecDepth 10000 in
theorem LAll_call (t : Tm) : ACall Try.prog 11 [t.val] [] (fun o σ => o = .ret (.tup [(if soundE t = 0 then leT leBT t 0 else tm0).val, .c (.d (.int .i64 (soundE t)))]) ∧ σ = []) := by
  have c1 := lsound_call t
  by_cases h : soundE t = 0
  · obtain ⟨h1, h2⟩ := sound_ok h
    obtain ⟨h3, h4⟩ := tmcheck_ok h1
    have hs := tmSp_N t h3 h2
    have c2 := term_callT t 0 h3 h4 h2 (by omega)
    rw [if_pos h, h]
    rw [h] at c1
    generalize leT leBT t 0 = q at *
    clear h h1 h2 h3 h4 hs
    obtain ⟨k, name, arg, num, tk, tks, uk, uks, label, place, ks⟩ := t
    obtain ⟨kq, nq, gq, uq, tkq, tsq, ukq, usq, lq, pq, ksq⟩ := q
    refine ACall.body tab_ok (ρ := 0) (N := 11) Try.func11 rfl rfl rfl rfl rfl ?_
    repeat' first | refine AW.seq ?_ | refine AW.block ?_ | ((first | refine AW.region tab_ok ?_ | refine AW.cond ?_ | refine AW.skip ?_ | refine AW.ret ?_ | refine AW.exit ?_); conv => whnf) | ((first | refine (c1).mono ?_ | refine (c2).mono ?_); rintro _ _ ⟨rfl, rfl⟩; conv => whnf) | ((first | refine And.intro (@rfl Val _) ?_ | refine And.intro (by decide) ?_ | refine cs (fun _ => ?_) (fun _ => ?_)) <;> conv => whnf)
    exact ⟨rfl, rfl⟩
  · rw [if_neg h]
    generalize soundE t = S at *
    obtain ⟨k, name, arg, num, tk, tks, uk, uks, label, place, ks⟩ := t
    refine ACall.body tab_ok (ρ := 0) (N := 11) Try.func11 rfl rfl rfl rfl rfl ?_
    repeat' first | ((refine cs (fun _ => ?_) (fun g => absurd g (by simpa using h)); conv => whnf)) | refine AW.seq ?_ | refine AW.block ?_ | ((first | refine AW.region tab_ok ?_ | refine AW.cond ?_ | refine AW.skip ?_ | refine AW.ret ?_ | refine AW.exit ?_); conv => whnf) | (refine (c1).mono ?_; rintro _ _ ⟨rfl, rfl⟩; conv => whnf) | ((first | refine And.intro (@rfl Val _) ?_ | refine And.intro (by decide) ?_ | refine cs (fun _ => ?_) (fun _ => ?_)) <;> conv => whnf)
    exact ⟨rfl, rfl⟩
def ints (l : List Int) : List (List DV) := l.map fun s => [.int .i64 s]
theorem ints_len (l : List Int) : (ints l).length = l.length := by simp [ints]
theorem ints_get {l : List Int} {i : Nat} {row : List DV} (h : (ints l)[i]? = some row) : ∃ s, l[i]? = some s ∧ row = [.int .i64 s] := by
  simp only [ints, List.getElem?_map, Option.map_eq_some_iff] at h
  obtain ⟨s, h1, h2⟩ := h
  exact ⟨s, h1, h2.symm⟩
/-- Are all numbers those of spots? -/
def inSp (n : Nat) (l : List Int) : Bool := l.all fun s => decide (0 ≤ s) && decide (s < n)
def atE (t : Tm) (l : List Int) : Int := if soundE t ≠ 0 then soundE t else if inSp (tmSp t) l = true then 0 else 2
def atB (l : List Int) : Nat → Bool := fun i => decide ((i : Int) ∈ l)
def atT (t : Tm) (l : List Int) : Tm := if atE t l = 0 then leT (atB l) t 0 else tm0
theorem leBA_is (l : List Int) (h : l.length ≤ 100000) : leBA (imany l (0, [])).2 = atB l := by
  funext i
  have h0 : ∀ s, ival s [] = 0 := fun s => by rw [ival_iv]; rfl
  have := imany_val (i : Int) l (0, []) h (by rw [h0]; omega) (by rw [h0]; omega) (fun s => by rw [h0]; omega)
  simp only [leBA, atB]
  rw [h0] at this
  rw [Bool.eq_iff_iff, decide_eq_true_eq, decide_eq_true_eq, this]
  simp
structure AtI (n : Nat) (l : List Int) where
  i : Nat
  hi : i ≤ l.length
  ok : inSp n (l.take i) = true
theorem inSp_snoc (n : Nat) (l : List Int) (s : Int) : inSp n (l ++ [s]) = (inSp n l && (decide (0 ≤ s) && decide (s < n))) := by simp [inSp]
theorem encI_nil : encI [] = [] := by unfold encI; rfl
set_option maxRecDepth 10000 in
theorem At_call (t : Tm) (l : List Int) (hl : l.length ≤ 100000) : ACall Try.prog 9 [t.val, .c (.d (.sl 0 1 (ints l)))] [] (fun o σ => o = .ret (.tup [(atT t l).val, .c (.d (.int .i64 (atE t l)))]) ∧ σ = []) := by
  have c1 := lsound_call t
  by_cases h : soundE t = 0
  · have c2 := lcount_call t h
    obtain ⟨h1, h2⟩ := sound_ok h
    obtain ⟨h3, h4⟩ := tmcheck_ok h1
    have hs := tmSp_N t h3 h2
    have c3 := fun (m : Nat × IL) => term_callA m.1 m.2 t 0 h3 h4 h2 (by omega)
    have eE : atE t l = if inSp (tmSp t) l = true then 0 else 2 := by simp [atE, h]
    have eT : atT t l = if inSp (tmSp t) l = true then leT (atB l) t 0 else tm0 := by
      unfold atT; rw [eE]; split <;> simp
    rw [eE, eT, ← leBA_is l hl]
    rw [h] at c1
    simp only [Nat.zero_add] at c3
    generalize tmSp t = S at *
    generalize hL : (fun m : Nat × IL => leT (leBA m.2) t 0) = LT
    have c3 : ∀ m : Nat × IL, _ := c3
    clear h h1 h2 h3 h4 eE eT
    obtain ⟨k, name, arg, num, tk, tks, uk, uks, label, place, ks⟩ := t
    refine ACall.body tab_ok (ρ := 0) (N := 40) Try.func9 rfl rfl rfl rfl rfl ?_
    repeat' first | refine AW.seq ?_ | refine AW.block ?_ | ((first | refine AW.region tab_ok ?_ | refine AW.cond ?_ | refine AW.skip ?_ | refine AW.ret ?_ | refine AW.exit ?_); conv => whnf) | ((first | refine (c1).mono ?_ | refine (c2).mono ?_); rintro _ _ ⟨rfl, rfl⟩; conv => whnf) | ((first | refine And.intro (@rfl Val _) ?_ | refine And.intro (by decide) ?_ | refine cs (fun _ => ?_) (fun _ => ?_)) <;> conv => whnf)
    refine AW.loop (ι := AtI S l) (fun x => ⟨40, [(21, .c (.d (.int .i64 x.i))), (20, .c (.d (.int .i64 (ints l).length))), (19, .c (.d (.sl 0 1 (ints l)))), (2, .c (.ptr 0 0)), (4, .c (.ptr 1 0)), (7, .c (.d (.int .i64 (S : Nat)))), (8, .c (.ptr 3 0))],
        [.frz 0 (Tm.node k name arg num tk tks uk uks label place ks).cells, .var [.d (.int .i8 0), .d (.str ⟨#[]⟩), .d (.str ⟨#[]⟩), .d (.int .i64 0), .d (.int .i8 0), .d .nils, .d (.int .i8 0), .d .nils, .d (.int .i64 0), .d (.int .i64 0), .d .nils],
         .mp (.int .i64) (imany (l.take x.i) (0, [])).1 (encI (imany (l.take x.i) (0, [])).2), .var [.mp 2]], []⟩)
      (fun x => l.length - x.i) ⟨0, Nat.zero_le _, rfl⟩ 4 (fun _ => rfl) (Nat.le_of_ble_eq_true rfl) ⟨⟨rfl, rfl, rfl, rfl, rfl, rfl, rfl, trivial⟩, rfl, rfl, ⟨[], by simp only [List.take_zero, imany, encI_nil]; rfl⟩, rfl⟩ (fun x => ?_)
    obtain ⟨i, hi, hok⟩ := x
    repeat' first | refine AW.seq ?_ | refine AW.block ?_ | ((first | refine AW.region tab_ok ?_ | refine AW.cond ?_ | refine AW.skip ?_ | refine AW.ret ?_ | refine AW.exit ?_); conv => whnf) | ((first | refine And.intro (@rfl Val _) ?_ | refine And.intro (by decide) ?_ | refine cs (fun _ => ?_) (fun _ => ?_)) <;> conv => whnf)
    · rename_i g1
      have g1 : (i : Int) < ((ints l).length : Nat) := of_decide_eq_true g1
      refine ⟨⟨by simp only; omega, g1⟩, fun row hrow => ?_⟩
      rw [ints_len] at g1
      have hlt : i < l.length := by omega
      obtain ⟨s, hs1, rfl⟩ := ints_get (by simpa using hrow)
      have htk : l.take (i + 1) = l.take i ++ [s] := by rw [List.take_add_one, hs1]; rfl
      have hin := List.mem_of_getElem? hs1
      have hno : ¬ (0 ≤ s ∧ s < S) → inSp S l = false := fun hn => by
        cases hq : inSp S l with
        | false => rfl
        | true =>
          have := List.all_eq_true.1 hq s hin
          simp at this
          exact absurd this hn
      have hye : 0 ≤ s → s < S → inSp S (l.take (i + 1)) = true := fun h1 h2 => by
        rw [htk, inSp_snoc, hok]; simp [h1, h2]
      have hmp : imany (l.take (i + 1)) (0, []) = iput s (IntKind.i64.wrap (ival s (imany (l.take i) (0, [])).2 + 1)) (imany (l.take i) (0, [])) := by rw [htk, imany_snoc]
      conv => whnf
      repeat' first | ((refine ilook_of ?_; conv => whnf)) | ((refine iput_of ?_; conv => whnf)) | refine AW.seq ?_ | refine AW.block ?_ | ((first | refine AW.region tab_ok ?_ | refine AW.cond ?_ | refine AW.skip ?_ | refine AW.ret ?_ | refine AW.exit ?_); conv => whnf) | ((first | refine And.intro (@rfl Val _) ?_ | refine And.intro (by decide) ?_ | refine cs (fun _ => ?_) (fun _ => ?_)) <;> conv => whnf)
      · rename_i g2
        have g2 := of_decide_eq_true g2
        rw [hno (by omega)]
        exact ⟨rfl, rfl⟩
      · rename_i g2 g3
        have g2 := of_decide_eq_false g2
        have g3 : s ≥ (S : Nat) := of_decide_eq_true g3
        rw [hno (by omega)]
        exact ⟨rfl, rfl⟩
      · rename_i g2 g3
        have g2 := of_decide_eq_false g2
        have g3 : ¬ s ≥ (S : Nat) := of_decide_eq_false g3
        rw [← hmp, wrap64 (x := (i : Int) + 1) (by omega) (by omega)]
        exact ⟨⟨i + 1, by omega, hye (by omega) (by omega)⟩, ⟨⟨rfl, rfl, rfl, rfl, rfl, rfl, rfl, trivial⟩, rfl, rfl, ⟨[], rfl⟩, rfl⟩, show l.length - (i + 1) < l.length - i by omega⟩
    · rename_i g1
      have g1 : ¬ (i : Int) < ((ints l).length : Nat) := of_decide_eq_false g1
      rw [ints_len] at g1
      obtain rfl : i = l.length := by omega
      rw [List.take_length] at hok
      rw [if_pos hok, if_pos hok]
      have hT : leT (leBA (imany l (0, [])).2) (.node k name arg num tk tks uk uks label place ks) 0 = LT (imany l (0, [])) := by rw [← hL]
      have c4 := c3 (imany l (0, []))
      rw [hT] at c4 ⊢
      simp only [List.take_length]
      generalize LT (imany l (0, [])) = q at *
      generalize imany l (0, []) = mm at *
      obtain ⟨ck, ml⟩ := mm
      clear hT hL
      obtain ⟨kq, nq, gq, uq, tkq, tsq, ukq, usq, lq, pq, ksq⟩ := q
      repeat' first | refine AW.seq ?_ | refine AW.block ?_ | ((first | refine AW.region tab_ok ?_ | refine AW.cond ?_ | refine AW.skip ?_ | refine AW.ret ?_ | refine AW.exit ?_); conv => whnf) | (refine (c4).mono ?_; rintro _ _ ⟨rfl, rfl⟩; conv => whnf) | ((first | refine And.intro (@rfl Val _) ?_ | refine And.intro (by decide) ?_ | refine cs (fun _ => ?_) (fun _ => ?_)) <;> conv => whnf)
      exact ⟨rfl, rfl⟩
  · have eE : atE t l = soundE t := by simp [atE, h]
    have eT : atT t l = tm0 := by simp [atT, eE, h]
    rw [eE, eT]
    generalize soundE t = S at *
    clear eE eT
    obtain ⟨k, name, arg, num, tk, tks, uk, uks, label, place, ks⟩ := t
    refine ACall.body tab_ok (ρ := 0) (N := 40) Try.func9 rfl rfl rfl rfl rfl ?_
    repeat' first | ((refine cs (fun _ => ?_) (fun g => absurd g (by simpa using h)); conv => whnf)) | refine AW.seq ?_ | refine AW.block ?_ | ((first | refine AW.region tab_ok ?_ | refine AW.cond ?_ | refine AW.skip ?_ | refine AW.ret ?_ | refine AW.exit ?_); conv => whnf) | (refine (c1).mono ?_; rintro _ _ ⟨rfl, rfl⟩; conv => whnf) | ((first | refine And.intro (@rfl Val _) ?_ | refine And.intro (by decide) ?_ | refine cs (fun _ => ?_) (fun _ => ?_)) <;> conv => whnf)
    exact ⟨rfl, rfl⟩
end Go.Proofs.Ytlboogackecjlaa.E

/- Walk: terms of the document's answer on the order; Terms, both; the law OrderTerms. No conditions. -/
set_option linter.unusedVariables false
set_option linter.unusedSimpArgs false
namespace Go.Proofs.Ytlboogackecjlaa.E
open Go

/-! ### An open term is one -/
end Go.Proofs.Ytlboogackecjlaa.E

/- Less annotated terms: plain laws. No conditions. -/
set_option linter.unusedVariables false
set_option linter.unusedSimpArgs false
namespace Go.Proofs.Ytlboogackecjlaa.E
open Go

theorem walkTs_get (B : Nat → Bool) : ∀ (l : List Ty) (n i : Nat) x, l[i]? = some x → (walkTs B l n)[i]? = some (walkT B false x (n + spNL (l.take i)))
  | t :: l, n, 0, x, h => by simp at h; subst h; simp [walkTs, spNL]
  | t :: l, n, i + 1, x, h => by
    simp only [List.getElem?_cons_succ] at h
    have := walkTs_get B l (n + spN t) i x h
    simp only [walkTs, List.getElem?_cons_succ, this, List.take_succ_cons, spNL, Nat.add_assoc]
theorem walkTs_len (B : Nat → Bool) : ∀ (l : List Ty) (n : Nat), (walkTs B l n).length = l.length
  | [], _ => rfl
  | t :: l, n => by simp [walkTs, walkTs_len B l]
theorem walk_congr (a : Ty) (B B' : Nat → Bool) : ∀ g n, (∀ i, n ≤ i → i < n + spN a → B i = B' i) → walkT B g a n = walkT B' g a n := by
  induction a using Ty.ind with
  | _ k ks ih =>
  intro g n hB
  simp only [walkT]
  split
  · rfl
  · rename_i h0
    simp only [spN, if_neg h0] at hB
    rw [hB n (Nat.le_refl _) (by omega)]
    have : walkTs B ks (n + 1) = walkTs B' ks (n + 1) := by
      refine List.ext_getElem? fun j => ?_
      cases hx : ks[j]? with
      | none => rw [List.getElem?_eq_none (by rw [walkTs_len]; exact List.getElem?_eq_none_iff.1 hx), List.getElem?_eq_none (by rw [walkTs_len]; exact List.getElem?_eq_none_iff.1 hx)]
      | some x =>
        rw [walkTs_get B ks (n + 1) j x hx, walkTs_get B' ks (n + 1) j x hx]
        have hs := spNL_take ks j x hx
        have hl := spNL_le ks (j + 1)
        rw [ih x (List.mem_of_getElem? hx) _ _ (fun i h1 h2 => hB i (by omega) (by omega))]
    rw [this]
theorem walk_eta (a : Ty) : Ty.node (tyK a) (tyKs a) = a := by cases a; rfl

/-! ### Terms -/
theorem le_kid {B : Nat → Bool} {ks : List Tm} {n : Nat} {x : Tm} (hx : x ∈ leTs B ks n) : ∃ y ∈ ks, ∃ n', x = leT B y n' := by
  obtain ⟨j, hj⟩ := List.getElem?_of_mem hx
  have hl : j < ks.length := by have := (List.getElem?_eq_some_iff.1 hj).1; rw [leTs_len] at this; exact this
  rw [leTs_get B ks j n _ (List.getElem?_eq_getElem hl)] at hj
  cases hj
  exact ⟨_, List.getElem_mem hl, _, rfl⟩
end Go.Proofs.Ytlboogackecjlaa.E

/- Less annotated terms: plain laws, beside one another. No conditions. -/
set_option linter.unusedVariables false
set_option linter.unusedSimpArgs false
namespace Go.Proofs.Ytlboogackecjlaa.E
open Go

theorem fromA_type {k : Int} (h : k ≠ 17) : fromA k = typeK k := by rw [Bool.eq_iff_iff]; simp [fromA, typeK]; omega
theorem toA_to {k : Int} (h : k ≠ 17) : (k = 5) = (toK k = true) := by rw [eq_iff_iff]; simp [toK]; omega
theorem not17 {k name arg num tk tks uk uks label place ks} (h : tmhas 17 (.node k name arg num tk tks uk uks label place ks) = false) : k ≠ 17 := fun e => by subst e; simp [tmhas] at h
theorem le_congr (B B' : Nat → Bool) (t : Tm) : ∀ n, tmhas 17 t = false → (∀ i, n ≤ i → i < n + tmSp t → B i = B' i) → leT B t n = leT B' t n := by
  induction t using Tm.ind with
  | _ k name arg num tk tks uk uks label place ks ih =>
  intro n h17 hB
  simp only [tmSp] at hB
  have hs : leTs B ks (n + ownSp k tk tks uk uks) = leTs B' ks (n + ownSp k tk tks uk uks) := by
    refine List.ext_getElem? fun j => ?_
    cases hx : ks[j]? with
    | none => rw [List.getElem?_eq_none (by rw [leTs_len]; exact List.getElem?_eq_none_iff.1 hx), List.getElem?_eq_none (by rw [leTs_len]; exact List.getElem?_eq_none_iff.1 hx)]
    | some x =>
      rw [leTs_get B ks j _ x hx, leTs_get B' ks j _ x hx]
      have h1 := tmSpL_take ks j x hx
      have h2 := tmSpL_le ks (j + 1)
      rw [ih x (List.mem_of_getElem? hx) _ (tmhas_kid h17 (List.mem_of_getElem? hx)) (fun i g1 g2 => hB i (by omega) (by omega))]
  have e1 : fromA k = true → walkT B false (.node tk tks) n = walkT B' false (.node tk tks) n := fun hf => by
    refine walk_congr _ B B' false n fun i g1 g2 => hB i g1 ?_
    have : spN (.node tk tks) ≤ ownSp k tk tks uk uks := by simp only [ownSp, if_pos hf]; omega
    omega
  have e2 : k = 5 → walkT B false (.node uk uks) (n + spN (.node tk tks)) = walkT B' false (.node uk uks) (n + spN (.node tk tks)) := fun h5 => by
    have hf : fromA k = true := by subst h5; rfl
    refine walk_congr _ B B' false _ fun i g1 g2 => hB i (by omega) ?_
    have : spN (.node tk tks) + spN (.node uk uks) = ownSp k tk tks uk uks := by simp only [ownSp, if_pos hf, if_pos h5]
    omega
  simp only [leT, hs]
  by_cases hf : fromA k = true <;> by_cases h5 : k = 5
  · simp only [hf, h5, if_true]; subst h5; rw [e1 hf, e2 rfl]
  · simp only [hf, h5, if_true, if_false]; rw [e1 hf]
  · exact absurd (by subst h5; rfl) hf
  · simp [hf, h5]
end Go.Proofs.Ytlboogackecjlaa.E
