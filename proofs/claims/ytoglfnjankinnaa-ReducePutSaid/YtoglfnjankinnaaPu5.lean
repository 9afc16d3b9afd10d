/- A value put for a name: Put, both. No conditions. -/
import Derived.Test.YtoglfnjankinnaaPu4
import Derived.Test.YtoglfnjankinnaaOn2
set_option linter.unusedVariables false
set_option linter.unusedSimpArgs false
namespace Go.Proofs.Ytoglfnjankinnaa.E
open Go

set_option maxRecDepth 10000 in
theorem put_call (name : ByteArray) (v : Tm) (t : Tm) (hN : tmN t ≤ 8192) : ACall Try.prog 75 [t.val, .c (.d (.str name)), v.val] [] (fun o σ => o = .ret (tmput name v t).val ∧ σ = []) := by
  have c := into_call name v t hN
  generalize tmput name v t = q at *
  generalize tmhit name t = b at *
  clear hN
  obtain ⟨k, nm, arg, num, tk, tks, uk, uks, label, place, ks⟩ := t
  obtain ⟨kx, nx, gx, ux, tkx, tsx, ukx, usx, lx, px, ksx⟩ := v
  obtain ⟨kq, nq, gq, uq, tkq, tsq, ukq, usq, lq, pq, ksq⟩ := q
  refine ACall.body tab_ok (ρ := 0) (N := 21) Try.func75 rfl rfl rfl rfl rfl ?_
  repeat' first
    | refine AW.seq ?_
    | refine AW.block ?_
    | (refine AW.region tab_ok ?_; conv => whnf)
    | (refine AW.cond ?_; conv => whnf)
    | (refine AW.skip ?_; conv => whnf)
    | (refine AW.ret ?_; conv => whnf)
    | (refine AW.exit ?_; conv => whnf)
    | (refine (c).mono ?_; rintro _ _ ⟨rfl, rfl⟩; conv => whnf)
    | (refine And.intro (@rfl Val _) ?_; conv => whnf)
    | (refine And.intro (by decide) ?_; conv => whnf)
    | (refine cs (fun _ => ?_) (fun _ => ?_) <;> conv => whnf)
  exact ⟨rfl, rfl⟩
def tmputE (t : Tm) (name : ByteArray) (v : Tm) : Int := if tmcheck t ≠ 0 then tmcheck t else if tmcheck v ≠ 0 then tmcheck v else if 0 < (freeS v).length then 30 else fitsF (tmput name v t)
def tmputT (t : Tm) (name : ByteArray) (v : Tm) : Tm := if tmputE t name v = 0 then tmput name v t else tm0
structure TwoI (a b : Int) where
  i : Nat
  hi : i ≤ 2
  h0 : 0 < i → a = 0
  h1 : 1 < i → b = 0
set_option maxRecDepth 10000 in
theorem Put_call (t : Tm) (name : ByteArray) (v : Tm) (hF : tmcheck t = 0 → tmcheck v = 0 → Fine2 (tmput name v t)) : ACall Try.prog 36 [t.val, .c (.d (.str name)), v.val] []
    (fun o σ => o = .ret (.tup [(tmputT t name v).val, .c (.d (.int .i64 (tmputE t name v)))]) ∧ σ = []) := by
  have c1 := tmCheck_call t
  have c2 := tmCheck_call v
  have c3 := tFree_call v
  have c4 : tmcheck t = 0 → ACall Try.prog 75 [t.val, .c (.d (.str name)), v.val] [] (fun o σ => o = .ret (tmput name v t).val ∧ σ = []) := fun h => put_call name v t (tmcheck_ok h).1
  have c5 := fits_call (tmput name v t)
  have c6 : tmcheck t = 0 → tmcheck v = 0 → ACall Try.prog 77 [(tmput name v t).val] [] (fun o σ => o = .ret (tmput name v t).val ∧ σ = []) := fun h h' => copied_call _ (hF h h')
  have e1 : tmcheck t ≠ 0 → tmputE t name v = tmcheck t ∧ tmputT t name v = tm0 := fun h => by
    have : tmputE t name v = tmcheck t := by simp [tmputE, h]
    exact ⟨this, by simp [tmputT, this, h]⟩
  have e2 : tmcheck t = 0 → tmcheck v ≠ 0 → tmputE t name v = tmcheck v ∧ tmputT t name v = tm0 := fun h h' => by
    have : tmputE t name v = tmcheck v := by simp [tmputE, h, h']
    exact ⟨this, by simp [tmputT, this, h']⟩
  have e3 : tmcheck t = 0 → tmcheck v = 0 → 0 < (freeS v).length → tmputE t name v = 30 ∧ tmputT t name v = tm0 := fun h h' h2 => by
    have : tmputE t name v = 30 := by simp [tmputE, h, h', h2]
    exact ⟨this, by simp [tmputT, this]⟩
  have e4 : tmcheck t = 0 → tmcheck v = 0 → ¬ 0 < (freeS v).length → tmputE t name v = fitsF (tmput name v t) := fun h h' h2 => by simp [tmputE, h, h', h2]
  have e5 : tmcheck t = 0 → tmcheck v = 0 → ¬ 0 < (freeS v).length → fitsF (tmput name v t) = 0 → tmputT t name v = tmput name v t := fun h h' h2 h3 => by simp [tmputT, e4 h h' h2, h3]
  have e6 : tmcheck t = 0 → tmcheck v = 0 → ¬ 0 < (freeS v).length → fitsF (tmput name v t) ≠ 0 → tmputT t name v = tm0 := fun h h' h2 h3 => by simp [tmputT, e4 h h' h2, h3]
  generalize tmputE t name v = E at *
  generalize tmputT t name v = T at *
  generalize fitsF (tmput name v t) = f at *
  generalize tmput name v t = q at *
  generalize tmcheck t = a at *
  generalize tmcheck v = b at *
  generalize freeS v = L at *
  clear hF
  obtain ⟨k, nm, arg, num, tk, tks, uk, uks, label, place, ks⟩ := t
  obtain ⟨kx, nx, gx, ux, tkx, tsx, ukx, usx, lx, px, ksx⟩ := v
  obtain ⟨kq, nq, gq, uq, tkq, tsq, ukq, usq, lq, pq, ksq⟩ := q
  refine ACall.body tab_ok (ρ := 0) (N := 45) Try.func36 rfl rfl rfl rfl rfl ?_
  repeat' first
    | refine AW.seq ?_
    | refine AW.block ?_
    | (refine AW.region tab_ok ?_; conv => whnf)
    | (refine AW.cond ?_; conv => whnf)
    | (refine AW.skip ?_; conv => whnf)
    | (refine AW.ret ?_; conv => whnf)
    | (refine AW.exit ?_; conv => whnf)
    | (refine And.intro (@rfl Val _) ?_; conv => whnf)
    | (refine And.intro (by decide) ?_; conv => whnf)
    | (refine cs (fun _ => ?_) (fun _ => ?_) <;> conv => whnf)
  refine AW.loop (ι := TwoI a b) (fun x => ⟨45, [(17, .c (.d (.int .i64 x.i))), (16, .c (.d (.int .i64 2))), (15, .c (.d (.sl 0 11 [(Tm.node k nm arg num tk tks uk uks label place ks).cells, (Tm.node kx nx gx ux tkx tsx ukx usx lx px ksx).cells]))), (1, .c (.d (.str name))), (3, .c (.ptr 0 0)), (5, .c (.ptr 1 0)), (6, .c (.ptr 2 0))],
      [.var ((Tm.node k nm arg num tk tks uk uks label place ks).cells.map .d), .var ((Tm.node kx nx gx ux tkx tsx ukx usx lx px ksx).cells.map .d),
       .var [.d (.int .i8 0), .d (.str ⟨#[]⟩), .d (.str ⟨#[]⟩), .d (.int .i64 0), .d (.int .i8 0), .d .nils, .d (.int .i8 0), .d .nils, .d (.int .i64 0), .d (.int .i64 0), .d .nils]], []⟩)
    (fun x => 2 - x.i) ⟨0, Nat.zero_le _, fun h => by omega, fun h => by omega⟩ 3 (fun _ => rfl) (Nat.le_of_ble_eq_true rfl) ⟨⟨rfl, rfl, rfl, rfl, rfl, rfl, rfl, trivial⟩, rfl, rfl, ⟨[], rfl⟩, rfl⟩ (fun x => ?_)
  obtain ⟨i, hi, h0, h1⟩ := x
  match i, hi, h0, h1 with
  | 0, hi, h0, h1 =>
    repeat' first
      | refine AW.seq ?_
      | refine AW.block ?_
      | (refine AW.region tab_ok ?_; conv => whnf)
      | (refine AW.cond ?_; conv => whnf)
      | (refine AW.skip ?_; conv => whnf)
      | (refine AW.ret ?_; conv => whnf)
      | (refine AW.exit ?_; conv => whnf)
      | (refine (c1).mono ?_; rintro _ _ ⟨rfl, rfl⟩; conv => whnf)
      | (refine And.intro (@rfl Val _) ?_; conv => whnf)
      | (refine And.intro (by decide) ?_; conv => whnf)
      | (refine cs (fun _ => ?_) (fun _ => ?_) <;> conv => whnf)
    refine ⟨⟨by simp only; omega, by simp only [List.length_cons, List.length_nil]; omega⟩, fun row hrow => ?_⟩
    obtain rfl : (Tm.node k nm arg num tk tks uk uks label place ks).cells = row := Option.some.inj hrow
    conv => whnf
    repeat' first
      | refine AW.seq ?_
      | refine AW.block ?_
      | (refine AW.region tab_ok ?_; conv => whnf)
      | (refine AW.cond ?_; conv => whnf)
      | (refine AW.skip ?_; conv => whnf)
      | (refine AW.ret ?_; conv => whnf)
      | (refine AW.exit ?_; conv => whnf)
      | (refine (c1).mono ?_; rintro _ _ ⟨rfl, rfl⟩; conv => whnf)
      | (refine And.intro (@rfl Val _) ?_; conv => whnf)
      | (refine And.intro (by decide) ?_; conv => whnf)
      | (refine cs (fun _ => ?_) (fun _ => ?_) <;> conv => whnf)
    · rename_i g1 g2
      obtain ⟨rfl, rfl⟩ := e1 (by simpa using g2)
      exact ⟨rfl, rfl⟩
    · rename_i g1 g2
      rw [wrap64 (by simp only; omega) (by simp only; omega)]
      exact ⟨⟨1, by omega, fun _ => by simpa using g2, fun h => by omega⟩, ⟨⟨rfl, rfl, rfl, rfl, rfl, rfl, rfl, trivial⟩, rfl, rfl, ⟨[_], rfl⟩, rfl⟩, show 2 - 1 < 2 - 0 by omega⟩
  | 1, hi, h0, h1 =>
    repeat' first
      | refine AW.seq ?_
      | refine AW.block ?_
      | (refine AW.region tab_ok ?_; conv => whnf)
      | (refine AW.cond ?_; conv => whnf)
      | (refine AW.skip ?_; conv => whnf)
      | (refine AW.ret ?_; conv => whnf)
      | (refine AW.exit ?_; conv => whnf)
      | (refine (c2).mono ?_; rintro _ _ ⟨rfl, rfl⟩; conv => whnf)
      | (refine And.intro (@rfl Val _) ?_; conv => whnf)
      | (refine And.intro (by decide) ?_; conv => whnf)
      | (refine cs (fun _ => ?_) (fun _ => ?_) <;> conv => whnf)
    refine ⟨⟨by simp only; omega, by simp only [List.length_cons, List.length_nil]; omega⟩, fun row hrow => ?_⟩
    obtain rfl : (Tm.node kx nx gx ux tkx tsx ukx usx lx px ksx).cells = row := Option.some.inj hrow
    conv => whnf
    repeat' first
      | refine AW.seq ?_
      | refine AW.block ?_
      | (refine AW.region tab_ok ?_; conv => whnf)
      | (refine AW.cond ?_; conv => whnf)
      | (refine AW.skip ?_; conv => whnf)
      | (refine AW.ret ?_; conv => whnf)
      | (refine AW.exit ?_; conv => whnf)
      | (refine (c2).mono ?_; rintro _ _ ⟨rfl, rfl⟩; conv => whnf)
      | (refine And.intro (@rfl Val _) ?_; conv => whnf)
      | (refine And.intro (by decide) ?_; conv => whnf)
      | (refine cs (fun _ => ?_) (fun _ => ?_) <;> conv => whnf)
    · rename_i g1 g2
      obtain ⟨rfl, rfl⟩ := e2 (h0 (by omega)) (by simpa using g2)
      exact ⟨rfl, rfl⟩
    · rename_i g1 g2
      rw [wrap64 (by simp only; omega) (by simp only; omega)]
      exact ⟨⟨2, by omega, fun _ => h0 (by omega), fun _ => by simpa using g2⟩, ⟨⟨rfl, rfl, rfl, rfl, rfl, rfl, rfl, trivial⟩, rfl, rfl, ⟨[_], rfl⟩, rfl⟩, show 2 - 2 < 2 - 1 by omega⟩
  | 2, hi, h0, h1 =>
    obtain rfl := h0 (by omega)
    obtain rfl := h1 (by omega)
    have c4 := c4 rfl
    have c6 := c6 rfl rfl
    repeat' first
      | refine AW.seq ?_
      | refine AW.block ?_
      | (refine AW.region tab_ok ?_; conv => whnf)
      | (refine AW.cond ?_; conv => whnf)
      | (refine AW.skip ?_; conv => whnf)
      | (refine AW.ret ?_; conv => whnf)
      | (refine AW.exit ?_; conv => whnf)
      | (refine (c3).mono ?_; rintro _ _ ⟨rfl, rfl⟩; conv => whnf)
      | (refine (c4).mono ?_; rintro _ _ ⟨rfl, rfl⟩; conv => whnf)
      | (refine (c5).mono ?_; rintro _ _ ⟨rfl, rfl⟩; conv => whnf)
      | (refine (c6).mono ?_; rintro _ _ ⟨rfl, rfl⟩; conv => whnf)
      | (refine And.intro (@rfl Val _) ?_; conv => whnf)
      | (refine And.intro (by decide) ?_; conv => whnf)
      | (refine cs (fun _ => ?_) (fun _ => ?_) <;> conv => whnf)
    · rename_i g1
      have g1 : ((strs L).length : Int) > 0 := of_decide_eq_true g1
      rw [strs_len] at g1
      obtain ⟨rfl, rfl⟩ := e3 rfl rfl (by omega)
      exact ⟨rfl, rfl⟩
    · rename_i g1 g2
      have g1 : ¬ ((strs L).length : Int) > 0 := of_decide_eq_false g1
      rw [strs_len] at g1
      have hf : f ≠ 0 := by simpa using g2
      obtain rfl := e4 rfl rfl (by omega)
      obtain rfl := e6 rfl rfl (by omega) hf
      exact ⟨rfl, rfl⟩
    · rename_i g1 g2
      have g1 : ¬ ((strs L).length : Int) > 0 := of_decide_eq_false g1
      rw [strs_len] at g1
      have hf : f = 0 := by simpa using g2
      obtain rfl := e4 rfl rfl (by omega)
      obtain rfl := e5 rfl rfl (by omega) hf
      rw [hf]
      exact ⟨rfl, rfl⟩
set_option maxRecDepth 10000 in
theorem rPut_call (t : Tm) (name : ByteArray) (v : Tm) : ACall Try.prog 37 [t.val, .c (.d (.str name)), v.val] []
    (fun o σ => o = .ret (.tup [(tmputT t name v).val, .c (.d (.int .i64 (tmputE t name v)))]) ∧ σ = []) := by
  have c1 := rtmCheck_call t
  have c2 := rtmCheck_call v
  have c3 := rFree_call v
  rw [← free_same] at c3
  have c4 : tmcheck t = 0 → ACall Try.prog 78 [t.val, .c (.d (.str name)), v.val] [] (fun o σ => o = .ret (tmput name v t).val ∧ σ = []) := fun h => rput_call name v t (tmcheck_ok h).1
  have c5 := rfits_call (tmput name v t)
  have e1 : tmcheck t ≠ 0 → tmputE t name v = tmcheck t ∧ tmputT t name v = tm0 := fun h => by
    have : tmputE t name v = tmcheck t := by simp [tmputE, h]
    exact ⟨this, by simp [tmputT, this, h]⟩
  have e2 : tmcheck t = 0 → tmcheck v ≠ 0 → tmputE t name v = tmcheck v ∧ tmputT t name v = tm0 := fun h h' => by
    have : tmputE t name v = tmcheck v := by simp [tmputE, h, h']
    exact ⟨this, by simp [tmputT, this, h']⟩
  have e3 : tmcheck t = 0 → tmcheck v = 0 → 0 < (freeS v).length → tmputE t name v = 30 ∧ tmputT t name v = tm0 := fun h h' h2 => by
    have : tmputE t name v = 30 := by simp [tmputE, h, h', h2]
    exact ⟨this, by simp [tmputT, this]⟩
  have e4 : tmcheck t = 0 → tmcheck v = 0 → ¬ 0 < (freeS v).length → tmputE t name v = fitsF (tmput name v t) := fun h h' h2 => by simp [tmputE, h, h', h2]
  have e5 : tmcheck t = 0 → tmcheck v = 0 → ¬ 0 < (freeS v).length → fitsF (tmput name v t) = 0 → tmputT t name v = tmput name v t := fun h h' h2 h3 => by simp [tmputT, e4 h h' h2, h3]
  have e6 : tmcheck t = 0 → tmcheck v = 0 → ¬ 0 < (freeS v).length → fitsF (tmput name v t) ≠ 0 → tmputT t name v = tm0 := fun h h' h2 h3 => by simp [tmputT, e4 h h' h2, h3]
  generalize tmputE t name v = E at *
  generalize tmputT t name v = T at *
  generalize fitsF (tmput name v t) = f at *
  generalize tmput name v t = q at *
  generalize tmcheck t = a at *
  generalize tmcheck v = b at *
  generalize freeS v = L at *
  obtain ⟨k, nm, arg, num, tk, tks, uk, uks, label, place, ks⟩ := t
  obtain ⟨kx, nx, gx, ux, tkx, tsx, ukx, usx, lx, px, ksx⟩ := v
  obtain ⟨kq, nq, gq, uq, tkq, tsq, ukq, usq, lq, pq, ksq⟩ := q
  by_cases ha : a = 0
  · subst ha
    by_cases hb : b = 0
    · subst hb
      have c4 := c4 rfl
      refine ACall.body tab_ok (ρ := 0) (N := 40) Try.func37 rfl rfl rfl rfl rfl ?_
      repeat' first
        | refine AW.seq ?_
        | refine AW.block ?_
        | (refine AW.region tab_ok ?_; conv => whnf)
        | (refine AW.cond ?_; conv => whnf)
        | (refine AW.skip ?_; conv => whnf)
        | (refine AW.ret ?_; conv => whnf)
        | (refine AW.exit ?_; conv => whnf)
        | (refine (c1).mono ?_; rintro _ _ ⟨rfl, rfl⟩; conv => whnf)
        | (refine (c2).mono ?_; rintro _ _ ⟨rfl, rfl⟩; conv => whnf)
        | (refine (c3).mono ?_; rintro _ _ ⟨rfl, rfl⟩; conv => whnf)
        | (refine (c4).mono ?_; rintro _ _ ⟨rfl, rfl⟩; conv => whnf)
        | (refine (c5).mono ?_; rintro _ _ ⟨rfl, rfl⟩; conv => whnf)
        | (refine And.intro (@rfl Val _) ?_; conv => whnf)
        | (refine And.intro (by decide) ?_; conv => whnf)
        | (refine cs (fun _ => ?_) (fun _ => ?_) <;> conv => whnf)
      · rename_i g1
        have g1 : ((strs L).length : Int) > 0 := of_decide_eq_true g1
        rw [strs_len] at g1
        obtain ⟨rfl, rfl⟩ := e3 rfl rfl (by omega)
        exact ⟨rfl, rfl⟩
      · rename_i g1 g2
        have g1 : ¬ ((strs L).length : Int) > 0 := of_decide_eq_false g1
        rw [strs_len] at g1
        have hf : f ≠ 0 := by simpa using g2
        obtain rfl := e4 rfl rfl (by omega)
        obtain rfl := e6 rfl rfl (by omega) hf
        exact ⟨rfl, rfl⟩
      · rename_i g1 g2
        have g1 : ¬ ((strs L).length : Int) > 0 := of_decide_eq_false g1
        rw [strs_len] at g1
        have hf : f = 0 := by simpa using g2
        obtain rfl := e4 rfl rfl (by omega)
        obtain rfl := e5 rfl rfl (by omega) hf
        rw [hf]
        exact ⟨rfl, rfl⟩
    · obtain ⟨rfl, rfl⟩ := e2 rfl hb
      clear c3 c4 c5 e1 e2 e3 e4 e5 e6
      refine ACall.body tab_ok (ρ := 0) (N := 40) Try.func37 rfl rfl rfl rfl rfl ?_
      repeat' first
        | ((refine cs (fun _ => ?_) (fun h => absurd h (by simpa using hb)); conv => whnf))
        | refine AW.seq ?_
        | refine AW.block ?_
        | (refine AW.region tab_ok ?_; conv => whnf)
        | (refine AW.cond ?_; conv => whnf)
        | (refine AW.skip ?_; conv => whnf)
        | (refine AW.ret ?_; conv => whnf)
        | (refine AW.exit ?_; conv => whnf)
        | (refine (c1).mono ?_; rintro _ _ ⟨rfl, rfl⟩; conv => whnf)
        | (refine (c2).mono ?_; rintro _ _ ⟨rfl, rfl⟩; conv => whnf)
        | (refine And.intro (@rfl Val _) ?_; conv => whnf)
        | (refine And.intro (by decide) ?_; conv => whnf)
        | (refine cs (fun _ => ?_) (fun _ => ?_) <;> conv => whnf)
      exact ⟨rfl, rfl⟩
  · obtain ⟨rfl, rfl⟩ := e1 ha
    clear c2 c3 c4 c5 e1 e2 e3 e4 e5 e6
    refine ACall.body tab_ok (ρ := 0) (N := 40) Try.func37 rfl rfl rfl rfl rfl ?_
    repeat' first
      | ((refine cs (fun _ => ?_) (fun h => absurd h (by simpa using ha)); conv => whnf))
      | refine AW.seq ?_
      | refine AW.block ?_
      | (refine AW.region tab_ok ?_; conv => whnf)
      | (refine AW.cond ?_; conv => whnf)
      | (refine AW.skip ?_; conv => whnf)
      | (refine AW.ret ?_; conv => whnf)
      | (refine AW.exit ?_; conv => whnf)
      | (refine (c1).mono ?_; rintro _ _ ⟨rfl, rfl⟩; conv => whnf)
      | (refine And.intro (@rfl Val _) ?_; conv => whnf)
      | (refine And.intro (by decide) ?_; conv => whnf)
      | (refine cs (fun _ => ?_) (fun _ => ?_) <;> conv => whnf)
    exact ⟨rfl, rfl⟩
end Go.Proofs.Ytoglfnjankinnaa.E
