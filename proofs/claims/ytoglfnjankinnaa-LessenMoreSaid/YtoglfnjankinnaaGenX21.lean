/- Texts, merged: Pu5, Pu6, LeP. No conditions. -/
import Derived.Test.YtoglfnjankinnaaGenX20
import Derived.Test.YtoglfnjankinnaaGenX18
import Derived.Test.YtoglfnjankinnaaGenX19
/- A value put for a name: Put, both. No conditions. -/
set_option linter.unusedVariables false
set_option linter.unusedSimpArgs false
namespace Go.Proofs.Ytoglfnjankinnaa.E
open Go

set_option maxRecDepth 10000 in
theorem put_call (name : ByteArray) (v : Tm) (t : Tm) (hN : tmN t ≤ 8192) : ACall Try.prog 75 [t.val, .c (.d (.str name)), v.val] [] (fun o σ => o = .ret (tmput name v t).val ∧ σ = []) := by
  have c := into_call name v t hN
  generalize tmput name v t = q at *
  generalize tmhit name t = b at *
  clear hN
  obtain ⟨k, nm, arg, num, tk, tks, uk, uks, label, place, ks⟩ := t
  obtain ⟨kx, nx, gx, ux, tkx, tsx, ukx, usx, lx, px, ksx⟩ := v
  obtain ⟨kq, nq, gq, uq, tkq, tsq, ukq, usq, lq, pq, ksq⟩ := q
  refine ACall.body tab_ok (ρ := 0) (N := 21) Try.func75 rfl rfl rfl rfl rfl ?_
  repeat' first
    | refine AW.seq ?_
    | refine AW.block ?_
    | (refine AW.region tab_ok ?_; conv => whnf)
    | (refine AW.cond ?_; conv => whnf)
    | (refine AW.skip ?_; conv => whnf)
    | (refine AW.ret ?_; conv => whnf)
    | (refine AW.exit ?_; conv => whnf)
    | (refine (c).mono ?_; rintro _ _ ⟨rfl, rfl⟩; conv => whnf)
    | (refine And.intro (@rfl Val _) ?_; conv => whnf)
    | (refine And.intro (by decide) ?_; conv => whnf)
    | (refine cs (fun _ => ?_) (fun _ => ?_) <;> conv => whnf)
  exact ⟨rfl, rfl⟩
def tmputE (t : Tm) (name : ByteArray) (v : Tm) : Int := if tmcheck t ≠ 0 then tmcheck t else if tmcheck v ≠ 0 then tmcheck v else if 0 < (freeS v).length then 30 else fitsF (tmput name v t)
def tmputT (t : Tm) (name : ByteArray) (v : Tm) : Tm := if tmputE t name v = 0 then tmput name v t else tm0
structure TwoI (a b : Int) where
  i : Nat
  hi : i ≤ 2
  h0 : 0 < i → a = 0
  h1 : 1 < i → b = 0
set_option maxRecDepth 10000 in
theorem Put_call (t : Tm) (name : ByteArray) (v : Tm) (hF : tmcheck t = 0 → tmcheck v = 0 → Fine2 (tmput name v t)) : ACall Try.prog 36 [t.val, .c (.d (.str name)), v.val] []
    (fun o σ => o = .ret (.tup [(tmputT t name v).val, .c (.d (.int .i64 (tmputE t name v)))]) ∧ σ = []) := by
  have c1 := tmCheck_call t
  have c2 := tmCheck_call v
  have c3 := tFree_call v
  have c4 : tmcheck t = 0 → ACall Try.prog 75 [t.val, .c (.d (.str name)), v.val] [] (fun o σ => o = .ret (tmput name v t).val ∧ σ = []) := fun h => put_call name v t (tmcheck_ok h).1
  have c5 := fits_call (tmput name v t)
  have c6 : tmcheck t = 0 → tmcheck v = 0 → ACall Try.prog 77 [(tmput name v t).val] [] (fun o σ => o = .ret (tmput name v t).val ∧ σ = []) := fun h h' => copied_call _ (hF h h')
  have e1 : tmcheck t ≠ 0 → tmputE t name v = tmcheck t ∧ tmputT t name v = tm0 := fun h => by
    have : tmputE t name v = tmcheck t := by simp [tmputE, h]
    exact ⟨this, by simp [tmputT, this, h]⟩
  have e2 : tmcheck t = 0 → tmcheck v ≠ 0 → tmputE t name v = tmcheck v ∧ tmputT t name v = tm0 := fun h h' => by
    have : tmputE t name v = tmcheck v := by simp [tmputE, h, h']
    exact ⟨this, by simp [tmputT, this, h']⟩
  have e3 : tmcheck t = 0 → tmcheck v = 0 → 0 < (freeS v).length → tmputE t name v = 30 ∧ tmputT t name v = tm0 := fun h h' h2 => by
    have : tmputE t name v = 30 := by simp [tmputE, h, h', h2]
    exact ⟨this, by simp [tmputT, this]⟩
  have e4 : tmcheck t = 0 → tmcheck v = 0 → ¬ 0 < (freeS v).length → tmputE t name v = fitsF (tmput name v t) := fun h h' h2 => by simp [tmputE, h, h', h2]
  have e5 : tmcheck t = 0 → tmcheck v = 0 → ¬ 0 < (freeS v).length → fitsF (tmput name v t) = 0 → tmputT t name v = tmput name v t := fun h h' h2 h3 => by simp [tmputT, e4 h h' h2, h3]
  have e6 : tmcheck t = 0 → tmcheck v = 0 → ¬ 0 < (freeS v).length → fitsF (tmput name v t) ≠ 0 → tmputT t name v = tm0 := fun h h' h2 h3 => by simp [tmputT, e4 h h' h2, h3]
  generalize tmputE t name v = E at *
  generalize tmputT t name v = T at *
  generalize fitsF (tmput name v t) = f at *
  generalize tmput name v t = q at *
  generalize tmcheck t = a at *
  generalize tmcheck v = b at *
  generalize freeS v = L at *
  clear hF
  obtain ⟨k, nm, arg, num, tk, tks, uk, uks, label, place, ks⟩ := t
  obtain ⟨kx, nx, gx, ux, tkx, tsx, ukx, usx, lx, px, ksx⟩ := v
  obtain ⟨kq, nq, gq, uq, tkq, tsq, ukq, usq, lq, pq, ksq⟩ := q
  refine ACall.body tab_ok (ρ := 0) (N := 45) Try.func36 rfl rfl rfl rfl rfl ?_
  repeat' first
    | refine AW.seq ?_
    | refine AW.block ?_
    | (refine AW.region tab_ok ?_; conv => whnf)
    | (refine AW.cond ?_; conv => whnf)
    | (refine AW.skip ?_; conv => whnf)
    | (refine AW.ret ?_; conv => whnf)
    | (refine AW.exit ?_; conv => whnf)
    | (refine And.intro (@rfl Val _) ?_; conv => whnf)
    | (refine And.intro (by decide) ?_; conv => whnf)
    | (refine cs (fun _ => ?_) (fun _ => ?_) <;> conv => whnf)
  refine AW.loop (ι := TwoI a b) (fun x => ⟨45, [(17, .c (.d (.int .i64 x.i))), (16, .c (.d (.int .i64 2))), (15, .c (.d (.sl 0 11 [(Tm.node k nm arg num tk tks uk uks label place ks).cells, (Tm.node kx nx gx ux tkx tsx ukx usx lx px ksx).cells]))), (1, .c (.d (.str name))), (3, .c (.ptr 0 0)), (5, .c (.ptr 1 0)), (6, .c (.ptr 2 0))],
      [.var ((Tm.node k nm arg num tk tks uk uks label place ks).cells.map .d), .var ((Tm.node kx nx gx ux tkx tsx ukx usx lx px ksx).cells.map .d),
       .var [.d (.int .i8 0), .d (.str ⟨#[]⟩), .d (.str ⟨#[]⟩), .d (.int .i64 0), .d (.int .i8 0), .d .nils, .d (.int .i8 0), .d .nils, .d (.int .i64 0), .d (.int .i64 0), .d .nils]], []⟩)
    (fun x => 2 - x.i) ⟨0, Nat.zero_le _, fun h => by omega, fun h => by omega⟩ 3 (fun _ => rfl) (Nat.le_of_ble_eq_true rfl) ⟨⟨rfl, rfl, rfl, rfl, rfl, rfl, rfl, trivial⟩, rfl, rfl, ⟨[], rfl⟩, rfl⟩ (fun x => ?_)
  obtain ⟨i, hi, h0, h1⟩ := x
  match i, hi, h0, h1 with
  | 0, hi, h0, h1 =>
    repeat' first
      | refine AW.seq ?_
      | refine AW.block ?_
      | (refine AW.region tab_ok ?_; conv => whnf)
      | (refine AW.cond ?_; conv => whnf)
      | (refine AW.skip ?_; conv => whnf)
      | (refine AW.ret ?_; conv => whnf)
      | (refine AW.exit ?_; conv => whnf)
      | (refine (c1).mono ?_; rintro _ _ ⟨rfl, rfl⟩; conv => whnf)
      | (refine And.intro (@rfl Val _) ?_; conv => whnf)
      | (refine And.intro (by decide) ?_; conv => whnf)
      | (refine cs (fun _ => ?_) (fun _ => ?_) <;> conv => whnf)
    refine ⟨⟨by simp only; omega, by simp only [List.length_cons, List.length_nil]; omega⟩, fun row hrow => ?_⟩
    obtain rfl : (Tm.node k nm arg num tk tks uk uks label place ks).cells = row := Option.some.inj hrow
    conv => whnf
    repeat' first
      | refine AW.seq ?_
      | refine AW.block ?_
      | (refine AW.region tab_ok ?_; conv => whnf)
      | (refine AW.cond ?_; conv => whnf)
      | (refine AW.skip ?_; conv => whnf)
      | (refine AW.ret ?_; conv => whnf)
      | (refine AW.exit ?_; conv => whnf)
      | (refine (c1).mono ?_; rintro _ _ ⟨rfl, rfl⟩; conv => whnf)
      | (refine And.intro (@rfl Val _) ?_; conv => whnf)
      | (refine And.intro (by decide) ?_; conv => whnf)
      | (refine cs (fun _ => ?_) (fun _ => ?_) <;> conv => whnf)
    · rename_i g1 g2
      obtain ⟨rfl, rfl⟩ := e1 (by simpa using g2)
      exact ⟨rfl, rfl⟩
    · rename_i g1 g2
      rw [wrap64 (by simp only; omega) (by simp only; omega)]
      exact ⟨⟨1, by omega, fun _ => by simpa using g2, fun h => by omega⟩, ⟨⟨rfl, rfl, rfl, rfl, rfl, rfl, rfl, trivial⟩, rfl, rfl, ⟨[_], rfl⟩, rfl⟩, show 2 - 1 < 2 - 0 by omega⟩
  | 1, hi, h0, h1 =>
    repeat' first
      | refine AW.seq ?_
      | refine AW.block ?_
      | (refine AW.region tab_ok ?_; conv => whnf)
      | (refine AW.cond ?_; conv => whnf)
      | (refine AW.skip ?_; conv => whnf)
      | (refine AW.ret ?_; conv => whnf)
      | (refine AW.exit ?_; conv => whnf)
      | (refine (c2).mono ?_; rintro _ _ ⟨rfl, rfl⟩; conv => whnf)
      | (refine And.intro (@rfl Val _) ?_; conv => whnf)
      | (refine And.intro (by decide) ?_; conv => whnf)
      | (refine cs (fun _ => ?_) (fun _ => ?_) <;> conv => whnf)
    refine ⟨⟨by simp only; omega, by simp only [List.length_cons, List.length_nil]; omega⟩, fun row hrow => ?_⟩
    obtain rfl : (Tm.node kx nx gx ux tkx tsx ukx usx lx px ksx).cells = row := Option.some.inj hrow
    conv => whnf
    repeat' first
      | refine AW.seq ?_
      | refine AW.block ?_
      | (refine AW.region tab_ok ?_; conv => whnf)
      | (refine AW.cond ?_; conv => whnf)
      | (refine AW.skip ?_; conv => whnf)
      | (refine AW.ret ?_; conv => whnf)
      | (refine AW.exit ?_; conv => whnf)
      | (refine (c2).mono ?_; rintro _ _ ⟨rfl, rfl⟩; conv => whnf)
      | (refine And.intro (@rfl Val _) ?_; conv => whnf)
      | (refine And.intro (by decide) ?_; conv => whnf)
      | (refine cs (fun _ => ?_) (fun _ => ?_) <;> conv => whnf)
    · rename_i g1 g2
      obtain ⟨rfl, rfl⟩ := e2 (h0 (by omega)) (by simpa using g2)
      exact ⟨rfl, rfl⟩
    · rename_i g1 g2
      rw [wrap64 (by simp only; omega) (by simp only; omega)]
      exact ⟨⟨2, by omega, fun _ => h0 (by omega), fun _ => by simpa using g2⟩, ⟨⟨rfl, rfl, rfl, rfl, rfl, rfl, rfl, trivial⟩, rfl, rfl, ⟨[_], rfl⟩, rfl⟩, show 2 - 2 < 2 - 1 by omega⟩
  | 2, hi, h0, h1 =>
    obtain rfl := h0 (by omega)
    obtain rfl := h1 (by omega)
    have c4 := c4 rfl
    have c6 := c6 rfl rfl
    repeat' first
      | refine AW.seq ?_
      | refine AW.block ?_
      | (refine AW.region tab_ok ?_; conv => whnf)
      | (refine AW.cond ?_; conv => whnf)
      | (refine AW.skip ?_; conv => whnf)
      | (refine AW.ret ?_; conv => whnf)
      | (refine AW.exit ?_; conv => whnf)
      | (refine (c3).mono ?_; rintro _ _ ⟨rfl, rfl⟩; conv => whnf)
      | (refine (c4).mono ?_; rintro _ _ ⟨rfl, rfl⟩; conv => whnf)
      | (refine (c5).mono ?_; rintro _ _ ⟨rfl, rfl⟩; conv => whnf)
      | (refine (c6).mono ?_; rintro _ _ ⟨rfl, rfl⟩; conv => whnf)
      | (refine And.intro (@rfl Val _) ?_; conv => whnf)
      | (refine And.intro (by decide) ?_; conv => whnf)
      | (refine cs (fun _ => ?_) (fun _ => ?_) <;> conv => whnf)
    · rename_i g1
      have g1 : ((strs L).length : Int) > 0 := of_decide_eq_true g1
      rw [strs_len] at g1
      obtain ⟨rfl, rfl⟩ := e3 rfl rfl (by omega)
      exact ⟨rfl, rfl⟩
    · rename_i g1 g2
      have g1 : ¬ ((strs L).length : Int) > 0 := of_decide_eq_false g1
      rw [strs_len] at g1
      have hf : f ≠ 0 := by simpa using g2
      obtain rfl := e4 rfl rfl (by omega)
      obtain rfl := e6 rfl rfl (by omega) hf
      exact ⟨rfl, rfl⟩
    · rename_i g1 g2
      have g1 : ¬ ((strs L).length : Int) > 0 := of_decide_eq_false g1
      rw [strs_len] at g1
      have hf : f = 0 := by simpa using g2
      obtain rfl := e4 rfl rfl (by omega)
      obtain rfl := e5 rfl rfl (by omega) hf
      rw [hf]
      exact ⟨rfl, rfl⟩
set_option maxRecDepth 10000 in
theorem rPut_call (t : Tm) (name : ByteArray) (v : Tm) : ACall Try.prog 37 [t.val, .c (.d (.str name)), v.val] []
    (fun o σ => o = .ret (.tup [(tmputT t name v).val, .c (.d (.int .i64 (tmputE t name v)))]) ∧ σ = []) := by
  have c1 := rtmCheck_call t
  have c2 := rtmCheck_call v
  have c3 := rFree_call v
  rw [← free_same] at c3
  have c4 : tmcheck t = 0 → ACall Try.prog 78 [t.val, .c (.d (.str name)), v.val] [] (fun o σ => o = .ret (tmput name v t).val ∧ σ = []) := fun h => rput_call name v t (tmcheck_ok h).1
  have c5 := rfits_call (tmput name v t)
  have e1 : tmcheck t ≠ 0 → tmputE t name v = tmcheck t ∧ tmputT t name v = tm0 := fun h => by
    have : tmputE t name v = tmcheck t := by simp [tmputE, h]
    exact ⟨this, by simp [tmputT, this, h]⟩
  have e2 : tmcheck t = 0 → tmcheck v ≠ 0 → tmputE t name v = tmcheck v ∧ tmputT t name v = tm0 := fun h h' => by
    have : tmputE t name v = tmcheck v := by simp [tmputE, h, h']
    exact ⟨this, by simp [tmputT, this, h']⟩
  have e3 : tmcheck t = 0 → tmcheck v = 0 → 0 < (freeS v).length → tmputE t name v = 30 ∧ tmputT t name v = tm0 := fun h h' h2 => by
    have : tmputE t name v = 30 := by simp [tmputE, h, h', h2]
    exact ⟨this, by simp [tmputT, this]⟩
  have e4 : tmcheck t = 0 → tmcheck v = 0 → ¬ 0 < (freeS v).length → tmputE t name v = fitsF (tmput name v t) := fun h h' h2 => by simp [tmputE, h, h', h2]
  have e5 : tmcheck t = 0 → tmcheck v = 0 → ¬ 0 < (freeS v).length → fitsF (tmput name v t) = 0 → tmputT t name v = tmput name v t := fun h h' h2 h3 => by simp [tmputT, e4 h h' h2, h3]
  have e6 : tmcheck t = 0 → tmcheck v = 0 → ¬ 0 < (freeS v).length → fitsF (tmput name v t) ≠ 0 → tmputT t name v = tm0 := fun h h' h2 h3 => by simp [tmputT, e4 h h' h2, h3]
  generalize tmputE t name v = E at *
  generalize tmputT t name v = T at *
  generalize fitsF (tmput name v t) = f at *
  generalize tmput name v t = q at *
  generalize tmcheck t = a at *
  generalize tmcheck v = b at *
  generalize freeS v = L at *
  obtain ⟨k, nm, arg, num, tk, tks, uk, uks, label, place, ks⟩ := t
  obtain ⟨kx, nx, gx, ux, tkx, tsx, ukx, usx, lx, px, ksx⟩ := v
  obtain ⟨kq, nq, gq, uq, tkq, tsq, ukq, usq, lq, pq, ksq⟩ := q
  by_cases ha : a = 0
  · subst ha
    by_cases hb : b = 0
    · subst hb
      have c4 := c4 rfl
      refine ACall.body tab_ok (ρ := 0) (N := 40) Try.func37 rfl rfl rfl rfl rfl ?_
      repeat' first
        | refine AW.seq ?_
        | refine AW.block ?_
        | (refine AW.region tab_ok ?_; conv => whnf)
        | (refine AW.cond ?_; conv => whnf)
        | (refine AW.skip ?_; conv => whnf)
        | (refine AW.ret ?_; conv => whnf)
        | (refine AW.exit ?_; conv => whnf)
        | (refine (c1).mono ?_; rintro _ _ ⟨rfl, rfl⟩; conv => whnf)
        | (refine (c2).mono ?_; rintro _ _ ⟨rfl, rfl⟩; conv => whnf)
        | (refine (c3).mono ?_; rintro _ _ ⟨rfl, rfl⟩; conv => whnf)
        | (refine (c4).mono ?_; rintro _ _ ⟨rfl, rfl⟩; conv => whnf)
        | (refine (c5).mono ?_; rintro _ _ ⟨rfl, rfl⟩; conv => whnf)
        | (refine And.intro (@rfl Val _) ?_; conv => whnf)
        | (refine And.intro (by decide) ?_; conv => whnf)
        | (refine cs (fun _ => ?_) (fun _ => ?_) <;> conv => whnf)
      · rename_i g1
        have g1 : ((strs L).length : Int) > 0 := of_decide_eq_true g1
        rw [strs_len] at g1
        obtain ⟨rfl, rfl⟩ := e3 rfl rfl (by omega)
        exact ⟨rfl, rfl⟩
      · rename_i g1 g2
        have g1 : ¬ ((strs L).length : Int) > 0 := of_decide_eq_false g1
        rw [strs_len] at g1
        have hf : f ≠ 0 := by simpa using g2
        obtain rfl := e4 rfl rfl (by omega)
        obtain rfl := e6 rfl rfl (by omega) hf
        exact ⟨rfl, rfl⟩
      · rename_i g1 g2
        have g1 : ¬ ((strs L).length : Int) > 0 := of_decide_eq_false g1
        rw [strs_len] at g1
        have hf : f = 0 := by simpa using g2
        obtain rfl := e4 rfl rfl (by omega)
        obtain rfl := e5 rfl rfl (by omega) hf
        rw [hf]
        exact ⟨rfl, rfl⟩
    · obtain ⟨rfl, rfl⟩ := e2 rfl hb
      clear c3 c4 c5 e1 e2 e3 e4 e5 e6
      refine ACall.body tab_ok (ρ := 0) (N := 40) Try.func37 rfl rfl rfl rfl rfl ?_
      repeat' first
        | ((refine cs (fun _ => ?_) (fun h => absurd h (by simpa using hb)); conv => whnf))
        | refine AW.seq ?_
        | refine AW.block ?_
        | (refine AW.region tab_ok ?_; conv => whnf)
        | (refine AW.cond ?_; conv => whnf)
        | (refine AW.skip ?_; conv => whnf)
        | (refine AW.ret ?_; conv => whnf)
        | (refine AW.exit ?_; conv => whnf)
        | (refine (c1).mono ?_; rintro _ _ ⟨rfl, rfl⟩; conv => whnf)
        | (refine (c2).mono ?_; rintro _ _ ⟨rfl, rfl⟩; conv => whnf)
        | (refine And.intro (@rfl Val _) ?_; conv => whnf)
        | (refine And.intro (by decide) ?_; conv => whnf)
        | (refine cs (fun _ => ?_) (fun _ => ?_) <;> conv => whnf)
      exact ⟨rfl, rfl⟩
  · obtain ⟨rfl, rfl⟩ := e1 ha
    clear c2 c3 c4 c5 e1 e2 e3 e4 e5 e6
    refine ACall.body tab_ok (ρ := 0) (N := 40) Try.func37 rfl rfl rfl rfl rfl ?_
    repeat' first
      | ((refine cs (fun _ => ?_) (fun h => absurd h (by simpa using ha)); conv => whnf))
      | refine AW.seq ?_
      | refine AW.block ?_
      | (refine AW.region tab_ok ?_; conv => whnf)
      | (refine AW.cond ?_; conv => whnf)
      | (refine AW.skip ?_; conv => whnf)
      | (refine AW.ret ?_; conv => whnf)
      | (refine AW.exit ?_; conv => whnf)
      | (refine (c1).mono ?_; rintro _ _ ⟨rfl, rfl⟩; conv => whnf)
      | (refine And.intro (@rfl Val _) ?_; conv => whnf)
      | (refine And.intro (by decide) ?_; conv => whnf)
      | (refine cs (fun _ => ?_) (fun _ => ?_) <;> conv => whnf)
    exact ⟨rfl, rfl⟩
end Go.Proofs.Ytoglfnjankinnaa.E

/- A value put for a name: plain laws; the law. No conditions. -/
set_option linter.unusedVariables false
set_option linter.unusedSimpArgs false
namespace Go.Proofs.Ytoglfnjankinnaa.E
open Go

theorem tmput_right (name : ByteArray) {v : Tm} (hv : tmright v = true) (t : Tm) : tmright t = true → tmright (tmput name v t) = true := by
  induction t using Tm.ind with
  | _ k nm arg num tk tks uk uks label place ks ih =>
  intro h
  simp only [tmput]
  split
  · split
    · exact hv
    · exact h
  · have hr : tmrights (tmputs name v k nm arg 0 ks) = true := by
      refine (tmrights_all _).2 fun x hx => ?_
      obtain ⟨j, hj⟩ := List.getElem?_of_mem hx
      rw [tmputs_get] at hj
      cases hy : ks[j]? with
      | none => rw [hy] at hj; cases hj
      | some y =>
        rw [hy] at hj
        simp only [Option.map_some, Option.some.injEq] at hj
        have hm := List.mem_of_getElem? hy
        have := tmright_kid h hm
        rw [← hj]
        split
        · exact this
        · exact ih y hm this
    simp only [tmright, ownRight, Bool.and_eq_true] at h ⊢
    rw [tmputs_len]
    exact ⟨h.1, hr⟩
theorem tmsame_refl (t : Tm) : tmright t = true → tmsame t t = true := by
  induction t using Tm.ind with
  | _ k name arg num tk tks uk uks label place ks ih =>
  intro h
  obtain ⟨o1, o2⟩ := tmright_own h
  have s1 : tmsames ks ks = true := (tmsames_all ks ks rfl).2 fun j x y hx hy => by
    rw [hx] at hy; cases hy
    exact ih x (List.mem_of_getElem? hx) (tmright_kid h (List.mem_of_getElem? hx))
  simp only [tmsame, ownSame, s1]
  cases h1 : typeK k <;> cases h2 : toK k <;> simp_all [sameS_self]
theorem put_same (t : Tm) (name : ByteArray) (v : Tm) (h : tmputE t name v = 0) : sameT (tmputT t name v) (tmputT t name v) = true := by
  have ht : tmcheck t = 0 := by
    by_cases e : tmcheck t = 0
    · exact e
    · simp [tmputE, e] at h
  have hv : tmcheck v = 0 := by
    by_cases e : tmcheck v = 0
    · exact e
    · simp [tmputE, ht, e] at h
  have hT : tmputT t name v = tmput name v t := by simp [tmputT, h]
  have hf : fitsF (tmput name v t) = 0 := by
    by_cases hl : 0 < (freeS v).length
    · simp [tmputE, ht, hv, hl] at h
    · simp [tmputE, ht, hv, hl] at h; exact h
  have hr := tmput_right name (tmcheck_ok hv).2 t (tmcheck_ok ht).2
  rw [hT]
  have hN : tmN (tmput name v t) ≤ 8192 := by
    unfold fitsF at hf
    split at hf
    · cases hf
    · omega
  have hD : tmD (tmput name v t) 201 ≤ 200 := by
    unfold fitsF at hf
    rw [if_neg (by omega)] at hf
    split at hf
    · cases hf
    · rename_i hd
      simp only [tmDepth] at hd
      rw [if_neg (by omega)] at hd
      omega
  have hc := tmcheck_of hN hD hr
  simp [sameT, hc, tmsame_refl _ hr]
theorem tmput_fine (name : ByteArray) {v : Tm} (hv : Fine2 v) (t : Tm) : Fine2 t → Fine2 (tmput name v t) := by
  induction t using Tm.ind with
  | _ k nm arg num tk tks uk uks label place ks ih =>
  rintro (⟨h1, h2, h3, h4⟩)
  simp only [tmput]
  split
  · split
    · exact hv
    · exact .node h1 h2 h3 h4
  · refine .node h1 h2 (by rw [tmputs_len]; exact h3) fun x hx => ?_
    obtain ⟨j, hj⟩ := List.getElem?_of_mem hx
    rw [tmputs_get] at hj
    cases hy : ks[j]? with
    | none => rw [hy] at hj; cases hj
    | some y =>
      rw [hy] at hj
      simp only [Option.map_some, Option.some.injEq] at hj
      have hm := List.mem_of_getElem? hy
      rw [← hj]
      split
      · exact h4 y hm
      · exact ih y hm (h4 y hm)
set_option maxRecDepth 10000 in
theorem law_ReducePut (t : Tm) (name : ByteArray) (v : Tm) (ht : TmOk t) (hv : TmOk v) : ACall Try.prog 9 [t.val, .c (.d (.str name)), v.val] [] (fun o σ => o = .ret (.c (.d (.bool true))) ∧ σ = []) := by
  have c1 := Put_call t name v (fun g g' => tmput_fine name (fine2_of v hv (tmcheck_ok g').2) t (fine2_of t ht (tmcheck_ok g).2))
  have c2 := rPut_call t name v
  by_cases h : tmputE t name v = 0
  · have c3 := rtSame_call (tmputT t name v) (tmputT t name v)
    rw [put_same t name v h] at c3
    rw [h] at c1 c2
    generalize tmputT t name v = q at *
    clear ht hv h
    obtain ⟨k, nm, arg, num, tk, tks, uk, uks, label, place, ks⟩ := t
    obtain ⟨kx, nx, gx, ux, tkx, tsx, ukx, usx, lx, px, ksx⟩ := v
    obtain ⟨kq, nq, gq, uq, tkq, tsq, ukq, usq, lq, pq, ksq⟩ := q
    refine ACall.body tab_ok (ρ := 0) (N := 56) Try.func9 rfl rfl rfl rfl rfl ?_
    repeat' first
      | refine AW.seq ?_
      | refine AW.block ?_
      | (refine AW.region tab_ok ?_; conv => whnf)
      | (refine AW.cond ?_; conv => whnf)
      | (refine AW.skip ?_; conv => whnf)
      | (refine AW.ret ?_; conv => whnf)
      | (refine AW.exit ?_; conv => whnf)
      | (refine (c1).mono ?_; rintro _ _ ⟨rfl, rfl⟩; conv => whnf)
      | (refine (c2).mono ?_; rintro _ _ ⟨rfl, rfl⟩; conv => whnf)
      | (refine (c3).mono ?_; rintro _ _ ⟨rfl, rfl⟩; conv => whnf)
      | (refine And.intro (@rfl Val _) ?_; conv => whnf)
      | (refine And.intro (by decide) ?_; conv => whnf)
      | (refine cs (fun _ => ?_) (fun _ => ?_) <;> conv => whnf)
    exact ⟨rfl, rfl⟩
  · have hT : tmputT t name v = tm0 := by simp [tmputT, h]
    rw [hT] at c1 c2
    have c3 := rtnodes_call tm0
    rw [show tmN tm0 = 1 by decide +kernel] at c3
    generalize tmputE t name v = E at *
    clear ht hv hT
    obtain ⟨k, nm, arg, num, tk, tks, uk, uks, label, place, ks⟩ := t
    obtain ⟨kx, nx, gx, ux, tkx, tsx, ukx, usx, lx, px, ksx⟩ := v
    unfold tm0 at *
    refine ACall.body tab_ok (ρ := 0) (N := 56) Try.func9 rfl rfl rfl rfl rfl ?_
    repeat' first
      | refine AW.seq ?_
      | refine AW.block ?_
      | (refine AW.region tab_ok ?_; conv => whnf)
      | (refine AW.cond ?_; conv => whnf)
      | (refine AW.skip ?_; conv => whnf)
      | (refine AW.ret ?_; conv => whnf)
      | (refine AW.exit ?_; conv => whnf)
      | (refine (c1).mono ?_; rintro _ _ ⟨rfl, rfl⟩; conv => whnf)
      | (refine (c2).mono ?_; rintro _ _ ⟨rfl, rfl⟩; conv => whnf)
      | (refine (c3).mono ?_; rintro _ _ ⟨rfl, rfl⟩; conv => whnf)
      | (refine And.intro (@rfl Val _) ?_; conv => whnf)
      | (refine And.intro (by decide) ?_; conv => whnf)
      | (refine cs (fun _ => ?_) (fun _ => ?_) <;> conv => whnf)
    · rename_i g1 g2
      exact absurd (eq_of_beq g2) h
    · exact ⟨outb (by simp), rfl⟩
    · rename_i g1 g2 g3
      simp at g3
      exact absurd g3 h
    · rename_i g1
      simp at g1
end Go.Proofs.Ytoglfnjankinnaa.E

/- Less annotated terms: plain laws. No conditions. -/
set_option linter.unusedVariables false
set_option linter.unusedSimpArgs false
namespace Go.Proofs.Ytoglfnjankinnaa.E
open Go

theorem tright_zero {ks : List Ty} (h : tright (.node 0 ks) = true) : ks = [] := by
  have := tright_len h
  simp [parts] at this
  exact List.eq_nil_of_length_eq_zero (by omega)
theorem walkTs_get (B : Nat → Bool) : ∀ (l : List Ty) (n i : Nat) x, l[i]? = some x → (walkTs B l n)[i]? = some (walkT B false x (n + spNL (l.take i)))
  | t :: l, n, 0, x, h => by simp at h; subst h; simp [walkTs, spNL]
  | t :: l, n, i + 1, x, h => by
    simp only [List.getElem?_cons_succ] at h
    have := walkTs_get B l (n + spN t) i x h
    simp only [walkTs, List.getElem?_cons_succ, this, List.take_succ_cons, spNL, Nat.add_assoc]
theorem walkTs_len (B : Nat → Bool) : ∀ (l : List Ty) (n : Nat), (walkTs B l n).length = l.length
  | [], _ => rfl
  | t :: l, n => by simp [walkTs, walkTs_len B l]
theorem walk_nodes (B : Nat → Bool) (a : Ty) : ∀ g n, nodes (walkT B g a n) ≤ nodes a := by
  induction a using Ty.ind with
  | _ k ks ih =>
  intro g n
  have hs : ∀ (l : List Ty) (n : Nat), (∀ t ∈ l, ∀ g n, nodes (walkT B g t n) ≤ nodes t) → nodesL (walkTs B l n) ≤ nodesL l := fun l => by
    induction l with
    | nil => intro _ _; simp [walkTs, nodesL]
    | cons x l il =>
      intro n h
      have h1 := h x (by simp) false n
      have h2 := il (n + spN x) fun t ht => h t (by simp [ht])
      simp only [walkTs, nodesL]; omega
  have := hs ks (n + 1) ih
  simp only [walkT]
  split
  · simp only [nodes, nodesL]; omega
  · split
    · simp only [nodes, nodesL]; omega
    · simp only [nodes]; omega
theorem walk_deep (B : Nat → Bool) (a : Ty) : ∀ g n m, deepF (walkT B g a n) m ≤ deepF a m := by
  induction a using Ty.ind with
  | _ k ks ih =>
  intro g n m
  have h0 : deepF (.node 0 []) m ≤ deepF (.node k ks) m := by
    simp only [deepF, deepL]
    split <;> omega
  have hs : ∀ (l : List Ty) (n m : Nat), (∀ t ∈ l, ∀ g n m, deepF (walkT B g t n) m ≤ deepF t m) → deepL (walkTs B l n) m ≤ deepL l m := fun l => by
    induction l with
    | nil => intro _ _ _; simp [walkTs, deepL]
    | cons x l il =>
      intro n m h
      have h1 := h x (by simp) false n m
      have h2 := il (n + spN x) m fun t ht => h t (by simp [ht])
      simp only [walkTs, deepL]; omega
  simp only [walkT]
  split
  · exact h0
  · split
    · exact h0
    · have := hs ks (n + 1) (m - 1) ih
      simp only [deepF]
      split <;> omega
theorem walk_right (B : Nat → Bool) (a : Ty) : ∀ g n, tright a = true → tright (walkT B g a n) = true := by
  induction a using Ty.ind with
  | _ k ks ih =>
  intro g n h
  have h0 : tright (.node 0 []) = true := by decide
  simp only [walkT]
  split
  · exact h0
  · split
    · exact h0
    · have hr : trights (walkTs B ks (n + 1)) = true := by
        refine (trights_all _).2 fun x hx => ?_
        obtain ⟨j, hj⟩ := List.getElem?_of_mem hx
        have hl : j < ks.length := by have := (List.getElem?_eq_some_iff.1 hj).1; rw [walkTs_len] at this; exact this
        rw [walkTs_get B ks (n + 1) j _ (List.getElem?_eq_getElem hl)] at hj
        cases hj
        exact ih _ (List.getElem_mem hl) _ _ (tright_kid h (List.getElem_mem hl))
      have := tright_len h
      simp only [tright, walkTs_len, hr, Bool.and_true, decide_eq_true_eq]
      exact this
theorem walk_check (B : Nat → Bool) (a : Ty) (g : Bool) (n : Nat) (h : tcheck a = 0) : tcheck (walkT B g a n) = 0 := by
  obtain ⟨h1, h2, h3⟩ := tcheck_parts h
  have g1 := walk_nodes B a g n
  have g2 := walk_deep B a g n 201
  have g3 := walk_right B a g n h3
  unfold tcheck
  rw [if_neg (by omega), if_neg (by omega), if_pos g3]
theorem walk_same (a : Ty) (B : Nat → Bool) : ∀ n, tright a = true → (∀ i, n ≤ i → i < n + spN a → B i = false) → walkT B false a n = a := by
  induction a using Ty.ind with
  | _ k ks ih =>
  intro n h hB
  simp only [walkT]
  split
  · rename_i h0; subst h0; rw [tright_zero h]
  · rename_i h0
    simp only [spN, if_neg h0] at hB
    rw [hB n (Nat.le_refl _) (by omega)]
    have : walkTs B ks (n + 1) = ks := by
      refine List.ext_getElem? fun j => ?_
      cases hx : ks[j]? with
      | none => rw [List.getElem?_eq_none]; rw [walkTs_len]; exact List.getElem?_eq_none_iff.1 hx
      | some x =>
        rw [walkTs_get B ks (n + 1) j x hx]
        have hs := spNL_take ks j x hx
        have hl := spNL_le ks (j + 1)
        rw [ih x (List.mem_of_getElem? hx) _ (tright_kid h (List.mem_of_getElem? hx)) (fun i h1 h2 => hB i (by omega) (by omega))]
    rw [this]
    simp
theorem walk_congr (a : Ty) (B B' : Nat → Bool) : ∀ g n, (∀ i, n ≤ i → i < n + spN a → B i = B' i) → walkT B g a n = walkT B' g a n := by
  induction a using Ty.ind with
  | _ k ks ih =>
  intro g n hB
  simp only [walkT]
  split
  · rfl
  · rename_i h0
    simp only [spN, if_neg h0] at hB
    rw [hB n (Nat.le_refl _) (by omega)]
    have : walkTs B ks (n + 1) = walkTs B' ks (n + 1) := by
      refine List.ext_getElem? fun j => ?_
      cases hx : ks[j]? with
      | none => rw [List.getElem?_eq_none (by rw [walkTs_len]; exact List.getElem?_eq_none_iff.1 hx), List.getElem?_eq_none (by rw [walkTs_len]; exact List.getElem?_eq_none_iff.1 hx)]
      | some x =>
        rw [walkTs_get B ks (n + 1) j x hx, walkTs_get B' ks (n + 1) j x hx]
        have hs := spNL_take ks j x hx
        have hl := spNL_le ks (j + 1)
        rw [ih x (List.mem_of_getElem? hx) _ _ (fun i h1 h2 => hB i (by omega) (by omega))]
    rw [this]
theorem walk_less (a : Ty) (B B' : Nat → Bool) (hB : ∀ i, B i = true → B' i = true) : ∀ n, tright a = true → lessF (walkT B' false a n) (walkT B false a n) = true := by
  induction a using Ty.ind with
  | _ k ks ih =>
  intro n h
  simp only [walkT, Bool.or_false]
  split
  · simp [lessF]
  · rename_i h0
    by_cases h1 : B' n = true
    · rw [if_pos h1]
      generalize (if B n = true then Ty.node 0 [] else Ty.node k (walkTs B ks (n + 1))) = q
      obtain ⟨kq, kqs⟩ := q
      simp [lessF]
    · have h2 : ¬ B n = true := fun e => h1 (hB n e)
      rw [if_neg h1, if_neg h2]
      have : lessL (walkTs B' ks (n + 1)) (walkTs B ks (n + 1)) = true := by
        refine (lessL_all _ _ (by rw [walkTs_len, walkTs_len])).2 fun j x y hx hy => ?_
        have hl : j < ks.length := by have := (List.getElem?_eq_some_iff.1 hx).1; rw [walkTs_len] at this; exact this
        have hk := List.getElem?_eq_getElem hl
        rw [walkTs_get B' ks (n + 1) j _ hk] at hx
        rw [walkTs_get B ks (n + 1) j _ hk] at hy
        cases hx; cases hy
        exact ih _ (List.getElem_mem hl) _ (tright_kid h (List.getElem_mem hl))
      simp [lessF, this]
/-- How many of the m numbers from n on B holds for. -/
def cntB (B : Nat → Bool) (n : Nat) : Nat → Nat
  | 0 => 0
  | m + 1 => cntB B n m + if B (n + m) = true then 1 else 0
theorem cntB_le (B : Nat → Bool) (n : Nat) : ∀ m, cntB B n m ≤ m
  | 0 => Nat.le_refl 0
  | m + 1 => by have := cntB_le B n m; simp only [cntB]; split <;> omega
theorem cntB_add (B : Nat → Bool) (n m : Nat) : ∀ q, cntB B n (m + q) = cntB B n m + cntB B (n + m) q
  | 0 => by simp [cntB]
  | q + 1 => by
    have := cntB_add B n m q
    show cntB B n (m + q) + (if B (n + (m + q)) = true then 1 else 0) = _
    simp only [cntB, this, Nat.add_assoc]
theorem cntB_one (B : Nat → Bool) (n : Nat) : cntB B n 1 = if B n = true then 1 else 0 := by simp [cntB]
theorem walk_spots (a : Ty) (B : Nat → Bool) : ∀ n, spN (walkT B false a n) + cntB B n (spN a) ≤ spN a := by
  induction a using Ty.ind with
  | _ k ks ih =>
  intro n
  have hs : ∀ (l : List Ty) (n : Nat), (∀ t ∈ l, ∀ n, spN (walkT B false t n) + cntB B n (spN t) ≤ spN t) → spNL (walkTs B l n) + cntB B n (spNL l) ≤ spNL l := fun l => by
    induction l with
    | nil => intro n _; simp [walkTs, spNL, cntB]
    | cons x l il =>
      intro n h
      have h1 := h x (by simp) n
      have h2 := il (n + spN x) fun t ht => h t (by simp [ht])
      simp only [walkTs, spNL, cntB_add]; omega
  simp only [walkT, Bool.or_false]
  split
  · rename_i h0; simp [spN, h0, cntB]
  · rename_i h0
    have h1 := hs ks (n + 1) ih
    have h2 := cntB_add B n 1 (spNL ks)
    rw [cntB_one] at h2
    have h3 := cntB_le B (n + 1) (spNL ks)
    split
    · rename_i hb
      rw [if_pos hb] at h2
      simp only [spN, if_neg h0, if_true]
      omega
    · rename_i hb
      rw [if_neg hb] at h2
      simp only [spN, if_neg h0]
      omega
theorem walk_eta (a : Ty) : Ty.node (tyK a) (tyKs a) = a := by cases a; rfl

/-! ### Terms -/
theorem le_N (B : Nat → Bool) (t : Tm) : ∀ n, tmN (leT B t n) ≤ tmN t := by
  induction t using Tm.ind with
  | _ k name arg num tk tks uk uks label place ks ih =>
  intro n
  have hs : ∀ (l : List Tm) (n : Nat), (∀ t ∈ l, ∀ n, tmN (leT B t n) ≤ tmN t) → tmNL (leTs B l n) ≤ tmNL l := fun l => by
    induction l with
    | nil => intro _ _; simp [leTs, tmNL]
    | cons x l il =>
      intro n h
      have h1 := h x (by simp) n
      have h2 := il (n + tmSp x) fun t ht => h t (by simp [ht])
      simp only [leTs, tmNL]; omega
  have h0 := hs ks (n + ownSp k tk tks uk uks) ih
  have h1 := walk_nodes B (.node tk tks) false n
  have h2 := walk_nodes B (.node uk uks) false (n + spN (.node tk tks))
  have p1 : 1 ≤ nodes (.node tk tks) := by simp only [nodes]; omega
  have p2 : 1 ≤ nodes (.node uk uks) := by simp only [nodes]; omega
  have z : nodes (.node 0 []) = 1 := by simp [nodes, nodesL]
  simp only [leT, tmN]
  have m1 : (if typeK k = true then min (nodes (.node (if fromA k = true then tyK (walkT B false (.node tk tks) n) else 0) (if fromA k = true then tyKs (walkT B false (.node tk tks) n) else []))) 8193 else 0) ≤ (if typeK k = true then min (nodes (.node tk tks)) 8193 else 0) := by
    split
    · split
      · rw [walk_eta]; exact Nat.le_min.2 ⟨Nat.le_trans (Nat.min_le_left _ _) h1, Nat.min_le_right _ _⟩
      · rw [z]; exact Nat.le_min.2 ⟨Nat.le_trans (Nat.min_le_left _ _) p1, Nat.min_le_right _ _⟩
    · exact Nat.le_refl 0
  have m2 : (if toK k = true then min (nodes (.node (if k = 5 then tyK (walkT B false (.node uk uks) (n + spN (.node tk tks))) else 0) (if k = 5 then tyKs (walkT B false (.node uk uks) (n + spN (.node tk tks))) else []))) 8193 else 0) ≤ (if toK k = true then min (nodes (.node uk uks)) 8193 else 0) := by
    split
    · split
      · rw [walk_eta]; exact Nat.le_min.2 ⟨Nat.le_trans (Nat.min_le_left _ _) h2, Nat.min_le_right _ _⟩
      · rw [z]; exact Nat.le_min.2 ⟨Nat.le_trans (Nat.min_le_left _ _) p2, Nat.min_le_right _ _⟩
    · exact Nat.le_refl 0
  omega
theorem tdepth_mono {a b : Ty} (hn : nodes a ≤ nodes b) (hd : deepF a 201 ≤ deepF b 201) : tdepth a ≤ tdepth b := by
  have := deepF_le a 201
  unfold tdepth
  split <;> split <;> omega
theorem le_D (B : Nat → Bool) (t : Tm) : ∀ n m, tmD (leT B t n) m ≤ tmD t m := by
  induction t using Tm.ind with
  | _ k name arg num tk tks uk uks label place ks ih =>
  intro n m
  have hs : ∀ (l : List Tm) (n m : Nat), (∀ t ∈ l, ∀ n m, tmD (leT B t n) m ≤ tmD t m) → tmDL (leTs B l n) m ≤ tmDL l m := fun l => by
    induction l with
    | nil => intro _ _ _; simp [leTs, tmDL]
    | cons x l il =>
      intro n m h
      have h1 := h x (by simp) n m
      have h2 := il (n + tmSp x) m fun t ht => h t (by simp [ht])
      simp only [leTs, tmDL]; omega
  have h0 := hs ks (n + ownSp k tk tks uk uks) (m - 1) ih
  have h1 := tdepth_mono (walk_nodes B (.node tk tks) false n) (walk_deep B (.node tk tks) false n 201)
  have h2 := tdepth_mono (walk_nodes B (.node uk uks) false (n + spN (.node tk tks))) (walk_deep B (.node uk uks) false (n + spN (.node tk tks)) 201)
  have z : ∀ a b, tdepth (.node 0 []) ≤ tdepth (.node a b) := fun a b => by
    refine tdepth_mono (by simp [nodes, nodesL]) (by simp only [deepF, deepL]; split <;> omega)
  simp only [leT, tmD]
  split
  · exact Nat.le_refl m
  · have m1 : (if typeK k = true then tdepth (.node (if fromA k = true then tyK (walkT B false (.node tk tks) n) else 0) (if fromA k = true then tyKs (walkT B false (.node tk tks) n) else [])) else 0) ≤ (if typeK k = true then tdepth (.node tk tks) else 0) := by
      split
      · split
        · rw [walk_eta]; exact h1
        · exact z _ _
      · exact Nat.le_refl 0
    have m2 : (if toK k = true then tdepth (.node (if k = 5 then tyK (walkT B false (.node uk uks) (n + spN (.node tk tks))) else 0) (if k = 5 then tyKs (walkT B false (.node uk uks) (n + spN (.node tk tks))) else [])) else 0) ≤ (if toK k = true then tdepth (.node uk uks) else 0) := by
      split
      · split
        · rw [walk_eta]; exact h2
        · exact z _ _
      · exact Nat.le_refl 0
    omega
theorem le_kid {B : Nat → Bool} {ks : List Tm} {n : Nat} {x : Tm} (hx : x ∈ leTs B ks n) : ∃ y ∈ ks, ∃ n', x = leT B y n' := by
  obtain ⟨j, hj⟩ := List.getElem?_of_mem hx
  have hl : j < ks.length := by have := (List.getElem?_eq_some_iff.1 hj).1; rw [leTs_len] at this; exact this
  rw [leTs_get B ks j n _ (List.getElem?_eq_getElem hl)] at hj
  cases hj
  exact ⟨_, List.getElem_mem hl, _, rfl⟩
theorem tcheck_unknown : tcheck (.node 0 []) = 0 := by decide +kernel
theorem le_right (B : Nat → Bool) (t : Tm) : ∀ n, tmright t = true → tmhas 17 t = false → tmright (leT B t n) = true := by
  induction t using Tm.ind with
  | _ k name arg num tk tks uk uks label place ks ih =>
  intro n h h17
  obtain ⟨o1, o2⟩ := tmright_own h
  have hk : k ≠ 17 := fun e => by subst e; simp [tmhas] at h17
  have hr : tmrights (leTs B ks (n + ownSp k tk tks uk uks)) = true := by
    refine (tmrights_all _).2 fun x hx => ?_
    obtain ⟨y, hy, n', rfl⟩ := le_kid hx
    exact ih y hy n' (tmright_kid h hy) (tmhas_kid h17 hy)
  have t1 : typeK k = true → tcheck (.node (if fromA k = true then tyK (walkT B false (.node tk tks) n) else 0) (if fromA k = true then tyKs (walkT B false (.node tk tks) n) else [])) = 0 := fun q => by
    split
    · rw [walk_eta]; exact walk_check B _ _ _ (o1 q)
    · exact tcheck_unknown
  have t2 : toK k = true → tcheck (.node (if k = 5 then tyK (walkT B false (.node uk uks) (n + spN (.node tk tks))) else 0) (if k = 5 then tyKs (walkT B false (.node uk uks) (n + spN (.node tk tks))) else [])) = 0 := fun q => by
    split
    · rw [walk_eta]; exact walk_check B _ _ _ (o2 q)
    · exact tcheck_unknown
  simp only [leT]
  generalize (if fromA k = true then tyK (walkT B false (.node tk tks) n) else 0) = a1 at *
  generalize (if fromA k = true then tyKs (walkT B false (.node tk tks) n) else []) = a2 at *
  generalize (if k = 5 then tyK (walkT B false (.node uk uks) (n + spN (.node tk tks))) else 0) = a3 at *
  generalize (if k = 5 then tyKs (walkT B false (.node uk uks) (n + spN (.node tk tks))) else []) = a4 at *
  simp only [tmright, ownRight, hr, leTs_len, Bool.and_true] at h ⊢
  simp only [Bool.and_eq_true] at h
  obtain ⟨⟨⟨⟨⟨⟨⟨g1, g2⟩, g3⟩, g4⟩, g5⟩, g6⟩, g7⟩, g8⟩ := h
  have hk' : decide (k = 17) = false := by simpa using hk
  simp only [g1, hk', Bool.not_false, Bool.true_or, Bool.true_and]
  cases h1 : typeK k <;> cases h2 : toK k <;> cases h3 : nameK k <;> cases h4 : argK k <;> cases h5 : decide (k = 15) <;> simp_all
theorem le_cast (B : Nat → Bool) (t : Tm) : ∀ n, tmhas 17 t = false → tmhas 17 (leT B t n) = false := by
  induction t using Tm.ind with
  | _ k name arg num tk tks uk uks label place ks ih =>
  intro n h17
  have hr : ∀ (l : List Tm) (n : Nat), (∀ t ∈ l, ∀ n, tmhas 17 t = false → tmhas 17 (leT B t n) = false) → (∀ t ∈ l, tmhas 17 t = false) → tmhass 17 (leTs B l n) = false := fun l => by
    induction l with
    | nil => intro _ _ _; rfl
    | cons x l il =>
      intro n h h'
      simp only [leTs, tmhass, h x (by simp) n (h' x (by simp)), il (n + tmSp x) (fun t ht => h t (by simp [ht])) (fun t ht => h' t (by simp [ht])), Bool.or_false]
  have hk : decide (k = 17) = false := by
    simp only [tmhas, Bool.or_eq_false_iff] at h17; exact h17.1
  simp only [leT, tmhas, hk, Bool.false_or]
  exact hr ks _ ih (fun t ht => tmhas_kid h17 ht)
theorem le_sound (B : Nat → Bool) (t : Tm) (n : Nat) (h : soundE t = 0) : soundE (leT B t n) = 0 := by
  obtain ⟨h1, h2⟩ := sound_ok h
  obtain ⟨g1, g2, g3⟩ := tmcheck_parts h1
  have e1 := le_N B t n
  have e2 := le_D B t n 201
  have hc := tmcheck_of (t := leT B t n) (by omega) (by omega) (le_right B t n g3 h2)
  simp [soundE, hc, le_cast B t n h2]
end Go.Proofs.Ytoglfnjankinnaa.E
