/- Walks: casts.each with Safe's closure, Safe. No conditions. -/
import Derived.Test.YtoglfnjankinnaaCs5
set_option linter.unusedVariables false
set_option linter.unusedSimpArgs false
namespace Go.Proofs.Ytoglfnjankinnaa.E
open Go

def sstep (lab : Int) (s : Bool × Bool) (c : Ct) : Bool × Bool :=
  match c with
  | .mk tk tks uk uks label =>
    let up := belowS false (.node tk tks) (.node uk uks)
    let dn := belowS true (.node tk tks) (.node uk uks)
    let s1 := if label == lab then (s.1 && up, s.2 && dn) else s
    if label == -lab then (s1.1 && dn, s1.2 && up) else s1
def sfold (lab : Int) (s : Bool × Bool) (l : List Ct) : Bool × Bool := l.foldl (sstep lab) s
theorem sfold_append (lab : Int) (s : Bool × Bool) (l m : List Ct) : sfold lab s (l ++ m) = sfold lab (sfold lab s l) m := by simp [sfold]
set_option maxRecDepth 10000 in
theorem safe1_call (k : Int) (name arg : ByteArray) (num tk : Int) (tks : List Ty) (uk : Int) (uks : List Ty) (label place : Int) (ks : List Tm) (lab : Int) (hl1 : -9223372036854775807 ≤ lab) (hl2 : lab ≤ 9223372036854775807) (s : Bool × Bool) :
    ACall Try.prog 84 [.c (.d (.rp 0 (Tm.node k name arg num tk tks uk uks label place ks).cells)), .c (.ptr 0 0), .c (.ptr 1 0), .c (.ptr 2 0)] [.var [.d (.int .i64 lab)], .var [.d (.bool s.1)], .var [.d (.bool s.2)]]
      (fun o σ => o = .ret (.tup []) ∧ σ = [.var [.d (.int .i64 lab)], .var [.d (.bool (sstep lab s (.mk tk tks uk uks label)).1)], .var [.d (.bool (sstep lab s (.mk tk tks uk uks label)).2)]]) := by
  have w1 := Pos_call (.node tk tks) (.node uk uks)
  have w2 := Neg_call (.node tk tks) (.node uk uks)
  have e : sstep lab s (.mk tk tks uk uks label) = (let s1 := if label == lab then (s.1 && belowS false (.node tk tks) (.node uk uks), s.2 && belowS true (.node tk tks) (.node uk uks)) else s
    if label == -lab then (s1.1 && belowS true (.node tk tks) (.node uk uks), s1.2 && belowS false (.node tk tks) (.node uk uks)) else s1) := rfl
  rw [e]
  generalize belowS false (.node tk tks) (.node uk uks) = up at *
  generalize belowS true (.node tk tks) (.node uk uks) = dn at *
  clear e
  obtain ⟨p, n⟩ := s
  have hw : IntKind.i64.wrap (0 - lab) = -lab := by rw [wrap64 (by omega) (by omega)]; omega
  refine ACall.body tab_ok (ρ := 0) (N := 54) Try.func84 rfl rfl rfl rfl rfl ?_
  repeat' first
    | refine AW.seq ?_
    | refine AW.block ?_
    | (refine AW.region tab_ok ?_; conv => whnf)
    | (refine AW.draw (id := 0) tab_ok mixed [0, 1, 2, 3, 4, 5, 6, 7, 9, 10, 11, 12, 13, 14, 15, 16, 8, 17, 18, 19] (by kernel_rfl) ?_; conv => whnf)
    | (refine AW.draw (id := 1) tab_ok mixed [0, 1, 2, 3, 4, 5] (by kernel_rfl) ?_; conv => whnf)
    | (refine AW.draw (id := 3) tab_ok mixed [0, 1, 2, 3, 4, 5, 6] (by kernel_rfl) ?_; conv => whnf)
    | (refine AW.cond ?_; conv => whnf)
    | (refine AW.skip ?_; conv => whnf)
    | (refine AW.ret ?_; conv => whnf)
    | (refine AW.exit ?_; conv => whnf)
    | (refine (w1).mono ?_; rintro _ _ ⟨rfl, rfl⟩; conv => whnf)
    | (refine (w2).mono ?_; rintro _ _ ⟨rfl, rfl⟩; conv => whnf)
    | (refine And.intro (@rfl Val _) ?_; conv => whnf)
    | (refine And.intro (by decide) ?_; conv => whnf)
    | (refine cs (fun _ => ?_) (fun _ => ?_) <;> conv => whnf)
  all_goals
    refine ⟨rfl, ?_⟩
    clear w1 w2 hl1 hl2
    generalize IntKind.i64.wrap (0 - lab) = q at *
    subst hw
    generalize (label == lab) = b1 at *
    generalize (label == -lab) = b2 at *
    first | (simp_all; done) | trace_state
def safeR (lab : Int) (s : Bool × Bool) (o : Out) (σ : List AObj) : Prop := o = .ret (.tup []) ∧ σ = [.var [.d (.int .i64 lab)], .var [.d (.bool s.1)], .var [.d (.bool s.2)]]
set_option maxRecDepth 10000 in
theorem eachS_rest (k : Int) (name arg : ByteArray) (num tk : Int) (tks : List Ty) (uk : Int) (uks : List Ty) (label place : Int) (ks : List Tm) (lab : Int) (s : Bool × Bool) (hlen : ks.length ≤ 8192)
    (ih : ∀ (i : Nat) t, ks[i]? = some t → ∀ s : Bool × Bool, ACall Try.prog 42 [.c (.d (.rp 0 t.cells)), .c (.fn 84 [] [.ptr 0 0, .ptr 1 0, .ptr 2 0])] [.var [.d (.int .i64 lab)], .var [.d (.bool s.1)], .var [.d (.bool s.2)]] (safeR lab (sfold lab s (tcasts t)))) :
    AW Try.prog tab 0 rest101 ⟨30, [(0, .c (.d (.rp 0 (Tm.node k name arg num tk tks uk uks label place ks).cells))), (1, .c (.fn 84 [] [.ptr 0 0, .ptr 1 0, .ptr 2 0]))], [.var [.d (.int .i64 lab)], .var [.d (.bool s.1)], .var [.d (.bool s.2)]], []⟩
      (afin tab 0 42 [] 3 (safeR lab (sfold lab s (tcastss ks)))) := by
  repeat' first
    | refine AW.seq ?_
    | refine AW.block ?_
    | (refine AW.region tab_ok ?_; conv => whnf)
    | (refine AW.cond ?_; conv => whnf)
    | (refine AW.skip ?_; conv => whnf)
    | (refine AW.ret ?_; conv => whnf)
    | (refine AW.exit ?_; conv => whnf)
    | (refine And.intro (@rfl Val _) ?_; conv => whnf)
    | (refine And.intro (by decide) ?_; conv => whnf)
    | (refine cs (fun _ => ?_) (fun _ => ?_) <;> conv => whnf)
  refine AW.loop (ι := UpToT ks) (fun x => ⟨30, [(18, .c (.d (.int .i64 x.i))), (17, .c (.d (.int .i64 (Tm.rows ks).length))), (0, .c (.d (.rp 0 (Tm.node k name arg num tk tks uk uks label place ks).cells))), (1, .c (.fn 84 [] [.ptr 0 0, .ptr 1 0, .ptr 2 0]))], [.var [.d (.int .i64 lab)], .var [.d (.bool (sfold lab s (tcastss (ks.take x.i))).1)], .var [.d (.bool (sfold lab s (tcastss (ks.take x.i))).2)]], []⟩)
    (fun x => ks.length - x.i) ⟨0, Nat.zero_le _⟩ 3 (fun _ => rfl) (Nat.le_of_ble_eq_true rfl) ⟨⟨rfl, rfl, rfl, rfl, trivial⟩, rfl, rfl, ⟨[], rfl⟩, rfl⟩ (fun x => ?_)
  obtain ⟨i, hi⟩ := x
  repeat' first
    | refine AW.seq ?_
    | refine AW.block ?_
    | (refine AW.region tab_ok ?_; conv => whnf)
    | (refine AW.cond ?_; conv => whnf)
    | (refine AW.skip ?_; conv => whnf)
    | (refine AW.ret ?_; conv => whnf)
    | (refine AW.exit ?_; conv => whnf)
    | (refine And.intro (@rfl Val _) ?_; conv => whnf)
    | (refine And.intro (by decide) ?_; conv => whnf)
    | (refine cs (fun _ => ?_) (fun _ => ?_) <;> conv => whnf)
  · rename_i h1
    simp only [trows_length] at h1
    have := of_decide_eq_true h1
    refine ⟨by simp only [trows_length]; omega, fun row hrow => ?_⟩
    obtain ⟨t, ht, rfl⟩ := trows_get ks i row (by simpa using hrow)
    have hlt : i < ks.length := (List.getElem?_eq_some_iff.1 ht).1
    have hc := ih i t ht (sfold lab s (tcastss (ks.take i)))
    have hn := tcastss_take ks i _ ht
    rw [← sfold_append, ← hn] at hc
    conv => whnf
    repeat' first
      | refine AW.seq ?_
      | refine AW.block ?_
      | (refine AW.region tab_ok ?_; conv => whnf)
      | (refine AW.cond ?_; conv => whnf)
      | (refine AW.skip ?_; conv => whnf)
      | (refine AW.ret ?_; conv => whnf)
      | (refine AW.exit ?_; conv => whnf)
      | (refine And.intro (@rfl Val _) ?_; conv => whnf)
      | (refine And.intro (by decide) ?_; conv => whnf)
      | (refine cs (fun _ => ?_) (fun _ => ?_) <;> conv => whnf)
    refine hc.mono ?_
    rintro _ _ ⟨rfl, rfl⟩
    conv => whnf
    repeat' first
      | refine AW.seq ?_
      | refine AW.block ?_
      | (refine AW.region tab_ok ?_; conv => whnf)
      | (refine AW.cond ?_; conv => whnf)
      | (refine AW.skip ?_; conv => whnf)
      | (refine AW.ret ?_; conv => whnf)
      | (refine AW.exit ?_; conv => whnf)
      | (refine And.intro (@rfl Val _) ?_; conv => whnf)
      | (refine And.intro (by decide) ?_; conv => whnf)
      | (refine cs (fun _ => ?_) (fun _ => ?_) <;> conv => whnf)
    rw [wrap64 (x := (i : Int) + 1) (by omega) (by omega)]
    exact ⟨⟨i + 1, hlt⟩, ⟨⟨rfl, rfl, rfl, rfl, trivial⟩, rfl, rfl, ⟨[], rfl⟩, rfl⟩, show ks.length - (i + 1) < ks.length - i by omega⟩
  · rename_i h1
    simp only [trows_length] at h1
    have := of_decide_eq_false h1
    obtain rfl : i = ks.length := by omega
    simp only [List.take_length]
    first | exact ⟨rfl, rfl⟩ | exact ⟨rfl, trivial⟩ | exact ⟨trivial, rfl⟩
set_option maxRecDepth 10000 in
theorem eachS_call (t : Tm) (lab : Int) (hl1 : -9223372036854775807 ≤ lab) (hl2 : lab ≤ 9223372036854775807) : ∀ s : Bool × Bool, tmN t ≤ 8192 → ACall Try.prog 42 [.c (.d (.rp 0 t.cells)), .c (.fn 84 [] [.ptr 0 0, .ptr 1 0, .ptr 2 0])] [.var [.d (.int .i64 lab)], .var [.d (.bool s.1)], .var [.d (.bool s.2)]] (safeR lab (sfold lab s (tcasts t))) := by
  induction t using Tm.ind with
  | _ k name arg num tk tks uk uks label place ks ih =>
  intro s hN
  have hlen := tmNL_len ks
  simp only [tmN] at hN
  have ih' : ∀ (i : Nat) t, ks[i]? = some t → ∀ s : Bool × Bool, ACall Try.prog 42 [.c (.d (.rp 0 t.cells)), .c (.fn 84 [] [.ptr 0 0, .ptr 1 0, .ptr 2 0])] [.var [.d (.int .i64 lab)], .var [.d (.bool s.1)], .var [.d (.bool s.2)]] (safeR lab (sfold lab s (tcasts t))) := fun i t ht s => by
    have hm := List.mem_of_getElem? ht
    have hn := tmN_mem ks t hm
    exact ih t hm s (by omega)
  have fin : ∀ s' : Bool × Bool, sfold lab s' (tcastss ks) = sfold lab s (tcasts (.node k name arg num tk tks uk uks label place ks)) → ∀ env, get env 0 = .c (.d (.rp 0 (Tm.node k name arg num tk tks uk uks label place ks).cells)) → get env 1 = .c (.fn 84 [] [.ptr 0 0, .ptr 1 0, .ptr 2 0]) →
      AW Try.prog tab 0 rest101 ⟨30, env, [.var [.d (.int .i64 lab)], .var [.d (.bool s'.1)], .var [.d (.bool s'.2)]], []⟩ (afin tab 0 42 Try.f42.results.toList ([.var [], .var [], .var []] : List AObj).length (safeR lab (sfold lab s (tcasts (.node k name arg num tk tks uk uks label place ks))))) := fun s' e env g0 g1 => by
    rw [← e]
    refine AW.fits ?_ ?_ (eachS_rest k name arg num tk tks uk uks label place ks lab s' (by omega) ih')
    · exact ⟨⟨g0, g1, trivial⟩, rfl, rfl, ⟨[], rfl⟩, rfl⟩
    · rfl
  by_cases hk : k = 17
  · subst hk
    have c1 := safe1_call 17 name arg num tk tks uk uks label place ks lab hl1 hl2 s
    have f1 := fin (sstep lab s (.mk tk tks uk uks label)) (by simp [tcasts, sfold])
    clear ih ih' fin hlen hN
    generalize sstep lab s (.mk tk tks uk uks label) = s' at *
    refine ACall.body tab_ok (ρ := 0) (N := 30) Try.func42 rfl rfl rfl rfl rfl ?_
    skip
    repeat' first
      | (exact f1 _ rfl rfl)
      | refine AW.seq ?_
      | refine AW.block ?_
      | (refine AW.region tab_ok ?_; conv => whnf)
      | (refine AW.cond ?_; conv => whnf)
      | (refine AW.skip ?_; conv => whnf)
      | (refine AW.ret ?_; conv => whnf)
      | (refine AW.exit ?_; conv => whnf)
      | (refine (c1).mono ?_; rintro _ _ ⟨rfl, rfl⟩; conv => whnf)
      | (refine And.intro (@rfl Val _) ?_; conv => whnf)
      | (refine And.intro (by decide) ?_; conv => whnf)
      | (refine cs (fun _ => ?_) (fun _ => ?_) <;> conv => whnf)
  · have f1 := fin s (by simp [tcasts, hk])
    have hb : (k == 17) = false := by simpa using hk
    clear ih ih' fin hlen hN
    refine ACall.body tab_ok (ρ := 0) (N := 30) Try.func42 rfl rfl rfl rfl rfl ?_
    skip
    repeat' first
      | (exact f1 _ rfl rfl)
      | refine AW.seq ?_
      | refine AW.block ?_
      | (refine AW.region tab_ok ?_; conv => whnf)
      | (refine AW.cond ?_; conv => whnf)
      | (refine AW.skip ?_; conv => whnf)
      | (refine AW.ret ?_; conv => whnf)
      | (refine AW.exit ?_; conv => whnf)
      | (refine And.intro (@rfl Val _) ?_; conv => whnf)
      | (refine And.intro (by decide) ?_; conv => whnf)
      | (refine cs (fun _ => ?_) (fun _ => ?_) <;> conv => whnf)
    all_goals (rename_i h; rw [hb] at h; cases h)
def safeS (lab : Int) (t : Tm) : Bool × Bool := if tmcheck t = 0 then sfold lab (true, true) (tcasts t) else (false, false)
set_option maxRecDepth 10000 in
set_option maxHeartbeats 1000000 in
theorem Safe_call (t : Tm) (lab : Int) (hl1 : -9223372036854775807 ≤ lab) (hl2 : lab ≤ 9223372036854775807) : ACall Try.prog 41 [t.val, .c (.d (.int .i64 lab))] [] (fun o σ => o = .ret (.tup [.c (.d (.bool (safeS lab t).1)), .c (.d (.bool (safeS lab t).2))]) ∧ σ = []) := by
  have c1 := tmCheck_call t
  have c2 : tmcheck t = 0 → ACall Try.prog 42 [.c (.d (.rp 0 t.cells)), .c (.fn 84 [] [.ptr 0 0, .ptr 1 0, .ptr 2 0])] [.var [.d (.int .i64 lab)], .var [.d (.bool true)], .var [.d (.bool true)]] (safeR lab (safeS lab t)) := fun h => by
    rw [show safeS lab t = sfold lab (true, true) (tcasts t) by simp [safeS, h]]
    exact eachS_call t lab hl1 hl2 (true, true) (tmcheck_N h)
  have e3 : tmcheck t ≠ 0 → safeS lab t = (false, false) := fun h => by simp [safeS, h]
  generalize tmcheck t = cc at *
  generalize safeS lab t = m at *
  obtain ⟨p, q⟩ := m
  obtain ⟨k, name, arg, num, tk, tks, uk, uks, label, place, ks⟩ := t
  by_cases h0 : cc = 0
  · have f2 := c2 h0
    clear c2 e3
    subst h0
    refine ACall.body tab_ok (ρ := 0) (N := 13) Try.func41 rfl rfl rfl rfl rfl ?_
    skip
    repeat' first
      | refine AW.seq ?_
      | refine AW.block ?_
      | (refine AW.region tab_ok ?_; conv => whnf)
      | (refine AW.draw (id := 5) tab_ok mixed [0, 1, 2, 3] (by kernel_rfl) ?_; conv => whnf)
      | (refine AW.cond ?_; conv => whnf)
      | (refine AW.skip ?_; conv => whnf)
      | (refine AW.ret ?_; conv => whnf)
      | (refine AW.exit ?_; conv => whnf)
      | (refine (c1).mono ?_; rintro _ _ ⟨rfl, rfl⟩; conv => whnf)
      | (refine And.intro (@rfl Val _) ?_; conv => whnf)
      | (refine And.intro (by decide) ?_; conv => whnf)
      | (refine cs (fun _ => ?_) (fun _ => ?_) <;> conv => whnf)
    refine f2.mono ?_
    rintro _ _ ⟨rfl, rfl⟩
    conv => whnf
    repeat' first
      | refine AW.seq ?_
      | refine AW.block ?_
      | (refine AW.region tab_ok ?_; conv => whnf)
      | (refine AW.draw (id := 5) tab_ok mixed [0, 1, 2, 3] (by kernel_rfl) ?_; conv => whnf)
      | (refine AW.cond ?_; conv => whnf)
      | (refine AW.skip ?_; conv => whnf)
      | (refine AW.ret ?_; conv => whnf)
      | (refine AW.exit ?_; conv => whnf)
      | (refine And.intro (@rfl Val _) ?_; conv => whnf)
      | (refine And.intro (by decide) ?_; conv => whnf)
      | (refine cs (fun _ => ?_) (fun _ => ?_) <;> conv => whnf)
    exact ⟨rfl, rfl⟩
  · rw [e3 h0]
    clear c2
    refine ACall.body tab_ok (ρ := 0) (N := 13) Try.func41 rfl rfl rfl rfl rfl ?_
    skip
    repeat' first
      | refine AW.seq ?_
      | refine AW.block ?_
      | (refine AW.region tab_ok ?_; conv => whnf)
      | (refine AW.draw (id := 5) tab_ok mixed [0, 1, 2, 3] (by kernel_rfl) ?_; conv => whnf)
      | (refine AW.cond ?_; conv => whnf)
      | (refine AW.skip ?_; conv => whnf)
      | (refine AW.ret ?_; conv => whnf)
      | (refine AW.exit ?_; conv => whnf)
      | (refine (c1).mono ?_; rintro _ _ ⟨rfl, rfl⟩; conv => whnf)
      | (refine And.intro (@rfl Val _) ?_; conv => whnf)
      | (refine And.intro (by decide) ?_; conv => whnf)
      | (refine cs (fun _ => ?_) (fun _ => ?_) <;> conv => whnf)
    all_goals first | exact ⟨rfl, rfl⟩ | (exfalso; rename_i h; simp at h; exact h0 h)
end Go.Proofs.Ytoglfnjankinnaa.E
