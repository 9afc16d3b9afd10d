/- Texts, merged: Ct3, Tmd, Pu1, Pu2, Pu3, Sp1, Rw1. No conditions. -/
import Derived.Test.YtlboogackecjlaaGenX9
import Derived.Test.YtlboogackecjlaaGenX10
import Derived.Test.YtlboogackecjlaaGenX7
import Derived.Test.YtlboogackecjlaaGenX3
import Derived.Test.YtlboogackecjlaaGenX6
import Derived.Test.YtlboogackecjlaaEngX3
/- The document's answer for casts: ref14.all, All, Safe. No conditions. -/
set_option linter.unusedVariables false
set_option linter.unusedSimpArgs false
namespace Go.Proofs.Ytlboogackecjlaa.E
open Go

noncomputable def restRA : Code := match Try.f45.body with
  | some (.seq _ (.seq _ (.seq _ c))) => c
  | _ => .skip
theorem ctmNL_take_le (ks : List Tm) (i : Nat) : tmNL (ks.take i) ≤ tmNL ks := by
  induction ks generalizing i with
  | nil => simp [tmNL]
  | cons t ks ih =>
    cases i with
    | zero => simp [tmNL]
    | succ i =>
      have := ih i
      simp only [List.take_succ_cons, tmNL]; omega
theorem crows_append (l m : List Ct) : crows (l ++ m) = crows l ++ crows m := by simp [crows]
set_option maxRecDepth 10000 in
theorem rall_rest (k : Int) (name arg : ByteArray) (num tk : Int) (tks : List Ty) (uk : Int) (uks : List Ty) (label place : Int) (ks : List Tm) (pre : List Ct) (hlen : ks.length ≤ 8192) (hpre : pre.length + tmNL ks ≤ 20000)
    (ih : ∀ t ∈ ks, ACall Try.prog 45 [t.val] [] (fun o σ => o = .ret (.c (.d (.sl 0 5 (crows (tcasts t))))) ∧ σ = [])) :
    AW Try.prog tab 0 restRA ⟨34, [(1, .c (.ptr 0 0)), (3, .c (.own 1 (crows pre).length))], [.var ((Tm.node k name arg num tk tks uk uks label place ks).cells.map .d), .row 44 5 (crows pre)], []⟩
      (afin tab 0 45 [.tmp 2] 0 (fun o σ => o = .ret (.c (.d (.sl 0 5 (crows (pre ++ tcastss ks))))) ∧ σ = [])) := by
  repeat' first | refine AW.seq ?_ | refine AW.block ?_ | ((first | refine AW.region tab_ok ?_ | refine AW.cond ?_ | refine AW.skip ?_ | refine AW.ret ?_ | refine AW.exit ?_); conv => whnf) | ((first | refine And.intro (@rfl Val _) ?_ | refine And.intro (by decide) ?_ | refine cs (fun _ => ?_) (fun _ => ?_)) <;> conv => whnf)
  refine AW.loop (ι := UpToT ks) (fun x => ⟨34, [(4, .c (.d (.int .i64 x.i))), (1, .c (.ptr 0 0)), (3, .c (.own 1 (crows (pre ++ tcastss (ks.take x.i))).length))], [.var ((Tm.node k name arg num tk tks uk uks label place ks).cells.map .d), .row 44 5 (crows (pre ++ tcastss (ks.take x.i)))], []⟩)
    (fun x => ks.length - x.i) ⟨0, Nat.zero_le _⟩ 2 (fun _ => rfl) (Nat.le_of_ble_eq_true rfl) ?_ (fun x => ?_)
  · simp only [List.take_zero, tcastss, List.append_nil]
    exact ⟨⟨rfl, rfl, rfl, trivial⟩, rfl, rfl, ⟨[], rfl⟩, rfl⟩
  obtain ⟨i, hi⟩ := x
  repeat' first | refine AW.seq ?_ | refine AW.block ?_ | ((first | refine AW.region tab_ok ?_ | refine AW.cond ?_ | refine AW.skip ?_ | refine AW.ret ?_ | refine AW.exit ?_); conv => whnf) | ((first | refine And.intro (@rfl Val _) ?_ | refine And.intro (by decide) ?_ | refine cs (fun _ => ?_) (fun _ => ?_)) <;> conv => whnf)
  · rename_i h1
    simp only [trows_length] at h1
    have := of_decide_eq_true h1
    refine ⟨by simp only [trows_length]; omega, fun row hrow => ?_⟩
    obtain ⟨t, ht, rfl⟩ := trows_get ks i row (by simpa using hrow)
    have hlt : i < ks.length := (List.getElem?_eq_some_iff.1 ht).1
    have hm := List.mem_of_getElem? ht
    have hc := ih t hm
    have hn := tcastss_take ks i _ ht
    have hb1 := tcastss_len (ks.take (i + 1))
    have hb2 := ctmNL_take_le ks (i + 1)
    have e : crows (pre ++ tcastss (ks.take i)) ++ crows (tcasts t) = crows (pre ++ tcastss (ks.take (i + 1))) := by rw [hn, ← crows_append, List.append_assoc]
    have el : (crows (pre ++ tcastss (ks.take i))).length + (crows (tcasts t)).length = (crows (pre ++ tcastss (ks.take (i + 1)))).length := by rw [← List.length_append, e]
    have hb3 : (crows (pre ++ tcastss (ks.take (i + 1)))).length ≤ 20000 := by rw [crows_length, List.length_append]; omega
    generalize tcasts t = m at *
    obtain ⟨kx, namex, argx, numx, tkx, tksx, ukx, uksx, labelx, placex, ksx⟩ := t
    conv => whnf
    repeat' first | refine AW.seq ?_ | refine AW.block ?_ | ((first | refine AW.region tab_ok ?_ | refine AW.cond ?_ | refine AW.skip ?_ | refine AW.ret ?_ | refine AW.exit ?_); conv => whnf) | (refine (hc).mono ?_; rintro _ _ ⟨rfl, rfl⟩; conv => whnf) | ((first | refine And.intro (@rfl Val _) ?_ | refine And.intro (by decide) ?_ | refine cs (fun _ => ?_) (fun _ => ?_)) <;> conv => whnf)
    refine ⟨⟨rfl, ?_, ?_⟩, ?_⟩
    · dsimp only; omega
    · dsimp only; omega
    conv => whnf
    repeat' first | refine AW.seq ?_ | refine AW.block ?_ | ((first | refine AW.region tab_ok ?_ | refine AW.cond ?_ | refine AW.skip ?_ | refine AW.ret ?_ | refine AW.exit ?_); conv => whnf) | ((first | refine And.intro (@rfl Val _) ?_ | refine And.intro (by decide) ?_ | refine cs (fun _ => ?_) (fun _ => ?_)) <;> conv => whnf)
    rw [el, e, wrap64 (x := (i : Int) + 1) (by omega) (by omega)]
    exact ⟨⟨i + 1, hlt⟩, ⟨⟨rfl, rfl, rfl, trivial⟩, rfl, rfl, ⟨[], rfl⟩, rfl⟩, show ks.length - (i + 1) < ks.length - i by omega⟩
  · rename_i h1
    simp only [trows_length] at h1
    have := of_decide_eq_false h1
    obtain rfl : i = ks.length := by omega
    simp only [List.take_length]
    first | refine ⟨trivial, ?_⟩ | refine ⟨rfl, ?_⟩ | skip
    conv => whnf
    first | exact ⟨rfl, rfl⟩ | exact ⟨rfl, trivial⟩
set_option maxRecDepth 10000 in
theorem rall_call (t : Tm) : tmN t ≤ 8192 → ACall Try.prog 45 [t.val] [] (fun o σ => o = .ret (.c (.d (.sl 0 5 (crows (tcasts t))))) ∧ σ = []) := by
  induction t using Tm.ind with
  | _ k name arg num tk tks uk uks label place ks ih =>
  intro hN
  have hlen := tmNL_len ks
  simp only [tmN] at hN
  have ih' : ∀ t ∈ ks, ACall Try.prog 45 [t.val] [] (fun o σ => o = .ret (.c (.d (.sl 0 5 (crows (tcasts t))))) ∧ σ = []) := fun t ht => ih t ht (by have := tmN_mem ks t ht; omega)
  have fin : ∀ (pre : List Ct), pre.length ≤ 1 → ∀ (m : List Ct), pre ++ tcastss ks = m → ∀ (env : List (Nat × Val)), get env 1 = .c (.ptr 0 0) → get env 3 = .c (.own 1 (crows pre).length) →
      AW Try.prog tab 0 restRA ⟨34, env, [.var ((Tm.node k name arg num tk tks uk uks label place ks).cells.map .d), .row 44 5 (crows pre)], []⟩ (afin tab 0 45 Try.f45.results.toList ([] : List AObj).length (fun o σ => o = .ret (.c (.d (.sl 0 5 (crows m)))) ∧ σ = [])) := fun pre hp m hm env g0 g3 => by
    subst hm
    refine AW.fits ?_ ?_ (rall_rest k name arg num tk tks uk uks label place ks pre (by omega) (by omega) ih')
    · exact ⟨⟨g0, g3, trivial⟩, rfl, rfl, ⟨[], rfl⟩, rfl⟩
    · rfl
  have f1 := fin [.mk tk tks uk uks label] (by simp)
  have f2 := fin [] (by simp)
  have e : tcasts (.node k name arg num tk tks uk uks label place ks) = (if k = 17 then [Ct.mk tk tks uk uks label] else []) ++ tcastss ks := by simp only [tcasts]
  rw [e]
  clear e ih ih' fin
  by_cases hk : k = 17
  · subst hk
    rw [if_pos rfl]
    have f1 := f1 _ rfl
    clear f2 hN hlen
    generalize [Ct.mk tk tks uk uks label] ++ tcastss ks = m at *
    refine ACall.body tab_ok (ρ := 0) (N := 34) Try.func45 rfl rfl rfl rfl rfl ?_
    skip
    repeat' first | (exact f1 _ rfl rfl) | ((refine (id : AW _ _ _ (.region 2 _ false) _ _ → _) ?_; refine AW.ghostE 44 5 3 (by decide) rfl ?_; refine AW.region tab_ok ?_; conv => whnf)) | refine AW.seq ?_ | refine AW.block ?_ | ((first | refine AW.region tab_ok ?_ | refine AW.cond ?_ | refine AW.skip ?_ | refine AW.ret ?_ | refine AW.exit ?_); conv => whnf) | ((first | refine And.intro (@rfl Val _) ?_ | refine And.intro (by decide) ?_ | refine cs (fun _ => ?_) (fun _ => ?_)) <;> conv => whnf)
    all_goals (refine ⟨⟨rfl, Nat.le_of_ble_eq_true rfl, Nat.le_of_ble_eq_true rfl⟩, ?_⟩; conv => whnf)
    repeat' first | (exact f1 _ rfl rfl) | refine AW.seq ?_ | refine AW.block ?_ | ((first | refine AW.region tab_ok ?_ | refine AW.cond ?_ | refine AW.skip ?_ | refine AW.ret ?_ | refine AW.exit ?_); conv => whnf) | ((first | refine And.intro (@rfl Val _) ?_ | refine And.intro (by decide) ?_ | refine cs (fun _ => ?_) (fun _ => ?_)) <;> conv => whnf)
  · have hb : (k == 17) = false := by simpa using hk
    rw [if_neg hk]
    have f2 := f2 _ rfl
    clear f1 hN hlen
    generalize [] ++ tcastss ks = m at *
    refine ACall.body tab_ok (ρ := 0) (N := 34) Try.func45 rfl rfl rfl rfl rfl ?_
    skip
    repeat' first | (exact f2 _ rfl rfl) | ((refine (id : AW _ _ _ (.region 2 _ false) _ _ → _) ?_; refine AW.ghostE 44 5 3 (by decide) rfl ?_; refine AW.region tab_ok ?_; conv => whnf)) | refine AW.seq ?_ | refine AW.block ?_ | ((first | refine AW.region tab_ok ?_ | refine AW.cond ?_ | refine AW.skip ?_ | refine AW.ret ?_ | refine AW.exit ?_); conv => whnf) | ((first | refine And.intro (@rfl Val _) ?_ | refine And.intro (by decide) ?_ | refine cs (fun _ => ?_) (fun _ => ?_)) <;> conv => whnf)
    all_goals first | (rename_i h; rw [hb] at h; cases h; done)
set_option maxRecDepth 10000 in
theorem RAll_call (t : Tm) : ACall Try.prog 18 [t.val] [] (fun o σ => o = .ret (.c (.d (.sl 0 5 (crows (tcastsS t))))) ∧ σ = []) := by
  have c1 := rtmCheck_call t
  have c2 : tmcheck t = 0 → ACall Try.prog 45 [t.val] [] (fun o σ => o = .ret (.c (.d (.sl 0 5 (crows (tcastsS t))))) ∧ σ = []) := fun h => by
    rw [show tcastsS t = tcasts t by simp [tcastsS, h]]
    exact rall_call t (tmcheck_N h)
  have e3 : tmcheck t ≠ 0 → tcastsS t = [] := fun h => by simp [tcastsS, h]
  generalize tmcheck t = cc at *
  generalize tcastsS t = m at *
  obtain ⟨k, name, arg, num, tk, tks, uk, uks, label, place, ks⟩ := t
  refine ACall.body tab_ok (ρ := 0) (N := 8) Try.func18 rfl rfl rfl rfl rfl ?_
  repeat' first | refine AW.seq ?_ | refine AW.block ?_ | ((first | refine AW.region tab_ok ?_ | refine AW.cond ?_ | refine AW.skip ?_ | refine AW.ret ?_ | refine AW.exit ?_); conv => whnf) | (refine (c1).mono ?_; rintro _ _ ⟨rfl, rfl⟩; conv => whnf) | ((first | refine And.intro (@rfl Val _) ?_ | refine And.intro (by decide) ?_ | refine cs (fun _ => ?_) (fun _ => ?_)) <;> conv => whnf)
  · rename_i h
    rw [e3 (by simpa using h)]
    exact ⟨rfl, rfl⟩
  · rename_i h
    have c2 := c2 (by simpa using h)
    refine c2.mono ?_
    rintro _ _ ⟨rfl, rfl⟩
    conv => whnf
    repeat' first | refine AW.seq ?_ | refine AW.block ?_ | ((first | refine AW.region tab_ok ?_ | refine AW.cond ?_ | refine AW.skip ?_ | refine AW.ret ?_ | refine AW.exit ?_); conv => whnf) | ((first | refine And.intro (@rfl Val _) ?_ | refine And.intro (by decide) ?_ | refine cs (fun _ => ?_) (fun _ => ?_)) <;> conv => whnf)
    exact ⟨rfl, rfl⟩
theorem valb {a b : Bool} (h : a = b) : Val.c (.d (.bool a)) = Val.c (.d (.bool b)) := by rw [h]
theorem crows_get (l : List Ct) (i : Nat) row (h : (crows l)[i]? = some row) : ∃ c, l[i]? = some c ∧ row = c.cells := by
  rw [crows, List.getElem?_map, Option.map_eq_some_iff] at h
  obtain ⟨c, h1, h2⟩ := h
  exact ⟨c, h1, h2.symm⟩
theorem sfoldM_take (lab : Int) (L : List Ct) (i : Nat) (c : Ct) (h : L[i]? = some c) : sfoldM lab (true, true) (L.take (i + 1)) = sstepM lab (sfoldM lab (true, true) (L.take i)) c := by
  rw [List.take_add_one, h]
  simp [sfoldM]
structure UpToC (l : List Ct) where
  i : Nat
  hi : i ≤ l.length
noncomputable def restRS : Code := match Try.f21.body with
  | some (.seq _ (.seq _ (.seq _ (.seq _ (.seq _ c))))) => c
  | _ => .skip
set_option maxRecDepth 10000 in
set_option maxHeartbeats 4000000 in
theorem rsafe_rest (k : Int) (name arg : ByteArray) (num tk : Int) (tks : List Ty) (uk : Int) (uks : List Ty) (label place : Int) (ks : List Tm) (lab : Int) (L : List Ct) (hL : L.length ≤ 8192) :
    AW Try.prog tab 0 restRS ⟨76, [(1, .c (.d (.int .i64 lab))), (4, .c (.d (.bool true))), (5, .c (.d (.bool true))), (6, .c (.d (.sl 0 5 (crows L))))], [.var ((Tm.node k name arg num tk tks uk uks label place ks).cells.map .d)], []⟩
      (afin tab 0 21 [.tmp 4, .tmp 5] 0 (fun o σ => o = .ret (.tup [.c (.d (.bool (sfoldM lab (true, true) L).1)), .c (.d (.bool (sfoldM lab (true, true) L).2))]) ∧ σ = [])) := by
  repeat' first | refine AW.seq ?_ | refine AW.block ?_ | (refine (id : AW _ _ _ (.region 9 _ true) _ _ → _) ?_; refine AW.draw (id := 9) tab_ok mixed [0, 1, 2, 3, 4, 5, 6, 7, 8, 9, 10, 11] (by kernel_rfl) ?_; conv => whnf) | (refine (id : AW _ _ _ (.region 10 _ true) _ _ → _) ?_; refine AW.draw (id := 10) tab_ok mixed [0, 1, 2, 3, 4, 5, 6, 7, 8, 9, 10, 11] (by kernel_rfl) ?_; conv => whnf) | ((first | refine AW.region tab_ok ?_ | refine AW.cond ?_ | refine AW.skip ?_ | refine AW.ret ?_ | refine AW.exit ?_); conv => whnf) | ((first | refine And.intro (@rfl Val _) ?_ | refine And.intro (by decide) ?_ | refine cs (fun _ => ?_) (fun _ => ?_)) <;> conv => whnf)
  refine AW.loop (ι := UpToC L) (fun x => ⟨76, [(7, .c (.d (.int .i64 x.i))), (1, .c (.d (.int .i64 lab))), (4, .c (.d (.bool (sfoldM lab (true, true) (L.take x.i)).1))), (5, .c (.d (.bool (sfoldM lab (true, true) (L.take x.i)).2))), (6, .c (.d (.sl 0 5 (crows L))))], [.var ((Tm.node k name arg num tk tks uk uks label place ks).cells.map .d)], []⟩)
    (fun x => L.length - x.i) ⟨0, Nat.zero_le _⟩ 1 (fun _ => rfl) (Nat.le_of_ble_eq_true rfl) ⟨⟨rfl, rfl, rfl, rfl, rfl, trivial⟩, rfl, rfl, ⟨[], rfl⟩, rfl⟩ (fun x => ?_)
  obtain ⟨i, hi⟩ := x
  repeat' first | refine AW.seq ?_ | refine AW.block ?_ | (refine (id : AW _ _ _ (.region 9 _ true) _ _ → _) ?_; refine AW.draw (id := 9) tab_ok mixed [0, 1, 2, 3, 4, 5, 6, 7, 8, 9, 10, 11] (by kernel_rfl) ?_; conv => whnf) | (refine (id : AW _ _ _ (.region 10 _ true) _ _ → _) ?_; refine AW.draw (id := 10) tab_ok mixed [0, 1, 2, 3, 4, 5, 6, 7, 8, 9, 10, 11] (by kernel_rfl) ?_; conv => whnf) | ((first | refine AW.region tab_ok ?_ | refine AW.cond ?_ | refine AW.skip ?_ | refine AW.ret ?_ | refine AW.exit ?_); conv => whnf) | ((first | refine And.intro (@rfl Val _) ?_ | refine And.intro (by decide) ?_ | refine cs (fun _ => ?_) (fun _ => ?_)) <;> conv => whnf)
  · rename_i h1
    simp only [crows_length] at h1
    have := of_decide_eq_true h1
    refine ⟨by simp only [crows_length]; omega, fun row hrow => ?_⟩
    obtain ⟨⟨ck, cks, dk, dks, cl⟩, ht, rfl⟩ := crows_get L i row (by simpa using hrow)
    have hlt : i < L.length := (List.getElem?_eq_some_iff.1 ht).1
    have hn := sfoldM_take lab L i _ ht
    have w1 := RPos_call (.node ck cks) (.node dk dks)
    have w2 := RNeg_call (.node ck cks) (.node dk dks)
    have e : ∀ s, sstepM lab s (.mk ck cks dk dks cl) = (let s1 := if cl == lab then (s.1 && belowS false (.node ck cks) (.node dk dks), s.2 && belowS true (.node ck cks) (.node dk dks)) else s
      if cl == IntKind.i64.wrap (0 - lab) then (s1.1 && belowS true (.node ck cks) (.node dk dks), s1.2 && belowS false (.node ck cks) (.node dk dks)) else s1) := fun _ => rfl
    rw [e] at hn
    generalize belowS false (.node ck cks) (.node dk dks) = up at *
    generalize belowS true (.node ck cks) (.node dk dks) = dn at *
    clear e h1
    have f1 : (0 : Int) ≤ (i : Int) ∧ (i : Int) < ((crows L).length : Nat) := by rw [crows_length]; omega
    have e1 : ∀ row, (crows L)[(i : Int).toNat]? = some row → (Ct.mk ck cks dk dks cl).cells = row := fun row h => by
      obtain ⟨x, hx, rfl⟩ := crows_get L i row h
      rw [ht] at hx; cases hx; rfl
    conv => whnf
    repeat' first | ((refine ⟨f1, fun row hrow => ?_⟩; obtain rfl := e1 row hrow; conv => whnf)) | refine AW.seq ?_ | refine AW.block ?_ | (refine (id : AW _ _ _ (.region 9 _ true) _ _ → _) ?_; refine AW.draw (id := 9) tab_ok mixed [0, 1, 2, 3, 4, 5, 6, 7, 8, 9, 10, 11] (by kernel_rfl) ?_; conv => whnf) | (refine (id : AW _ _ _ (.region 10 _ true) _ _ → _) ?_; refine AW.draw (id := 10) tab_ok mixed [0, 1, 2, 3, 4, 5, 6, 7, 8, 9, 10, 11] (by kernel_rfl) ?_; conv => whnf) | ((first | refine AW.region tab_ok ?_ | refine AW.cond ?_ | refine AW.skip ?_ | refine AW.ret ?_ | refine AW.exit ?_); conv => whnf) | ((first | refine (w1).mono ?_ | refine (w2).mono ?_); rintro _ _ ⟨rfl, rfl⟩; conv => whnf) | ((first | refine And.intro (@rfl Val _) ?_ | refine And.intro (by decide) ?_ | refine cs (fun _ => ?_) (fun _ => ?_)) <;> conv => whnf)
    all_goals
      rw [wrap64 (x := (i : Int) + 1) (by omega) (by omega)]
      refine ⟨⟨i + 1, hlt⟩, ⟨⟨rfl, rfl, valb ?_, valb ?_, rfl, trivial⟩, rfl, rfl, ⟨[], rfl⟩, rfl⟩, show L.length - (i + 1) < L.length - i by omega⟩
    all_goals
      rw [hn]
      clear w1 w2 hn f1 e1
      generalize sfoldM lab (true, true) (L.take i) = s at *
      obtain ⟨p, n⟩ := s
      generalize IntKind.i64.wrap (0 - lab) = q at *
      generalize (cl == lab) = b1 at *
      generalize (cl == q) = b2 at *
      first | (simp_all; done)
  · rename_i h1
    simp only [crows_length] at h1
    have := of_decide_eq_false h1
    obtain rfl : i = L.length := by omega
    simp only [List.take_length]
    first | exact ⟨rfl, rfl⟩ | exact ⟨rfl, trivial⟩
set_option maxRecDepth 10000 in
theorem RSafe_call (t : Tm) (lab : Int) : ACall Try.prog 21 [t.val, .c (.d (.int .i64 lab))] [] (fun o σ => o = .ret (.tup [.c (.d (.bool (safeSM lab t).1)), .c (.d (.bool (safeSM lab t).2))]) ∧ σ = []) := by
  have c1 := rtmCheck_call t
  by_cases h : tmcheck t = 0
  · have c2 := rall_call t (tmcheck_N h)
    have hl : (tcasts t).length ≤ 8192 := Nat.le_trans (tcasts_len t) (tmcheck_N h)
    have f0 := fun k name arg num tk tks uk uks label place ks => rsafe_rest k name arg num tk tks uk uks label place ks lab (tcasts t) hl
    rw [show safeSM lab t = sfoldM lab (true, true) (tcasts t) by simp [safeSM, h]]
    rw [h] at c1
    generalize tcasts t = L at *
    clear h hl
    obtain ⟨k, name, arg, num, tk, tks, uk, uks, label, place, ks⟩ := t
    have f1 := f0 k name arg num tk tks uk uks label place ks
    clear f0
    have fin : ∀ (env : List (Nat × Val)), get env 1 = .c (.d (.int .i64 lab)) → get env 4 = .c (.d (.bool true)) → get env 5 = .c (.d (.bool true)) → get env 6 = .c (.d (.sl 0 5 (crows L))) →
        AW Try.prog tab 0 restRS ⟨76, env, [.var ((Tm.node k name arg num tk tks uk uks label place ks).cells.map .d)], []⟩ (afin tab 0 21 Try.f21.results.toList ([] : List AObj).length (fun o σ => o = .ret (.tup [.c (.d (.bool (sfoldM lab (true, true) L).1)), .c (.d (.bool (sfoldM lab (true, true) L).2))]) ∧ σ = [])) := fun env g1 g2 g3 g4 => by
      refine AW.fits ?_ ?_ f1
      · exact ⟨⟨g1, g2, g3, g4, trivial⟩, rfl, rfl, ⟨[], rfl⟩, rfl⟩
      · rfl
    clear f1
    refine ACall.body tab_ok (ρ := 0) (N := 76) Try.func21 rfl rfl rfl rfl rfl ?_
    skip
    repeat' first | (exact fin _ rfl rfl rfl rfl) | refine AW.seq ?_ | refine AW.block ?_ | (refine (id : AW _ _ _ (.region 9 _ true) _ _ → _) ?_; refine AW.draw (id := 9) tab_ok mixed [0, 1, 2, 3, 4, 5, 6, 7, 8, 9, 10, 11] (by kernel_rfl) ?_; conv => whnf) | (refine (id : AW _ _ _ (.region 10 _ true) _ _ → _) ?_; refine AW.draw (id := 10) tab_ok mixed [0, 1, 2, 3, 4, 5, 6, 7, 8, 9, 10, 11] (by kernel_rfl) ?_; conv => whnf) | ((first | refine AW.region tab_ok ?_ | refine AW.cond ?_ | refine AW.skip ?_ | refine AW.ret ?_ | refine AW.exit ?_); conv => whnf) | ((first | refine (c1).mono ?_ | refine (c2).mono ?_); rintro _ _ ⟨rfl, rfl⟩; conv => whnf) | ((first | refine And.intro (@rfl Val _) ?_ | refine And.intro (by decide) ?_ | refine cs (fun _ => ?_) (fun _ => ?_)) <;> conv => whnf)
  · rw [show safeSM lab t = (false, false) by simp [safeSM, h]]
    generalize tmcheck t = cc at *
    obtain ⟨k, name, arg, num, tk, tks, uk, uks, label, place, ks⟩ := t
    refine ACall.body tab_ok (ρ := 0) (N := 76) Try.func21 rfl rfl rfl rfl rfl ?_
    skip
    repeat' first | refine AW.seq ?_ | refine AW.block ?_ | (refine (id : AW _ _ _ (.region 9 _ true) _ _ → _) ?_; refine AW.draw (id := 9) tab_ok mixed [0, 1, 2, 3, 4, 5, 6, 7, 8, 9, 10, 11] (by kernel_rfl) ?_; conv => whnf) | (refine (id : AW _ _ _ (.region 10 _ true) _ _ → _) ?_; refine AW.draw (id := 10) tab_ok mixed [0, 1, 2, 3, 4, 5, 6, 7, 8, 9, 10, 11] (by kernel_rfl) ?_; conv => whnf) | ((first | refine AW.region tab_ok ?_ | refine AW.cond ?_ | refine AW.skip ?_ | refine AW.ret ?_ | refine AW.exit ?_); conv => whnf) | (refine (c1).mono ?_; rintro _ _ ⟨rfl, rfl⟩; conv => whnf) | ((first | refine And.intro (@rfl Val _) ?_ | refine And.intro (by decide) ?_ | refine cs (fun _ => ?_) (fun _ => ?_)) <;> conv => whnf)
    all_goals first | exact ⟨rfl, rfl⟩ | (exfalso; simp_all; done)
end Go.Proofs.Ytlboogackecjlaa.E

/- Plain laws: parts of a term that is one. No conditions. -/
set_option linter.unusedVariables false
set_option linter.unusedSimpArgs false
namespace Go.Proofs.Ytlboogackecjlaa.E
open Go

end Go.Proofs.Ytlboogackecjlaa.E

/- A value put for a name: the model; what hides a name, a kid changed, both. No conditions. -/
set_option linter.unusedVariables false
set_option linter.unusedSimpArgs false
namespace Go.Proofs.Ytlboogackecjlaa.E
open Go

end Go.Proofs.Ytlboogackecjlaa.E

/- A value put for a name: the document's walk; whether a term fits; copies. No conditions. -/
set_option linter.unusedVariables false
set_option linter.unusedSimpArgs false
namespace Go.Proofs.Ytlboogackecjlaa.E
open Go

end Go.Proofs.Ytlboogackecjlaa.E

/- A value put for a name: copies of types, of terms. No conditions. -/
set_option linter.unusedVariables false
set_option linter.unusedSimpArgs false
namespace Go.Proofs.Ytlboogackecjlaa.E
open Go

/-- Rows of types that the machine can hold. -/
inductive TyOk : Ty → Prop where
  | node {k ks} (h1 : ks.length * 32 ≤ 140737488355328) (h2 : ∀ t ∈ ks, TyOk t) : TyOk (.node k ks)
/-- A term whose types are bounded, in all its parts, those that do not count too. -/
inductive Fine2 : Tm → Prop where
  | node {k name arg num tk tks uk uks label place ks} (h1 : TyOk (.node tk tks)) (h2 : TyOk (.node uk uks)) (h3 : ks.length ≤ 8192) (h4 : ∀ t ∈ ks, Fine2 t) : Fine2 (.node k name arg num tk tks uk uks label place ks)
/-- Rows of terms that the machine can hold. -/
inductive TmOk : Tm → Prop where
  | node {k name arg num tk tks uk uks label place ks} (h1 : TyOk (.node tk tks)) (h2 : TyOk (.node uk uks)) (h3 : ks.length * 152 ≤ 140737488355328) (h4 : ∀ t ∈ ks, TmOk t) : TmOk (.node k name arg num tk tks uk uks label place ks)
theorem fine2_of (t : Tm) : TmOk t → tmright t = true → Fine2 t := by
  induction t using Tm.ind with
  | _ k name arg num tk tks uk uks label place ks ih =>
  rintro (⟨h1, h2, h3, h4⟩) hr
  have hl := tmright_len hr
  have hk := kidsK_le k
  exact .node h1 h2 (by omega) fun x hx => ih x hx (h4 x hx) (tmright_kid hr hx)
end Go.Proofs.Ytlboogackecjlaa.E

/- Spoiling: types and terms are written over. No conditions. -/
set_option linter.unusedVariables false
set_option linter.unusedSimpArgs false
namespace Go.Proofs.Ytlboogackecjlaa.E
open Go

mutual
def Ty.cellsW : Ty → List DV
  | .node k ks => [.int .i8 k, .wsl false (Ty.rowsW ks)]
def Ty.rowsW : List Ty → List (List DV)
  | [] => []
  | t :: l => Ty.cellsW t :: Ty.rowsW l
end
mutual
def Tm.cellsW : Tm → List DV
  | .node k name arg num tk tks uk uks label place ks => [.int .i8 k, .str name, .str arg, .int .i64 num, .int .i8 tk, .wsl false (Ty.rowsW tks), .int .i8 uk, .wsl false (Ty.rowsW uks), .int .i64 label, .int .i64 place, .wsl true (Tm.rowsW ks)]
def Tm.rowsW : List Tm → List (List DV)
  | [] => []
  | t :: l => Tm.cellsW t :: Tm.rowsW l
end
theorem tyrowsW_len : ∀ l : List Ty, (Ty.rowsW l).length = l.length
  | [] => rfl
  | t :: l => by simp [Ty.rowsW, tyrowsW_len l]
theorem tyrowsW_get : ∀ (l : List Ty) (i : Nat) row, (Ty.rowsW l)[i]? = some row → ∃ t, l[i]? = some t ∧ row = t.cellsW
  | [], i, row, h => by simp [Ty.rowsW] at h
  | t :: l, 0, row, h => by simp [Ty.rowsW] at h; exact ⟨t, rfl, h.symm⟩
  | t :: l, i + 1, row, h => by
    simp only [Ty.rowsW, List.getElem?_cons_succ] at h ⊢
    exact tyrowsW_get l i row h
theorem tmrowsW_len : ∀ l : List Tm, (Tm.rowsW l).length = l.length
  | [] => rfl
  | t :: l => by simp [Tm.rowsW, tmrowsW_len l]
theorem tmrowsW_get : ∀ (l : List Tm) (i : Nat) row, (Tm.rowsW l)[i]? = some row → ∃ t, l[i]? = some t ∧ row = t.cellsW
  | [], i, row, h => by simp [Tm.rowsW] at h
  | t :: l, 0, row, h => by simp [Tm.rowsW] at h; exact ⟨t, rfl, h.symm⟩
  | t :: l, i + 1, row, h => by
    simp only [Tm.rowsW, List.getElem?_cons_succ] at h ⊢
    exact tmrowsW_get l i row h
structure IdxI {α : Type} (ks : List α) where
  i : Nat
  hi : i ≤ ks.length
set_option maxRecDepth 10000 in
theorem spoilTy0_call (k : Int) : ACall Try.prog 39 [.agg [.d (.int .i8 k), .d (.wsl false [])]] [] (fun o σ => o = .ret (.tup []) ∧ σ = []) := by
  refine ACall.body tab_ok (ρ := 0) (N := 21) Try.func39 rfl rfl rfl rfl rfl ?_
  repeat' first | ((refine AW.rounds 2 ?_; conv => whnf)) | refine AW.seq ?_ | refine AW.block ?_ | ((first | refine AW.region tab_ok ?_ | refine AW.cond ?_ | refine AW.skip ?_ | refine AW.ret ?_ | refine AW.exit ?_); conv => whnf) | ((first | refine And.intro (@rfl Val _) ?_ | refine And.intro (by decide) ?_ | refine cs (fun _ => ?_) (fun _ => ?_)) <;> conv => whnf)
  all_goals exact ⟨rfl, rfl⟩
set_option maxRecDepth 10000 in
theorem spoilTy_call (a : Ty) : TyOk a → ACall Try.prog 39 [.agg (a.cellsW.map .d)] [] (fun o σ => o = .ret (.tup []) ∧ σ = []) := by
  induction a using Ty.ind with
  | _ k ks ih =>
  rintro (⟨hlen, hks⟩)
  refine ACall.body tab_ok (ρ := 0) (N := 21) Try.func39 rfl rfl rfl rfl rfl ?_
  repeat' first | refine AW.seq ?_ | refine AW.block ?_ | ((first | refine AW.region tab_ok ?_ | refine AW.cond ?_ | refine AW.skip ?_ | refine AW.ret ?_ | refine AW.exit ?_); conv => whnf) | ((first | refine And.intro (@rfl Val _) ?_ | refine And.intro (by decide) ?_ | refine cs (fun _ => ?_) (fun _ => ?_)) <;> conv => whnf)
  refine AW.loop (ι := IdxI ks) (fun x => ⟨21, [(2, .c (.d (.int .i64 x.i))), (1, .c (.ptr 0 0))], [.var [.d (.int .i8 k), .d (.wsl false (Ty.rowsW ks))]], []⟩)
    (fun x => ks.length - x.i) ⟨0, Nat.zero_le _⟩ 1 (fun _ => rfl) (Nat.le_of_ble_eq_true rfl) ⟨⟨rfl, rfl, trivial⟩, rfl, rfl, ⟨[], rfl⟩, rfl⟩ (fun x => ?_)
  obtain ⟨i, hi⟩ := x
  repeat' first | refine AW.seq ?_ | refine AW.block ?_ | ((first | refine AW.region tab_ok ?_ | refine AW.cond ?_ | refine AW.skip ?_ | refine AW.ret ?_ | refine AW.exit ?_); conv => whnf) | ((first | refine And.intro (@rfl Val _) ?_ | refine And.intro (by decide) ?_ | refine cs (fun _ => ?_) (fun _ => ?_)) <;> conv => whnf)
  · rename_i g
    have g := of_decide_eq_true g
    rw [tyrowsW_len] at g
    simp only at g
    have f1 : (0 : Int) ≤ (i : Int) ∧ (i : Int) < ((Ty.rowsW ks).length : Nat) := by rw [tyrowsW_len]; omega
    refine ⟨f1, fun row hrow => ?_⟩
    obtain ⟨⟨xk, xs⟩, ht, rfl⟩ := tyrowsW_get ks i row (by simpa using hrow)
    have hm := List.mem_of_getElem? ht
    have ci := ih _ hm (hks _ hm)
    have c0 := spoilTy0_call 77
    conv => whnf
    have fin : ∀ a b : Int, a = b → AV.d (DV.int .i64 a) = AV.d (DV.int .i64 b) := fun _ _ h => by rw [h]
    have hw : IntKind.i64.wrap ((i : Int) + 1) = ((i + 1 : Nat) : Int) := by rw [wrap64 (x := (i : Int) + 1) (by omega) (by omega)]; omega
    refine ⟨?_, ?_⟩ <;> conv => whnf
    · skip
      repeat' first | ((refine And.intro f1 fun row hrow => ?_; conv => whnf)) | refine AW.seq ?_ | refine AW.block ?_ | ((first | refine AW.region tab_ok ?_ | refine AW.cond ?_ | refine AW.skip ?_ | refine AW.ret ?_ | refine AW.exit ?_); conv => whnf) | (refine (ci).mono ?_; rintro _ _ ⟨rfl, rfl⟩; conv => whnf) | ((first | refine And.intro (@rfl Val _) ?_ | refine And.intro (by decide) ?_ | refine cs (fun _ => ?_) (fun _ => ?_)) <;> conv => whnf)
      rw [hw]
      exact ⟨⟨i + 1, by omega⟩, ⟨⟨rfl, rfl, trivial⟩, rfl, rfl, ⟨[], rfl⟩, rfl⟩, show ks.length - (i + 1) < ks.length - i by omega⟩
    · skip
      repeat' first | ((refine And.intro f1 fun row hrow => ?_; conv => whnf)) | refine AW.seq ?_ | refine AW.block ?_ | ((first | refine AW.region tab_ok ?_ | refine AW.cond ?_ | refine AW.skip ?_ | refine AW.ret ?_ | refine AW.exit ?_); conv => whnf) | (refine (c0).mono ?_; rintro _ _ ⟨rfl, rfl⟩; conv => whnf) | ((first | refine And.intro (@rfl Val _) ?_ | refine And.intro (by decide) ?_ | refine cs (fun _ => ?_) (fun _ => ?_)) <;> conv => whnf)
      rw [hw]
      exact ⟨⟨i + 1, by omega⟩, ⟨⟨rfl, rfl, trivial⟩, rfl, rfl, ⟨[], rfl⟩, rfl⟩, show ks.length - (i + 1) < ks.length - i by omega⟩
  · exact ⟨rfl, rfl⟩
set_option maxRecDepth 10000 in
theorem spoilTm0_call (k : Int) (name arg : ByteArray) (num tk uk label place : Int) : ACall Try.prog 16 [.agg [.d (.int .i8 k), .d (.str name), .d (.str arg), .d (.int .i64 num), .d (.int .i8 tk), .d (.wsl false []), .d (.int .i8 uk), .d (.wsl false []), .d (.int .i64 label), .d (.int .i64 place), .d (.wsl true [])]] [] (fun o σ => o = .ret (.tup []) ∧ σ = []) := by
  have c0 := spoilTy0_call tk
  have c1 := spoilTy0_call uk
  refine ACall.body tab_ok (ρ := 0) (N := 27) Try.func16 rfl rfl rfl rfl rfl ?_
  repeat' first | ((refine AW.rounds 2 ?_; conv => whnf)) | refine AW.seq ?_ | refine AW.block ?_ | ((first | refine AW.region tab_ok ?_ | refine AW.cond ?_ | refine AW.skip ?_ | refine AW.ret ?_ | refine AW.exit ?_); conv => whnf) | ((first | refine (c0).mono ?_ | refine (c1).mono ?_); rintro _ _ ⟨rfl, rfl⟩; conv => whnf) | ((first | refine And.intro (@rfl Val _) ?_ | refine And.intro (by decide) ?_ | refine cs (fun _ => ?_) (fun _ => ?_)) <;> conv => whnf)
  all_goals exact ⟨rfl, rfl⟩
set_option maxRecDepth 10000 in
theorem spoilTm_call (t : Tm) : TmOk t → ACall Try.prog 16 [.agg (t.cellsW.map .d)] [] (fun o σ => o = .ret (.tup []) ∧ σ = []) := by
  induction t using Tm.ind with
  | _ k name arg num tk tks uk uks label place ks ih =>
  rintro (⟨hT, hU, hlen, hks⟩)
  have c1 := spoilTy_call _ hT
  have c2 := spoilTy_call _ hU
  refine ACall.body tab_ok (ρ := 0) (N := 27) Try.func16 rfl rfl rfl rfl rfl ?_
  repeat' first | refine AW.seq ?_ | refine AW.block ?_ | ((first | refine AW.region tab_ok ?_ | refine AW.cond ?_ | refine AW.skip ?_ | refine AW.ret ?_ | refine AW.exit ?_); conv => whnf) | ((first | refine (c1).mono ?_ | refine (c2).mono ?_); rintro _ _ ⟨rfl, rfl⟩; conv => whnf) | ((first | refine And.intro (@rfl Val _) ?_ | refine And.intro (by decide) ?_ | refine cs (fun _ => ?_) (fun _ => ?_)) <;> conv => whnf)
  refine AW.loop (ι := IdxI ks) (fun x => ⟨27, [(2, .c (.d (.int .i64 x.i))), (1, .c (.ptr 0 0))], [.var ((Tm.node k name arg num tk tks uk uks label place ks).cellsW.map .d)], []⟩)
    (fun x => ks.length - x.i) ⟨0, Nat.zero_le _⟩ 1 (fun _ => rfl) (Nat.le_of_ble_eq_true rfl) ⟨⟨rfl, rfl, trivial⟩, rfl, rfl, ⟨[], rfl⟩, rfl⟩ (fun x => ?_)
  obtain ⟨i, hi⟩ := x
  repeat' first | refine AW.seq ?_ | refine AW.block ?_ | ((first | refine AW.region tab_ok ?_ | refine AW.cond ?_ | refine AW.skip ?_ | refine AW.ret ?_ | refine AW.exit ?_); conv => whnf) | ((first | refine And.intro (@rfl Val _) ?_ | refine And.intro (by decide) ?_ | refine cs (fun _ => ?_) (fun _ => ?_)) <;> conv => whnf)
  · rename_i g
    have g := of_decide_eq_true g
    rw [tmrowsW_len] at g
    simp only at g
    have f1 : (0 : Int) ≤ (i : Int) ∧ (i : Int) < ((Tm.rowsW ks).length : Nat) := by rw [tmrowsW_len]; omega
    refine ⟨f1, fun row hrow => ?_⟩
    obtain ⟨x, ht, rfl⟩ := tmrowsW_get ks i row (by simpa using hrow)
    have hm := List.mem_of_getElem? ht
    have ci := ih _ hm (hks _ hm)
    have c0 := spoilTm0_call 77 ⟨#[]⟩ ⟨#[]⟩ 0 0 0 0 0
    clear c1 c2 ih
    obtain ⟨kx, namex, argx, numx, tkx, tksx, ukx, uksx, labelx, placex, ksx⟩ := x
    conv => whnf
    have hw : IntKind.i64.wrap ((i : Int) + 1) = ((i + 1 : Nat) : Int) := by rw [wrap64 (x := (i : Int) + 1) (by omega) (by omega)]; omega
    refine ⟨?_, ?_⟩ <;> conv => whnf
    · skip
      repeat' first | ((refine And.intro f1 fun row hrow => ?_; conv => whnf)) | refine AW.seq ?_ | refine AW.block ?_ | ((first | refine AW.region tab_ok ?_ | refine AW.cond ?_ | refine AW.skip ?_ | refine AW.ret ?_ | refine AW.exit ?_); conv => whnf) | (refine (ci).mono ?_; rintro _ _ ⟨rfl, rfl⟩; conv => whnf) | ((first | refine And.intro (@rfl Val _) ?_ | refine And.intro (by decide) ?_ | refine cs (fun _ => ?_) (fun _ => ?_)) <;> conv => whnf)
      rw [hw]
      exact ⟨⟨i + 1, by omega⟩, ⟨⟨rfl, rfl, trivial⟩, rfl, rfl, ⟨[], rfl⟩, rfl⟩, show ks.length - (i + 1) < ks.length - i by omega⟩
    · skip
      repeat' first | ((refine And.intro f1 fun row hrow => ?_; conv => whnf)) | refine AW.seq ?_ | refine AW.block ?_ | ((first | refine AW.region tab_ok ?_ | refine AW.cond ?_ | refine AW.skip ?_ | refine AW.ret ?_ | refine AW.exit ?_); conv => whnf) | (refine (c0).mono ?_; rintro _ _ ⟨rfl, rfl⟩; conv => whnf) | ((first | refine And.intro (@rfl Val _) ?_ | refine And.intro (by decide) ?_ | refine cs (fun _ => ?_) (fun _ => ?_)) <;> conv => whnf)
      rw [hw]
      exact ⟨⟨i + 1, by omega⟩, ⟨⟨rfl, rfl, trivial⟩, rfl, rfl, ⟨[], rfl⟩, rfl⟩, show ks.length - (i + 1) < ks.length - i by omega⟩
  · exact ⟨rfl, rfl⟩
end Go.Proofs.Ytlboogackecjlaa.E

/- Types and terms under other tags. No conditions. -/
set_option linter.unusedVariables false
set_option linter.unusedSimpArgs false
namespace Go.Proofs.Ytlboogackecjlaa.E
open Go

inductive RtC (c : Nat) : List DV → List DV → Prop where
  | nil : RtC c [] []
  | cons {x y : DV} {l m : List DV} (h : Rt c x y) (t : RtC c l m) : RtC c (x :: l) (y :: m)
inductive RtR (c : Nat) : List (List DV) → List (List DV) → Prop where
  | nil : RtR c [] []
  | cons {x y : List DV} {l m : List (List DV)} (h : RtC c x y) (t : RtR c l m) : RtR c (x :: l) (y :: m)
theorem RtC.get {c : Nat} {l m : List DV} (h : RtC c l m) : l.length = m.length ∧ ∀ (i : Nat) x y, l[i]? = some x → m[i]? = some y → Rt c x y := by
  induction h with
  | nil => exact ⟨rfl, fun i x y h => by simp at h⟩
  | cons h t ih => exact ⟨by simp [ih.1], fun i x y hx hy => by
      cases i with
      | zero => simp at hx hy; subst hx; subst hy; exact h
      | succ i => exact ih.2 i x y (by simpa using hx) (by simpa using hy)⟩
theorem RtR.get {c : Nat} {l m : List (List DV)} (h : RtR c l m) : l.length = m.length ∧ ∀ (j : Nat) x y, l[j]? = some x → m[j]? = some y → RtC c x y := by
  induction h with
  | nil => exact ⟨rfl, fun i x y h => by simp at h⟩
  | cons h t ih => exact ⟨by simp [ih.1], fun i x y hx hy => by
      cases i with
      | zero => simp at hx hy; subst hx; subst hy; exact h
      | succ i => exact ih.2 i x y (by simpa using hx) (by simpa using hy)⟩
theorem RtR.sl {c r sz : Nat} {l m : List (List DV)} (h : RtR c l m) : Rt c (.sl r sz l) (.sl c sz m) :=
  .sl r sz l m h.get.1 (fun j x y hx hy => (h.get.2 j x y hx hy).get.1) (fun j i x y u v hx hy hu hv => (h.get.2 j x y hx hy).get.2 i u v hu hv)
theorem RtC.rp {c r : Nat} {l m : List DV} (h : RtC c l m) : Rt c (.rp r l) (.rp c m) := .rp r l m h.get.1 h.get.2
theorem RtC.agg {c : Nat} {l m : List DV} (h : RtC c l m) : RtV c (.agg (l.map .d)) (.agg (m.map .d)) := .agg l m h.get.1 h.get.2
theorem RtC.append {c : Nat} {l m l' m' : List DV} (h : RtC c l m) (g : RtC c l' m') : RtC c (l ++ l') (m ++ m') := by
  induction h with
  | nil => exact g
  | cons h t ih => exact .cons h ih
theorem RtV.bool {c : Nat} (b : Bool) : RtV c (.c (.d (.bool b))) (.c (.d (.bool b))) := .c _ _ (.bool b)
theorem RtV.int {c : Nat} (k : IntKind) (n : Int) : RtV c (.c (.d (.int k n))) (.c (.d (.int k n))) := .c _ _ (.int k n)
theorem RtV.str {c : Nat} (s : ByteArray) : RtV c (.c (.d (.str s))) (.c (.d (.str s))) := .c _ _ (.str s)
inductive RtVL (c : Nat) : List Val → List Val → Prop where
  | nil : RtVL c [] []
  | cons {x y : Val} {l m : List Val} (h : RtV c x y) (t : RtVL c l m) : RtVL c (x :: l) (y :: m)
theorem RtVL.tup {c : Nat} {l m : List Val} (h : RtVL c l m) : RtV c (.tup l) (.tup m) := by
  have : l.length = m.length ∧ ∀ (i : Nat) x y, l[i]? = some x → m[i]? = some y → RtV c x y := by
    induction h with
    | nil => exact ⟨rfl, fun i x y h => by simp at h⟩
    | cons h t ih => exact ⟨by simp [ih.1], fun i x y hx hy => by
        cases i with
        | zero => simp at hx hy; subst hx; subst hy; exact h
        | succ i => exact ih.2 i x y (by simpa using hx) (by simpa using hy)⟩
  exact .tup l m this.1 this.2

mutual
def Ty.cellsR (r : Nat) : Ty → List DV
  | .node k ks => [.int .i8 k, .sl r 2 (Ty.rowsR r ks)]
def Ty.rowsR (r : Nat) : List Ty → List (List DV)
  | [] => []
  | t :: l => Ty.cellsR r t :: Ty.rowsR r l
end
def Ty.valR (r : Nat) (t : Ty) : Val := .agg ((t.cellsR r).map .d)
mutual
/-- A term's cells: p for its types, q for its kids. -/
def Tm.cellsR (p q : Nat) : Tm → List DV
  | .node k name arg num tk tks uk uks label place ks => [.int .i8 k, .str name, .str arg, .int .i64 num, .int .i8 tk, .sl p 2 (Ty.rowsR p tks), .int .i8 uk, .sl p 2 (Ty.rowsR p uks), .int .i64 label, .int .i64 place, .sl q 11 (Tm.rowsR p q ks)]
def Tm.rowsR (p q : Nat) : List Tm → List (List DV)
  | [] => []
  | t :: l => Tm.cellsR p q t :: Tm.rowsR p q l
end
def Tm.valR (p q : Nat) (t : Tm) : Val := .agg ((t.cellsR p q).map .d)
theorem tyrowsR_len (r : Nat) : ∀ l : List Ty, (Ty.rowsR r l).length = l.length
  | [] => rfl
  | t :: l => by simp [Ty.rowsR, tyrowsR_len r l]
theorem tyrowsR_get (r : Nat) : ∀ (l : List Ty) (i : Nat) row, (Ty.rowsR r l)[i]? = some row → ∃ t, l[i]? = some t ∧ row = t.cellsR r
  | [], i, row, h => by simp [Ty.rowsR] at h
  | t :: l, 0, row, h => by simp [Ty.rowsR] at h; exact ⟨t, rfl, h.symm⟩
  | t :: l, i + 1, row, h => by
    simp only [Ty.rowsR, List.getElem?_cons_succ] at h ⊢
    exact tyrowsR_get r l i row h
theorem tyrowsR_map (r : Nat) : ∀ l : List Ty, Ty.rowsR r l = l.map (Ty.cellsR r)
  | [] => rfl
  | t :: l => by rw [Ty.rowsR, tyrowsR_map r l]; rfl
theorem tmrowsR_len (p q : Nat) : ∀ l : List Tm, (Tm.rowsR p q l).length = l.length
  | [] => rfl
  | t :: l => by simp [Tm.rowsR, tmrowsR_len p q l]
theorem tmrowsR_get (p q : Nat) : ∀ (l : List Tm) (i : Nat) row, (Tm.rowsR p q l)[i]? = some row → ∃ t, l[i]? = some t ∧ row = t.cellsR p q
  | [], i, row, h => by simp [Tm.rowsR] at h
  | t :: l, 0, row, h => by simp [Tm.rowsR] at h; exact ⟨t, rfl, h.symm⟩
  | t :: l, i + 1, row, h => by
    simp only [Tm.rowsR, List.getElem?_cons_succ] at h ⊢
    exact tmrowsR_get p q l i row h
theorem tmrowsR_map (p q : Nat) : ∀ l : List Tm, Tm.rowsR p q l = l.map (Tm.cellsR p q)
  | [] => rfl
  | t :: l => by rw [Tm.rowsR, tmrowsR_map p q l]; rfl
mutual
theorem ty_R0 : (t : Ty) → t.cellsR 0 = t.cells
  | .node k ks => by rw [Ty.cellsR, tys_R0 ks]; rfl
theorem tys_R0 : (l : List Ty) → Ty.rowsR 0 l = Ty.rows l
  | [] => rfl
  | t :: l => by rw [Ty.rowsR, Ty.rows, ty_R0 t, tys_R0 l]
end
mutual
theorem tm_R0 : (t : Tm) → t.cellsR 0 0 = t.cells
  | .node k name arg num tk tks uk uks label place ks => by rw [Tm.cellsR, tys_R0, tys_R0, tms_R0 ks]; rfl
theorem tms_R0 : (l : List Tm) → Tm.rowsR 0 0 l = Tm.rows l
  | [] => rfl
  | t :: l => by rw [Tm.rowsR, Tm.rows, tm_R0 t, tms_R0 l]
end
mutual
theorem ty_rt (r c : Nat) : (t : Ty) → RtC c (t.cellsR r) (t.cellsR c)
  | .node k ks => by rw [Ty.cellsR, Ty.cellsR]; exact .cons (.int _ _) (.cons (tys_rt r c ks).sl .nil)
theorem tys_rt (r c : Nat) : (l : List Ty) → RtR c (Ty.rowsR r l) (Ty.rowsR c l)
  | [] => by rw [Ty.rowsR, Ty.rowsR]; exact .nil
  | t :: l => by rw [Ty.rowsR, Ty.rowsR]; exact .cons (ty_rt r c t) (tys_rt r c l)
end
mutual
theorem tm_rt (p q c : Nat) : (t : Tm) → RtC c (t.cellsR p q) (t.cellsR c c)
  | .node k name arg num tk tks uk uks label place ks => by
    rw [Tm.cellsR, Tm.cellsR]
    exact .cons (.int _ _) (.cons (.str _) (.cons (.str _) (.cons (.int _ _) (.cons (.int _ _) (.cons (tys_rt p c tks).sl (.cons (.int _ _) (.cons (tys_rt p c uks).sl (.cons (.int _ _) (.cons (.int _ _) (.cons (tms_rt p q c ks).sl .nil))))))))))
theorem tms_rt (p q c : Nat) : (l : List Tm) → RtR c (Tm.rowsR p q l) (Tm.rowsR c c l)
  | [] => by rw [Tm.rowsR, Tm.rowsR]; exact .nil
  | t :: l => by rw [Tm.rowsR, Tm.rowsR]; exact .cons (tm_rt p q c t) (tms_rt p q c l)
end
theorem tm_rtV (p q c : Nat) (t : Tm) : RtV c (t.valR p q) (t.valR c c) := (tm_rt p q c t).agg
theorem tm_V0 (t : Tm) : t.valR 0 0 = t.val := by rw [Tm.valR, tm_R0]; rfl

/-! ### From read only to written over -/
theorem th_rows {c : Bool} : ∀ {rows rows' : List (List DV)}, rows.length = rows'.length → (∀ (j : Nat) row row', rows[j]? = some row → rows'[j]? = some row' → row.length = row'.length ∧ ∀ (i : Nat) x y, row[i]? = some x → row'[i]? = some y → Th x y) → Th (.sl (if c then 4 else 1) (wsz c) rows) (.wsl c rows') := fun hl h =>
  .w c _ _ hl (fun j row row' h1 h2 => (h j row row' h1 h2).1) (fun j i row row' x y h1 h2 h3 h4 => (h j row row' h1 h2).2 i x y h3 h4)
theorem th_int (k : IntKind) (n : Int) : Th (.int k n) (.int k n) := .keep0 _ (.int k n)
theorem th_str (s : ByteArray) : Th (.str s) (.str s) := .keep0 _ (.str s)
def ThCells (l m : List DV) : Prop := l.length = m.length ∧ ∀ (i : Nat) x y, l[i]? = some x → m[i]? = some y → Th x y
theorem ThCells.nil : ThCells [] [] := ⟨rfl, fun i x y h => by simp at h⟩
theorem ThCells.cons {x y : DV} {l m : List DV} (h : Th x y) (t : ThCells l m) : ThCells (x :: l) (y :: m) := ⟨by simp [t.1], fun i u v hu hv => by
  cases i with
  | zero => simp at hu hv; subst hu; subst hv; exact h
  | succ i => exact t.2 i u v (by simpa using hu) (by simpa using hv)⟩
mutual
theorem ty_th : (t : Ty) → ThCells (t.cellsR 1) t.cellsW
  | .node k ks => by
    rw [Ty.cellsR, Ty.cellsW]
    exact .cons (th_int _ _) (.cons (th_rows (c := false) (by rw [tyrowsR_len, tyrowsW_len]) (tys_th ks)) .nil)
theorem tys_th : (l : List Ty) → ∀ (j : Nat) row row', (Ty.rowsR 1 l)[j]? = some row → (Ty.rowsW l)[j]? = some row' → ThCells row row'
  | [] => fun j row row' h => by rw [Ty.rowsR] at h; simp at h
  | t :: l => fun j row row' h h' => by
    rw [Ty.rowsR] at h
    rw [Ty.rowsW] at h'
    match j with
    | 0 => simp at h h'; subst h; subst h'; exact ty_th t
    | j + 1 => exact tys_th l j row row' (by simpa using h) (by simpa using h')
end
mutual
theorem tm_th : (t : Tm) → ThCells (t.cellsR 1 4) t.cellsW
  | .node k name arg num tk tks uk uks label place ks => by
    rw [Tm.cellsR, Tm.cellsW]
    exact .cons (th_int _ _) (.cons (th_str _) (.cons (th_str _) (.cons (th_int _ _) (.cons (th_int _ _) (.cons (th_rows (c := false) (by rw [tyrowsR_len, tyrowsW_len]) (tys_th tks)) (.cons (th_int _ _) (.cons (th_rows (c := false) (by rw [tyrowsR_len, tyrowsW_len]) (tys_th uks))
      (.cons (th_int _ _) (.cons (th_int _ _) (.cons (th_rows (c := true) (by rw [tmrowsR_len, tmrowsW_len]) (tms_th ks)) .nil))))))))))
theorem tms_th : (l : List Tm) → ∀ (j : Nat) row row', (Tm.rowsR 1 4 l)[j]? = some row → (Tm.rowsW l)[j]? = some row' → ThCells row row'
  | [] => fun j row row' h => by rw [Tm.rowsR] at h; simp at h
  | t :: l => fun j row row' h h' => by
    rw [Tm.rowsR] at h
    rw [Tm.rowsW] at h'
    match j with
    | 0 => simp at h h'; subst h; subst h'; exact tm_th t
    | j + 1 => exact tms_th l j row row' (by simpa using h) (by simpa using h')
end
end Go.Proofs.Ytlboogackecjlaa.E
