/- Texts, merged: Ct4, Cs6, Cs7, Cs8, Sm0, Sm1, Ct5. No conditions. -/
import Derived.Test.YtlboogackecjlaaGenX9
import Derived.Test.YtlboogackecjlaaGenX12
import Derived.Test.YtlboogackecjlaaEngX3
import Derived.Test.YtlboogackecjlaaGenX10
import Derived.Test.YtlboogackecjlaaGenX7
import Derived.Test.YtlboogackecjlaaGenX11
/- casts.Erase: its result in blocks of its own, for every tag of what it is handed. No conditions. -/
set_option linter.unusedVariables false
set_option linter.unusedSimpArgs false
namespace Go.Proofs.Ytlboogackecjlaa.E
open Go

set_option maxRecDepth 10000 in
theorem cwhole2_call (a : Ty) : TyOk a → ACall Try.prog 43 [a.valR 9] [] (fun o σ => o = .ret (a.valR 2) ∧ σ = []) := by
  induction a using Ty.ind with
  | _ k ks ih =>
  rintro (⟨hle, ha⟩)
  refine ACall.body tab_ok (ρ := 2) (N := 25) Try.func43 rfl rfl rfl rfl rfl ?_
  repeat' first | refine AW.seq ?_ | refine AW.block ?_ | (refine (id : AW _ _ _ (.region 5 _ true) _ _ → _) ?_; refine AW.draw (id := 5) tab_ok mixed [0, 1, 2, 3, 4, 5, 6, 7] (by kernel_rfl) ?_; conv => whnf) | ((first | refine AW.region tab_ok ?_ | refine AW.cond ?_ | refine AW.skip ?_ | refine AW.ret ?_ | refine AW.exit ?_); conv => whnf) | ((first | refine And.intro (@rfl Val _) ?_ | refine And.intro (by decide) ?_ | refine cs (fun _ => ?_) (fun _ => ?_)) <;> conv => whnf)
  refine AW.ghost 25 2 2 1 (by decide) rfl rfl ?_
  refine AW.loop (ι := UpTo ks) (fun x => ⟨25, [(12, .c (.d (.int .i64 x.i))), (11, .c (.d (.int .i64 (Ty.rowsR 9 ks).length))), (10, .c (.d (.sl 9 2 (Ty.rowsR 9 ks)))), (2, .c (.ptr 1 0)), (3, .c (.ptr 2 0))],
      [.var [.d (.int .i8 k), .d (.sl 9 2 (Ty.rowsR 9 ks))], .var [.d (.int .i8 0), .d .nils], .var [.d (.int .i8 k), .own 3 (Ty.rowsR 2 (ks.take x.i)).length], .row 25 2 (Ty.rowsR 2 (ks.take x.i))], []⟩)
    (fun x => ks.length - x.i) ⟨0, Nat.zero_le _⟩ 4 (fun _ => rfl) (Nat.le_of_ble_eq_true rfl) ⟨⟨rfl, rfl, rfl, rfl, rfl, trivial⟩, rfl, rfl, ⟨[], rfl⟩, rfl⟩ (fun x => ?_)
  obtain ⟨i, hi⟩ := x
  repeat' first | refine AW.seq ?_ | refine AW.block ?_ | (refine (id : AW _ _ _ (.region 5 _ true) _ _ → _) ?_; refine AW.draw (id := 5) tab_ok mixed [0, 1, 2, 3, 4, 5, 6, 7] (by kernel_rfl) ?_; conv => whnf) | ((first | refine AW.region tab_ok ?_ | refine AW.cond ?_ | refine AW.skip ?_ | refine AW.ret ?_ | refine AW.exit ?_); conv => whnf) | ((first | refine And.intro (@rfl Val _) ?_ | refine And.intro (by decide) ?_ | refine cs (fun _ => ?_) (fun _ => ?_)) <;> conv => whnf)
  · rename_i h1
    simp only [tyrowsR_len] at h1
    have := of_decide_eq_true h1
    refine ⟨by simp only [tyrowsR_len]; omega, fun row hrow => ?_⟩
    obtain ⟨x, ht, rfl⟩ := tyrowsR_get 9 ks i row (by simpa using hrow)
    have hlt : i < ks.length := (List.getElem?_eq_some_iff.1 ht).1
    have hm := List.mem_of_getElem? ht
    have hc := ih x hm (ha x hm)
    have hmt : ks.take (i + 1) = ks.take i ++ [x] := by
      rw [List.take_add_one, ht]; rfl
    obtain ⟨km, kms⟩ := x
    conv => whnf
    repeat' first | refine AW.seq ?_ | refine AW.block ?_ | (refine (id : AW _ _ _ (.region 5 _ true) _ _ → _) ?_; refine AW.draw (id := 5) tab_ok mixed [0, 1, 2, 3, 4, 5, 6, 7] (by kernel_rfl) ?_; conv => whnf) | ((first | refine AW.region tab_ok ?_ | refine AW.cond ?_ | refine AW.skip ?_ | refine AW.ret ?_ | refine AW.exit ?_); conv => whnf) | (refine (hc).mono ?_; rintro _ _ ⟨rfl, rfl⟩; conv => whnf) | ((first | refine And.intro (@rfl Val _) ?_ | refine And.intro (by decide) ?_ | refine cs (fun _ => ?_) (fun _ => ?_)) <;> conv => whnf)
    refine ⟨⟨rfl, ?_, ?_⟩, ?_⟩
    · simp only [tyrowsR_len, List.length_take, List.length_cons, List.length_nil]
      omega
    · simp only [tyrowsR_len, List.length_take, List.length_cons, List.length_nil]
      omega
    conv => whnf
    repeat' first | refine AW.seq ?_ | refine AW.block ?_ | (refine (id : AW _ _ _ (.region 5 _ true) _ _ → _) ?_; refine AW.draw (id := 5) tab_ok mixed [0, 1, 2, 3, 4, 5, 6, 7] (by kernel_rfl) ?_; conv => whnf) | ((first | refine AW.region tab_ok ?_ | refine AW.cond ?_ | refine AW.skip ?_ | refine AW.ret ?_ | refine AW.exit ?_); conv => whnf) | ((first | refine And.intro (@rfl Val _) ?_ | refine And.intro (by decide) ?_ | refine cs (fun _ => ?_) (fun _ => ?_)) <;> conv => whnf)
    have e : Ty.rowsR 2 (ks.take i) ++ [[.int .i8 km, .sl 2 2 (Ty.rowsR 2 kms)]] = Ty.rowsR 2 (ks.take (i + 1)) := by
      rw [hmt, tyrowsR_app]; rfl
    have el : (Ty.rowsR 2 (ks.take i)).length + [[DV.int .i8 km, .sl 2 2 (Ty.rowsR 2 kms)]].length = (Ty.rowsR 2 (ks.take (i + 1))).length := by
      rw [← List.length_append, e]
    rw [el, e, wrap64 (x := (i : Int) + 1) (by omega) (by omega)]
    exact ⟨⟨i + 1, hlt⟩, ⟨⟨rfl, rfl, rfl, rfl, rfl, trivial⟩, rfl, rfl, ⟨[_], rfl⟩, rfl⟩, show ks.length - (i + 1) < ks.length - i by omega⟩
  · rename_i h1
    simp only [tyrowsR_len] at h1
    have := of_decide_eq_false h1
    obtain rfl : i = ks.length := by omega
    have e : ks.take ks.length = ks := List.take_of_length_le (by omega)
    simp only [e]
    first | refine ⟨trivial, ?_⟩ | refine ⟨rfl, ?_⟩ | skip
    conv => whnf
    first | exact ⟨rfl, rfl⟩ | exact ⟨rfl, trivial⟩ | (simp; rfl)
set_option maxRecDepth 10000 in
set_option maxHeartbeats 4000000 in
theorem cbare2_call (k : Int) (name arg : ByteArray) (num tk : Int) (tks : List Ty) (uk : Int) (uks : List Ty) (label place : Int) (ks : List Tm) (hv : validK k = true) (hk : k ≠ 17) (n1 : typeK k = true → TyOk (.node tk tks)) (n2 : toK k = true → TyOk (.node uk uks)) :
    ACall Try.prog 81 [.c (.d (.rp 9 ((Tm.node k name arg num tk tks uk uks label place ks).cellsR 9 9)))] [] (fun o σ => o = .ret (.agg [.d (.int .i8 k), .d (.str (if nameK k || decide (k = 15) then name else ⟨#[]⟩)), .d (.str (if argK k then arg else ⟨#[]⟩)), .d (.int .i64 (if decide (k = 1) then num else 0)), .d (.int .i8 (if typeK k then tk else 0)), .d (.sl 2 2 (Ty.rowsR 2 (if typeK k then tks else []))), .d (.int .i8 (if toK k then uk else 0)), .d (.sl 2 2 (Ty.rowsR 2 (if toK k then uks else []))), .d (.int .i64 0), .d (.int .i64 place), .d .nils]) ∧ σ = []) := by
  have w1 : typeK k = true → ACall Try.prog 43 [(Ty.node tk tks).valR 9] [] (fun o σ => o = .ret ((Ty.node tk tks).valR 2) ∧ σ = []) := fun h => cwhole2_call _ (n1 h)
  have w2 : toK k = true → ACall Try.prog 43 [(Ty.node uk uks).valR 9] [] (fun o σ => o = .ret ((Ty.node uk uks).valR 2) ∧ σ = []) := fun h => cwhole2_call _ (n2 h)
  clear n1 n2
  rcases kinds k hv with rfl | rfl | rfl | rfl | rfl | rfl | rfl | rfl | rfl | rfl | rfl | rfl | rfl | rfl | rfl | rfl | rfl | rfl
  all_goals first
    | (exact absurd rfl hk)
    | (clear hv hk
       refine ACall.body tab2_ok (ρ := 2) (N := 93) Try.func81 rfl rfl rfl rfl rfl ?_
       skip
       repeat' first | refine AW.seq ?_ | refine AW.block ?_ | (refine (id : AW _ _ _ (.region 1 _ true) _ _ → _) ?_; refine AW.draw (id := 1) tab2_ok mixed [0, 1, 2, 3, 4, 5, 6, 7, 8, 9, 10] (by kernel_rfl) ?_; conv => whnf) | (refine (id : AW _ _ _ (.region 10 _ true) _ _ → _) ?_; refine AW.draw (id := 10) tab2_ok mixed [0, 1, 2, 3, 4, 5, 6, 7, 9, 8, 10, 11, 12] (by kernel_rfl) ?_; conv => whnf) | (refine (id : AW _ _ _ (.region 12 _ true) _ _ → _) ?_; refine AW.draw (id := 12) tab2_ok mixed [0, 1, 2, 3, 4, 5, 6, 7, 8, 9, 10, 11, 13, 14, 15, 16, 18, 12, 17, 19, 20, 21, 22, 23, 24, 25] (by kernel_rfl) ?_; conv => whnf) | (refine (id : AW _ _ _ (.region 14 _ true) _ _ → _) ?_; refine AW.draw (id := 14) tab2_ok mixed [0, 1, 2, 3, 4, 5, 6, 7, 8, 9, 10, 11] (by kernel_rfl) ?_; conv => whnf) | ((first | refine AW.region tab2_ok ?_ | refine AW.cond ?_ | refine AW.skip ?_ | refine AW.ret ?_ | refine AW.exit ?_); conv => whnf) | ((first | refine (w1 rfl).mono ?_ | refine (w2 rfl).mono ?_); rintro _ _ ⟨rfl, rfl⟩; conv => whnf) | ((first | refine And.intro (@rfl Val _) ?_ | refine And.intro (by decide) ?_ | refine cs (fun _ => ?_) (fun _ => ?_)) <;> conv => whnf)
       exact ⟨rfl, rfl⟩)
set_option maxRecDepth 10000 in
theorem erase2_rest (k : Int) (name arg : ByteArray) (num tk : Int) (tks : List Ty) (uk : Int) (uks : List Ty) (label place : Int) (ks : List Tm) (ms : List Tm) (hlen : ks.length ≤ 8192) (hms : ms.length = ks.length)
    (hk : ∀ (i : Nat) x, ks[i]? = some x → ∃ m, ms[i]? = some m ∧ ACall Try.prog 54 [.c (.d (.rp 9 (x.cellsR 9 9)))] [] (fun o σ => o = .ret (m.valR 2 2) ∧ σ = [])) :
    AW Try.prog tab 2 rest113 ⟨40, [(0, .c (.d (.rp 9 ((Tm.node k name arg num tk tks uk uks label place ks).cellsR 9 9)))), (2, .c (.ptr 0 0)), (3, .c (.ptr 1 0))], [.var [.d (.int .i8 0), .d (.str ⟨#[]⟩), .d (.str ⟨#[]⟩), .d (.int .i64 0), .d (.int .i8 0), .d .nils, .d (.int .i8 0), .d .nils, .d (.int .i64 0), .d (.int .i64 0), .d .nils], .var [.d (.int .i8 k), .d (.str (if nameK k || decide (k = 15) then name else ⟨#[]⟩)), .d (.str (if argK k then arg else ⟨#[]⟩)), .d (.int .i64 (if decide (k = 1) then num else 0)), .d (.int .i8 (if typeK k then tk else 0)), .d (.sl 2 2 (Ty.rowsR 2 (if typeK k then tks else []))), .d (.int .i8 (if toK k then uk else 0)), .d (.sl 2 2 (Ty.rowsR 2 (if toK k then uks else []))), .d (.int .i64 0), .d (.int .i64 place), .d .nils]], []⟩
      (afin tab 2 54 [.cell 2 28] 0 (fun o σ => o = .ret ((Tm.node k (if nameK k || decide (k = 15) then name else ⟨#[]⟩) (if argK k then arg else ⟨#[]⟩) (if decide (k = 1) then num else 0) (if typeK k then tk else 0) (if typeK k then tks else []) (if toK k then uk else 0) (if toK k then uks else []) 0 place ms).valR 2 2) ∧ σ = [])) := by
  repeat' first | refine AW.seq ?_ | refine AW.block ?_ | (refine (id : AW _ _ _ (.region 7 _ true) _ _ → _) ?_; refine AW.draw (id := 7) tab_ok mixed [0, 1, 2, 3, 4, 5, 6, 7, 8, 9, 10, 11, 12] (by kernel_rfl) ?_; conv => whnf) | ((first | refine AW.region tab_ok ?_ | refine AW.cond ?_ | refine AW.skip ?_ | refine AW.ret ?_ | refine AW.exit ?_); conv => whnf) | ((first | refine And.intro (@rfl Val _) ?_ | refine And.intro (by decide) ?_ | refine cs (fun _ => ?_) (fun _ => ?_)) <;> conv => whnf)
  refine AW.ghost 28 11 1 10 (by decide) rfl rfl ?_
  refine AW.loop (ι := UpToT ks) (fun x => ⟨40, [(23, .c (.d (.int .i64 x.i))), (22, .c (.d (.int .i64 (Tm.rowsR 9 9 ks).length))), (0, .c (.d (.rp 9 ((Tm.node k name arg num tk tks uk uks label place ks).cellsR 9 9)))), (2, .c (.ptr 0 0)), (3, .c (.ptr 1 0))],
      [.var [.d (.int .i8 0), .d (.str ⟨#[]⟩), .d (.str ⟨#[]⟩), .d (.int .i64 0), .d (.int .i8 0), .d .nils, .d (.int .i8 0), .d .nils, .d (.int .i64 0), .d (.int .i64 0), .d .nils], .var [.d (.int .i8 k), .d (.str (if nameK k || decide (k = 15) then name else ⟨#[]⟩)), .d (.str (if argK k then arg else ⟨#[]⟩)), .d (.int .i64 (if decide (k = 1) then num else 0)), .d (.int .i8 (if typeK k then tk else 0)), .d (.sl 2 2 (Ty.rowsR 2 (if typeK k then tks else []))), .d (.int .i8 (if toK k then uk else 0)), .d (.sl 2 2 (Ty.rowsR 2 (if toK k then uks else []))), .d (.int .i64 0), .d (.int .i64 place), .own 2 (Tm.rowsR 2 2 (ms.take x.i)).length], .row 28 11 (Tm.rowsR 2 2 (ms.take x.i))], []⟩)
    (fun x => ks.length - x.i) ⟨0, Nat.zero_le _⟩ 3 (fun _ => rfl) (Nat.le_of_ble_eq_true rfl) ⟨⟨rfl, rfl, rfl, rfl, rfl, trivial⟩, rfl, rfl, ⟨[], rfl⟩, rfl⟩ (fun x => ?_)
  obtain ⟨i, hi⟩ := x
  repeat' first | refine AW.seq ?_ | refine AW.block ?_ | (refine (id : AW _ _ _ (.region 7 _ true) _ _ → _) ?_; refine AW.draw (id := 7) tab_ok mixed [0, 1, 2, 3, 4, 5, 6, 7, 8, 9, 10, 11, 12] (by kernel_rfl) ?_; conv => whnf) | ((first | refine AW.region tab_ok ?_ | refine AW.cond ?_ | refine AW.skip ?_ | refine AW.ret ?_ | refine AW.exit ?_); conv => whnf) | ((first | refine And.intro (@rfl Val _) ?_ | refine And.intro (by decide) ?_ | refine cs (fun _ => ?_) (fun _ => ?_)) <;> conv => whnf)
  · rename_i h1
    simp only [tmrowsR_len] at h1
    have := of_decide_eq_true h1
    refine ⟨by simp only [tmrowsR_len]; omega, fun row hrow => ?_⟩
    obtain ⟨x, ht, rfl⟩ := tmrowsR_get 9 9 ks i row (by simpa using hrow)
    have hlt : i < ks.length := (List.getElem?_eq_some_iff.1 ht).1
    conv => whnf
    obtain ⟨m, hm, hc⟩ := hk i x ht
    have hmt : ms.take (i + 1) = ms.take i ++ [m] := by
      rw [List.take_add_one, hm]; rfl
    have e : Tm.rowsR 2 2 (ms.take i) ++ [m.cellsR 2 2] = Tm.rowsR 2 2 (ms.take (i + 1)) := by
      rw [hmt, tmrowsR_app]
    have el : (Tm.rowsR 2 2 (ms.take i)).length + [m.cellsR 2 2].length = (Tm.rowsR 2 2 (ms.take (i + 1))).length := by
      rw [← List.length_append, e]
    obtain ⟨kx, namex, argx, numx, tkx, tksx, ukx, uksx, labelx, placex, ksx⟩ := m
    repeat' first | refine AW.seq ?_ | refine AW.block ?_ | (refine (id : AW _ _ _ (.region 7 _ true) _ _ → _) ?_; refine AW.draw (id := 7) tab_ok mixed [0, 1, 2, 3, 4, 5, 6, 7, 8, 9, 10, 11, 12] (by kernel_rfl) ?_; conv => whnf) | ((first | refine AW.region tab_ok ?_ | refine AW.cond ?_ | refine AW.skip ?_ | refine AW.ret ?_ | refine AW.exit ?_); conv => whnf) | (refine (hc).mono ?_; rintro _ _ ⟨rfl, rfl⟩; conv => whnf) | ((first | refine And.intro (@rfl Val _) ?_ | refine And.intro (by decide) ?_ | refine cs (fun _ => ?_) (fun _ => ?_)) <;> conv => whnf)
    refine ⟨⟨rfl, ?_, ?_⟩, ?_⟩
    · simp only [tmrowsR_len, List.length_take, List.length_cons, List.length_nil]
      omega
    · simp only [tmrowsR_len, List.length_take, List.length_cons, List.length_nil]
      omega
    conv => whnf
    repeat' first | refine AW.seq ?_ | refine AW.block ?_ | (refine (id : AW _ _ _ (.region 7 _ true) _ _ → _) ?_; refine AW.draw (id := 7) tab_ok mixed [0, 1, 2, 3, 4, 5, 6, 7, 8, 9, 10, 11, 12] (by kernel_rfl) ?_; conv => whnf) | ((first | refine AW.region tab_ok ?_ | refine AW.cond ?_ | refine AW.skip ?_ | refine AW.ret ?_ | refine AW.exit ?_); conv => whnf) | ((first | refine And.intro (@rfl Val _) ?_ | refine And.intro (by decide) ?_ | refine cs (fun _ => ?_) (fun _ => ?_)) <;> conv => whnf)
    simp only [Tm.cellsR] at e el
    rw [el, e, wrap64 (x := (i : Int) + 1) (by omega) (by omega)]
    exact ⟨⟨i + 1, hlt⟩, ⟨⟨rfl, rfl, rfl, rfl, rfl, trivial⟩, rfl, rfl, ⟨[], rfl⟩, rfl⟩, show ks.length - (i + 1) < ks.length - i by omega⟩
  · rename_i h1
    simp only [tmrowsR_len] at h1
    have := of_decide_eq_false h1
    obtain rfl : i = ks.length := by omega
    have e : ms.take ks.length = ms := List.take_of_length_le (by omega)
    simp only [e]
    first | refine ⟨trivial, ?_⟩ | refine ⟨rfl, ?_⟩ | skip
    conv => whnf
    first | exact ⟨rfl, rfl⟩ | exact ⟨rfl, trivial⟩ | (simp; rfl)
set_option maxRecDepth 10000 in
theorem erase2_call (a : Tm) : Fine2 a → tmN a ≤ 8192 → tmright a = true → ACall Try.prog 54 [.c (.d (.rp 9 (a.cellsR 9 9)))] [] (fun o σ => o = .ret ((tmerase a).valR 2 2) ∧ σ = []) := by
  induction a using Tm.ind with
  | _ k name arg num tk tks uk uks label place ks ih =>
  intro hf hN ha
  obtain ⟨hT, hU, _, hks⟩ := hf
  have hlen := tmNL_len ks
  simp only [tmN] at hN
  have hkl := tmright_len ha
  have ih' : ∀ (i : Nat) x, ks[i]? = some x → ∃ m, (tmerases ks)[i]? = some m ∧ ACall Try.prog 54 [.c (.d (.rp 9 (x.cellsR 9 9)))] [] (fun o σ => o = .ret (m.valR 2 2) ∧ σ = []) := fun i x hx => by
    have hm := List.mem_of_getElem? hx
    have := tmN_mem ks x hm
    exact ⟨tmerase x, tmerases_get hx, ih x hm (hks x hm) (by omega) (tmright_kid ha hm)⟩
  have fin : k ≠ 17 → ∀ (env : List (Nat × Val)), get env 0 = .c (.d (.rp 9 ((Tm.node k name arg num tk tks uk uks label place ks).cellsR 9 9))) → get env 2 = .c (.ptr 0 0) → get env 3 = .c (.ptr 1 0) →
      AW Try.prog tab 2 rest113 ⟨40, env, [.var [.d (.int .i8 0), .d (.str ⟨#[]⟩), .d (.str ⟨#[]⟩), .d (.int .i64 0), .d (.int .i8 0), .d .nils, .d (.int .i8 0), .d .nils, .d (.int .i64 0), .d (.int .i64 0), .d .nils], .var [.d (.int .i8 k), .d (.str (if nameK k || decide (k = 15) then name else ⟨#[]⟩)), .d (.str (if argK k then arg else ⟨#[]⟩)), .d (.int .i64 (if decide (k = 1) then num else 0)), .d (.int .i8 (if typeK k then tk else 0)), .d (.sl 2 2 (Ty.rowsR 2 (if typeK k then tks else []))), .d (.int .i8 (if toK k then uk else 0)), .d (.sl 2 2 (Ty.rowsR 2 (if toK k then uks else []))), .d (.int .i64 0), .d (.int .i64 place), .d .nils]], []⟩ (afin tab 2 54 Try.f54.results.toList ([] : List AObj).length (fun o σ => o = .ret ((tmerase (.node k name arg num tk tks uk uks label place ks)).valR 2 2) ∧ σ = [])) := fun hk env g0 g2 g3 => by
    rw [show tmerase (.node k name arg num tk tks uk uks label place ks) = .node k (if nameK k || decide (k = 15) then name else ⟨#[]⟩) (if argK k then arg else ⟨#[]⟩) (if decide (k = 1) then num else 0) (if typeK k then tk else 0) (if typeK k then tks else []) (if toK k then uk else 0) (if toK k then uks else []) 0 place (tmerases ks) by simp only [tmerase]; rw [if_neg hk]]
    refine AW.fits ?_ ?_ (erase2_rest k name arg num tk tks uk uks label place ks (tmerases ks) (by omega) (tmerases_len ks) ih')
    · exact ⟨⟨g0, g2, g3, trivial⟩, rfl, rfl, ⟨[], rfl⟩, rfl⟩
    · rfl
  have hv := tmright_valid ha
  have c1 := fun hk => cbare2_call k name arg num tk tks uk uks label place ks hv hk (fun _ => hT) (fun _ => hU)
  clear hlen hN hv
  by_cases hk : k = 17
  · subst hk
    obtain ⟨x, rfl⟩ : ∃ x, ks = [x] := by
      have : kidsK 17 = 1 := rfl
      match ks, hkl with
      | [], h => simp [this] at h
      | [x], _ => exact ⟨x, rfl⟩
      | x :: y :: l, h => simp [this] at h; omega
    obtain ⟨m, hm, hc⟩ := ih' 0 x rfl
    have e : tmerase (.node 17 name arg num tk tks uk uks label place [x]) = tmerase x := by simp [tmerase, tmerases]
    have em : m = tmerase x := by simpa [tmerases] using hm.symm
    rw [e, ← em]
    clear ih ih' fin c1 e em hm ha hkl
    obtain ⟨kx, namex, argx, numx, tkx, tksx, ukx, uksx, labelx, placex, ksx⟩ := m
    refine ACall.body tab_ok (ρ := 2) (N := 40) Try.func54 rfl rfl rfl rfl rfl ?_
    skip
    repeat' first | refine AW.seq ?_ | refine AW.block ?_ | (refine (id : AW _ _ _ (.region 7 _ true) _ _ → _) ?_; refine AW.draw (id := 7) tab_ok mixed [0, 1, 2, 3, 4, 5, 6, 7, 8, 9, 10, 11, 12] (by kernel_rfl) ?_; conv => whnf) | ((first | refine AW.region tab_ok ?_ | refine AW.cond ?_ | refine AW.skip ?_ | refine AW.ret ?_ | refine AW.exit ?_); conv => whnf) | (refine (hc).mono ?_; rintro _ _ ⟨rfl, rfl⟩; conv => whnf) | ((first | refine And.intro (@rfl Val _) ?_ | refine And.intro (by decide) ?_ | refine cs (fun _ => ?_) (fun _ => ?_)) <;> conv => whnf)
    refine ⟨by simp [Tm.rowsR], fun row hrow => ?_⟩
    obtain rfl : row = x.cellsR 9 9 := by simpa [Tm.rowsR] using hrow.symm
    conv => whnf
    repeat' first | refine AW.seq ?_ | refine AW.block ?_ | (refine (id : AW _ _ _ (.region 7 _ true) _ _ → _) ?_; refine AW.draw (id := 7) tab_ok mixed [0, 1, 2, 3, 4, 5, 6, 7, 8, 9, 10, 11, 12] (by kernel_rfl) ?_; conv => whnf) | ((first | refine AW.region tab_ok ?_ | refine AW.cond ?_ | refine AW.skip ?_ | refine AW.ret ?_ | refine AW.exit ?_); conv => whnf) | (refine (hc).mono ?_; rintro _ _ ⟨rfl, rfl⟩; conv => whnf) | ((first | refine And.intro (@rfl Val _) ?_ | refine And.intro (by decide) ?_ | refine cs (fun _ => ?_) (fun _ => ?_)) <;> conv => whnf)
    exact ⟨rfl, rfl⟩
  · have c1 := c1 hk
    have fin := fin hk
    have hb : (k == 17) = false := by simpa using hk
    clear ih ih' ha hkl
    refine ACall.body tab_ok (ρ := 2) (N := 40) Try.func54 rfl rfl rfl rfl rfl ?_
    skip
    repeat' first | (exact fin _ rfl rfl rfl) | refine AW.seq ?_ | refine AW.block ?_ | (refine (id : AW _ _ _ (.region 7 _ true) _ _ → _) ?_; refine AW.draw (id := 7) tab_ok mixed [0, 1, 2, 3, 4, 5, 6, 7, 8, 9, 10, 11, 12] (by kernel_rfl) ?_; conv => whnf) | ((first | refine AW.region tab_ok ?_ | refine AW.cond ?_ | refine AW.skip ?_ | refine AW.ret ?_ | refine AW.exit ?_); conv => whnf) | (refine (c1).mono ?_; rintro _ _ ⟨rfl, rfl⟩; conv => whnf) | ((first | refine And.intro (@rfl Val _) ?_ | refine And.intro (by decide) ?_ | refine cs (fun _ => ?_) (fun _ => ?_)) <;> conv => whnf)
    all_goals (rename_i h; rw [hb] at h; cases h)
set_option maxRecDepth 10000 in
theorem Erase2_call (t : Tm) (p q : Nat) (hf : tmcheck t = 0 → Fine2 t) : ACall Try.prog 25 [t.valR p q] [] (fun o σ => o = .ret ((tmEraseS t).valR 2 2) ∧ σ = []) := by
  refine ACall.argsT (.cons (.rt (tm_rtV p q 9 t)) .nil) ?_
  have c1 : ACall Try.prog 40 [t.valR 9 9] [] (fun o σ => o = .ret (.c (.d (.int .i64 (tmcheck t)))) ∧ σ = []) :=
    (tmCheck_call t).any (.cons (by rw [← tm_V0]; exact tm_rtV 9 9 0 t) .nil) (.int _ _)
  have c2 : tmcheck t = 0 → ACall Try.prog 54 [.c (.d (.rp 2 (t.cellsR 9 9)))] [] (fun o σ => o = .ret ((tmEraseS t).valR 2 2) ∧ σ = []) := fun h => by
    rw [show tmEraseS t = tmerase t by simp [tmEraseS, h]]
    exact ACall.argsT (.cons (.rt (.c _ _ (RtC.rp (tm_rt 9 9 9 t)))) .nil) <| erase2_call t (hf h) (tmcheck_N h) (tmcheck_right h)
  have e3 : tmcheck t ≠ 0 → tmEraseS t = (.node 0 ⟨#[]⟩ ⟨#[]⟩ 0 0 [] 0 [] 0 0 []) := fun h => by simp [tmEraseS, h]
  clear hf
  generalize tmcheck t = cc at *
  generalize tmEraseS t = m at *
  obtain ⟨k, name, arg, num, tk, tks, uk, uks, label, place, ks⟩ := t
  refine ACall.body tab_ok (ρ := 2) (N := 8) Try.func25 rfl rfl rfl rfl rfl ?_
  repeat' first | refine AW.seq ?_ | refine AW.block ?_ | ((first | refine AW.region tab_ok ?_ | refine AW.cond ?_ | refine AW.skip ?_ | refine AW.ret ?_ | refine AW.exit ?_); conv => whnf) | (refine (c1).mono ?_; rintro _ _ ⟨rfl, rfl⟩; conv => whnf) | ((first | refine And.intro (@rfl Val _) ?_ | refine And.intro (by decide) ?_ | refine cs (fun _ => ?_) (fun _ => ?_)) <;> conv => whnf)
  · rename_i h
    rw [e3 (by simpa using h)]
    exact ⟨rfl, rfl⟩
  · rename_i h
    have c2 := c2 (by simpa using h)
    obtain ⟨kx, namex, argx, numx, tkx, tksx, ukx, uksx, labelx, placex, ksx⟩ := m
    refine c2.mono ?_
    rintro _ _ ⟨rfl, rfl⟩
    conv => whnf
    repeat' first | refine AW.seq ?_ | refine AW.block ?_ | ((first | refine AW.region tab_ok ?_ | refine AW.cond ?_ | refine AW.skip ?_ | refine AW.ret ?_ | refine AW.exit ?_); conv => whnf) | ((first | refine And.intro (@rfl Val _) ?_ | refine And.intro (by decide) ?_ | refine cs (fun _ => ?_) (fun _ => ?_)) <;> conv => whnf)
    exact ⟨rfl, rfl⟩
end Go.Proofs.Ytlboogackecjlaa.E

/- Walks: casts.each with Safe's closure, Safe. No conditions. -/
set_option linter.unusedVariables false
set_option linter.unusedSimpArgs false
namespace Go.Proofs.Ytlboogackecjlaa.E
open Go

end Go.Proofs.Ytlboogackecjlaa.E

/- Plain laws of casts. No conditions. -/
set_option linter.unusedVariables false
set_option linter.unusedSimpArgs false
namespace Go.Proofs.Ytlboogackecjlaa.E
open Go

/-! ### Sides -/
end Go.Proofs.Ytlboogackecjlaa.E

/- Walks: the laws' wakes on casts; the law CastsSides. No conditions. -/
set_option linter.unusedVariables false
set_option linter.unusedSimpArgs false
namespace Go.Proofs.Ytlboogackecjlaa.E
open Go

def tmW : Tm := (.node 17 ⟨#[]⟩ ⟨#[]⟩ 0 0 [] 1 [] 5 0 [.node 17 ⟨#[]⟩ ⟨#[]⟩ 0 1 [] 0 [] 2 0 [.node 1 ⟨#[]⟩ ⟨#[]⟩ 7 0 [] 0 [] 0 0 []]])
theorem tmW_casts : tcastsS tmW = [.mk 0 [] 1 [] 5, .mk 1 [] 0 [] 2] := by
  unfold tcastsS
  rw [if_pos (by decide +kernel)]
  rfl
theorem tmW_erase : tmEraseS tmW = .node 1 ⟨#[]⟩ ⟨#[]⟩ 7 0 [] 0 [] 0 0 [] := by
  unfold tmEraseS
  rw [if_pos (by decide +kernel)]
  rfl
end Go.Proofs.Ytlboogackecjlaa.E

/- Small terms: counted with an early end. No conditions. -/
set_option linter.unusedVariables false
set_option linter.unusedSimpArgs false
namespace Go.Proofs.Ytlboogackecjlaa.E
open Go

structure TypedI (n m : Nat) where
  i : Nat
  c : Nat
  hi : i ≤ m
  h : i + n + 1 ≤ c ∧ c ≤ max 32769 (n + 1)
set_option maxRecDepth 10000 in
theorem typed_call (a : Ty) : ∀ n : Nat, n ≤ 32770 → ACall Try.prog 65 [a.val, .c (.d (.int .i64 n))] [] (fun o σ => ∃ r : Nat, (n < r ∧ r ≤ max 32769 (n + 1)) ∧ o = .ret (.c (.d (.int .i64 r))) ∧ σ = []) := by
  induction a using Ty.ind with
  | _ k ks ih =>
  intro n hn
  have hw : IntKind.i64.wrap ((n : Int) + 1) = ((n + 1 : Nat) : Int) := by rw [wrap64 (x := (n : Int) + 1) (by omega) (by omega)]; omega
  refine ACall.body tab_ok (ρ := 0) (N := 27) Try.func65 rfl rfl rfl rfl rfl ?_
  repeat' first | refine AW.seq ?_ | refine AW.block ?_ | ((first | refine AW.region tab_ok ?_ | refine AW.cond ?_ | refine AW.skip ?_ | refine AW.ret ?_ | refine AW.exit ?_); conv => whnf) | ((first | refine And.intro (@rfl Val _) ?_ | refine And.intro (by decide) ?_ | refine cs (fun _ => ?_) (fun _ => ?_)) <;> conv => whnf)
  refine AW.loop (ι := TypedI n ks.length) (fun x => ⟨27, [(5, .c (.d (.int .i64 x.i))), (1, .c (.d (.int .i64 x.c))), (2, .c (.ptr 0 0))], [.var [.d (.int .i8 k), .d (.sl 0 2 (Ty.rows ks))]], []⟩)
    (fun x => ks.length - x.i) ⟨0, n + 1, Nat.zero_le _, ⟨by omega, Nat.le_max_right _ _⟩⟩ 1 (fun _ => rfl) (Nat.le_of_ble_eq_true rfl) ⟨⟨rfl, by rw [hw]; rfl, rfl, trivial⟩, rfl, rfl, ⟨[], rfl⟩, rfl⟩ (fun x => ?_)
  obtain ⟨i, c, hi, h⟩ := x
  repeat' first | refine AW.seq ?_ | refine AW.block ?_ | ((first | refine AW.region tab_ok ?_ | refine AW.cond ?_ | refine AW.skip ?_ | refine AW.ret ?_ | refine AW.exit ?_); conv => whnf) | ((first | refine And.intro (@rfl Val _) ?_ | refine And.intro (by decide) ?_ | refine cs (fun _ => ?_) (fun _ => ?_)) <;> conv => whnf)
  · rename_i h1 h2
    simp only [rows_length] at h1 ⊢
    have := of_decide_eq_true h1
    have h3 : c ≤ 32768 := by have := of_decide_eq_true h2; simp only at this; omega
    refine ⟨by omega, fun row hrow => ?_⟩
    obtain ⟨⟨k', ks'⟩, ht, rfl⟩ := rows_get ks i row (by simpa using hrow)
    have hlt : i < ks.length := (List.getElem?_eq_some_iff.1 ht).1
    conv => whnf
    repeat' first | refine AW.seq ?_ | refine AW.block ?_ | ((first | refine AW.region tab_ok ?_ | refine AW.cond ?_ | refine AW.skip ?_ | refine AW.ret ?_ | refine AW.exit ?_); conv => whnf) | ((first | refine And.intro (@rfl Val _) ?_ | refine And.intro (by decide) ?_ | refine cs (fun _ => ?_) (fun _ => ?_)) <;> conv => whnf)
    refine (ih _ (List.mem_of_getElem? ht) _ (by omega)).mono ?_
    rintro _ _ ⟨r, hr, rfl, rfl⟩
    conv => whnf
    repeat' first | refine AW.seq ?_ | refine AW.block ?_ | ((first | refine AW.region tab_ok ?_ | refine AW.cond ?_ | refine AW.skip ?_ | refine AW.ret ?_ | refine AW.exit ?_); conv => whnf) | ((first | refine And.intro (@rfl Val _) ?_ | refine And.intro (by decide) ?_ | refine cs (fun _ => ?_) (fun _ => ?_)) <;> conv => whnf)
    rw [wrap64 (x := (i : Int) + 1) (by omega) (by omega)]
    exact ⟨⟨i + 1, r, hlt, by omega⟩, ⟨⟨rfl, rfl, rfl, trivial⟩, rfl, rfl, ⟨[], rfl⟩, rfl⟩, show ks.length - (i + 1) < ks.length - i by omega⟩
  · exact ⟨c, by omega, rfl, rfl⟩
  · exact ⟨c, by omega, rfl, rfl⟩
end Go.Proofs.Ytlboogackecjlaa.E

/- Small terms, great ones of layer 10: counted with an early end. No conditions. -/
set_option linter.unusedVariables false
set_option linter.unusedSimpArgs false
namespace Go.Proofs.Ytlboogackecjlaa.E
open Go

structure CountedP (n m most : Nat) where
  i : Nat
  c : Nat
  hi : i ≤ m
  h : i + n + 1 ≤ c ∧ c ≤ most
set_option maxRecDepth 10000 in
theorem smcounted_call (t : Tm) : ∀ n : Nat, n ≤ 32768 → ACall Try.prog 37 [t.val, .c (.d (.int .i64 n))] [] (fun o σ => ∃ r : Nat, (n < r ∧ r ≤ 32771) ∧ o = .ret (.c (.d (.int .i64 r))) ∧ σ = []) := by
  induction t using Tm.ind with
  | _ k name arg num tk tks uk uks label place ks ih =>
  intro n hn
  have hw : IntKind.i64.wrap ((n : Int) + 1) = ((n + 1 : Nat) : Int) := by rw [wrap64 (x := (n : Int) + 1) (by omega) (by omega)]; omega
  refine ACall.body tab_ok (ρ := 0) (N := 33) Try.func37 rfl rfl rfl rfl rfl ?_
  repeat' first | refine AW.seq ?_ | refine AW.block ?_ | (refine (id : AW _ _ _ (.region 1 _ true) _ _ → _) ?_; refine AW.draw (id := 1) tab_ok mixed [0, 1, 2, 3, 4, 5, 6, 7, 8] (by kernel_rfl) ?_; conv => whnf) | ((first | refine AW.region tab_ok ?_ | refine AW.cond ?_ | refine AW.skip ?_ | refine AW.ret ?_ | refine AW.exit ?_); conv => whnf) | ((first | refine And.intro (@rfl Val _) ?_ | refine And.intro (by decide) ?_ | refine cs (fun _ => ?_) (fun _ => ?_)) <;> conv => whnf)
  all_goals rw [hw]
  refine (typed_call (.node tk tks) (n + 1) (by omega)).mono ?_
  rintro _ _ ⟨r1, hr1, rfl, rfl⟩
  conv => whnf
  repeat' first | refine AW.seq ?_ | refine AW.block ?_ | (refine (id : AW _ _ _ (.region 1 _ true) _ _ → _) ?_; refine AW.draw (id := 1) tab_ok mixed [0, 1, 2, 3, 4, 5, 6, 7, 8] (by kernel_rfl) ?_; conv => whnf) | ((first | refine AW.region tab_ok ?_ | refine AW.cond ?_ | refine AW.skip ?_ | refine AW.ret ?_ | refine AW.exit ?_); conv => whnf) | ((first | refine And.intro (@rfl Val _) ?_ | refine And.intro (by decide) ?_ | refine cs (fun _ => ?_) (fun _ => ?_)) <;> conv => whnf)
  refine (typed_call (.node uk uks) r1 (by omega)).mono ?_
  rintro _ _ ⟨r2, hr2, rfl, rfl⟩
  conv => whnf
  repeat' first | refine AW.seq ?_ | refine AW.block ?_ | (refine (id : AW _ _ _ (.region 1 _ true) _ _ → _) ?_; refine AW.draw (id := 1) tab_ok mixed [0, 1, 2, 3, 4, 5, 6, 7, 8] (by kernel_rfl) ?_; conv => whnf) | ((first | refine AW.region tab_ok ?_ | refine AW.cond ?_ | refine AW.skip ?_ | refine AW.ret ?_ | refine AW.exit ?_); conv => whnf) | ((first | refine And.intro (@rfl Val _) ?_ | refine And.intro (by decide) ?_ | refine cs (fun _ => ?_) (fun _ => ?_)) <;> conv => whnf)
  refine AW.loop (ι := CountedP n ks.length 32771) (fun x => ⟨33, [(5, .c (.d (.int .i64 x.i))), (1, .c (.d (.int .i64 x.c))), (2, .c (.ptr 0 0))], [.var (Tm.cells (.node k name arg num tk tks uk uks label place ks) |>.map .d)], []⟩)
    (fun x => ks.length - x.i) ⟨0, r2, Nat.zero_le _, by omega⟩ 1 (fun _ => rfl) (Nat.le_of_ble_eq_true rfl) ⟨⟨rfl, rfl, rfl, trivial⟩, rfl, rfl, ⟨[], rfl⟩, rfl⟩ (fun x => ?_)
  obtain ⟨i, c, hi, h⟩ := x
  repeat' first | refine AW.seq ?_ | refine AW.block ?_ | (refine (id : AW _ _ _ (.region 1 _ true) _ _ → _) ?_; refine AW.draw (id := 1) tab_ok mixed [0, 1, 2, 3, 4, 5, 6, 7, 8] (by kernel_rfl) ?_; conv => whnf) | ((first | refine AW.region tab_ok ?_ | refine AW.cond ?_ | refine AW.skip ?_ | refine AW.ret ?_ | refine AW.exit ?_); conv => whnf) | ((first | refine And.intro (@rfl Val _) ?_ | refine And.intro (by decide) ?_ | refine cs (fun _ => ?_) (fun _ => ?_)) <;> conv => whnf)
  · rename_i h1 h2
    simp only [trows_length] at h1 ⊢
    have := of_decide_eq_true h1
    have h3 : c ≤ 32768 := by have := of_decide_eq_true h2; simp only at this; omega
    refine ⟨by omega, fun row hrow => ?_⟩
    obtain ⟨t, ht, rfl⟩ := trows_get ks i row (by simpa using hrow)
    have hlt : i < ks.length := (List.getElem?_eq_some_iff.1 ht).1
    obtain ⟨kx, namex, argx, numx, tkx, tksx, ukx, uksx, labelx, placex, ksx⟩ := t
    conv => whnf
    repeat' first | refine AW.seq ?_ | refine AW.block ?_ | (refine (id : AW _ _ _ (.region 1 _ true) _ _ → _) ?_; refine AW.draw (id := 1) tab_ok mixed [0, 1, 2, 3, 4, 5, 6, 7, 8] (by kernel_rfl) ?_; conv => whnf) | ((first | refine AW.region tab_ok ?_ | refine AW.cond ?_ | refine AW.skip ?_ | refine AW.ret ?_ | refine AW.exit ?_); conv => whnf) | ((first | refine And.intro (@rfl Val _) ?_ | refine And.intro (by decide) ?_ | refine cs (fun _ => ?_) (fun _ => ?_)) <;> conv => whnf)
    refine (ih _ (List.mem_of_getElem? ht) _ (by omega)).mono ?_
    rintro _ _ ⟨r, hr, rfl, rfl⟩
    conv => whnf
    repeat' first | refine AW.seq ?_ | refine AW.block ?_ | (refine (id : AW _ _ _ (.region 1 _ true) _ _ → _) ?_; refine AW.draw (id := 1) tab_ok mixed [0, 1, 2, 3, 4, 5, 6, 7, 8] (by kernel_rfl) ?_; conv => whnf) | ((first | refine AW.region tab_ok ?_ | refine AW.cond ?_ | refine AW.skip ?_ | refine AW.ret ?_ | refine AW.exit ?_); conv => whnf) | ((first | refine And.intro (@rfl Val _) ?_ | refine And.intro (by decide) ?_ | refine cs (fun _ => ?_) (fun _ => ?_)) <;> conv => whnf)
    rw [wrap64 (x := (i : Int) + 1) (by omega) (by omega)]
    exact ⟨⟨i + 1, r, hlt, by omega⟩, ⟨⟨rfl, rfl, rfl, trivial⟩, rfl, rfl, ⟨[], rfl⟩, rfl⟩, show ks.length - (i + 1) < ks.length - i by omega⟩
  · exact ⟨c, by omega, rfl, rfl⟩
  · exact ⟨c, by omega, rfl, rfl⟩
set_option maxRecDepth 10000 in
theorem Small_call (t : Tm) : ACall Try.prog 14 [t.val] [] (fun o σ => ∃ b : Bool, o = .ret (.c (.d (.bool b))) ∧ σ = []) := by
  obtain ⟨k, name, arg, num, tk, tks, uk, uks, label, place, ks⟩ := t
  refine ACall.body tab_ok (ρ := 0) (N := 6) Try.func14 rfl rfl rfl rfl rfl ?_
  repeat' first | refine AW.seq ?_ | refine AW.block ?_ | ((first | refine AW.region tab_ok ?_ | refine AW.cond ?_ | refine AW.skip ?_ | refine AW.ret ?_ | refine AW.exit ?_); conv => whnf) | ((first | refine And.intro (@rfl Val _) ?_ | refine And.intro (by decide) ?_ | refine cs (fun _ => ?_) (fun _ => ?_)) <;> conv => whnf)
  refine (smcounted_call (.node k name arg num tk tks uk uks label place ks) 0 (by omega)).mono ?_
  rintro _ _ ⟨r, hr, rfl, rfl⟩
  conv => whnf
  repeat' first | refine AW.seq ?_ | refine AW.block ?_ | ((first | refine AW.region tab_ok ?_ | refine AW.cond ?_ | refine AW.skip ?_ | refine AW.ret ?_ | refine AW.exit ?_); conv => whnf) | ((first | refine And.intro (@rfl Val _) ?_ | refine And.intro (by decide) ?_ | refine cs (fun _ => ?_) (fun _ => ?_)) <;> conv => whnf)
  exact ⟨_, rfl, rfl⟩
end Go.Proofs.Ytlboogackecjlaa.E

/- CastsTells: plain facts, wakes, the law. No conditions. -/
set_option linter.unusedVariables false
set_option linter.unusedSimpArgs false
namespace Go.Proofs.Ytlboogackecjlaa.E
open Go

/-! ### Bounds -/
inductive CtOk : Ct → Prop where
  | mk {tk tks uk uks label} (h1 : TyOk (.node tk tks)) (h2 : TyOk (.node uk uks)) : CtOk (.mk tk tks uk uks label)
theorem tcasts_ok (t : Tm) : Fine2 t → ∀ c ∈ tcasts t, CtOk c := by
  induction t using Tm.ind with
  | _ k name arg num tk tks uk uks label place ks ih =>
  rintro (⟨h1, h2, h3, h4⟩)
  have hl : ∀ l : List Tm, (∀ t ∈ l, Fine2 t → ∀ c ∈ tcasts t, CtOk c) → (∀ t ∈ l, Fine2 t) → ∀ c ∈ tcastss l, CtOk c := fun l => by
    induction l with
    | nil => intro _ _ c hc; simp [tcastss] at hc
    | cons x l ihl =>
      intro g1 g2 c hc
      simp only [tcastss, List.mem_append] at hc
      rcases hc with hc | hc
      · exact g1 x (by simp) (g2 x (by simp)) c hc
      · exact ihl (fun t ht => g1 t (by simp [ht])) (fun t ht => g2 t (by simp [ht])) c hc
  intro c hc
  simp only [tcasts, List.mem_append] at hc
  rcases hc with hc | hc
  · split at hc
    · obtain rfl : c = .mk tk tks uk uks label := by simpa using hc
      exact .mk h1 h2
    · simp at hc
  · exact hl ks ih h4 c hc
theorem tcastsS_ok (t : Tm) (hf : TmOk t) : ∀ c ∈ tcastsS t, CtOk c := by
  unfold tcastsS
  split
  · rename_i h
    exact tcasts_ok t (fine2_of t hf (tmcheck_right h))
  · intro c hc; simp at hc
theorem tyok_nil (k : Int) : TyOk (.node k []) := .node (by simp) (by simp)
theorem erase_fine2 (t : Tm) : Fine2 t → tmright t = true → Fine2 (tmerase t) := by
  induction t using Tm.ind with
  | _ k name arg num tk tks uk uks label place ks ih =>
  rintro (⟨h1, h2, h3, h4⟩) hr
  have hl := tmright_len hr
  simp only [tmerase]
  split
  · rename_i hk
    subst hk
    have e : kidsK 17 = 1 := rfl
    rw [e] at hl
    match ks, hl with
    | [x], _ => exact ih x (by simp) (h4 x (by simp)) (tmright_kid hr (by simp))
    | [], h => simp at h
    | x :: y :: l, h => simp at h; omega
  · refine .node ?_ ?_ (by rw [tmerases_len]; exact h3) fun x hx => ?_
    · cases typeK k <;> first | exact tyok_nil _ | exact h1
    · cases toK k <;> first | exact tyok_nil _ | exact h2
    · rw [tmerases_map] at hx
      obtain ⟨y, hy, rfl⟩ := List.mem_map.1 hx
      exact ih y hy (h4 y hy) (tmright_kid hr hy)
theorem tmok_of (t : Tm) : Fine2 t → TmOk t := by
  induction t using Tm.ind with
  | _ k name arg num tk tks uk uks label place ks ih =>
  rintro (⟨h1, h2, h3, h4⟩)
  exact .node h1 h2 (by omega) fun x hx => ih x hx (h4 x hx)
theorem eraseS_ok (t : Tm) (hf : TmOk t) : TmOk (tmEraseS t) := by
  unfold tmEraseS
  split
  · rename_i h
    exact tmok_of _ (erase_fine2 t (fine2_of t hf (tmcheck_right h)) (tmcheck_right h))
  · exact .node (tyok_nil _) (tyok_nil _) (by simp) (by simp)
/-! ### Under tags -/
def Ct.cellsR (r : Nat) : Ct → List DV
  | .mk tk tks uk uks label => [.int .i8 tk, .sl r 2 (Ty.rowsR r tks), .int .i8 uk, .sl r 2 (Ty.rowsR r uks), .int .i64 label]
def crowsR (r : Nat) (l : List Ct) : List (List DV) := l.map (Ct.cellsR r)
theorem crows_rt : ∀ l : List Ct, RtR 9 (crows l) (crowsR 9 l)
  | [] => .nil
  | .mk tk tks uk uks label :: l => .cons (.cons (.int _ _) (.cons (by rw [← tys_R0]; exact (tys_rt 0 9 tks).sl) (.cons (.int _ _) (.cons (by rw [← tys_R0]; exact (tys_rt 0 9 uks).sl) (.cons (.int _ _) .nil))))) (crows_rt l)
theorem AllM_call (t : Tm) : ACall Try.prog 17 [t.valR 1 4] [] (fun o σ => o = .ret (.c (.d (.sl 9 5 (crowsR 9 (tcastsS t))))) ∧ σ = []) :=
  (All_call t).any (.cons (by rw [← tm_V0]; exact tm_rtV 1 4 0 t) .nil) (.c _ _ (crows_rt _).sl)
theorem SafeMM_call (t : Tm) (lab : Int) : ACall Try.prog 20 [t.valR 1 4, .c (.d (.int .i64 lab))] [] (fun o σ => o = .ret (.tup [.c (.d (.bool (safeSM lab t).1)), .c (.d (.bool (safeSM lab t).2))]) ∧ σ = []) :=
  (Safe_callM t lab).any (.cons (by rw [← tm_V0]; exact tm_rtV 1 4 0 t) (.cons (.int _ _) .nil)) (RtVL.tup (.cons (.bool _) (.cons (.bool _) .nil)))
set_option maxRecDepth 10000 in
set_option maxHeartbeats 1000000 in
theorem wakes14M_call : ACall Try.prog 26 [] [] (fun o σ => o = .ret (.c (.d (.bool true))) ∧ σ = []) := by
  have c1 := All_call tmW
  rw [tmW_casts, show crows [.mk 0 [] 1 [] 5, .mk 1 [] 0 [] 2] = [[.int .i8 0, .sl 0 2 [], .int .i8 1, .sl 0 2 [], .int .i64 5], [.int .i8 1, .sl 0 2 [], .int .i8 0, .sl 0 2 [], .int .i64 2]] from rfl] at c1
  have c2 := Safe_callM tmW 5
  rw [show safeSM 5 tmW = (false, true) by decide +kernel] at c2
  have c3 := Safe_callM tmW 2
  rw [show safeSM 2 tmW = (true, true) by decide +kernel] at c3
  have c4 := Erase_call tmW
  rw [tmW_erase] at c4
  have c5 := Height_call tmW
  rw [show tmHeight tmW = 1 by decide +kernel] at c5
  have c6 := Same_call (.node 1 []) (.node 1 [])
  rw [show sameS (.node 1 []) (.node 1 []) = true by decide +kernel] at c6
  refine ACall.body tab_ok (ρ := 0) (N := 81) Try.func26 rfl rfl rfl rfl rfl ?_
  repeat' first | ((refine ⟨by simp, fun row hrow => ?_⟩; simp at hrow; subst hrow; conv => whnf)) | refine AW.seq ?_ | refine AW.block ?_ | (refine (id : AW _ _ _ (.region 7 _ true) _ _ → _) ?_; refine AW.draw (id := 7) tab_ok mixed [0, 1, 2, 3, 4, 5, 6, 7, 8, 9, 10, 11, 12, 13, 14, 15, 16, 17, 18, 19, 20, 21, 22, 23, 24, 25, 26, 27, 28, 29, 30, 31, 32, 33, 34, 35, 36, 37, 38, 39, 40, 41, 42, 43, 44, 45, 46, 47, 48, 49] (by kernel_rfl) ?_; conv => whnf) | ((first | refine AW.region tab_ok ?_ | refine AW.cond ?_ | refine AW.skip ?_ | refine AW.ret ?_ | refine AW.exit ?_); conv => whnf) | ((first | refine (c1).mono ?_ | refine (c2).mono ?_ | refine (c3).mono ?_ | refine (c4).mono ?_ | refine (c5).mono ?_ | refine (c6).mono ?_); rintro _ _ ⟨rfl, rfl⟩; conv => whnf) | ((first | refine And.intro (@rfl Val _) ?_ | refine And.intro (by decide) ?_ | refine cs (fun _ => ?_) (fun _ => ?_)) <;> conv => whnf)
  all_goals first | exact ⟨rfl, rfl⟩
end Go.Proofs.Ytlboogackecjlaa.E
