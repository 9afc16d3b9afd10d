/- Texts, merged: Cs2, Ct2. No conditions. -/
import Derived.Test.YtlboogackecjlaaGenX7
import Derived.Test.YtlboogackecjlaaCt1
/- Walks: casts.bare, erase, Erase. No conditions. -/
set_option linter.unusedVariables false
set_option linter.unusedSimpArgs false
namespace Go.Proofs.Ytlboogackecjlaa.E
open Go

/-- The table, but that bare hands a nil slice of kids on as nil. -/
def tab2 : Tab := { tab with rsl := fun f => bif Nat.beq f 81 then [.fz [none, none, none, none, none, some 2, none, some 2, none, none, none]] else tab.rsl f }
theorem tab2_ok : TabOk Try.prog tab2 := ⟨tab_ok.eqa, tab_ok.ti, tab_ok.fok⟩
set_option maxRecDepth 10000 in
set_option maxHeartbeats 4000000 in
theorem cbare_call (k : Int) (name arg : ByteArray) (num tk : Int) (tks : List Ty) (uk : Int) (uks : List Ty) (label place : Int) (ks : List Tm) (hv : validK k = true) (hk : k ≠ 17) (n1 : typeK k = true → nodes (.node tk tks) ≤ 8192) (n2 : toK k = true → nodes (.node uk uks) ≤ 8192) :
    ACall Try.prog 81 [.c (.d (.rp 0 (Tm.node k name arg num tk tks uk uks label place ks).cells))] [] (fun o σ => o = .ret (.agg [.d (.int .i8 k), .d (.str (if nameK k || decide (k = 15) then name else ⟨#[]⟩)), .d (.str (if argK k then arg else ⟨#[]⟩)), .d (.int .i64 (if decide (k = 1) then num else 0)), .d (.int .i8 (if typeK k then tk else 0)), .d (.sl 0 2 (Ty.rows (if typeK k then tks else []))), .d (.int .i8 (if toK k then uk else 0)), .d (.sl 0 2 (Ty.rows (if toK k then uks else []))), .d (.int .i64 0), .d (.int .i64 place), .d .nils]) ∧ σ = []) := by
  have w1 : typeK k = true → ACall Try.prog 43 [(Ty.node tk tks).val] [] (fun o σ => o = .ret (Ty.node tk tks).val ∧ σ = []) := fun h => cwhole_call _ (n1 h)
  have w2 : toK k = true → ACall Try.prog 43 [(Ty.node uk uks).val] [] (fun o σ => o = .ret (Ty.node uk uks).val ∧ σ = []) := fun h => cwhole_call _ (n2 h)
  clear n1 n2
  rcases kinds k hv with rfl | rfl | rfl | rfl | rfl | rfl | rfl | rfl | rfl | rfl | rfl | rfl | rfl | rfl | rfl | rfl | rfl | rfl
  all_goals first
    | (exact absurd rfl hk)
    | (clear hv hk
       refine ACall.body tab2_ok (ρ := 0) (N := 93) Try.func81 rfl rfl rfl rfl rfl ?_
       skip
       repeat' first | refine AW.seq ?_ | refine AW.block ?_ | (refine (id : AW _ _ _ (.region 1 _ true) _ _ → _) ?_; refine AW.draw (id := 1) tab2_ok mixed [0, 1, 2, 3, 4, 5, 6, 7, 8, 9, 10] (by kernel_rfl) ?_; conv => whnf) | (refine (id : AW _ _ _ (.region 10 _ true) _ _ → _) ?_; refine AW.draw (id := 10) tab2_ok mixed [0, 1, 2, 3, 4, 5, 6, 7, 9, 8, 10, 11, 12] (by kernel_rfl) ?_; conv => whnf) | (refine (id : AW _ _ _ (.region 12 _ true) _ _ → _) ?_; refine AW.draw (id := 12) tab2_ok mixed [0, 1, 2, 3, 4, 5, 6, 7, 8, 9, 10, 11, 13, 14, 15, 16, 18, 12, 17, 19, 20, 21, 22, 23, 24, 25] (by kernel_rfl) ?_; conv => whnf) | (refine (id : AW _ _ _ (.region 14 _ true) _ _ → _) ?_; refine AW.draw (id := 14) tab2_ok mixed [0, 1, 2, 3, 4, 5, 6, 7, 8, 9, 10, 11] (by kernel_rfl) ?_; conv => whnf) | ((first | refine AW.region tab2_ok ?_ | refine AW.cond ?_ | refine AW.skip ?_ | refine AW.ret ?_ | refine AW.exit ?_); conv => whnf) | ((first | refine (w1 rfl).mono ?_ | refine (w2 rfl).mono ?_); rintro _ _ ⟨rfl, rfl⟩; conv => whnf) | ((first | refine And.intro (@rfl Val _) ?_ | refine And.intro (by decide) ?_ | refine cs (fun _ => ?_) (fun _ => ?_)) <;> conv => whnf)
       exact ⟨rfl, rfl⟩)
mutual
/-- A term without its casts. -/
def tmerase : Tm → Tm
  | .node k name arg num tk tks uk uks label place ks => if k = 17 then (tmerases ks).headD (.node 0 ⟨#[]⟩ ⟨#[]⟩ 0 0 [] 0 [] 0 0 []) else
    .node k (if nameK k || decide (k = 15) then name else ⟨#[]⟩) (if argK k then arg else ⟨#[]⟩) (if decide (k = 1) then num else 0) (if typeK k then tk else 0) (if typeK k then tks else []) (if toK k then uk else 0) (if toK k then uks else []) 0 place (tmerases ks)
def tmerases : List Tm → List Tm
  | [] => []
  | t :: l => tmerase t :: tmerases l
end
theorem tmerases_map : ∀ ks : List Tm, tmerases ks = ks.map tmerase
  | [] => rfl
  | t :: l => by simp [tmerases, tmerases_map l]
theorem tmerases_get {ks : List Tm} {i : Nat} {x : Tm} (h : ks[i]? = some x) : (tmerases ks)[i]? = some (tmerase x) := by rw [tmerases_map, List.getElem?_map, h]; rfl
theorem tmerases_len (ks : List Tm) : (tmerases ks).length = ks.length := by rw [tmerases_map, List.length_map]
noncomputable def rest113 : Code := match Try.f54.body with
  | some (.seq _ (.seq _ (.seq _ c))) => c
  | _ => .skip
set_option maxRecDepth 10000 in
theorem erase_rest (k : Int) (name arg : ByteArray) (num tk : Int) (tks : List Ty) (uk : Int) (uks : List Ty) (label place : Int) (ks : List Tm) (ms : List Tm) (hlen : ks.length ≤ 8192) (hms : ms.length = ks.length)
    (hk : ∀ (i : Nat) x, ks[i]? = some x → ∃ m, ms[i]? = some m ∧ ACall Try.prog 54 [.c (.d (.rp 0 x.cells))] [] (fun o σ => o = .ret m.val ∧ σ = [])) :
    AW Try.prog tab 0 rest113 ⟨40, [(0, .c (.d (.rp 0 (Tm.node k name arg num tk tks uk uks label place ks).cells))), (2, .c (.ptr 0 0)), (3, .c (.ptr 1 0))], [.var [.d (.int .i8 0), .d (.str ⟨#[]⟩), .d (.str ⟨#[]⟩), .d (.int .i64 0), .d (.int .i8 0), .d .nils, .d (.int .i8 0), .d .nils, .d (.int .i64 0), .d (.int .i64 0), .d .nils], .var [.d (.int .i8 k), .d (.str (if nameK k || decide (k = 15) then name else ⟨#[]⟩)), .d (.str (if argK k then arg else ⟨#[]⟩)), .d (.int .i64 (if decide (k = 1) then num else 0)), .d (.int .i8 (if typeK k then tk else 0)), .d (.sl 0 2 (Ty.rows (if typeK k then tks else []))), .d (.int .i8 (if toK k then uk else 0)), .d (.sl 0 2 (Ty.rows (if toK k then uks else []))), .d (.int .i64 0), .d (.int .i64 place), .d .nils]], []⟩
      (afin tab 0 54 [.cell 2 28] 0 (fun o σ => o = .ret (Tm.node k (if nameK k || decide (k = 15) then name else ⟨#[]⟩) (if argK k then arg else ⟨#[]⟩) (if decide (k = 1) then num else 0) (if typeK k then tk else 0) (if typeK k then tks else []) (if toK k then uk else 0) (if toK k then uks else []) 0 place ms).val ∧ σ = [])) := by
  repeat' first | refine AW.seq ?_ | refine AW.block ?_ | (refine (id : AW _ _ _ (.region 7 _ true) _ _ → _) ?_; refine AW.draw (id := 7) tab_ok mixed [0, 1, 2, 3, 4, 5, 6, 7, 8, 9, 10, 11, 12] (by kernel_rfl) ?_; conv => whnf) | ((first | refine AW.region tab_ok ?_ | refine AW.cond ?_ | refine AW.skip ?_ | refine AW.ret ?_ | refine AW.exit ?_); conv => whnf) | ((first | refine And.intro (@rfl Val _) ?_ | refine And.intro (by decide) ?_ | refine cs (fun _ => ?_) (fun _ => ?_)) <;> conv => whnf)
  refine AW.ghost 28 11 1 10 (by decide) rfl rfl ?_
  refine AW.loop (ι := UpToT ks) (fun x => ⟨40, [(23, .c (.d (.int .i64 x.i))), (22, .c (.d (.int .i64 (Tm.rows ks).length))), (0, .c (.d (.rp 0 (Tm.node k name arg num tk tks uk uks label place ks).cells))), (2, .c (.ptr 0 0)), (3, .c (.ptr 1 0))],
      [.var [.d (.int .i8 0), .d (.str ⟨#[]⟩), .d (.str ⟨#[]⟩), .d (.int .i64 0), .d (.int .i8 0), .d .nils, .d (.int .i8 0), .d .nils, .d (.int .i64 0), .d (.int .i64 0), .d .nils], .var [.d (.int .i8 k), .d (.str (if nameK k || decide (k = 15) then name else ⟨#[]⟩)), .d (.str (if argK k then arg else ⟨#[]⟩)), .d (.int .i64 (if decide (k = 1) then num else 0)), .d (.int .i8 (if typeK k then tk else 0)), .d (.sl 0 2 (Ty.rows (if typeK k then tks else []))), .d (.int .i8 (if toK k then uk else 0)), .d (.sl 0 2 (Ty.rows (if toK k then uks else []))), .d (.int .i64 0), .d (.int .i64 place), .own 2 (Tm.rows (ms.take x.i)).length], .row 28 11 (Tm.rows (ms.take x.i))], []⟩)
    (fun x => ks.length - x.i) ⟨0, Nat.zero_le _⟩ 3 (fun _ => rfl) (Nat.le_of_ble_eq_true rfl) ⟨⟨rfl, rfl, rfl, rfl, rfl, trivial⟩, rfl, rfl, ⟨[], rfl⟩, rfl⟩ (fun x => ?_)
  obtain ⟨i, hi⟩ := x
  repeat' first | refine AW.seq ?_ | refine AW.block ?_ | (refine (id : AW _ _ _ (.region 7 _ true) _ _ → _) ?_; refine AW.draw (id := 7) tab_ok mixed [0, 1, 2, 3, 4, 5, 6, 7, 8, 9, 10, 11, 12] (by kernel_rfl) ?_; conv => whnf) | ((first | refine AW.region tab_ok ?_ | refine AW.cond ?_ | refine AW.skip ?_ | refine AW.ret ?_ | refine AW.exit ?_); conv => whnf) | ((first | refine And.intro (@rfl Val _) ?_ | refine And.intro (by decide) ?_ | refine cs (fun _ => ?_) (fun _ => ?_)) <;> conv => whnf)
  · rename_i h1
    simp only [trows_length] at h1
    have := of_decide_eq_true h1
    refine ⟨by simp only [trows_length]; omega, fun row hrow => ?_⟩
    obtain ⟨x, ht, rfl⟩ := trows_get ks i row (by simpa using hrow)
    have hlt : i < ks.length := (List.getElem?_eq_some_iff.1 ht).1
    conv => whnf
    obtain ⟨m, hm, hc⟩ := hk i x ht
    have hmt : ms.take (i + 1) = ms.take i ++ [m] := by
      rw [List.take_add_one, hm]; rfl
    have e : Tm.rows (ms.take i) ++ [m.cells] = Tm.rows (ms.take (i + 1)) := by
      rw [hmt, trows_map (ms.take i), trows_map (ms.take i ++ _), List.map_append]; rfl
    have el : (Tm.rows (ms.take i)).length + [m.cells].length = (Tm.rows (ms.take (i + 1))).length := by
      rw [← List.length_append, e]
    obtain ⟨kx, namex, argx, numx, tkx, tksx, ukx, uksx, labelx, placex, ksx⟩ := m
    repeat' first | refine AW.seq ?_ | refine AW.block ?_ | (refine (id : AW _ _ _ (.region 7 _ true) _ _ → _) ?_; refine AW.draw (id := 7) tab_ok mixed [0, 1, 2, 3, 4, 5, 6, 7, 8, 9, 10, 11, 12] (by kernel_rfl) ?_; conv => whnf) | ((first | refine AW.region tab_ok ?_ | refine AW.cond ?_ | refine AW.skip ?_ | refine AW.ret ?_ | refine AW.exit ?_); conv => whnf) | (refine (hc).mono ?_; rintro _ _ ⟨rfl, rfl⟩; conv => whnf) | ((first | refine And.intro (@rfl Val _) ?_ | refine And.intro (by decide) ?_ | refine cs (fun _ => ?_) (fun _ => ?_)) <;> conv => whnf)
    refine ⟨⟨rfl, ?_, ?_⟩, ?_⟩
    · simp only [trows_length, List.length_take, List.length_cons, List.length_nil]
      omega
    · simp only [trows_length, List.length_take, List.length_cons, List.length_nil]
      omega
    conv => whnf
    repeat' first | refine AW.seq ?_ | refine AW.block ?_ | (refine (id : AW _ _ _ (.region 7 _ true) _ _ → _) ?_; refine AW.draw (id := 7) tab_ok mixed [0, 1, 2, 3, 4, 5, 6, 7, 8, 9, 10, 11, 12] (by kernel_rfl) ?_; conv => whnf) | ((first | refine AW.region tab_ok ?_ | refine AW.cond ?_ | refine AW.skip ?_ | refine AW.ret ?_ | refine AW.exit ?_); conv => whnf) | ((first | refine And.intro (@rfl Val _) ?_ | refine And.intro (by decide) ?_ | refine cs (fun _ => ?_) (fun _ => ?_)) <;> conv => whnf)
    simp only [Tm.cells] at e el
    rw [el, e, wrap64 (x := (i : Int) + 1) (by omega) (by omega)]
    exact ⟨⟨i + 1, hlt⟩, ⟨⟨rfl, rfl, rfl, rfl, rfl, trivial⟩, rfl, rfl, ⟨[], rfl⟩, rfl⟩, show ks.length - (i + 1) < ks.length - i by omega⟩
  · rename_i h1
    simp only [trows_length] at h1
    have := of_decide_eq_false h1
    obtain rfl : i = ks.length := by omega
    have e : ms.take ks.length = ms := List.take_of_length_le (by omega)
    simp only [e]
    first | refine ⟨trivial, ?_⟩ | refine ⟨rfl, ?_⟩ | skip
    conv => whnf
    first | exact ⟨rfl, rfl⟩ | exact ⟨rfl, trivial⟩ | (simp; rfl)
set_option maxRecDepth 10000 in
theorem erase_call (a : Tm) : tmN a ≤ 8192 → tmright a = true → ACall Try.prog 54 [.c (.d (.rp 0 a.cells))] [] (fun o σ => o = .ret (tmerase a).val ∧ σ = []) := by
  induction a using Tm.ind with
  | _ k name arg num tk tks uk uks label place ks ih =>
  intro hN ha
  have hlen := tmNL_len ks
  simp only [tmN] at hN
  have hkl := tmright_len ha
  have ih' : ∀ (i : Nat) x, ks[i]? = some x → ∃ m, (tmerases ks)[i]? = some m ∧ ACall Try.prog 54 [.c (.d (.rp 0 x.cells))] [] (fun o σ => o = .ret m.val ∧ σ = []) := fun i x hx => by
    have hm := List.mem_of_getElem? hx
    have := tmN_mem ks x hm
    exact ⟨tmerase x, tmerases_get hx, ih x hm (by omega) (tmright_kid ha hm)⟩
  have fin : k ≠ 17 → ∀ (env : List (Nat × Val)), get env 0 = .c (.d (.rp 0 (Tm.node k name arg num tk tks uk uks label place ks).cells)) → get env 2 = .c (.ptr 0 0) → get env 3 = .c (.ptr 1 0) →
      AW Try.prog tab 0 rest113 ⟨40, env, [.var [.d (.int .i8 0), .d (.str ⟨#[]⟩), .d (.str ⟨#[]⟩), .d (.int .i64 0), .d (.int .i8 0), .d .nils, .d (.int .i8 0), .d .nils, .d (.int .i64 0), .d (.int .i64 0), .d .nils], .var [.d (.int .i8 k), .d (.str (if nameK k || decide (k = 15) then name else ⟨#[]⟩)), .d (.str (if argK k then arg else ⟨#[]⟩)), .d (.int .i64 (if decide (k = 1) then num else 0)), .d (.int .i8 (if typeK k then tk else 0)), .d (.sl 0 2 (Ty.rows (if typeK k then tks else []))), .d (.int .i8 (if toK k then uk else 0)), .d (.sl 0 2 (Ty.rows (if toK k then uks else []))), .d (.int .i64 0), .d (.int .i64 place), .d .nils]], []⟩ (afin tab 0 54 Try.f54.results.toList ([] : List AObj).length (fun o σ => o = .ret (tmerase (.node k name arg num tk tks uk uks label place ks)).val ∧ σ = [])) := fun hk env g0 g2 g3 => by
    rw [show tmerase (.node k name arg num tk tks uk uks label place ks) = .node k (if nameK k || decide (k = 15) then name else ⟨#[]⟩) (if argK k then arg else ⟨#[]⟩) (if decide (k = 1) then num else 0) (if typeK k then tk else 0) (if typeK k then tks else []) (if toK k then uk else 0) (if toK k then uks else []) 0 place (tmerases ks) by simp only [tmerase]; rw [if_neg hk]]
    refine AW.fits ?_ ?_ (erase_rest k name arg num tk tks uk uks label place ks (tmerases ks) (by omega) (tmerases_len ks) ih')
    · exact ⟨⟨g0, g2, g3, trivial⟩, rfl, rfl, ⟨[], rfl⟩, rfl⟩
    · rfl
  have hv := tmright_valid ha
  have c1 := fun hk => cbare_call k name arg num tk tks uk uks label place ks hv hk (fun h => by rw [if_pos h] at hN; omega) (fun h => by rw [if_pos h] at hN; omega)
  clear hlen hN hv
  by_cases hk : k = 17
  · subst hk
    obtain ⟨x, rfl⟩ : ∃ x, ks = [x] := by
      have : kidsK 17 = 1 := rfl
      match ks, hkl with
      | [], h => simp [this] at h
      | [x], _ => exact ⟨x, rfl⟩
      | x :: y :: l, h => simp [this] at h; omega
    obtain ⟨m, hm, hc⟩ := ih' 0 x rfl
    have e : tmerase (.node 17 name arg num tk tks uk uks label place [x]) = tmerase x := by simp [tmerase, tmerases]
    have em : m = tmerase x := by simpa [tmerases] using hm.symm
    rw [e, ← em]
    clear ih ih' fin c1 e em hm ha hkl
    obtain ⟨kx, namex, argx, numx, tkx, tksx, ukx, uksx, labelx, placex, ksx⟩ := m
    refine ACall.body tab_ok (ρ := 0) (N := 40) Try.func54 rfl rfl rfl rfl rfl ?_
    skip
    repeat' first | refine AW.seq ?_ | refine AW.block ?_ | (refine (id : AW _ _ _ (.region 7 _ true) _ _ → _) ?_; refine AW.draw (id := 7) tab_ok mixed [0, 1, 2, 3, 4, 5, 6, 7, 8, 9, 10, 11, 12] (by kernel_rfl) ?_; conv => whnf) | ((first | refine AW.region tab_ok ?_ | refine AW.cond ?_ | refine AW.skip ?_ | refine AW.ret ?_ | refine AW.exit ?_); conv => whnf) | (refine (hc).mono ?_; rintro _ _ ⟨rfl, rfl⟩; conv => whnf) | ((first | refine And.intro (@rfl Val _) ?_ | refine And.intro (by decide) ?_ | refine cs (fun _ => ?_) (fun _ => ?_)) <;> conv => whnf)
    refine ⟨by simp [Tm.rows], fun row hrow => ?_⟩
    obtain rfl : row = x.cells := by simpa [Tm.rows] using hrow.symm
    conv => whnf
    repeat' first | refine AW.seq ?_ | refine AW.block ?_ | (refine (id : AW _ _ _ (.region 7 _ true) _ _ → _) ?_; refine AW.draw (id := 7) tab_ok mixed [0, 1, 2, 3, 4, 5, 6, 7, 8, 9, 10, 11, 12] (by kernel_rfl) ?_; conv => whnf) | ((first | refine AW.region tab_ok ?_ | refine AW.cond ?_ | refine AW.skip ?_ | refine AW.ret ?_ | refine AW.exit ?_); conv => whnf) | (refine (hc).mono ?_; rintro _ _ ⟨rfl, rfl⟩; conv => whnf) | ((first | refine And.intro (@rfl Val _) ?_ | refine And.intro (by decide) ?_ | refine cs (fun _ => ?_) (fun _ => ?_)) <;> conv => whnf)
    exact ⟨rfl, rfl⟩
  · have c1 := c1 hk
    have fin := fin hk
    have hb : (k == 17) = false := by simpa using hk
    clear ih ih' ha hkl
    refine ACall.body tab_ok (ρ := 0) (N := 40) Try.func54 rfl rfl rfl rfl rfl ?_
    skip
    repeat' first | (exact fin _ rfl rfl rfl) | refine AW.seq ?_ | refine AW.block ?_ | (refine (id : AW _ _ _ (.region 7 _ true) _ _ → _) ?_; refine AW.draw (id := 7) tab_ok mixed [0, 1, 2, 3, 4, 5, 6, 7, 8, 9, 10, 11, 12] (by kernel_rfl) ?_; conv => whnf) | ((first | refine AW.region tab_ok ?_ | refine AW.cond ?_ | refine AW.skip ?_ | refine AW.ret ?_ | refine AW.exit ?_); conv => whnf) | (refine (c1).mono ?_; rintro _ _ ⟨rfl, rfl⟩; conv => whnf) | ((first | refine And.intro (@rfl Val _) ?_ | refine And.intro (by decide) ?_ | refine cs (fun _ => ?_) (fun _ => ?_)) <;> conv => whnf)
    all_goals (rename_i h; rw [hb] at h; cases h)
def tmEraseS (t : Tm) : Tm := if tmcheck t = 0 then tmerase t else (.node 0 ⟨#[]⟩ ⟨#[]⟩ 0 0 [] 0 [] 0 0 [])
theorem tmcheck_N {t : Tm} (h : tmcheck t = 0) : tmN t ≤ 8192 := by
  unfold tmcheck at h
  split at h
  · omega
  · omega
set_option maxRecDepth 10000 in
theorem Erase_call (t : Tm) : ACall Try.prog 25 [t.val] [] (fun o σ => o = .ret (tmEraseS t).val ∧ σ = []) := by
  have c1 := tmCheck_call t
  have c2 : tmcheck t = 0 → ACall Try.prog 54 [.c (.d (.rp 0 t.cells))] [] (fun o σ => o = .ret (tmEraseS t).val ∧ σ = []) := fun h => by
    rw [show tmEraseS t = tmerase t by simp [tmEraseS, h]]
    exact erase_call t (tmcheck_N h) (tmcheck_right h)
  have e3 : tmcheck t ≠ 0 → tmEraseS t = (.node 0 ⟨#[]⟩ ⟨#[]⟩ 0 0 [] 0 [] 0 0 []) := fun h => by simp [tmEraseS, h]
  generalize tmcheck t = cc at *
  generalize tmEraseS t = m at *
  obtain ⟨k, name, arg, num, tk, tks, uk, uks, label, place, ks⟩ := t
  refine ACall.body tab_ok (ρ := 0) (N := 8) Try.func25 rfl rfl rfl rfl rfl ?_
  repeat' first | refine AW.seq ?_ | refine AW.block ?_ | ((first | refine AW.region tab_ok ?_ | refine AW.cond ?_ | refine AW.skip ?_ | refine AW.ret ?_ | refine AW.exit ?_); conv => whnf) | (refine (c1).mono ?_; rintro _ _ ⟨rfl, rfl⟩; conv => whnf) | ((first | refine And.intro (@rfl Val _) ?_ | refine And.intro (by decide) ?_ | refine cs (fun _ => ?_) (fun _ => ?_)) <;> conv => whnf)
  · rename_i h
    rw [e3 (by simpa using h)]
    exact ⟨rfl, rfl⟩
  · rename_i h
    have c2 := c2 (by simpa using h)
    obtain ⟨kx, namex, argx, numx, tkx, tksx, ukx, uksx, labelx, placex, ksx⟩ := m
    refine c2.mono ?_
    rintro _ _ ⟨rfl, rfl⟩
    conv => whnf
    repeat' first | refine AW.seq ?_ | refine AW.block ?_ | ((first | refine AW.region tab_ok ?_ | refine AW.cond ?_ | refine AW.skip ?_ | refine AW.ret ?_ | refine AW.exit ?_); conv => whnf) | ((first | refine And.intro (@rfl Val _) ?_ | refine And.intro (by decide) ?_ | refine cs (fun _ => ?_) (fun _ => ?_)) <;> conv => whnf)
    exact ⟨rfl, rfl⟩
end Go.Proofs.Ytlboogackecjlaa.E

/- The document's answer for casts: ref14.high, Height, Counting, erased, Erase. No conditions. -/
set_option linter.unusedVariables false
set_option linter.unusedSimpArgs false
namespace Go.Proofs.Ytlboogackecjlaa.E
open Go

noncomputable def restRH : Code := match Try.f52.body with
  | some (.seq _ (.seq _ (.seq _ (.seq _ c)))) => c
  | _ => .skip
set_option maxRecDepth 10000 in
theorem rhigh_rest (k : Int) (name arg : ByteArray) (num tk : Int) (tks : List Ty) (uk : Int) (uks : List Ty) (label place : Int) (ks : List Tm) (d0 : Nat) (hd : d0 ≤ 16384) (hlen : ks.length ≤ 8192)
    (ih : ∀ t ∈ ks, ACall Try.prog 52 [t.val] [] (fun o σ => o = .ret (.c (.d (.int .i64 (tmH t)))) ∧ σ = [])) :
    AW Try.prog tab 0 restRH ⟨37, [(1, .c (.ptr 0 0)), (3, .c (.d (.int .i64 d0)))], [.var ((Tm.node k name arg num tk tks uk uks label place ks).cells.map .d)], []⟩
      (afin tab 0 52 [.tmp 2] 0 (fun o σ => o = .ret (.c (.d (.int .i64 (max d0 (tmHL ks) : Nat)))) ∧ σ = [])) := by
  repeat' first | refine AW.seq ?_ | refine AW.block ?_ | ((first | refine AW.region tab_ok ?_ | refine AW.cond ?_ | refine AW.skip ?_ | refine AW.ret ?_ | refine AW.exit ?_); conv => whnf) | ((first | refine And.intro (@rfl Val _) ?_ | refine And.intro (by decide) ?_ | refine cs (fun _ => ?_) (fun _ => ?_)) <;> conv => whnf)
  refine AW.loop (ι := UpToT ks) (fun x => ⟨37, [(4, .c (.d (.int .i64 x.i))), (1, .c (.ptr 0 0)), (3, .c (.d (.int .i64 (max d0 (tmHL (ks.take x.i)) : Nat))))], [.var ((Tm.node k name arg num tk tks uk uks label place ks).cells.map .d)], []⟩)
    (fun x => ks.length - x.i) ⟨0, Nat.zero_le _⟩ 1 (fun _ => rfl) (Nat.le_of_ble_eq_true rfl) ⟨⟨rfl, rfl, ?_, trivial⟩, rfl, rfl, ⟨[], rfl⟩, rfl⟩ (fun x => ?_)
  · show Val.c (.d (.int .i64 _)) = Val.c (.d (.int .i64 _))
    simp [tmHL]
  obtain ⟨i, hi⟩ := x
  repeat' first | refine AW.seq ?_ | refine AW.block ?_ | ((first | refine AW.region tab_ok ?_ | refine AW.cond ?_ | refine AW.skip ?_ | refine AW.ret ?_ | refine AW.exit ?_); conv => whnf) | ((first | refine And.intro (@rfl Val _) ?_ | refine And.intro (by decide) ?_ | refine cs (fun _ => ?_) (fun _ => ?_)) <;> conv => whnf)
  · rename_i h1
    simp only [trows_length] at h1
    have := of_decide_eq_true h1
    refine ⟨by simp only [trows_length]; omega, fun row hrow => ?_⟩
    obtain ⟨t, ht, rfl⟩ := trows_get ks i row (by simpa using hrow)
    have hlt : i < ks.length := (List.getElem?_eq_some_iff.1 ht).1
    have hm := List.mem_of_getElem? ht
    have hc := ih t hm
    have hn := tmHL_take ks i _ ht
    generalize tmH t = m at *
    obtain ⟨kx, namex, argx, numx, tkx, tksx, ukx, uksx, labelx, placex, ksx⟩ := t
    conv => whnf
    repeat' first | refine AW.seq ?_ | refine AW.block ?_ | ((first | refine AW.region tab_ok ?_ | refine AW.cond ?_ | refine AW.skip ?_ | refine AW.ret ?_ | refine AW.exit ?_); conv => whnf) | (refine (hc).mono ?_; rintro _ _ ⟨rfl, rfl⟩; conv => whnf) | ((first | refine And.intro (@rfl Val _) ?_ | refine And.intro (by decide) ?_ | refine cs (fun _ => ?_) (fun _ => ?_)) <;> conv => whnf)
    rw [wrap64 (x := (i : Int) + 1) (by omega) (by omega), show max ((max d0 (tmHL (List.take i ks)) : Nat) : Int) (m : Int) = (max d0 (tmHL (List.take (i + 1) ks)) : Nat) by rw [hn]; omega]
    exact ⟨⟨i + 1, hlt⟩, ⟨⟨rfl, rfl, rfl, trivial⟩, rfl, rfl, ⟨[], rfl⟩, rfl⟩, show ks.length - (i + 1) < ks.length - i by omega⟩
  · rename_i h1
    simp only [trows_length] at h1
    have := of_decide_eq_false h1
    obtain rfl : i = ks.length := by omega
    simp only [List.take_length]
    first | exact ⟨rfl, rfl⟩ | exact ⟨rfl, trivial⟩
set_option maxRecDepth 10000 in
set_option maxHeartbeats 4000000 in
theorem rhigh_call (t : Tm) : tmN t ≤ 8192 → ACall Try.prog 52 [t.val] [] (fun o σ => o = .ret (.c (.d (.int .i64 (tmH t)))) ∧ σ = []) := by
  induction t using Tm.ind with
  | _ k name arg num tk tks uk uks label place ks ih =>
  intro hN
  have hlen := tmNL_len ks
  simp only [tmN] at hN
  have ih' : ∀ t ∈ ks, ACall Try.prog 52 [t.val] [] (fun o σ => o = .ret (.c (.d (.int .i64 (tmH t)))) ∧ σ = []) := fun t ht => ih t ht (by have := tmN_mem ks t ht; omega)
  have n1 : typeK k = true → nodes (.node tk tks) ≤ 8192 := fun h => by rw [if_pos h] at hN; omega
  have n2 : toK k = true → nodes (.node uk uks) ≤ 8192 := fun h => by rw [if_pos h] at hN; omega
  have fin : ∀ z : Int, z = ((max (if typeK k then tyH (.node tk tks) else 0) (if toK k then tyH (.node uk uks) else 0) : Nat) : Int) → ∀ env, get env 1 = .c (.ptr 0 0) → get env 3 = .c (.d (.int .i64 z)) →
      AW Try.prog tab 0 restRH ⟨37, env, [.var ((Tm.node k name arg num tk tks uk uks label place ks).cells.map .d)], []⟩ (afin tab 0 52 Try.f52.results.toList ([] : List AObj).length (fun o σ => o = .ret (.c (.d (.int .i64 (tmH (.node k name arg num tk tks uk uks label place ks))))) ∧ σ = [])) := fun z hz env g0 g3 => by
    generalize hd : max (if typeK k then tyH (.node tk tks) else 0) (if toK k then tyH (.node uk uks) else 0) = d0 at hz
    subst hz
    have e : tmH (.node k name arg num tk tks uk uks label place ks) = max d0 (tmHL ks) := by simp only [tmH, hd]
    have hd0 : d0 ≤ 16384 := by
      have h1 := tyH_le (.node tk tks)
      have h2 := tyH_le (.node uk uks)
      subst hd
      split <;> split <;> rename_i q1 q2 <;> (try have := n1 q1) <;> (try have := n2 q2) <;> omega
    rw [e]
    refine AW.fits ?_ ?_ (rhigh_rest k name arg num tk tks uk uks label place ks d0 hd0 (by omega) ih')
    · exact ⟨⟨g0, g3, trivial⟩, rfl, rfl, ⟨[], rfl⟩, rfl⟩
    · rfl
  have w1 : typeK k = true → ACall Try.prog 80 [(Ty.node tk tks).val] [] (fun o σ => o = .ret (.c (.d (.int .i64 (tyH (.node tk tks))))) ∧ σ = []) := fun h => rHigh_call _ (n1 h)
  have w2 : toK k = true → ACall Try.prog 80 [(Ty.node uk uks).val] [] (fun o σ => o = .ret (.c (.d (.int .i64 (tyH (.node uk uks))))) ∧ σ = []) := fun h => rHigh_call _ (n2 h)
  have c1 := rhasType_call k
  have c2 := rhasTo_call k
  clear ih ih' hN hlen n1 n2
  generalize tyH (.node tk tks) = m1 at *
  generalize tyH (.node uk uks) = m2 at *
  generalize tmH (.node k name arg num tk tks uk uks label place ks) = mm at *
  generalize typeK k = b1 at *
  generalize toK k = b2 at *
  cases b1 <;> cases b2
  all_goals
    refine ACall.body tab_ok (ρ := 0) (N := 37) Try.func52 rfl rfl rfl rfl rfl ?_
    repeat' first | (refine fin _ ?_ _ rfl rfl) | refine AW.seq ?_ | refine AW.block ?_ | ((first | refine AW.region tab_ok ?_ | refine AW.cond ?_ | refine AW.skip ?_ | refine AW.ret ?_ | refine AW.exit ?_); conv => whnf) | ((first | refine (c1).mono ?_ | refine (c2).mono ?_ | refine (w1 rfl).mono ?_ | refine (w2 rfl).mono ?_); rintro _ _ ⟨rfl, rfl⟩; conv => whnf) | ((first | refine And.intro (@rfl Val _) ?_ | refine And.intro (by decide) ?_ | refine cs (fun _ => ?_) (fun _ => ?_)) <;> conv => whnf)
  all_goals clear fin w1 w2
  all_goals first | (simp; done) | (simp; omega)
set_option maxRecDepth 10000 in
theorem RHeight_call (t : Tm) : ACall Try.prog 23 [t.val] [] (fun o σ => o = .ret (.c (.d (.int .i64 (tmHeight t)))) ∧ σ = []) := by
  have c1 := rtmCheck_call t
  have c2 : tmcheck t = 0 → ACall Try.prog 52 [t.val] [] (fun o σ => o = .ret (.c (.d (.int .i64 (tmHeight t)))) ∧ σ = []) := fun h => by
    rw [show tmHeight t = tmH t by simp [tmHeight, h]]
    exact rhigh_call t (tmcheck_N h)
  have e3 : tmcheck t ≠ 0 → tmHeight t = 0 := fun h => by simp [tmHeight, h]
  generalize tmcheck t = cc at *
  generalize tmHeight t = m at *
  obtain ⟨k, name, arg, num, tk, tks, uk, uks, label, place, ks⟩ := t
  refine ACall.body tab_ok (ρ := 0) (N := 8) Try.func23 rfl rfl rfl rfl rfl ?_
  repeat' first | refine AW.seq ?_ | refine AW.block ?_ | ((first | refine AW.region tab_ok ?_ | refine AW.cond ?_ | refine AW.skip ?_ | refine AW.ret ?_ | refine AW.exit ?_); conv => whnf) | (refine (c1).mono ?_; rintro _ _ ⟨rfl, rfl⟩; conv => whnf) | ((first | refine And.intro (@rfl Val _) ?_ | refine And.intro (by decide) ?_ | refine cs (fun _ => ?_) (fun _ => ?_)) <;> conv => whnf)
  · rename_i h
    rw [e3 (by simpa using h)]
    exact ⟨rfl, rfl⟩
  · rename_i h
    have c2 := c2 (by simpa using h)
    refine c2.mono ?_
    rintro _ _ ⟨rfl, rfl⟩
    conv => whnf
    repeat' first | refine AW.seq ?_ | refine AW.block ?_ | ((first | refine AW.region tab_ok ?_ | refine AW.cond ?_ | refine AW.skip ?_ | refine AW.ret ?_ | refine AW.exit ?_); conv => whnf) | ((first | refine And.intro (@rfl Val _) ?_ | refine And.intro (by decide) ?_ | refine cs (fun _ => ?_) (fun _ => ?_)) <;> conv => whnf)
    exact ⟨rfl, rfl⟩
/-! ### Counting, erased -/
/-- The table, but that Counting hands a nil slice of kids on as nil. -/
def tab3 : Tab := { tab with rsl := fun f => bif Nat.beq f 63 then [.fz [none, none, none, none, none, some 2, none, some 2, none, none, none]] else tab.rsl f }
theorem tab3_ok : TabOk Try.prog tab3 := ⟨tab_ok.eqa, tab_ok.ti, tab_ok.fok⟩
set_option maxRecDepth 10000 in
set_option maxHeartbeats 4000000 in
theorem counting_call (k : Int) (name arg : ByteArray) (num tk : Int) (tks : List Ty) (uk : Int) (uks : List Ty) (label place : Int) (ks : List Tm) (hv : validK k = true) :
    ACall Try.prog 63 [(Tm.node k name arg num tk tks uk uks label place ks).val] [] (fun o σ => o = .ret (.agg [.d (.int .i8 k), .d (.str (if nameK k || decide (k = 15) then name else ⟨#[]⟩)), .d (.str (if argK k then arg else ⟨#[]⟩)), .d (.int .i64 (if decide (k = 1) then num else 0)), .d (.int .i8 (if typeK k then tk else 0)), .d (.sl 0 2 (Ty.rows (if typeK k then tks else []))), .d (.int .i8 (if toK k then uk else 0)), .d (.sl 0 2 (Ty.rows (if toK k then uks else []))), .d (.int .i64 (if decide (k = 17) then label else 0)), .d (.int .i64 place), .d .nils]) ∧ σ = []) := by
  have c1 := rhasName_call k
  have c2 := rhasArg_call k
  have c3 := rhasType_call k
  have c4 := rhasTo_call k
  rcases kinds k hv with rfl | rfl | rfl | rfl | rfl | rfl | rfl | rfl | rfl | rfl | rfl | rfl | rfl | rfl | rfl | rfl | rfl | rfl
  all_goals
    clear hv
    refine ACall.body tab3_ok (ρ := 0) (N := 46) Try.func63 rfl rfl rfl rfl rfl ?_
    skip
    repeat' first | refine AW.seq ?_ | refine AW.block ?_ | ((first | refine AW.region tab3_ok ?_ | refine AW.cond ?_ | refine AW.skip ?_ | refine AW.ret ?_ | refine AW.exit ?_); conv => whnf) | ((first | refine (c1).mono ?_ | refine (c2).mono ?_ | refine (c3).mono ?_ | refine (c4).mono ?_); rintro _ _ ⟨rfl, rfl⟩; conv => whnf) | ((first | refine And.intro (@rfl Val _) ?_ | refine And.intro (by decide) ?_ | refine cs (fun _ => ?_) (fun _ => ?_)) <;> conv => whnf)
    all_goals first | exact ⟨rfl, rfl⟩
noncomputable def restRE : Code := match Try.f53.body with
  | some (.seq _ (.seq _ (.seq _ c))) => c
  | _ => .skip
set_option maxRecDepth 10000 in
theorem rerased_rest (k : Int) (name arg : ByteArray) (num tk : Int) (tks : List Ty) (uk : Int) (uks : List Ty) (label place : Int) (ks : List Tm) (ms : List Tm) (hlen : ks.length ≤ 8192) (hms : ms.length = ks.length)
    (hk : ∀ (i : Nat) x, ks[i]? = some x → ∃ m, ms[i]? = some m ∧ ACall Try.prog 53 [x.val] [] (fun o σ => o = .ret m.val ∧ σ = [])) :
    AW Try.prog tab 0 restRE ⟨34, [(1, .c (.ptr 0 0)), (2, .c (.ptr 1 0)), (3, .c (.ptr 2 0))], [.var ((Tm.node k name arg num tk tks uk uks label place ks).cells.map .d), .var [.d (.int .i8 0), .d (.str ⟨#[]⟩), .d (.str ⟨#[]⟩), .d (.int .i64 0), .d (.int .i8 0), .d .nils, .d (.int .i8 0), .d .nils, .d (.int .i64 0), .d (.int .i64 0), .d .nils], .var [.d (.int .i8 k), .d (.str (if nameK k || decide (k = 15) then name else ⟨#[]⟩)), .d (.str (if argK k then arg else ⟨#[]⟩)), .d (.int .i64 (if decide (k = 1) then num else 0)), .d (.int .i8 (if typeK k then tk else 0)), .d (.sl 0 2 (Ty.rows (if typeK k then tks else []))), .d (.int .i8 (if toK k then uk else 0)), .d (.sl 0 2 (Ty.rows (if toK k then uks else []))), .d (.int .i64 0), .d (.int .i64 place), .d .nils]], []⟩
      (afin tab 0 53 [.cell 2 28] 0 (fun o σ => o = .ret (Tm.node k (if nameK k || decide (k = 15) then name else ⟨#[]⟩) (if argK k then arg else ⟨#[]⟩) (if decide (k = 1) then num else 0) (if typeK k then tk else 0) (if typeK k then tks else []) (if toK k then uk else 0) (if toK k then uks else []) 0 place ms).val ∧ σ = [])) := by
  repeat' first | refine AW.seq ?_ | refine AW.block ?_ | (refine (id : AW _ _ _ (.region 7 _ true) _ _ → _) ?_; refine AW.draw (id := 7) tab_ok mixed [0, 1, 2, 3, 4, 5, 6, 7, 8, 9, 10, 11] (by kernel_rfl) ?_; conv => whnf) | ((first | refine AW.region tab_ok ?_ | refine AW.cond ?_ | refine AW.skip ?_ | refine AW.ret ?_ | refine AW.exit ?_); conv => whnf) | ((first | refine And.intro (@rfl Val _) ?_ | refine And.intro (by decide) ?_ | refine cs (fun _ => ?_) (fun _ => ?_)) <;> conv => whnf)
  refine AW.ghost 28 11 2 10 (by decide) rfl rfl ?_
  refine AW.loop (ι := UpToT ks) (fun x => ⟨34, [(4, .c (.d (.int .i64 x.i))), (1, .c (.ptr 0 0)), (2, .c (.ptr 1 0)), (3, .c (.ptr 2 0))],
      [.var ((Tm.node k name arg num tk tks uk uks label place ks).cells.map .d), .var [.d (.int .i8 0), .d (.str ⟨#[]⟩), .d (.str ⟨#[]⟩), .d (.int .i64 0), .d (.int .i8 0), .d .nils, .d (.int .i8 0), .d .nils, .d (.int .i64 0), .d (.int .i64 0), .d .nils], .var [.d (.int .i8 k), .d (.str (if nameK k || decide (k = 15) then name else ⟨#[]⟩)), .d (.str (if argK k then arg else ⟨#[]⟩)), .d (.int .i64 (if decide (k = 1) then num else 0)), .d (.int .i8 (if typeK k then tk else 0)), .d (.sl 0 2 (Ty.rows (if typeK k then tks else []))), .d (.int .i8 (if toK k then uk else 0)), .d (.sl 0 2 (Ty.rows (if toK k then uks else []))), .d (.int .i64 0), .d (.int .i64 place), .own 3 (Tm.rows (ms.take x.i)).length], .row 28 11 (Tm.rows (ms.take x.i))], []⟩)
    (fun x => ks.length - x.i) ⟨0, Nat.zero_le _⟩ 4 (fun _ => rfl) (Nat.le_of_ble_eq_true rfl) ⟨⟨rfl, rfl, rfl, rfl, trivial⟩, rfl, rfl, ⟨[], rfl⟩, rfl⟩ (fun x => ?_)
  obtain ⟨i, hi⟩ := x
  repeat' first | refine AW.seq ?_ | refine AW.block ?_ | (refine (id : AW _ _ _ (.region 7 _ true) _ _ → _) ?_; refine AW.draw (id := 7) tab_ok mixed [0, 1, 2, 3, 4, 5, 6, 7, 8, 9, 10, 11] (by kernel_rfl) ?_; conv => whnf) | ((first | refine AW.region tab_ok ?_ | refine AW.cond ?_ | refine AW.skip ?_ | refine AW.ret ?_ | refine AW.exit ?_); conv => whnf) | ((first | refine And.intro (@rfl Val _) ?_ | refine And.intro (by decide) ?_ | refine cs (fun _ => ?_) (fun _ => ?_)) <;> conv => whnf)
  · rename_i h1
    simp only [trows_length] at h1
    have := of_decide_eq_true h1
    refine ⟨by simp only [trows_length]; omega, fun row hrow => ?_⟩
    obtain ⟨x, ht, rfl⟩ := trows_get ks i row (by simpa using hrow)
    have hlt : i < ks.length := (List.getElem?_eq_some_iff.1 ht).1
    obtain ⟨m, hm, hc⟩ := hk i x ht
    have hmt : ms.take (i + 1) = ms.take i ++ [m] := by
      rw [List.take_add_one, hm]; rfl
    have e : Tm.rows (ms.take i) ++ [m.cells] = Tm.rows (ms.take (i + 1)) := by
      rw [hmt, trows_map (ms.take i), trows_map (ms.take i ++ _), List.map_append]; rfl
    have el : (Tm.rows (ms.take i)).length + [m.cells].length = (Tm.rows (ms.take (i + 1))).length := by
      rw [← List.length_append, e]
    obtain ⟨kx, namex, argx, numx, tkx, tksx, ukx, uksx, labelx, placex, ksx⟩ := m
    obtain ⟨ky, namey, argy, numy, tky, tksy, uky, uksy, labely, placey, ksy⟩ := x
    conv => whnf
    repeat' first | refine AW.seq ?_ | refine AW.block ?_ | (refine (id : AW _ _ _ (.region 7 _ true) _ _ → _) ?_; refine AW.draw (id := 7) tab_ok mixed [0, 1, 2, 3, 4, 5, 6, 7, 8, 9, 10, 11] (by kernel_rfl) ?_; conv => whnf) | ((first | refine AW.region tab_ok ?_ | refine AW.cond ?_ | refine AW.skip ?_ | refine AW.ret ?_ | refine AW.exit ?_); conv => whnf) | (refine (hc).mono ?_; rintro _ _ ⟨rfl, rfl⟩; conv => whnf) | ((first | refine And.intro (@rfl Val _) ?_ | refine And.intro (by decide) ?_ | refine cs (fun _ => ?_) (fun _ => ?_)) <;> conv => whnf)
    refine ⟨⟨rfl, ?_, ?_⟩, ?_⟩
    · simp only [trows_length, List.length_take, List.length_cons, List.length_nil]
      omega
    · simp only [trows_length, List.length_take, List.length_cons, List.length_nil]
      omega
    conv => whnf
    repeat' first | refine AW.seq ?_ | refine AW.block ?_ | (refine (id : AW _ _ _ (.region 7 _ true) _ _ → _) ?_; refine AW.draw (id := 7) tab_ok mixed [0, 1, 2, 3, 4, 5, 6, 7, 8, 9, 10, 11] (by kernel_rfl) ?_; conv => whnf) | ((first | refine AW.region tab_ok ?_ | refine AW.cond ?_ | refine AW.skip ?_ | refine AW.ret ?_ | refine AW.exit ?_); conv => whnf) | ((first | refine And.intro (@rfl Val _) ?_ | refine And.intro (by decide) ?_ | refine cs (fun _ => ?_) (fun _ => ?_)) <;> conv => whnf)
    simp only [Tm.cells] at e el
    rw [el, e, wrap64 (x := (i : Int) + 1) (by omega) (by omega)]
    exact ⟨⟨i + 1, hlt⟩, ⟨⟨rfl, rfl, rfl, rfl, trivial⟩, rfl, rfl, ⟨[], rfl⟩, rfl⟩, show ks.length - (i + 1) < ks.length - i by omega⟩
  · rename_i h1
    simp only [trows_length] at h1
    have := of_decide_eq_false h1
    obtain rfl : i = ks.length := by omega
    have e : ms.take ks.length = ms := List.take_of_length_le (by omega)
    simp only [e]
    first | refine ⟨trivial, ?_⟩ | refine ⟨rfl, ?_⟩ | skip
    conv => whnf
    first | exact ⟨rfl, rfl⟩ | exact ⟨rfl, trivial⟩ | (simp; rfl)
set_option maxRecDepth 10000 in
theorem rerased_call (a : Tm) : tmN a ≤ 8192 → tmright a = true → ACall Try.prog 53 [a.val] [] (fun o σ => o = .ret (tmerase a).val ∧ σ = []) := by
  induction a using Tm.ind with
  | _ k name arg num tk tks uk uks label place ks ih =>
  intro hN ha
  have hlen := tmNL_len ks
  simp only [tmN] at hN
  have hkl := tmright_len ha
  have ih' : ∀ (i : Nat) x, ks[i]? = some x → ∃ m, (tmerases ks)[i]? = some m ∧ ACall Try.prog 53 [x.val] [] (fun o σ => o = .ret m.val ∧ σ = []) := fun i x hx => by
    have hm := List.mem_of_getElem? hx
    have := tmN_mem ks x hm
    exact ⟨tmerase x, tmerases_get hx, ih x hm (by omega) (tmright_kid ha hm)⟩
  have fin : k ≠ 17 → ∀ (env : List (Nat × Val)), get env 1 = .c (.ptr 0 0) → get env 2 = .c (.ptr 1 0) → get env 3 = .c (.ptr 2 0) →
      AW Try.prog tab 0 restRE ⟨34, env, [.var ((Tm.node k name arg num tk tks uk uks label place ks).cells.map .d), .var [.d (.int .i8 0), .d (.str ⟨#[]⟩), .d (.str ⟨#[]⟩), .d (.int .i64 0), .d (.int .i8 0), .d .nils, .d (.int .i8 0), .d .nils, .d (.int .i64 0), .d (.int .i64 0), .d .nils], .var [.d (.int .i8 k), .d (.str (if nameK k || decide (k = 15) then name else ⟨#[]⟩)), .d (.str (if argK k then arg else ⟨#[]⟩)), .d (.int .i64 (if decide (k = 1) then num else 0)), .d (.int .i8 (if typeK k then tk else 0)), .d (.sl 0 2 (Ty.rows (if typeK k then tks else []))), .d (.int .i8 (if toK k then uk else 0)), .d (.sl 0 2 (Ty.rows (if toK k then uks else []))), .d (.int .i64 0), .d (.int .i64 place), .d .nils]], []⟩
        (afin tab 0 53 Try.f53.results.toList ([] : List AObj).length (fun o σ => o = .ret (tmerase (.node k name arg num tk tks uk uks label place ks)).val ∧ σ = [])) := fun hk env g0 g2 g3 => by
    rw [show tmerase (.node k name arg num tk tks uk uks label place ks) = .node k (if nameK k || decide (k = 15) then name else ⟨#[]⟩) (if argK k then arg else ⟨#[]⟩) (if decide (k = 1) then num else 0) (if typeK k then tk else 0) (if typeK k then tks else []) (if toK k then uk else 0) (if toK k then uks else []) 0 place (tmerases ks) by simp only [tmerase]; rw [if_neg hk]]
    refine AW.fits ?_ ?_ (rerased_rest k name arg num tk tks uk uks label place ks (tmerases ks) (by omega) (tmerases_len ks) ih')
    · exact ⟨⟨g0, g2, g3, trivial⟩, rfl, rfl, ⟨[], rfl⟩, rfl⟩
    · rfl
  have hv := tmright_valid ha
  have c1 := counting_call k name arg num tk tks uk uks label place ks hv
  clear hlen hN hv
  by_cases hk : k = 17
  · subst hk
    obtain ⟨x, rfl⟩ : ∃ x, ks = [x] := by
      have : kidsK 17 = 1 := rfl
      match ks, hkl with
      | [], h => simp [this] at h
      | [x], _ => exact ⟨x, rfl⟩
      | x :: y :: l, h => simp [this] at h; omega
    obtain ⟨m, hm, hc⟩ := ih' 0 x rfl
    have e : tmerase (.node 17 name arg num tk tks uk uks label place [x]) = tmerase x := by simp [tmerase, tmerases]
    have em : m = tmerase x := by simpa [tmerases] using hm.symm
    rw [e, ← em]
    clear ih ih' fin c1 e em hm ha hkl
    obtain ⟨kx, namex, argx, numx, tkx, tksx, ukx, uksx, labelx, placex, ksx⟩ := m
    obtain ⟨ky, namey, argy, numy, tky, tksy, uky, uksy, labely, placey, ksy⟩ := x
    refine ACall.body tab_ok (ρ := 0) (N := 34) Try.func53 rfl rfl rfl rfl rfl ?_
    skip
    repeat' first | ((refine ⟨by simp [Tm.rows], fun row hrow => ?_⟩; simp [Tm.rows] at hrow; subst hrow; conv => whnf)) | refine AW.seq ?_ | refine AW.block ?_ | (refine (id : AW _ _ _ (.region 7 _ true) _ _ → _) ?_; refine AW.draw (id := 7) tab_ok mixed [0, 1, 2, 3, 4, 5, 6, 7, 8, 9, 10, 11] (by kernel_rfl) ?_; conv => whnf) | ((first | refine AW.region tab_ok ?_ | refine AW.cond ?_ | refine AW.skip ?_ | refine AW.ret ?_ | refine AW.exit ?_); conv => whnf) | (refine (hc).mono ?_; rintro _ _ ⟨rfl, rfl⟩; conv => whnf) | ((first | refine And.intro (@rfl Val _) ?_ | refine And.intro (by decide) ?_ | refine cs (fun _ => ?_) (fun _ => ?_)) <;> conv => whnf)
    all_goals first | exact ⟨rfl, rfl⟩
  · have hz : (if decide (k = 17) then label else 0) = 0 := by simp [hk]
    rw [hz] at c1
    clear hz
    have fin := fin hk
    have hb : (k == 17) = false := by simpa using hk
    clear ih ih' ha hkl
    refine ACall.body tab_ok (ρ := 0) (N := 34) Try.func53 rfl rfl rfl rfl rfl ?_
    skip
    repeat' first | (exact fin _ rfl rfl rfl) | refine AW.seq ?_ | refine AW.block ?_ | (refine (id : AW _ _ _ (.region 7 _ true) _ _ → _) ?_; refine AW.draw (id := 7) tab_ok mixed [0, 1, 2, 3, 4, 5, 6, 7, 8, 9, 10, 11] (by kernel_rfl) ?_; conv => whnf) | ((first | refine AW.region tab_ok ?_ | refine AW.cond ?_ | refine AW.skip ?_ | refine AW.ret ?_ | refine AW.exit ?_); conv => whnf) | (refine (c1).mono ?_; rintro _ _ ⟨rfl, rfl⟩; conv => whnf) | ((first | refine And.intro (@rfl Val _) ?_ | refine And.intro (by decide) ?_ | refine cs (fun _ => ?_) (fun _ => ?_)) <;> conv => whnf)
    all_goals first | (rename_i h; rw [hb] at h; cases h; done)
set_option maxRecDepth 10000 in
theorem RErase_call (t : Tm) : ACall Try.prog 24 [t.val] [] (fun o σ => o = .ret (tmEraseS t).val ∧ σ = []) := by
  have c1 := rtmCheck_call t
  have c2 : tmcheck t = 0 → ACall Try.prog 53 [t.val] [] (fun o σ => o = .ret (tmEraseS t).val ∧ σ = []) := fun h => by
    rw [show tmEraseS t = tmerase t by simp [tmEraseS, h]]
    exact rerased_call t (tmcheck_N h) (tmcheck_right h)
  have e3 : tmcheck t ≠ 0 → tmEraseS t = (.node 0 ⟨#[]⟩ ⟨#[]⟩ 0 0 [] 0 [] 0 0 []) := fun h => by simp [tmEraseS, h]
  generalize tmcheck t = cc at *
  generalize tmEraseS t = m at *
  obtain ⟨k, name, arg, num, tk, tks, uk, uks, label, place, ks⟩ := t
  refine ACall.body tab_ok (ρ := 0) (N := 9) Try.func24 rfl rfl rfl rfl rfl ?_
  repeat' first | refine AW.seq ?_ | refine AW.block ?_ | ((first | refine AW.region tab_ok ?_ | refine AW.cond ?_ | refine AW.skip ?_ | refine AW.ret ?_ | refine AW.exit ?_); conv => whnf) | (refine (c1).mono ?_; rintro _ _ ⟨rfl, rfl⟩; conv => whnf) | ((first | refine And.intro (@rfl Val _) ?_ | refine And.intro (by decide) ?_ | refine cs (fun _ => ?_) (fun _ => ?_)) <;> conv => whnf)
  · rename_i h
    rw [e3 (by simpa using h)]
    exact ⟨rfl, rfl⟩
  · rename_i h
    have c2 := c2 (by simpa using h)
    obtain ⟨kx, namex, argx, numx, tkx, tksx, ukx, uksx, labelx, placex, ksx⟩ := m
    refine c2.mono ?_
    rintro _ _ ⟨rfl, rfl⟩
    conv => whnf
    repeat' first | refine AW.seq ?_ | refine AW.block ?_ | ((first | refine AW.region tab_ok ?_ | refine AW.cond ?_ | refine AW.skip ?_ | refine AW.ret ?_ | refine AW.exit ?_); conv => whnf) | ((first | refine And.intro (@rfl Val _) ?_ | refine And.intro (by decide) ?_ | refine cs (fun _ => ?_) (fun _ => ?_)) <;> conv => whnf)
    exact ⟨rfl, rfl⟩
end Go.Proofs.Ytlboogackecjlaa.E
