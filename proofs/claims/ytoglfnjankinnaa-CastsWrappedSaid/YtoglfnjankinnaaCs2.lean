/- Walks: casts.bare, erase, Erase. No conditions. -/
import Derived.Test.YtoglfnjankinnaaCs1
set_option linter.unusedVariables false
set_option linter.unusedSimpArgs false
namespace Go.Proofs.Ytoglfnjankinnaa.E
open Go

/-- The table, but that bare hands a nil slice of kids on as nil. -/
def tab2 : Tab := { tab with rsl := fun f => bif Nat.beq f 91 then [.fz [none, none, none, none, none, some 2, none, some 2, none, none, none]] else tab.rsl f }
theorem tab2_ok : TabOk Try.prog tab2 := ⟨tab_ok.eqa, tab_ok.ti, tab_ok.fok⟩
set_option maxRecDepth 10000 in
set_option maxHeartbeats 4000000 in
theorem cbare_call (k : Int) (name arg : ByteArray) (num tk : Int) (tks : List Ty) (uk : Int) (uks : List Ty) (label place : Int) (ks : List Tm) (hv : validK k = true) (hk : k ≠ 17) (n1 : typeK k = true → nodes (.node tk tks) ≤ 8192) (n2 : toK k = true → nodes (.node uk uks) ≤ 8192) :
    ACall Try.prog 91 [.c (.d (.rp 0 (Tm.node k name arg num tk tks uk uks label place ks).cells))] [] (fun o σ => o = .ret (.agg [.d (.int .i8 k), .d (.str (if nameK k || decide (k = 15) then name else ⟨#[]⟩)), .d (.str (if argK k then arg else ⟨#[]⟩)), .d (.int .i64 (if decide (k = 1) then num else 0)), .d (.int .i8 (if typeK k then tk else 0)), .d (.sl 0 2 (Ty.rows (if typeK k then tks else []))), .d (.int .i8 (if toK k then uk else 0)), .d (.sl 0 2 (Ty.rows (if toK k then uks else []))), .d (.int .i64 0), .d (.int .i64 place), .d .nils]) ∧ σ = []) := by
  have w1 : typeK k = true → ACall Try.prog 44 [(Ty.node tk tks).val] [] (fun o σ => o = .ret (Ty.node tk tks).val ∧ σ = []) := fun h => cwhole_call _ (n1 h)
  have w2 : toK k = true → ACall Try.prog 44 [(Ty.node uk uks).val] [] (fun o σ => o = .ret (Ty.node uk uks).val ∧ σ = []) := fun h => cwhole_call _ (n2 h)
  clear n1 n2
  rcases kinds k hv with rfl | rfl | rfl | rfl | rfl | rfl | rfl | rfl | rfl | rfl | rfl | rfl | rfl | rfl | rfl | rfl | rfl | rfl
  all_goals first
    | (exact absurd rfl hk)
    | (clear hv hk
       refine ACall.body tab2_ok (ρ := 0) (N := 93) Try.func91 rfl rfl rfl rfl rfl ?_
       skip
       repeat' first
         | refine AW.seq ?_
         | refine AW.block ?_
         | (refine AW.region tab2_ok ?_; conv => whnf)
         | (refine AW.draw (id := 1) tab2_ok mixed [0, 1, 2, 3, 4, 5, 6, 7, 8, 9, 10] (by kernel_rfl) ?_; conv => whnf)
         | (refine AW.draw (id := 10) tab2_ok mixed [0, 1, 2, 3, 4, 5, 6, 7, 9, 8, 10, 11, 12] (by kernel_rfl) ?_; conv => whnf)
         | (refine AW.draw (id := 12) tab2_ok mixed [0, 1, 2, 3, 4, 5, 6, 7, 8, 9, 10, 11, 13, 14, 15, 16, 18, 12, 17, 19, 20, 21, 22, 23, 24, 25] (by kernel_rfl) ?_; conv => whnf)
         | (refine AW.draw (id := 14) tab2_ok mixed [0, 1, 2, 3, 4, 5, 6, 7, 8, 9, 10, 11] (by kernel_rfl) ?_; conv => whnf)
         | (refine AW.cond ?_; conv => whnf)
         | (refine AW.skip ?_; conv => whnf)
         | (refine AW.ret ?_; conv => whnf)
         | (refine AW.exit ?_; conv => whnf)
         | (refine (w1 rfl).mono ?_; rintro _ _ ⟨rfl, rfl⟩; conv => whnf)
         | (refine (w2 rfl).mono ?_; rintro _ _ ⟨rfl, rfl⟩; conv => whnf)
         | (refine And.intro (@rfl Val _) ?_; conv => whnf)
         | (refine And.intro (by decide) ?_; conv => whnf)
         | (refine cs (fun _ => ?_) (fun _ => ?_) <;> conv => whnf)
       exact ⟨rfl, rfl⟩)
mutual
/-- A term without its casts. -/
def tmerase : Tm → Tm
  | .node k name arg num tk tks uk uks label place ks => if k = 17 then (tmerases ks).headD (.node 0 ⟨#[]⟩ ⟨#[]⟩ 0 0 [] 0 [] 0 0 []) else
    .node k (if nameK k || decide (k = 15) then name else ⟨#[]⟩) (if argK k then arg else ⟨#[]⟩) (if decide (k = 1) then num else 0) (if typeK k then tk else 0) (if typeK k then tks else []) (if toK k then uk else 0) (if toK k then uks else []) 0 place (tmerases ks)
def tmerases : List Tm → List Tm
  | [] => []
  | t :: l => tmerase t :: tmerases l
end
theorem tmerases_map : ∀ ks : List Tm, tmerases ks = ks.map tmerase
  | [] => rfl
  | t :: l => by simp [tmerases, tmerases_map l]
theorem tmerases_get {ks : List Tm} {i : Nat} {x : Tm} (h : ks[i]? = some x) : (tmerases ks)[i]? = some (tmerase x) := by rw [tmerases_map, List.getElem?_map, h]; rfl
theorem tmerases_len (ks : List Tm) : (tmerases ks).length = ks.length := by rw [tmerases_map, List.length_map]
noncomputable def rest113 : Code := match Try.f49.body with
  | some (.seq _ (.seq _ (.seq _ c))) => c
  | _ => .skip
set_option maxRecDepth 10000 in
theorem erase_rest (k : Int) (name arg : ByteArray) (num tk : Int) (tks : List Ty) (uk : Int) (uks : List Ty) (label place : Int) (ks : List Tm) (ms : List Tm) (hlen : ks.length ≤ 8192) (hms : ms.length = ks.length)
    (hk : ∀ (i : Nat) x, ks[i]? = some x → ∃ m, ms[i]? = some m ∧ ACall Try.prog 49 [.c (.d (.rp 0 x.cells))] [] (fun o σ => o = .ret m.val ∧ σ = [])) :
    AW Try.prog tab 0 rest113 ⟨40, [(0, .c (.d (.rp 0 (Tm.node k name arg num tk tks uk uks label place ks).cells))), (2, .c (.ptr 0 0)), (3, .c (.ptr 1 0))], [.var [.d (.int .i8 0), .d (.str ⟨#[]⟩), .d (.str ⟨#[]⟩), .d (.int .i64 0), .d (.int .i8 0), .d .nils, .d (.int .i8 0), .d .nils, .d (.int .i64 0), .d (.int .i64 0), .d .nils], .var [.d (.int .i8 k), .d (.str (if nameK k || decide (k = 15) then name else ⟨#[]⟩)), .d (.str (if argK k then arg else ⟨#[]⟩)), .d (.int .i64 (if decide (k = 1) then num else 0)), .d (.int .i8 (if typeK k then tk else 0)), .d (.sl 0 2 (Ty.rows (if typeK k then tks else []))), .d (.int .i8 (if toK k then uk else 0)), .d (.sl 0 2 (Ty.rows (if toK k then uks else []))), .d (.int .i64 0), .d (.int .i64 place), .d .nils]], []⟩
      (afin tab 0 49 [.cell 2 28] 0 (fun o σ => o = .ret (Tm.node k (if nameK k || decide (k = 15) then name else ⟨#[]⟩) (if argK k then arg else ⟨#[]⟩) (if decide (k = 1) then num else 0) (if typeK k then tk else 0) (if typeK k then tks else []) (if toK k then uk else 0) (if toK k then uks else []) 0 place ms).val ∧ σ = [])) := by
  repeat' first
    | refine AW.seq ?_
    | refine AW.block ?_
    | (refine AW.region tab_ok ?_; conv => whnf)
    | (refine AW.draw (id := 7) tab_ok mixed [0, 1, 2, 3, 4, 5, 6, 7, 8, 9, 10, 11, 12] (by kernel_rfl) ?_; conv => whnf)
    | (refine AW.cond ?_; conv => whnf)
    | (refine AW.skip ?_; conv => whnf)
    | (refine AW.ret ?_; conv => whnf)
    | (refine AW.exit ?_; conv => whnf)
    | (refine And.intro (@rfl Val _) ?_; conv => whnf)
    | (refine And.intro (by decide) ?_; conv => whnf)
    | (refine cs (fun _ => ?_) (fun _ => ?_) <;> conv => whnf)
  refine AW.ghost 28 11 1 10 (by decide) rfl rfl ?_
  refine AW.loop (ι := UpToT ks) (fun x => ⟨40, [(23, .c (.d (.int .i64 x.i))), (22, .c (.d (.int .i64 (Tm.rows ks).length))), (0, .c (.d (.rp 0 (Tm.node k name arg num tk tks uk uks label place ks).cells))), (2, .c (.ptr 0 0)), (3, .c (.ptr 1 0))],
      [.var [.d (.int .i8 0), .d (.str ⟨#[]⟩), .d (.str ⟨#[]⟩), .d (.int .i64 0), .d (.int .i8 0), .d .nils, .d (.int .i8 0), .d .nils, .d (.int .i64 0), .d (.int .i64 0), .d .nils], .var [.d (.int .i8 k), .d (.str (if nameK k || decide (k = 15) then name else ⟨#[]⟩)), .d (.str (if argK k then arg else ⟨#[]⟩)), .d (.int .i64 (if decide (k = 1) then num else 0)), .d (.int .i8 (if typeK k then tk else 0)), .d (.sl 0 2 (Ty.rows (if typeK k then tks else []))), .d (.int .i8 (if toK k then uk else 0)), .d (.sl 0 2 (Ty.rows (if toK k then uks else []))), .d (.int .i64 0), .d (.int .i64 place), .own 2 (Tm.rows (ms.take x.i)).length], .row 28 11 (Tm.rows (ms.take x.i))], []⟩)
    (fun x => ks.length - x.i) ⟨0, Nat.zero_le _⟩ 3 (fun _ => rfl) (Nat.le_of_ble_eq_true rfl) ⟨⟨rfl, rfl, rfl, rfl, rfl, trivial⟩, rfl, rfl, ⟨[], rfl⟩, rfl⟩ (fun x => ?_)
  obtain ⟨i, hi⟩ := x
  repeat' first
    | refine AW.seq ?_
    | refine AW.block ?_
    | (refine AW.region tab_ok ?_; conv => whnf)
    | (refine AW.draw (id := 7) tab_ok mixed [0, 1, 2, 3, 4, 5, 6, 7, 8, 9, 10, 11, 12] (by kernel_rfl) ?_; conv => whnf)
    | (refine AW.cond ?_; conv => whnf)
    | (refine AW.skip ?_; conv => whnf)
    | (refine AW.ret ?_; conv => whnf)
    | (refine AW.exit ?_; conv => whnf)
    | (refine And.intro (@rfl Val _) ?_; conv => whnf)
    | (refine And.intro (by decide) ?_; conv => whnf)
    | (refine cs (fun _ => ?_) (fun _ => ?_) <;> conv => whnf)
  · rename_i h1
    simp only [trows_length] at h1
    have := of_decide_eq_true h1
    refine ⟨by simp only [trows_length]; omega, fun row hrow => ?_⟩
    obtain ⟨x, ht, rfl⟩ := trows_get ks i row (by simpa using hrow)
    have hlt : i < ks.length := (List.getElem?_eq_some_iff.1 ht).1
    conv => whnf
    obtain ⟨m, hm, hc⟩ := hk i x ht
    have hmt : ms.take (i + 1) = ms.take i ++ [m] := by
      rw [List.take_add_one, hm]; rfl
    have e : Tm.rows (ms.take i) ++ [m.cells] = Tm.rows (ms.take (i + 1)) := by
      rw [hmt, trows_map (ms.take i), trows_map (ms.take i ++ _), List.map_append]; rfl
    have el : (Tm.rows (ms.take i)).length + [m.cells].length = (Tm.rows (ms.take (i + 1))).length := by
      rw [← List.length_append, e]
    obtain ⟨kx, namex, argx, numx, tkx, tksx, ukx, uksx, labelx, placex, ksx⟩ := m
    repeat' first
      | refine AW.seq ?_
      | refine AW.block ?_
      | (refine AW.region tab_ok ?_; conv => whnf)
      | (refine AW.draw (id := 7) tab_ok mixed [0, 1, 2, 3, 4, 5, 6, 7, 8, 9, 10, 11, 12] (by kernel_rfl) ?_; conv => whnf)
      | (refine AW.cond ?_; conv => whnf)
      | (refine AW.skip ?_; conv => whnf)
      | (refine AW.ret ?_; conv => whnf)
      | (refine AW.exit ?_; conv => whnf)
      | (refine (hc).mono ?_; rintro _ _ ⟨rfl, rfl⟩; conv => whnf)
      | (refine And.intro (@rfl Val _) ?_; conv => whnf)
      | (refine And.intro (by decide) ?_; conv => whnf)
      | (refine cs (fun _ => ?_) (fun _ => ?_) <;> conv => whnf)
    refine ⟨⟨rfl, ?_, ?_⟩, ?_⟩
    · simp only [trows_length, List.length_take, List.length_cons, List.length_nil]
      omega
    · simp only [trows_length, List.length_take, List.length_cons, List.length_nil]
      omega
    conv => whnf
    repeat' first
      | refine AW.seq ?_
      | refine AW.block ?_
      | (refine AW.region tab_ok ?_; conv => whnf)
      | (refine AW.draw (id := 7) tab_ok mixed [0, 1, 2, 3, 4, 5, 6, 7, 8, 9, 10, 11, 12] (by kernel_rfl) ?_; conv => whnf)
      | (refine AW.cond ?_; conv => whnf)
      | (refine AW.skip ?_; conv => whnf)
      | (refine AW.ret ?_; conv => whnf)
      | (refine AW.exit ?_; conv => whnf)
      | (refine And.intro (@rfl Val _) ?_; conv => whnf)
      | (refine And.intro (by decide) ?_; conv => whnf)
      | (refine cs (fun _ => ?_) (fun _ => ?_) <;> conv => whnf)
    simp only [Tm.cells] at e el
    rw [el, e, wrap64 (x := (i : Int) + 1) (by omega) (by omega)]
    exact ⟨⟨i + 1, hlt⟩, ⟨⟨rfl, rfl, rfl, rfl, rfl, trivial⟩, rfl, rfl, ⟨[], rfl⟩, rfl⟩, show ks.length - (i + 1) < ks.length - i by omega⟩
  · rename_i h1
    simp only [trows_length] at h1
    have := of_decide_eq_false h1
    obtain rfl : i = ks.length := by omega
    have e : ms.take ks.length = ms := List.take_of_length_le (by omega)
    simp only [e]
    first | refine ⟨trivial, ?_⟩ | refine ⟨rfl, ?_⟩ | skip
    conv => whnf
    first | exact ⟨rfl, rfl⟩ | exact ⟨rfl, trivial⟩ | (simp; rfl)
set_option maxRecDepth 10000 in
theorem erase_call (a : Tm) : tmN a ≤ 8192 → tmright a = true → ACall Try.prog 49 [.c (.d (.rp 0 a.cells))] [] (fun o σ => o = .ret (tmerase a).val ∧ σ = []) := by
  induction a using Tm.ind with
  | _ k name arg num tk tks uk uks label place ks ih =>
  intro hN ha
  have hlen := tmNL_len ks
  simp only [tmN] at hN
  have hkl := tmright_len ha
  have ih' : ∀ (i : Nat) x, ks[i]? = some x → ∃ m, (tmerases ks)[i]? = some m ∧ ACall Try.prog 49 [.c (.d (.rp 0 x.cells))] [] (fun o σ => o = .ret m.val ∧ σ = []) := fun i x hx => by
    have hm := List.mem_of_getElem? hx
    have := tmN_mem ks x hm
    exact ⟨tmerase x, tmerases_get hx, ih x hm (by omega) (tmright_kid ha hm)⟩
  have fin : k ≠ 17 → ∀ (env : List (Nat × Val)), get env 0 = .c (.d (.rp 0 (Tm.node k name arg num tk tks uk uks label place ks).cells)) → get env 2 = .c (.ptr 0 0) → get env 3 = .c (.ptr 1 0) →
      AW Try.prog tab 0 rest113 ⟨40, env, [.var [.d (.int .i8 0), .d (.str ⟨#[]⟩), .d (.str ⟨#[]⟩), .d (.int .i64 0), .d (.int .i8 0), .d .nils, .d (.int .i8 0), .d .nils, .d (.int .i64 0), .d (.int .i64 0), .d .nils], .var [.d (.int .i8 k), .d (.str (if nameK k || decide (k = 15) then name else ⟨#[]⟩)), .d (.str (if argK k then arg else ⟨#[]⟩)), .d (.int .i64 (if decide (k = 1) then num else 0)), .d (.int .i8 (if typeK k then tk else 0)), .d (.sl 0 2 (Ty.rows (if typeK k then tks else []))), .d (.int .i8 (if toK k then uk else 0)), .d (.sl 0 2 (Ty.rows (if toK k then uks else []))), .d (.int .i64 0), .d (.int .i64 place), .d .nils]], []⟩ (afin tab 0 49 Try.f49.results.toList ([] : List AObj).length (fun o σ => o = .ret (tmerase (.node k name arg num tk tks uk uks label place ks)).val ∧ σ = [])) := fun hk env g0 g2 g3 => by
    rw [show tmerase (.node k name arg num tk tks uk uks label place ks) = .node k (if nameK k || decide (k = 15) then name else ⟨#[]⟩) (if argK k then arg else ⟨#[]⟩) (if decide (k = 1) then num else 0) (if typeK k then tk else 0) (if typeK k then tks else []) (if toK k then uk else 0) (if toK k then uks else []) 0 place (tmerases ks) by simp only [tmerase]; rw [if_neg hk]]
    refine AW.fits ?_ ?_ (erase_rest k name arg num tk tks uk uks label place ks (tmerases ks) (by omega) (tmerases_len ks) ih')
    · exact ⟨⟨g0, g2, g3, trivial⟩, rfl, rfl, ⟨[], rfl⟩, rfl⟩
    · rfl
  have hv := tmright_valid ha
  have c1 := fun hk => cbare_call k name arg num tk tks uk uks label place ks hv hk (fun h => by rw [if_pos h] at hN; omega) (fun h => by rw [if_pos h] at hN; omega)
  clear hlen hN hv
  by_cases hk : k = 17
  · subst hk
    obtain ⟨x, rfl⟩ : ∃ x, ks = [x] := by
      have : kidsK 17 = 1 := rfl
      match ks, hkl with
      | [], h => simp [this] at h
      | [x], _ => exact ⟨x, rfl⟩
      | x :: y :: l, h => simp [this] at h; omega
    obtain ⟨m, hm, hc⟩ := ih' 0 x rfl
    have e : tmerase (.node 17 name arg num tk tks uk uks label place [x]) = tmerase x := by simp [tmerase, tmerases]
    have em : m = tmerase x := by simpa [tmerases] using hm.symm
    rw [e, ← em]
    clear ih ih' fin c1 e em hm ha hkl
    obtain ⟨kx, namex, argx, numx, tkx, tksx, ukx, uksx, labelx, placex, ksx⟩ := m
    refine ACall.body tab_ok (ρ := 0) (N := 40) Try.func49 rfl rfl rfl rfl rfl ?_
    skip
    repeat' first
      | refine AW.seq ?_
      | refine AW.block ?_
      | (refine AW.region tab_ok ?_; conv => whnf)
      | (refine AW.draw (id := 7) tab_ok mixed [0, 1, 2, 3, 4, 5, 6, 7, 8, 9, 10, 11, 12] (by kernel_rfl) ?_; conv => whnf)
      | (refine AW.cond ?_; conv => whnf)
      | (refine AW.skip ?_; conv => whnf)
      | (refine AW.ret ?_; conv => whnf)
      | (refine AW.exit ?_; conv => whnf)
      | (refine (hc).mono ?_; rintro _ _ ⟨rfl, rfl⟩; conv => whnf)
      | (refine And.intro (@rfl Val _) ?_; conv => whnf)
      | (refine And.intro (by decide) ?_; conv => whnf)
      | (refine cs (fun _ => ?_) (fun _ => ?_) <;> conv => whnf)
    refine ⟨by simp [Tm.rows], fun row hrow => ?_⟩
    obtain rfl : row = x.cells := by simpa [Tm.rows] using hrow.symm
    conv => whnf
    repeat' first
      | refine AW.seq ?_
      | refine AW.block ?_
      | (refine AW.region tab_ok ?_; conv => whnf)
      | (refine AW.draw (id := 7) tab_ok mixed [0, 1, 2, 3, 4, 5, 6, 7, 8, 9, 10, 11, 12] (by kernel_rfl) ?_; conv => whnf)
      | (refine AW.cond ?_; conv => whnf)
      | (refine AW.skip ?_; conv => whnf)
      | (refine AW.ret ?_; conv => whnf)
      | (refine AW.exit ?_; conv => whnf)
      | (refine (hc).mono ?_; rintro _ _ ⟨rfl, rfl⟩; conv => whnf)
      | (refine And.intro (@rfl Val _) ?_; conv => whnf)
      | (refine And.intro (by decide) ?_; conv => whnf)
      | (refine cs (fun _ => ?_) (fun _ => ?_) <;> conv => whnf)
    exact ⟨rfl, rfl⟩
  · have c1 := c1 hk
    have fin := fin hk
    have hb : (k == 17) = false := by simpa using hk
    clear ih ih' ha hkl
    refine ACall.body tab_ok (ρ := 0) (N := 40) Try.func49 rfl rfl rfl rfl rfl ?_
    skip
    repeat' first
      | (exact fin _ rfl rfl rfl)
      | refine AW.seq ?_
      | refine AW.block ?_
      | (refine AW.region tab_ok ?_; conv => whnf)
      | (refine AW.draw (id := 7) tab_ok mixed [0, 1, 2, 3, 4, 5, 6, 7, 8, 9, 10, 11, 12] (by kernel_rfl) ?_; conv => whnf)
      | (refine AW.cond ?_; conv => whnf)
      | (refine AW.skip ?_; conv => whnf)
      | (refine AW.ret ?_; conv => whnf)
      | (refine AW.exit ?_; conv => whnf)
      | (refine (c1).mono ?_; rintro _ _ ⟨rfl, rfl⟩; conv => whnf)
      | (refine And.intro (@rfl Val _) ?_; conv => whnf)
      | (refine And.intro (by decide) ?_; conv => whnf)
      | (refine cs (fun _ => ?_) (fun _ => ?_) <;> conv => whnf)
    all_goals (rename_i h; rw [hb] at h; cases h)
def tmEraseS (t : Tm) : Tm := if tmcheck t = 0 then tmerase t else (.node 0 ⟨#[]⟩ ⟨#[]⟩ 0 0 [] 0 [] 0 0 [])
theorem tmcheck_N {t : Tm} (h : tmcheck t = 0) : tmN t ≤ 8192 := by
  unfold tmcheck at h
  split at h
  · omega
  · omega
set_option maxRecDepth 10000 in
theorem Erase_call (t : Tm) : ACall Try.prog 17 [t.val] [] (fun o σ => o = .ret (tmEraseS t).val ∧ σ = []) := by
  have c1 := tmCheck_call t
  have c2 : tmcheck t = 0 → ACall Try.prog 49 [.c (.d (.rp 0 t.cells))] [] (fun o σ => o = .ret (tmEraseS t).val ∧ σ = []) := fun h => by
    rw [show tmEraseS t = tmerase t by simp [tmEraseS, h]]
    exact erase_call t (tmcheck_N h) (tmcheck_right h)
  have e3 : tmcheck t ≠ 0 → tmEraseS t = (.node 0 ⟨#[]⟩ ⟨#[]⟩ 0 0 [] 0 [] 0 0 []) := fun h => by simp [tmEraseS, h]
  generalize tmcheck t = cc at *
  generalize tmEraseS t = m at *
  obtain ⟨k, name, arg, num, tk, tks, uk, uks, label, place, ks⟩ := t
  refine ACall.body tab_ok (ρ := 0) (N := 8) Try.func17 rfl rfl rfl rfl rfl ?_
  repeat' first
    | refine AW.seq ?_
    | refine AW.block ?_
    | (refine AW.region tab_ok ?_; conv => whnf)
    | (refine AW.cond ?_; conv => whnf)
    | (refine AW.skip ?_; conv => whnf)
    | (refine AW.ret ?_; conv => whnf)
    | (refine AW.exit ?_; conv => whnf)
    | (refine (c1).mono ?_; rintro _ _ ⟨rfl, rfl⟩; conv => whnf)
    | (refine And.intro (@rfl Val _) ?_; conv => whnf)
    | (refine And.intro (by decide) ?_; conv => whnf)
    | (refine cs (fun _ => ?_) (fun _ => ?_) <;> conv => whnf)
  · rename_i h
    rw [e3 (by simpa using h)]
    exact ⟨rfl, rfl⟩
  · rename_i h
    have c2 := c2 (by simpa using h)
    obtain ⟨kx, namex, argx, numx, tkx, tksx, ukx, uksx, labelx, placex, ksx⟩ := m
    refine c2.mono ?_
    rintro _ _ ⟨rfl, rfl⟩
    conv => whnf
    repeat' first
      | refine AW.seq ?_
      | refine AW.block ?_
      | (refine AW.region tab_ok ?_; conv => whnf)
      | (refine AW.cond ?_; conv => whnf)
      | (refine AW.skip ?_; conv => whnf)
      | (refine AW.ret ?_; conv => whnf)
      | (refine AW.exit ?_; conv => whnf)
      | (refine And.intro (@rfl Val _) ?_; conv => whnf)
      | (refine And.intro (by decide) ?_; conv => whnf)
      | (refine cs (fun _ => ?_) (fun _ => ?_) <;> conv => whnf)
    exact ⟨rfl, rfl⟩
end Go.Proofs.Ytoglfnjankinnaa.E
