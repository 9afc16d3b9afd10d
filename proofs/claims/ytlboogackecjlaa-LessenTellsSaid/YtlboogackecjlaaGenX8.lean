/- Texts, merged: Le1T, On0. No conditions. -/
import Derived.Test.YtlboogackecjlaaGenX5
/- Less annotated terms: the walks with the spots of form T. No conditions. -/
set_option linter.unusedVariables false
set_option linter.unusedSimpArgs false
namespace Go.Proofs.Ytlboogackecjlaa.E
open Go

def leBT : Nat → Bool := fun _ => true
set_option maxRecDepth 10000 in
theorem spot_callT (n : Nat) (hn : n ≤ 1000000) : ACall Try.prog 36 [] [] (fun o σ => o = .ret (.c (.d (.bool (leBT n)))) ∧ σ = []) := by
  refine ACall.body tab_ok (ρ := 0) (N := 1) Try.func36 rfl rfl rfl rfl rfl ?_
  skip
  repeat' first | refine AW.seq ?_ | refine AW.block ?_ | ((first | refine AW.region tab_ok ?_ | refine AW.cond ?_ | refine AW.skip ?_ | refine AW.ret ?_ | refine AW.exit ?_); conv => whnf) | ((first | refine And.intro (@rfl Val _) ?_ | refine And.intro (by decide) ?_ | refine cs (fun _ => ?_) (fun _ => ?_)) <;> conv => whnf)
  exact ⟨rfl, rfl⟩
noncomputable def rest95T : Code := match Try.f62.body with
  | some (.seq _ (.seq _ (.seq _ c))) => c
  | _ => .skip
set_option maxRecDepth 10000 in
theorem walk_restT (k : Int) (ks : List Ty) (g : Bool) (n : Nat) (hle : ks.length ≤ 8192)
    (ih : ∀ (i : Nat) t, ks[i]? = some t → ACall Try.prog 62 [t.val, .c (.fn 36 [] []), .c (.d (.bool g))] [] (fun o σ => o = .ret (walkT leBT g t (n + spNL (ks.take i))).val ∧ σ = [])) :
    AW Try.prog tab 0 rest95T ⟨42, [(3, .c (.ptr 0 0)), (6, .c (.ptr 1 0)), (1, .c (.fn 36 [] [])), (2, .c (.d (.bool g)))], [.var [.d (.int .i8 k), .d (.sl 0 2 (Ty.rows ks))], .var [.d (.int .i8 0), .d .nils]], []⟩
      (afin tab 0 62 [.cell 6 25] 0 (fun o σ => o = .ret (if g = true then Ty.node 0 [] else Ty.node k (walkGs leBT g ks n)).val ∧ σ = [])) := by
  repeat' first | refine AW.seq ?_ | refine AW.block ?_ | (refine (id : AW _ _ _ (.region 8 _ true) _ _ → _) ?_; refine AW.draw (id := 8) tab_ok mixed [0, 1, 2, 3, 4, 5, 6, 7, 8, 9] (by kernel_rfl) ?_; conv => whnf) | ((first | refine AW.region tab_ok ?_ | refine AW.cond ?_ | refine AW.skip ?_ | refine AW.ret ?_ | refine AW.exit ?_); conv => whnf) | ((first | refine And.intro (@rfl Val _) ?_ | refine And.intro (by decide) ?_ | refine cs (fun _ => ?_) (fun _ => ?_)) <;> conv => whnf)
  refine AW.ghost 25 2 2 1 (by decide) rfl rfl ?_
  refine AW.loop (ι := UpTo ks) (fun x => ⟨42, [(25, .c (.d (.int .i64 x.i))), (24, .c (.d (.int .i64 (Ty.rows ks).length))), (23, .c (.d (.sl 0 2 (Ty.rows ks)))), (7, .c (.ptr 2 0)), (3, .c (.ptr 0 0)), (6, .c (.ptr 1 0)), (1, .c (.fn 36 [] [])), (2, .c (.d (.bool g)))],
      [.var [.d (.int .i8 k), .d (.sl 0 2 (Ty.rows ks))], .var [.d (.int .i8 0), .d .nils], .var [.d (.int .i8 k), .own 3 (Ty.rows ((walkGs leBT g ks n).take x.i)).length], .row 25 2 (Ty.rows ((walkGs leBT g ks n).take x.i))], []⟩)
    (fun x => ks.length - x.i) ⟨0, Nat.zero_le _⟩ 4 (fun _ => rfl) (Nat.le_of_ble_eq_true rfl) ⟨⟨rfl, rfl, rfl, rfl, rfl, rfl, rfl, rfl, trivial⟩, rfl, rfl, ⟨[], rfl⟩, rfl⟩ (fun x => ?_)
  obtain ⟨i, hi⟩ := x
  repeat' first | refine AW.seq ?_ | refine AW.block ?_ | (refine (id : AW _ _ _ (.region 8 _ true) _ _ → _) ?_; refine AW.draw (id := 8) tab_ok mixed [0, 1, 2, 3, 4, 5, 6, 7, 8, 9] (by kernel_rfl) ?_; conv => whnf) | ((first | refine AW.region tab_ok ?_ | refine AW.cond ?_ | refine AW.skip ?_ | refine AW.ret ?_ | refine AW.exit ?_); conv => whnf) | ((first | refine And.intro (@rfl Val _) ?_ | refine And.intro (by decide) ?_ | refine cs (fun _ => ?_) (fun _ => ?_)) <;> conv => whnf)
  · rename_i h1
    have h1 : (i : Int) < ((Ty.rows ks).length : Nat) := of_decide_eq_true h1
    refine ⟨⟨by omega, h1⟩, fun row hrow => ?_⟩
    rw [rows_length] at h1
    have hlt : i < ks.length := by omega
    obtain ⟨x, ht, rfl⟩ := rows_get ks i row (by simpa using hrow)
    have hc := ih i x ht
    have hs := spNL_take ks i x ht
    have hw := walkGs_take leBT g ks i n x ht
    have hl := walkGs_len leBT g ks n
    generalize hq : walkT leBT g x (n + spNL (ks.take i)) = q at hc hw
    clear ht hrow hq
    obtain ⟨kx, kxs⟩ := x
    obtain ⟨kq, kqs⟩ := q
    conv => whnf
    repeat' first | refine AW.seq ?_ | refine AW.block ?_ | (refine (id : AW _ _ _ (.region 8 _ true) _ _ → _) ?_; refine AW.draw (id := 8) tab_ok mixed [0, 1, 2, 3, 4, 5, 6, 7, 8, 9] (by kernel_rfl) ?_; conv => whnf) | ((first | refine AW.region tab_ok ?_ | refine AW.cond ?_ | refine AW.skip ?_ | refine AW.ret ?_ | refine AW.exit ?_); conv => whnf) | (refine (hc).mono ?_; rintro _ _ ⟨rfl, rfl⟩; conv => whnf) | ((first | refine And.intro (@rfl Val _) ?_ | refine And.intro (by decide) ?_ | refine cs (fun _ => ?_) (fun _ => ?_)) <;> conv => whnf)
    refine ⟨⟨rfl, ?_, ?_⟩, ?_⟩
    · simp only [rows_length, List.length_take, List.length_cons, List.length_nil]; omega
    · simp only [rows_length, List.length_take, List.length_cons, List.length_nil]; omega
    conv => whnf
    repeat' first | refine AW.seq ?_ | refine AW.block ?_ | (refine (id : AW _ _ _ (.region 8 _ true) _ _ → _) ?_; refine AW.draw (id := 8) tab_ok mixed [0, 1, 2, 3, 4, 5, 6, 7, 8, 9] (by kernel_rfl) ?_; conv => whnf) | ((first | refine AW.region tab_ok ?_ | refine AW.cond ?_ | refine AW.skip ?_ | refine AW.ret ?_ | refine AW.exit ?_); conv => whnf) | ((first | refine And.intro (@rfl Val _) ?_ | refine And.intro (by decide) ?_ | refine cs (fun _ => ?_) (fun _ => ?_)) <;> conv => whnf)
    have e : Ty.rows ((walkGs leBT g ks n).take i) ++ [[.int .i8 kq, .sl 0 2 (Ty.rows kqs)]] = Ty.rows ((walkGs leBT g ks n).take (i + 1)) := by
      rw [hw, rowsL_map ((walkGs leBT g ks n).take i), rowsL_map ((walkGs leBT g ks n).take i ++ _), List.map_append]; rfl
    have el : (Ty.rows ((walkGs leBT g ks n).take i)).length + [[DV.int .i8 kq, .sl 0 2 (Ty.rows kqs)]].length = (Ty.rows ((walkGs leBT g ks n).take (i + 1))).length := by
      rw [← List.length_append, e]
    rw [el, e, wrap64 (x := (i : Int) + 1) (by omega) (by omega)]
    exact ⟨⟨i + 1, hlt⟩, ⟨⟨rfl, rfl, rfl, rfl, rfl, rfl, rfl, rfl, trivial⟩, rfl, rfl, ⟨[_], rfl⟩, rfl⟩, show ks.length - (i + 1) < ks.length - i by omega⟩
  · rename_i h1 h2
    have h1 : ¬ (i : Int) < ((Ty.rows ks).length : Nat) := of_decide_eq_false h1
    rw [rows_length] at h1
    obtain rfl : i = ks.length := by omega
    rw [if_pos h2]
    exact ⟨rfl, rfl⟩
  · rename_i h1 h2
    have h1 : ¬ (i : Int) < ((Ty.rows ks).length : Nat) := of_decide_eq_false h1
    rw [rows_length] at h1
    obtain rfl : i = ks.length := by omega
    rw [if_neg (by simp [h2])]
    have e2 : (walkGs leBT g ks n).take ks.length = walkGs leBT g ks n := List.take_of_length_le (by rw [walkGs_len]; exact Nat.le_refl _)
    simp only [e2]
    first | refine ⟨trivial, ?_⟩ | refine ⟨rfl, ?_⟩
    conv => whnf
    exact ⟨rfl, rfl⟩
set_option maxRecDepth 10000 in
theorem walk_callT (a : Ty) : ∀ (g : Bool) (n : Nat), nodes a ≤ 8192 → n + spN a ≤ 500000 → ACall Try.prog 62 [a.val, .c (.fn 36 [] []), .c (.d (.bool g))] [] (fun o σ => o = .ret (walkT leBT g a n).val ∧ σ = []) := by
  induction a using Ty.ind with
  | _ k ks ih =>
  intro g n ha hn
  have hlk := nodesL_len ks
  simp only [nodes] at ha
  by_cases h0 : k = 0
  · subst h0
    simp only [walkT, spN, if_true, Nat.add_zero]
    clear ih
    refine ACall.body tab_ok (ρ := 0) (N := 42) Try.func62 rfl rfl rfl rfl rfl ?_
    repeat' first | refine AW.seq ?_ | refine AW.block ?_ | (refine (id : AW _ _ _ (.region 8 _ true) _ _ → _) ?_; refine AW.draw (id := 8) tab_ok mixed [0, 1, 2, 3, 4, 5, 6, 7, 8, 9] (by kernel_rfl) ?_; conv => whnf) | ((first | refine AW.region tab_ok ?_ | refine AW.cond ?_ | refine AW.skip ?_ | refine AW.ret ?_ | refine AW.exit ?_); conv => whnf) | ((first | refine And.intro (@rfl Val _) ?_ | refine And.intro (by decide) ?_ | refine cs (fun _ => ?_) (fun _ => ?_)) <;> conv => whnf)
    exact ⟨rfl, rfl⟩
  have b0 : (k == 0) = false := by simpa using h0
  simp only [spN, if_neg h0] at hn
  have sp := spot_callT n (by omega)
  have fin : ∀ (g' : Bool) (env : List (Nat × Val)), (leBT n || g) = g' → get env 3 = .c (.ptr 0 0) → get env 6 = .c (.ptr 1 0) → get env 1 = .c (.fn 36 [] []) → get env 2 = .c (.d (.bool g')) →
      AW Try.prog tab 0 rest95T ⟨42, env, [.var [.d (.int .i8 k), .d (.sl 0 2 (Ty.rows ks))], .var [.d (.int .i8 0), .d .nils]], []⟩
        (afin tab 0 62 Try.f62.results.toList ([] : List AObj).length (fun o σ => o = .ret (walkT leBT g (.node k ks) n).val ∧ σ = [])) := fun g' env hg g1 g2 g3 g4 => by
    have hr := walk_restT k ks g' (n + 1) (by omega) (fun i t ht => by
      have hm := List.mem_of_getElem? ht
      have h1 := nodes_mem ks t hm
      have h2 := spNL_take ks i t ht
      have h3 := spNL_le ks (i + 1)
      exact ih t hm g' (n + 1 + spNL (ks.take i)) (by omega) (by omega))
    have e1 : walkT leBT g (.node k ks) n = (if g' = true then Ty.node 0 [] else Ty.node k (walkGs leBT g' ks (n + 1))) := by
      simp only [walkT, if_neg h0, hg]
      cases g' with
      | true => rfl
      | false => simp [walkGs_false]
    rw [e1]
    refine AW.fits ?_ ?_ hr
    · exact ⟨⟨g1, g2, g3, g4, trivial⟩, rfl, rfl, ⟨[], rfl⟩, rfl⟩
    · rfl
  generalize leBT n = b at sp fin
  generalize walkT leBT g (.node k ks) n = R at fin ⊢
  generalize spN (.node k ks) = S at fin ⊢
  clear ih hlk ha hn
  cases b with
  | true =>
    refine ACall.body tab_ok (ρ := 0) (N := 42) Try.func62 rfl rfl rfl rfl rfl ?_
    repeat' first | (exact fin true _ rfl rfl rfl rfl rfl) | ((refine cs (fun h => absurd h (by rw [b0]; decide)) (fun _ => ?_); conv => whnf)) | refine AW.seq ?_ | refine AW.block ?_ | (refine (id : AW _ _ _ (.region 8 _ true) _ _ → _) ?_; refine AW.draw (id := 8) tab_ok mixed [0, 1, 2, 3, 4, 5, 6, 7, 8, 9] (by kernel_rfl) ?_; conv => whnf) | ((first | refine AW.region tab_ok ?_ | refine AW.cond ?_ | refine AW.skip ?_ | refine AW.ret ?_ | refine AW.exit ?_); conv => whnf) | (refine (sp).mono ?_; rintro _ _ ⟨rfl, rfl⟩; conv => whnf) | ((first | refine And.intro (@rfl Val _) ?_ | refine And.intro (by decide) ?_ | refine cs (fun _ => ?_) (fun _ => ?_)) <;> conv => whnf)
  | false =>
    refine ACall.body tab_ok (ρ := 0) (N := 42) Try.func62 rfl rfl rfl rfl rfl ?_
    repeat' first | (exact fin g _ rfl rfl rfl rfl rfl) | ((refine cs (fun h => absurd h (by rw [b0]; decide)) (fun _ => ?_); conv => whnf)) | refine AW.seq ?_ | refine AW.block ?_ | (refine (id : AW _ _ _ (.region 8 _ true) _ _ → _) ?_; refine AW.draw (id := 8) tab_ok mixed [0, 1, 2, 3, 4, 5, 6, 7, 8, 9] (by kernel_rfl) ?_; conv => whnf) | ((first | refine AW.region tab_ok ?_ | refine AW.cond ?_ | refine AW.skip ?_ | refine AW.ret ?_ | refine AW.exit ?_); conv => whnf) | (refine (sp).mono ?_; rintro _ _ ⟨rfl, rfl⟩; conv => whnf) | ((first | refine And.intro (@rfl Val _) ?_ | refine And.intro (by decide) ?_ | refine cs (fun _ => ?_) (fun _ => ?_)) <;> conv => whnf)
noncomputable def rest54T : Code := match Try.f33.body with
  | some (.seq _ (.seq _ (.seq _ c))) => c
  | _ => .skip
set_option maxRecDepth 10000 in
theorem term_restT (k : Int) (name arg : ByteArray) (num tk : Int) (tks : List Ty) (uk : Int) (uks : List Ty) (label place : Int) (ks : List Tm) (name' arg' : ByteArray) (num' tk' uk' : Int) (tks' uks' : List Ty) (bt bu : Bool) (ms : List Tm) (n : Nat) (hlen : ks.length ≤ 8192) (hms : ms.length = ks.length)
    (hk : ∀ (i : Nat) x, ks[i]? = some x → ∃ m, ms[i]? = some m ∧ ACall Try.prog 33 [.c (.d (.rp 0 x.cells)), .c (.fn 36 [] [])] [] (fun o σ => o = .ret m.val ∧ σ = [])) :
    AW Try.prog tab 0 rest54T ⟨122, [(0, .c (.d (.rp 0 (Tm.node k name arg num tk tks uk uks label place ks).cells))), (4, .c (.ptr 0 0)), (5, .c (.ptr 1 0)), (1, .c (.fn 36 [] []))], [.var [.d (.int .i8 0), .d (.str ⟨#[]⟩), .d (.str ⟨#[]⟩), .d (.int .i64 0), .d (.int .i8 0), .d .nils, .d (.int .i8 0), .d .nils, .d (.int .i64 0), .d (.int .i64 0), .d .nils], .var [.d (.int .i8 k), .d (.str name'), .d (.str arg'), .d (.int .i64 num'), .d (.int .i8 tk'), .d (tcell bt tks'), .d (.int .i8 uk'), .d (tcell bu uks'), .d (.int .i64 0), .d (.int .i64 place), .d .nils]], []⟩
      (afin tab 0 33 [.cell 4 28] 0 (fun o σ => o = .ret (Tm.node k name' arg' num' tk' (if bt then tks' else []) uk' (if bu then uks' else []) 0 place ms).val ∧ σ = [])) := by
  repeat' first | refine AW.seq ?_ | refine AW.block ?_ | (refine (id : AW _ _ _ (.region 1 _ true) _ _ → _) ?_; refine AW.draw (id := 1) tab_ok mixed [0, 1, 2, 3, 4, 5, 6, 7, 8, 9, 10] (by kernel_rfl) ?_; conv => whnf) | (refine (id : AW _ _ _ (.region 10 _ true) _ _ → _) ?_; refine AW.draw (id := 10) tab_ok mixed [0, 1, 2, 3, 4, 5, 6, 7, 8, 10, 9, 11, 12, 13] (by kernel_rfl) ?_; conv => whnf) | (refine (id : AW _ _ _ (.region 12 _ true) _ _ → _) ?_; refine AW.draw (id := 12) tab_ok mixed [0, 1, 2, 3, 4, 5, 6, 7, 8, 9, 10, 11] (by kernel_rfl) ?_; conv => whnf) | (refine (id : AW _ _ _ (.region 16 _ true) _ _ → _) ?_; refine AW.draw (id := 16) tab_ok mixed [0, 1, 2, 3, 4, 5, 6, 7, 8, 9, 10, 11] (by kernel_rfl) ?_; conv => whnf) | (refine (id : AW _ _ _ (.region 24 _ true) _ _ → _) ?_; refine AW.draw (id := 24) tab_ok mixed [0, 1, 2, 3, 4, 5, 6, 7, 8, 9, 10, 11, 12, 13] (by kernel_rfl) ?_; conv => whnf) | ((first | refine AW.region tab_ok ?_ | refine AW.cond ?_ | refine AW.skip ?_ | refine AW.ret ?_ | refine AW.exit ?_); conv => whnf) | ((first | refine And.intro (@rfl Val _) ?_ | refine And.intro (by decide) ?_ | refine cs (fun _ => ?_) (fun _ => ?_)) <;> conv => whnf)
  refine AW.ghost 28 11 1 10 (by decide) rfl rfl ?_
  refine AW.loop (ι := UpToT ks) (fun x => ⟨122, [(104, .c (.d (.int .i64 x.i))), (103, .c (.d (.int .i64 (Tm.rows ks).length))), (0, .c (.d (.rp 0 (Tm.node k name arg num tk tks uk uks label place ks).cells))), (4, .c (.ptr 0 0)), (5, .c (.ptr 1 0)), (1, .c (.fn 36 [] []))],
      [.var [.d (.int .i8 0), .d (.str ⟨#[]⟩), .d (.str ⟨#[]⟩), .d (.int .i64 0), .d (.int .i8 0), .d .nils, .d (.int .i8 0), .d .nils, .d (.int .i64 0), .d (.int .i64 0), .d .nils], .var [.d (.int .i8 k), .d (.str name'), .d (.str arg'), .d (.int .i64 num'), .d (.int .i8 tk'), .d (tcell bt tks'), .d (.int .i8 uk'), .d (tcell bu uks'), .d (.int .i64 0), .d (.int .i64 place), .own 2 (Tm.rows (ms.take x.i)).length], .row 28 11 (Tm.rows (ms.take x.i))], []⟩)
    (fun x => ks.length - x.i) ⟨0, Nat.zero_le _⟩ 3 (fun _ => rfl) (Nat.le_of_ble_eq_true rfl) ⟨⟨rfl, rfl, rfl, rfl, rfl, rfl, trivial⟩, rfl, rfl, ⟨[], rfl⟩, rfl⟩ (fun x => ?_)
  obtain ⟨i, hi⟩ := x
  repeat' first | refine AW.seq ?_ | refine AW.block ?_ | (refine (id : AW _ _ _ (.region 1 _ true) _ _ → _) ?_; refine AW.draw (id := 1) tab_ok mixed [0, 1, 2, 3, 4, 5, 6, 7, 8, 9, 10] (by kernel_rfl) ?_; conv => whnf) | (refine (id : AW _ _ _ (.region 10 _ true) _ _ → _) ?_; refine AW.draw (id := 10) tab_ok mixed [0, 1, 2, 3, 4, 5, 6, 7, 8, 10, 9, 11, 12, 13] (by kernel_rfl) ?_; conv => whnf) | (refine (id : AW _ _ _ (.region 12 _ true) _ _ → _) ?_; refine AW.draw (id := 12) tab_ok mixed [0, 1, 2, 3, 4, 5, 6, 7, 8, 9, 10, 11] (by kernel_rfl) ?_; conv => whnf) | (refine (id : AW _ _ _ (.region 16 _ true) _ _ → _) ?_; refine AW.draw (id := 16) tab_ok mixed [0, 1, 2, 3, 4, 5, 6, 7, 8, 9, 10, 11] (by kernel_rfl) ?_; conv => whnf) | (refine (id : AW _ _ _ (.region 24 _ true) _ _ → _) ?_; refine AW.draw (id := 24) tab_ok mixed [0, 1, 2, 3, 4, 5, 6, 7, 8, 9, 10, 11, 12, 13] (by kernel_rfl) ?_; conv => whnf) | ((first | refine AW.region tab_ok ?_ | refine AW.cond ?_ | refine AW.skip ?_ | refine AW.ret ?_ | refine AW.exit ?_); conv => whnf) | ((first | refine And.intro (@rfl Val _) ?_ | refine And.intro (by decide) ?_ | refine cs (fun _ => ?_) (fun _ => ?_)) <;> conv => whnf)
  · rename_i h1
    have h1 : (i : Int) < ((Tm.rows ks).length : Nat) := of_decide_eq_true h1
    refine ⟨⟨by omega, h1⟩, fun row hrow => ?_⟩
    rw [trows_length] at h1
    have hlt : i < ks.length := by omega
    obtain ⟨x, ht, rfl⟩ := trows_get ks i row (by simpa using hrow)
    obtain ⟨m, hm, hc⟩ := hk i x ht
    have hs := tmSpL_take ks i x ht
    have hmt : ms.take (i + 1) = ms.take i ++ [m] := by rw [List.take_add_one, hm]; rfl
    have e : Tm.rows (ms.take i) ++ [m.cells] = Tm.rows (ms.take (i + 1)) := by
      rw [hmt, trows_map (ms.take i), trows_map (ms.take i ++ _), List.map_append]; rfl
    have el : (Tm.rows (ms.take i)).length + [m.cells].length = (Tm.rows (ms.take (i + 1))).length := by
      rw [← List.length_append, e]
    clear ht hrow hm hmt
    obtain ⟨kx, namex, argx, numx, tkx, tksx, ukx, uksx, labelx, placex, ksx⟩ := m
    conv => whnf
    repeat' first | refine AW.seq ?_ | refine AW.block ?_ | (refine (id : AW _ _ _ (.region 1 _ true) _ _ → _) ?_; refine AW.draw (id := 1) tab_ok mixed [0, 1, 2, 3, 4, 5, 6, 7, 8, 9, 10] (by kernel_rfl) ?_; conv => whnf) | (refine (id : AW _ _ _ (.region 10 _ true) _ _ → _) ?_; refine AW.draw (id := 10) tab_ok mixed [0, 1, 2, 3, 4, 5, 6, 7, 8, 10, 9, 11, 12, 13] (by kernel_rfl) ?_; conv => whnf) | (refine (id : AW _ _ _ (.region 12 _ true) _ _ → _) ?_; refine AW.draw (id := 12) tab_ok mixed [0, 1, 2, 3, 4, 5, 6, 7, 8, 9, 10, 11] (by kernel_rfl) ?_; conv => whnf) | (refine (id : AW _ _ _ (.region 16 _ true) _ _ → _) ?_; refine AW.draw (id := 16) tab_ok mixed [0, 1, 2, 3, 4, 5, 6, 7, 8, 9, 10, 11] (by kernel_rfl) ?_; conv => whnf) | (refine (id : AW _ _ _ (.region 24 _ true) _ _ → _) ?_; refine AW.draw (id := 24) tab_ok mixed [0, 1, 2, 3, 4, 5, 6, 7, 8, 9, 10, 11, 12, 13] (by kernel_rfl) ?_; conv => whnf) | ((first | refine AW.region tab_ok ?_ | refine AW.cond ?_ | refine AW.skip ?_ | refine AW.ret ?_ | refine AW.exit ?_); conv => whnf) | (refine (hc).mono ?_; rintro _ _ ⟨rfl, rfl⟩; conv => whnf) | ((first | refine And.intro (@rfl Val _) ?_ | refine And.intro (by decide) ?_ | refine cs (fun _ => ?_) (fun _ => ?_)) <;> conv => whnf)
    refine ⟨⟨rfl, ?_, ?_⟩, ?_⟩
    · simp only [trows_length, List.length_take, List.length_cons, List.length_nil]; omega
    · simp only [trows_length, List.length_take, List.length_cons, List.length_nil]; omega
    conv => whnf
    repeat' first | refine AW.seq ?_ | refine AW.block ?_ | (refine (id : AW _ _ _ (.region 1 _ true) _ _ → _) ?_; refine AW.draw (id := 1) tab_ok mixed [0, 1, 2, 3, 4, 5, 6, 7, 8, 9, 10] (by kernel_rfl) ?_; conv => whnf) | (refine (id : AW _ _ _ (.region 10 _ true) _ _ → _) ?_; refine AW.draw (id := 10) tab_ok mixed [0, 1, 2, 3, 4, 5, 6, 7, 8, 10, 9, 11, 12, 13] (by kernel_rfl) ?_; conv => whnf) | (refine (id : AW _ _ _ (.region 12 _ true) _ _ → _) ?_; refine AW.draw (id := 12) tab_ok mixed [0, 1, 2, 3, 4, 5, 6, 7, 8, 9, 10, 11] (by kernel_rfl) ?_; conv => whnf) | (refine (id : AW _ _ _ (.region 16 _ true) _ _ → _) ?_; refine AW.draw (id := 16) tab_ok mixed [0, 1, 2, 3, 4, 5, 6, 7, 8, 9, 10, 11] (by kernel_rfl) ?_; conv => whnf) | (refine (id : AW _ _ _ (.region 24 _ true) _ _ → _) ?_; refine AW.draw (id := 24) tab_ok mixed [0, 1, 2, 3, 4, 5, 6, 7, 8, 9, 10, 11, 12, 13] (by kernel_rfl) ?_; conv => whnf) | ((first | refine AW.region tab_ok ?_ | refine AW.cond ?_ | refine AW.skip ?_ | refine AW.ret ?_ | refine AW.exit ?_); conv => whnf) | ((first | refine And.intro (@rfl Val _) ?_ | refine And.intro (by decide) ?_ | refine cs (fun _ => ?_) (fun _ => ?_)) <;> conv => whnf)
    simp only [Tm.cells] at e el
    rw [el, e, wrap64 (x := (i : Int) + 1) (by omega) (by omega)]
    exact ⟨⟨i + 1, hlt⟩, ⟨⟨rfl, rfl, rfl, rfl, rfl, rfl, trivial⟩, rfl, rfl, ⟨[], rfl⟩, rfl⟩, show ks.length - (i + 1) < ks.length - i by omega⟩
  · rename_i h1
    have h1 : ¬ (i : Int) < ((Tm.rows ks).length : Nat) := of_decide_eq_false h1
    rw [trows_length] at h1
    obtain rfl : i = ks.length := by omega
    have e : ms.take ks.length = ms := List.take_of_length_le (by omega)
    simp only [e]
    cases bt <;> cases bu
    all_goals
      first | refine ⟨trivial, ?_⟩ | refine ⟨rfl, ?_⟩
      conv => whnf
      first | exact ⟨rfl, rfl⟩ | exact ⟨rfl, trivial⟩ | (simp; rfl)
set_option maxRecDepth 10000 in
set_option maxHeartbeats 4000000 in
theorem term_callT (a : Tm) : ∀ (n : Nat), tmN a ≤ 8192 → tmright a = true → tmhas 17 a = false → n + tmSp a ≤ 400000 → ACall Try.prog 33 [.c (.d (.rp 0 a.cells)), .c (.fn 36 [] [])] [] (fun o σ => o = .ret (leT leBT a n).val ∧ σ = []) := by
  induction a using Tm.ind with
  | _ k name arg num tk tks uk uks label place ks ih =>
  intro n hN ha h17 hn
  have hlen := tmNL_len ks
  have hv := tmright_valid ha
  have hk17 : k ≠ 17 := fun e => by subst e; simp [tmhas] at h17
  simp only [tmN] at hN
  simp only [tmSp] at hn
  have ih' : ∀ (n' : Nat), n' + tmSpL ks ≤ 400000 → ∀ (i : Nat) x, ks[i]? = some x → ∃ m, (leTs leBT ks n')[i]? = some m ∧ ACall Try.prog 33 [.c (.d (.rp 0 x.cells)), .c (.fn 36 [] [])] [] (fun o σ => o = .ret m.val ∧ σ = []) := fun n' hn' i x hx => by
    have hm := List.mem_of_getElem? hx
    have h1 := tmN_mem ks x hm
    have h2 := tmSpL_take ks i x hx
    have h3 := tmSpL_le ks (i + 1)
    exact ⟨_, leTs_get leBT ks i n' x hx, ih x hm _ (by omega) (tmright_kid ha hm) (tmhas_kid h17 hm) (by omega)⟩
  have n1 : typeK k = true → nodes (.node tk tks) ≤ 8192 := fun h => by rw [if_pos h] at hN; omega
  have n2 : toK k = true → nodes (.node uk uks) ≤ 8192 := fun h => by rw [if_pos h] at hN; omega
  have t1 : fromA k = true → typeK k = true := fun h => by simp [fromA] at h; simp [typeK]; omega
  have t2 : k = 5 → toK k = true := fun h => by subst h; rfl
  have s1 : fromA k = true → spN (.node tk tks) ≤ ownSp k tk tks uk uks := fun h => by simp only [ownSp, if_pos h]; omega
  have s2 : k = 5 → spN (.node tk tks) + spN (.node uk uks) ≤ ownSp k tk tks uk uks := fun h => by subst h; simp only [ownSp]; simp [fromA]
  have w1 : fromA k = true → ACall Try.prog 62 [(Ty.node tk tks).val, .c (.fn 36 [] []), .c (.d (.bool false))] [] (fun o σ => o = .ret (walkT leBT false (.node tk tks) n).val ∧ σ = []) := fun h => walk_callT _ false n (n1 (t1 h)) (by have := s1 h; omega)
  have w2 : k = 5 → ACall Try.prog 62 [(Ty.node uk uks).val, .c (.fn 36 [] []), .c (.d (.bool false))] [] (fun o σ => o = .ret (walkT leBT false (.node uk uks) (n + spN (.node tk tks))).val ∧ σ = []) := fun h => walk_callT _ false _ (n2 (t2 h)) (by have := s2 h; omega)
  have hle : leT leBT (.node k name arg num tk tks uk uks label place ks) n = .node k (if nameK k || decide (k = 15) then name else ⟨#[]⟩) (if argK k then arg else ⟨#[]⟩) (if k = 1 then num else 0)
      (if fromA k then tyK (walkT leBT false (.node tk tks) n) else 0) (if fromA k then tyKs (walkT leBT false (.node tk tks) n) else [])
      (if k = 5 then tyK (walkT leBT false (.node uk uks) (n + spN (.node tk tks))) else 0) (if k = 5 then tyKs (walkT leBT false (.node uk uks) (n + spN (.node tk tks))) else [])
      0 place (leTs leBT ks (n + ownSp k tk tks uk uks)) := by simp only [leT]
  have fin : ∀ (bt bu : Bool) (name' arg' : ByteArray) (num' tk' uk' : Int) (tks' uks' : List Ty) (n' : Nat) (env : List (Nat × Val)), leT leBT (.node k name arg num tk tks uk uks label place ks) n = .node k name' arg' num' tk' (if bt then tks' else []) uk' (if bu then uks' else []) 0 place (leTs leBT ks (n + ownSp k tk tks uk uks)) → n' = n + ownSp k tk tks uk uks →
      get env 0 = .c (.d (.rp 0 (Tm.node k name arg num tk tks uk uks label place ks).cells)) → get env 4 = .c (.ptr 0 0) → get env 5 = .c (.ptr 1 0) → get env 1 = .c (.fn 36 [] []) →
      AW Try.prog tab 0 rest54T ⟨122, env, [.var [.d (.int .i8 0), .d (.str ⟨#[]⟩), .d (.str ⟨#[]⟩), .d (.int .i64 0), .d (.int .i8 0), .d .nils, .d (.int .i8 0), .d .nils, .d (.int .i64 0), .d (.int .i64 0), .d .nils], .var [.d (.int .i8 k), .d (.str name'), .d (.str arg'), .d (.int .i64 num'), .d (.int .i8 tk'), .d (tcell bt tks'), .d (.int .i8 uk'), .d (tcell bu uks'), .d (.int .i64 0), .d (.int .i64 place), .d .nils]], []⟩
        (afin tab 0 33 Try.f33.results.toList ([] : List AObj).length (fun o σ => o = .ret (leT leBT (.node k name arg num tk tks uk uks label place ks) n).val ∧ σ = [])) := fun bt bu name' arg' num' tk' uk' tks' uks' n' env e en g0 g4 g5 g1 => by
    have hr := term_restT k name arg num tk tks uk uks label place ks name' arg' num' tk' uk' tks' uks' bt bu (leTs leBT ks n') n' (by omega) (leTs_len _ _ _) (ih' n' (by omega))
    subst en
    rw [e]
    refine AW.fits ?_ ?_ hr
    · exact ⟨⟨g0, g4, g5, g1, trivial⟩, rfl, rfl, ⟨[], rfl⟩, rfl⟩
    · rfl
  rw [hle] at fin
  have e1 : fromA k = true → k ≠ 5 → n + spN (.node tk tks) = n + ownSp k tk tks uk uks := fun h h' => by simp only [ownSp, if_pos h, if_neg h']; omega
  have e2 : k = 5 → n + spN (.node tk tks) + spN (.node uk uks) = n + ownSp k tk tks uk uks := fun h => by subst h; simp only [ownSp]; simp [fromA]; omega
  have e0 : fromA k = false → n = n + ownSp k tk tks uk uks := fun h => by
    have : k ≠ 5 := fun e => by subst e; simp [fromA] at h
    simp only [ownSp, h, if_neg this]; simp
  rw [hle]
  generalize walkT leBT false (.node tk tks) n = W1 at w1 fin ⊢
  generalize walkT leBT false (.node uk uks) (n + spN (.node tk tks)) = W2 at w2 fin ⊢
  generalize leTs leBT ks (n + ownSp k tk tks uk uks) = LS at fin ⊢
  generalize tmSp (.node k name arg num tk tks uk uks label place ks) = SP at fin ⊢
  generalize n + ownSp k tk tks uk uks = N1 at fin e0 e1 e2
  clear ih ih' ha hlen hN n1 n2 h17 hn hle t1 t2 s1 s2
  obtain ⟨w1k, w1s⟩ := W1
  obtain ⟨w2k, w2s⟩ := W2
  simp only [tyK, tyKs] at fin ⊢
  rcases kinds k hv with rfl | rfl | rfl | rfl | rfl | rfl | rfl | rfl | rfl | rfl | rfl | rfl | rfl | rfl | rfl | rfl | rfl | rfl
  all_goals first | exact absurd rfl hk17 | skip
  all_goals
    refine ACall.body tab_ok (ρ := 0) (N := 122) Try.func33 rfl rfl rfl rfl rfl ?_
    repeat' first | (exact fin false false _ _ _ _ _ [] [] _ _ rfl (e0 rfl) rfl rfl rfl rfl) | (exact fin true false _ _ _ _ _ _ [] _ _ rfl (e1 rfl (by decide)) rfl rfl rfl rfl) | (exact fin true true _ _ _ _ _ _ _ _ _ rfl (e2 rfl) rfl rfl rfl rfl) | refine AW.seq ?_ | refine AW.block ?_ | (refine (id : AW _ _ _ (.region 1 _ true) _ _ → _) ?_; refine AW.draw (id := 1) tab_ok mixed [0, 1, 2, 3, 4, 5, 6, 7, 8, 9, 10] (by kernel_rfl) ?_; conv => whnf) | (refine (id : AW _ _ _ (.region 10 _ true) _ _ → _) ?_; refine AW.draw (id := 10) tab_ok mixed [0, 1, 2, 3, 4, 5, 6, 7, 8, 10, 9, 11, 12, 13] (by kernel_rfl) ?_; conv => whnf) | (refine (id : AW _ _ _ (.region 12 _ true) _ _ → _) ?_; refine AW.draw (id := 12) tab_ok mixed [0, 1, 2, 3, 4, 5, 6, 7, 8, 9, 10, 11] (by kernel_rfl) ?_; conv => whnf) | (refine (id : AW _ _ _ (.region 16 _ true) _ _ → _) ?_; refine AW.draw (id := 16) tab_ok mixed [0, 1, 2, 3, 4, 5, 6, 7, 8, 9, 10, 11] (by kernel_rfl) ?_; conv => whnf) | (refine (id : AW _ _ _ (.region 24 _ true) _ _ → _) ?_; refine AW.draw (id := 24) tab_ok mixed [0, 1, 2, 3, 4, 5, 6, 7, 8, 9, 10, 11, 12, 13] (by kernel_rfl) ?_; conv => whnf) | ((first | refine AW.region tab_ok ?_ | refine AW.cond ?_ | refine AW.skip ?_ | refine AW.ret ?_ | refine AW.exit ?_); conv => whnf) | ((first | refine (w1 rfl).mono ?_ | refine (w2 rfl).mono ?_); rintro _ _ ⟨rfl, rfl⟩; conv => whnf) | ((first | refine And.intro (@rfl Val _) ?_ | refine And.intro (by decide) ?_ | refine cs (fun _ => ?_) (fun _ => ?_)) <;> conv => whnf)
end Go.Proofs.Ytlboogackecjlaa.E

/- Small facts of terms. No conditions. -/
set_option linter.unusedVariables false
set_option linter.unusedSimpArgs false
namespace Go.Proofs.Ytlboogackecjlaa.E
open Go

def tm0 : Tm := .node 0 ⟨#[]⟩ ⟨#[]⟩ 0 0 [] 0 [] 0 0 []
end Go.Proofs.Ytlboogackecjlaa.E
