/- Texts, merged: Ls2, Pu1, Pu2, Pu3, Sp1. No conditions. -/
import Derived.Test.YtlboogackecjlaaGenX10
import Derived.Test.YtlboogackecjlaaGenX5
import Derived.Test.YtlboogackecjlaaEngX3
/- The document's answer for lessen: ref22.lessened, At, All. No conditions. -/
set_option linter.unusedVariables false
set_option linter.unusedSimpArgs false
namespace Go.Proofs.Ytlboogackecjlaa.E
open Go

noncomputable def restRL : Code := match Try.f35.body with
  | some (.seq _ (.seq _ (.seq _ (.seq _ c)))) => c
  | _ => .skip
set_option maxRecDepth 10000 in
theorem rless_rest (l : List Int) (k : Int) (name arg : ByteArray) (num tk : Int) (tks : List Ty) (uk : Int) (uks : List Ty) (label place : Int) (ks : List Tm) (name' arg' : ByteArray) (num' tk' uk' : Int) (tks' uks' : List Ty) (ms : List Tm) (n : Nat) (hn : n + tmSpL ks ≤ 400000) (hlen : ks.length ≤ 8192) (hms : ms.length = ks.length)
    (hcnt : ∀ (i : Nat) x, ks[i]? = some x → ACall Try.prog 32 [x.val] [] (fun o σ => o = .ret (.c (.d (.int .i64 (tmSp x : Nat)))) ∧ σ = []))
    (hk : ∀ (i : Nat) x, ks[i]? = some x → ∃ m, ms[i]? = some m ∧ ACall Try.prog 35 [x.val, .c (.d (.sl 0 1 (ints l))), .c (.d (.int .i64 ((n + tmSpL (ks.take i) : Nat) : Int)))] [] (fun o σ => o = .ret m.val ∧ σ = [])) :
    AW Try.prog tab 0 restRL ⟨68, [(1, .c (.d (.sl 0 1 (ints l)))), (2, .c (.d (.int .i64 (n : Nat)))), (3, .c (.ptr 0 0)), (6, .c (.ptr 1 0)), (7, .c (.ptr 2 0))], [.var ((Tm.node k name arg num tk tks uk uks label place ks).cells.map .d), .var [.d (.int .i8 0), .d (.str ⟨#[]⟩), .d (.str ⟨#[]⟩), .d (.int .i64 0), .d (.int .i8 0), .d .nils, .d (.int .i8 0), .d .nils, .d (.int .i64 0), .d (.int .i64 0), .d .nils], .var [.d (.int .i8 k), .d (.str name'), .d (.str arg'), .d (.int .i64 num'), .d (.int .i8 tk'), .d (.sl 0 2 (Ty.rows tks')), .d (.int .i8 uk'), .d (.sl 0 2 (Ty.rows uks')), .d (.int .i64 0), .d (.int .i64 place), .d .nils]], []⟩
      (afin tab 0 35 [.cell 6 28] 0 (fun o σ => o = .ret (Tm.node k name' arg' num' tk' tks' uk' uks' 0 place ms).val ∧ σ = [])) := by
  repeat' first | refine AW.seq ?_ | refine AW.block ?_ | (refine (id : AW _ _ _ (.region 11 _ true) _ _ → _) ?_; refine AW.draw (id := 11) tab_ok mixed [0, 1, 2, 3, 4, 5, 6, 7, 8, 9, 10, 11, 12, 13] (by kernel_rfl) ?_; conv => whnf) | ((first | refine AW.region tab_ok ?_ | refine AW.cond ?_ | refine AW.skip ?_ | refine AW.ret ?_ | refine AW.exit ?_); conv => whnf) | ((first | refine And.intro (@rfl Val _) ?_ | refine And.intro (by decide) ?_ | refine cs (fun _ => ?_) (fun _ => ?_)) <;> conv => whnf)
  refine AW.ghost 28 11 2 10 (by decide) rfl rfl ?_
  refine AW.loop (ι := UpToT ks) (fun x => ⟨68, [(8, .c (.d (.int .i64 x.i))), (1, .c (.d (.sl 0 1 (ints l)))), (2, .c (.d (.int .i64 ((n + tmSpL (ks.take x.i) : Nat) : Int)))), (3, .c (.ptr 0 0)), (6, .c (.ptr 1 0)), (7, .c (.ptr 2 0))],
      [.var ((Tm.node k name arg num tk tks uk uks label place ks).cells.map .d), .var [.d (.int .i8 0), .d (.str ⟨#[]⟩), .d (.str ⟨#[]⟩), .d (.int .i64 0), .d (.int .i8 0), .d .nils, .d (.int .i8 0), .d .nils, .d (.int .i64 0), .d (.int .i64 0), .d .nils], .var [.d (.int .i8 k), .d (.str name'), .d (.str arg'), .d (.int .i64 num'), .d (.int .i8 tk'), .d (.sl 0 2 (Ty.rows tks')), .d (.int .i8 uk'), .d (.sl 0 2 (Ty.rows uks')), .d (.int .i64 0), .d (.int .i64 place), .own 3 (Tm.rows (ms.take x.i)).length], .row 28 11 (Tm.rows (ms.take x.i))], []⟩)
    (fun x => ks.length - x.i) ⟨0, Nat.zero_le _⟩ 4 (fun _ => rfl) (Nat.le_of_ble_eq_true rfl) ⟨⟨rfl, rfl, rfl, rfl, rfl, rfl, trivial⟩, rfl, rfl, ⟨[], rfl⟩, rfl⟩ (fun x => ?_)
  obtain ⟨i, hi⟩ := x
  repeat' first | refine AW.seq ?_ | refine AW.block ?_ | (refine (id : AW _ _ _ (.region 11 _ true) _ _ → _) ?_; refine AW.draw (id := 11) tab_ok mixed [0, 1, 2, 3, 4, 5, 6, 7, 8, 9, 10, 11, 12, 13] (by kernel_rfl) ?_; conv => whnf) | ((first | refine AW.region tab_ok ?_ | refine AW.cond ?_ | refine AW.skip ?_ | refine AW.ret ?_ | refine AW.exit ?_); conv => whnf) | ((first | refine And.intro (@rfl Val _) ?_ | refine And.intro (by decide) ?_ | refine cs (fun _ => ?_) (fun _ => ?_)) <;> conv => whnf)
  · rename_i h1
    have h1 : (i : Int) < ((Tm.rows ks).length : Nat) := of_decide_eq_true h1
    rw [trows_length] at h1
    have hlt : i < ks.length := by omega
    obtain ⟨x, ht⟩ : ∃ x, ks[i]? = some x := ⟨_, List.getElem?_eq_getElem hlt⟩
    obtain ⟨m, hm, hc⟩ := hk i x ht
    have hsc := hcnt i x ht
    have hs := tmSpL_take ks i x ht
    have hs2 := tmSpL_le ks (i + 1)
    have hmt : ms.take (i + 1) = ms.take i ++ [m] := by rw [List.take_add_one, hm]; rfl
    have e : Tm.rows (ms.take i) ++ [m.cells] = Tm.rows (ms.take (i + 1)) := by
      rw [hmt, trows_map (ms.take i), trows_map (ms.take i ++ _), List.map_append]; rfl
    have el : (Tm.rows (ms.take i)).length + [m.cells].length = (Tm.rows (ms.take (i + 1))).length := by
      rw [← List.length_append, e]
    have f1 : (0 : Int) ≤ (i : Int) ∧ (i : Int) < ((Tm.rows ks).length : Nat) := by rw [trows_length]; omega
    have er : ∀ row, (Tm.rows ks)[(i : Int).toNat]? = some row → x.cells = row := fun row h => by
      obtain ⟨y, hy, rfl⟩ := trows_get ks i row h
      rw [ht] at hy; cases hy; rfl
    generalize tmSp x = sx at *
    clear ht hm hmt hk hcnt
    obtain ⟨kx, namex, argx, numx, tkx, tksx, ukx, uksx, labelx, placex, ksx⟩ := m
    obtain ⟨ky, namey, argy, numy, tky, tksy, uky, uksy, labely, placey, ksy⟩ := x
    conv => whnf
    repeat' first | ((refine ⟨f1, fun row hrow => ?_⟩; obtain rfl := er row hrow; conv => whnf)) | ((refine ⟨⟨rfl, by (simp only [trows_length, List.length_take, List.length_cons, List.length_nil]; omega), by (simp only [trows_length, List.length_take, List.length_cons, List.length_nil]; omega)⟩, ?_⟩; conv => whnf)) | refine AW.seq ?_ | refine AW.block ?_ | (refine (id : AW _ _ _ (.region 11 _ true) _ _ → _) ?_; refine AW.draw (id := 11) tab_ok mixed [0, 1, 2, 3, 4, 5, 6, 7, 8, 9, 10, 11, 12, 13] (by kernel_rfl) ?_; conv => whnf) | ((first | refine AW.region tab_ok ?_ | refine AW.cond ?_ | refine AW.skip ?_ | refine AW.ret ?_ | refine AW.exit ?_); conv => whnf) | ((first | refine (hc).mono ?_ | refine (hsc).mono ?_); rintro _ _ ⟨rfl, rfl⟩; conv => whnf) | ((first | refine And.intro (@rfl Val _) ?_ | refine And.intro (by decide) ?_ | refine cs (fun _ => ?_) (fun _ => ?_)) <;> conv => whnf)
    simp only [Tm.cells] at e el
    rw [el, e, wrap64 (x := (i : Int) + 1) (by omega) (by omega), wrap64 (x := ((n + tmSpL (ks.take i) : Nat) : Int) + (sx : Int)) (by omega) (by omega), show ((n + tmSpL (ks.take i) : Nat) : Int) + (sx : Int) = ((n + tmSpL (ks.take (i + 1)) : Nat) : Int) by rw [hs]; omega]
    exact ⟨⟨i + 1, hlt⟩, ⟨⟨rfl, rfl, rfl, rfl, rfl, rfl, trivial⟩, rfl, rfl, ⟨[], rfl⟩, rfl⟩, show ks.length - (i + 1) < ks.length - i by omega⟩
  · rename_i h1
    have h1 : ¬ (i : Int) < ((Tm.rows ks).length : Nat) := of_decide_eq_false h1
    rw [trows_length] at h1
    obtain rfl : i = ks.length := by omega
    have e : ms.take ks.length = ms := List.take_of_length_le (by omega)
    simp only [e, List.take_length]
    first | refine ⟨trivial, ?_⟩ | refine ⟨rfl, ?_⟩
    conv => whnf
    first | exact ⟨rfl, rfl⟩ | exact ⟨rfl, trivial⟩ | (simp; rfl)
set_option maxRecDepth 10000 in
set_option maxHeartbeats 4000000 in
theorem rlessened_call (l : List Int) (hl : l.length ≤ 100000) (t : Tm) : ∀ n : Nat, tmN t ≤ 8192 → tmright t = true → tmhas 17 t = false → n + tmSp t ≤ 400000 → ACall Try.prog 35 [t.val, .c (.d (.sl 0 1 (ints l))), .c (.d (.int .i64 (n : Nat)))] [] (fun o σ => o = .ret (leT (atB l) t n).val ∧ σ = []) := by
  induction t using Tm.ind with
  | _ k name arg num tk tks uk uks label place ks ih =>
  intro n hN ha h17 hn
  have hlen := tmNL_len ks
  have hv := tmright_valid ha
  have hk17 := not17 h17
  simp only [tmN] at hN
  simp only [tmSp] at hn
  rw [ownSp_if hk17] at hn
  have hcnt : ∀ (i : Nat) x, ks[i]? = some x → ACall Try.prog 32 [x.val] [] (fun o σ => o = .ret (.c (.d (.int .i64 (tmSp x : Nat)))) ∧ σ = []) := fun i x hx => by
    have hm := List.mem_of_getElem? hx
    have h1 := tmN_mem ks x hm
    exact rcounted_call x (by omega) (tmhas_kid h17 hm)
  have ih' : ∀ (n' : Nat), n' + tmSpL ks ≤ 400000 → ∀ (i : Nat) x, ks[i]? = some x → ∃ m, (leTs (atB l) ks n')[i]? = some m ∧ ACall Try.prog 35 [x.val, .c (.d (.sl 0 1 (ints l))), .c (.d (.int .i64 ((n' + tmSpL (ks.take i) : Nat) : Int)))] [] (fun o σ => o = .ret m.val ∧ σ = []) := fun n' hn' i x hx => by
    have hm := List.mem_of_getElem? hx
    have h1 := tmN_mem ks x hm
    have h2 := tmSpL_take ks i x hx
    have h3 := tmSpL_le ks (i + 1)
    exact ⟨_, leTs_get (atB l) ks i n' x hx, ih x hm _ (by omega) (tmright_kid ha hm) (tmhas_kid h17 hm) (by omega)⟩
  have n1 : typeK k = true → nodes (.node tk tks) ≤ 8192 := fun h => by rw [if_pos h] at hN; omega
  have n2 : toK k = true → nodes (.node uk uks) ≤ 8192 := fun h => by rw [if_pos h] at hN; omega
  have t2 : toK k = true → typeK k = true := fun h => by simp [toK] at h; simp [typeK]; omega
  have w1 : typeK k = true → ACall Try.prog 64 [(Ty.node tk tks).val, .c (.d (.sl 0 1 (ints l))), .c (.d (.int .i64 (n : Nat)))] [] (fun o σ => o = .ret (walkT (atB l) false (.node tk tks) n).val ∧ σ = []) := fun h => ropened_call l hl _ n (n1 h) (by rw [if_pos h] at hn; omega)
  have w2 : toK k = true → ACall Try.prog 64 [(Ty.node uk uks).val, .c (.d (.sl 0 1 (ints l))), .c (.d (.int .i64 ((n + spN (.node tk tks) : Nat) : Int)))] [] (fun o σ => o = .ret (walkT (atB l) false (.node uk uks) (n + spN (.node tk tks))).val ∧ σ = []) := fun h => ropened_call l hl _ _ (n2 h) (by rw [if_pos h, if_pos (t2 h)] at hn; omega)
  have s1 : typeK k = true → ACall Try.prog 60 [(Ty.node tk tks).val] [] (fun o σ => o = .ret (.c (.d (.int .i64 (spN (.node tk tks) : Nat)))) ∧ σ = []) := fun h => rspots_call _ (n1 h)
  have s2 : toK k = true → ACall Try.prog 60 [(Ty.node uk uks).val] [] (fun o σ => o = .ret (.c (.d (.int .i64 (spN (.node uk uks) : Nat)))) ∧ σ = []) := fun h => rspots_call _ (n2 h)
  have c1 := rhasType_call k
  have c2 := rhasTo_call k
  have c3 := counting_call k name arg num tk tks uk uks label place ks hv
  have hz : (if decide (k = 17) then label else 0) = 0 := by simp [hk17]
  rw [hz] at c3
  have hle : leT (atB l) (.node k name arg num tk tks uk uks label place ks) n = .node k (if nameK k || decide (k = 15) then name else ⟨#[]⟩) (if argK k then arg else ⟨#[]⟩) (if decide (k = 1) then num else 0)
      (if typeK k = true then tyK (walkT (atB l) false (.node tk tks) n) else 0) (if typeK k = true then tyKs (walkT (atB l) false (.node tk tks) n) else [])
      (if toK k = true then tyK (walkT (atB l) false (.node uk uks) (n + spN (.node tk tks))) else 0) (if toK k = true then tyKs (walkT (atB l) false (.node uk uks) (n + spN (.node tk tks))) else [])
      0 place (leTs (atB l) ks (n + ((if typeK k = true then spN (.node tk tks) else 0) + (if toK k = true then spN (.node uk uks) else 0)))) := by
    simp only [leT, fromA_type hk17, toA_to hk17, ownSp_if hk17, decide_eq_true_eq]
  have fin : ∀ (name' arg' : ByteArray) (num' tk' uk' : Int) (tks' uks' : List Ty) (n' : Nat) (env : List (Nat × Val)), leT (atB l) (.node k name arg num tk tks uk uks label place ks) n = .node k name' arg' num' tk' tks' uk' uks' 0 place (leTs (atB l) ks n') → n' = n + ((if typeK k = true then spN (.node tk tks) else 0) + (if toK k = true then spN (.node uk uks) else 0)) →
      get env 1 = .c (.d (.sl 0 1 (ints l))) → get env 2 = .c (.d (.int .i64 (n' : Nat))) → get env 3 = .c (.ptr 0 0) → get env 6 = .c (.ptr 1 0) → get env 7 = .c (.ptr 2 0) →
      AW Try.prog tab 0 restRL ⟨68, env, [.var ((Tm.node k name arg num tk tks uk uks label place ks).cells.map .d), .var [.d (.int .i8 0), .d (.str ⟨#[]⟩), .d (.str ⟨#[]⟩), .d (.int .i64 0), .d (.int .i8 0), .d .nils, .d (.int .i8 0), .d .nils, .d (.int .i64 0), .d (.int .i64 0), .d .nils], .var [.d (.int .i8 k), .d (.str name'), .d (.str arg'), .d (.int .i64 num'), .d (.int .i8 tk'), .d (.sl 0 2 (Ty.rows tks')), .d (.int .i8 uk'), .d (.sl 0 2 (Ty.rows uks')), .d (.int .i64 0), .d (.int .i64 place), .d .nils]], []⟩
        (afin tab 0 35 Try.f35.results.toList ([] : List AObj).length (fun o σ => o = .ret (leT (atB l) (.node k name arg num tk tks uk uks label place ks) n).val ∧ σ = [])) := fun name' arg' num' tk' uk' tks' uks' n' env e en g1 g2 g3 g6 g7 => by
    have hr := rless_rest l k name arg num tk tks uk uks label place ks name' arg' num' tk' uk' tks' uks' (leTs (atB l) ks n') n' (by omega) (by omega) (leTs_len _ _ _) hcnt (ih' n' (by omega))
    rw [e]
    refine AW.fits ?_ ?_ hr
    · exact ⟨⟨g1, g2, g3, g6, g7, trivial⟩, rfl, rfl, ⟨[], rfl⟩, rfl⟩
    · rfl
  have hsum : n + ((if typeK k = true then spN (.node tk tks) else 0) + (if toK k = true then spN (.node uk uks) else 0)) ≤ 400000 := by omega
  rw [hle] at fin ⊢
  clear ih ih' hcnt ha hlen hN n1 n2 h17 hle hz hv hn
  generalize walkT (atB l) false (.node tk tks) n = W1 at w1 fin ⊢
  generalize walkT (atB l) false (.node uk uks) (n + spN (.node tk tks)) = W2 at w2 fin ⊢
  generalize spN (.node tk tks) = m1 at *
  generalize spN (.node uk uks) = m2 at *
  generalize (if nameK k || decide (k = 15) then name else ⟨#[]⟩) = nm at *
  generalize (if argK k then arg else ⟨#[]⟩) = ar at *
  generalize (if decide (k = 1) then num else 0) = nu at *
  generalize leTs (atB l) ks = LS at fin ⊢
  generalize typeK k = b1 at *
  generalize toK k = b2 at *
  obtain ⟨w1k, w1s⟩ := W1
  obtain ⟨w2k, w2s⟩ := W2
  simp only [tyK, tyKs] at fin ⊢
  have e1 : n + m1 ≤ 400000 → IntKind.i64.wrap ((n : Int) + (m1 : Int)) = ((n + m1 : Nat) : Int) := fun _ => by rw [wrap64 (by omega) (by omega)]; rfl
  have e2 : n + m1 + m2 ≤ 400000 → IntKind.i64.wrap (((n + m1 : Nat) : Int) + (m2 : Int)) = ((n + m1 + m2 : Nat) : Int) := fun _ => by rw [wrap64 (by omega) (by omega)]; rfl
  cases b1 <;> cases b2
  all_goals simp only [if_true, if_false, Bool.false_eq_true, Nat.zero_add, Nat.add_zero] at hsum fin c3 ⊢
  all_goals first | exact absurd (t2 rfl) (by decide) | skip
  all_goals
    refine ACall.body tab_ok (ρ := 0) (N := 68) Try.func35 rfl rfl rfl rfl rfl ?_
    repeat' first | ((refine fin _ _ _ _ _ _ _ _ _ ?_ ?_ rfl rfl rfl rfl rfl)) | ((rw [e1 (by omega)])) | ((rw [e2 (by omega)])) | refine AW.seq ?_ | refine AW.block ?_ | (refine (id : AW _ _ _ (.region 11 _ true) _ _ → _) ?_; refine AW.draw (id := 11) tab_ok mixed [0, 1, 2, 3, 4, 5, 6, 7, 8, 9, 10, 11, 12, 13] (by kernel_rfl) ?_; conv => whnf) | ((first | refine AW.region tab_ok ?_ | refine AW.cond ?_ | refine AW.skip ?_ | refine AW.ret ?_ | refine AW.exit ?_); conv => whnf) | ((first | refine (c1).mono ?_ | refine (c2).mono ?_ | refine (c3).mono ?_ | refine (w1 rfl).mono ?_ | refine (w2 rfl).mono ?_ | refine (s1 rfl).mono ?_ | refine (s2 rfl).mono ?_); rintro _ _ ⟨rfl, rfl⟩; conv => whnf) | ((first | refine And.intro (@rfl Val _) ?_ | refine And.intro (by decide) ?_ | refine cs (fun _ => ?_) (fun _ => ?_)) <;> conv => whnf)
  all_goals clear fin w1 w2 s1 s2
  all_goals first | rfl | omega | (simp only [Nat.add_assoc]; done)
set_option maxRecDepth 10000 in
theorem RAt_call (t : Tm) (l : List Int) (hl : l.length ≤ 100000) : ACall Try.prog 10 [t.val, .c (.d (.sl 0 1 (ints l)))] [] (fun o σ => o = .ret (.tup [(atT t l).val, .c (.d (.int .i64 (atE t l)))]) ∧ σ = []) := by
  have c1 := RSoundL_call t
  by_cases h : soundE t = 0
  · obtain ⟨h1, h2⟩ := sound_ok h
    obtain ⟨h3, h4⟩ := tmcheck_ok h1
    have c2 := rcounted_call t h3 h2
    have hs := tmSp_N t h3 h2
    have c3 := rlessened_call l hl t 0 h3 h4 h2 (by omega)
    have eE : atE t l = if inSp (tmSp t) l = true then 0 else 2 := by simp [atE, h]
    have eT : atT t l = if inSp (tmSp t) l = true then leT (atB l) t 0 else tm0 := by
      unfold atT; rw [eE]; split <;> simp
    rw [eE, eT]
    rw [h] at c1
    generalize tmSp t = S at *
    generalize leT (atB l) t 0 = LT at *
    clear h h1 h2 h3 h4 eE eT
    obtain ⟨k, name, arg, num, tk, tks, uk, uks, label, place, ks⟩ := t
    refine ACall.body tab_ok (ρ := 0) (N := 40) Try.func10 rfl rfl rfl rfl rfl ?_
    repeat' first | refine AW.seq ?_ | refine AW.block ?_ | ((first | refine AW.region tab_ok ?_ | refine AW.cond ?_ | refine AW.skip ?_ | refine AW.ret ?_ | refine AW.exit ?_); conv => whnf) | ((first | refine (c1).mono ?_ | refine (c2).mono ?_); rintro _ _ ⟨rfl, rfl⟩; conv => whnf) | ((first | refine And.intro (@rfl Val _) ?_ | refine And.intro (by decide) ?_ | refine cs (fun _ => ?_) (fun _ => ?_)) <;> conv => whnf)
    refine AW.loop (ι := AtI S l) (fun x => ⟨40, [(8, .c (.d (.int .i64 x.i))), (1, .c (.d (.sl 0 1 (ints l)))), (2, .c (.ptr 0 0)), (4, .c (.ptr 1 0)), (7, .c (.d (.int .i64 (S : Nat))))],
        [.var ((Tm.node k name arg num tk tks uk uks label place ks).cells.map .d), .var [.d (.int .i8 0), .d (.str ⟨#[]⟩), .d (.str ⟨#[]⟩), .d (.int .i64 0), .d (.int .i8 0), .d .nils, .d (.int .i8 0), .d .nils, .d (.int .i64 0), .d (.int .i64 0), .d .nils]], []⟩)
      (fun x => l.length - x.i) ⟨0, Nat.zero_le _, rfl⟩ 2 (fun _ => rfl) (Nat.le_of_ble_eq_true rfl) ⟨⟨rfl, rfl, rfl, rfl, rfl, trivial⟩, rfl, rfl, ⟨[], rfl⟩, rfl⟩ (fun x => ?_)
    obtain ⟨i, hi, hok⟩ := x
    repeat' first | refine AW.seq ?_ | refine AW.block ?_ | ((first | refine AW.region tab_ok ?_ | refine AW.cond ?_ | refine AW.skip ?_ | refine AW.ret ?_ | refine AW.exit ?_); conv => whnf) | ((first | refine And.intro (@rfl Val _) ?_ | refine And.intro (by decide) ?_ | refine cs (fun _ => ?_) (fun _ => ?_)) <;> conv => whnf)
    · rename_i g1
      have g1 : (i : Int) < ((ints l).length : Nat) := of_decide_eq_true g1
      rw [ints_len] at g1
      have hlt : i < l.length := by omega
      obtain ⟨s, hs1⟩ : ∃ s, l[i]? = some s := ⟨_, List.getElem?_eq_getElem hlt⟩
      have htk : l.take (i + 1) = l.take i ++ [s] := by rw [List.take_add_one, hs1]; rfl
      have hin := List.mem_of_getElem? hs1
      have hno : ¬ (0 ≤ s ∧ s < S) → inSp S l = false := fun hn => by
        cases hq : inSp S l with
        | false => rfl
        | true =>
          have := List.all_eq_true.1 hq s hin
          simp at this
          exact absurd this hn
      have hye : 0 ≤ s → s < S → inSp S (l.take (i + 1)) = true := fun h1 h2 => by
        rw [htk, inSp_snoc, hok]; simp [h1, h2]
      have f1 : (0 : Int) ≤ (i : Int) ∧ (i : Int) < ((ints l).length : Nat) := by rw [ints_len]; omega
      have er : ∀ row, (ints l)[(i : Int).toNat]? = some row → [DV.int .i64 s] = row := fun row h => by
        obtain ⟨y, hy, rfl⟩ := ints_get h
        simp only [Int.toNat_natCast] at hy
        rw [hs1] at hy; cases hy; rfl
      conv => whnf
      repeat' first | ((refine ⟨f1, fun row hrow => ?_⟩; obtain rfl := er row hrow; conv => whnf)) | refine AW.seq ?_ | refine AW.block ?_ | ((first | refine AW.region tab_ok ?_ | refine AW.cond ?_ | refine AW.skip ?_ | refine AW.ret ?_ | refine AW.exit ?_); conv => whnf) | ((first | refine And.intro (@rfl Val _) ?_ | refine And.intro (by decide) ?_ | refine cs (fun _ => ?_) (fun _ => ?_)) <;> conv => whnf)
      · rename_i g2
        have g2 := of_decide_eq_true g2
        rw [hno (by omega)]
        exact ⟨rfl, rfl⟩
      · rename_i g2 g3
        have g2 := of_decide_eq_false g2
        have g3 : s ≥ (S : Nat) := of_decide_eq_true g3
        rw [hno (by omega)]
        exact ⟨rfl, rfl⟩
      · rename_i g2 g3
        have g2 := of_decide_eq_false g2
        have g3 : ¬ s ≥ (S : Nat) := of_decide_eq_false g3
        rw [wrap64 (x := (i : Int) + 1) (by omega) (by omega)]
        exact ⟨⟨i + 1, by omega, hye (by omega) (by omega)⟩, ⟨⟨rfl, rfl, rfl, rfl, rfl, trivial⟩, rfl, rfl, ⟨[], rfl⟩, rfl⟩, show l.length - (i + 1) < l.length - i by omega⟩
    · rename_i g1
      have g1 : ¬ (i : Int) < ((ints l).length : Nat) := of_decide_eq_false g1
      rw [ints_len] at g1
      obtain rfl : i = l.length := by omega
      rw [List.take_length] at hok
      rw [if_pos hok, if_pos hok]
      obtain ⟨kq, nq, gq, uq, tkq, tsq, ukq, usq, lq, pq, ksq⟩ := LT
      repeat' first | refine AW.seq ?_ | refine AW.block ?_ | ((first | refine AW.region tab_ok ?_ | refine AW.cond ?_ | refine AW.skip ?_ | refine AW.ret ?_ | refine AW.exit ?_); conv => whnf) | (refine (c3).mono ?_; rintro _ _ ⟨rfl, rfl⟩; conv => whnf) | ((first | refine And.intro (@rfl Val _) ?_ | refine And.intro (by decide) ?_ | refine cs (fun _ => ?_) (fun _ => ?_)) <;> conv => whnf)
      exact ⟨rfl, rfl⟩
  · have eE : atE t l = soundE t := by simp [atE, h]
    have eT : atT t l = tm0 := by simp [atT, eE, h]
    rw [eE, eT]
    generalize soundE t = S at *
    clear eE eT
    obtain ⟨k, name, arg, num, tk, tks, uk, uks, label, place, ks⟩ := t
    refine ACall.body tab_ok (ρ := 0) (N := 40) Try.func10 rfl rfl rfl rfl rfl ?_
    repeat' first | ((refine cs (fun _ => ?_) (fun g => absurd g (by simpa using h)); conv => whnf)) | refine AW.seq ?_ | refine AW.block ?_ | ((first | refine AW.region tab_ok ?_ | refine AW.cond ?_ | refine AW.skip ?_ | refine AW.ret ?_ | refine AW.exit ?_); conv => whnf) | (refine (c1).mono ?_; rintro _ _ ⟨rfl, rfl⟩; conv => whnf) | ((first | refine And.intro (@rfl Val _) ?_ | refine And.intro (by decide) ?_ | refine cs (fun _ => ?_) (fun _ => ?_)) <;> conv => whnf)
    exact ⟨rfl, rfl⟩
/-! ### All -/
def rangeI (n : Nat) : List Int := (List.range n).map fun i : Nat => (i : Int)
theorem rangeI_len (n : Nat) : (rangeI n).length = n := by simp [rangeI]
theorem rangeI_succ (n : Nat) : rangeI (n + 1) = rangeI n ++ [(n : Int)] := by simp [rangeI, List.range_succ]
theorem rangeI_mem (n : Nat) (s : Int) : s ∈ rangeI n ↔ 0 ≤ s ∧ s < n := by
  simp only [rangeI, List.mem_map, List.mem_range]
  constructor
  · rintro ⟨a, h, rfl⟩; omega
  · rintro ⟨h1, h2⟩; exact ⟨s.toNat, by omega, by omega⟩
theorem ints_succ (n : Nat) : ints (rangeI (n + 1)) = ints (rangeI n) ++ [[.int .i64 (n : Int)]] := by rw [rangeI_succ]; simp [ints]
theorem atE_all (t : Tm) : atE t (rangeI (SpotsS t)) = soundE t := by
  unfold atE
  split
  · rfl
  · rename_i h
    have h : soundE t = 0 := by simpa using h
    have e : SpotsS t = tmSp t := by simp [SpotsS, h]
    rw [e, h, if_pos]
    unfold inSp
    rw [List.all_eq_true]
    intro s hs
    have := (rangeI_mem _ _).1 hs
    simp [this.1, this.2]
theorem atT_all (t : Tm) : atT t (rangeI (SpotsS t)) = if soundE t = 0 then leT leBT t 0 else tm0 := by
  unfold atT
  rw [atE_all]
  split
  · rename_i h
    have e : SpotsS t = tmSp t := by simp [SpotsS, h]
    rw [e]
    refine le_congr _ _ t 0 (sound_ok h).2 fun i _ hi => ?_
    show decide ((i : Int) ∈ rangeI (tmSp t)) = true
    rw [decide_eq_true_eq, rangeI_mem]
    omega
  · rfl
structure UpToN (n : Nat) where
  i : Nat
  hi : i ≤ n
set_option maxRecDepth 10000 in
theorem RAllL_call (t : Tm) : ACall Try.prog 12 [t.val] [] (fun o σ => o = .ret (.tup [(if soundE t = 0 then leT leBT t 0 else tm0).val, .c (.d (.int .i64 (soundE t)))]) ∧ σ = []) := by
  have c1 := RSpots_call t
  have hS : SpotsS t ≤ 8192 := by
    unfold SpotsS
    split
    · rename_i h
      obtain ⟨h1, h2⟩ := sound_ok h
      exact Nat.le_trans (tmSp_N t (tmcheck_ok h1).1 h2) (tmcheck_ok h1).1
    · omega
  have c2 := RAt_call t (rangeI (SpotsS t)) (by rw [rangeI_len]; omega)
  rw [atE_all, atT_all] at c2
  generalize soundE t = E at *
  generalize SpotsS t = S at *
  generalize (if E = 0 then leT leBT t 0 else tm0) = R at *
  obtain ⟨k, name, arg, num, tk, tks, uk, uks, label, place, ks⟩ := t
  obtain ⟨kq, nq, gq, uq, tkq, tsq, ukq, usq, lq, pq, ksq⟩ := R
  refine ACall.body tab_ok (ρ := 0) (N := 23) Try.func12 rfl rfl rfl rfl rfl ?_
  repeat' first | refine AW.seq ?_ | refine AW.block ?_ | ((first | refine AW.region tab_ok ?_ | refine AW.cond ?_ | refine AW.skip ?_ | refine AW.ret ?_ | refine AW.exit ?_); conv => whnf) | (refine (c1).mono ?_; rintro _ _ ⟨rfl, rfl⟩; conv => whnf) | ((first | refine And.intro (@rfl Val _) ?_ | refine And.intro (by decide) ?_ | refine cs (fun _ => ?_) (fun _ => ?_)) <;> conv => whnf)
  refine AW.ghostE 3 1 4 (by decide) rfl ?_
  refine AW.loop (ι := UpToN S) (fun x => ⟨23, [(6, .c (.d (.int .i64 x.i))), (5, .c (.d (.int .i64 (S : Nat)))), (1, .c (.ptr 0 0)), (2, .c (.ptr 1 0)), (4, .c (.own 2 (ints (rangeI x.i)).length))],
      [.var ((Tm.node k name arg num tk tks uk uks label place ks).cells.map .d), .var [.d (.int .i8 0), .d (.str ⟨#[]⟩), .d (.str ⟨#[]⟩), .d (.int .i64 0), .d (.int .i8 0), .d .nils, .d (.int .i8 0), .d .nils, .d (.int .i64 0), .d (.int .i64 0), .d .nils], .row 3 1 (ints (rangeI x.i))], []⟩)
    (fun x => S - x.i) ⟨0, Nat.zero_le _⟩ 3 (fun _ => rfl) (Nat.le_of_ble_eq_true rfl) ⟨⟨rfl, rfl, rfl, rfl, rfl, trivial⟩, rfl, rfl, ⟨[], rfl⟩, rfl⟩ (fun x => ?_)
  obtain ⟨i, hi⟩ := x
  have e1 := ints_succ i
  have e2 : (ints (rangeI i)).length + [[DV.int .i64 (i : Int)]].length = (ints (rangeI (i + 1))).length := by rw [← List.length_append, ← e1]
  have e3 : (ints (rangeI i)).length = i := by rw [ints_len, rangeI_len]
  repeat' first | refine AW.seq ?_ | refine AW.block ?_ | ((first | refine AW.region tab_ok ?_ | refine AW.cond ?_ | refine AW.skip ?_ | refine AW.ret ?_ | refine AW.exit ?_); conv => whnf) | ((first | refine And.intro (@rfl Val _) ?_ | refine And.intro (by decide) ?_ | refine cs (fun _ => ?_) (fun _ => ?_)) <;> conv => whnf)
  · rename_i g1
    have g1 : (i : Int) < (S : Nat) := of_decide_eq_true g1
    refine ⟨⟨rfl, by (dsimp only; simp only [e3, List.length_cons, List.length_nil]; omega), by (dsimp only; simp only [e3, List.length_cons, List.length_nil]; omega)⟩, ?_⟩
    conv => whnf
    repeat' first | refine AW.seq ?_ | refine AW.block ?_ | ((first | refine AW.region tab_ok ?_ | refine AW.cond ?_ | refine AW.skip ?_ | refine AW.ret ?_ | refine AW.exit ?_); conv => whnf) | ((first | refine And.intro (@rfl Val _) ?_ | refine And.intro (by decide) ?_ | refine cs (fun _ => ?_) (fun _ => ?_)) <;> conv => whnf)
    rw [e2, ← e1, wrap64 (x := (i : Int) + 1) (by omega) (by omega)]
    exact ⟨⟨i + 1, by omega⟩, ⟨⟨rfl, rfl, rfl, rfl, rfl, trivial⟩, rfl, rfl, ⟨[], rfl⟩, rfl⟩, show S - (i + 1) < S - i by omega⟩
  · rename_i g1
    have g1 : ¬ (i : Int) < (S : Nat) := of_decide_eq_false g1
    obtain rfl : i = S := by omega
    repeat' first | ((refine And.intro (rfl : (_ : Nat) = _) ?_; conv => whnf)) | refine AW.seq ?_ | refine AW.block ?_ | ((first | refine AW.region tab_ok ?_ | refine AW.cond ?_ | refine AW.skip ?_ | refine AW.ret ?_ | refine AW.exit ?_); conv => whnf) | (refine (c2).mono ?_; rintro _ _ ⟨rfl, rfl⟩; conv => whnf) | ((first | refine And.intro (@rfl Val _) ?_ | refine And.intro (by decide) ?_ | refine cs (fun _ => ?_) (fun _ => ?_)) <;> conv => whnf)
    all_goals first | exact ⟨rfl, rfl⟩
end Go.Proofs.Ytlboogackecjlaa.E

/- A value put for a name: the model; what hides a name, a kid changed, both. No conditions. -/
set_option linter.unusedVariables false
set_option linter.unusedSimpArgs false
namespace Go.Proofs.Ytlboogackecjlaa.E
open Go

end Go.Proofs.Ytlboogackecjlaa.E

/- A value put for a name: the document's walk; whether a term fits; copies. No conditions. -/
set_option linter.unusedVariables false
set_option linter.unusedSimpArgs false
namespace Go.Proofs.Ytlboogackecjlaa.E
open Go

end Go.Proofs.Ytlboogackecjlaa.E

/- A value put for a name: copies of types, of terms. No conditions. -/
set_option linter.unusedVariables false
set_option linter.unusedSimpArgs false
namespace Go.Proofs.Ytlboogackecjlaa.E
open Go

/-- Rows of types that the machine can hold. -/
inductive TyOk : Ty → Prop where
  | node {k ks} (h1 : ks.length * 32 ≤ 140737488355328) (h2 : ∀ t ∈ ks, TyOk t) : TyOk (.node k ks)
/-- A term whose types are bounded, in all its parts, those that do not count too. -/
inductive Fine2 : Tm → Prop where
  | node {k name arg num tk tks uk uks label place ks} (h1 : TyOk (.node tk tks)) (h2 : TyOk (.node uk uks)) (h3 : ks.length ≤ 8192) (h4 : ∀ t ∈ ks, Fine2 t) : Fine2 (.node k name arg num tk tks uk uks label place ks)
/-- Rows of terms that the machine can hold. -/
inductive TmOk : Tm → Prop where
  | node {k name arg num tk tks uk uks label place ks} (h1 : TyOk (.node tk tks)) (h2 : TyOk (.node uk uks)) (h3 : ks.length * 152 ≤ 140737488355328) (h4 : ∀ t ∈ ks, TmOk t) : TmOk (.node k name arg num tk tks uk uks label place ks)
theorem fine2_of (t : Tm) : TmOk t → tmright t = true → Fine2 t := by
  induction t using Tm.ind with
  | _ k name arg num tk tks uk uks label place ks ih =>
  rintro (⟨h1, h2, h3, h4⟩) hr
  have hl := tmright_len hr
  have hk := kidsK_le k
  exact .node h1 h2 (by omega) fun x hx => ih x hx (h4 x hx) (tmright_kid hr hx)
end Go.Proofs.Ytlboogackecjlaa.E

/- Spoiling: types and terms are written over. No conditions. -/
set_option linter.unusedVariables false
set_option linter.unusedSimpArgs false
namespace Go.Proofs.Ytlboogackecjlaa.E
open Go

mutual
def Ty.cellsW : Ty → List DV
  | .node k ks => [.int .i8 k, .wsl false (Ty.rowsW ks)]
def Ty.rowsW : List Ty → List (List DV)
  | [] => []
  | t :: l => Ty.cellsW t :: Ty.rowsW l
end
mutual
def Tm.cellsW : Tm → List DV
  | .node k name arg num tk tks uk uks label place ks => [.int .i8 k, .str name, .str arg, .int .i64 num, .int .i8 tk, .wsl false (Ty.rowsW tks), .int .i8 uk, .wsl false (Ty.rowsW uks), .int .i64 label, .int .i64 place, .wsl true (Tm.rowsW ks)]
def Tm.rowsW : List Tm → List (List DV)
  | [] => []
  | t :: l => Tm.cellsW t :: Tm.rowsW l
end
theorem tyrowsW_len : ∀ l : List Ty, (Ty.rowsW l).length = l.length
  | [] => rfl
  | t :: l => by simp [Ty.rowsW, tyrowsW_len l]
theorem tyrowsW_get : ∀ (l : List Ty) (i : Nat) row, (Ty.rowsW l)[i]? = some row → ∃ t, l[i]? = some t ∧ row = t.cellsW
  | [], i, row, h => by simp [Ty.rowsW] at h
  | t :: l, 0, row, h => by simp [Ty.rowsW] at h; exact ⟨t, rfl, h.symm⟩
  | t :: l, i + 1, row, h => by
    simp only [Ty.rowsW, List.getElem?_cons_succ] at h ⊢
    exact tyrowsW_get l i row h
theorem tmrowsW_len : ∀ l : List Tm, (Tm.rowsW l).length = l.length
  | [] => rfl
  | t :: l => by simp [Tm.rowsW, tmrowsW_len l]
theorem tmrowsW_get : ∀ (l : List Tm) (i : Nat) row, (Tm.rowsW l)[i]? = some row → ∃ t, l[i]? = some t ∧ row = t.cellsW
  | [], i, row, h => by simp [Tm.rowsW] at h
  | t :: l, 0, row, h => by simp [Tm.rowsW] at h; exact ⟨t, rfl, h.symm⟩
  | t :: l, i + 1, row, h => by
    simp only [Tm.rowsW, List.getElem?_cons_succ] at h ⊢
    exact tmrowsW_get l i row h
structure IdxI {α : Type} (ks : List α) where
  i : Nat
  hi : i ≤ ks.length
set_option maxRecDepth 10000 in
theorem spoilTy0_call (k : Int) : ACall Try.prog 39 [.agg [.d (.int .i8 k), .d (.wsl false [])]] [] (fun o σ => o = .ret (.tup []) ∧ σ = []) := by
  refine ACall.body tab_ok (ρ := 0) (N := 21) Try.func39 rfl rfl rfl rfl rfl ?_
  repeat' first | ((refine AW.rounds 2 ?_; conv => whnf)) | refine AW.seq ?_ | refine AW.block ?_ | ((first | refine AW.region tab_ok ?_ | refine AW.cond ?_ | refine AW.skip ?_ | refine AW.ret ?_ | refine AW.exit ?_); conv => whnf) | ((first | refine And.intro (@rfl Val _) ?_ | refine And.intro (by decide) ?_ | refine cs (fun _ => ?_) (fun _ => ?_)) <;> conv => whnf)
  all_goals exact ⟨rfl, rfl⟩
set_option maxRecDepth 10000 in
theorem spoilTy_call (a : Ty) : TyOk a → ACall Try.prog 39 [.agg (a.cellsW.map .d)] [] (fun o σ => o = .ret (.tup []) ∧ σ = []) := by
  induction a using Ty.ind with
  | _ k ks ih =>
  rintro (⟨hlen, hks⟩)
  refine ACall.body tab_ok (ρ := 0) (N := 21) Try.func39 rfl rfl rfl rfl rfl ?_
  repeat' first | refine AW.seq ?_ | refine AW.block ?_ | ((first | refine AW.region tab_ok ?_ | refine AW.cond ?_ | refine AW.skip ?_ | refine AW.ret ?_ | refine AW.exit ?_); conv => whnf) | ((first | refine And.intro (@rfl Val _) ?_ | refine And.intro (by decide) ?_ | refine cs (fun _ => ?_) (fun _ => ?_)) <;> conv => whnf)
  refine AW.loop (ι := IdxI ks) (fun x => ⟨21, [(2, .c (.d (.int .i64 x.i))), (1, .c (.ptr 0 0))], [.var [.d (.int .i8 k), .d (.wsl false (Ty.rowsW ks))]], []⟩)
    (fun x => ks.length - x.i) ⟨0, Nat.zero_le _⟩ 1 (fun _ => rfl) (Nat.le_of_ble_eq_true rfl) ⟨⟨rfl, rfl, trivial⟩, rfl, rfl, ⟨[], rfl⟩, rfl⟩ (fun x => ?_)
  obtain ⟨i, hi⟩ := x
  repeat' first | refine AW.seq ?_ | refine AW.block ?_ | ((first | refine AW.region tab_ok ?_ | refine AW.cond ?_ | refine AW.skip ?_ | refine AW.ret ?_ | refine AW.exit ?_); conv => whnf) | ((first | refine And.intro (@rfl Val _) ?_ | refine And.intro (by decide) ?_ | refine cs (fun _ => ?_) (fun _ => ?_)) <;> conv => whnf)
  · rename_i g
    have g := of_decide_eq_true g
    rw [tyrowsW_len] at g
    simp only at g
    have f1 : (0 : Int) ≤ (i : Int) ∧ (i : Int) < ((Ty.rowsW ks).length : Nat) := by rw [tyrowsW_len]; omega
    refine ⟨f1, fun row hrow => ?_⟩
    obtain ⟨⟨xk, xs⟩, ht, rfl⟩ := tyrowsW_get ks i row (by simpa using hrow)
    have hm := List.mem_of_getElem? ht
    have ci := ih _ hm (hks _ hm)
    have c0 := spoilTy0_call 77
    conv => whnf
    have fin : ∀ a b : Int, a = b → AV.d (DV.int .i64 a) = AV.d (DV.int .i64 b) := fun _ _ h => by rw [h]
    have hw : IntKind.i64.wrap ((i : Int) + 1) = ((i + 1 : Nat) : Int) := by rw [wrap64 (x := (i : Int) + 1) (by omega) (by omega)]; omega
    refine ⟨?_, ?_⟩ <;> conv => whnf
    · skip
      repeat' first | ((refine And.intro f1 fun row hrow => ?_; conv => whnf)) | refine AW.seq ?_ | refine AW.block ?_ | ((first | refine AW.region tab_ok ?_ | refine AW.cond ?_ | refine AW.skip ?_ | refine AW.ret ?_ | refine AW.exit ?_); conv => whnf) | (refine (ci).mono ?_; rintro _ _ ⟨rfl, rfl⟩; conv => whnf) | ((first | refine And.intro (@rfl Val _) ?_ | refine And.intro (by decide) ?_ | refine cs (fun _ => ?_) (fun _ => ?_)) <;> conv => whnf)
      rw [hw]
      exact ⟨⟨i + 1, by omega⟩, ⟨⟨rfl, rfl, trivial⟩, rfl, rfl, ⟨[], rfl⟩, rfl⟩, show ks.length - (i + 1) < ks.length - i by omega⟩
    · skip
      repeat' first | ((refine And.intro f1 fun row hrow => ?_; conv => whnf)) | refine AW.seq ?_ | refine AW.block ?_ | ((first | refine AW.region tab_ok ?_ | refine AW.cond ?_ | refine AW.skip ?_ | refine AW.ret ?_ | refine AW.exit ?_); conv => whnf) | (refine (c0).mono ?_; rintro _ _ ⟨rfl, rfl⟩; conv => whnf) | ((first | refine And.intro (@rfl Val _) ?_ | refine And.intro (by decide) ?_ | refine cs (fun _ => ?_) (fun _ => ?_)) <;> conv => whnf)
      rw [hw]
      exact ⟨⟨i + 1, by omega⟩, ⟨⟨rfl, rfl, trivial⟩, rfl, rfl, ⟨[], rfl⟩, rfl⟩, show ks.length - (i + 1) < ks.length - i by omega⟩
  · exact ⟨rfl, rfl⟩
set_option maxRecDepth 10000 in
theorem spoilTm0_call (k : Int) (name arg : ByteArray) (num tk uk label place : Int) : ACall Try.prog 16 [.agg [.d (.int .i8 k), .d (.str name), .d (.str arg), .d (.int .i64 num), .d (.int .i8 tk), .d (.wsl false []), .d (.int .i8 uk), .d (.wsl false []), .d (.int .i64 label), .d (.int .i64 place), .d (.wsl true [])]] [] (fun o σ => o = .ret (.tup []) ∧ σ = []) := by
  have c0 := spoilTy0_call tk
  have c1 := spoilTy0_call uk
  refine ACall.body tab_ok (ρ := 0) (N := 27) Try.func16 rfl rfl rfl rfl rfl ?_
  repeat' first | ((refine AW.rounds 2 ?_; conv => whnf)) | refine AW.seq ?_ | refine AW.block ?_ | ((first | refine AW.region tab_ok ?_ | refine AW.cond ?_ | refine AW.skip ?_ | refine AW.ret ?_ | refine AW.exit ?_); conv => whnf) | ((first | refine (c0).mono ?_ | refine (c1).mono ?_); rintro _ _ ⟨rfl, rfl⟩; conv => whnf) | ((first | refine And.intro (@rfl Val _) ?_ | refine And.intro (by decide) ?_ | refine cs (fun _ => ?_) (fun _ => ?_)) <;> conv => whnf)
  all_goals exact ⟨rfl, rfl⟩
set_option maxRecDepth 10000 in
theorem spoilTm_call (t : Tm) : TmOk t → ACall Try.prog 16 [.agg (t.cellsW.map .d)] [] (fun o σ => o = .ret (.tup []) ∧ σ = []) := by
  induction t using Tm.ind with
  | _ k name arg num tk tks uk uks label place ks ih =>
  rintro (⟨hT, hU, hlen, hks⟩)
  have c1 := spoilTy_call _ hT
  have c2 := spoilTy_call _ hU
  refine ACall.body tab_ok (ρ := 0) (N := 27) Try.func16 rfl rfl rfl rfl rfl ?_
  repeat' first | refine AW.seq ?_ | refine AW.block ?_ | ((first | refine AW.region tab_ok ?_ | refine AW.cond ?_ | refine AW.skip ?_ | refine AW.ret ?_ | refine AW.exit ?_); conv => whnf) | ((first | refine (c1).mono ?_ | refine (c2).mono ?_); rintro _ _ ⟨rfl, rfl⟩; conv => whnf) | ((first | refine And.intro (@rfl Val _) ?_ | refine And.intro (by decide) ?_ | refine cs (fun _ => ?_) (fun _ => ?_)) <;> conv => whnf)
  refine AW.loop (ι := IdxI ks) (fun x => ⟨27, [(2, .c (.d (.int .i64 x.i))), (1, .c (.ptr 0 0))], [.var ((Tm.node k name arg num tk tks uk uks label place ks).cellsW.map .d)], []⟩)
    (fun x => ks.length - x.i) ⟨0, Nat.zero_le _⟩ 1 (fun _ => rfl) (Nat.le_of_ble_eq_true rfl) ⟨⟨rfl, rfl, trivial⟩, rfl, rfl, ⟨[], rfl⟩, rfl⟩ (fun x => ?_)
  obtain ⟨i, hi⟩ := x
  repeat' first | refine AW.seq ?_ | refine AW.block ?_ | ((first | refine AW.region tab_ok ?_ | refine AW.cond ?_ | refine AW.skip ?_ | refine AW.ret ?_ | refine AW.exit ?_); conv => whnf) | ((first | refine And.intro (@rfl Val _) ?_ | refine And.intro (by decide) ?_ | refine cs (fun _ => ?_) (fun _ => ?_)) <;> conv => whnf)
  · rename_i g
    have g := of_decide_eq_true g
    rw [tmrowsW_len] at g
    simp only at g
    have f1 : (0 : Int) ≤ (i : Int) ∧ (i : Int) < ((Tm.rowsW ks).length : Nat) := by rw [tmrowsW_len]; omega
    refine ⟨f1, fun row hrow => ?_⟩
    obtain ⟨x, ht, rfl⟩ := tmrowsW_get ks i row (by simpa using hrow)
    have hm := List.mem_of_getElem? ht
    have ci := ih _ hm (hks _ hm)
    have c0 := spoilTm0_call 77 ⟨#[]⟩ ⟨#[]⟩ 0 0 0 0 0
    clear c1 c2 ih
    obtain ⟨kx, namex, argx, numx, tkx, tksx, ukx, uksx, labelx, placex, ksx⟩ := x
    conv => whnf
    have hw : IntKind.i64.wrap ((i : Int) + 1) = ((i + 1 : Nat) : Int) := by rw [wrap64 (x := (i : Int) + 1) (by omega) (by omega)]; omega
    refine ⟨?_, ?_⟩ <;> conv => whnf
    · skip
      repeat' first | ((refine And.intro f1 fun row hrow => ?_; conv => whnf)) | refine AW.seq ?_ | refine AW.block ?_ | ((first | refine AW.region tab_ok ?_ | refine AW.cond ?_ | refine AW.skip ?_ | refine AW.ret ?_ | refine AW.exit ?_); conv => whnf) | (refine (ci).mono ?_; rintro _ _ ⟨rfl, rfl⟩; conv => whnf) | ((first | refine And.intro (@rfl Val _) ?_ | refine And.intro (by decide) ?_ | refine cs (fun _ => ?_) (fun _ => ?_)) <;> conv => whnf)
      rw [hw]
      exact ⟨⟨i + 1, by omega⟩, ⟨⟨rfl, rfl, trivial⟩, rfl, rfl, ⟨[], rfl⟩, rfl⟩, show ks.length - (i + 1) < ks.length - i by omega⟩
    · skip
      repeat' first | ((refine And.intro f1 fun row hrow => ?_; conv => whnf)) | refine AW.seq ?_ | refine AW.block ?_ | ((first | refine AW.region tab_ok ?_ | refine AW.cond ?_ | refine AW.skip ?_ | refine AW.ret ?_ | refine AW.exit ?_); conv => whnf) | (refine (c0).mono ?_; rintro _ _ ⟨rfl, rfl⟩; conv => whnf) | ((first | refine And.intro (@rfl Val _) ?_ | refine And.intro (by decide) ?_ | refine cs (fun _ => ?_) (fun _ => ?_)) <;> conv => whnf)
      rw [hw]
      exact ⟨⟨i + 1, by omega⟩, ⟨⟨rfl, rfl, trivial⟩, rfl, rfl, ⟨[], rfl⟩, rfl⟩, show ks.length - (i + 1) < ks.length - i by omega⟩
  · exact ⟨rfl, rfl⟩
end Go.Proofs.Ytlboogackecjlaa.E
