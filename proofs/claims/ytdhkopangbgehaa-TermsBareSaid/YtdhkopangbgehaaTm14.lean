/- Walks: bare of terms in the document's answer; Bare, both. No conditions. -/
import Derived.Test.YtdhkopangbgehaaTm13
set_option linter.unusedVariables false
set_option linter.unusedSimpArgs false
namespace Go.Proofs.Ytdhkopangbgehaa.E
open Go

noncomputable def rest83 : Code := match Try.f83.body with
  | some (.seq _ (.seq _ (.seq _ (.seq _ (.seq _ (.seq _ (.seq _ (.seq _ c)))))))) => c
  | _ => .skip
set_option maxRecDepth 10000 in
theorem rbare_rest (k : Int) (name arg : ByteArray) (num tk : Int) (tks : List Ty) (uk : Int) (uks : List Ty) (label place : Int) (ks : List Tm) (name' arg' : ByteArray) (num' tk' uk' label' : Int) (bt bu : Bool) (ms : List Tm) (hlen : ks.length ≤ 8192) (hms : ms.length = ks.length)
    (hk : ∀ (i : Nat) x, ks[i]? = some x → ∃ m, ms[i]? = some m ∧ ACall Try.prog 83 [x.val] [] (fun o σ => o = .ret m.val ∧ σ = [])) :
    AW Try.prog tab 0 rest83 ⟨63, [(1, .c (.ptr 0 0)), (2, .c (.ptr 1 0)), (3, .c (.ptr 2 0))], [.var [.d (.int .i8 k), .d (.str name), .d (.str arg), .d (.int .i64 num), .d (.int .i8 tk), .d (.sl 0 2 (Ty.rows tks)), .d (.int .i8 uk), .d (.sl 0 2 (Ty.rows uks)), .d (.int .i64 label), .d (.int .i64 place), .d (.sl 0 11 (Tm.rows ks))], .var [.d (.int .i8 0), .d (.str ⟨#[]⟩), .d (.str ⟨#[]⟩), .d (.int .i64 0), .d (.int .i8 0), .d .nils, .d (.int .i8 0), .d .nils, .d (.int .i64 0), .d (.int .i64 0), .d .nils], .var [.d (.int .i8 k), .d (.str name'), .d (.str arg'), .d (.int .i64 num'), .d (.int .i8 tk'), .d (tcell bt tks), .d (.int .i8 uk'), .d (tcell bu uks), .d (.int .i64 label'), .d (.int .i64 0), .d .nils]], []⟩
      (afin tab 0 83 [.cell 2 39] 0 (fun o σ => o = .ret (Tm.node k name' arg' num' tk' (if bt then tks else []) uk' (if bu then uks else []) label' 0 ms).val ∧ σ = [])) := by
  repeat' first
    | refine AW.seq ?_
    | refine AW.block ?_
    | (refine AW.region tab_ok ?_; conv => whnf)
    | (refine AW.draw (id := 17) tab_ok mixed [0, 1, 2, 3, 4, 5, 6, 7, 8, 9, 10, 11] (by kernel_rfl) ?_; conv => whnf)
    | (refine AW.cond ?_; conv => whnf)
    | (refine AW.skip ?_; conv => whnf)
    | (refine AW.ret ?_; conv => whnf)
    | (refine AW.exit ?_; conv => whnf)
    | (refine And.intro (@rfl Val _) ?_; conv => whnf)
    | (refine And.intro (by decide) ?_; conv => whnf)
    | (refine cs (fun _ => ?_) (fun _ => ?_) <;> conv => whnf)
  refine AW.ghost 39 11 2 10 (by decide) rfl rfl ?_
  refine AW.loop (ι := UpToT ks) (fun x => ⟨63, [(4, .c (.d (.int .i64 x.i))), (1, .c (.ptr 0 0)), (2, .c (.ptr 1 0)), (3, .c (.ptr 2 0))],
      [.var [.d (.int .i8 k), .d (.str name), .d (.str arg), .d (.int .i64 num), .d (.int .i8 tk), .d (.sl 0 2 (Ty.rows tks)), .d (.int .i8 uk), .d (.sl 0 2 (Ty.rows uks)), .d (.int .i64 label), .d (.int .i64 place), .d (.sl 0 11 (Tm.rows ks))], .var [.d (.int .i8 0), .d (.str ⟨#[]⟩), .d (.str ⟨#[]⟩), .d (.int .i64 0), .d (.int .i8 0), .d .nils, .d (.int .i8 0), .d .nils, .d (.int .i64 0), .d (.int .i64 0), .d .nils], .var [.d (.int .i8 k), .d (.str name'), .d (.str arg'), .d (.int .i64 num'), .d (.int .i8 tk'), .d (tcell bt tks), .d (.int .i8 uk'), .d (tcell bu uks), .d (.int .i64 label'), .d (.int .i64 0), .own 3 (Tm.rows (ms.take x.i)).length], .row 39 11 (Tm.rows (ms.take x.i))], []⟩)
    (fun x => ks.length - x.i) ⟨0, Nat.zero_le _⟩ 4 (fun _ => rfl) (Nat.le_of_ble_eq_true rfl) ⟨⟨rfl, rfl, rfl, rfl, trivial⟩, rfl, rfl, ⟨[], rfl⟩, rfl⟩ (fun x => ?_)
  obtain ⟨i, hi⟩ := x
  repeat' first
    | refine AW.seq ?_
    | refine AW.block ?_
    | (refine AW.region tab_ok ?_; conv => whnf)
    | (refine AW.draw (id := 17) tab_ok mixed [0, 1, 2, 3, 4, 5, 6, 7, 8, 9, 10, 11] (by kernel_rfl) ?_; conv => whnf)
    | (refine AW.cond ?_; conv => whnf)
    | (refine AW.skip ?_; conv => whnf)
    | (refine AW.ret ?_; conv => whnf)
    | (refine AW.exit ?_; conv => whnf)
    | (refine And.intro (@rfl Val _) ?_; conv => whnf)
    | (refine And.intro (by decide) ?_; conv => whnf)
    | (refine cs (fun _ => ?_) (fun _ => ?_) <;> conv => whnf)
  · rename_i h1
    simp only [trows_length] at h1 ⊢
    have := of_decide_eq_true h1
    refine ⟨by omega, fun row hrow => ?_⟩
    obtain ⟨x, ht, rfl⟩ := trows_get ks i row (by simpa using hrow)
    have hlt : i < ks.length := (List.getElem?_eq_some_iff.1 ht).1
    obtain ⟨m, hm, hc⟩ := hk i x ht
    have hmt : ms.take (i + 1) = ms.take i ++ [m] := by
      rw [List.take_add_one, hm]; rfl
    have e : Tm.rows (ms.take i) ++ [m.cells] = Tm.rows (ms.take (i + 1)) := by
      rw [hmt, trows_map (ms.take i), trows_map (ms.take i ++ _), List.map_append]; rfl
    have el : (Tm.rows (ms.take i)).length + [m.cells].length = (ms.take (i + 1)).length := by
      rw [← List.length_append, e, trows_length]
    obtain ⟨kx, namex, argx, numx, tkx, tksx, ukx, uksx, labelx, placex, ksx⟩ := m
    obtain ⟨ky, namey, argy, numy, tky, tksy, uky, uksy, labely, placey, ksy⟩ := x
    conv => whnf
    repeat' first
      | refine AW.seq ?_
      | refine AW.block ?_
      | (refine AW.region tab_ok ?_; conv => whnf)
      | (refine AW.draw (id := 17) tab_ok mixed [0, 1, 2, 3, 4, 5, 6, 7, 8, 9, 10, 11] (by kernel_rfl) ?_; conv => whnf)
      | (refine AW.cond ?_; conv => whnf)
      | (refine AW.skip ?_; conv => whnf)
      | (refine AW.ret ?_; conv => whnf)
      | (refine AW.exit ?_; conv => whnf)
      | (refine (hc).mono ?_; rintro _ _ ⟨rfl, rfl⟩; conv => whnf)
      | (refine And.intro (@rfl Val _) ?_; conv => whnf)
      | (refine And.intro (by decide) ?_; conv => whnf)
      | (refine cs (fun _ => ?_) (fun _ => ?_) <;> conv => whnf)
    refine ⟨⟨(trows_length _).symm, ?_, ?_⟩, ?_⟩
    · simp only [trows_length, List.length_take, List.length_cons, List.length_nil]
      omega
    · simp only [trows_length, List.length_take, List.length_cons, List.length_nil]
      omega
    conv => whnf
    repeat' first
      | refine AW.seq ?_
      | refine AW.block ?_
      | (refine AW.region tab_ok ?_; conv => whnf)
      | (refine AW.draw (id := 17) tab_ok mixed [0, 1, 2, 3, 4, 5, 6, 7, 8, 9, 10, 11] (by kernel_rfl) ?_; conv => whnf)
      | (refine AW.cond ?_; conv => whnf)
      | (refine AW.skip ?_; conv => whnf)
      | (refine AW.ret ?_; conv => whnf)
      | (refine AW.exit ?_; conv => whnf)
      | (refine And.intro (@rfl Val _) ?_; conv => whnf)
      | (refine And.intro (by decide) ?_; conv => whnf)
      | (refine cs (fun _ => ?_) (fun _ => ?_) <;> conv => whnf)
    simp only [Tm.cells] at e el
    rw [el, e, wrap64 (x := (i : Int) + 1) (by omega) (by omega)]
    exact ⟨⟨i + 1, hlt⟩, ⟨⟨rfl, rfl, rfl, rfl, trivial⟩, rfl, rfl, ⟨[], rfl⟩, rfl⟩, show ks.length - (i + 1) < ks.length - i by omega⟩
  · rename_i h1
    simp only [trows_length] at h1
    have := of_decide_eq_false h1
    obtain rfl : i = ks.length := by omega
    have e : ms.take ks.length = ms := List.take_of_length_le (by omega)
    simp only [e]
    cases bt <;> cases bu
    all_goals
      first | refine ⟨trivial, ?_⟩ | refine ⟨rfl, ?_⟩
      conv => whnf
      first | exact ⟨rfl, rfl⟩ | exact ⟨rfl, trivial⟩ | (simp; rfl)
set_option maxRecDepth 10000 in
set_option maxHeartbeats 4000000 in
theorem rbare_call (a : Tm) : tmright a = true → ACall Try.prog 83 [a.val] [] (fun o σ => o = .ret (tmbare a).val ∧ σ = []) := by
  induction a using Tm.ind with
  | _ k name arg num tk tks uk uks label place ks ih =>
  intro ha
  have hlen := tmright_len ha
  have hle := kidsK_le k
  have ih' : ∀ (i : Nat) x, ks[i]? = some x → ∃ m, (tmbares ks)[i]? = some m ∧ ACall Try.prog 83 [x.val] [] (fun o σ => o = .ret m.val ∧ σ = []) := fun i x hx => by
    have hm := List.mem_of_getElem? hx
    exact ⟨tmbare x, tmbares_get hx, ih x hm (tmright_kid ha hm)⟩
  have fin : ∀ (bt bu : Bool) (name' arg' : ByteArray) (num' tk' uk' label' : Int) (env : List (Nat × Val)), tmbare (.node k name arg num tk tks uk uks label place ks) = .node k name' arg' num' tk' (if bt then tks else []) uk' (if bu then uks else []) label' 0 (tmbares ks) →
      get env 1 = .c (.ptr 0 0) → get env 2 = .c (.ptr 1 0) → get env 3 = .c (.ptr 2 0) →
      AW Try.prog tab 0 rest83 ⟨63, env, [.var [.d (.int .i8 k), .d (.str name), .d (.str arg), .d (.int .i64 num), .d (.int .i8 tk), .d (.sl 0 2 (Ty.rows tks)), .d (.int .i8 uk), .d (.sl 0 2 (Ty.rows uks)), .d (.int .i64 label), .d (.int .i64 place), .d (.sl 0 11 (Tm.rows ks))], .var [.d (.int .i8 0), .d (.str ⟨#[]⟩), .d (.str ⟨#[]⟩), .d (.int .i64 0), .d (.int .i8 0), .d .nils, .d (.int .i8 0), .d .nils, .d (.int .i64 0), .d (.int .i64 0), .d .nils], .var [.d (.int .i8 k), .d (.str name'), .d (.str arg'), .d (.int .i64 num'), .d (.int .i8 tk'), .d (tcell bt tks), .d (.int .i8 uk'), .d (tcell bu uks), .d (.int .i64 label'), .d (.int .i64 0), .d .nils]], []⟩ (afin tab 0 83 Try.f83.results.toList ([] : List AObj).length (fun o σ => o = .ret (tmbare (.node k name arg num tk tks uk uks label place ks)).val ∧ σ = [])) := fun bt bu name' arg' num' tk' uk' label' env e g0 g2 g5 => by
    rw [e]
    refine AW.fits ?_ ?_ (rbare_rest k name arg num tk tks uk uks label place ks name' arg' num' tk' uk' label' bt bu (tmbares ks) (by omega) (tmbares_len ks) ih')
    · exact ⟨⟨g0, g2, g5, trivial⟩, rfl, rfl, ⟨[], rfl⟩, rfl⟩
    · rfl
  have hv := tmright_valid ha
  clear ih ih' ha hlen hle
  rcases kinds k hv with rfl | rfl | rfl | rfl | rfl | rfl | rfl | rfl | rfl | rfl | rfl | rfl | rfl | rfl | rfl | rfl | rfl | rfl
  all_goals
    refine ACall.body tab_ok (ρ := 0) (N := 63) Try.func83 rfl rfl rfl rfl rfl ?_
    repeat' first
      | (exact fin false false _ _ _ _ _ _ _ rfl rfl rfl rfl)
      | (exact fin true false _ _ _ _ _ _ _ rfl rfl rfl rfl)
      | (exact fin true true _ _ _ _ _ _ _ rfl rfl rfl rfl)
      | refine AW.seq ?_
      | refine AW.block ?_
      | (refine AW.region tab_ok ?_; conv => whnf)
      | (refine AW.draw (id := 17) tab_ok mixed [0, 1, 2, 3, 4, 5, 6, 7, 8, 9, 10, 11] (by kernel_rfl) ?_; conv => whnf)
      | (refine AW.cond ?_; conv => whnf)
      | (refine AW.skip ?_; conv => whnf)
      | (refine AW.ret ?_; conv => whnf)
      | (refine AW.exit ?_; conv => whnf)
      | (refine (rhasName_call _).mono ?_; rintro _ _ ⟨rfl, rfl⟩; conv => whnf)
      | (refine (rhasArg_call _).mono ?_; rintro _ _ ⟨rfl, rfl⟩; conv => whnf)
      | (refine (rhasType_call _).mono ?_; rintro _ _ ⟨rfl, rfl⟩; conv => whnf)
      | (refine (rhasTo_call _).mono ?_; rintro _ _ ⟨rfl, rfl⟩; conv => whnf)
      | (refine And.intro (@rfl Val _) ?_; conv => whnf)
      | (refine And.intro (by decide) ?_; conv => whnf)
      | (refine cs (fun _ => ?_) (fun _ => ?_) <;> conv => whnf)
def tmBareS (t : Tm) : Tm := if tmcheck t = 0 then tmbare t else .node 0 ⟨#[]⟩ ⟨#[]⟩ 0 0 [] 0 [] 0 0 []
theorem tmcheck_ok {t : Tm} (h : tmcheck t = 0) : tmN t ≤ 8192 ∧ tmright t = true := by
  unfold tmcheck at h
  split at h
  · omega
  · split at h
    · omega
    · split at h
      · rename_i h3; exact ⟨by omega, h3⟩
      · omega
set_option maxRecDepth 10000 in
theorem Bare_call (t : Tm) : ACall Try.prog 35 [t.val] [] (fun o σ => o = .ret (tmBareS t).val ∧ σ = []) := by
  have c1 := tmCheck_call t
  have c2 : tmcheck t = 0 → ACall Try.prog 82 [.c (.d (.rp 0 t.cells))] [] (fun o σ => o = .ret (tmBareS t).val ∧ σ = []) := fun h => by
    rw [show tmBareS t = tmbare t by simp [tmBareS, h]]
    exact bare_call t (tmcheck_ok h).1 (tmcheck_ok h).2
  have e3 : tmcheck t ≠ 0 → tmBareS t = .node 0 ⟨#[]⟩ ⟨#[]⟩ 0 0 [] 0 [] 0 0 [] := fun h => by simp [tmBareS, h]
  generalize tmcheck t = cc at *
  generalize tmBareS t = m at *
  obtain ⟨k, name, arg, num, tk, tks, uk, uks, label, place, ks⟩ := t
  refine ACall.body tab_ok (ρ := 0) (N := 8) Try.func35 rfl rfl rfl rfl rfl ?_
  repeat' first
    | refine AW.seq ?_
    | refine AW.block ?_
    | (refine AW.region tab_ok ?_; conv => whnf)
    | (refine AW.cond ?_; conv => whnf)
    | (refine AW.skip ?_; conv => whnf)
    | (refine AW.ret ?_; conv => whnf)
    | (refine AW.exit ?_; conv => whnf)
    | (refine (c1).mono ?_; rintro _ _ ⟨rfl, rfl⟩; conv => whnf)
    | (refine And.intro (@rfl Val _) ?_; conv => whnf)
    | (refine And.intro (by decide) ?_; conv => whnf)
    | (refine cs (fun _ => ?_) (fun _ => ?_) <;> conv => whnf)
  · rename_i h
    rw [e3 (by simpa using h)]
    exact ⟨rfl, rfl⟩
  · rename_i h
    have c2 := c2 (by simpa using h)
    obtain ⟨kx, namex, argx, numx, tkx, tksx, ukx, uksx, labelx, placex, ksx⟩ := m
    refine c2.mono ?_
    rintro _ _ ⟨rfl, rfl⟩
    conv => whnf
    repeat' first
      | refine AW.seq ?_
      | refine AW.block ?_
      | (refine AW.region tab_ok ?_; conv => whnf)
      | (refine AW.cond ?_; conv => whnf)
      | (refine AW.skip ?_; conv => whnf)
      | (refine AW.ret ?_; conv => whnf)
      | (refine AW.exit ?_; conv => whnf)
      | (refine And.intro (@rfl Val _) ?_; conv => whnf)
      | (refine And.intro (by decide) ?_; conv => whnf)
      | (refine cs (fun _ => ?_) (fun _ => ?_) <;> conv => whnf)
    exact ⟨rfl, rfl⟩
set_option maxRecDepth 10000 in
theorem rBare_call (t : Tm) : ACall Try.prog 36 [t.val] [] (fun o σ => o = .ret (tmBareS t).val ∧ σ = []) := by
  have c1 := rtmCheck_call t
  have c2 : tmcheck t = 0 → ACall Try.prog 83 [t.val] [] (fun o σ => o = .ret (tmBareS t).val ∧ σ = []) := fun h => by
    rw [show tmBareS t = tmbare t by simp [tmBareS, h]]
    exact rbare_call t (tmcheck_ok h).2
  have e3 : tmcheck t ≠ 0 → tmBareS t = .node 0 ⟨#[]⟩ ⟨#[]⟩ 0 0 [] 0 [] 0 0 [] := fun h => by simp [tmBareS, h]
  generalize tmcheck t = cc at *
  generalize tmBareS t = m at *
  obtain ⟨k, name, arg, num, tk, tks, uk, uks, label, place, ks⟩ := t
  refine ACall.body tab_ok (ρ := 0) (N := 9) Try.func36 rfl rfl rfl rfl rfl ?_
  repeat' first
    | refine AW.seq ?_
    | refine AW.block ?_
    | (refine AW.region tab_ok ?_; conv => whnf)
    | (refine AW.cond ?_; conv => whnf)
    | (refine AW.skip ?_; conv => whnf)
    | (refine AW.ret ?_; conv => whnf)
    | (refine AW.exit ?_; conv => whnf)
    | (refine (c1).mono ?_; rintro _ _ ⟨rfl, rfl⟩; conv => whnf)
    | (refine And.intro (@rfl Val _) ?_; conv => whnf)
    | (refine And.intro (by decide) ?_; conv => whnf)
    | (refine cs (fun _ => ?_) (fun _ => ?_) <;> conv => whnf)
  · rename_i h
    rw [e3 (by simpa using h)]
    exact ⟨rfl, rfl⟩
  · rename_i h
    have c2 := c2 (by simpa using h)
    obtain ⟨kx, namex, argx, numx, tkx, tksx, ukx, uksx, labelx, placex, ksx⟩ := m
    refine c2.mono ?_
    rintro _ _ ⟨rfl, rfl⟩
    conv => whnf
    repeat' first
      | refine AW.seq ?_
      | refine AW.block ?_
      | (refine AW.region tab_ok ?_; conv => whnf)
      | (refine AW.cond ?_; conv => whnf)
      | (refine AW.skip ?_; conv => whnf)
      | (refine AW.ret ?_; conv => whnf)
      | (refine AW.exit ?_; conv => whnf)
      | (refine And.intro (@rfl Val _) ?_; conv => whnf)
      | (refine And.intro (by decide) ?_; conv => whnf)
      | (refine cs (fun _ => ?_) (fun _ => ?_) <;> conv => whnf)
    exact ⟨rfl, rfl⟩
theorem fine_bare (t : Tm) : tmN t ≤ 8192 → Fine (tmbare t) := by
  induction t using Tm.ind with
  | _ k name arg num tk tks uk uks label place ks ih =>
  intro hN
  have hlen := tmNL_len ks
  simp only [tmN] at hN
  simp only [tmbare]
  refine .node ?_ ?_ ?_ ?_
  · cases h : typeK k <;> simp_all [nodes, nodesL] <;> omega
  · cases h : toK k <;> simp_all [nodes, nodesL] <;> omega
  · rw [tmbares_len]; omega
  · intro x hx
    rw [tmbares_map] at hx
    obtain ⟨y, hy, rfl⟩ := List.mem_map.1 hx
    have := tmN_mem ks y hy
    exact ih y hy (by omega)
theorem fine_BareS (t : Tm) : Fine (tmBareS t) := by
  unfold tmBareS
  split
  · rename_i h
    exact fine_bare t (tmcheck_ok h).1
  · exact .node (by simp [nodes, nodesL]) (by simp [nodes, nodesL]) (by simp) (by simp)
set_option maxRecDepth 10000 in
theorem law_TermsBare (t : Tm) : ACall Try.prog 10 [t.val] [] (fun o σ => o = .ret (.c (.d (.bool true))) ∧ σ = []) := by
  have c1 := Bare_call t
  have c2 := rBare_call t
  have c3 := Whole_call _ (fine_BareS t)
  generalize tmBareS t = m at *
  obtain ⟨kx, namex, argx, numx, tkx, tksx, ukx, uksx, labelx, placex, ksx⟩ := m
  obtain ⟨k, name, arg, num, tk, tks, uk, uks, label, place, ks⟩ := t
  refine ACall.body tab_ok (ρ := 0) (N := 8) Try.func10 rfl rfl rfl rfl rfl ?_
  repeat' first
    | refine AW.seq ?_
    | refine AW.block ?_
    | (refine AW.region tab_ok ?_; conv => whnf)
    | (refine AW.draw (id := 1) tab_ok mixed [0, 2, 1, 3, 4, 5] (by kernel_rfl) ?_; conv => whnf)
    | (refine AW.cond ?_; conv => whnf)
    | (refine AW.skip ?_; conv => whnf)
    | (refine AW.ret ?_; conv => whnf)
    | (refine AW.exit ?_; conv => whnf)
    | (refine (c1).mono ?_; rintro _ _ ⟨rfl, rfl⟩; conv => whnf)
    | (refine (c2).mono ?_; rintro _ _ ⟨rfl, rfl⟩; conv => whnf)
    | (refine (c3).mono ?_; rintro _ _ ⟨rfl, rfl⟩; conv => whnf)
    | (refine And.intro (@rfl Val _) ?_; conv => whnf)
    | (refine And.intro (by decide) ?_; conv => whnf)
    | (refine cs (fun _ => ?_) (fun _ => ?_) <;> conv => whnf)
  all_goals exact ⟨rfl, rfl⟩
end Go.Proofs.Ytdhkopangbgehaa.E
