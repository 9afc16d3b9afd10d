/- Walk: terms of the document's answer on the order; Terms, both; the law OrderTerms. No conditions. -/
import Derived.Test.YtdhkopangbgehaaTm16
import Derived.Test.YtdhkopangbgehaaTy5
set_option linter.unusedVariables false
set_option linter.unusedSimpArgs false
namespace Go.Proofs.Ytdhkopangbgehaa.E
open Go

def ownTerms : Tm → Tm → Bool
  | .node k name arg num tk tks uk uks label place ks, .node k' name' arg' num' tk' tks' uk' uks' label' place' ks' =>
    decide (k = k') && (!(nameK k || decide (k = 15)) || decide (name = name')) && (!argK k || decide (arg = arg')) && (!decide (k = 1) || decide (num = num'))
      && (!typeK k || lessF (.node tk tks) (.node tk' tks')) && (!toK k || lessF (.node uk uks) (.node uk' uks'))
mutual
def tmterms : Tm → Tm → Bool
  | .node k name arg num tk tks uk uks label place ks, .node k' name' arg' num' tk' tks' uk' uks' label' place' ks' => ownTerms (.node k name arg num tk tks uk uks label place ks) (.node k' name' arg' num' tk' tks' uk' uks' label' place' ks') && tmtermss ks ks'
def tmtermss : List Tm → List Tm → Bool
  | [], _ => true
  | _ :: _, [] => false
  | a :: l, b :: l' => tmterms a b && tmtermss l l'
end
theorem tmtermss_all : ∀ (ks ks' : List Tm), ks.length = ks'.length → (tmtermss ks ks' = true ↔ ∀ (j : Nat) x y, ks[j]? = some x → ks'[j]? = some y → tmterms x y = true)
  | [], [], _ => by simp [tmtermss]
  | a :: l, b :: l', h => by
    have ih := tmtermss_all l l' (by simpa using h)
    simp only [tmtermss, Bool.and_eq_true, ih]
    constructor
    · rintro ⟨h1, h2⟩ j x y hx hy
      cases j with
      | zero => simp at hx hy; subst hx; subst hy; exact h1
      | succ j => simp only [List.getElem?_cons_succ] at hx hy; exact h2 j x y hx hy
    · intro h
      exact ⟨h 0 a b rfl rfl, fun j x y hx hy => h (j + 1) x y (by simpa using hx) (by simpa using hy)⟩
structure TmTermsI (ks ks' : List Tm) where
  i : Nat
  hi : i ≤ ks.length
  h : ∀ (j : Nat), j < i → ∀ x y, ks[j]? = some x → ks'[j]? = some y → tmterms x y = true
noncomputable def rest100 : Code := match Try.f100.body with
  | some (.seq _ (.seq _ (.seq _ c))) => c
  | _ => .skip
set_option maxRecDepth 10000 in
theorem rterms_rest (k : Int) (name arg : ByteArray) (num tk : Int) (tks : List Ty) (uk : Int) (uks : List Ty) (label place : Int) (ks : List Tm) (k' : Int) (name' arg' : ByteArray) (num' tk' : Int) (tks' : List Ty) (uk' : Int) (uks' : List Ty) (label' place' : Int) (ks' : List Tm) (hkk : ks.length = ks'.length) (hlen : ks.length ≤ 3)
    (ih : ∀ x ∈ ks, ∀ y ∈ ks', ACall Try.prog 100 [x.val, y.val] [] (fun o σ => o = .ret (.c (.d (.bool (tmterms x y)))) ∧ σ = [])) :
    AW Try.prog tab 0 rest100 ⟨90, [(2, .c (.ptr 0 0)), (3, .c (.ptr 1 0))], [.var [.d (.int .i8 k), .d (.str name), .d (.str arg), .d (.int .i64 num), .d (.int .i8 tk), .d (.sl 0 2 (Ty.rows tks)), .d (.int .i8 uk), .d (.sl 0 2 (Ty.rows uks)), .d (.int .i64 label), .d (.int .i64 place), .d (.sl 0 11 (Tm.rows ks))], .var [.d (.int .i8 k'), .d (.str name'), .d (.str arg'), .d (.int .i64 num'), .d (.int .i8 tk'), .d (.sl 0 2 (Ty.rows tks')), .d (.int .i8 uk'), .d (.sl 0 2 (Ty.rows uks')), .d (.int .i64 label'), .d (.int .i64 place'), .d (.sl 0 11 (Tm.rows ks'))]], []⟩
      (afin tab 0 100 [.tmp 4] 0 (fun o σ => o = .ret (.c (.d (.bool (tmtermss ks ks')))) ∧ σ = [])) := by
  repeat' first
    | refine AW.seq ?_
    | refine AW.block ?_
    | (refine AW.region tab_ok ?_; conv => whnf)
    | (refine AW.draw (id := 8) tab_ok mixed [0, 1, 2, 3, 4, 5, 6, 7, 8, 9, 10, 11] (by kernel_rfl) ?_; conv => whnf)
    | (refine AW.cond ?_; conv => whnf)
    | (refine AW.skip ?_; conv => whnf)
    | (refine AW.ret ?_; conv => whnf)
    | (refine AW.exit ?_; conv => whnf)
    | (refine And.intro (@rfl Val _) ?_; conv => whnf)
    | (refine And.intro (by decide) ?_; conv => whnf)
    | (refine cs (fun _ => ?_) (fun _ => ?_) <;> conv => whnf)
  refine AW.loop (ι := TmTermsI ks ks') (fun x => ⟨90, [(5, .c (.d (.int .i64 x.i))), (2, .c (.ptr 0 0)), (3, .c (.ptr 1 0))], [.var [.d (.int .i8 k), .d (.str name), .d (.str arg), .d (.int .i64 num), .d (.int .i8 tk), .d (.sl 0 2 (Ty.rows tks)), .d (.int .i8 uk), .d (.sl 0 2 (Ty.rows uks)), .d (.int .i64 label), .d (.int .i64 place), .d (.sl 0 11 (Tm.rows ks))], .var [.d (.int .i8 k'), .d (.str name'), .d (.str arg'), .d (.int .i64 num'), .d (.int .i8 tk'), .d (.sl 0 2 (Ty.rows tks')), .d (.int .i8 uk'), .d (.sl 0 2 (Ty.rows uks')), .d (.int .i64 label'), .d (.int .i64 place'), .d (.sl 0 11 (Tm.rows ks'))]], []⟩)
    (fun x => ks.length - x.i) ⟨0, Nat.zero_le _, fun j h => by omega⟩ 2 (fun _ => rfl) (Nat.le_of_ble_eq_true rfl) ⟨⟨rfl, rfl, rfl, trivial⟩, rfl, rfl, ⟨[], rfl⟩, rfl⟩ (fun x => ?_)
  obtain ⟨i, hi, hj⟩ := x
  repeat' first
    | refine AW.seq ?_
    | refine AW.block ?_
    | (refine AW.region tab_ok ?_; conv => whnf)
    | (refine AW.draw (id := 8) tab_ok mixed [0, 1, 2, 3, 4, 5, 6, 7, 8, 9, 10, 11] (by kernel_rfl) ?_; conv => whnf)
    | (refine AW.cond ?_; conv => whnf)
    | (refine AW.skip ?_; conv => whnf)
    | (refine AW.ret ?_; conv => whnf)
    | (refine AW.exit ?_; conv => whnf)
    | (refine And.intro (@rfl Val _) ?_; conv => whnf)
    | (refine And.intro (by decide) ?_; conv => whnf)
    | (refine cs (fun _ => ?_) (fun _ => ?_) <;> conv => whnf)
  · rename_i h1
    simp only [trows_length] at h1 ⊢
    have := of_decide_eq_true h1
    refine ⟨by omega, fun row hrow => ?_⟩
    obtain ⟨⟨kx, namex, argx, numx, tkx, tksx, ukx, uksx, labelx, placex, ksx⟩, ht, rfl⟩ := trows_get ks i row (by simpa using hrow)
    have hlt : i < ks.length := (List.getElem?_eq_some_iff.1 ht).1
    have hm := List.mem_of_getElem? ht
    conv => whnf
    repeat' first
      | refine AW.seq ?_
      | refine AW.block ?_
      | (refine AW.region tab_ok ?_; conv => whnf)
      | (refine AW.draw (id := 8) tab_ok mixed [0, 1, 2, 3, 4, 5, 6, 7, 8, 9, 10, 11] (by kernel_rfl) ?_; conv => whnf)
      | (refine AW.cond ?_; conv => whnf)
      | (refine AW.skip ?_; conv => whnf)
      | (refine AW.ret ?_; conv => whnf)
      | (refine AW.exit ?_; conv => whnf)
      | (refine And.intro (@rfl Val _) ?_; conv => whnf)
      | (refine And.intro (by decide) ?_; conv => whnf)
      | (refine cs (fun _ => ?_) (fun _ => ?_) <;> conv => whnf)
    simp only [trows_length]
    refine ⟨by omega, fun row hrow => ?_⟩
    obtain ⟨⟨ky, namey, argy, numy, tky, tksy, uky, uksy, labely, placey, ksy⟩, hu, rfl⟩ := trows_get ks' i row (by simpa using hrow)
    have hm' := List.mem_of_getElem? hu
    have hc := ih _ hm _ hm'
    have hno : tmterms (Tm.node kx namex argx numx tkx tksx ukx uksx labelx placex ksx) (Tm.node ky namey argy numy tky tksy uky uksy labely placey ksy) = false → tmtermss ks ks' = false := fun h2 => by
      cases hc : tmtermss ks ks' with
      | false => rfl
      | true => rw [(tmtermss_all ks ks' hkk).1 hc i _ _ ht hu] at h2; cases h2
    have hye : tmterms (Tm.node kx namex argx numx tkx tksx ukx uksx labelx placex ksx) (Tm.node ky namey argy numy tky tksy uky uksy labely placey ksy) = true → ∀ j, j < i + 1 → ∀ x y, ks[j]? = some x → ks'[j]? = some y → tmterms x y = true := fun h2 j h x y hx hy => by
      by_cases e : j = i
      · subst e; rw [ht] at hx; rw [hu] at hy; cases hx; cases hy; exact h2
      · exact hj j (by omega) x y hx hy
    generalize tmterms (Tm.node kx namex argx numx tkx tksx ukx uksx labelx placex ksx) (Tm.node ky namey argy numy tky tksy uky uksy labely placey ksy) = bb at hc hno hye
    conv => whnf
    repeat' first
      | refine AW.seq ?_
      | refine AW.block ?_
      | (refine AW.region tab_ok ?_; conv => whnf)
      | (refine AW.draw (id := 8) tab_ok mixed [0, 1, 2, 3, 4, 5, 6, 7, 8, 9, 10, 11] (by kernel_rfl) ?_; conv => whnf)
      | (refine AW.cond ?_; conv => whnf)
      | (refine AW.skip ?_; conv => whnf)
      | (refine AW.ret ?_; conv => whnf)
      | (refine AW.exit ?_; conv => whnf)
      | (refine (hc).mono ?_; rintro _ _ ⟨rfl, rfl⟩; conv => whnf)
      | (refine And.intro (@rfl Val _) ?_; conv => whnf)
      | (refine And.intro (by decide) ?_; conv => whnf)
      | (refine cs (fun _ => ?_) (fun _ => ?_) <;> conv => whnf)
    · rename_i h2
      have h2 : bb = false := by simpa using h2
      have := hno h2
      exact ⟨outb this.symm, rfl⟩
    · rename_i h2
      have h2 : bb = true := by simpa using h2
      rw [wrap64 (x := (i : Int) + 1) (by omega) (by omega)]
      exact ⟨⟨i + 1, hlt, hye h2⟩, ⟨⟨rfl, rfl, rfl, trivial⟩, rfl, rfl, ⟨[], rfl⟩, rfl⟩, show ks.length - (i + 1) < ks.length - i by omega⟩
  · rename_i h1
    simp only [trows_length] at h1
    have := of_decide_eq_false h1
    obtain rfl : i = ks.length := by omega
    have : tmtermss ks ks' = true := (tmtermss_all ks ks' hkk).2 fun j x y hx hy => hj j (List.getElem?_eq_some_iff.1 hx).1 x y hx hy
    exact ⟨outb this.symm, rfl⟩
set_option maxRecDepth 10000 in
set_option maxHeartbeats 4000000 in
theorem rterms_call (a : Tm) : ∀ b, tmright a = true → tmright b = true → ACall Try.prog 100 [a.val, b.val] [] (fun o σ => o = .ret (.c (.d (.bool (tmterms a b)))) ∧ σ = []) := by
  induction a using Tm.ind with
  | _ k name arg num tk tks uk uks label place ks ih =>
  rintro ⟨k', name', arg', num', tk', tks', uk', uks', label', place', ks'⟩ ha hb
  have ih' : ∀ x ∈ ks, ∀ y ∈ ks', ACall Try.prog 100 [x.val, y.val] [] (fun o σ => o = .ret (.c (.d (.bool (tmterms x y)))) ∧ σ = []) := fun x hx y hy => ih x hx y (tmright_kid ha hx) (tmright_kid hb hy)
  have la := tmright_len ha
  have lb := tmright_len hb
  have le := kidsK_le k
  have fin : ownTerms (.node k name arg num tk tks uk uks label place ks) (.node k' name' arg' num' tk' tks' uk' uks' label' place' ks') = true → ∀ env, get env 2 = .c (.ptr 0 0) → get env 3 = .c (.ptr 1 0) →
      AW Try.prog tab 0 rest100 ⟨90, env, [.var [.d (.int .i8 k), .d (.str name), .d (.str arg), .d (.int .i64 num), .d (.int .i8 tk), .d (.sl 0 2 (Ty.rows tks)), .d (.int .i8 uk), .d (.sl 0 2 (Ty.rows uks)), .d (.int .i64 label), .d (.int .i64 place), .d (.sl 0 11 (Tm.rows ks))], .var [.d (.int .i8 k'), .d (.str name'), .d (.str arg'), .d (.int .i64 num'), .d (.int .i8 tk'), .d (.sl 0 2 (Ty.rows tks')), .d (.int .i8 uk'), .d (.sl 0 2 (Ty.rows uks')), .d (.int .i64 label'), .d (.int .i64 place'), .d (.sl 0 11 (Tm.rows ks'))]], []⟩ (afin tab 0 100 Try.f100.results.toList ([] : List AObj).length (fun o σ => o = .ret (.c (.d (.bool (tmterms (.node k name arg num tk tks uk uks label place ks) (.node k' name' arg' num' tk' tks' uk' uks' label' place' ks'))))) ∧ σ = [])) := fun ho env g0 g1 => by
    have e : tmterms (.node k name arg num tk tks uk uks label place ks) (.node k' name' arg' num' tk' tks' uk' uks' label' place' ks') = tmtermss ks ks' := by simp [tmterms, ho]
    have ek : k = k' := by simp only [ownTerms, Bool.and_eq_true, decide_eq_true_eq] at ho; exact ho.1.1.1.1.1
    rw [e]
    refine AW.fits ?_ ?_ (rterms_rest k name arg num tk tks uk uks label place ks k' name' arg' num' tk' tks' uk' uks' label' place' ks' (by subst ek; omega) (by omega) ih')
    · exact ⟨⟨g0, g1, trivial⟩, rfl, rfl, ⟨[], rfl⟩, rfl⟩
    · rfl
  have hv := tmright_valid ha
  obtain ⟨p1, p2⟩ := tmtype_right ha
  obtain ⟨q1, q2⟩ := tmtype_right hb
  have w1 : typeK k = true → k = k' → ACall Try.prog 64 [(Ty.node tk tks).val, (Ty.node tk' tks').val] [] (fun o σ => o = .ret (.c (.d (.bool (lessF (.node tk tks) (.node tk' tks'))))) ∧ σ = []) := fun h e => rless_call _ _ (p1 h) (q1 (e ▸ h))
  have w2 : toK k = true → k = k' → ACall Try.prog 64 [(Ty.node uk uks).val, (Ty.node uk' uks').val] [] (fun o σ => o = .ret (.c (.d (.bool (lessF (.node uk uks) (.node uk' uks'))))) ∧ σ = []) := fun h e => rless_call _ _ (p2 h) (q2 (e ▸ h))
  clear ih ih' ha hb la lb le p1 p2 q1 q2
  by_cases ek : k = k'
  · subst ek
    rcases kinds k hv with rfl | rfl | rfl | rfl | rfl | rfl | rfl | rfl | rfl | rfl | rfl | rfl | rfl | rfl | rfl | rfl | rfl | rfl
    all_goals
      have x1 := fun h => w1 h rfl
      have x2 := fun h => w2 h rfl
      refine ACall.body tab_ok (ρ := 0) (N := 90) Try.func100 rfl rfl rfl rfl rfl ?_
      repeat' first
        | (refine fin ?_ _ rfl rfl)
        | refine AW.seq ?_
        | refine AW.block ?_
        | (refine AW.region tab_ok ?_; conv => whnf)
        | (refine AW.draw (id := 8) tab_ok mixed [0, 1, 2, 3, 4, 5, 6, 7, 8, 9, 10, 11] (by kernel_rfl) ?_; conv => whnf)
        | (refine AW.cond ?_; conv => whnf)
        | (refine AW.skip ?_; conv => whnf)
        | (refine AW.ret ?_; conv => whnf)
        | (refine AW.exit ?_; conv => whnf)
        | (refine (rhasName_call _).mono ?_; rintro _ _ ⟨rfl, rfl⟩; conv => whnf)
        | (refine (rhasArg_call _).mono ?_; rintro _ _ ⟨rfl, rfl⟩; conv => whnf)
        | (refine (rhasType_call _).mono ?_; rintro _ _ ⟨rfl, rfl⟩; conv => whnf)
        | (refine (rhasTo_call _).mono ?_; rintro _ _ ⟨rfl, rfl⟩; conv => whnf)
        | (refine (x1 rfl).mono ?_; rintro _ _ ⟨rfl, rfl⟩; conv => whnf)
        | (refine (x2 rfl).mono ?_; rintro _ _ ⟨rfl, rfl⟩; conv => whnf)
        | (refine And.intro (@rfl Val _) ?_; conv => whnf)
        | (refine And.intro (by decide) ?_; conv => whnf)
        | (refine cs (fun _ => ?_) (fun _ => ?_) <;> conv => whnf)
    all_goals first
      | (clear fin hv w1 w2 x1 x2
         refine ⟨outb ?_, rfl⟩
         simp only [tmterms, ownTerms]
         try simp [nameK, argK, typeK, toK] at *
         try simp_all
         done)
      | (clear fin hv w1 w2 x1 x2
         simp only [ownTerms]
         try simp [nameK, argK, typeK, toK] at *
         try simp_all
         done)
      | trace_state
  · have ek2 : (k != k') = true := by simpa using ek
    have hr : tmterms (.node k name arg num tk tks uk uks label place ks) (.node k' name' arg' num' tk' tks' uk' uks' label' place' ks') = false := by simp [tmterms, ownTerms, ek]
    rw [hr]
    clear fin w1 w2
    refine ACall.body tab_ok (ρ := 0) (N := 90) Try.func100 rfl rfl rfl rfl rfl ?_
    repeat' first
      | refine AW.seq ?_
      | refine AW.block ?_
      | (refine AW.region tab_ok ?_; conv => whnf)
      | (refine AW.draw (id := 8) tab_ok mixed [0, 1, 2, 3, 4, 5, 6, 7, 8, 9, 10, 11] (by kernel_rfl) ?_; conv => whnf)
      | (refine AW.cond ?_; conv => whnf)
      | (refine AW.skip ?_; conv => whnf)
      | (refine AW.ret ?_; conv => whnf)
      | (refine AW.exit ?_; conv => whnf)
      | (refine And.intro (@rfl Val _) ?_; conv => whnf)
      | (refine And.intro (by decide) ?_; conv => whnf)
      | (refine cs (fun _ => ?_) (fun _ => ?_) <;> conv => whnf)
    all_goals first | exact ⟨rfl, rfl⟩ | (rename_i h; rw [ek2] at h; cases h)
/-! ### An open term is one -/
theorem tdepth_pos (t : Ty) : 1 ≤ tdepth t := by
  unfold tdepth
  split
  · omega
  · cases t with
    | node k ks =>
      have : ∀ n, 1 ≤ deepF (.node k ks) (n + 1) := fun n => by simp only [deepF]; (try split) <;> omega
      exact this 200
theorem open_N (t : Tm) : tmN (tmopen t) ≤ tmN t := by
  induction t using Tm.ind with
  | _ k name arg num tk tks uk uks label place ks ih =>
  have hs : ∀ l : List Tm, (∀ t ∈ l, tmN (tmopen t) ≤ tmN t) → tmNL (tmopens l) ≤ tmNL l := fun l => by
    induction l with
    | nil => intro _; simp [tmopens, tmNL]
    | cons x l ihl =>
      intro h
      have h1 := h x (by simp)
      have h2 := ihl fun t ht => h t (by simp [ht])
      simp only [tmopens, tmNL]
      omega
  have h2 := hs ks ih
  have n1 := nodes_pos (.node tk tks)
  have n2 := nodes_pos (.node uk uks)
  have z : nodes (.node 0 []) = 1 := by simp [nodes, nodesL]
  simp only [tmopen, tmN, z]
  split <;> split <;> omega
theorem open_D (t : Tm) : ∀ m, tmD (tmopen t) m ≤ tmD t m := by
  induction t using Tm.ind with
  | _ k name arg num tk tks uk uks label place ks ih =>
  intro m
  have hs : ∀ (l : List Tm) (m : Nat), (∀ t ∈ l, ∀ m, tmD (tmopen t) m ≤ tmD t m) → tmDL (tmopens l) m ≤ tmDL l m := fun l m => by
    induction l with
    | nil => intro _; simp [tmopens, tmDL]
    | cons x l ihl =>
      intro h
      have h1 := h x (by simp) m
      have h2 := ihl fun t ht => h t (by simp [ht])
      simp only [tmopens, tmDL]
      omega
  have h2 := hs ks (m - 1) ih
  have n1 := tdepth_pos (.node tk tks)
  have n2 := tdepth_pos (.node uk uks)
  have z : tdepth (.node 0 []) = 1 := by decide +kernel
  simp only [tmopen, tmD, z]
  by_cases hm : m ≤ 1
  · rw [if_pos hm, if_pos hm]; exact Nat.le_refl _
  · rw [if_neg hm, if_neg hm]
    cases typeK k <;> cases toK k <;> simp only [if_true, if_false, Bool.false_eq_true] <;> omega
theorem open_right (t : Tm) : tmright t = true → tmright (tmopen t) = true := by
  induction t using Tm.ind with
  | _ k name arg num tk tks uk uks label place ks ih =>
  intro h
  have z : tcheck (.node 0 []) = 0 := by decide +kernel
  have hk : tmrights (tmopens ks) = true := (tmrights_all _).2 fun x hx => by
    rw [tmopens_map] at hx
    obtain ⟨y, hy, rfl⟩ := List.mem_map.1 hx
    exact ih y hy (tmright_kid h hy)
  simp only [tmopen, tmright, ownRight, Bool.and_eq_true] at h ⊢
  obtain ⟨⟨⟨⟨⟨⟨⟨h1, h2⟩, h3⟩, h4⟩, h5⟩, h6⟩, h7⟩, h8⟩ := h
  refine ⟨⟨⟨⟨⟨⟨⟨?_, h2⟩, h3⟩, h4⟩, ?_⟩, ?_⟩, h7⟩, hk⟩
  · rw [tmopens_len]; exact h1
  · simp [z]
  · simp [z]
theorem open_check {t : Tm} (h : tmcheck t = 0) : tmcheck (tmopen t) = 0 := by
  have n := open_N t
  have d := open_D t 201
  unfold tmcheck at h ⊢
  split at h
  · omega
  · split at h
    · omega
    · split at h
      · rename_i h3
        rw [if_neg (by omega), if_neg (by omega), if_pos (open_right t h3)]
      · omega
/-- What the two sides tell of right terms without casts. -/
theorem open_terms (a : Tm) : ∀ b, tmright a = true → tmhas 17 a = false → (tmsame (tmopen a) (tmopen b) && tmeach a b) = tmterms a b := by
  induction a using Tm.ind with
  | _ k name arg num tk tks uk uks label place ks ih =>
  rintro ⟨k', name', arg', num', tk', tks', uk', uks', label', place', ks'⟩ ha hc
  have hs : ∀ l l' : List Tm, (∀ t ∈ l, ∀ b, (tmsame (tmopen t) (tmopen b) && tmeach t b) = tmterms t b) → (tmsames (tmopens l) (tmopens l') && tmeachs l l') = tmtermss l l' := fun l => by
    induction l with
    | nil => intro l' _; simp [tmopens, tmsames, tmeachs, tmtermss]
    | cons x l ihl =>
      intro l' h
      cases l' with
      | nil => simp [tmopens, tmsames, tmeachs, tmtermss]
      | cons y l' =>
        have h1 := h x (by simp) y
        have h2 := ihl l' fun t ht => h t (by simp [ht])
        simp only [tmopens, tmsames, tmeachs, tmtermss, ← h1, ← h2]
        ac_rfl
  have h2 := hs ks ks' fun t ht b => ih t ht b (tmright_kid ha ht) (tmhas_kid hc ht)
  have z : sameS (.node 0 []) (.node 0 []) = true := by decide +kernel
  have hv := tmright_valid ha
  have hk : k ≠ 17 := fun e => by subst e; simp [tmhas] at hc
  have f1 : typeK k = fromA k := by
    rw [Bool.eq_iff_iff]; simp [typeK, fromA]; omega
  have f2 : toK k = decide (k = 5) := by
    rw [Bool.eq_iff_iff]; simp [toK]; omega
  have e1 : decide (k = 17) = false := by simp [hk]
  simp only [tmopen, tmsame, tmeach, tmterms, ownSame, ownEach, ownTerms, z, f1, f2, e1, ← h2, Bool.or_true, Bool.and_true, Bool.not_false, Bool.true_or]
  ac_rfl
theorem tmcheck_fine {t : Tm} (h : tmcheck t = 0) : tmN t ≤ 8192 ∧ tmright t = true := by
  unfold tmcheck at h
  split at h
  · omega
  · split at h
    · omega
    · split at h
      · rename_i h3; exact ⟨by omega, h3⟩
      · omega
def termsS (a b : Tm) : Bool := decide (tmcheck a = 0) && decide (tmcheck b = 0) && !tmhas 17 a && !tmhas 17 b && tmterms a b
set_option maxRecDepth 10000 in
theorem rTerms_call (a b : Tm) : ACall Try.prog 50 [a.val, b.val] [] (fun o σ => o = .ret (.c (.d (.bool (termsS a b)))) ∧ σ = []) := by
  have c1 := rtmCheck_call a
  have c2 := rtmCheck_call b
  have c3 : tmcheck a = 0 → ACall Try.prog 99 [a.val, .c (.d (.int .i8 17))] [] (fun o σ => o = .ret (.c (.d (.bool (tmhas 17 a)))) ∧ σ = []) := fun h => rhas_call 17 a (tmcheck_fine h).1
  have c4 : tmcheck b = 0 → ACall Try.prog 99 [b.val, .c (.d (.int .i8 17))] [] (fun o σ => o = .ret (.c (.d (.bool (tmhas 17 b)))) ∧ σ = []) := fun h => rhas_call 17 b (tmcheck_fine h).1
  have c5 : tmcheck a = 0 → tmcheck b = 0 → ACall Try.prog 100 [a.val, b.val] [] (fun o σ => o = .ret (.c (.d (.bool (tmterms a b)))) ∧ σ = []) := fun h1 h2 => rterms_call a b (tmcheck_right h1) (tmcheck_right h2)
  have e : termsS a b = (decide (tmcheck a = 0) && decide (tmcheck b = 0) && !tmhas 17 a && !tmhas 17 b && tmterms a b) := rfl
  rw [e]
  generalize tmcheck a = ca at *
  generalize tmcheck b = cb at *
  generalize tmhas 17 a = fa at *
  generalize tmhas 17 b = fb at *
  generalize tmterms a b = ss at *
  clear e
  obtain ⟨k, name, arg, num, tk, tks, uk, uks, label, place, ks⟩ := a
  obtain ⟨k', name', arg', num', tk', tks', uk', uks', label', place', ks'⟩ := b
  by_cases h1 : ca = 0
  · subst h1
    by_cases h2 : cb = 0
    · subst h2
      have c3 := c3 rfl
      have c4 := c4 rfl
      have c5 := c5 rfl rfl
      refine ACall.body tab_ok (ρ := 0) (N := 24) Try.func50 rfl rfl rfl rfl rfl ?_
      repeat' first
        | refine AW.seq ?_
        | refine AW.block ?_
        | (refine AW.region tab_ok ?_; conv => whnf)
        | (refine AW.cond ?_; conv => whnf)
        | (refine AW.skip ?_; conv => whnf)
        | (refine AW.ret ?_; conv => whnf)
        | (refine AW.exit ?_; conv => whnf)
        | (refine (c1).mono ?_; rintro _ _ ⟨rfl, rfl⟩; conv => whnf)
        | (refine (c2).mono ?_; rintro _ _ ⟨rfl, rfl⟩; conv => whnf)
        | (refine (c3).mono ?_; rintro _ _ ⟨rfl, rfl⟩; conv => whnf)
        | (refine (c4).mono ?_; rintro _ _ ⟨rfl, rfl⟩; conv => whnf)
        | (refine (c5).mono ?_; rintro _ _ ⟨rfl, rfl⟩; conv => whnf)
        | (refine And.intro (@rfl Val _) ?_; conv => whnf)
        | (refine And.intro (by decide) ?_; conv => whnf)
        | (refine cs (fun _ => ?_) (fun _ => ?_) <;> conv => whnf)
      all_goals first | exact ⟨outb (by simp_all), rfl⟩ | trace_state
    · refine ACall.body tab_ok (ρ := 0) (N := 24) Try.func50 rfl rfl rfl rfl rfl ?_
      skip
      repeat' first
        | refine AW.seq ?_
        | refine AW.block ?_
        | (refine AW.region tab_ok ?_; conv => whnf)
        | (refine AW.cond ?_; conv => whnf)
        | (refine AW.skip ?_; conv => whnf)
        | (refine AW.ret ?_; conv => whnf)
        | (refine AW.exit ?_; conv => whnf)
        | (refine (c1).mono ?_; rintro _ _ ⟨rfl, rfl⟩; conv => whnf)
        | (refine (c2).mono ?_; rintro _ _ ⟨rfl, rfl⟩; conv => whnf)
        | (refine And.intro (@rfl Val _) ?_; conv => whnf)
        | (refine And.intro (by decide) ?_; conv => whnf)
        | (refine cs (fun _ => ?_) (fun _ => ?_) <;> conv => whnf)
      all_goals first | exact ⟨outb (by simp_all), rfl⟩ | (exfalso; simp_all; done) | trace_state
  · refine ACall.body tab_ok (ρ := 0) (N := 24) Try.func50 rfl rfl rfl rfl rfl ?_
    skip
    repeat' first
      | refine AW.seq ?_
      | refine AW.block ?_
      | (refine AW.region tab_ok ?_; conv => whnf)
      | (refine AW.cond ?_; conv => whnf)
      | (refine AW.skip ?_; conv => whnf)
      | (refine AW.ret ?_; conv => whnf)
      | (refine AW.exit ?_; conv => whnf)
      | (refine (c1).mono ?_; rintro _ _ ⟨rfl, rfl⟩; conv => whnf)
      | (refine (c2).mono ?_; rintro _ _ ⟨rfl, rfl⟩; conv => whnf)
      | (refine And.intro (@rfl Val _) ?_; conv => whnf)
      | (refine And.intro (by decide) ?_; conv => whnf)
      | (refine cs (fun _ => ?_) (fun _ => ?_) <;> conv => whnf)
    all_goals first | exact ⟨outb (by simp_all), rfl⟩ | (exfalso; simp_all; done) | trace_state
set_option maxRecDepth 10000 in
theorem Terms_call (a b : Tm) : ACall Try.prog 49 [a.val, b.val] [] (fun o σ => o = .ret (.c (.d (.bool (termsS a b)))) ∧ σ = []) := by
  have c1 := tmCheck_call a
  have c2 := tmCheck_call b
  by_cases h1 : tmcheck a = 0
  · by_cases h2 : tmcheck b = 0
    · have c3 := open_call a (tmcheck_fine h1).1
      have c4 := open_call b (tmcheck_fine h2).1
      have r3 : ∀ o σ, openR a o σ → ∃ m : Tm, (tmhas 17 a = false → m = tmopen a) ∧ o = .ret (.tup [m.val, .c (.d (.bool (!tmhas 17 a)))]) ∧ σ = [] := fun _ _ h => h
      have r4 : ∀ o σ, openR b o σ → ∃ m : Tm, (tmhas 17 b = false → m = tmopen b) ∧ o = .ret (.tup [m.val, .c (.d (.bool (!tmhas 17 b)))]) ∧ σ = [] := fun _ _ h => h
      have c5 : tmhas 17 a = false → tmsame (tmopen a) (tmopen b) = true → ACall Try.prog 98 [.c (.d (.rp 0 a.cells)), .c (.d (.rp 0 b.cells))] [] (fun o σ => o = .ret (.c (.d (.bool (tmeach a b)))) ∧ σ = []) := fun q1 q2 => each_call a b (tmcheck_right h1) (tmcheck_right h2) q1 q2
      have e6 : sameT (tmopen a) (tmopen b) = tmsame (tmopen a) (tmopen b) := by simp [sameT, open_check h1, open_check h2]
      have e7 : tmhas 17 a = false → (tmsame (tmopen a) (tmopen b) && tmeach a b) = tmterms a b := fun h => open_terms a b (tmcheck_right h1) h
      have e : termsS a b = (!tmhas 17 a && !tmhas 17 b && tmterms a b) := by simp [termsS, h1, h2]
      rw [e]
      rw [h1] at c1
      rw [h2] at c2
      have c8 := tSame_call (tmopen a) (tmopen b)
      rw [e6] at c8
      generalize openR a = Ra at *
      generalize openR b = Rb at *
      generalize tmhas 17 a = fa at *
      generalize tmhas 17 b = fb at *
      generalize tmterms a b = ss at *
      generalize tmeach a b = se at *
      generalize tmsame (tmopen a) (tmopen b) = sm at *
      generalize tmopen a = xa at *
      generalize tmopen b = xb at *
      clear e e6 h1 h2
      obtain ⟨k, name, arg, num, tk, tks, uk, uks, label, place, ks⟩ := a
      obtain ⟨k', name', arg', num', tk', tks', uk', uks', label', place', ks'⟩ := b
      refine ACall.body tab_ok (ρ := 0) (N := 39) Try.func49 rfl rfl rfl rfl rfl ?_
      repeat' first
        | refine AW.seq ?_
        | refine AW.block ?_
        | (refine AW.region tab_ok ?_; conv => whnf)
        | (refine AW.cond ?_; conv => whnf)
        | (refine AW.skip ?_; conv => whnf)
        | (refine AW.ret ?_; conv => whnf)
        | (refine AW.exit ?_; conv => whnf)
        | (refine (c1).mono ?_; rintro _ _ ⟨rfl, rfl⟩; conv => whnf)
        | (refine (c2).mono ?_; rintro _ _ ⟨rfl, rfl⟩; conv => whnf)
        | (refine And.intro (@rfl Val _) ?_; conv => whnf)
        | (refine And.intro (by decide) ?_; conv => whnf)
        | (refine cs (fun _ => ?_) (fun _ => ?_) <;> conv => whnf)
      refine c3.mono ?_
      intro o1 σ1 hR
      obtain ⟨⟨ky, namey, argy, numy, tky, tksy, uky, uksy, labely, placey, ksy⟩, hm, rfl, rfl⟩ := r3 _ _ hR
      conv => whnf
      repeat' first
        | refine AW.seq ?_
        | refine AW.block ?_
        | (refine AW.region tab_ok ?_; conv => whnf)
        | (refine AW.cond ?_; conv => whnf)
        | (refine AW.skip ?_; conv => whnf)
        | (refine AW.ret ?_; conv => whnf)
        | (refine AW.exit ?_; conv => whnf)
        | (refine And.intro (@rfl Val _) ?_; conv => whnf)
        | (refine And.intro (by decide) ?_; conv => whnf)
        | (refine cs (fun _ => ?_) (fun _ => ?_) <;> conv => whnf)
      refine c4.mono ?_
      intro o2 σ2 hR2
      obtain ⟨⟨kz, namez, argz, numz, tkz, tksz, ukz, uksz, labelz, placez, ksz⟩, hm2, rfl, rfl⟩ := r4 _ _ hR2
      conv => whnf
      repeat' first
        | refine AW.seq ?_
        | refine AW.block ?_
        | (refine AW.region tab_ok ?_; conv => whnf)
        | (refine AW.cond ?_; conv => whnf)
        | (refine AW.skip ?_; conv => whnf)
        | (refine AW.ret ?_; conv => whnf)
        | (refine AW.exit ?_; conv => whnf)
        | (refine And.intro (@rfl Val _) ?_; conv => whnf)
        | (refine And.intro (by decide) ?_; conv => whnf)
        | (refine cs (fun _ => ?_) (fun _ => ?_) <;> conv => whnf)
      · rename_i g1 g2
        have g1 : fa = false := by simpa using g1
        have g2 : fb = false := by simpa using g2
        have hm := hm g1
        have hm2 := hm2 g2
        subst hm; subst hm2
        refine c8.mono ?_
        rintro _ _ ⟨rfl, rfl⟩
        conv => whnf
        repeat' first
          | refine AW.seq ?_
          | refine AW.block ?_
          | (refine AW.region tab_ok ?_; conv => whnf)
          | (refine AW.cond ?_; conv => whnf)
          | (refine AW.skip ?_; conv => whnf)
          | (refine AW.ret ?_; conv => whnf)
          | (refine AW.exit ?_; conv => whnf)
          | (refine And.intro (@rfl Val _) ?_; conv => whnf)
          | (refine And.intro (by decide) ?_; conv => whnf)
          | (refine cs (fun _ => ?_) (fun _ => ?_) <;> conv => whnf)
        · rename_i g3
          have g3 : sm = true := by simpa using g3
          refine (c5 g1 g3).mono ?_
          rintro _ _ ⟨rfl, rfl⟩
          conv => whnf
          repeat' first
            | refine AW.seq ?_
            | refine AW.block ?_
            | (refine AW.region tab_ok ?_; conv => whnf)
            | (refine AW.cond ?_; conv => whnf)
            | (refine AW.skip ?_; conv => whnf)
            | (refine AW.ret ?_; conv => whnf)
            | (refine AW.exit ?_; conv => whnf)
            | (refine And.intro (@rfl Val _) ?_; conv => whnf)
            | (refine And.intro (by decide) ?_; conv => whnf)
            | (refine cs (fun _ => ?_) (fun _ => ?_) <;> conv => whnf)
          exact ⟨outb (by rw [← e7 g1]; simp [g1, g2, g3]), rfl⟩
        · rename_i g3
          have g3 : sm = false := by simpa using g3
          exact ⟨outb (by rw [← e7 g1]; simp [g3]), rfl⟩
      · exact ⟨outb (by simp_all), rfl⟩
      · exact ⟨outb (by simp_all), rfl⟩
    · have e : termsS a b = false := by simp [termsS, h2]
      rw [e]
      generalize tmcheck a = ca at *
      generalize tmcheck b = cb at *
      obtain ⟨k, name, arg, num, tk, tks, uk, uks, label, place, ks⟩ := a
      obtain ⟨k', name', arg', num', tk', tks', uk', uks', label', place', ks'⟩ := b
      refine ACall.body tab_ok (ρ := 0) (N := 39) Try.func49 rfl rfl rfl rfl rfl ?_
      repeat' first
        | refine AW.seq ?_
        | refine AW.block ?_
        | (refine AW.region tab_ok ?_; conv => whnf)
        | (refine AW.cond ?_; conv => whnf)
        | (refine AW.skip ?_; conv => whnf)
        | (refine AW.ret ?_; conv => whnf)
        | (refine AW.exit ?_; conv => whnf)
        | (refine (c1).mono ?_; rintro _ _ ⟨rfl, rfl⟩; conv => whnf)
        | (refine (c2).mono ?_; rintro _ _ ⟨rfl, rfl⟩; conv => whnf)
        | (refine And.intro (@rfl Val _) ?_; conv => whnf)
        | (refine And.intro (by decide) ?_; conv => whnf)
        | (refine cs (fun _ => ?_) (fun _ => ?_) <;> conv => whnf)
      all_goals first | exact ⟨outb (by simp_all), rfl⟩ | (exfalso; simp_all; done) | trace_state
  · have e : termsS a b = false := by simp [termsS, h1]
    rw [e]
    generalize tmcheck a = ca at *
    generalize tmcheck b = cb at *
    obtain ⟨k, name, arg, num, tk, tks, uk, uks, label, place, ks⟩ := a
    obtain ⟨k', name', arg', num', tk', tks', uk', uks', label', place', ks'⟩ := b
    refine ACall.body tab_ok (ρ := 0) (N := 39) Try.func49 rfl rfl rfl rfl rfl ?_
    repeat' first
      | refine AW.seq ?_
      | refine AW.block ?_
      | (refine AW.region tab_ok ?_; conv => whnf)
      | (refine AW.cond ?_; conv => whnf)
      | (refine AW.skip ?_; conv => whnf)
      | (refine AW.ret ?_; conv => whnf)
      | (refine AW.exit ?_; conv => whnf)
      | (refine (c1).mono ?_; rintro _ _ ⟨rfl, rfl⟩; conv => whnf)
      | (refine (c2).mono ?_; rintro _ _ ⟨rfl, rfl⟩; conv => whnf)
      | (refine And.intro (@rfl Val _) ?_; conv => whnf)
      | (refine And.intro (by decide) ?_; conv => whnf)
      | (refine cs (fun _ => ?_) (fun _ => ?_) <;> conv => whnf)
    all_goals first | exact ⟨outb (by simp_all), rfl⟩ | (exfalso; simp_all; done) | trace_state
set_option maxRecDepth 10000 in
theorem law_OrderTerms (a b : Tm) : ACall Try.prog 12 [a.val, b.val] [] (fun o σ => o = .ret (.c (.d (.bool true))) ∧ σ = []) := by
  have c1 := Terms_call a b
  have c2 := rTerms_call a b
  have c3 := Terms_call (.node 2 ⟨#[]⟩ ⟨#[]⟩ 0 0 [] 0 [] 0 0 []) (.node 2 ⟨#[]⟩ ⟨#[]⟩ 0 0 [] 0 [] 0 0 [])
  rw [show termsS (.node 2 ⟨#[]⟩ ⟨#[]⟩ 0 0 [] 0 [] 0 0 []) (.node 2 ⟨#[]⟩ ⟨#[]⟩ 0 0 [] 0 [] 0 0 []) = true by decide +kernel] at c3
  generalize termsS a b = ss at *
  obtain ⟨k, name, arg, num, tk, tks, uk, uks, label, place, ks⟩ := a
  obtain ⟨k', name', arg', num', tk', tks', uk', uks', label', place', ks'⟩ := b
  refine ACall.body tab_ok (ρ := 0) (N := 17) Try.func12 rfl rfl rfl rfl rfl ?_
  repeat' first
    | refine AW.seq ?_
    | refine AW.block ?_
    | (refine AW.region tab_ok ?_; conv => whnf)
    | (refine AW.draw (id := 1) tab_ok mixed [0, 1, 3, 4, 2, 5, 6, 7, 8, 9, 10, 11, 12] (by kernel_rfl) ?_; conv => whnf)
    | (refine AW.cond ?_; conv => whnf)
    | (refine AW.skip ?_; conv => whnf)
    | (refine AW.ret ?_; conv => whnf)
    | (refine AW.exit ?_; conv => whnf)
    | (refine (c1).mono ?_; rintro _ _ ⟨rfl, rfl⟩; conv => whnf)
    | (refine (c2).mono ?_; rintro _ _ ⟨rfl, rfl⟩; conv => whnf)
    | (refine (c3).mono ?_; rintro _ _ ⟨rfl, rfl⟩; conv => whnf)
    | (refine And.intro (@rfl Val _) ?_; conv => whnf)
    | (refine And.intro (by decide) ?_; conv => whnf)
    | (refine cs (fun _ => ?_) (fun _ => ?_) <;> conv => whnf)
  all_goals first | exact ⟨rfl, rfl⟩ | (rename_i h; simp at h)
end Go.Proofs.Ytdhkopangbgehaa.E
