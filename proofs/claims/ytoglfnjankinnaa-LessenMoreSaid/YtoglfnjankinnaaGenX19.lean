/- Texts, merged: Tm17, Pu1, Pu2. No conditions. -/
import Derived.Test.YtoglfnjankinnaaGenX10
import Derived.Test.YtoglfnjankinnaaGenX6
import Derived.Test.YtoglfnjankinnaaGenX17
import Derived.Test.YtoglfnjankinnaaGenX9
/- Walk: terms of the document's answer on the order; Terms, both; the law OrderTerms. No conditions. -/
set_option linter.unusedVariables false
set_option linter.unusedSimpArgs false
namespace Go.Proofs.Ytoglfnjankinnaa.E
open Go

def ownTerms : Tm → Tm → Bool
  | .node k name arg num tk tks uk uks label place ks, .node k' name' arg' num' tk' tks' uk' uks' label' place' ks' =>
    decide (k = k') && (!(nameK k || decide (k = 15)) || decide (name = name')) && (!argK k || decide (arg = arg')) && (!decide (k = 1) || decide (num = num'))
      && (!typeK k || lessF (.node tk tks) (.node tk' tks')) && (!toK k || lessF (.node uk uks) (.node uk' uks'))
mutual
def tmterms : Tm → Tm → Bool
  | .node k name arg num tk tks uk uks label place ks, .node k' name' arg' num' tk' tks' uk' uks' label' place' ks' => ownTerms (.node k name arg num tk tks uk uks label place ks) (.node k' name' arg' num' tk' tks' uk' uks' label' place' ks') && tmtermss ks ks'
def tmtermss : List Tm → List Tm → Bool
  | [], _ => true
  | _ :: _, [] => false
  | a :: l, b :: l' => tmterms a b && tmtermss l l'
end
theorem tmtermss_all : ∀ (ks ks' : List Tm), ks.length = ks'.length → (tmtermss ks ks' = true ↔ ∀ (j : Nat) x y, ks[j]? = some x → ks'[j]? = some y → tmterms x y = true)
  | [], [], _ => by simp [tmtermss]
  | a :: l, b :: l', h => by
    have ih := tmtermss_all l l' (by simpa using h)
    simp only [tmtermss, Bool.and_eq_true, ih]
    constructor
    · rintro ⟨h1, h2⟩ j x y hx hy
      cases j with
      | zero => simp at hx hy; subst hx; subst hy; exact h1
      | succ j => simp only [List.getElem?_cons_succ] at hx hy; exact h2 j x y hx hy
    · intro h
      exact ⟨h 0 a b rfl rfl, fun j x y hx hy => h (j + 1) x y (by simpa using hx) (by simpa using hy)⟩
structure TmTermsI (ks ks' : List Tm) where
  i : Nat
  hi : i ≤ ks.length
  h : ∀ (j : Nat), j < i → ∀ x y, ks[j]? = some x → ks'[j]? = some y → tmterms x y = true
/-! ### An open term is one -/
theorem tdepth_pos (t : Ty) : 1 ≤ tdepth t := by
  unfold tdepth
  split
  · omega
  · cases t with
    | node k ks =>
      have : ∀ n, 1 ≤ deepF (.node k ks) (n + 1) := fun n => by simp only [deepF]; (try split) <;> omega
      exact this 200
theorem open_N (t : Tm) : tmN (tmopen t) ≤ tmN t := by
  induction t using Tm.ind with
  | _ k name arg num tk tks uk uks label place ks ih =>
  have hs : ∀ l : List Tm, (∀ t ∈ l, tmN (tmopen t) ≤ tmN t) → tmNL (tmopens l) ≤ tmNL l := fun l => by
    induction l with
    | nil => intro _; simp [tmopens, tmNL]
    | cons x l ihl =>
      intro h
      have h1 := h x (by simp)
      have h2 := ihl fun t ht => h t (by simp [ht])
      simp only [tmopens, tmNL]
      omega
  have h2 := hs ks ih
  have n1 := nodes_pos (.node tk tks)
  have n2 := nodes_pos (.node uk uks)
  have z : nodes (.node 0 []) = 1 := by simp [nodes, nodesL]
  simp only [tmopen, tmN, z]
  split <;> split <;> omega
theorem open_D (t : Tm) : ∀ m, tmD (tmopen t) m ≤ tmD t m := by
  induction t using Tm.ind with
  | _ k name arg num tk tks uk uks label place ks ih =>
  intro m
  have hs : ∀ (l : List Tm) (m : Nat), (∀ t ∈ l, ∀ m, tmD (tmopen t) m ≤ tmD t m) → tmDL (tmopens l) m ≤ tmDL l m := fun l m => by
    induction l with
    | nil => intro _; simp [tmopens, tmDL]
    | cons x l ihl =>
      intro h
      have h1 := h x (by simp) m
      have h2 := ihl fun t ht => h t (by simp [ht])
      simp only [tmopens, tmDL]
      omega
  have h2 := hs ks (m - 1) ih
  have n1 := tdepth_pos (.node tk tks)
  have n2 := tdepth_pos (.node uk uks)
  have z : tdepth (.node 0 []) = 1 := by decide +kernel
  simp only [tmopen, tmD, z]
  by_cases hm : m ≤ 1
  · rw [if_pos hm, if_pos hm]; exact Nat.le_refl _
  · rw [if_neg hm, if_neg hm]
    cases typeK k <;> cases toK k <;> simp only [if_true, if_false, Bool.false_eq_true] <;> omega
theorem open_right (t : Tm) : tmright t = true → tmright (tmopen t) = true := by
  induction t using Tm.ind with
  | _ k name arg num tk tks uk uks label place ks ih =>
  intro h
  have z : tcheck (.node 0 []) = 0 := by decide +kernel
  have hk : tmrights (tmopens ks) = true := (tmrights_all _).2 fun x hx => by
    rw [tmopens_map] at hx
    obtain ⟨y, hy, rfl⟩ := List.mem_map.1 hx
    exact ih y hy (tmright_kid h hy)
  simp only [tmopen, tmright, ownRight, Bool.and_eq_true] at h ⊢
  obtain ⟨⟨⟨⟨⟨⟨⟨h1, h2⟩, h3⟩, h4⟩, h5⟩, h6⟩, h7⟩, h8⟩ := h
  refine ⟨⟨⟨⟨⟨⟨⟨?_, h2⟩, h3⟩, h4⟩, ?_⟩, ?_⟩, h7⟩, hk⟩
  · rw [tmopens_len]; exact h1
  · simp [z]
  · simp [z]
theorem open_check {t : Tm} (h : tmcheck t = 0) : tmcheck (tmopen t) = 0 := by
  have n := open_N t
  have d := open_D t 201
  unfold tmcheck at h ⊢
  split at h
  · omega
  · split at h
    · omega
    · split at h
      · rename_i h3
        rw [if_neg (by omega), if_neg (by omega), if_pos (open_right t h3)]
      · omega
/-- What the two sides tell of right terms without casts. -/
theorem open_terms (a : Tm) : ∀ b, tmright a = true → tmhas 17 a = false → (tmsame (tmopen a) (tmopen b) && tmeach a b) = tmterms a b := by
  induction a using Tm.ind with
  | _ k name arg num tk tks uk uks label place ks ih =>
  rintro ⟨k', name', arg', num', tk', tks', uk', uks', label', place', ks'⟩ ha hc
  have hs : ∀ l l' : List Tm, (∀ t ∈ l, ∀ b, (tmsame (tmopen t) (tmopen b) && tmeach t b) = tmterms t b) → (tmsames (tmopens l) (tmopens l') && tmeachs l l') = tmtermss l l' := fun l => by
    induction l with
    | nil => intro l' _; simp [tmopens, tmsames, tmeachs, tmtermss]
    | cons x l ihl =>
      intro l' h
      cases l' with
      | nil => simp [tmopens, tmsames, tmeachs, tmtermss]
      | cons y l' =>
        have h1 := h x (by simp) y
        have h2 := ihl l' fun t ht => h t (by simp [ht])
        simp only [tmopens, tmsames, tmeachs, tmtermss, ← h1, ← h2]
        ac_rfl
  have h2 := hs ks ks' fun t ht b => ih t ht b (tmright_kid ha ht) (tmhas_kid hc ht)
  have z : sameS (.node 0 []) (.node 0 []) = true := by decide +kernel
  have hv := tmright_valid ha
  have hk : k ≠ 17 := fun e => by subst e; simp [tmhas] at hc
  have f1 : typeK k = fromA k := by
    rw [Bool.eq_iff_iff]; simp [typeK, fromA]; omega
  have f2 : toK k = decide (k = 5) := by
    rw [Bool.eq_iff_iff]; simp [toK]; omega
  have e1 : decide (k = 17) = false := by simp [hk]
  simp only [tmopen, tmsame, tmeach, tmterms, ownSame, ownEach, ownTerms, z, f1, f2, e1, ← h2, Bool.or_true, Bool.and_true, Bool.not_false, Bool.true_or]
  ac_rfl
theorem tmcheck_fine {t : Tm} (h : tmcheck t = 0) : tmN t ≤ 8192 ∧ tmright t = true := by
  unfold tmcheck at h
  split at h
  · omega
  · split at h
    · omega
    · split at h
      · rename_i h3; exact ⟨by omega, h3⟩
      · omega
def termsS (a b : Tm) : Bool := decide (tmcheck a = 0) && decide (tmcheck b = 0) && !tmhas 17 a && !tmhas 17 b && tmterms a b
set_option maxRecDepth 10000 in
theorem Terms_call (a b : Tm) : ACall Try.prog 24 [a.val, b.val] [] (fun o σ => o = .ret (.c (.d (.bool (termsS a b)))) ∧ σ = []) := by
  have c1 := tmCheck_call a
  have c2 := tmCheck_call b
  by_cases h1 : tmcheck a = 0
  · by_cases h2 : tmcheck b = 0
    · have c3 := open_call a (tmcheck_fine h1).1
      have c4 := open_call b (tmcheck_fine h2).1
      have r3 : ∀ o σ, openR a o σ → ∃ m : Tm, (tmhas 17 a = false → m = tmopen a) ∧ o = .ret (.tup [m.val, .c (.d (.bool (!tmhas 17 a)))]) ∧ σ = [] := fun _ _ h => h
      have r4 : ∀ o σ, openR b o σ → ∃ m : Tm, (tmhas 17 b = false → m = tmopen b) ∧ o = .ret (.tup [m.val, .c (.d (.bool (!tmhas 17 b)))]) ∧ σ = [] := fun _ _ h => h
      have c5 : tmhas 17 a = false → tmsame (tmopen a) (tmopen b) = true → ACall Try.prog 59 [.c (.d (.rp 0 a.cells)), .c (.d (.rp 0 b.cells))] [] (fun o σ => o = .ret (.c (.d (.bool (tmeach a b)))) ∧ σ = []) := fun q1 q2 => each_call a b (tmcheck_right h1) (tmcheck_right h2) q1 q2
      have e6 : sameT (tmopen a) (tmopen b) = tmsame (tmopen a) (tmopen b) := by simp [sameT, open_check h1, open_check h2]
      have e7 : tmhas 17 a = false → (tmsame (tmopen a) (tmopen b) && tmeach a b) = tmterms a b := fun h => open_terms a b (tmcheck_right h1) h
      have e : termsS a b = (!tmhas 17 a && !tmhas 17 b && tmterms a b) := by simp [termsS, h1, h2]
      rw [e]
      rw [h1] at c1
      rw [h2] at c2
      have c8 := tSame_call (tmopen a) (tmopen b)
      rw [e6] at c8
      generalize openR a = Ra at *
      generalize openR b = Rb at *
      generalize tmhas 17 a = fa at *
      generalize tmhas 17 b = fb at *
      generalize tmterms a b = ss at *
      generalize tmeach a b = se at *
      generalize tmsame (tmopen a) (tmopen b) = sm at *
      generalize tmopen a = xa at *
      generalize tmopen b = xb at *
      clear e e6 h1 h2
      obtain ⟨k, name, arg, num, tk, tks, uk, uks, label, place, ks⟩ := a
      obtain ⟨k', name', arg', num', tk', tks', uk', uks', label', place', ks'⟩ := b
      refine ACall.body tab_ok (ρ := 0) (N := 39) Try.func24 rfl rfl rfl rfl rfl ?_
      repeat' first
        | refine AW.seq ?_
        | refine AW.block ?_
        | (refine AW.region tab_ok ?_; conv => whnf)
        | (refine AW.cond ?_; conv => whnf)
        | (refine AW.skip ?_; conv => whnf)
        | (refine AW.ret ?_; conv => whnf)
        | (refine AW.exit ?_; conv => whnf)
        | (refine (c1).mono ?_; rintro _ _ ⟨rfl, rfl⟩; conv => whnf)
        | (refine (c2).mono ?_; rintro _ _ ⟨rfl, rfl⟩; conv => whnf)
        | (refine And.intro (@rfl Val _) ?_; conv => whnf)
        | (refine And.intro (by decide) ?_; conv => whnf)
        | (refine cs (fun _ => ?_) (fun _ => ?_) <;> conv => whnf)
      refine c3.mono ?_
      intro o1 σ1 hR
      obtain ⟨⟨ky, namey, argy, numy, tky, tksy, uky, uksy, labely, placey, ksy⟩, hm, rfl, rfl⟩ := r3 _ _ hR
      conv => whnf
      repeat' first
        | refine AW.seq ?_
        | refine AW.block ?_
        | (refine AW.region tab_ok ?_; conv => whnf)
        | (refine AW.cond ?_; conv => whnf)
        | (refine AW.skip ?_; conv => whnf)
        | (refine AW.ret ?_; conv => whnf)
        | (refine AW.exit ?_; conv => whnf)
        | (refine And.intro (@rfl Val _) ?_; conv => whnf)
        | (refine And.intro (by decide) ?_; conv => whnf)
        | (refine cs (fun _ => ?_) (fun _ => ?_) <;> conv => whnf)
      refine c4.mono ?_
      intro o2 σ2 hR2
      obtain ⟨⟨kz, namez, argz, numz, tkz, tksz, ukz, uksz, labelz, placez, ksz⟩, hm2, rfl, rfl⟩ := r4 _ _ hR2
      conv => whnf
      repeat' first
        | refine AW.seq ?_
        | refine AW.block ?_
        | (refine AW.region tab_ok ?_; conv => whnf)
        | (refine AW.cond ?_; conv => whnf)
        | (refine AW.skip ?_; conv => whnf)
        | (refine AW.ret ?_; conv => whnf)
        | (refine AW.exit ?_; conv => whnf)
        | (refine And.intro (@rfl Val _) ?_; conv => whnf)
        | (refine And.intro (by decide) ?_; conv => whnf)
        | (refine cs (fun _ => ?_) (fun _ => ?_) <;> conv => whnf)
      · rename_i g1 g2
        have g1 : fa = false := by simpa using g1
        have g2 : fb = false := by simpa using g2
        have hm := hm g1
        have hm2 := hm2 g2
        subst hm; subst hm2
        refine c8.mono ?_
        rintro _ _ ⟨rfl, rfl⟩
        conv => whnf
        repeat' first
          | refine AW.seq ?_
          | refine AW.block ?_
          | (refine AW.region tab_ok ?_; conv => whnf)
          | (refine AW.cond ?_; conv => whnf)
          | (refine AW.skip ?_; conv => whnf)
          | (refine AW.ret ?_; conv => whnf)
          | (refine AW.exit ?_; conv => whnf)
          | (refine And.intro (@rfl Val _) ?_; conv => whnf)
          | (refine And.intro (by decide) ?_; conv => whnf)
          | (refine cs (fun _ => ?_) (fun _ => ?_) <;> conv => whnf)
        · rename_i g3
          have g3 : sm = true := by simpa using g3
          refine (c5 g1 g3).mono ?_
          rintro _ _ ⟨rfl, rfl⟩
          conv => whnf
          repeat' first
            | refine AW.seq ?_
            | refine AW.block ?_
            | (refine AW.region tab_ok ?_; conv => whnf)
            | (refine AW.cond ?_; conv => whnf)
            | (refine AW.skip ?_; conv => whnf)
            | (refine AW.ret ?_; conv => whnf)
            | (refine AW.exit ?_; conv => whnf)
            | (refine And.intro (@rfl Val _) ?_; conv => whnf)
            | (refine And.intro (by decide) ?_; conv => whnf)
            | (refine cs (fun _ => ?_) (fun _ => ?_) <;> conv => whnf)
          exact ⟨outb (by rw [← e7 g1]; simp [g1, g2, g3]), rfl⟩
        · rename_i g3
          have g3 : sm = false := by simpa using g3
          exact ⟨outb (by rw [← e7 g1]; simp [g3]), rfl⟩
      · exact ⟨outb (by simp_all), rfl⟩
      · exact ⟨outb (by simp_all), rfl⟩
    · have e : termsS a b = false := by simp [termsS, h2]
      rw [e]
      generalize tmcheck a = ca at *
      generalize tmcheck b = cb at *
      obtain ⟨k, name, arg, num, tk, tks, uk, uks, label, place, ks⟩ := a
      obtain ⟨k', name', arg', num', tk', tks', uk', uks', label', place', ks'⟩ := b
      refine ACall.body tab_ok (ρ := 0) (N := 39) Try.func24 rfl rfl rfl rfl rfl ?_
      repeat' first
        | refine AW.seq ?_
        | refine AW.block ?_
        | (refine AW.region tab_ok ?_; conv => whnf)
        | (refine AW.cond ?_; conv => whnf)
        | (refine AW.skip ?_; conv => whnf)
        | (refine AW.ret ?_; conv => whnf)
        | (refine AW.exit ?_; conv => whnf)
        | (refine (c1).mono ?_; rintro _ _ ⟨rfl, rfl⟩; conv => whnf)
        | (refine (c2).mono ?_; rintro _ _ ⟨rfl, rfl⟩; conv => whnf)
        | (refine And.intro (@rfl Val _) ?_; conv => whnf)
        | (refine And.intro (by decide) ?_; conv => whnf)
        | (refine cs (fun _ => ?_) (fun _ => ?_) <;> conv => whnf)
      all_goals first | exact ⟨outb (by simp_all), rfl⟩ | (exfalso; simp_all; done) | trace_state
  · have e : termsS a b = false := by simp [termsS, h1]
    rw [e]
    generalize tmcheck a = ca at *
    generalize tmcheck b = cb at *
    obtain ⟨k, name, arg, num, tk, tks, uk, uks, label, place, ks⟩ := a
    obtain ⟨k', name', arg', num', tk', tks', uk', uks', label', place', ks'⟩ := b
    refine ACall.body tab_ok (ρ := 0) (N := 39) Try.func24 rfl rfl rfl rfl rfl ?_
    repeat' first
      | refine AW.seq ?_
      | refine AW.block ?_
      | (refine AW.region tab_ok ?_; conv => whnf)
      | (refine AW.cond ?_; conv => whnf)
      | (refine AW.skip ?_; conv => whnf)
      | (refine AW.ret ?_; conv => whnf)
      | (refine AW.exit ?_; conv => whnf)
      | (refine (c1).mono ?_; rintro _ _ ⟨rfl, rfl⟩; conv => whnf)
      | (refine (c2).mono ?_; rintro _ _ ⟨rfl, rfl⟩; conv => whnf)
      | (refine And.intro (@rfl Val _) ?_; conv => whnf)
      | (refine And.intro (by decide) ?_; conv => whnf)
      | (refine cs (fun _ => ?_) (fun _ => ?_) <;> conv => whnf)
    all_goals first | exact ⟨outb (by simp_all), rfl⟩ | (exfalso; simp_all; done) | trace_state
end Go.Proofs.Ytoglfnjankinnaa.E

/- A value put for a name: the model; what hides a name, a kid changed, both. No conditions. -/
set_option linter.unusedVariables false
set_option linter.unusedSimpArgs false
namespace Go.Proofs.Ytoglfnjankinnaa.E
open Go

def hidF (k : Int) (nm arg : ByteArray) (i : Int) (name : ByteArray) : Bool :=
  if k = 4 then decide (nm = name) else if k = 5 then decide (nm = name) || decide (arg = name) else if k = 7 then decide (i = 1) && decide (nm = name)
  else if k = 14 then (decide (i = 1) && decide (nm = name)) || (decide (i = 2) && decide (arg = name)) else false
mutual
def tmput (name : ByteArray) (v : Tm) : Tm → Tm
  | .node k nm arg num tk tks uk uks label place ks => if k = 0 then (if nm = name then v else .node k nm arg num tk tks uk uks label place ks) else .node k nm arg num tk tks uk uks label place (tmputs name v k nm arg 0 ks)
def tmputs (name : ByteArray) (v : Tm) (k : Int) (nm arg : ByteArray) : Nat → List Tm → List Tm
  | _, [] => []
  | i, t :: l => (if hidF k nm arg i name then t else tmput name v t) :: tmputs name v k nm arg (i + 1) l
end
theorem tmputs_get (name : ByteArray) (v : Tm) (k : Int) (nm arg : ByteArray) : ∀ (l : List Tm) (s i : Nat), (tmputs name v k nm arg s l)[i]? = (l[i]?).map fun t => if hidF k nm arg ((s + i : Nat) : Int) name then t else tmput name v t
  | [], s, i => by simp [tmputs]
  | t :: l, s, 0 => by simp [tmputs]
  | t :: l, s, i + 1 => by
    have := tmputs_get name v k nm arg l (s + 1) i
    simp only [tmputs, List.getElem?_cons_succ, this, show s + 1 + i = s + (i + 1) by omega]
theorem tmputs_len (name : ByteArray) (v : Tm) (k : Int) (nm arg : ByteArray) : ∀ (l : List Tm) (s : Nat), (tmputs name v k nm arg s l).length = l.length
  | [], s => rfl
  | t :: l, s => by simp [tmputs, tmputs_len name v k nm arg l]
/-- The kids, the first i of which are gone through. -/
def putTo (name : ByteArray) (v : Tm) (k : Int) (nm arg : ByteArray) (ks : List Tm) (i : Nat) : List Tm := (tmputs name v k nm arg 0 ks).take i ++ ks.drop i
theorem putTo_zero (name : ByteArray) (v : Tm) (k : Int) (nm arg : ByteArray) (ks : List Tm) : putTo name v k nm arg ks 0 = ks := by simp [putTo]
theorem putTo_all (name : ByteArray) (v : Tm) (k : Int) (nm arg : ByteArray) (ks : List Tm) : putTo name v k nm arg ks ks.length = tmputs name v k nm arg 0 ks := by
  simp only [putTo, List.drop_length, List.append_nil]
  exact List.take_of_length_le (by rw [tmputs_len]; exact Nat.le_refl _)
theorem putTo_len (name : ByteArray) (v : Tm) (k : Int) (nm arg : ByteArray) (ks : List Tm) (i : Nat) : (putTo name v k nm arg ks i).length = ks.length := by
  simp only [putTo, List.length_append, List.length_take, List.length_drop, tmputs_len]; omega
theorem putTo_get (name : ByteArray) (v : Tm) (k : Int) (nm arg : ByteArray) (ks : List Tm) (i : Nat) (hi : i < ks.length) : (putTo name v k nm arg ks i)[i]? = ks[i]? := by
  simp only [putTo]
  rw [List.getElem?_append_right (by simp [tmputs_len]; omega)]
  simp only [List.length_take, tmputs_len, List.getElem?_drop]
  congr 1; omega
theorem putTo_next (name : ByteArray) (v : Tm) (k : Int) (nm arg : ByteArray) (ks : List Tm) (i : Nat) (t : Tm) (ht : ks[i]? = some t) :
    putTo name v k nm arg ks (i + 1) = (putTo name v k nm arg ks i).set i (if hidF k nm arg i name then t else tmput name v t) := by
  have hi : i < ks.length := (List.getElem?_eq_some_iff.1 ht).1
  refine List.ext_getElem? fun j => ?_
  have hl := tmputs_len name v k nm arg ks 0
  rw [List.getElem?_set, putTo_len]
  simp only [putTo]
  by_cases h1 : i = j
  · subst h1
    rw [if_pos rfl, if_pos hi, List.getElem?_append_left (by simp [hl]; omega), List.getElem?_take, if_pos (by omega), tmputs_get, ht]
    simp
  · rw [if_neg h1]
    by_cases h2 : j < i
    · rw [List.getElem?_append_left (by simp [hl]; omega), List.getElem?_append_left (by simp [hl]; omega), List.getElem?_take, List.getElem?_take, if_pos (by omega), if_pos (by omega)]
    · rw [List.getElem?_append_right (by simp [hl]; omega), List.getElem?_append_right (by simp [hl]; omega)]
      simp only [List.length_take, hl, List.getElem?_drop]
      congr 1; omega
theorem putTo_hid (name : ByteArray) (v : Tm) (k : Int) (nm arg : ByteArray) (ks : List Tm) (i : Nat) (t : Tm) (ht : ks[i]? = some t) (h : (if hidF k nm arg i name then t else tmput name v t) = t) :
    putTo name v k nm arg ks (i + 1) = putTo name v k nm arg ks i := by
  rw [putTo_next _ _ _ _ _ _ _ t ht, h]
  have hi : i < ks.length := (List.getElem?_eq_some_iff.1 ht).1
  have hg := putTo_get name v k nm arg ks i hi
  rw [ht] at hg
  refine List.ext_getElem? fun j => ?_
  rw [List.getElem?_set]
  split
  · rename_i e; subst e; rw [hg, if_pos (by rw [putTo_len]; exact hi)]
  · rfl
def hidCells (name : ByteArray) (v : Tm) : List DV := .str name :: v.cells
set_option maxRecDepth 10000 in
theorem hidden_call (k : Int) (nm arg : ByteArray) (num tk : Int) (tks : List Ty) (uk : Int) (uks : List Ty) (label place : Int) (ks : List Tm) (name : ByteArray) (vc : List DV) (i : Int) :
    ACall Try.prog 174 [.c (.d (.rp 0 (.str name :: vc))), .c (.ptr 0 0), .c (.d (.int .i64 i))] [.var ((Tm.node k nm arg num tk tks uk uks label place ks).cells.map .d)]
      (fun o σ => o = .ret (.c (.d (.bool (hidF k nm arg i name)))) ∧ σ = [.var ((Tm.node k nm arg num tk tks uk uks label place ks).cells.map .d)]) := by
  refine ACall.body tab_ok (ρ := 0) (N := 89) Try.func174 rfl rfl rfl rfl rfl ?_
  repeat' first
    | refine AW.seq ?_
    | refine AW.block ?_
    | (refine AW.region tab_ok ?_; conv => whnf)
    | (refine AW.draw (id := 3) tab_ok mixed [0, 1, 2, 3, 4, 5, 6, 7, 8, 9] (by kernel_rfl) ?_; conv => whnf)
    | (refine AW.draw (id := 5) tab_ok mixed [0, 1, 2, 3, 4, 5, 6, 7, 8, 9, 10, 11, 12, 13, 14, 15, 16, 17, 18, 19, 20] (by kernel_rfl) ?_; conv => whnf)
    | (refine AW.draw (id := 7) tab_ok mixed [0, 1, 2, 3, 4, 5, 6, 7, 8, 9, 10, 11, 12, 13] (by kernel_rfl) ?_; conv => whnf)
    | (refine AW.draw (id := 9) tab_ok mixed [0, 1, 2, 3, 4, 5, 6, 7, 8, 9, 10, 11, 12, 13, 14, 15, 16, 17, 18, 19, 20, 21, 22, 23, 24, 25, 26, 27, 28] (by kernel_rfl) ?_; conv => whnf)
    | (refine AW.cond ?_; conv => whnf)
    | (refine AW.skip ?_; conv => whnf)
    | (refine AW.ret ?_; conv => whnf)
    | (refine AW.exit ?_; conv => whnf)
    | (refine And.intro (@rfl Val _) ?_; conv => whnf)
    | (refine And.intro (by decide) ?_; conv => whnf)
    | (refine cs (fun _ => ?_) (fun _ => ?_) <;> conv => whnf)
  all_goals (refine ⟨outb ?_, rfl⟩; simp_all [hidF])
set_option maxRecDepth 10000 in
theorem hides_call (k : Int) (nm arg : ByteArray) (num tk : Int) (tks : List Ty) (uk : Int) (uks : List Ty) (label place : Int) (ks : List Tm) (name : ByteArray) (i : Int) :
    ACall Try.prog 133 [(Tm.node k nm arg num tk tks uk uks label place ks).val, .c (.d (.int .i64 i)), .c (.d (.str name))] [] (fun o σ => o = .ret (.c (.d (.bool (hidF k nm arg i name)))) ∧ σ = []) := by
  refine ACall.body tab_ok (ρ := 0) (N := 57) Try.func133 rfl rfl rfl rfl rfl ?_
  repeat' first
    | refine AW.seq ?_
    | refine AW.block ?_
    | (refine AW.region tab_ok ?_; conv => whnf)
    | (refine AW.cond ?_; conv => whnf)
    | (refine AW.skip ?_; conv => whnf)
    | (refine AW.ret ?_; conv => whnf)
    | (refine AW.exit ?_; conv => whnf)
    | (refine And.intro (@rfl Val _) ?_; conv => whnf)
    | (refine And.intro (by decide) ?_; conv => whnf)
    | (refine cs (fun _ => ?_) (fun _ => ?_) <;> conv => whnf)
  all_goals (refine ⟨outb ?_, rfl⟩; simp_all [hidF])
structure UpN (n : Nat) where
  i : Nat
  hi : i ≤ n
set_option maxRecDepth 10000 in
theorem withk_call (k : Int) (nm arg : ByteArray) (num tk : Int) (tks : List Ty) (uk : Int) (uks : List Ty) (label place : Int) (ks : List Tm) (j : Nat) (x : Tm) (hl : ks.length ≤ 8192) :
    ACall Try.prog 134 [(Tm.node k nm arg num tk tks uk uks label place ks).val, .c (.d (.int .i64 j)), x.val] [] (fun o σ => o = .ret (Tm.node k nm arg num tk tks uk uks label place (ks.set j x)).val ∧ σ = []) := by
  have hxc : x.cells.length = 11 := by cases x; rfl
  obtain ⟨kx, nx, gx, ux, tkx, tsx, ukx, usx, lx, px, ksx⟩ := x
  refine ACall.body tab_ok (ρ := 0) (N := 38) Try.func134 rfl rfl rfl rfl rfl ?_
  repeat' first
    | refine AW.seq ?_
    | refine AW.block ?_
    | (refine AW.region tab_ok ?_; conv => whnf)
    | (refine AW.cond ?_; conv => whnf)
    | (refine AW.skip ?_; conv => whnf)
    | (refine AW.ret ?_; conv => whnf)
    | (refine AW.exit ?_; conv => whnf)
    | (refine And.intro (@rfl Val _) ?_; conv => whnf)
    | (refine And.intro (by decide) ?_; conv => whnf)
    | (refine cs (fun _ => ?_) (fun _ => ?_) <;> conv => whnf)
  refine ⟨⟨by omega, by omega, by simp only [trows_length]; omega, by simp only [trows_length]; omega⟩, ?_⟩
  conv => whnf
  repeat' first
    | refine AW.seq ?_
    | refine AW.block ?_
    | (refine AW.region tab_ok ?_; conv => whnf)
    | (refine AW.cond ?_; conv => whnf)
    | (refine AW.skip ?_; conv => whnf)
    | (refine AW.ret ?_; conv => whnf)
    | (refine AW.exit ?_; conv => whnf)
    | (refine And.intro (@rfl Val _) ?_; conv => whnf)
    | (refine And.intro (by decide) ?_; conv => whnf)
    | (refine cs (fun _ => ?_) (fun _ => ?_) <;> conv => whnf)
  refine AW.loop (ι := UpN ks.length) (fun x => ⟨38, [(8, .c (.d (.int .i64 x.i))), (7, .c (.own 3 (Tm.rows ((ks.set j (Tm.node kx nx gx ux tkx tsx ukx usx lx px ksx)).take x.i)).length)), (1, .c (.d (.int .i64 j))), (3, .c (.ptr 0 0)), (5, .c (.ptr 1 0)), (6, .c (.ptr 2 0))],
      [.var [.d (.int .i8 k), .d (.str nm), .d (.str arg), .d (.int .i64 num), .d (.int .i8 tk), .d (.sl 0 2 (Ty.rows tks)), .d (.int .i8 uk), .d (.sl 0 2 (Ty.rows uks)), .d (.int .i64 label), .d (.int .i64 place), .d (.sl 0 11 (Tm.rows ks))],
       .var ((Tm.node kx nx gx ux tkx tsx ukx usx lx px ksx).cells.map .d),
       .var [.d (.int .i8 0), .d (.str ⟨#[]⟩), .d (.str ⟨#[]⟩), .d (.int .i64 0), .d (.int .i8 0), .d .nils, .d (.int .i8 0), .d .nils, .d (.int .i64 0), .d (.int .i64 0), .d .nils],
       .row 28 11 (Tm.rows ((ks.set j (Tm.node kx nx gx ux tkx tsx ukx usx lx px ksx)).take x.i))], []⟩)
    (fun x => ks.length - x.i) ⟨0, Nat.zero_le _⟩ 4 (fun _ => rfl) (Nat.le_of_ble_eq_true rfl) ⟨⟨rfl, rfl, rfl, rfl, rfl, rfl, trivial⟩, rfl, rfl, ⟨[], rfl⟩, rfl⟩ (fun x => ?_)
  obtain ⟨i, hi⟩ := x
  repeat' first
    | refine AW.seq ?_
    | refine AW.block ?_
    | (refine AW.region tab_ok ?_; conv => whnf)
    | (refine AW.cond ?_; conv => whnf)
    | (refine AW.skip ?_; conv => whnf)
    | (refine AW.ret ?_; conv => whnf)
    | (refine AW.exit ?_; conv => whnf)
    | (refine And.intro (@rfl Val _) ?_; conv => whnf)
    | (refine And.intro (by decide) ?_; conv => whnf)
    | (refine cs (fun _ => ?_) (fun _ => ?_) <;> conv => whnf)
  · rename_i h1 h2
    simp only [trows_length] at h1
    have h1 := of_decide_eq_true h1
    have h2 : i = j := by have : ((i : Nat) : Int) = (j : Int) := eq_of_beq h2; omega
    have hlt : i < ks.length := by omega
    have hg : (ks.set j (Tm.node kx nx gx ux tkx tsx ukx usx lx px ksx))[i]? = some (Tm.node kx nx gx ux tkx tsx ukx usx lx px ksx) := by rw [List.getElem?_set, if_pos h2.symm, if_pos (by omega)]
    have e : Tm.rows ((ks.set j (Tm.node kx nx gx ux tkx tsx ukx usx lx px ksx)).take i) ++ [(Tm.node kx nx gx ux tkx tsx ukx usx lx px ksx).cells] = Tm.rows ((ks.set j (Tm.node kx nx gx ux tkx tsx ukx usx lx px ksx)).take (i + 1)) := by
      rw [List.take_add_one, hg, trows_map, trows_map, List.map_append]; rfl
    have hlr : (Tm.rows ((ks.set j (Tm.node kx nx gx ux tkx tsx ukx usx lx px ksx)).take i)).length ≤ 8192 := by simp [trows_length]; omega
    have el := congrArg List.length e
    rw [List.length_append] at el
    refine ⟨⟨rfl, ?_, ?_⟩, ?_⟩
    · simp only [List.length_cons, List.length_nil]; omega
    · simp only [List.length_cons, List.length_nil]; omega
    conv => whnf
    repeat' first
      | refine AW.seq ?_
      | refine AW.block ?_
      | (refine AW.region tab_ok ?_; conv => whnf)
      | (refine AW.cond ?_; conv => whnf)
      | (refine AW.skip ?_; conv => whnf)
      | (refine AW.ret ?_; conv => whnf)
      | (refine AW.exit ?_; conv => whnf)
      | (refine And.intro (@rfl Val _) ?_; conv => whnf)
      | (refine And.intro (by decide) ?_; conv => whnf)
      | (refine cs (fun _ => ?_) (fun _ => ?_) <;> conv => whnf)
    simp only [Tm.cells] at e el
    rw [e, el, wrap64 (x := (i : Int) + 1) (by omega) (by omega)]
    exact ⟨⟨i + 1, hlt⟩, ⟨⟨rfl, rfl, rfl, rfl, rfl, rfl, trivial⟩, rfl, rfl, ⟨[], rfl⟩, rfl⟩, show ks.length - (i + 1) < ks.length - i by omega⟩
  · rename_i h1 h2
    simp only [trows_length] at h1
    have h1 := of_decide_eq_true h1
    have h2 : ¬ j = i := fun e => by simp [e] at h2
    have hlt : i < ks.length := by omega
    refine ⟨⟨by simp only; omega, (show ((i : Nat) : Int) < ((Tm.rows ks).length : Nat) by rw [trows_length]; omega)⟩, fun row hrow => ?_⟩
    obtain ⟨y, ht, rfl⟩ := trows_get ks i row (by simpa using hrow)
    have hg : (ks.set j (Tm.node kx nx gx ux tkx tsx ukx usx lx px ksx))[i]? = some y := by rw [List.getElem?_set, if_neg h2, ht]
    have e : Tm.rows ((ks.set j (Tm.node kx nx gx ux tkx tsx ukx usx lx px ksx)).take i) ++ [y.cells] = Tm.rows ((ks.set j (Tm.node kx nx gx ux tkx tsx ukx usx lx px ksx)).take (i + 1)) := by
      rw [List.take_add_one, hg, trows_map, trows_map, List.map_append]; rfl
    have hlr : (Tm.rows ((ks.set j (Tm.node kx nx gx ux tkx tsx ukx usx lx px ksx)).take i)).length ≤ 8192 := by simp [trows_length]; omega
    have el := congrArg List.length e
    rw [List.length_append] at el
    clear ht hrow hg
    obtain ⟨ky, ny, gy, uy, tky, tsy, uky, usy, ly, py, ksy⟩ := y
    conv => whnf
    repeat' first
      | refine AW.seq ?_
      | refine AW.block ?_
      | (refine AW.region tab_ok ?_; conv => whnf)
      | (refine AW.cond ?_; conv => whnf)
      | (refine AW.skip ?_; conv => whnf)
      | (refine AW.ret ?_; conv => whnf)
      | (refine AW.exit ?_; conv => whnf)
      | (refine And.intro (@rfl Val _) ?_; conv => whnf)
      | (refine And.intro (by decide) ?_; conv => whnf)
      | (refine cs (fun _ => ?_) (fun _ => ?_) <;> conv => whnf)
    refine ⟨⟨rfl, ?_, ?_⟩, ?_⟩
    · simp only [List.length_cons, List.length_nil]; omega
    · simp only [List.length_cons, List.length_nil]; omega
    conv => whnf
    repeat' first
      | refine AW.seq ?_
      | refine AW.block ?_
      | (refine AW.region tab_ok ?_; conv => whnf)
      | (refine AW.cond ?_; conv => whnf)
      | (refine AW.skip ?_; conv => whnf)
      | (refine AW.ret ?_; conv => whnf)
      | (refine AW.exit ?_; conv => whnf)
      | (refine And.intro (@rfl Val _) ?_; conv => whnf)
      | (refine And.intro (by decide) ?_; conv => whnf)
      | (refine cs (fun _ => ?_) (fun _ => ?_) <;> conv => whnf)
    simp only [Tm.cells] at e el
    rw [e, el, wrap64 (x := (i : Int) + 1) (by omega) (by omega)]
    exact ⟨⟨i + 1, hlt⟩, ⟨⟨rfl, rfl, rfl, rfl, rfl, rfl, trivial⟩, rfl, rfl, ⟨[], rfl⟩, rfl⟩, show ks.length - (i + 1) < ks.length - i by omega⟩
  · rename_i h1
    simp only [trows_length] at h1
    have h1 := of_decide_eq_false h1
    have e : (ks.set j (Tm.node kx nx gx ux tkx tsx ukx usx lx px ksx)).take i = ks.set j (Tm.node kx nx gx ux tkx tsx ukx usx lx px ksx) := List.take_of_length_le (by simp; omega)
    simp only [e]
    refine ⟨trivial, ?_⟩
    conv => whnf
    exact ⟨rfl, rfl⟩
end Go.Proofs.Ytoglfnjankinnaa.E

/- A value put for a name: the document's walk; whether a term fits; copies. No conditions. -/
set_option linter.unusedVariables false
set_option linter.unusedSimpArgs false
namespace Go.Proofs.Ytoglfnjankinnaa.E
open Go

set_option maxRecDepth 10000 in
theorem rput_call (name : ByteArray) (v : Tm) (t : Tm) : tmN t ≤ 8192 → ACall Try.prog 78 [t.val, .c (.d (.str name)), v.val] [] (fun o σ => o = .ret (tmput name v t).val ∧ σ = []) := by
  induction t using Tm.ind with
  | _ k nm arg num tk tks uk uks label place ks ih =>
  intro hN
  have hlen := tmNL_len ks
  simp only [tmN] at hN
  have ih' : ∀ t ∈ ks, ACall Try.prog 78 [t.val, .c (.d (.str name)), v.val] [] (fun o σ => o = .ret (tmput name v t).val ∧ σ = []) := fun t ht => ih t ht (by have := tmN_mem ks t ht; omega)
  have hl8 : ks.length ≤ 8192 := by omega
  clear ih hN hlen
  have hide := fun (l : List Tm) (i : Int) => hides_call k nm arg num tk tks uk uks label place l name i
  have wk := fun (l : List Tm) (j : Nat) (x : Tm) (h : l.length ≤ 8192) => withk_call k nm arg num tk tks uk uks label place l j x h
  obtain ⟨kx, nx, gx, ux, tkx, tsx, ukx, usx, lx, px, ksx⟩ := v
  by_cases h0 : k = 0
  · subst h0
    simp only [tmput, if_true]
    clear ih' wk
    refine ACall.body tab_ok (ρ := 0) (N := 41) Try.func78 rfl rfl rfl rfl rfl ?_
    repeat' first
      | refine AW.seq ?_
      | refine AW.block ?_
      | (refine AW.region tab_ok ?_; conv => whnf)
      | (refine AW.draw (id := 9) tab_ok mixed [0, 1, 2, 3, 4, 5, 6, 7, 8, 9, 10, 11] (by kernel_rfl) ?_; conv => whnf)
      | (refine AW.cond ?_; conv => whnf)
      | (refine AW.skip ?_; conv => whnf)
      | (refine AW.ret ?_; conv => whnf)
      | (refine AW.exit ?_; conv => whnf)
      | (refine And.intro (@rfl Val _) ?_; conv => whnf)
      | (refine And.intro (by decide) ?_; conv => whnf)
      | (refine cs (fun _ => ?_) (fun _ => ?_) <;> conv => whnf)
    · rename_i h
      rw [if_pos (of_decide_eq_true h)]
      exact ⟨rfl, rfl⟩
    · rename_i h
      rw [if_neg (of_decide_eq_false h)]
      exact ⟨rfl, rfl⟩
  have b0 : (k == 0) = false := by simpa using h0
  simp only [tmput, if_neg h0]
  rw [← putTo_all]
  refine ACall.body tab_ok (ρ := 0) (N := 41) Try.func78 rfl rfl rfl rfl rfl ?_
  repeat' first
    | ((refine cs (fun h => absurd h (by rw [b0]; decide)) (fun _ => ?_); conv => whnf))
    | refine AW.seq ?_
    | refine AW.block ?_
    | (refine AW.region tab_ok ?_; conv => whnf)
    | (refine AW.draw (id := 9) tab_ok mixed [0, 1, 2, 3, 4, 5, 6, 7, 8, 9, 10, 11] (by kernel_rfl) ?_; conv => whnf)
    | (refine AW.cond ?_; conv => whnf)
    | (refine AW.skip ?_; conv => whnf)
    | (refine AW.ret ?_; conv => whnf)
    | (refine AW.exit ?_; conv => whnf)
    | (refine And.intro (@rfl Val _) ?_; conv => whnf)
    | (refine And.intro (by decide) ?_; conv => whnf)
    | (refine cs (fun _ => ?_) (fun _ => ?_) <;> conv => whnf)
  refine AW.loop (ι := UpN ks.length) (fun x => ⟨41, [(7, .c (.d (.int .i64 x.i))), (1, .c (.d (.str name))), (3, .c (.ptr 0 0)), (5, .c (.ptr 1 0)), (6, .c (.ptr 2 0))],
      [.var [.d (.int .i8 k), .d (.str nm), .d (.str arg), .d (.int .i64 num), .d (.int .i8 tk), .d (.sl 0 2 (Ty.rows tks)), .d (.int .i8 uk), .d (.sl 0 2 (Ty.rows uks)), .d (.int .i64 label), .d (.int .i64 place), .d (.sl 0 11 (Tm.rows (putTo name (Tm.node kx nx gx ux tkx tsx ukx usx lx px ksx) k nm arg ks x.i)))],
       .var ((Tm.node kx nx gx ux tkx tsx ukx usx lx px ksx).cells.map .d),
       .var [.d (.int .i8 0), .d (.str ⟨#[]⟩), .d (.str ⟨#[]⟩), .d (.int .i64 0), .d (.int .i8 0), .d .nils, .d (.int .i8 0), .d .nils, .d (.int .i64 0), .d (.int .i64 0), .d .nils]], []⟩)
    (fun x => ks.length - x.i) ⟨0, Nat.zero_le _⟩ 3 (fun _ => rfl) (Nat.le_of_ble_eq_true rfl) ⟨⟨rfl, rfl, rfl, rfl, rfl, trivial⟩, rfl, rfl, ⟨[], by simp only [putTo_zero]; rfl⟩, rfl⟩ (fun x => ?_)
  obtain ⟨i, hi⟩ := x
  repeat' first
    | refine AW.seq ?_
    | refine AW.block ?_
    | (refine AW.region tab_ok ?_; conv => whnf)
    | (refine AW.draw (id := 9) tab_ok mixed [0, 1, 2, 3, 4, 5, 6, 7, 8, 9, 10, 11] (by kernel_rfl) ?_; conv => whnf)
    | (refine AW.cond ?_; conv => whnf)
    | (refine AW.skip ?_; conv => whnf)
    | (refine AW.ret ?_; conv => whnf)
    | (refine AW.exit ?_; conv => whnf)
    | (refine (hide _ _).mono ?_; rintro _ _ ⟨rfl, rfl⟩; conv => whnf)
    | (refine And.intro (@rfl Val _) ?_; conv => whnf)
    | (refine And.intro (by decide) ?_; conv => whnf)
    | (refine cs (fun _ => ?_) (fun _ => ?_) <;> conv => whnf)
  · rename_i h1 h2
    simp only [trows_length, putTo_len] at h1
    have h1 := of_decide_eq_true h1
    have hlt : i < ks.length := by omega
    obtain ⟨y, hy⟩ : ∃ y, ks[i]? = some y := ⟨_, List.getElem?_eq_getElem hlt⟩
    have hh : hidF k nm arg i name = false := by simpa using h2
    have hnx := putTo_next name (Tm.node kx nx gx ux tkx tsx ukx usx lx px ksx) k nm arg ks i y hy
    rw [hh] at hnx
    simp only [Bool.false_eq_true, if_false] at hnx
    have hgt := putTo_get name (Tm.node kx nx gx ux tkx tsx ukx usx lx px ksx) k nm arg ks i hlt
    rw [hy] at hgt
    have ic := ih' y (List.mem_of_getElem? hy)
    have wc := wk (putTo name (Tm.node kx nx gx ux tkx tsx ukx usx lx px ksx) k nm arg ks i) i (tmput name (Tm.node kx nx gx ux tkx tsx ukx usx lx px ksx) y) (by rw [putTo_len]; exact hl8)
    rw [← hnx] at wc
    refine ⟨⟨by simp only; omega, (show ((i : Nat) : Int) < ((Tm.rows (putTo name (Tm.node kx nx gx ux tkx tsx ukx usx lx px ksx) k nm arg ks i)).length : Nat) by rw [trows_length, putTo_len]; omega)⟩, fun row hrow => ?_⟩
    obtain ⟨z, hz, rfl⟩ := trows_get _ i row (by simpa using hrow)
    obtain rfl : y = z := by rw [hgt] at hz; exact Option.some.inj hz
    generalize tmput name (Tm.node kx nx gx ux tkx tsx ukx usx lx px ksx) y = q at ic wc
    clear hz hrow hnx hgt hy
    obtain ⟨ky, ny, gy, uy, tky, tsy, uky, usy, ly, py, ksy⟩ := y
    obtain ⟨kq, nq, gq, uq, tkq, tsq, ukq, usq, lq, pq, ksq⟩ := q
    conv => whnf
    repeat' first
      | refine AW.seq ?_
      | refine AW.block ?_
      | (refine AW.region tab_ok ?_; conv => whnf)
      | (refine AW.draw (id := 9) tab_ok mixed [0, 1, 2, 3, 4, 5, 6, 7, 8, 9, 10, 11] (by kernel_rfl) ?_; conv => whnf)
      | (refine AW.cond ?_; conv => whnf)
      | (refine AW.skip ?_; conv => whnf)
      | (refine AW.ret ?_; conv => whnf)
      | (refine AW.exit ?_; conv => whnf)
      | (refine (ic).mono ?_; rintro _ _ ⟨rfl, rfl⟩; conv => whnf)
      | (refine (wc).mono ?_; rintro _ _ ⟨rfl, rfl⟩; conv => whnf)
      | (refine And.intro (@rfl Val _) ?_; conv => whnf)
      | (refine And.intro (by decide) ?_; conv => whnf)
      | (refine cs (fun _ => ?_) (fun _ => ?_) <;> conv => whnf)
    rw [wrap64 (x := (i : Int) + 1) (by omega) (by omega)]
    exact ⟨⟨i + 1, hlt⟩, ⟨⟨rfl, rfl, rfl, rfl, rfl, trivial⟩, rfl, rfl, ⟨[], rfl⟩, rfl⟩, show ks.length - (i + 1) < ks.length - i by omega⟩
  · rename_i h1 h2
    simp only [trows_length, putTo_len] at h1
    have h1 := of_decide_eq_true h1
    have hlt : i < ks.length := by omega
    obtain ⟨y, hy⟩ : ∃ y, ks[i]? = some y := ⟨_, List.getElem?_eq_getElem hlt⟩
    have hh : hidF k nm arg i name = true := by simpa using h2
    have hs := putTo_hid name (Tm.node kx nx gx ux tkx tsx ukx usx lx px ksx) k nm arg ks i y hy (by rw [hh]; rfl)
    rw [wrap64 (x := (i : Int) + 1) (by omega) (by omega)]
    refine ⟨⟨i + 1, hlt⟩, ⟨⟨rfl, rfl, rfl, rfl, rfl, trivial⟩, rfl, rfl, ⟨[], ?_⟩, rfl⟩, show ks.length - (i + 1) < ks.length - i by omega⟩
    simp only [hs]
    rfl
  · rename_i h1
    simp only [trows_length, putTo_len] at h1
    have h1 := of_decide_eq_false h1
    obtain rfl : i = ks.length := by omega
    exact ⟨rfl, rfl⟩
def fitsF (t : Tm) : Int := if tmN t > 8192 then 32 else if tmDepth t > 200 then 31 else 0
set_option maxRecDepth 10000 in
theorem fits_call (t : Tm) : ACall Try.prog 76 [t.val] [] (fun o σ => o = .ret (.c (.d (.int .i64 (fitsF t)))) ∧ σ = []) := by
  have c1 := tnodes_call t
  have c2 := tDepth_call t
  unfold fitsF
  generalize tmN t = nn at *
  generalize tmDepth t = dd at *
  obtain ⟨k, nm, arg, num, tk, tks, uk, uks, label, place, ks⟩ := t
  refine ACall.body tab_ok (ρ := 0) (N := 11) Try.func76 rfl rfl rfl rfl rfl ?_
  repeat' first
    | refine AW.seq ?_
    | refine AW.block ?_
    | (refine AW.region tab_ok ?_; conv => whnf)
    | (refine AW.cond ?_; conv => whnf)
    | (refine AW.skip ?_; conv => whnf)
    | (refine AW.ret ?_; conv => whnf)
    | (refine AW.exit ?_; conv => whnf)
    | (refine (c1).mono ?_; rintro _ _ ⟨rfl, rfl⟩; conv => whnf)
    | (refine (c2).mono ?_; rintro _ _ ⟨rfl, rfl⟩; conv => whnf)
    | (refine And.intro (@rfl Val _) ?_; conv => whnf)
    | (refine And.intro (by decide) ?_; conv => whnf)
    | (refine cs (fun _ => ?_) (fun _ => ?_) <;> conv => whnf)
  · rename_i h1
    have h1 := of_decide_eq_true h1
    rw [if_pos (by omega)]
    exact ⟨rfl, rfl⟩
  · rename_i h1 h2
    have h1 := of_decide_eq_false h1
    have h2 := of_decide_eq_true h2
    rw [if_neg (by omega), if_pos (by omega)]
    exact ⟨rfl, rfl⟩
  · rename_i h1 h2
    have h1 := of_decide_eq_false h1
    have h2 := of_decide_eq_false h2
    rw [if_neg (by omega), if_neg (by omega)]
    exact ⟨rfl, rfl⟩
set_option maxRecDepth 10000 in
theorem rfits_call (t : Tm) : ACall Try.prog 79 [t.val] [] (fun o σ => o = .ret (.c (.d (.int .i64 (fitsF t)))) ∧ σ = []) := by
  have c1 := rtnodes_call t
  have c2 := rtDepth_call t
  unfold fitsF
  generalize tmN t = nn at *
  generalize tmDepth t = dd at *
  obtain ⟨k, nm, arg, num, tk, tks, uk, uks, label, place, ks⟩ := t
  refine ACall.body tab_ok (ρ := 0) (N := 9) Try.func79 rfl rfl rfl rfl rfl ?_
  repeat' first
    | refine AW.seq ?_
    | refine AW.block ?_
    | (refine AW.region tab_ok ?_; conv => whnf)
    | (refine AW.cond ?_; conv => whnf)
    | (refine AW.skip ?_; conv => whnf)
    | (refine AW.ret ?_; conv => whnf)
    | (refine AW.exit ?_; conv => whnf)
    | (refine (c1).mono ?_; rintro _ _ ⟨rfl, rfl⟩; conv => whnf)
    | (refine (c2).mono ?_; rintro _ _ ⟨rfl, rfl⟩; conv => whnf)
    | (refine And.intro (@rfl Val _) ?_; conv => whnf)
    | (refine And.intro (by decide) ?_; conv => whnf)
    | (refine cs (fun _ => ?_) (fun _ => ?_) <;> conv => whnf)
  · rename_i h1
    have h1 := of_decide_eq_true h1
    rw [if_pos (by omega)]
    exact ⟨rfl, rfl⟩
  · rename_i h1 h2
    have h1 := of_decide_eq_false h1
    have h2 := of_decide_eq_true h2
    rw [if_neg (by omega), if_pos (by omega)]
    exact ⟨rfl, rfl⟩
  · rename_i h1 h2
    have h1 := of_decide_eq_false h1
    have h2 := of_decide_eq_false h2
    rw [if_neg (by omega), if_neg (by omega)]
    exact ⟨rfl, rfl⟩
end Go.Proofs.Ytoglfnjankinnaa.E
