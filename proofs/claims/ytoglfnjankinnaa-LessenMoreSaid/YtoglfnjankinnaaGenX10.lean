/- Texts, merged: Tm15, Tm16, Tmd, Le0. No conditions. -/
import Derived.Test.YtoglfnjankinnaaGenX9
import Derived.Test.YtoglfnjankinnaaGenX8
import Derived.Test.YtoglfnjankinnaaGenX7
import Derived.Test.YtoglfnjankinnaaEngX3
/- Walks: order.each, Has. No conditions. -/
set_option linter.unusedVariables false
set_option linter.unusedSimpArgs false
namespace Go.Proofs.Ytoglfnjankinnaa.E
open Go

theorem less_at (k k' : Int) (ks ks' : List Ty) (ex ex' : List DV) (ha : tright (.node k ks) = true) (hb : tright (.node k' ks') = true) :
    ACall Try.prog 97 [.c (.d (.rp 0 (.int .i8 k :: .sl 0 2 (Ty.rows ks) :: ex))), .c (.d (.rp 0 (.int .i8 k' :: .sl 0 2 (Ty.rows ks') :: ex')))] [] (fun o σ => o = .ret (.c (.d (.bool (lessF (.node k ks) (.node k' ks'))))) ∧ σ = []) :=
  (less_call (.node k ks) (.node k' ks') ha hb).args (.cons (.rp 0 [_, _] ex) (.cons (.rp 0 [_, _] ex') .nil))
def fromA (k : Int) : Bool := decide (k = 5 ∨ k = 4 ∨ k = 7 ∨ k = 12 ∨ k = 13 ∨ k = 16)
set_option maxRecDepth 10000 in
theorem annot_call (k : Int) : ACall Try.prog 96 [.c (.d (.int .i8 k))] [] (fun o σ => o = .ret (.tup [.c (.d (.bool (fromA k))), .c (.d (.bool (decide (k = 5))))]) ∧ σ = []) := by
  have e1 : ∀ (o o' : Bool) (p p' : Bool), o = p → o' = p' → Out.ret (oneOf [.c (.d (.bool o)), .c (.d (.bool o'))]) = Out.ret (.tup [.c (.d (.bool p)), .c (.d (.bool p'))]) := fun o o' p p' h1 h2 => by rw [h1, h2]; rfl
  refine ACall.body tab_ok (ρ := 0) (N := 13) Try.func96 rfl rfl rfl rfl rfl ?_
  repeat' first
    | refine AW.seq ?_
    | refine AW.block ?_
    | (refine AW.region tab_ok ?_; conv => whnf)
    | (refine AW.cond ?_; conv => whnf)
    | (refine AW.skip ?_; conv => whnf)
    | (refine AW.ret ?_; conv => whnf)
    | (refine AW.exit ?_; conv => whnf)
    | (refine And.intro (@rfl Val _) ?_; conv => whnf)
    | (refine And.intro (by decide) ?_; conv => whnf)
    | (refine cs (fun _ => ?_) (fun _ => ?_) <;> conv => whnf)
  all_goals
    refine ⟨e1 _ _ _ _ ?_ ?_, rfl⟩
    · simp at *
      simp [fromA]
      omega
    · simp at *
      omega
/-! ### Has -/
mutual
def tmhas (q : Int) : Tm → Bool
  | .node k name arg num tk tks uk uks label place ks => decide (k = q) || tmhass q ks
def tmhass (q : Int) : List Tm → Bool
  | [] => false
  | t :: l => tmhas q t || tmhass q l
end
theorem tmhass_take (q : Int) : ∀ (ks : List Tm) (i : Nat) t, ks[i]? = some t → tmhass q (ks.take (i + 1)) = (tmhass q (ks.take i) || tmhas q t)
  | x :: l, 0, t, h => by simp at h; subst h; simp [tmhass]
  | x :: l, i + 1, t, h => by
    simp only [List.getElem?_cons_succ] at h
    have := tmhass_take q l i t h
    simp only [List.take_succ_cons, tmhass, this, Bool.or_assoc]
theorem tmhass_mem (q : Int) : ∀ (ks : List Tm) (t : Tm), t ∈ ks → tmhas q t = true → tmhass q ks = true
  | x :: l, t, hm, h => by
    simp only [tmhass, Bool.or_eq_true]
    rcases List.mem_cons.1 hm with rfl | hm
    · exact .inl h
    · exact .inr (tmhass_mem q l t hm h)
theorem tmhas_kid {q : Int} {k name arg num tk tks uk uks label place ks} (h : tmhas q (.node k name arg num tk tks uk uks label place ks) = false) {t : Tm} (ht : t ∈ ks) : tmhas q t = false := by
  cases hb : tmhas q t with
  | false => rfl
  | true => have := tmhass_mem q ks t ht hb; simp [tmhas, this] at h
structure TmHasI (q : Int) (ks : List Tm) where
  i : Nat
  hi : i ≤ ks.length
  h : tmhass q (ks.take i) = false
/-! ### each -/
mutual
/-- A term with its annotations left open. -/
def tmopen : Tm → Tm
  | .node k name arg num tk tks uk uks label place ks => .node k name arg num 0 [] 0 [] label place (tmopens ks)
def tmopens : List Tm → List Tm
  | [] => []
  | t :: l => tmopen t :: tmopens l
end
theorem tmopens_map : ∀ ks : List Tm, tmopens ks = ks.map tmopen
  | [] => rfl
  | t :: l => by simp [tmopens, tmopens_map l]
theorem tmopens_get {ks : List Tm} {i : Nat} {x : Tm} (h : ks[i]? = some x) : (tmopens ks)[i]? = some (tmopen x) := by rw [tmopens_map, List.getElem?_map, h]; rfl
theorem tmopens_len (ks : List Tm) : (tmopens ks).length = ks.length := by rw [tmopens_map, List.length_map]
def ownEach : Tm → Tm → Bool
  | .node k name arg num tk tks uk uks label place ks, .node k' name' arg' num' tk' tks' uk' uks' label' place' ks' => (!fromA k || lessF (.node tk tks) (.node tk' tks')) && (!decide (k = 5) || lessF (.node uk uks) (.node uk' uks'))
mutual
def tmeach : Tm → Tm → Bool
  | .node k name arg num tk tks uk uks label place ks, .node k' name' arg' num' tk' tks' uk' uks' label' place' ks' => ownEach (.node k name arg num tk tks uk uks label place ks) (.node k' name' arg' num' tk' tks' uk' uks' label' place' ks') && tmeachs ks ks'
def tmeachs : List Tm → List Tm → Bool
  | [], _ => true
  | _ :: _, [] => false
  | a :: l, b :: l' => tmeach a b && tmeachs l l'
end
theorem tmeachs_all : ∀ (ks ks' : List Tm), ks.length = ks'.length → (tmeachs ks ks' = true ↔ ∀ (j : Nat) x y, ks[j]? = some x → ks'[j]? = some y → tmeach x y = true)
  | [], [], _ => by simp [tmeachs]
  | a :: l, b :: l', h => by
    have ih := tmeachs_all l l' (by simpa using h)
    simp only [tmeachs, Bool.and_eq_true, ih]
    constructor
    · rintro ⟨h1, h2⟩ j x y hx hy
      cases j with
      | zero => simp at hx hy; subst hx; subst hy; exact h1
      | succ j => simp only [List.getElem?_cons_succ] at hx hy; exact h2 j x y hx hy
    · intro h
      exact ⟨h 0 a b rfl rfl, fun j x y hx hy => h (j + 1) x y (by simpa using hx) (by simpa using hy)⟩
structure TmEachI (ks ks' : List Tm) where
  i : Nat
  hi : i ≤ ks.length
  h : ∀ (j : Nat), j < i → ∀ x y, ks[j]? = some x → ks'[j]? = some y → tmeach x y = true
noncomputable def rest98 : Code := match Try.f59.body with
  | some (.seq _ (.seq _ (.seq _ c))) => c
  | _ => .skip
set_option maxRecDepth 10000 in
theorem each_rest (k : Int) (name arg : ByteArray) (num tk : Int) (tks : List Ty) (uk : Int) (uks : List Ty) (label place : Int) (ks : List Tm) (k' : Int) (name' arg' : ByteArray) (num' tk' : Int) (tks' : List Ty) (uk' : Int) (uks' : List Ty) (label' place' : Int) (ks' : List Tm) (hkk : ks.length = ks'.length) (hlen : ks.length ≤ 3)
    (ih : ∀ (i : Nat) x y, ks[i]? = some x → ks'[i]? = some y → ACall Try.prog 59 [.c (.d (.rp 0 x.cells)), .c (.d (.rp 0 y.cells))] [] (fun o σ => o = .ret (.c (.d (.bool (tmeach x y)))) ∧ σ = [])) :
    AW Try.prog tab 0 rest98 ⟨63, [(0, .c (.d (.rp 0 (Tm.node k name arg num tk tks uk uks label place ks).cells))), (1, .c (.d (.rp 0 (Tm.node k' name' arg' num' tk' tks' uk' uks' label' place' ks').cells)))], [], []⟩
      (afin tab 0 59 [.tmp 4] 0 (fun o σ => o = .ret (.c (.d (.bool (tmeachs ks ks')))) ∧ σ = [])) := by
  repeat' first
    | refine AW.seq ?_
    | refine AW.block ?_
    | (refine AW.region tab_ok ?_; conv => whnf)
    | (refine AW.draw (id := 2) tab_ok mixed [0, 1, 2, 3, 4, 5, 6, 7, 8, 9, 10, 11, 12, 13, 14, 15, 16, 17, 18, 19, 20, 21, 22, 23] (by kernel_rfl) ?_; conv => whnf)
    | (refine AW.draw (id := 7) tab_ok mixed [0, 1, 2, 3, 4, 5, 6, 7, 8, 9, 10, 11, 12, 13] (by kernel_rfl) ?_; conv => whnf)
    | (refine AW.cond ?_; conv => whnf)
    | (refine AW.skip ?_; conv => whnf)
    | (refine AW.ret ?_; conv => whnf)
    | (refine AW.exit ?_; conv => whnf)
    | (refine And.intro (@rfl Val _) ?_; conv => whnf)
    | (refine And.intro (by decide) ?_; conv => whnf)
    | (refine cs (fun _ => ?_) (fun _ => ?_) <;> conv => whnf)
  refine AW.loop (ι := TmEachI ks ks') (fun x => ⟨63, [(45, .c (.d (.int .i64 x.i))), (44, .c (.d (.int .i64 (Tm.rows ks).length))), (0, .c (.d (.rp 0 (Tm.node k name arg num tk tks uk uks label place ks).cells))), (1, .c (.d (.rp 0 (Tm.node k' name' arg' num' tk' tks' uk' uks' label' place' ks').cells)))], [], []⟩)
    (fun x => ks.length - x.i) ⟨0, Nat.zero_le _, fun j h => by omega⟩ 0 (fun _ => rfl) (Nat.le_of_ble_eq_true rfl) ⟨⟨rfl, rfl, rfl, rfl, trivial⟩, rfl, rfl, ⟨[], rfl⟩, rfl⟩ (fun x => ?_)
  obtain ⟨i, hi, hj⟩ := x
  repeat' first
    | refine AW.seq ?_
    | refine AW.block ?_
    | (refine AW.region tab_ok ?_; conv => whnf)
    | (refine AW.draw (id := 2) tab_ok mixed [0, 1, 2, 3, 4, 5, 6, 7, 8, 9, 10, 11, 12, 13, 14, 15, 16, 17, 18, 19, 20, 21, 22, 23] (by kernel_rfl) ?_; conv => whnf)
    | (refine AW.draw (id := 7) tab_ok mixed [0, 1, 2, 3, 4, 5, 6, 7, 8, 9, 10, 11, 12, 13] (by kernel_rfl) ?_; conv => whnf)
    | (refine AW.cond ?_; conv => whnf)
    | (refine AW.skip ?_; conv => whnf)
    | (refine AW.ret ?_; conv => whnf)
    | (refine AW.exit ?_; conv => whnf)
    | (refine And.intro (@rfl Val _) ?_; conv => whnf)
    | (refine And.intro (by decide) ?_; conv => whnf)
    | (refine cs (fun _ => ?_) (fun _ => ?_) <;> conv => whnf)
  · rename_i h1
    simp only [trows_length] at h1 ⊢
    have := of_decide_eq_true h1
    refine ⟨by omega, fun row hrow => ?_⟩
    obtain ⟨x, ht, rfl⟩ := trows_get ks i row (by simpa using hrow)
    have hlt : i < ks.length := (List.getElem?_eq_some_iff.1 ht).1
    have hm := List.mem_of_getElem? ht
    conv => whnf
    repeat' first
      | refine AW.seq ?_
      | refine AW.block ?_
      | (refine AW.region tab_ok ?_; conv => whnf)
      | (refine AW.draw (id := 2) tab_ok mixed [0, 1, 2, 3, 4, 5, 6, 7, 8, 9, 10, 11, 12, 13, 14, 15, 16, 17, 18, 19, 20, 21, 22, 23] (by kernel_rfl) ?_; conv => whnf)
      | (refine AW.draw (id := 7) tab_ok mixed [0, 1, 2, 3, 4, 5, 6, 7, 8, 9, 10, 11, 12, 13] (by kernel_rfl) ?_; conv => whnf)
      | (refine AW.cond ?_; conv => whnf)
      | (refine AW.skip ?_; conv => whnf)
      | (refine AW.ret ?_; conv => whnf)
      | (refine AW.exit ?_; conv => whnf)
      | (refine And.intro (@rfl Val _) ?_; conv => whnf)
      | (refine And.intro (by decide) ?_; conv => whnf)
      | (refine cs (fun _ => ?_) (fun _ => ?_) <;> conv => whnf)
    simp only [trows_length]
    refine ⟨by omega, fun row hrow => ?_⟩
    obtain ⟨y, hu, rfl⟩ := trows_get ks' i row (by simpa using hrow)
    have hm' := List.mem_of_getElem? hu
    have hc := ih i _ _ ht hu
    have hno : tmeach x y = false → tmeachs ks ks' = false := fun h2 => by
      cases hc : tmeachs ks ks' with
      | false => rfl
      | true => rw [(tmeachs_all ks ks' hkk).1 hc i _ _ ht hu] at h2; cases h2
    have hye : tmeach x y = true → ∀ j, j < i + 1 → ∀ x y, ks[j]? = some x → ks'[j]? = some y → tmeach x y = true := fun h2 j h x y hx hy => by
      by_cases e : j = i
      · subst e; rw [ht] at hx; rw [hu] at hy; cases hx; cases hy; exact h2
      · exact hj j (by omega) x y hx hy
    generalize tmeach x y = bb at hc hno hye
    conv => whnf
    repeat' first
      | refine AW.seq ?_
      | refine AW.block ?_
      | (refine AW.region tab_ok ?_; conv => whnf)
      | (refine AW.draw (id := 2) tab_ok mixed [0, 1, 2, 3, 4, 5, 6, 7, 8, 9, 10, 11, 12, 13, 14, 15, 16, 17, 18, 19, 20, 21, 22, 23] (by kernel_rfl) ?_; conv => whnf)
      | (refine AW.draw (id := 7) tab_ok mixed [0, 1, 2, 3, 4, 5, 6, 7, 8, 9, 10, 11, 12, 13] (by kernel_rfl) ?_; conv => whnf)
      | (refine AW.cond ?_; conv => whnf)
      | (refine AW.skip ?_; conv => whnf)
      | (refine AW.ret ?_; conv => whnf)
      | (refine AW.exit ?_; conv => whnf)
      | (refine (hc).mono ?_; rintro _ _ ⟨rfl, rfl⟩; conv => whnf)
      | (refine And.intro (@rfl Val _) ?_; conv => whnf)
      | (refine And.intro (by decide) ?_; conv => whnf)
      | (refine cs (fun _ => ?_) (fun _ => ?_) <;> conv => whnf)
    · rename_i h2
      have h2 : bb = false := by simpa using h2
      have := hno h2
      exact ⟨outb this.symm, rfl⟩
    · rename_i h2
      have h2 : bb = true := by simpa using h2
      rw [wrap64 (x := (i : Int) + 1) (by omega) (by omega)]
      exact ⟨⟨i + 1, hlt, hye h2⟩, ⟨⟨rfl, rfl, rfl, rfl, trivial⟩, rfl, rfl, ⟨[], rfl⟩, rfl⟩, show ks.length - (i + 1) < ks.length - i by omega⟩
  · rename_i h1
    simp only [trows_length] at h1
    have := of_decide_eq_false h1
    obtain rfl : i = ks.length := by omega
    have : tmeachs ks ks' = true := (tmeachs_all ks ks' hkk).2 fun j x y hx hy => hj j (List.getElem?_eq_some_iff.1 hx).1 x y hx hy
    exact ⟨outb this.symm, rfl⟩
theorem tmtype_right {k name arg num tk tks uk uks label place ks} (h : tmright (.node k name arg num tk tks uk uks label place ks) = true) : (typeK k = true → tright (.node tk tks) = true) ∧ (toK k = true → tright (.node uk uks) = true) := by
  simp [tmright, ownRight] at h
  obtain ⟨⟨⟨⟨_, h1⟩, h2⟩, _⟩, _⟩ := h
  refine ⟨fun q => tcheck_right ?_, fun q => tcheck_right ?_⟩
  · rcases h1 with h1 | h1
    · rw [q] at h1; cases h1
    · exact h1
  · rcases h2 with h2 | h2
    · rw [q] at h2; cases h2
    · exact h2
set_option maxRecDepth 10000 in
set_option maxHeartbeats 4000000 in
theorem each_call (a : Tm) : ∀ b, tmright a = true → tmright b = true → tmhas 17 a = false → tmsame (tmopen a) (tmopen b) = true → ACall Try.prog 59 [.c (.d (.rp 0 a.cells)), .c (.d (.rp 0 b.cells))] [] (fun o σ => o = .ret (.c (.d (.bool (tmeach a b)))) ∧ σ = []) := by
  induction a using Tm.ind with
  | _ k name arg num tk tks uk uks label place ks ih =>
  rintro ⟨k', name', arg', num', tk', tks', uk', uks', label', place', ks'⟩ ha hb hc hs
  have ek : k = k' := by
    simp only [tmopen, tmsame, ownSame, Bool.and_eq_true, decide_eq_true_eq] at hs
    exact hs.1.1.1.1.1.1.1
  subst ek
  have la := tmright_len ha
  have lb := tmright_len hb
  have le := kidsK_le k
  have ih' : ∀ (i : Nat) x y, ks[i]? = some x → ks'[i]? = some y → ACall Try.prog 59 [.c (.d (.rp 0 x.cells)), .c (.d (.rp 0 y.cells))] [] (fun o σ => o = .ret (.c (.d (.bool (tmeach x y)))) ∧ σ = []) := fun i x y hx hy => by
    have mx := List.mem_of_getElem? hx
    have my := List.mem_of_getElem? hy
    refine ih x mx y (tmright_kid ha mx) (tmright_kid hb my) (tmhas_kid hc mx) ?_
    simp only [tmopen, tmsame, Bool.and_eq_true] at hs
    exact (tmsames_all _ _ (by rw [tmopens_len, tmopens_len]; omega)).1 hs.2 i _ _ (tmopens_get hx) (tmopens_get hy)
  have fin : ownEach (.node k name arg num tk tks uk uks label place ks) (.node k name' arg' num' tk' tks' uk' uks' label' place' ks') = true → ∀ env, get env 0 = .c (.d (.rp 0 (Tm.node k name arg num tk tks uk uks label place ks).cells)) → get env 1 = .c (.d (.rp 0 (Tm.node k name' arg' num' tk' tks' uk' uks' label' place' ks').cells)) →
      AW Try.prog tab 0 rest98 ⟨63, env, [], []⟩ (afin tab 0 59 Try.f59.results.toList ([] : List AObj).length (fun o σ => o = .ret (.c (.d (.bool (tmeach (.node k name arg num tk tks uk uks label place ks) (.node k name' arg' num' tk' tks' uk' uks' label' place' ks'))))) ∧ σ = [])) := fun ho env g0 g1 => by
    have e : tmeach (.node k name arg num tk tks uk uks label place ks) (.node k name' arg' num' tk' tks' uk' uks' label' place' ks') = tmeachs ks ks' := by simp [tmeach, ho]
    rw [e]
    refine AW.fits ?_ ?_ (each_rest k name arg num tk tks uk uks label place ks k name' arg' num' tk' tks' uk' uks' label' place' ks' (by omega) (by omega) ih')
    · exact ⟨⟨g0, g1, trivial⟩, rfl, rfl, ⟨[], rfl⟩, rfl⟩
    · rfl
  have hv := tmright_valid ha
  obtain ⟨p1, p2⟩ := tmtype_right ha
  obtain ⟨q1, q2⟩ := tmtype_right hb
  have w1 : typeK k = true → ∀ ex ex', ACall Try.prog 97 [.c (.d (.rp 0 (.int .i8 tk :: .sl 0 2 (Ty.rows tks) :: ex))), .c (.d (.rp 0 (.int .i8 tk' :: .sl 0 2 (Ty.rows tks') :: ex')))] [] (fun o σ => o = .ret (.c (.d (.bool (lessF (.node tk tks) (.node tk' tks'))))) ∧ σ = []) := fun h ex ex' => less_at _ _ _ _ ex ex' (p1 h) (q1 h)
  have w2 : toK k = true → ∀ ex ex', ACall Try.prog 97 [.c (.d (.rp 0 (.int .i8 uk :: .sl 0 2 (Ty.rows uks) :: ex))), .c (.d (.rp 0 (.int .i8 uk' :: .sl 0 2 (Ty.rows uks') :: ex')))] [] (fun o σ => o = .ret (.c (.d (.bool (lessF (.node uk uks) (.node uk' uks'))))) ∧ σ = []) := fun h ex ex' => less_at _ _ _ _ ex ex' (p2 h) (q2 h)
  clear ih ih' ha hb la lb le p1 p2 q1 q2 hs hc
  rcases kinds k hv with rfl | rfl | rfl | rfl | rfl | rfl | rfl | rfl | rfl | rfl | rfl | rfl | rfl | rfl | rfl | rfl | rfl | rfl
  all_goals
    refine ACall.body tab_ok (ρ := 0) (N := 63) Try.func59 rfl rfl rfl rfl rfl ?_
    repeat' first
      | (refine fin ?_ _ rfl rfl)
      | refine AW.seq ?_
      | refine AW.block ?_
      | (refine AW.region tab_ok ?_; conv => whnf)
      | (refine AW.draw (id := 2) tab_ok mixed [0, 1, 2, 3, 4, 5, 6, 7, 8, 9, 10, 11, 12, 13, 14, 15, 16, 17, 18, 19, 20, 21, 22, 23] (by kernel_rfl) ?_; conv => whnf)
      | (refine AW.draw (id := 7) tab_ok mixed [0, 1, 2, 3, 4, 5, 6, 7, 8, 9, 10, 11, 12, 13] (by kernel_rfl) ?_; conv => whnf)
      | (refine AW.cond ?_; conv => whnf)
      | (refine AW.skip ?_; conv => whnf)
      | (refine AW.ret ?_; conv => whnf)
      | (refine AW.exit ?_; conv => whnf)
      | (refine (annot_call _).mono ?_; rintro _ _ ⟨rfl, rfl⟩; conv => whnf)
      | (refine (w1 rfl _ _).mono ?_; rintro _ _ ⟨rfl, rfl⟩; conv => whnf)
      | (refine (w2 rfl _ _).mono ?_; rintro _ _ ⟨rfl, rfl⟩; conv => whnf)
      | (refine And.intro (@rfl Val _) ?_; conv => whnf)
      | (refine And.intro (by decide) ?_; conv => whnf)
      | (refine cs (fun _ => ?_) (fun _ => ?_) <;> conv => whnf)
  all_goals clear fin hv w1 w2
  all_goals first
    | (refine ⟨outb ?_, rfl⟩
       simp only [tmeach, ownEach]
       try simp [fromA] at *
       try simp_all
       done)
    | (simp only [ownEach]
       try simp [fromA] at *
       try simp_all
       done)
    | trace_state
end Go.Proofs.Ytoglfnjankinnaa.E

/- Walk: order.open. No conditions. -/
set_option linter.unusedVariables false
set_option linter.unusedSimpArgs false
namespace Go.Proofs.Ytoglfnjankinnaa.E
open Go

/-- What open tells. -/
def openR (t : Tm) (o : Out) (σ : List AObj) : Prop := ∃ m : Tm, (tmhas 17 t = false → m = tmopen t) ∧ o = .ret (.tup [m.val, .c (.d (.bool (!tmhas 17 t)))]) ∧ σ = []
set_option maxRecDepth 10000 in
theorem open_call (t : Tm) : tmN t ≤ 8192 → ACall Try.prog 58 [t.val] [] (openR t) := by
  induction t using Tm.ind with
  | _ k name arg num tk tks uk uks label place ks ih =>
  intro hN
  have hlen := tmNL_len ks
  simp only [tmN] at hN
  have ih' : ∀ t ∈ ks, ACall Try.prog 58 [t.val] [] (openR t) := fun t ht => ih t ht (by have := tmN_mem ks t ht; omega)
  have e : tmhas 17 (.node k name arg num tk tks uk uks label place ks) = (decide (k = 17) || tmhass 17 ks) := rfl
  refine ACall.body tab_ok (ρ := 0) (N := 44) Try.func58 rfl rfl rfl rfl rfl ?_
  repeat' first
    | refine AW.seq ?_
    | refine AW.block ?_
    | (refine AW.region tab_ok ?_; conv => whnf)
    | (refine AW.cond ?_; conv => whnf)
    | (refine AW.skip ?_; conv => whnf)
    | (refine AW.ret ?_; conv => whnf)
    | (refine AW.exit ?_; conv => whnf)
    | (refine And.intro (@rfl Val _) ?_; conv => whnf)
    | (refine And.intro (by decide) ?_; conv => whnf)
    | (refine cs (fun _ => ?_) (fun _ => ?_) <;> conv => whnf)
  · rename_i h
    have h : k = 17 := by simpa using h
    refine ⟨.node k name arg num tk tks uk uks label place ks, fun hh => ?_, ?_, rfl⟩
    · rw [e, h] at hh; simp at hh
    · rw [e, h]; rfl
  · rename_i h
    have h : k ≠ 17 := by simpa using h
    have e : tmhas 17 (.node k name arg num tk tks uk uks label place ks) = tmhass 17 ks := by rw [e]; simp [h]
    refine ⟨⟨by omega, by simp only [trows_length]; omega, by simp only [trows_length]; omega, by simp only [trows_length]; omega⟩, ?_⟩
    conv => whnf
    repeat' first
      | refine AW.seq ?_
      | refine AW.block ?_
      | (refine AW.region tab_ok ?_; conv => whnf)
      | (refine AW.cond ?_; conv => whnf)
      | (refine AW.skip ?_; conv => whnf)
      | (refine AW.ret ?_; conv => whnf)
      | (refine AW.exit ?_; conv => whnf)
      | (refine And.intro (@rfl Val _) ?_; conv => whnf)
      | (refine And.intro (by decide) ?_; conv => whnf)
      | (refine cs (fun _ => ?_) (fun _ => ?_) <;> conv => whnf)
    refine AW.loop (ι := TmHasI 17 ks) (fun x => ⟨44, [(24, .c (.d (.int .i64 x.i))), (23, .c (.d (.int .i64 (Tm.rows ks).length))), (22, .c (.d (.sl 0 11 (Tm.rows ks)))), (4, .c (.own 2 (Tm.rows ((tmopens ks).take x.i)).length)), (1, .c (.ptr 0 0)), (2, .c (.ptr 1 0))], [.var [.d (.int .i8 k), .d (.str name), .d (.str arg), .d (.int .i64 num), .d (.int .i8 0), .d .nils, .d (.int .i8 0), .d .nils, .d (.int .i64 label), .d (.int .i64 place), .d (.sl 0 11 (Tm.rows ks))], .var [.d (.int .i8 0), .d (.str ⟨#[]⟩), .d (.str ⟨#[]⟩), .d (.int .i64 0), .d (.int .i8 0), .d .nils, .d (.int .i8 0), .d .nils, .d (.int .i64 0), .d (.int .i64 0), .d .nils], .row 28 11 (Tm.rows ((tmopens ks).take x.i))], []⟩)
      (fun x => ks.length - x.i) ⟨0, Nat.zero_le _, rfl⟩ 3 (fun _ => rfl) (Nat.le_of_ble_eq_true rfl) ⟨⟨rfl, rfl, rfl, rfl, rfl, rfl, trivial⟩, rfl, rfl, ⟨[], rfl⟩, rfl⟩ (fun x => ?_)
    obtain ⟨i, hi, hj⟩ := x
    repeat' first
      | refine AW.seq ?_
      | refine AW.block ?_
      | (refine AW.region tab_ok ?_; conv => whnf)
      | (refine AW.cond ?_; conv => whnf)
      | (refine AW.skip ?_; conv => whnf)
      | (refine AW.ret ?_; conv => whnf)
      | (refine AW.exit ?_; conv => whnf)
      | (refine And.intro (@rfl Val _) ?_; conv => whnf)
      | (refine And.intro (by decide) ?_; conv => whnf)
      | (refine cs (fun _ => ?_) (fun _ => ?_) <;> conv => whnf)
    · rename_i h2
      simp only [trows_length] at h2
      have := of_decide_eq_true h2
      refine ⟨by simp only [trows_length]; omega, fun row hrow => ?_⟩
      obtain ⟨x, ht, rfl⟩ := trows_get ks i row (by simpa using hrow)
      have hlt : i < ks.length := (List.getElem?_eq_some_iff.1 ht).1
      have hmem := List.mem_of_getElem? ht
      have hc := ih' x hmem
      have hn := tmhass_take 17 ks i _ ht
      have hf := tmhass_mem 17 ks _ hmem
      have hg := tmopens_get ht
      have hoR : ∀ o σ, openR x o σ → ∃ m : Tm, (tmhas 17 x = false → m = tmopen x) ∧ o = .ret (.tup [m.val, .c (.d (.bool (!tmhas 17 x)))]) ∧ σ = [] := fun _ _ h => h
      generalize openR x = RR at hc hoR
      generalize tmhas 17 x = b at hn hf hoR
      generalize tmopen x = x' at hg hoR
      obtain ⟨kx, namex, argx, numx, tkx, tksx, ukx, uksx, labelx, placex, ksx⟩ := x
      conv => whnf
      repeat' first
        | refine AW.seq ?_
        | refine AW.block ?_
        | (refine AW.region tab_ok ?_; conv => whnf)
        | (refine AW.cond ?_; conv => whnf)
        | (refine AW.skip ?_; conv => whnf)
        | (refine AW.ret ?_; conv => whnf)
        | (refine AW.exit ?_; conv => whnf)
        | (refine And.intro (@rfl Val _) ?_; conv => whnf)
        | (refine And.intro (by decide) ?_; conv => whnf)
        | (refine cs (fun _ => ?_) (fun _ => ?_) <;> conv => whnf)
      refine hc.mono ?_
      intro o1 σ1 hR
      obtain ⟨⟨ky, namey, argy, numy, tky, tksy, uky, uksy, labely, placey, ksy⟩, hm, rfl, rfl⟩ := hoR _ _ hR
      conv => whnf
      repeat' first
        | refine AW.seq ?_
        | refine AW.block ?_
        | (refine AW.region tab_ok ?_; conv => whnf)
        | (refine AW.cond ?_; conv => whnf)
        | (refine AW.skip ?_; conv => whnf)
        | (refine AW.ret ?_; conv => whnf)
        | (refine AW.exit ?_; conv => whnf)
        | (refine And.intro (@rfl Val _) ?_; conv => whnf)
        | (refine And.intro (by decide) ?_; conv => whnf)
        | (refine cs (fun _ => ?_) (fun _ => ?_) <;> conv => whnf)
      · rename_i h3
        have h3 : b = true := by simpa using h3
        refine ⟨.node k name arg num 0 [] 0 [] label place ks, fun hh => ?_, ?_, rfl⟩
        · rw [e, hf h3] at hh; cases hh
        · rw [e, hf h3]; rfl
      · rename_i h3
        have h3 : b = false := by simpa using h3
        have hm := hm h3
        subst hm
        have hmt : (tmopens ks).take (i + 1) = (tmopens ks).take i ++ [.node ky namey argy numy tky tksy uky uksy labely placey ksy] := by
          rw [List.take_add_one, hg]; rfl
        have e2 : Tm.rows ((tmopens ks).take i) ++ [Tm.cells (.node ky namey argy numy tky tksy uky uksy labely placey ksy)] = Tm.rows ((tmopens ks).take (i + 1)) := by
          rw [hmt, trows_map ((tmopens ks).take i), trows_map ((tmopens ks).take i ++ _), List.map_append]; rfl
        have el : (Tm.rows ((tmopens ks).take i)).length + [Tm.cells (.node ky namey argy numy tky tksy uky uksy labely placey ksy)].length = (Tm.rows ((tmopens ks).take (i + 1))).length := by
          rw [← List.length_append, e2]
        have ho := tmopens_len ks
        refine ⟨⟨rfl, ?_, ?_⟩, ?_⟩
        · simp only [trows_length, List.length_take, List.length_cons, List.length_nil]
          omega
        · simp only [trows_length, List.length_take, List.length_cons, List.length_nil]
          omega
        conv => whnf
        repeat' first
          | refine AW.seq ?_
          | refine AW.block ?_
          | (refine AW.region tab_ok ?_; conv => whnf)
          | (refine AW.cond ?_; conv => whnf)
          | (refine AW.skip ?_; conv => whnf)
          | (refine AW.ret ?_; conv => whnf)
          | (refine AW.exit ?_; conv => whnf)
          | (refine And.intro (@rfl Val _) ?_; conv => whnf)
          | (refine And.intro (by decide) ?_; conv => whnf)
          | (refine cs (fun _ => ?_) (fun _ => ?_) <;> conv => whnf)
        simp only [Tm.cells] at e2 el
        rw [el, e2, wrap64 (x := (i : Int) + 1) (by omega) (by omega)]
        exact ⟨⟨i + 1, hlt, by rw [hn, hj, h3]; rfl⟩, ⟨⟨rfl, rfl, rfl, rfl, rfl, rfl, trivial⟩, rfl, rfl, ⟨[_, _], rfl⟩, rfl⟩, show ks.length - (i + 1) < ks.length - i by omega⟩
    · rename_i h2
      simp only [trows_length] at h2
      have := of_decide_eq_false h2
      obtain rfl : i = ks.length := by omega
      simp only [List.take_length] at hj
      have e3 : (tmopens ks).take ks.length = tmopens ks := List.take_of_length_le (by rw [tmopens_len]; omega)
      simp only [e3]
      first | refine ⟨trivial, ?_⟩ | refine ⟨rfl, ?_⟩ | skip
      conv => whnf
      refine ⟨tmopen (.node k name arg num tk tks uk uks label place ks), fun _ => rfl, ?_, ?_⟩
      · rw [e, hj]; rfl
      · first | rfl | trivial
end Go.Proofs.Ytoglfnjankinnaa.E

/- Plain laws: parts of a term that is one. No conditions. -/
set_option linter.unusedVariables false
set_option linter.unusedSimpArgs false
namespace Go.Proofs.Ytoglfnjankinnaa.E
open Go

theorem tmD_same (t : Tm) : ∀ m, tmD t m < m → tmD t (m + 1) = tmD t m := by
  induction t using Tm.ind with
  | _ k name arg num tk tks uk uks label place ks ih =>
  intro m
  have hs : ∀ (l : List Tm) (m : Nat), (∀ t ∈ l, ∀ m, tmD t m < m → tmD t (m + 1) = tmD t m) → tmDL l m < m → tmDL l (m + 1) = tmDL l m := fun l m => by
    induction l with
    | nil => intro _ _; simp [tmDL]
    | cons x l ihl =>
      intro h hm
      simp only [tmDL] at hm ⊢
      have h1 := h x (by simp) m (by omega)
      have h2 := ihl (fun t ht => h t (by simp [ht])) (by omega)
      omega
  simp only [tmD]
  generalize max (if typeK k = true then tdepth (.node tk tks) else 0) (if toK k = true then tdepth (.node uk uks) else 0) = d
  by_cases h1 : m ≤ 1
  · rw [if_pos h1]; omega
  · rw [if_neg h1, if_neg (by omega)]
    intro hm
    have := hs ks (m - 1) ih (by omega)
    rw [show m - 1 + 1 = m + 1 - 1 by omega] at this
    omega
theorem tmDL_mem : ∀ (ks : List Tm) (t : Tm) (m : Nat), t ∈ ks → tmD t m ≤ tmDL ks m
  | x :: l, t, m, h => by
    simp only [tmDL]
    rcases List.mem_cons.1 h with rfl | h
    · omega
    · have := tmDL_mem l t m h; omega
/-- What the depth of a term says of its kids and types. -/
theorem tmD_parts {k name arg num tk tks uk uks label place ks} (h : tmD (.node k name arg num tk tks uk uks label place ks) 201 ≤ 200) :
    (∀ t ∈ ks, tmD t 201 + 1 ≤ tmD (.node k name arg num tk tks uk uks label place ks) 201) ∧ (typeK k = true → tdepth (.node tk tks) + 1 ≤ tmD (.node k name arg num tk tks uk uks label place ks) 201) ∧ (toK k = true → tdepth (.node uk uks) + 1 ≤ tmD (.node k name arg num tk tks uk uks label place ks) 201) := by
  have e : tmD (.node k name arg num tk tks uk uks label place ks) 201 = min (max (max (if typeK k = true then tdepth (.node tk tks) else 0) (if toK k = true then tdepth (.node uk uks) else 0)) (tmDL ks 200) + 1) 201 := by
    simp only [tmD]
    rw [if_neg (by omega)]
  rw [e] at h ⊢
  refine ⟨fun t ht => ?_, fun q => ?_, fun q => ?_⟩
  · have h1 := tmDL_mem ks t 200 ht
    have h2 : tmD t 200 < 200 → tmD t 201 = tmD t 200 := tmD_same t 200
    omega
  · rw [if_pos q] at h ⊢; omega
  · rw [if_pos q] at h ⊢; omega
theorem tmcheck_parts {t : Tm} (h : tmcheck t = 0) : tmN t ≤ 8192 ∧ tmD t 201 ≤ 200 ∧ tmright t = true := by
  unfold tmcheck at h
  split at h
  · omega
  · split at h
    · omega
    · split at h
      · rename_i h3; exact ⟨by omega, by omega, h3⟩
      · omega
theorem tmcheck_of {t : Tm} (h1 : tmN t ≤ 8192) (h2 : tmD t 201 ≤ 200) (h3 : tmright t = true) : tmcheck t = 0 := by
  unfold tmcheck
  rw [if_neg (by omega), if_neg (by omega), if_pos h3]
theorem tmcheck_kid {k name arg num tk tks uk uks label place ks} (h : tmcheck (.node k name arg num tk tks uk uks label place ks) = 0) {t : Tm} (ht : t ∈ ks) : tmcheck t = 0 := by
  obtain ⟨h1, h2, h3⟩ := tmcheck_parts h
  have h4 := tmN_mem ks t ht
  have h5 := (tmD_parts h2).1 t ht
  simp only [tmN] at h1
  exact tmcheck_of (by omega) (by omega) (tmright_kid h3 ht)
theorem equal_refl (a : Ty) : equalF a a = true := by
  induction a using Ty.ind with
  | _ k ks ih =>
  have : equalL ks ks = true := (equalL_all ks ks rfl).2 fun j x y hx hy => by
    rw [hx] at hy; cases hy; exact ih x (List.mem_of_getElem? hx)
  simp [equalF, this]
theorem tcheck_parts {t : Ty} (h : tcheck t = 0) : nodes t ≤ 8192 ∧ deepF t 201 ≤ 200 ∧ tright t = true := by
  unfold tcheck at h
  split at h
  · omega
  · split at h
    · omega
    · split at h
      · rename_i h3; exact ⟨by omega, by omega, h3⟩
      · omega
theorem sameS_self {a : Ty} (h : tcheck a = 0) : sameS a a = true := by simp [sameS, h, equal_refl]
end Go.Proofs.Ytoglfnjankinnaa.E

/- Less annotated terms: the model; maps of numbers; whether a term may be lessened. No conditions. -/
set_option linter.unusedVariables false
set_option linter.unusedSimpArgs false
namespace Go.Proofs.Ytoglfnjankinnaa.E
open Go

/-! ### The model -/
mutual
/-- The spots of a type. -/
def spN : Ty → Nat
  | .node k ks => if k = 0 then 0 else 1 + spNL ks
def spNL : List Ty → Nat
  | [] => 0
  | t :: l => spN t + spNL l
end
mutual
/-- A type with the spots for which B holds made unknown; the first has the number n. -/
def walkT (B : Nat → Bool) (g : Bool) : Ty → Nat → Ty
  | .node k ks, n => if k = 0 then .node 0 [] else if (B n || g) = true then .node 0 [] else .node k (walkTs B ks (n + 1))
def walkTs (B : Nat → Bool) : List Ty → Nat → List Ty
  | [], _ => []
  | t :: l, n => walkT B false t n :: walkTs B l (n + spN t)
end
def walkGs (B : Nat → Bool) (g : Bool) : List Ty → Nat → List Ty
  | [], _ => []
  | t :: l, n => walkT B g t n :: walkGs B g l (n + spN t)
theorem walkGs_false (B : Nat → Bool) : ∀ (l : List Ty) (n : Nat), walkGs B false l n = walkTs B l n
  | [], _ => rfl
  | t :: l, n => by simp only [walkGs, walkTs, walkGs_false B l]
theorem spNL_take : ∀ (ks : List Ty) (i : Nat) t, ks[i]? = some t → spNL (ks.take (i + 1)) = spNL (ks.take i) + spN t
  | x :: l, 0, t, h => by simp at h; subst h; simp [spNL]
  | x :: l, i + 1, t, h => by
    simp only [List.getElem?_cons_succ] at h
    have := spNL_take l i t h
    simp only [List.take_succ_cons, spNL, this]; omega
theorem spNL_le : ∀ (ks : List Ty) (i : Nat), spNL (ks.take i) ≤ spNL ks
  | [], i => by simp
  | x :: l, 0 => by simp [spNL]
  | x :: l, i + 1 => by
    have := spNL_le l i
    simp only [List.take_succ_cons, spNL]; omega
theorem walkGs_take (B : Nat → Bool) (g : Bool) : ∀ (ks : List Ty) (i n : Nat) t, ks[i]? = some t → (walkGs B g ks n).take (i + 1) = (walkGs B g ks n).take i ++ [walkT B g t (n + spNL (ks.take i))]
  | x :: l, 0, n, t, h => by simp at h; subst h; simp [walkGs, spNL]
  | x :: l, i + 1, n, t, h => by
    simp only [List.getElem?_cons_succ] at h
    have := walkGs_take B g l i (n + spN x) t h
    simp only [walkGs, List.take_succ_cons, this, List.cons_append, spNL, Nat.add_assoc]
theorem walkGs_len (B : Nat → Bool) (g : Bool) : ∀ (l : List Ty) (n : Nat), (walkGs B g l n).length = l.length
  | [], _ => rfl
  | t :: l, n => by simp [walkGs, walkGs_len B g l]
theorem spN_nodes (a : Ty) : spN a ≤ nodes a := by
  induction a using Ty.ind with
  | _ k ks ih =>
  have hs : ∀ l : List Ty, (∀ t ∈ l, spN t ≤ nodes t) → spNL l ≤ nodesL l := fun l => by
    induction l with
    | nil => intro _; simp [spNL, nodesL]
    | cons x l il =>
      intro h
      have h1 := h x (by simp)
      have h2 := il fun t ht => h t (by simp [ht])
      simp only [spNL, nodesL]; omega
  have := hs ks ih
  simp only [spN, nodes]
  split <;> omega
/-- The spots of a term's own annotations. -/
def ownSp (k tk : Int) (tks : List Ty) (uk : Int) (uks : List Ty) : Nat := (if fromA k then spN (.node tk tks) else 0) + (if k = 5 then spN (.node uk uks) else 0)
mutual
def tmSp : Tm → Nat
  | .node k _ _ _ tk tks uk uks _ _ ks => ownSp k tk tks uk uks + tmSpL ks
def tmSpL : List Tm → Nat
  | [] => 0
  | t :: l => tmSp t + tmSpL l
end
def tyK : Ty → Int
  | .node k _ => k
def tyKs : Ty → List Ty
  | .node _ ks => ks
mutual
def leT (B : Nat → Bool) : Tm → Nat → Tm
  | .node k name arg num tk tks uk uks label place ks, n =>
    .node k (if nameK k || decide (k = 15) then name else ⟨#[]⟩) (if argK k then arg else ⟨#[]⟩) (if k = 1 then num else 0)
      (if fromA k then tyK (walkT B false (.node tk tks) n) else 0) (if fromA k then tyKs (walkT B false (.node tk tks) n) else [])
      (if k = 5 then tyK (walkT B false (.node uk uks) (n + spN (.node tk tks))) else 0) (if k = 5 then tyKs (walkT B false (.node uk uks) (n + spN (.node tk tks))) else [])
      0 place (leTs B ks (n + ownSp k tk tks uk uks))
def leTs (B : Nat → Bool) : List Tm → Nat → List Tm
  | [], _ => []
  | t :: l, n => leT B t n :: leTs B l (n + tmSp t)
end
theorem leTs_len (B : Nat → Bool) : ∀ (l : List Tm) (n : Nat), (leTs B l n).length = l.length
  | [], _ => rfl
  | t :: l, n => by simp [leTs, leTs_len B l]
theorem tmSpL_take : ∀ (ks : List Tm) (i : Nat) t, ks[i]? = some t → tmSpL (ks.take (i + 1)) = tmSpL (ks.take i) + tmSp t
  | x :: l, 0, t, h => by simp at h; subst h; simp [tmSpL]
  | x :: l, i + 1, t, h => by
    simp only [List.getElem?_cons_succ] at h
    have := tmSpL_take l i t h
    simp only [List.take_succ_cons, tmSpL, this]; omega
theorem tmSpL_le : ∀ (ks : List Tm) (i : Nat), tmSpL (ks.take i) ≤ tmSpL ks
  | [], i => by simp
  | x :: l, 0 => by simp [tmSpL]
  | x :: l, i + 1 => by
    have := tmSpL_le l i
    simp only [List.take_succ_cons, tmSpL]; omega
theorem leTs_get (B : Nat → Bool) : ∀ (ks : List Tm) (i n : Nat) t, ks[i]? = some t → (leTs B ks n)[i]? = some (leT B t (n + tmSpL (ks.take i)))
  | x :: l, 0, n, t, h => by simp at h; subst h; simp [leTs, tmSpL]
  | x :: l, i + 1, n, t, h => by
    simp only [List.getElem?_cons_succ] at h
    have := leTs_get B l i (n + tmSp x) t h
    simp only [leTs, List.getElem?_cons_succ, this, List.take_succ_cons, tmSpL, Nat.add_assoc]
theorem ownSp_le (k tk : Int) (tks : List Ty) (uk : Int) (uks : List Ty) (h17 : k ≠ 17) (h1 : typeK k = true → nodes (.node tk tks) ≤ 8192) (h2 : toK k = true → nodes (.node uk uks) ≤ 8192) :
    ownSp k tk tks uk uks ≤ (if typeK k = true then min (nodes (.node tk tks)) 8193 else 0) + (if toK k = true then min (nodes (.node uk uks)) 8193 else 0) := by
  have s1 := spN_nodes (.node tk tks)
  have s2 := spN_nodes (.node uk uks)
  unfold ownSp
  have e1 : fromA k = typeK k := by rw [Bool.eq_iff_iff]; simp [fromA, typeK]; omega
  have e2 : toK k = decide (k = 5) := by rw [Bool.eq_iff_iff]; simp [toK]; omega
  rw [e1, e2]
  rw [e2] at h2
  have m1 : (if typeK k = true then spN (.node tk tks) else 0) ≤ (if typeK k = true then min (nodes (.node tk tks)) 8193 else 0) := by
    split
    · rename_i h; have := h1 h; omega
    · exact Nat.le_refl 0
  have m2 : (if k = 5 then spN (.node uk uks) else 0) ≤ (if decide (k = 5) = true then min (nodes (.node uk uks)) 8193 else 0) := by
    split
    · rename_i h; have := h2 (by simpa using h); rw [if_pos (by simpa using h)]; omega
    · exact Nat.zero_le _
  omega
theorem tmSp_N (t : Tm) : tmN t ≤ 8192 → tmhas 17 t = false → tmSp t ≤ tmN t := by
  induction t using Tm.ind with
  | _ k name arg num tk tks uk uks label place ks ih =>
  intro hN h17
  simp only [tmN] at hN
  have hs : ∀ l : List Tm, tmNL l ≤ 8192 → (∀ t ∈ l, tmN t ≤ 8192 → tmhas 17 t = false → tmSp t ≤ tmN t) → (∀ t ∈ l, tmhas 17 t = false) → tmSpL l ≤ tmNL l := fun l => by
    induction l with
    | nil => intro _ _ _; simp [tmSpL, tmNL]
    | cons x l il =>
      intro hn h h'
      simp only [tmNL] at hn
      have h1 := h x (by simp) (by omega) (h' x (by simp))
      have h2 := il (by omega) (fun t ht => h t (by simp [ht])) (fun t ht => h' t (by simp [ht]))
      simp only [tmSpL, tmNL]; omega
  have h1 := hs ks (by omega) ih (fun t ht => tmhas_kid h17 ht)
  have hk : k ≠ 17 := fun e => by subst e; simp [tmhas] at h17
  have h2 := ownSp_le k tk tks uk uks hk (fun h => by rw [if_pos h] at hN; omega) (fun h => by rw [if_pos h] at hN; omega)
  simp only [tmSp, tmN]; omega

theorem rowsL_map : ∀ ks : List Ty, Ty.rows ks = ks.map Ty.cells
  | [] => rfl
  | t :: l => by simp [Ty.rows, rowsL_map l]
/-! ### Maps from numbers to numbers -/
abbrev IL := List (Nat × Int × Int)
def encI (l : IL) : List (Nat × DV × DV) := l.map fun x => (x.1, .int .i64 x.2.1, .int .i64 x.2.2)
def iget (s : Int) : IL → Nat → Option (Nat × Int)
  | [], _ => none
  | (_, k, v) :: l, i => if s = k then some (i, v) else iget s l (i + 1)
def iset (j : Nat) (v : Int) : IL → IL
  | [] => []
  | (c, k, u) :: l => match j with
    | 0 => (c, k, v) :: l
    | j + 1 => (c, k, u) :: iset j v l
theorem iget_enc (s : Int) : ∀ (l : IL) (i : Nat), mget (.int .i64 s) (encI l) i = (iget s l i).map fun x => (x.1, DV.int .i64 x.2)
  | [], i => rfl
  | (c, k, v) :: l, i => by
    have ih := iget_enc s l (i + 1)
    have hik : ikEq .i64 .i64 = true := rfl
    simp only [encI, List.map_cons, mget, iget, dvEq, hik, Bool.true_and, beq_iff_eq] at ih ⊢
    by_cases h : s = k
    · rw [if_pos h, if_pos h]; rfl
    · rw [if_neg h, if_neg h, ih]
theorem iset_enc : ∀ (l : IL) (j : Nat) (v : Int), mset j (.int .i64 v) (encI l) = encI (iset j v l)
  | [], j, v => by simp [mset, iset, encI]
  | (c, k, u) :: l, 0, v => rfl
  | (c, k, u) :: l, j + 1, v => by
    have ih := iset_enc l j v
    simp only [encI] at ih
    simp only [encI, List.map_cons, mset, iset, ih]
def ival (s : Int) (l : IL) : Int := match iget s l 0 with
  | some (_, v) => v
  | none => 0
def iput (s : Int) (v : Int) (m : Nat × IL) : Nat × IL := match iget s m.2 0 with
  | some (j, _) => (m.1, iset j v m.2)
  | none => (m.1 + 1, m.2 ++ [(m.1, s, v)])
theorem ilook_of {s : Int} {l : IL} {X : DV → Prop} (h : X (.int .i64 (ival s l))) : mlook (.int .i64 s) (encI l) (.int .i64 0) X := by
  unfold mlook
  rw [iget_enc]
  unfold ival at h
  cases hg : iget s l 0 with
  | none => rw [hg] at h; exact h
  | some x => rw [hg] at h; exact h
theorem iput_of {s : Int} {v : Int} {l : IL} {ck : Nat} {X : Nat → List (Nat × DV × DV) → Prop} (h : X (iput s v (ck, l)).1 (encI (iput s v (ck, l)).2)) : mput (.int .i64 s) (.int .i64 v) (encI l) ck X := by
  unfold mput
  rw [iget_enc]
  unfold iput at h
  cases hg : iget s l 0 with
  | none =>
    rw [hg] at h
    simp only [Option.map_none]
    have : encI l ++ [(ck, DV.int .i64 s, DV.int .i64 v)] = encI (l ++ [(ck, s, v)]) := by simp [encI]
    rw [this]; exact h
  | some x =>
    rw [hg] at h
    simp only [Option.map_some]
    rw [iset_enc]; exact h
def iv (s : Int) : IL → Option Int
  | [] => none
  | (_, k, v) :: l => if s = k then some v else iv s l
theorem iget_iv (s : Int) : ∀ (l : IL) (i : Nat), (iget s l i).map (·.2) = iv s l
  | [], i => rfl
  | (c, k, v) :: l, i => by
    simp only [iget, iv]
    split
    · rfl
    · exact iget_iv s l (i + 1)
theorem ival_iv (s : Int) (l : IL) : ival s l = (iv s l).getD 0 := by
  rw [← iget_iv s l 0]
  unfold ival
  cases iget s l 0 <;> rfl
theorem iget_some {s : Int} : ∀ {l : IL} {i j : Nat} {v : Int}, iget s l i = some (j, v) → ∃ k, j = i + k
  | (c, k, u) :: l, i, j, v, h => by
    simp only [iget] at h
    split at h
    · simp only [Option.some.injEq, Prod.mk.injEq] at h; exact ⟨0, by omega⟩
    · obtain ⟨n, hn⟩ := iget_some h; exact ⟨n + 1, by omega⟩
theorem iv_iset (s s' : Int) (v : Int) : ∀ (l : IL) (i k : Nat) (u : Int), iget s l i = some (i + k, u) → iv s' (iset k v l) = if s' = s then some v else iv s' l
  | [], i, k, u, h => by simp [iget] at h
  | (c, q, w) :: l, i, k, u, h => by
    simp only [iget] at h
    split at h
    · rename_i e
      simp only [Option.some.injEq, Prod.mk.injEq] at h
      obtain rfl : k = 0 := by omega
      subst e
      simp only [iset, iv]
      split <;> rfl
    · rename_i e
      obtain ⟨n, hn⟩ := iget_some h
      obtain rfl : k = n + 1 := by omega
      simp only [iset, iv]
      have ih := iv_iset s s' v l (i + 1) n u (by rw [h]; congr 2 <;> omega)
      split
      · rename_i e2
        subst e2
        rw [if_neg (fun e3 => e e3.symm)]
      · exact ih
theorem iv_app (s : Int) (x : Nat × Int × Int) : ∀ l : IL, iv s (l ++ [x]) = (iv s l).or (if s = x.2.1 then some x.2.2 else none)
  | [] => by obtain ⟨c, k, v⟩ := x; simp [iv]
  | (c, k, v) :: l => by
    simp only [List.cons_append, iv]
    split
    · rfl
    · exact iv_app s x l
theorem ival_iput (s s' : Int) (v : Int) (m : Nat × IL) : ival s' (iput s v m).2 = if s' = s then v else ival s' m.2 := by
  have : iv s' (iput s v m).2 = if s' = s then some v else iv s' m.2 := by
    unfold iput
    cases hg : iget s m.2 0 with
    | some x =>
      obtain ⟨j, u⟩ := x
      exact iv_iset s s' v m.2 0 j u (by simpa using hg)
    | none =>
      have hn : iv s m.2 = none := by rw [← iget_iv s m.2 0, hg]; rfl
      simp only [iv_app]
      split
      · rename_i e; subst e; rw [hn]; rfl
      · simp
  rw [ival_iv, this, ival_iv]; split <;> rfl
/-- How often numbers are there, counted into a map. -/
def imany : List Int → Nat × IL → Nat × IL
  | [], m => m
  | s :: l, m => imany l (iput s (IntKind.i64.wrap (ival s m.2 + 1)) m)
theorem imany_snoc (l : List Int) (s : Int) : ∀ m, imany (l ++ [s]) m = iput s (IntKind.i64.wrap (ival s (imany l m).2 + 1)) (imany l m) := by
  induction l with
  | nil => intro m; rfl
  | cons x l ih => intro m; exact ih _
theorem imany_val (q : Int) : ∀ (l : List Int) (m : Nat × IL), l.length ≤ 100000 → 0 ≤ ival q m.2 → ival q m.2 ≤ 1000000 → (∀ s, 0 ≤ ival s m.2 ∧ ival s m.2 + l.length ≤ 1000000) →
    (0 < ival q (imany l m).2 ↔ 0 < ival q m.2 ∨ q ∈ l)
  | [], m, _, _, _, _ => by simp [imany]
  | s :: l, m, hl, h1, h2, hb => by
    simp only [imany]
    have hs := hb s
    simp only [List.length_cons] at hl hb hs
    have hw : IntKind.i64.wrap (ival s m.2 + 1) = ival s m.2 + 1 := wrap64 (by omega) (by omega)
    rw [hw]
    have hv := fun s' => ival_iput s s' (ival s m.2 + 1) m
    rw [imany_val q l _ (by omega) (by rw [hv]; split <;> omega) (by rw [hv]; split <;> omega) (fun s' => by
      have := hb s'
      rw [hv]; split
      · omega
      · omega)]
    rw [hv, List.mem_cons]
    by_cases e : q = s
    · rw [if_pos e]; constructor
      · intro _; exact .inr (.inl e)
      · intro _; left; omega
    · rw [if_neg e]
      constructor
      · rintro (h | h)
        · exact .inl h
        · exact .inr (.inr h)
      · rintro (h | h | h)
        · exact .inl h
        · exact absurd h e
        · exact .inr h
attribute [irreducible] ival iput encI
end Go.Proofs.Ytoglfnjankinnaa.E
