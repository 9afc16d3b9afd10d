/- Walks: order.each, Has. No conditions. -/
import Derived.Test.YtdhkopangbgehaaTm11
import Derived.Test.YtdhkopangbgehaaTm12
import Derived.Test.YtdhkopangbgehaaTm13
set_option linter.unusedVariables false
set_option linter.unusedSimpArgs false
namespace Go.Proofs.Ytdhkopangbgehaa.E
open Go

theorem less_at (k k' : Int) (ks ks' : List Ty) (ex ex' : List DV) (ha : tright (.node k ks) = true) (hb : tright (.node k' ks') = true) :
    ACall Try.prog 62 [.c (.d (.rp 0 (.int .i8 k :: .sl 0 2 (Ty.rows ks) :: ex))), .c (.d (.rp 0 (.int .i8 k' :: .sl 0 2 (Ty.rows ks') :: ex')))] [] (fun o σ => o = .ret (.c (.d (.bool (lessF (.node k ks) (.node k' ks'))))) ∧ σ = []) :=
  (less_call (.node k ks) (.node k' ks') ha hb).args (.cons (.rp 0 [_, _] ex) (.cons (.rp 0 [_, _] ex') .nil))
def fromA (k : Int) : Bool := decide (k = 5 ∨ k = 4 ∨ k = 7 ∨ k = 12 ∨ k = 13 ∨ k = 16)
set_option maxRecDepth 10000 in
theorem annot_call (k : Int) : ACall Try.prog 144 [.c (.d (.int .i8 k))] [] (fun o σ => o = .ret (.tup [.c (.d (.bool (fromA k))), .c (.d (.bool (decide (k = 5))))]) ∧ σ = []) := by
  have e1 : ∀ (o o' : Bool) (p p' : Bool), o = p → o' = p' → Out.ret (oneOf [.c (.d (.bool o)), .c (.d (.bool o'))]) = Out.ret (.tup [.c (.d (.bool p)), .c (.d (.bool p'))]) := fun o o' p p' h1 h2 => by rw [h1, h2]; rfl
  refine ACall.body tab_ok (ρ := 0) (N := 13) Try.func144 rfl rfl rfl rfl rfl ?_
  repeat' first
    | refine AW.seq ?_
    | refine AW.block ?_
    | (refine AW.region tab_ok ?_; conv => whnf)
    | (refine AW.cond ?_; conv => whnf)
    | (refine AW.skip ?_; conv => whnf)
    | (refine AW.ret ?_; conv => whnf)
    | (refine AW.exit ?_; conv => whnf)
    | (refine And.intro (@rfl Val _) ?_; conv => whnf)
    | (refine And.intro (by decide) ?_; conv => whnf)
    | (refine cs (fun _ => ?_) (fun _ => ?_) <;> conv => whnf)
  all_goals
    refine ⟨e1 _ _ _ _ ?_ ?_, rfl⟩
    · simp at *
      simp [fromA]
      omega
    · simp at *
      omega
/-! ### Has -/
mutual
def tmhas (q : Int) : Tm → Bool
  | .node k name arg num tk tks uk uks label place ks => decide (k = q) || tmhass q ks
def tmhass (q : Int) : List Tm → Bool
  | [] => false
  | t :: l => tmhas q t || tmhass q l
end
theorem tmhass_take (q : Int) : ∀ (ks : List Tm) (i : Nat) t, ks[i]? = some t → tmhass q (ks.take (i + 1)) = (tmhass q (ks.take i) || tmhas q t)
  | x :: l, 0, t, h => by simp at h; subst h; simp [tmhass]
  | x :: l, i + 1, t, h => by
    simp only [List.getElem?_cons_succ] at h
    have := tmhass_take q l i t h
    simp only [List.take_succ_cons, tmhass, this, Bool.or_assoc]
theorem tmhass_mem (q : Int) : ∀ (ks : List Tm) (t : Tm), t ∈ ks → tmhas q t = true → tmhass q ks = true
  | x :: l, t, hm, h => by
    simp only [tmhass, Bool.or_eq_true]
    rcases List.mem_cons.1 hm with rfl | hm
    · exact .inl h
    · exact .inr (tmhass_mem q l t hm h)
theorem tmhas_kid {q : Int} {k name arg num tk tks uk uks label place ks} (h : tmhas q (.node k name arg num tk tks uk uks label place ks) = false) {t : Tm} (ht : t ∈ ks) : tmhas q t = false := by
  cases hb : tmhas q t with
  | false => rfl
  | true => have := tmhass_mem q ks t ht hb; simp [tmhas, this] at h
structure TmHasI (q : Int) (ks : List Tm) where
  i : Nat
  hi : i ≤ ks.length
  h : tmhass q (ks.take i) = false
set_option maxRecDepth 10000 in
theorem rhas_call (q : Int) (t : Tm) : tmN t ≤ 8192 → ACall Try.prog 99 [t.val, .c (.d (.int .i8 q))] [] (fun o σ => o = .ret (.c (.d (.bool (tmhas q t)))) ∧ σ = []) := by
  induction t using Tm.ind with
  | _ k name arg num tk tks uk uks label place ks ih =>
  intro hN
  have hlen := tmNL_len ks
  simp only [tmN] at hN
  have ih' : ∀ t ∈ ks, ACall Try.prog 99 [t.val, .c (.d (.int .i8 q))] [] (fun o σ => o = .ret (.c (.d (.bool (tmhas q t)))) ∧ σ = []) := fun t ht => ih t ht (by have := tmN_mem ks t ht; omega)
  have e : tmhas q (.node k name arg num tk tks uk uks label place ks) = (decide (k = q) || tmhass q ks) := rfl
  rw [e]
  refine ACall.body tab_ok (ρ := 0) (N := 24) Try.func99 rfl rfl rfl rfl rfl ?_
  repeat' first
    | refine AW.seq ?_
    | refine AW.block ?_
    | (refine AW.region tab_ok ?_; conv => whnf)
    | (refine AW.cond ?_; conv => whnf)
    | (refine AW.skip ?_; conv => whnf)
    | (refine AW.ret ?_; conv => whnf)
    | (refine AW.exit ?_; conv => whnf)
    | (refine And.intro (@rfl Val _) ?_; conv => whnf)
    | (refine And.intro (by decide) ?_; conv => whnf)
    | (refine cs (fun _ => ?_) (fun _ => ?_) <;> conv => whnf)
  · rename_i h
    have h : k = q := by simpa using h
    exact ⟨outb (by simp [h]), rfl⟩
  · rename_i h
    have h : k ≠ q := by simpa using h
    rw [show decide (k = q) = false by simp [h], Bool.false_or]
    refine AW.loop (ι := TmHasI q ks) (fun x => ⟨24, [(5, .c (.d (.int .i64 x.i))), (2, .c (.ptr 0 0)), (1, .c (.d (.int .i8 q)))], [.var [.d (.int .i8 k), .d (.str name), .d (.str arg), .d (.int .i64 num), .d (.int .i8 tk), .d (.sl 0 2 (Ty.rows tks)), .d (.int .i8 uk), .d (.sl 0 2 (Ty.rows uks)), .d (.int .i64 label), .d (.int .i64 place), .d (.sl 0 11 (Tm.rows ks))]], []⟩)
      (fun x => ks.length - x.i) ⟨0, Nat.zero_le _, rfl⟩ 1 (fun _ => rfl) (Nat.le_of_ble_eq_true rfl) ⟨⟨rfl, rfl, rfl, trivial⟩, rfl, rfl, ⟨[], rfl⟩, rfl⟩ (fun x => ?_)
    obtain ⟨i, hi, hj⟩ := x
    repeat' first
      | refine AW.seq ?_
      | refine AW.block ?_
      | (refine AW.region tab_ok ?_; conv => whnf)
      | (refine AW.cond ?_; conv => whnf)
      | (refine AW.skip ?_; conv => whnf)
      | (refine AW.ret ?_; conv => whnf)
      | (refine AW.exit ?_; conv => whnf)
      | (refine And.intro (@rfl Val _) ?_; conv => whnf)
      | (refine And.intro (by decide) ?_; conv => whnf)
      | (refine cs (fun _ => ?_) (fun _ => ?_) <;> conv => whnf)
    · rename_i h2
      simp only [trows_length] at h2 ⊢
      have := of_decide_eq_true h2
      refine ⟨by omega, fun row hrow => ?_⟩
      obtain ⟨⟨kx, namex, argx, numx, tkx, tksx, ukx, uksx, labelx, placex, ksx⟩, ht, rfl⟩ := trows_get ks i row (by simpa using hrow)
      have hlt : i < ks.length := (List.getElem?_eq_some_iff.1 ht).1
      have hmem := List.mem_of_getElem? ht
      have hc := ih' _ hmem
      have hn := tmhass_take q ks i _ ht
      have hf := tmhass_mem q ks _ hmem
      generalize tmhas q (Tm.node kx namex argx numx tkx tksx ukx uksx labelx placex ksx) = b at hc hn hf
      conv => whnf
      repeat' first
        | refine AW.seq ?_
        | refine AW.block ?_
        | (refine AW.region tab_ok ?_; conv => whnf)
        | (refine AW.cond ?_; conv => whnf)
        | (refine AW.skip ?_; conv => whnf)
        | (refine AW.ret ?_; conv => whnf)
        | (refine AW.exit ?_; conv => whnf)
        | (refine (hc).mono ?_; rintro _ _ ⟨rfl, rfl⟩; conv => whnf)
        | (refine And.intro (@rfl Val _) ?_; conv => whnf)
        | (refine And.intro (by decide) ?_; conv => whnf)
        | (refine cs (fun _ => ?_) (fun _ => ?_) <;> conv => whnf)
      · rename_i h3
        exact ⟨outb (hf h3).symm, rfl⟩
      · rename_i h3
        rw [wrap64 (x := (i : Int) + 1) (by omega) (by omega)]
        exact ⟨⟨i + 1, hlt, by rw [hn, hj, h3]; rfl⟩, ⟨⟨rfl, rfl, rfl, trivial⟩, rfl, rfl, ⟨[], rfl⟩, rfl⟩, show ks.length - (i + 1) < ks.length - i by omega⟩
    · rename_i h2
      simp only [trows_length] at h2
      have := of_decide_eq_false h2
      obtain rfl : i = ks.length := by omega
      simp only [List.take_length] at hj
      exact ⟨outb hj.symm, rfl⟩
/-! ### each -/
mutual
/-- A term with its annotations left open. -/
def tmopen : Tm → Tm
  | .node k name arg num tk tks uk uks label place ks => .node k name arg num 0 [] 0 [] label place (tmopens ks)
def tmopens : List Tm → List Tm
  | [] => []
  | t :: l => tmopen t :: tmopens l
end
theorem tmopens_map : ∀ ks : List Tm, tmopens ks = ks.map tmopen
  | [] => rfl
  | t :: l => by simp [tmopens, tmopens_map l]
theorem tmopens_get {ks : List Tm} {i : Nat} {x : Tm} (h : ks[i]? = some x) : (tmopens ks)[i]? = some (tmopen x) := by rw [tmopens_map, List.getElem?_map, h]; rfl
theorem tmopens_len (ks : List Tm) : (tmopens ks).length = ks.length := by rw [tmopens_map, List.length_map]
def ownEach : Tm → Tm → Bool
  | .node k name arg num tk tks uk uks label place ks, .node k' name' arg' num' tk' tks' uk' uks' label' place' ks' => (!fromA k || lessF (.node tk tks) (.node tk' tks')) && (!decide (k = 5) || lessF (.node uk uks) (.node uk' uks'))
mutual
def tmeach : Tm → Tm → Bool
  | .node k name arg num tk tks uk uks label place ks, .node k' name' arg' num' tk' tks' uk' uks' label' place' ks' => ownEach (.node k name arg num tk tks uk uks label place ks) (.node k' name' arg' num' tk' tks' uk' uks' label' place' ks') && tmeachs ks ks'
def tmeachs : List Tm → List Tm → Bool
  | [], _ => true
  | _ :: _, [] => false
  | a :: l, b :: l' => tmeach a b && tmeachs l l'
end
theorem tmeachs_all : ∀ (ks ks' : List Tm), ks.length = ks'.length → (tmeachs ks ks' = true ↔ ∀ (j : Nat) x y, ks[j]? = some x → ks'[j]? = some y → tmeach x y = true)
  | [], [], _ => by simp [tmeachs]
  | a :: l, b :: l', h => by
    have ih := tmeachs_all l l' (by simpa using h)
    simp only [tmeachs, Bool.and_eq_true, ih]
    constructor
    · rintro ⟨h1, h2⟩ j x y hx hy
      cases j with
      | zero => simp at hx hy; subst hx; subst hy; exact h1
      | succ j => simp only [List.getElem?_cons_succ] at hx hy; exact h2 j x y hx hy
    · intro h
      exact ⟨h 0 a b rfl rfl, fun j x y hx hy => h (j + 1) x y (by simpa using hx) (by simpa using hy)⟩
structure TmEachI (ks ks' : List Tm) where
  i : Nat
  hi : i ≤ ks.length
  h : ∀ (j : Nat), j < i → ∀ x y, ks[j]? = some x → ks'[j]? = some y → tmeach x y = true
noncomputable def rest98 : Code := match Try.f98.body with
  | some (.seq _ (.seq _ (.seq _ c))) => c
  | _ => .skip
set_option maxRecDepth 10000 in
theorem each_rest (k : Int) (name arg : ByteArray) (num tk : Int) (tks : List Ty) (uk : Int) (uks : List Ty) (label place : Int) (ks : List Tm) (k' : Int) (name' arg' : ByteArray) (num' tk' : Int) (tks' : List Ty) (uk' : Int) (uks' : List Ty) (label' place' : Int) (ks' : List Tm) (hkk : ks.length = ks'.length) (hlen : ks.length ≤ 3)
    (ih : ∀ (i : Nat) x y, ks[i]? = some x → ks'[i]? = some y → ACall Try.prog 98 [.c (.d (.rp 0 x.cells)), .c (.d (.rp 0 y.cells))] [] (fun o σ => o = .ret (.c (.d (.bool (tmeach x y)))) ∧ σ = [])) :
    AW Try.prog tab 0 rest98 ⟨63, [(0, .c (.d (.rp 0 (Tm.node k name arg num tk tks uk uks label place ks).cells))), (1, .c (.d (.rp 0 (Tm.node k' name' arg' num' tk' tks' uk' uks' label' place' ks').cells)))], [], []⟩
      (afin tab 0 98 [.tmp 4] 0 (fun o σ => o = .ret (.c (.d (.bool (tmeachs ks ks')))) ∧ σ = [])) := by
  repeat' first
    | refine AW.seq ?_
    | refine AW.block ?_
    | (refine AW.region tab_ok ?_; conv => whnf)
    | (refine AW.draw (id := 2) tab_ok mixed [0, 1, 2, 3, 4, 5, 6, 7, 8, 9, 10, 11, 12, 13, 14, 15, 16, 17, 18, 19, 20, 21, 22, 23] (by kernel_rfl) ?_; conv => whnf)
    | (refine AW.draw (id := 7) tab_ok mixed [0, 1, 2, 3, 4, 5, 6, 7, 8, 9, 10, 11, 12, 13] (by kernel_rfl) ?_; conv => whnf)
    | (refine AW.cond ?_; conv => whnf)
    | (refine AW.skip ?_; conv => whnf)
    | (refine AW.ret ?_; conv => whnf)
    | (refine AW.exit ?_; conv => whnf)
    | (refine And.intro (@rfl Val _) ?_; conv => whnf)
    | (refine And.intro (by decide) ?_; conv => whnf)
    | (refine cs (fun _ => ?_) (fun _ => ?_) <;> conv => whnf)
  refine AW.loop (ι := TmEachI ks ks') (fun x => ⟨63, [(45, .c (.d (.int .i64 x.i))), (44, .c (.d (.int .i64 (Tm.rows ks).length))), (0, .c (.d (.rp 0 (Tm.node k name arg num tk tks uk uks label place ks).cells))), (1, .c (.d (.rp 0 (Tm.node k' name' arg' num' tk' tks' uk' uks' label' place' ks').cells)))], [], []⟩)
    (fun x => ks.length - x.i) ⟨0, Nat.zero_le _, fun j h => by omega⟩ 0 (fun _ => rfl) (Nat.le_of_ble_eq_true rfl) ⟨⟨rfl, rfl, rfl, rfl, trivial⟩, rfl, rfl, ⟨[], rfl⟩, rfl⟩ (fun x => ?_)
  obtain ⟨i, hi, hj⟩ := x
  repeat' first
    | refine AW.seq ?_
    | refine AW.block ?_
    | (refine AW.region tab_ok ?_; conv => whnf)
    | (refine AW.draw (id := 2) tab_ok mixed [0, 1, 2, 3, 4, 5, 6, 7, 8, 9, 10, 11, 12, 13, 14, 15, 16, 17, 18, 19, 20, 21, 22, 23] (by kernel_rfl) ?_; conv => whnf)
    | (refine AW.draw (id := 7) tab_ok mixed [0, 1, 2, 3, 4, 5, 6, 7, 8, 9, 10, 11, 12, 13] (by kernel_rfl) ?_; conv => whnf)
    | (refine AW.cond ?_; conv => whnf)
    | (refine AW.skip ?_; conv => whnf)
    | (refine AW.ret ?_; conv => whnf)
    | (refine AW.exit ?_; conv => whnf)
    | (refine And.intro (@rfl Val _) ?_; conv => whnf)
    | (refine And.intro (by decide) ?_; conv => whnf)
    | (refine cs (fun _ => ?_) (fun _ => ?_) <;> conv => whnf)
  · rename_i h1
    simp only [trows_length] at h1 ⊢
    have := of_decide_eq_true h1
    refine ⟨by omega, fun row hrow => ?_⟩
    obtain ⟨x, ht, rfl⟩ := trows_get ks i row (by simpa using hrow)
    have hlt : i < ks.length := (List.getElem?_eq_some_iff.1 ht).1
    have hm := List.mem_of_getElem? ht
    conv => whnf
    repeat' first
      | refine AW.seq ?_
      | refine AW.block ?_
      | (refine AW.region tab_ok ?_; conv => whnf)
      | (refine AW.draw (id := 2) tab_ok mixed [0, 1, 2, 3, 4, 5, 6, 7, 8, 9, 10, 11, 12, 13, 14, 15, 16, 17, 18, 19, 20, 21, 22, 23] (by kernel_rfl) ?_; conv => whnf)
      | (refine AW.draw (id := 7) tab_ok mixed [0, 1, 2, 3, 4, 5, 6, 7, 8, 9, 10, 11, 12, 13] (by kernel_rfl) ?_; conv => whnf)
      | (refine AW.cond ?_; conv => whnf)
      | (refine AW.skip ?_; conv => whnf)
      | (refine AW.ret ?_; conv => whnf)
      | (refine AW.exit ?_; conv => whnf)
      | (refine And.intro (@rfl Val _) ?_; conv => whnf)
      | (refine And.intro (by decide) ?_; conv => whnf)
      | (refine cs (fun _ => ?_) (fun _ => ?_) <;> conv => whnf)
    simp only [trows_length]
    refine ⟨by omega, fun row hrow => ?_⟩
    obtain ⟨y, hu, rfl⟩ := trows_get ks' i row (by simpa using hrow)
    have hm' := List.mem_of_getElem? hu
    have hc := ih i _ _ ht hu
    have hno : tmeach x y = false → tmeachs ks ks' = false := fun h2 => by
      cases hc : tmeachs ks ks' with
      | false => rfl
      | true => rw [(tmeachs_all ks ks' hkk).1 hc i _ _ ht hu] at h2; cases h2
    have hye : tmeach x y = true → ∀ j, j < i + 1 → ∀ x y, ks[j]? = some x → ks'[j]? = some y → tmeach x y = true := fun h2 j h x y hx hy => by
      by_cases e : j = i
      · subst e; rw [ht] at hx; rw [hu] at hy; cases hx; cases hy; exact h2
      · exact hj j (by omega) x y hx hy
    generalize tmeach x y = bb at hc hno hye
    conv => whnf
    repeat' first
      | refine AW.seq ?_
      | refine AW.block ?_
      | (refine AW.region tab_ok ?_; conv => whnf)
      | (refine AW.draw (id := 2) tab_ok mixed [0, 1, 2, 3, 4, 5, 6, 7, 8, 9, 10, 11, 12, 13, 14, 15, 16, 17, 18, 19, 20, 21, 22, 23] (by kernel_rfl) ?_; conv => whnf)
      | (refine AW.draw (id := 7) tab_ok mixed [0, 1, 2, 3, 4, 5, 6, 7, 8, 9, 10, 11, 12, 13] (by kernel_rfl) ?_; conv => whnf)
      | (refine AW.cond ?_; conv => whnf)
      | (refine AW.skip ?_; conv => whnf)
      | (refine AW.ret ?_; conv => whnf)
      | (refine AW.exit ?_; conv => whnf)
      | (refine (hc).mono ?_; rintro _ _ ⟨rfl, rfl⟩; conv => whnf)
      | (refine And.intro (@rfl Val _) ?_; conv => whnf)
      | (refine And.intro (by decide) ?_; conv => whnf)
      | (refine cs (fun _ => ?_) (fun _ => ?_) <;> conv => whnf)
    · rename_i h2
      have h2 : bb = false := by simpa using h2
      have := hno h2
      exact ⟨outb this.symm, rfl⟩
    · rename_i h2
      have h2 : bb = true := by simpa using h2
      rw [wrap64 (x := (i : Int) + 1) (by omega) (by omega)]
      exact ⟨⟨i + 1, hlt, hye h2⟩, ⟨⟨rfl, rfl, rfl, rfl, trivial⟩, rfl, rfl, ⟨[], rfl⟩, rfl⟩, show ks.length - (i + 1) < ks.length - i by omega⟩
  · rename_i h1
    simp only [trows_length] at h1
    have := of_decide_eq_false h1
    obtain rfl : i = ks.length := by omega
    have : tmeachs ks ks' = true := (tmeachs_all ks ks' hkk).2 fun j x y hx hy => hj j (List.getElem?_eq_some_iff.1 hx).1 x y hx hy
    exact ⟨outb this.symm, rfl⟩
theorem tmtype_right {k name arg num tk tks uk uks label place ks} (h : tmright (.node k name arg num tk tks uk uks label place ks) = true) : (typeK k = true → tright (.node tk tks) = true) ∧ (toK k = true → tright (.node uk uks) = true) := by
  simp [tmright, ownRight] at h
  obtain ⟨⟨⟨⟨_, h1⟩, h2⟩, _⟩, _⟩ := h
  refine ⟨fun q => tcheck_right ?_, fun q => tcheck_right ?_⟩
  · rcases h1 with h1 | h1
    · rw [q] at h1; cases h1
    · exact h1
  · rcases h2 with h2 | h2
    · rw [q] at h2; cases h2
    · exact h2
set_option maxRecDepth 10000 in
set_option maxHeartbeats 4000000 in
theorem each_call (a : Tm) : ∀ b, tmright a = true → tmright b = true → tmhas 17 a = false → tmsame (tmopen a) (tmopen b) = true → ACall Try.prog 98 [.c (.d (.rp 0 a.cells)), .c (.d (.rp 0 b.cells))] [] (fun o σ => o = .ret (.c (.d (.bool (tmeach a b)))) ∧ σ = []) := by
  induction a using Tm.ind with
  | _ k name arg num tk tks uk uks label place ks ih =>
  rintro ⟨k', name', arg', num', tk', tks', uk', uks', label', place', ks'⟩ ha hb hc hs
  have ek : k = k' := by
    simp only [tmopen, tmsame, ownSame, Bool.and_eq_true, decide_eq_true_eq] at hs
    exact hs.1.1.1.1.1.1.1
  subst ek
  have la := tmright_len ha
  have lb := tmright_len hb
  have le := kidsK_le k
  have ih' : ∀ (i : Nat) x y, ks[i]? = some x → ks'[i]? = some y → ACall Try.prog 98 [.c (.d (.rp 0 x.cells)), .c (.d (.rp 0 y.cells))] [] (fun o σ => o = .ret (.c (.d (.bool (tmeach x y)))) ∧ σ = []) := fun i x y hx hy => by
    have mx := List.mem_of_getElem? hx
    have my := List.mem_of_getElem? hy
    refine ih x mx y (tmright_kid ha mx) (tmright_kid hb my) (tmhas_kid hc mx) ?_
    simp only [tmopen, tmsame, Bool.and_eq_true] at hs
    exact (tmsames_all _ _ (by rw [tmopens_len, tmopens_len]; omega)).1 hs.2 i _ _ (tmopens_get hx) (tmopens_get hy)
  have fin : ownEach (.node k name arg num tk tks uk uks label place ks) (.node k name' arg' num' tk' tks' uk' uks' label' place' ks') = true → ∀ env, get env 0 = .c (.d (.rp 0 (Tm.node k name arg num tk tks uk uks label place ks).cells)) → get env 1 = .c (.d (.rp 0 (Tm.node k name' arg' num' tk' tks' uk' uks' label' place' ks').cells)) →
      AW Try.prog tab 0 rest98 ⟨63, env, [], []⟩ (afin tab 0 98 Try.f98.results.toList ([] : List AObj).length (fun o σ => o = .ret (.c (.d (.bool (tmeach (.node k name arg num tk tks uk uks label place ks) (.node k name' arg' num' tk' tks' uk' uks' label' place' ks'))))) ∧ σ = [])) := fun ho env g0 g1 => by
    have e : tmeach (.node k name arg num tk tks uk uks label place ks) (.node k name' arg' num' tk' tks' uk' uks' label' place' ks') = tmeachs ks ks' := by simp [tmeach, ho]
    rw [e]
    refine AW.fits ?_ ?_ (each_rest k name arg num tk tks uk uks label place ks k name' arg' num' tk' tks' uk' uks' label' place' ks' (by omega) (by omega) ih')
    · exact ⟨⟨g0, g1, trivial⟩, rfl, rfl, ⟨[], rfl⟩, rfl⟩
    · rfl
  have hv := tmright_valid ha
  obtain ⟨p1, p2⟩ := tmtype_right ha
  obtain ⟨q1, q2⟩ := tmtype_right hb
  have w1 : typeK k = true → ∀ ex ex', ACall Try.prog 62 [.c (.d (.rp 0 (.int .i8 tk :: .sl 0 2 (Ty.rows tks) :: ex))), .c (.d (.rp 0 (.int .i8 tk' :: .sl 0 2 (Ty.rows tks') :: ex')))] [] (fun o σ => o = .ret (.c (.d (.bool (lessF (.node tk tks) (.node tk' tks'))))) ∧ σ = []) := fun h ex ex' => less_at _ _ _ _ ex ex' (p1 h) (q1 h)
  have w2 : toK k = true → ∀ ex ex', ACall Try.prog 62 [.c (.d (.rp 0 (.int .i8 uk :: .sl 0 2 (Ty.rows uks) :: ex))), .c (.d (.rp 0 (.int .i8 uk' :: .sl 0 2 (Ty.rows uks') :: ex')))] [] (fun o σ => o = .ret (.c (.d (.bool (lessF (.node uk uks) (.node uk' uks'))))) ∧ σ = []) := fun h ex ex' => less_at _ _ _ _ ex ex' (p2 h) (q2 h)
  clear ih ih' ha hb la lb le p1 p2 q1 q2 hs hc
  rcases kinds k hv with rfl | rfl | rfl | rfl | rfl | rfl | rfl | rfl | rfl | rfl | rfl | rfl | rfl | rfl | rfl | rfl | rfl | rfl
  all_goals
    refine ACall.body tab_ok (ρ := 0) (N := 63) Try.func98 rfl rfl rfl rfl rfl ?_
    repeat' first
      | (refine fin ?_ _ rfl rfl)
      | refine AW.seq ?_
      | refine AW.block ?_
      | (refine AW.region tab_ok ?_; conv => whnf)
      | (refine AW.draw (id := 2) tab_ok mixed [0, 1, 2, 3, 4, 5, 6, 7, 8, 9, 10, 11, 12, 13, 14, 15, 16, 17, 18, 19, 20, 21, 22, 23] (by kernel_rfl) ?_; conv => whnf)
      | (refine AW.draw (id := 7) tab_ok mixed [0, 1, 2, 3, 4, 5, 6, 7, 8, 9, 10, 11, 12, 13] (by kernel_rfl) ?_; conv => whnf)
      | (refine AW.cond ?_; conv => whnf)
      | (refine AW.skip ?_; conv => whnf)
      | (refine AW.ret ?_; conv => whnf)
      | (refine AW.exit ?_; conv => whnf)
      | (refine (annot_call _).mono ?_; rintro _ _ ⟨rfl, rfl⟩; conv => whnf)
      | (refine (w1 rfl _ _).mono ?_; rintro _ _ ⟨rfl, rfl⟩; conv => whnf)
      | (refine (w2 rfl _ _).mono ?_; rintro _ _ ⟨rfl, rfl⟩; conv => whnf)
      | (refine And.intro (@rfl Val _) ?_; conv => whnf)
      | (refine And.intro (by decide) ?_; conv => whnf)
      | (refine cs (fun _ => ?_) (fun _ => ?_) <;> conv => whnf)
  all_goals clear fin hv w1 w2
  all_goals first
    | (refine ⟨outb ?_, rfl⟩
       simp only [tmeach, ownEach]
       try simp [fromA] at *
       try simp_all
       done)
    | (simp only [ownEach]
       try simp [fromA] at *
       try simp_all
       done)
    | trace_state
end Go.Proofs.Ytdhkopangbgehaa.E
