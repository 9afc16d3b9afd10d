/- Texts, merged: Tm2, Tm3, Tm4, Tm5, Tm6, Tm7, Tm8, Tm9, Ty5, Ty6, Tm10, Tm11. No conditions. -/
import Derived.Test.YtmaokphbfjpodaaGreatDoorGenX2
import Derived.Test.YtmaokphbfjpodaaGreatDoorEngX3
/- Walks: terms.count, Nodes. No conditions. -/
set_option linter.unusedVariables false
set_option linter.unusedSimpArgs false
namespace Go.Proofs.YtmaokphbfjpodaaGreatDoor.E
open Go

mutual
def tmN : Tm → Nat
  | .node k _ _ _ tk tks uk uks _ _ ks => 1 + (if typeK k = true then min (nodes (.node tk tks)) 8193 else 0) + (if toK k = true then min (nodes (.node uk uks)) 8193 else 0) + tmNL ks
def tmNL : List Tm → Nat
  | [] => 0
  | t :: l => tmN t + tmNL l
end
theorem tmN_pos (t : Tm) : 0 < tmN t := by cases t; simp only [tmN]; omega
theorem tmNL_take : ∀ (ks : List Tm) (i : Nat) t, ks[i]? = some t → tmNL (ks.take (i + 1)) = tmNL (ks.take i) + tmN t
  | x :: l, 0, t, h => by simp at h; subst h; simp [tmNL]
  | x :: l, i + 1, t, h => by
    simp only [List.getElem?_cons_succ] at h
    have := tmNL_take l i t h
    simp only [List.take_succ_cons, tmNL, this]
    omega
theorem tmNL_le : ∀ (ks : List Tm) (i : Nat), tmNL (ks.take i) ≤ tmNL ks
  | [], i => by simp
  | x :: l, 0 => by simp [tmNL]
  | x :: l, i + 1 => by
    have := tmNL_le l i
    simp only [List.take_succ_cons, tmNL]
    omega
theorem tmNL_len : ∀ (ks : List Tm), ks.length ≤ tmNL ks
  | [] => by simp [tmNL]
  | x :: l => by
    have := tmNL_len l
    have := tmN_pos x
    simp only [List.length_cons, tmNL]
    omega
theorem tmN_mem : ∀ (ks : List Tm) (t : Tm), t ∈ ks → tmN t ≤ tmNL ks
  | x :: l, t, h => by
    simp only [tmNL]
    rcases List.mem_cons.1 h with rfl | h
    · omega
    · have := tmN_mem l t h; omega
theorem Tm.ind {Q : Tm → Prop} (h : ∀ k name arg num tk tks uk uks label place ks, (∀ t ∈ ks, Q t) → Q (.node k name arg num tk tks uk uks label place ks)) : ∀ t, Q t := by
  intro t
  have : ∀ n t, tmN t ≤ n → Q t := by
    intro n
    induction n with
    | zero => intro t ht; have := tmN_pos t; omega
    | succ n ih =>
      rintro ⟨k, name, arg, num, tk, tks, uk, uks, label, place, ks⟩ ht
      refine h k name arg num tk tks uk uks label place ks fun t hm => ih t ?_
      have := tmN_mem ks t hm
      simp only [tmN] at ht
      omega
  exact this _ t (Nat.le_refl _)

def addR (n m : Nat) (o : Out) (σ : List AObj) : Prop :=
  (n + m ≤ 8192 ∧ o = .ret (.tup []) ∧ σ = [.var [.d (.int .i64 (n + m : Nat))]]) ∨ (8192 < n + m ∧ o = .pan (.d (.ifa 114 [])) ∧ ∃ q, σ = [.var [.d (.int .i64 q)]])
set_option maxRecDepth 10000 in
theorem add_call (n m : Nat) (hn : n ≤ 8192) (hm : m ≤ 8193) : ACall Tryz.prog 103 [.c (.ptr 0 0), .c (.d (.int .i64 m))] [.var [.d (.int .i64 n)]] (addR n m) := by
  refine ACall.body tab_ok (ρ := 0) (N := 19) Tryz.func103 rfl rfl rfl rfl rfl ?_
  repeat' first | refine AW.seq ?_ | refine AW.block ?_ | ((first | refine AW.region tab_ok ?_ | refine AW.cond ?_ | refine AW.skip ?_ | refine AW.ret ?_ | refine AW.exit ?_); conv => whnf) | ((first | refine And.intro (@rfl Val _) ?_ | refine And.intro (by decide) ?_ | refine cs (fun _ => ?_) (fun _ => ?_)) <;> conv => whnf)
  · rename_i h
    rw [wrap64 (by omega) (by omega)] at h
    have := of_decide_eq_true h
    exact .inr ⟨by omega, rfl, _, rfl⟩
  · rename_i h
    rw [wrap64 (by omega) (by omega)] at h
    have := of_decide_eq_false h
    refine .inl ⟨by omega, rfl, ?_⟩
    show [AObj.var [AV.d (DV.int .i64 _)]] = _
    rw [wrap64 (by omega) (by omega)]
    rfl

def termR (t : Tm) (n : Nat) (o : Out) (σ : List AObj) : Prop :=
  (n + tmN t ≤ 8192 ∧ o = .ret (.tup []) ∧ σ = [.var [.d (.int .i64 (n + tmN t : Nat))]]) ∨ (8192 < n + tmN t ∧ o = .pan (.d (.ifa 114 [])) ∧ ∃ m, σ = [.var [.d (.int .i64 m)]])
noncomputable def rest75 : Code := match Tryz.f50.body with
  | some (.seq _ (.seq _ (.seq _ (.seq _ c)))) => c
  | _ => .skip
structure TermI (ks : List Tm) (m : Nat) where
  i : Nat
  hi : i ≤ ks.length
  h : m + tmNL (ks.take i) ≤ 8192
set_option maxRecDepth 10000 in
theorem term_rest (k : Int) (name arg : ByteArray) (num tk : Int) (tks : List Ty) (uk : Int) (uks : List Ty) (label place : Int) (ks : List Tm) (n m : Nat) (s0 : Int) (b1 b2 b3 b4 b5 b6 b7 : Bool) (hm : m ≤ 8192) (hnm : n + tmN (.node k name arg num tk tks uk uks label place ks) = m + tmNL ks)
    (ih : ∀ t ∈ ks, ∀ n : Nat, n ≤ 8192 → ACall Tryz.prog 50 [.c (.ptr 0 0), .c (.d (.rp 0 t.cells))] [.var [.d (.int .i64 n)]] (termR t n)) :
    AW Tryz.prog tab 0 rest75 ⟨52, [(0, .c (.ptr 0 0)), (1, .c (.d (.rp 0 (Tm.node k name arg num tk tks uk uks label place ks).cells)))], [.var [.d (.int .i64 m)], .var [.d (.int .i64 s0), .d (.bool b1), .d (.bool b2), .d (.bool b3), .d (.bool b4), .d (.bool b5), .d (.bool b6), .d (.bool b7)]], []⟩
      (afin tab 0 50 [] 1 (termR (.node k name arg num tk tks uk uks label place ks) n)) := by
  repeat' first | refine AW.seq ?_ | refine AW.block ?_ | ((first | refine AW.region tab_ok ?_ | refine AW.cond ?_ | refine AW.skip ?_ | refine AW.ret ?_ | refine AW.exit ?_); conv => whnf) | ((first | refine And.intro (@rfl Val _) ?_ | refine And.intro (by decide) ?_ | refine cs (fun _ => ?_) (fun _ => ?_)) <;> conv => whnf)
  refine AW.loop (ι := TermI ks m) (fun x => ⟨52, [(40, .c (.d (.int .i64 x.i))), (39, .c (.d (.int .i64 (Tm.rows ks).length))), (0, .c (.ptr 0 0)), (1, .c (.d (.rp 0 (Tm.node k name arg num tk tks uk uks label place ks).cells)))],
      [.var [.d (.int .i64 (m + tmNL (ks.take x.i) : Nat))], .var [.d (.int .i64 s0), .d (.bool b1), .d (.bool b2), .d (.bool b3), .d (.bool b4), .d (.bool b5), .d (.bool b6), .d (.bool b7)]], []⟩)
    (fun x => ks.length - x.i) ⟨0, Nat.zero_le _, by simp [tmNL]; omega⟩ 2 (fun _ => rfl) (Nat.le_of_ble_eq_true rfl) ⟨⟨rfl, rfl, rfl, rfl, trivial⟩, rfl, rfl, ⟨[], ?_⟩, rfl⟩ (fun x => ?_)
  · simp [tmNL]
  obtain ⟨i, hi, hj⟩ := x
  repeat' first | refine AW.seq ?_ | refine AW.block ?_ | ((first | refine AW.region tab_ok ?_ | refine AW.cond ?_ | refine AW.skip ?_ | refine AW.ret ?_ | refine AW.exit ?_); conv => whnf) | ((first | refine And.intro (@rfl Val _) ?_ | refine And.intro (by decide) ?_ | refine cs (fun _ => ?_) (fun _ => ?_)) <;> conv => whnf)
  · rename_i h1
    simp only [trows_length] at h1 ⊢
    have := of_decide_eq_true h1
    refine ⟨by omega, fun row hrow => ?_⟩
    obtain ⟨t, ht, rfl⟩ := trows_get ks i row (by simpa using hrow)
    have hlt : i < ks.length := (List.getElem?_eq_some_iff.1 ht).1
    have hmem := List.mem_of_getElem? ht
    have hnt := tmNL_take ks i _ ht
    conv => whnf
    repeat' first | refine AW.seq ?_ | refine AW.block ?_ | ((first | refine AW.region tab_ok ?_ | refine AW.cond ?_ | refine AW.skip ?_ | refine AW.ret ?_ | refine AW.exit ?_); conv => whnf) | ((first | refine And.intro (@rfl Val _) ?_ | refine And.intro (by decide) ?_ | refine cs (fun _ => ?_) (fun _ => ?_)) <;> conv => whnf)
    refine (ih t hmem _ hj).mono ?_
    rintro _ _ (⟨hle, rfl, rfl⟩ | ⟨hgt, rfl, q, rfl⟩)
    · conv => whnf
      repeat' first | refine AW.seq ?_ | refine AW.block ?_ | ((first | refine AW.region tab_ok ?_ | refine AW.cond ?_ | refine AW.skip ?_ | refine AW.ret ?_ | refine AW.exit ?_); conv => whnf) | ((first | refine And.intro (@rfl Val _) ?_ | refine And.intro (by decide) ?_ | refine cs (fun _ => ?_) (fun _ => ?_)) <;> conv => whnf)
      have htl := tmNL_len (ks.take i)
      simp only [List.length_take] at htl
      rw [show m + tmNL (List.take i ks) + tmN t = m + tmNL (List.take (i + 1) ks) by omega, wrap64 (x := (i : Int) + 1) (by omega) (by omega)]
      exact ⟨⟨i + 1, hlt, by omega⟩, ⟨⟨rfl, rfl, rfl, rfl, trivial⟩, rfl, rfl, ⟨[], rfl⟩, rfl⟩, show ks.length - (i + 1) < ks.length - i by omega⟩
    · conv => whnf
      refine .inr ⟨?_, rfl, _, rfl⟩
      have := tmNL_le ks (i + 1)
      omega
  · rename_i h1
    simp only [trows_length] at h1
    have := of_decide_eq_false h1
    obtain rfl : i = ks.length := by omega
    simp only [List.take_length] at hj ⊢
    refine .inl ⟨by omega, rfl, ?_⟩
    show [AObj.var [AV.d (DV.int .i64 _)]] = _
    rw [hnm]
set_option maxRecDepth 10000 in
theorem term_call (t : Tm) : ∀ n : Nat, n ≤ 8192 → ACall Tryz.prog 50 [.c (.ptr 0 0), .c (.d (.rp 0 t.cells))] [.var [.d (.int .i64 n)]] (termR t n) := by
  induction t using Tm.ind with
  | _ k name arg num tk tks uk uks label place ks ih =>
  intro n hn
  refine ACall.body tab_ok (ρ := 0) (N := 52) Tryz.func50 rfl rfl rfl rfl rfl ?_
  refine AW.seq ?_
  refine AW.region tab_ok ?_; conv => whnf
  refine (add_call n 1 hn (by omega)).mono ?_
  rintro _ _ (⟨hle, rfl, rfl⟩ | ⟨hgt, rfl, q, rfl⟩)
  · conv => whnf
    refine AW.seq ?_
    refine AW.region tab_ok ?_; conv => whnf
    refine (of_call k).mono ?_
    rintro _ _ ⟨rfl, rfl⟩
    conv => whnf
    have fin : ∀ (m : Nat), m ≤ 8192 → n + tmN (.node k name arg num tk tks uk uks label place ks) = m + tmNL ks → ∀ env, get env 0 = .c (.ptr 0 0) → get env 1 = .c (.d (.rp 0 (Tm.node k name arg num tk tks uk uks label place ks).cells)) →
        AW Tryz.prog tab 0 rest75 ⟨52, env, [.var [.d (.int .i64 m)], .var [.d (.int .i64 (if validK k = true then kidsK k else 0)), .d (.bool (nameK k)), .d (.bool (argK k)), .d (.bool (decide (k = 1))), .d (.bool (typeK k)), .d (.bool (toK k)), .d (.bool (decide (k = 17))), .d (.bool (decide (k = 15)))]], []⟩ (afin tab 0 50 Tryz.f50.results.toList [AObj.var [AV.d (DV.int .i64 n)]].length (termR (.node k name arg num tk tks uk uks label place ks) n)) := fun m hm hnm env g0 g1 => by
      refine AW.fits ?_ ?_ (term_rest k name arg num tk tks uk uks label place ks n m (if validK k = true then kidsK k else 0) (nameK k) (argK k) (decide (k = 1)) (typeK k) (toK k) (decide (k = 17)) (decide (k = 15)) hm hnm ih)
      · exact ⟨⟨g0, g1, trivial⟩, rfl, rfl, ⟨[], rfl⟩, rfl⟩
      · rfl
    refine AW.seq ?_
    refine AW.seq ?_
    refine AW.region tab_ok ?_; conv => whnf
    refine AW.cond ?_; conv => whnf
    refine cs (fun h1 => ?_) (fun h1 => ?_) <;> conv => whnf
    · refine AW.region tab_ok ?_; conv => whnf
      refine (nodes_call (.node tk tks)).mono ?_
      rintro _ _ ⟨rfl, rfl⟩
      conv => whnf
      refine (add_call (n + 1) (min (nodes (.node tk tks)) 8193) (by omega) (Nat.min_le_right _ _)).mono ?_
      rintro _ _ (⟨hle1, rfl, rfl⟩ | ⟨hgt1, rfl, q, rfl⟩)
      · conv => whnf
        refine AW.seq ?_
        refine AW.seq ?_
        refine AW.region tab_ok ?_; conv => whnf
        refine AW.cond ?_; conv => whnf
        refine cs (fun h2 => ?_) (fun h2 => ?_) <;> conv => whnf
        · refine AW.region tab_ok ?_; conv => whnf
          refine (nodes_call (.node uk uks)).mono ?_
          rintro _ _ ⟨rfl, rfl⟩
          conv => whnf
          refine (add_call (n + 1 + min (nodes (.node tk tks)) 8193) (min (nodes (.node uk uks)) 8193) (by omega) (Nat.min_le_right _ _)).mono ?_
          rintro _ _ (⟨hle2, rfl, rfl⟩ | ⟨hgt2, rfl, q, rfl⟩)
          · conv => whnf
            exact fin _ hle2 (by simp only [tmN, h1, h2]; simp only [if_true, if_false, Bool.false_eq_true]; omega) _ rfl rfl
          · conv => whnf
            refine .inr ⟨?_, rfl, _, rfl⟩
            simp only [tmN, h1, h2]
            simp only [if_true, if_false, Bool.false_eq_true]
            omega
        · refine AW.skip ?_; conv => whnf
          exact fin _ hle1 (by simp only [tmN, h1, h2]; simp only [if_true, if_false, Bool.false_eq_true]; omega) _ rfl rfl
      · conv => whnf
        refine .inr ⟨?_, rfl, _, rfl⟩
        simp only [tmN, h1]
        simp only [if_true]
        omega
    · refine AW.skip ?_; conv => whnf
      refine AW.seq ?_
      refine AW.seq ?_
      refine AW.region tab_ok ?_; conv => whnf
      refine AW.cond ?_; conv => whnf
      refine cs (fun h2 => ?_) (fun h2 => ?_) <;> conv => whnf
      · refine AW.region tab_ok ?_; conv => whnf
        refine (nodes_call (.node uk uks)).mono ?_
        rintro _ _ ⟨rfl, rfl⟩
        conv => whnf
        refine (add_call (n + 1) (min (nodes (.node uk uks)) 8193) (by omega) (Nat.min_le_right _ _)).mono ?_
        rintro _ _ (⟨hle2, rfl, rfl⟩ | ⟨hgt2, rfl, q, rfl⟩)
        · conv => whnf
          exact fin _ hle2 (by simp only [tmN, h1, h2]; simp only [if_true, if_false, Bool.false_eq_true]; omega) _ rfl rfl
        · conv => whnf
          refine .inr ⟨?_, rfl, _, rfl⟩
          simp only [tmN, h1, h2]
          simp only [if_true, if_false, Bool.false_eq_true]
          omega
      · refine AW.skip ?_; conv => whnf
        exact fin _ hle (by simp only [tmN, h1, h2]; simp only [if_true, if_false, Bool.false_eq_true]; omega) _ rfl rfl
  · conv => whnf
    refine .inr ⟨?_, rfl, _, rfl⟩
    simp only [tmN]
    omega

/-! ### terms.Nodes -/
set_option maxRecDepth 10000 in
theorem recover_term (a c : Int) (cs0 : List DV) : ADef Tryz.prog 49 [.ptr 1 0] [.frz 0 cs0, .var [.d (.int .i64 a)], .var [.d (.int .i64 c)]] .ret
    (fun o u σ => o = .ret (.tup []) ∧ u = .ret ∧ σ = [.frz 0 cs0, .var [.d (.int .i64 a)], .var [.d (.int .i64 c)]]) := by
  refine ADef.recoverL tab_ok (ρ := 0) (N := 15) (d := 4) Tryz.func49 rfl rfl rfl rfl rfl rfl rfl rfl rfl rfl rfl ?_
  conv => whnf
  repeat' first | refine AW.seq ?_ | refine AW.block ?_ | ((first | refine AW.region tab_ok ?_ | refine AW.cond ?_ | refine AW.skip ?_ | refine AW.ret ?_ | refine AW.exit ?_); conv => whnf) | ((first | refine And.intro (@rfl Val _) ?_ | refine And.intro (by decide) ?_ | refine cs (fun _ => ?_) (fun _ => ?_)) <;> conv => whnf)
  exact ⟨rfl, rfl, rfl⟩
set_option maxRecDepth 10000 in
theorem recover_big (a c : Int) (cs0 : List DV) : ADef Tryz.prog 49 [.ptr 1 0] [.frz 0 cs0, .var [.d (.int .i64 a)], .var [.d (.int .i64 c)]] (.pan (.d (.ifa 114 [])) false)
    (fun o u σ => o = .ret (.tup []) ∧ u = .pan (.d (.ifa 114 [])) true ∧ σ = [.frz 0 cs0, .var [.d (.int .i64 8193)], .var [.d (.int .i64 c)], .var []]) := by
  refine ADef.recoverL tab_ok (ρ := 0) (N := 15) (d := 4) Tryz.func49 rfl rfl rfl rfl rfl rfl rfl rfl rfl rfl rfl ?_
  conv => whnf
  repeat' first | refine AW.seq ?_ | refine AW.block ?_ | ((first | refine AW.region tab_ok ?_ | refine AW.cond ?_ | refine AW.skip ?_ | refine AW.ret ?_ | refine AW.exit ?_); conv => whnf) | ((first | refine And.intro (@rfl Val _) ?_ | refine And.intro (by decide) ?_ | refine cs (fun _ => ?_) (fun _ => ?_)) <;> conv => whnf)
  exact ⟨rfl, rfl, rfl⟩
set_option maxRecDepth 10000 in
theorem tnodes_call (t : Tm) : ACall Tryz.prog 26 [t.val] [] (fun o σ => o = .ret (.c (.d (.int .i64 (min (tmN t) 8193 : Nat)))) ∧ σ = []) := by
  have cc := term_call t 0 (by omega)
  generalize hN : tmN t = nn
  obtain ⟨k, name, arg, num, tk, tks, uk, uks, label, place, ks⟩ := t
  refine ACall.bodyD tab_ok (ρ := 0) (N := 13) Tryz.func26 rfl rfl rfl rfl rfl ?_
  repeat' first | refine AW.seq ?_ | refine AW.block ?_ | ((first | refine AW.region tab_ok ?_ | refine AW.cond ?_ | refine AW.skip ?_ | refine AW.ret ?_ | refine AW.exit ?_); conv => whnf) | ((first | refine And.intro (@rfl Val _) ?_ | refine And.intro (by decide) ?_ | refine cs (fun _ => ?_) (fun _ => ?_)) <;> conv => whnf)
  refine cc.mono ?_
  rintro _ _ (⟨hle, rfl, rfl⟩ | ⟨hgt, rfl, m, rfl⟩)
  · rw [Nat.zero_add, hN] at *
    conv => whnf
    repeat' first | refine AW.seq ?_ | refine AW.block ?_ | ((first | refine AW.region tab_ok ?_ | refine AW.cond ?_ | refine AW.skip ?_ | refine AW.ret ?_ | refine AW.exit ?_); conv => whnf) | ((first | refine And.intro (@rfl Val _) ?_ | refine And.intro (by decide) ?_ | refine cs (fun _ => ?_) (fun _ => ?_)) <;> conv => whnf)
    refine (recover_term _ _ _).mono ?_
    rintro _ _ _ ⟨rfl, rfl, rfl⟩
    conv => whnf
    refine ⟨?_, rfl⟩
    rw [Nat.min_eq_left (by omega)]
    rfl
  · rw [Nat.zero_add, hN] at *
    conv => whnf
    refine (recover_big _ _ _).mono ?_
    rintro _ _ _ ⟨rfl, rfl, rfl⟩
    conv => whnf
    refine ⟨?_, rfl⟩
    rw [Nat.min_eq_right (by omega)]
    rfl
end Go.Proofs.YtmaokphbfjpodaaGreatDoor.E

/- Walks: depth of terms, ref sizes. No conditions. -/
set_option linter.unusedVariables false
set_option linter.unusedSimpArgs false
namespace Go.Proofs.YtmaokphbfjpodaaGreatDoor.E
open Go

mutual
def tmD : Tm → Nat → Nat
  | .node k _ _ _ tk tks uk uks _ _ ks, most => if most ≤ 1 then most else
      min (max (max (if typeK k = true then tdepth (.node tk tks) else 0) (if toK k = true then tdepth (.node uk uks) else 0)) (tmDL ks (most - 1)) + 1) most
def tmDL : List Tm → Nat → Nat
  | [], _ => 0
  | t :: l, most => max (tmD t most) (tmDL l most)
end
theorem tmDL_take (m : Nat) : ∀ (ks : List Tm) (i : Nat) t, ks[i]? = some t → tmDL (ks.take (i + 1)) m = max (tmDL (ks.take i) m) (tmD t m)
  | x :: l, 0, t, h => by simp at h; subst h; simp [tmDL]
  | x :: l, i + 1, t, h => by
    simp only [List.getElem?_cons_succ] at h
    have := tmDL_take m l i t h
    simp only [List.take_succ_cons, tmDL, this]
    omega
theorem tdepth_le (t : Ty) : tdepth t ≤ 201 := by
  unfold tdepth
  split
  · omega
  · exact deepF_le t 201
theorem tmD_le : ∀ (t : Tm) (m : Nat), tmD t m ≤ m
  | .node k _ _ _ tk tks uk uks _ _ ks, m => by
    simp only [tmD]
    split
    · exact Nat.le_refl m
    · omega
theorem tmDL_le : ∀ (ks : List Tm) (m : Nat), tmDL ks m ≤ m
  | [], m => by simp [tmDL]
  | t :: l, m => by
    have := tmD_le t m
    have := tmDL_le l m
    simp only [tmDL]
    omega
structure UpToT (ks : List Tm) where
  i : Nat
  hi : i ≤ ks.length
noncomputable def rest77 : Code := match Tryz.f51.body with
  | some (.seq _ (.seq _ (.seq _ (.seq _ (.seq _ (.seq _ c)))))) => c
  | _ => .skip
set_option maxRecDepth 10000 in
theorem depth_rest (k : Int) (name arg : ByteArray) (num tk : Int) (tks : List Ty) (uk : Int) (uks : List Ty) (label place : Int) (ks : List Tm) (most d0 : Nat) (s0 : Int) (b1 b2 b3 b4 b5 b6 b7 : Bool) (hd : d0 ≤ 201) (h1 : 1 < most) (hm : most ≤ 201) (hlen : ks.length ≤ 8192)
    (ih : ∀ t ∈ ks, ∀ most : Nat, 1 ≤ most → most ≤ 201 → ACall Tryz.prog 51 [.c (.d (.rp 0 t.cells)), .c (.d (.int .i64 most))] [] (fun o σ => o = .ret (.c (.d (.int .i64 (tmD t most)))) ∧ σ = [])) :
    AW Tryz.prog tab 0 rest77 ⟨59, [(0, .c (.d (.rp 0 (Tm.node k name arg num tk tks uk uks label place ks).cells))), (1, .c (.d (.int .i64 most))), (5, .c (.d (.int .i64 d0)))], [.var [.d (.int .i64 s0), .d (.bool b1), .d (.bool b2), .d (.bool b3), .d (.bool b4), .d (.bool b5), .d (.bool b6), .d (.bool b7)]], []⟩
      (afin tab 0 51 [.tmp 4] 0 (fun o σ => o = .ret (.c (.d (.int .i64 (min (max d0 (tmDL ks (most - 1)) + 1) most : Nat)))) ∧ σ = [])) := by
  repeat' first | refine AW.seq ?_ | refine AW.block ?_ | ((first | refine AW.region tab_ok ?_ | refine AW.cond ?_ | refine AW.skip ?_ | refine AW.ret ?_ | refine AW.exit ?_); conv => whnf) | ((first | refine And.intro (@rfl Val _) ?_ | refine And.intro (by decide) ?_ | refine cs (fun _ => ?_) (fun _ => ?_)) <;> conv => whnf)
  refine AW.loop (ι := UpToT ks) (fun x => ⟨59, [(40, .c (.d (.int .i64 x.i))), (39, .c (.d (.int .i64 (Tm.rows ks).length))), (0, .c (.d (.rp 0 (Tm.node k name arg num tk tks uk uks label place ks).cells))), (1, .c (.d (.int .i64 most))), (5, .c (.d (.int .i64 (max d0 (tmDL (ks.take x.i) (most - 1)) : Nat))))],
      [.var [.d (.int .i64 s0), .d (.bool b1), .d (.bool b2), .d (.bool b3), .d (.bool b4), .d (.bool b5), .d (.bool b6), .d (.bool b7)]], []⟩)
    (fun x => ks.length - x.i) ⟨0, Nat.zero_le _⟩ 1 (fun _ => rfl) (Nat.le_of_ble_eq_true rfl) ⟨⟨rfl, rfl, rfl, rfl, ?_, trivial⟩, rfl, rfl, ⟨[], rfl⟩, rfl⟩ (fun x => ?_)
  · show Val.c (.d (.int .i64 _)) = Val.c (.d (.int .i64 _))
    simp [tmDL]
  obtain ⟨i, hi⟩ := x
  repeat' first | refine AW.seq ?_ | refine AW.block ?_ | ((first | refine AW.region tab_ok ?_ | refine AW.cond ?_ | refine AW.skip ?_ | refine AW.ret ?_ | refine AW.exit ?_); conv => whnf) | ((first | refine And.intro (@rfl Val _) ?_ | refine And.intro (by decide) ?_ | refine cs (fun _ => ?_) (fun _ => ?_)) <;> conv => whnf)
  · rename_i h2
    simp only [trows_length] at h2 ⊢
    have := of_decide_eq_true h2
    refine ⟨by omega, fun row hrow => ?_⟩
    obtain ⟨t, ht, rfl⟩ := trows_get ks i row (by simpa using hrow)
    have hlt : i < ks.length := (List.getElem?_eq_some_iff.1 ht).1
    have hmem := List.mem_of_getElem? ht
    conv => whnf
    repeat' first | refine AW.seq ?_ | refine AW.block ?_ | ((first | refine AW.region tab_ok ?_ | refine AW.cond ?_ | refine AW.skip ?_ | refine AW.ret ?_ | refine AW.exit ?_); conv => whnf) | ((first | refine And.intro (@rfl Val _) ?_ | refine And.intro (by decide) ?_ | refine cs (fun _ => ?_) (fun _ => ?_)) <;> conv => whnf)
    rw [wrap64 (by omega) (by omega), show (most : Int) - 1 = ((most - 1 : Nat) : Int) by omega]
    refine (ih t hmem _ (by omega) (by omega)).mono ?_
    rintro _ _ ⟨rfl, rfl⟩
    conv => whnf
    repeat' first | refine AW.seq ?_ | refine AW.block ?_ | ((first | refine AW.region tab_ok ?_ | refine AW.cond ?_ | refine AW.skip ?_ | refine AW.ret ?_ | refine AW.exit ?_); conv => whnf) | ((first | refine And.intro (@rfl Val _) ?_ | refine And.intro (by decide) ?_ | refine cs (fun _ => ?_) (fun _ => ?_)) <;> conv => whnf)
    rw [wrap64 (x := (i : Int) + 1) (by omega) (by omega), show max ((max d0 (tmDL (List.take i ks) (most - 1)) : Nat) : Int) (tmD t (most - 1) : Int) = (max d0 (tmDL (List.take (i + 1) ks) (most - 1)) : Nat) by rw [tmDL_take _ ks i _ ht]; omega]
    exact ⟨⟨i + 1, hlt⟩, ⟨⟨rfl, rfl, rfl, rfl, rfl, trivial⟩, rfl, rfl, ⟨[], rfl⟩, rfl⟩, show ks.length - (i + 1) < ks.length - i by omega⟩
  · rename_i h2
    simp only [trows_length] at h2
    have := of_decide_eq_false h2
    obtain rfl : i = ks.length := by omega
    simp only [List.take_length]
    refine ⟨?_, rfl⟩
    have hle : tmDL ks (most - 1) ≤ most - 1 := tmDL_le ks (most - 1)
    simp only [oneOf]
    rw [wrap64 (by omega) (by omega)]
    rw [show min (((max d0 (tmDL ks (most - 1)) : Nat) : Int) + 1) (most : Int) = (min (max d0 (tmDL ks (most - 1)) + 1) most : Nat) by omega]
set_option maxRecDepth 10000 in
theorem tdepth_call (t : Tm) : tmN t ≤ 8192 → ∀ most : Nat, 1 ≤ most → most ≤ 201 → ACall Tryz.prog 51 [.c (.d (.rp 0 t.cells)), .c (.d (.int .i64 most))] [] (fun o σ => o = .ret (.c (.d (.int .i64 (tmD t most)))) ∧ σ = []) := by
  induction t using Tm.ind with
  | _ k name arg num tk tks uk uks label place ks ih =>
  intro hN most h1 hm
  have hlen := tmNL_len ks
  simp only [tmN] at hN
  have ih' : ∀ t ∈ ks, ∀ most : Nat, 1 ≤ most → most ≤ 201 → ACall Tryz.prog 51 [.c (.d (.rp 0 t.cells)), .c (.d (.int .i64 most))] [] (fun o σ => o = .ret (.c (.d (.int .i64 (tmD t most)))) ∧ σ = []) := fun t ht => ih t ht (by have := tmN_mem ks t ht; omega)
  refine ACall.body tab_ok (ρ := 0) (N := 59) Tryz.func51 rfl rfl rfl rfl rfl ?_
  refine AW.seq ?_
  refine AW.region tab_ok ?_; conv => whnf
  refine AW.seq ?_
  refine AW.seq ?_
  refine AW.region tab_ok ?_; conv => whnf
  refine AW.cond ?_; conv => whnf
  refine cs (fun h2 => ?_) (fun h2 => ?_) <;> conv => whnf
  · skip
    repeat' first | refine AW.seq ?_ | refine AW.block ?_ | ((first | refine AW.region tab_ok ?_ | refine AW.cond ?_ | refine AW.skip ?_ | refine AW.ret ?_ | refine AW.exit ?_); conv => whnf) | ((first | refine And.intro (@rfl Val _) ?_ | refine And.intro (by decide) ?_ | refine cs (fun _ => ?_) (fun _ => ?_)) <;> conv => whnf)
    have : most = 1 := by simp at h2; omega
    subst this
    refine ⟨?_, rfl⟩
    simp [oneOf, tmD]
  · have hgt : 1 < most := by simp at h2; omega
    refine AW.skip ?_; conv => whnf
    refine AW.seq ?_
    refine AW.region tab_ok ?_; conv => whnf
    refine AW.seq ?_
    refine AW.region tab_ok ?_; conv => whnf
    refine (of_call k).mono ?_
    rintro _ _ ⟨rfl, rfl⟩
    conv => whnf
    have fin : ∀ (d0 : Nat), d0 ≤ 201 → d0 = max (if typeK k = true then tdepth (.node tk tks) else 0) (if toK k = true then tdepth (.node uk uks) else 0) → ∀ env, get env 0 = .c (.d (.rp 0 (Tm.node k name arg num tk tks uk uks label place ks).cells)) → get env 1 = .c (.d (.int .i64 most)) → get env 5 = .c (.d (.int .i64 d0)) →
        AW Tryz.prog tab 0 rest77 ⟨59, env, [.var [.d (.int .i64 (if validK k = true then kidsK k else 0)), .d (.bool (nameK k)), .d (.bool (argK k)), .d (.bool (decide (k = 1))), .d (.bool (typeK k)), .d (.bool (toK k)), .d (.bool (decide (k = 17))), .d (.bool (decide (k = 15)))]], []⟩ (afin tab 0 51 Tryz.f51.results.toList ([] : List AObj).length (fun o σ => o = .ret (.c (.d (.int .i64 (tmD (.node k name arg num tk tks uk uks label place ks) most)))) ∧ σ = [])) := fun d0 hd he env g0 g1 g5 => by
      have ed : tmD (.node k name arg num tk tks uk uks label place ks) most = min (max d0 (tmDL ks (most - 1)) + 1) most := by
        simp only [tmD]
        rw [if_neg (by omega), ← he]
      rw [ed]
      refine AW.fits ?_ ?_ (depth_rest k name arg num tk tks uk uks label place ks most d0 (if validK k = true then kidsK k else 0) (nameK k) (argK k) (decide (k = 1)) (typeK k) (toK k) (decide (k = 17)) (decide (k = 15)) hd hgt hm (by omega) ih')
      · exact ⟨⟨g0, g1, g5, trivial⟩, rfl, rfl, ⟨[], rfl⟩, rfl⟩
      · rfl
    refine AW.seq ?_
    refine AW.seq ?_
    refine AW.region tab_ok ?_; conv => whnf
    refine AW.cond ?_; conv => whnf
    refine cs (fun h3 => ?_) (fun h3 => ?_) <;> conv => whnf
    · refine AW.region tab_ok ?_; conv => whnf
      refine (depth_call (.node tk tks)).mono ?_
      rintro _ _ ⟨rfl, rfl⟩
      conv => whnf
      refine AW.seq ?_
      refine AW.seq ?_
      refine AW.region tab_ok ?_; conv => whnf
      refine AW.cond ?_; conv => whnf
      refine cs (fun h4 => ?_) (fun h4 => ?_) <;> conv => whnf
      · refine AW.region tab_ok ?_; conv => whnf
        refine (depth_call (.node uk uks)).mono ?_
        rintro _ _ ⟨rfl, rfl⟩
        conv => whnf
        have e5 : max ((tdepth (.node tk tks) : Int) : Int) (tdepth (.node uk uks) : Int) = ((max (tdepth (.node tk tks)) (tdepth (.node uk uks)) : Nat) : Int) := by omega
        rw [e5]
        exact fin _ (by have := tdepth_le (.node tk tks); have := tdepth_le (.node uk uks); omega) (by simp [h3, h4]) _ rfl rfl rfl
      · refine AW.skip ?_; conv => whnf
        exact fin (tdepth (.node tk tks)) (by have := tdepth_le (.node tk tks); omega) (by simp [h3, h4]) _ rfl rfl rfl
    · refine AW.skip ?_; conv => whnf
      refine AW.seq ?_
      refine AW.seq ?_
      refine AW.region tab_ok ?_; conv => whnf
      refine AW.cond ?_; conv => whnf
      refine cs (fun h4 => ?_) (fun h4 => ?_) <;> conv => whnf
      · refine AW.region tab_ok ?_; conv => whnf
        refine (depth_call (.node uk uks)).mono ?_
        rintro _ _ ⟨rfl, rfl⟩
        conv => whnf
        have e5 : max (0 : Int) (tdepth (.node uk uks) : Int) = ((max 0 (tdepth (.node uk uks)) : Nat) : Int) := by omega
        rw [e5]
        exact fin _ (by have := tdepth_le (.node tk tks); have := tdepth_le (.node uk uks); omega) (by simp [h3, h4]) _ rfl rfl rfl
      · refine AW.skip ?_; conv => whnf
        exact fin 0 (by have := tdepth_le (.node tk tks); omega) (by simp [h3, h4]) _ rfl rfl rfl
def tmDepth (t : Tm) : Nat := if tmN t > 8192 then 201 else tmD t 201
set_option maxRecDepth 10000 in
theorem tDepth_call (t : Tm) : ACall Tryz.prog 27 [t.val] [] (fun o σ => o = .ret (.c (.d (.int .i64 (tmDepth t)))) ∧ σ = []) := by
  have c1 := tnodes_call t
  have c2 := tdepth_call t
  have e : tmDepth t = if tmN t > 8192 then 201 else tmD t 201 := rfl
  rw [e]
  generalize tmN t = nn at *
  generalize hd : tmD t 201 = dd
  have c3 : nn ≤ 8192 → ACall Tryz.prog 51 [.c (.d (.rp 0 t.cells)), .c (.d (.int .i64 201))] [] (fun o σ => o = .ret (.c (.d (.int .i64 dd))) ∧ σ = []) := fun h => by
    rw [← hd]; exact c2 h 201 (by omega) (by omega)
  obtain ⟨k, name, arg, num, tk, tks, uk, uks, label, place, ks⟩ := t
  refine ACall.body tab_ok (ρ := 0) (N := 7) Tryz.func27 rfl rfl rfl rfl rfl ?_
  repeat' first | refine AW.seq ?_ | refine AW.block ?_ | ((first | refine AW.region tab_ok ?_ | refine AW.cond ?_ | refine AW.skip ?_ | refine AW.ret ?_ | refine AW.exit ?_); conv => whnf) | (refine (c1).mono ?_; rintro _ _ ⟨rfl, rfl⟩; conv => whnf) | ((first | refine And.intro (@rfl Val _) ?_ | refine And.intro (by decide) ?_ | refine cs (fun _ => ?_) (fun _ => ?_)) <;> conv => whnf)
  · rename_i h
    have := of_decide_eq_true h
    refine ⟨?_, rfl⟩
    simp only [oneOf]
    rw [if_pos (by omega)]
    rfl
  · rename_i h
    have := of_decide_eq_false h
    refine (c3 (by omega)).mono ?_
    rintro _ _ ⟨rfl, rfl⟩
    conv => whnf
    repeat' first | refine AW.seq ?_ | refine AW.block ?_ | ((first | refine AW.region tab_ok ?_ | refine AW.cond ?_ | refine AW.skip ?_ | refine AW.ret ?_ | refine AW.exit ?_); conv => whnf) | ((first | refine And.intro (@rfl Val _) ?_ | refine And.intro (by decide) ?_ | refine cs (fun _ => ?_) (fun _ => ?_)) <;> conv => whnf)
    refine ⟨?_, rfl⟩
    simp only [oneOf]
    rw [if_neg (by omega)]
end Go.Proofs.YtmaokphbfjpodaaGreatDoor.E

/- Walks: ref Nodes, deep, Depth of terms. No conditions. -/
set_option linter.unusedVariables false
set_option linter.unusedSimpArgs false
namespace Go.Proofs.YtmaokphbfjpodaaGreatDoor.E
open Go

end Go.Proofs.YtmaokphbfjpodaaGreatDoor.E

/- Walks: right of terms. No conditions. -/
set_option linter.unusedVariables false
set_option linter.unusedSimpArgs false
namespace Go.Proofs.YtmaokphbfjpodaaGreatDoor.E
open Go

def opsF : List ByteArray := [⟨#[43]⟩, ⟨#[45]⟩, ⟨#[42]⟩, ⟨#[47]⟩, ⟨#[60]⟩, ⟨#[61]⟩]
def opF (s : ByteArray) : Bool := opsF.any (fun k => decide (s = k))
/-- A term's own cells are right. -/
def ownRight : Tm → Bool
  | .node k name arg num tk tks uk uks label place ks =>
    decide (kidsK k = ks.length) && (!decide (k = 17) || (!decide (label = 0) && decide (-2147483648 ≤ label) && decide (label ≤ 2147483648)))
      && (!nameK k || nameF name) && (!argK k || nameF arg) && (!typeK k || decide (tcheck (.node tk tks) = 0)) && (!toK k || decide (tcheck (.node uk uks) = 0)) && (!decide (k = 15) || opF name)
mutual
def tmright : Tm → Bool
  | .node k name arg num tk tks uk uks label place ks => ownRight (.node k name arg num tk tks uk uks label place ks) && tmrights ks
def tmrights : List Tm → Bool
  | [] => true
  | t :: l => tmright t && tmrights l
end
theorem tmrights_all : ∀ (ks : List Tm), tmrights ks = true ↔ ∀ t ∈ ks, tmright t = true
  | [] => by simp [tmrights]
  | t :: l => by simp [tmrights, tmrights_all l]
end Go.Proofs.YtmaokphbfjpodaaGreatDoor.E

/- Walk: terms.right. No conditions. -/
set_option linter.unusedVariables false
set_option linter.unusedSimpArgs false
namespace Go.Proofs.YtmaokphbfjpodaaGreatDoor.E
open Go

theorem tmrights_take : ∀ (ks : List Tm) (i : Nat) t, ks[i]? = some t → tmrights (ks.take (i + 1)) = (tmrights (ks.take i) && tmright t)
  | x :: l, 0, t, h => by simp at h; subst h; simp [tmrights]
  | x :: l, i + 1, t, h => by
    simp only [List.getElem?_cons_succ] at h
    have := tmrights_take l i t h
    simp only [List.take_succ_cons, tmrights, this, Bool.and_assoc]
theorem tmrights_no (ks : List Tm) (t : Tm) (hm : t ∈ ks) (h : tmright t = false) : tmrights ks = false := by
  cases hb : tmrights ks with
  | false => rfl
  | true => have := (tmrights_all ks).1 hb t hm; rw [h] at this; cases this
theorem kinds (k : Int) (h : validK k = true) : k = 0 ∨ k = 1 ∨ k = 2 ∨ k = 3 ∨ k = 4 ∨ k = 5 ∨ k = 6 ∨ k = 7 ∨ k = 8 ∨ k = 9 ∨ k = 10 ∨ k = 11 ∨ k = 12 ∨ k = 13 ∨ k = 14 ∨ k = 15 ∨ k = 16 ∨ k = 17 := by
  simp [validK] at h; omega
structure TmRightI (ks : List Tm) where
  i : Nat
  hi : i ≤ ks.length
  h : tmrights (ks.take i) = true
noncomputable def rest72 : Code := match Tryz.f28.body with
  | some (.seq _ (.seq _ (.seq _ (.seq _ c)))) => c
  | _ => .skip
set_option maxRecDepth 10000 in
theorem right_rest (k : Int) (name arg : ByteArray) (num tk : Int) (tks : List Ty) (uk : Int) (uks : List Ty) (label place : Int) (ks : List Tm) (s0 : Int) (b1 b2 b3 b4 b5 b6 b7 : Bool) (hlen : ks.length ≤ 8192)
    (ih : ∀ t ∈ ks, ACall Tryz.prog 28 [.c (.d (.rp 0 t.cells))] [] (fun o σ => o = .ret (.c (.d (.bool (tmright t)))) ∧ σ = [])) :
    AW Tryz.prog tab 0 rest72 ⟨120, [(0, .c (.d (.rp 0 (Tm.node k name arg num tk tks uk uks label place ks).cells)))], [.var [.d (.int .i64 s0), .d (.bool b1), .d (.bool b2), .d (.bool b3), .d (.bool b4), .d (.bool b5), .d (.bool b6), .d (.bool b7)]], []⟩
      (afin tab 0 28 [.tmp 2] 0 (fun o σ => o = .ret (.c (.d (.bool (tmrights ks)))) ∧ σ = [])) := by
  repeat' first | refine AW.seq ?_ | refine AW.block ?_ | (refine (_root_.id : AW _ _ _ (.region 3 _ true) _ _ → _) ?_; refine AW.draw (id := 3) tab_ok mixed [0, 1, 2, 3, 4, 5, 6, 7, 8] (by kernel_rfl) ?_; conv => whnf) | ((first | refine AW.region tab_ok ?_ | refine AW.cond ?_ | refine AW.skip ?_ | refine AW.ret ?_ | refine AW.exit ?_); conv => whnf) | ((first | refine And.intro (@rfl Val _) ?_ | refine And.intro (by decide) ?_ | refine cs (fun _ => ?_) (fun _ => ?_)) <;> conv => whnf)
  refine AW.loop (ι := TmRightI ks) (fun x => ⟨120, [(108, .c (.d (.int .i64 x.i))), (107, .c (.d (.int .i64 (Tm.rows ks).length))), (0, .c (.d (.rp 0 (Tm.node k name arg num tk tks uk uks label place ks).cells)))],
      [.var [.d (.int .i64 s0), .d (.bool b1), .d (.bool b2), .d (.bool b3), .d (.bool b4), .d (.bool b5), .d (.bool b6), .d (.bool b7)]], []⟩)
    (fun x => ks.length - x.i) ⟨0, Nat.zero_le _, rfl⟩ 1 (fun _ => rfl) (Nat.le_of_ble_eq_true rfl) ⟨⟨rfl, rfl, rfl, trivial⟩, rfl, rfl, ⟨[], rfl⟩, rfl⟩ (fun x => ?_)
  obtain ⟨i, hi, hj⟩ := x
  repeat' first | refine AW.seq ?_ | refine AW.block ?_ | (refine (_root_.id : AW _ _ _ (.region 3 _ true) _ _ → _) ?_; refine AW.draw (id := 3) tab_ok mixed [0, 1, 2, 3, 4, 5, 6, 7, 8] (by kernel_rfl) ?_; conv => whnf) | ((first | refine AW.region tab_ok ?_ | refine AW.cond ?_ | refine AW.skip ?_ | refine AW.ret ?_ | refine AW.exit ?_); conv => whnf) | ((first | refine And.intro (@rfl Val _) ?_ | refine And.intro (by decide) ?_ | refine cs (fun _ => ?_) (fun _ => ?_)) <;> conv => whnf)
  · rename_i h2
    simp only [trows_length] at h2 ⊢
    have := of_decide_eq_true h2
    refine ⟨by omega, fun row hrow => ?_⟩
    obtain ⟨t, ht, rfl⟩ := trows_get ks i row (by simpa using hrow)
    have hlt : i < ks.length := (List.getElem?_eq_some_iff.1 ht).1
    have hmem := List.mem_of_getElem? ht
    have hc := ih t hmem
    have hn := tmrights_take ks i _ ht
    have hf := tmrights_no ks t hmem
    generalize tmright t = b at hc hn hf
    conv => whnf
    repeat' first | refine AW.seq ?_ | refine AW.block ?_ | (refine (_root_.id : AW _ _ _ (.region 3 _ true) _ _ → _) ?_; refine AW.draw (id := 3) tab_ok mixed [0, 1, 2, 3, 4, 5, 6, 7, 8] (by kernel_rfl) ?_; conv => whnf) | ((first | refine AW.region tab_ok ?_ | refine AW.cond ?_ | refine AW.skip ?_ | refine AW.ret ?_ | refine AW.exit ?_); conv => whnf) | (refine (hc).mono ?_; rintro _ _ ⟨rfl, rfl⟩; conv => whnf) | ((first | refine And.intro (@rfl Val _) ?_ | refine And.intro (by decide) ?_ | refine cs (fun _ => ?_) (fun _ => ?_)) <;> conv => whnf)
    · rename_i h3
      have h3 : b = false := by simpa using h3
      exact ⟨outb (hf h3).symm, rfl⟩
    · rename_i h3
      have h3 : b = true := by simpa using h3
      rw [wrap64 (x := (i : Int) + 1) (by omega) (by omega)]
      exact ⟨⟨i + 1, hlt, by rw [hn, hj, h3]; rfl⟩, ⟨⟨rfl, rfl, rfl, trivial⟩, rfl, rfl, ⟨[], rfl⟩, rfl⟩, show ks.length - (i + 1) < ks.length - i by omega⟩
  · rename_i h2
    simp only [trows_length] at h2
    have := of_decide_eq_false h2
    obtain rfl : i = ks.length := by omega
    simp only [List.take_length] at hj
    exact ⟨outb hj.symm, rfl⟩
end Go.Proofs.YtmaokphbfjpodaaGreatDoor.E

/- Walk: terms.right. No conditions. -/
set_option linter.unusedVariables false
set_option linter.unusedSimpArgs false
namespace Go.Proofs.YtmaokphbfjpodaaGreatDoor.E
open Go

set_option maxRecDepth 10000 in
set_option maxHeartbeats 4000000 in
theorem tmright_call (t : Tm) : tmN t ≤ 8192 → ACall Tryz.prog 28 [.c (.d (.rp 0 t.cells))] [] (fun o σ => o = .ret (.c (.d (.bool (tmright t)))) ∧ σ = []) := by
  induction t using Tm.ind with
  | _ k name arg num tk tks uk uks label place ks ih =>
  intro hN
  have hlen := tmNL_len ks
  simp only [tmN] at hN
  have ih' : ∀ t ∈ ks, ACall Tryz.prog 28 [.c (.d (.rp 0 t.cells))] [] (fun o σ => o = .ret (.c (.d (.bool (tmright t)))) ∧ σ = []) := fun t ht => ih t ht (by have := tmN_mem ks t ht; omega)
  have fin : ∀ (s0 : Int) (b1 b2 b3 b4 b5 b6 b7 : Bool), ownRight (.node k name arg num tk tks uk uks label place ks) = true → ∀ env, get env 0 = .c (.d (.rp 0 (Tm.node k name arg num tk tks uk uks label place ks).cells)) →
      AW Tryz.prog tab 0 rest72 ⟨120, env, [.var [.d (.int .i64 s0), .d (.bool b1), .d (.bool b2), .d (.bool b3), .d (.bool b4), .d (.bool b5), .d (.bool b6), .d (.bool b7)]], []⟩ (afin tab 0 28 Tryz.f28.results.toList ([] : List AObj).length (fun o σ => o = .ret (.c (.d (.bool (tmright (.node k name arg num tk tks uk uks label place ks))))) ∧ σ = [])) := fun s0 b1 b2 b3 b4 b5 b6 b7 ho env g0 => by
    have e : tmright (.node k name arg num tk tks uk uks label place ks) = tmrights ks := by simp [tmright, ho]
    rw [e]
    refine AW.fits ?_ ?_ (right_rest k name arg num tk tks uk uks label place ks s0 b1 b2 b3 b4 b5 b6 b7 (by omega) ih')
    · exact ⟨⟨g0, trivial⟩, rfl, rfl, ⟨[], rfl⟩, rfl⟩
    · rfl
  clear ih ih' hN hlen
  have c1 := of_call k
  by_cases hv : validK k = true
  · rcases kinds k hv with rfl | rfl | rfl | rfl | rfl | rfl | rfl | rfl | rfl | rfl | rfl | rfl | rfl | rfl | rfl | rfl | rfl | rfl
    all_goals
      refine ACall.body tab_ok (ρ := 0) (N := 120) Tryz.func28 rfl rfl rfl rfl rfl ?_
      repeat' first | (refine fin _ _ _ _ _ _ _ _ ?_ _ rfl) | refine AW.seq ?_ | refine AW.block ?_ | (refine (_root_.id : AW _ _ _ (.region 3 _ true) _ _ → _) ?_; refine AW.draw (id := 3) tab_ok mixed [0, 1, 2, 3, 4, 5, 6, 7, 8] (by kernel_rfl) ?_; conv => whnf) | ((first | refine AW.region tab_ok ?_ | refine AW.cond ?_ | refine AW.skip ?_ | refine AW.ret ?_ | refine AW.exit ?_); conv => whnf) | ((first | refine (c1).mono ?_ | refine (name_call name).mono ?_ | refine (name_call arg).mono ?_ | refine (check_call (.node tk tks)).mono ?_ | refine (check_call (.node uk uks)).mono ?_); rintro _ _ ⟨rfl, rfl⟩; conv => whnf) | ((first | refine And.intro (@rfl Val _) ?_ | refine And.intro (by decide) ?_ | refine cs (fun _ => ?_) (fun _ => ?_)) <;> conv => whnf)
    all_goals clear c1 fin hv
    all_goals first
      | (refine ⟨outb ?_, rfl⟩
         simp only [tmright, ownRight]
         simp_all [kidsK, validK, nameK, argK, typeK, toK, opF, opsF, trows_length]
         done)
      | (refine ⟨outb ?_, rfl⟩
         simp only [tmright, ownRight]
         simp_all [kidsK, validK, nameK, argK, typeK, toK, opF, opsF, trows_length]
         omega)
      | (simp only [ownRight]
         simp_all [kidsK, validK, nameK, argK, typeK, toK, opF, opsF, trows_length]
         done)
      | (simp only [ownRight]
         simp_all [kidsK, validK, nameK, argK, typeK, toK, opF, opsF, trows_length]
         omega)
  · have hv : validK k = false := by simpa using hv
    rw [hv] at c1
    refine ACall.body tab_ok (ρ := 0) (N := 120) Tryz.func28 rfl rfl rfl rfl rfl ?_
    skip
    repeat' first | refine AW.seq ?_ | refine AW.block ?_ | (refine (_root_.id : AW _ _ _ (.region 3 _ true) _ _ → _) ?_; refine AW.draw (id := 3) tab_ok mixed [0, 1, 2, 3, 4, 5, 6, 7, 8] (by kernel_rfl) ?_; conv => whnf) | ((first | refine AW.region tab_ok ?_ | refine AW.cond ?_ | refine AW.skip ?_ | refine AW.ret ?_ | refine AW.exit ?_); conv => whnf) | (refine (c1).mono ?_; rintro _ _ ⟨rfl, rfl⟩; conv => whnf) | ((first | refine And.intro (@rfl Val _) ?_ | refine And.intro (by decide) ?_ | refine cs (fun _ => ?_) (fun _ => ?_)) <;> conv => whnf)
    have hk : kidsK k = -1 := by simp [validK] at hv; unfold kidsK; repeat rw [if_neg (by omega)]
    refine ⟨outb ?_, rfl⟩
    simp only [tmright, ownRight, hk]
    rw [show decide ((-1 : Int) = (ks.length : Int)) = false by simp <;> omega]
    rfl
end Go.Proofs.YtmaokphbfjpodaaGreatDoor.E

/- Walk: ref right of terms. No conditions. -/
set_option linter.unusedVariables false
set_option linter.unusedSimpArgs false
namespace Go.Proofs.YtmaokphbfjpodaaGreatDoor.E
open Go

end Go.Proofs.YtmaokphbfjpodaaGreatDoor.E

/- Walks: Check of terms, both; the law TermsCheck. No conditions. -/
set_option linter.unusedVariables false
set_option linter.unusedSimpArgs false
namespace Go.Proofs.YtmaokphbfjpodaaGreatDoor.E
open Go

def tmcheck (t : Tm) : Int := if tmN t > 8192 then 32 else if tmD t 201 > 200 then 31 else if tmright t then 0 else 30
theorem tmcheck_eq (t : Tm) : tmcheck t = if tmN t > 8192 then 32 else if tmDepth t > 200 then 31 else if tmright t then 0 else 30 := by
  unfold tmcheck tmDepth
  split <;> rfl
set_option maxRecDepth 10000 in
theorem tmCheck_call (t : Tm) : ACall Tryz.prog 14 [t.val] [] (fun o σ => o = .ret (.c (.d (.int .i64 (tmcheck t)))) ∧ σ = []) := by
  have c1 := tnodes_call t
  have c2 := tDepth_call t
  have c3 := tmright_call t
  rw [tmcheck_eq]
  generalize tmN t = nn at *
  generalize tmDepth t = dd at *
  generalize tmright t = rr at *
  obtain ⟨k, name, arg, num, tk, tks, uk, uks, label, place, ks⟩ := t
  refine ACall.body tab_ok (ρ := 0) (N := 11) Tryz.func14 rfl rfl rfl rfl rfl ?_
  repeat' first | refine AW.seq ?_ | refine AW.block ?_ | ((first | refine AW.region tab_ok ?_ | refine AW.cond ?_ | refine AW.skip ?_ | refine AW.ret ?_ | refine AW.exit ?_); conv => whnf) | ((first | refine (c1).mono ?_ | refine (c2).mono ?_); rintro _ _ ⟨rfl, rfl⟩; conv => whnf) | ((first | refine And.intro (@rfl Val _) ?_ | refine And.intro (by decide) ?_ | refine cs (fun _ => ?_) (fun _ => ?_)) <;> conv => whnf)
  · rename_i h
    have := of_decide_eq_true h
    refine ⟨?_, rfl⟩
    simp only [oneOf]
    rw [if_pos (by omega)]
  · rename_i h1 h2
    have := of_decide_eq_false h1
    have h2 := of_decide_eq_true h2
    refine ⟨?_, rfl⟩
    simp only [oneOf]
    rw [if_neg (by omega), if_pos (by omega)]
  · rename_i h1 h2
    have := of_decide_eq_false h1
    have h2 := of_decide_eq_false h2
    refine (c3 (by omega)).mono ?_
    rintro _ _ ⟨rfl, rfl⟩
    conv => whnf
    repeat' first | refine AW.seq ?_ | refine AW.block ?_ | ((first | refine AW.region tab_ok ?_ | refine AW.cond ?_ | refine AW.skip ?_ | refine AW.ret ?_ | refine AW.exit ?_); conv => whnf) | ((first | refine And.intro (@rfl Val _) ?_ | refine And.intro (by decide) ?_ | refine cs (fun _ => ?_) (fun _ => ?_)) <;> conv => whnf)
    all_goals
      rename_i h3
      refine ⟨?_, rfl⟩
      simp only [oneOf]
      rw [if_neg (by omega), if_neg (by omega)]
      simp at h3
      simp [h3]
end Go.Proofs.YtmaokphbfjpodaaGreatDoor.E

/- Walks: less of both; Less of both; the law. No conditions. -/
set_option linter.unusedVariables false
set_option linter.unusedSimpArgs false
namespace Go.Proofs.YtmaokphbfjpodaaGreatDoor.E
open Go

/-! ### less, Less -/
end Go.Proofs.YtmaokphbfjpodaaGreatDoor.E

/- Walks: types.equal, Same; the law OrderGoes. No conditions. -/
set_option linter.unusedVariables false
set_option linter.unusedSimpArgs false
namespace Go.Proofs.YtmaokphbfjpodaaGreatDoor.E
open Go

/-! ### An order -/
end Go.Proofs.YtmaokphbfjpodaaGreatDoor.E

/- Walks: Same of types in the document's answer; same of terms, both. No conditions. -/
set_option linter.unusedVariables false
set_option linter.unusedSimpArgs false
namespace Go.Proofs.YtmaokphbfjpodaaGreatDoor.E
open Go

/-! ### Same of types, the document's -/
/-! ### Same of terms -/
end Go.Proofs.YtmaokphbfjpodaaGreatDoor.E

/- Walks: same of terms in the document's answer. No conditions. -/
set_option linter.unusedVariables false
set_option linter.unusedSimpArgs false
namespace Go.Proofs.YtmaokphbfjpodaaGreatDoor.E
open Go

end Go.Proofs.YtmaokphbfjpodaaGreatDoor.E
