/- Texts, merged: Rd5, Rd6, Pm1. No conditions. -/
import Derived.Test.YtmaokphbfjpodaaGreatDoorRd4
import Derived.Test.YtmaokphbfjpodaaGreatDoorGenX5
/- Walks: the document's reader: mul, sum, cmp, is. No conditions. -/
set_option linter.unusedVariables false
set_option linter.unusedSimpArgs false
namespace Go.Proofs.YtmaokphbfjpodaaGreatDoor.E
open Go

structure SmR (l : List Wd) (part : Nat → PR Tm) (ops : List ByteArray) (i : Nat) (r : PR Tm) where
  c : List AV
  j : Nat
  e : Int
  x : Int
  w : ByteArray
  h : (e = 0 ∧ x = 0 ∧ w = ⟨#[]⟩ ∧ i < j ∧ j ≤ l.length ∧ ∃ a m, c = a.cells.map .d ∧ l.length - j < m ∧ r = opLoop l part ops m a j) ∨ (e ≠ 0 ∧ CG c ∧ r = .bad e x w)
structure IsR (l : List Wd) (i : Nat) (r : PR Tm) where
  c : List AV
  j : Nat
  e : Int
  x : Int
  w : ByteArray
  p : Int
  h : (e = 0 ∧ x = 0 ∧ w = ⟨#[]⟩ ∧ i < j ∧ j ≤ l.length ∧ p = placeW l j ∧ ∃ a m, VC2 a c ∧ l.length - j < m ∧ r = isLoop l m a j) ∨ (e ≠ 0 ∧ CG c ∧ r = .bad e x w)
set_option maxRecDepth 10000 in
set_option maxHeartbeats 2000000 in
theorem rmul4_ok (l : List Wd) (n : Nat) (hU : ∀ i, i ≤ l.length → l.length - i < n + 1 → ACall Tryz.prog 166 [.agg [.ptr 0 0]] (rfO l i 0 0 ⟨#[]⟩) (rfR l Tm.val GTm i (pU l (pTerm l n) i))) (i : Nat) (hi : i ≤ l.length) (hn : l.length - i < n + 1) (hl : l.length ≤ 1000000) :
    ACall Tryz.prog 160 [.agg [.ptr 0 0]] (rfO l i 0 0 ⟨#[]⟩) (rfR l Tm.val GTm i (pMul l (pTerm l n) i)) := by
  have A := fun j e x u => rat_call l j e x u hl
  have S := fun j s => rSign_ok l j s hl
  have P := hU
  simp only [rfO, takeR, wantR] at A S P ⊢
  refine ACall.body tab_ok (ρ := 0) (N := 35) Tryz.func160 rfl rfl rfl rfl rfl ?_
  repeat' first | ((refine (P _ (by omega) (by omega)).mono ?_; intro o σ hh; rcases rfR_cases hh with ⟨⟨k, nm, ag, nu, tk, tks, uk, uks, lb, pl, ks⟩, j, hp, hj1, hj2, rfl, rfl⟩ | ⟨e, x, w, v, j, hp, he, ⟨gk, gnm, gag, gnu, gtk, gd1, guk, gd2, glb, gpl, gd3, rfl⟩, rfl, rfl⟩ <;> clear hh <;> conv => whnf)) | refine AW.seq ?_ | refine AW.block ?_ | ((first | refine AW.region tab_ok ?_ | refine AW.cond ?_ | refine AW.skip ?_ | refine AW.ret ?_ | refine AW.exit ?_); conv => whnf) | ((first | refine And.intro (@rfl Val _) ?_ | refine And.intro (by decide) ?_ | refine cs (fun _ => ?_) (fun _ => ?_)) <;> conv => whnf)
  all_goals first
    | refine AW.loop (ι := SmR l (pU l (pTerm l n)) [⟨#[42]⟩, ⟨#[47]⟩] i (pMul l (pTerm l n) i)) (fun x => ⟨35, [(3, .c (.ptr 3 0)), (2, .c (.ptr 2 0)), (1, .c (.ptr 1 0))], [.var [.d (.sl 0 4 (wrows l)), .d (.int .i64 x.j), .d (.int .i64 x.e), .d (.int .i64 x.x), .d (.str x.w)], .var [.ptr 0 0], .var _, .var x.c], []⟩) (fun x => ldM l x.e x.j) ⟨_, j, 0, 0, ⟨#[]⟩, .inl ⟨rfl, rfl, rfl, hj1, hj2, .node k nm ag nu tk tks uk uks lb pl ks, l.length + 1, rfl, by omega, by simp only [pMul, hp, bindP_ok]⟩⟩ 4 (fun _ => rfl) (Nat.le_of_ble_eq_true rfl) ⟨⟨rfl, rfl, rfl, trivial⟩, rfl, rfl, ⟨[], rfl⟩, rfl⟩ (fun x => ?_)
    | refine AW.loop (ι := SmR l (pU l (pTerm l n)) [⟨#[42]⟩, ⟨#[47]⟩] i (pMul l (pTerm l n) i)) (fun x => ⟨35, [(3, .c (.ptr 3 0)), (2, .c (.ptr 2 0)), (1, .c (.ptr 1 0))], [.var [.d (.sl 0 4 (wrows l)), .d (.int .i64 x.j), .d (.int .i64 x.e), .d (.int .i64 x.x), .d (.str x.w)], .var [.ptr 0 0], .var _, .var x.c], []⟩) (fun x => ldM l x.e x.j) ⟨_, j, e, x, w, .inr ⟨he, .mk _ _ _ _ _ _ _ _ _ _ _, by simp only [pMul, hp, bindP_bad]⟩⟩ 4 (fun _ => rfl) (Nat.le_of_ble_eq_true rfl) ⟨⟨rfl, rfl, rfl, trivial⟩, rfl, rfl, ⟨[], rfl⟩, rfl⟩ (fun x => ?_)
   
  all_goals
    clear hp
    obtain ⟨c, j0, e, x, w, h⟩ := x
    dsimp only
    rcases h with ⟨rfl, rfl, rfl, h1, h2, ⟨ak, anm, aag, anu, atk, atks, auk, auks, alb, apl, aks⟩, m, rfl, h3, hx⟩ | ⟨he, hc, hx⟩
    · obtain ⟨m, rfl⟩ : ∃ q, m = q + 1 := ⟨m - 1, by omega⟩
      simp only [Tm.cells, List.map_cons, List.map_nil]
      repeat' first | ((refine (A _ _ _ _).mono ?_; rintro _ _ ⟨rfl, rfl⟩; conv => whnf)) | ((refine (S _ _).mono ?_; rintro _ _ (⟨ht, hlt, rfl, rfl⟩ | ⟨ht, rfl, rfl⟩) <;> conv => whnf)) | ((refine (P _ (by omega) (by omega)).mono ?_; intro o σ hh; rcases rfR_cases hh with ⟨⟨k, nm, ag, nu, tk, tks, uk, uks, lb, pl, ks⟩, j, hp, hj1, hj2, rfl, rfl⟩ | ⟨e, x, w, v, j, hp, he, ⟨gk, gnm, gag, gnu, gtk, gd1, guk, gd2, glb, gpl, gd3, rfl⟩, rfl, rfl⟩ <;> clear hh <;> conv => whnf)) | refine AW.seq ?_ | refine AW.block ?_ | ((first | refine AW.region tab_ok ?_ | refine AW.cond ?_ | refine AW.skip ?_ | refine AW.ret ?_ | refine AW.exit ?_); conv => whnf) | (refine (r4op_call ..).mono ?_; rintro _ _ ⟨rfl, rfl⟩; conv => whnf) | ((first | refine And.intro (@rfl Val _) ?_ | refine And.intro (by decide) ?_ | refine cs (fun _ => ?_) (fun _ => ?_)) <;> conv => whnf)
      all_goals first
        | (have ho := isOp_0 (show tkW l j0 4 ⟨#[42]⟩ = false by assumption) (show tkW l j0 4 ⟨#[47]⟩ = false by assumption)
           clear A S P hU
           rw [hx, opLoop, if_neg (by rw [ho]; decide)]
           refine ⟨rfl, rfl, ?_, ?_⟩ <;> first | trivial | omega)
        | (have ht := (show tkW l j0 4 ⟨#[42]⟩ = true by assumption)
           have ho : isOp l [⟨#[42]⟩, ⟨#[47]⟩] j0 = true := isOp_1 ht
           refine ⟨⟨_, j, 0, 0, ⟨#[]⟩, .inl ⟨rfl, rfl, rfl, ?_, ?_, tn 15 ⟨#[42]⟩ s0 0 ty0 ty0 (placeW l j0) [.node ak anm aag anu atk atks auk auks alb apl aks, .node k nm ag nu tk tks uk uks lb pl ks], m, rfl, ?_, ?_⟩⟩, ⟨⟨rfl, rfl, rfl, trivial⟩, rfl, rfl, ⟨[_], rfl⟩, rfl⟩, ?_⟩
           · omega
           · omega
           · omega
           · clear A S P hU
             rw [hx, opLoop, if_pos ho]
             simp only [opP, hp, bindP_ok, tk_text ht]
           · show ldM l 0 j < ldM l 0 j0
             unfold ldM; rw [if_pos rfl, if_pos rfl]; omega)
        | (have ht := (show tkW l j0 4 ⟨#[42]⟩ = true by assumption)
           have ho : isOp l [⟨#[42]⟩, ⟨#[47]⟩] j0 = true := isOp_1 ht
           refine ⟨⟨_, j, e, x, w, .inr ⟨he, .mk _ _ _ _ _ _ _ _ _ _ _, ?_⟩⟩, ⟨⟨rfl, rfl, rfl, trivial⟩, rfl, rfl, ⟨[_], rfl⟩, rfl⟩, ?_⟩
           · clear A S P hU
             rw [hx, opLoop, if_pos ho]
             simp only [opP, hp, bindP_bad]
           · show ldM l e j < ldM l 0 j0
             unfold ldM; rw [if_neg he, if_pos rfl]; omega)
        | (have ht := (show tkW l j0 4 ⟨#[47]⟩ = true by assumption)
           have ho : isOp l [⟨#[42]⟩, ⟨#[47]⟩] j0 = true := isOp_2 ht
           refine ⟨⟨_, j, 0, 0, ⟨#[]⟩, .inl ⟨rfl, rfl, rfl, ?_, ?_, tn 15 ⟨#[47]⟩ s0 0 ty0 ty0 (placeW l j0) [.node ak anm aag anu atk atks auk auks alb apl aks, .node k nm ag nu tk tks uk uks lb pl ks], m, rfl, ?_, ?_⟩⟩, ⟨⟨rfl, rfl, rfl, trivial⟩, rfl, rfl, ⟨[_], rfl⟩, rfl⟩, ?_⟩
           · omega
           · omega
           · omega
           · clear A S P hU
             rw [hx, opLoop, if_pos ho]
             simp only [opP, hp, bindP_ok, tk_text ht]
           · show ldM l 0 j < ldM l 0 j0
             unfold ldM; rw [if_pos rfl, if_pos rfl]; omega)
        | (have ht := (show tkW l j0 4 ⟨#[47]⟩ = true by assumption)
           have ho : isOp l [⟨#[42]⟩, ⟨#[47]⟩] j0 = true := isOp_2 ht
           refine ⟨⟨_, j, e, x, w, .inr ⟨he, .mk _ _ _ _ _ _ _ _ _ _ _, ?_⟩⟩, ⟨⟨rfl, rfl, rfl, trivial⟩, rfl, rfl, ⟨[_], rfl⟩, rfl⟩, ?_⟩
           · clear A S P hU
             rw [hx, opLoop, if_pos ho]
             simp only [opP, hp, bindP_bad]
           · show ldM l e j < ldM l 0 j0
             unfold ldM; rw [if_neg he, if_pos rfl]; omega)
       
    · have he' : (e == 0) = false := by simpa using he
      cases hc
      all_goals
        repeat' first | ((refine cs (fun h => absurd h (by rw [he']; decide)) (fun _ => ?_); conv => whnf)) | refine AW.seq ?_ | refine AW.block ?_ | ((first | refine AW.region tab_ok ?_ | refine AW.cond ?_ | refine AW.skip ?_ | refine AW.ret ?_ | refine AW.exit ?_); conv => whnf) | ((first | refine And.intro (@rfl Val _) ?_ | refine And.intro (by decide) ?_ | refine cs (fun _ => ?_) (fun _ => ?_)) <;> conv => whnf)
      all_goals first
        | (rw [hx]; exact ⟨he, _, _, ⟨_, _, _, _, _, _, _, _, _, _, _, rfl⟩, rfl, rfl⟩)
       
set_option maxRecDepth 10000 in
set_option maxHeartbeats 2000000 in
theorem rsum4_ok (l : List Wd) (n : Nat) (hU : ∀ i, i ≤ l.length → l.length - i < n + 1 → ACall Tryz.prog 160 [.agg [.ptr 0 0]] (rfO l i 0 0 ⟨#[]⟩) (rfR l Tm.val GTm i (pMul l (pTerm l n) i))) (i : Nat) (hi : i ≤ l.length) (hn : l.length - i < n + 1) (hl : l.length ≤ 1000000) :
    ACall Tryz.prog 147 [.agg [.ptr 0 0]] (rfO l i 0 0 ⟨#[]⟩) (rfR l Tm.val GTm i (pSum l (pTerm l n) i)) := by
  have A := fun j e x u => rat_call l j e x u hl
  have S := fun j s => rSign_ok l j s hl
  have P := hU
  simp only [rfO, takeR, wantR] at A S P ⊢
  refine ACall.body tab_ok (ρ := 0) (N := 35) Tryz.func147 rfl rfl rfl rfl rfl ?_
  repeat' first | ((refine (P _ (by omega) (by omega)).mono ?_; intro o σ hh; rcases rfR_cases hh with ⟨⟨k, nm, ag, nu, tk, tks, uk, uks, lb, pl, ks⟩, j, hp, hj1, hj2, rfl, rfl⟩ | ⟨e, x, w, v, j, hp, he, ⟨gk, gnm, gag, gnu, gtk, gd1, guk, gd2, glb, gpl, gd3, rfl⟩, rfl, rfl⟩ <;> clear hh <;> conv => whnf)) | refine AW.seq ?_ | refine AW.block ?_ | ((first | refine AW.region tab_ok ?_ | refine AW.cond ?_ | refine AW.skip ?_ | refine AW.ret ?_ | refine AW.exit ?_); conv => whnf) | ((first | refine And.intro (@rfl Val _) ?_ | refine And.intro (by decide) ?_ | refine cs (fun _ => ?_) (fun _ => ?_)) <;> conv => whnf)
  all_goals first
    | refine AW.loop (ι := SmR l (pMul l (pTerm l n)) [⟨#[43]⟩, ⟨#[45]⟩] i (pSum l (pTerm l n) i)) (fun x => ⟨35, [(3, .c (.ptr 3 0)), (2, .c (.ptr 2 0)), (1, .c (.ptr 1 0))], [.var [.d (.sl 0 4 (wrows l)), .d (.int .i64 x.j), .d (.int .i64 x.e), .d (.int .i64 x.x), .d (.str x.w)], .var [.ptr 0 0], .var _, .var x.c], []⟩) (fun x => ldM l x.e x.j) ⟨_, j, 0, 0, ⟨#[]⟩, .inl ⟨rfl, rfl, rfl, hj1, hj2, .node k nm ag nu tk tks uk uks lb pl ks, l.length + 1, rfl, by omega, by simp only [pSum, hp, bindP_ok]⟩⟩ 4 (fun _ => rfl) (Nat.le_of_ble_eq_true rfl) ⟨⟨rfl, rfl, rfl, trivial⟩, rfl, rfl, ⟨[], rfl⟩, rfl⟩ (fun x => ?_)
    | refine AW.loop (ι := SmR l (pMul l (pTerm l n)) [⟨#[43]⟩, ⟨#[45]⟩] i (pSum l (pTerm l n) i)) (fun x => ⟨35, [(3, .c (.ptr 3 0)), (2, .c (.ptr 2 0)), (1, .c (.ptr 1 0))], [.var [.d (.sl 0 4 (wrows l)), .d (.int .i64 x.j), .d (.int .i64 x.e), .d (.int .i64 x.x), .d (.str x.w)], .var [.ptr 0 0], .var _, .var x.c], []⟩) (fun x => ldM l x.e x.j) ⟨_, j, e, x, w, .inr ⟨he, .mk _ _ _ _ _ _ _ _ _ _ _, by simp only [pSum, hp, bindP_bad]⟩⟩ 4 (fun _ => rfl) (Nat.le_of_ble_eq_true rfl) ⟨⟨rfl, rfl, rfl, trivial⟩, rfl, rfl, ⟨[], rfl⟩, rfl⟩ (fun x => ?_)
   
  all_goals
    clear hp
    obtain ⟨c, j0, e, x, w, h⟩ := x
    dsimp only
    rcases h with ⟨rfl, rfl, rfl, h1, h2, ⟨ak, anm, aag, anu, atk, atks, auk, auks, alb, apl, aks⟩, m, rfl, h3, hx⟩ | ⟨he, hc, hx⟩
    · obtain ⟨m, rfl⟩ : ∃ q, m = q + 1 := ⟨m - 1, by omega⟩
      simp only [Tm.cells, List.map_cons, List.map_nil]
      repeat' first | ((refine (A _ _ _ _).mono ?_; rintro _ _ ⟨rfl, rfl⟩; conv => whnf)) | ((refine (S _ _).mono ?_; rintro _ _ (⟨ht, hlt, rfl, rfl⟩ | ⟨ht, rfl, rfl⟩) <;> conv => whnf)) | ((refine (P _ (by omega) (by omega)).mono ?_; intro o σ hh; rcases rfR_cases hh with ⟨⟨k, nm, ag, nu, tk, tks, uk, uks, lb, pl, ks⟩, j, hp, hj1, hj2, rfl, rfl⟩ | ⟨e, x, w, v, j, hp, he, ⟨gk, gnm, gag, gnu, gtk, gd1, guk, gd2, glb, gpl, gd3, rfl⟩, rfl, rfl⟩ <;> clear hh <;> conv => whnf)) | refine AW.seq ?_ | refine AW.block ?_ | ((first | refine AW.region tab_ok ?_ | refine AW.cond ?_ | refine AW.skip ?_ | refine AW.ret ?_ | refine AW.exit ?_); conv => whnf) | (refine (r4op_call ..).mono ?_; rintro _ _ ⟨rfl, rfl⟩; conv => whnf) | ((first | refine And.intro (@rfl Val _) ?_ | refine And.intro (by decide) ?_ | refine cs (fun _ => ?_) (fun _ => ?_)) <;> conv => whnf)
      all_goals first
        | (have ho := isOp_0 (show tkW l j0 4 ⟨#[43]⟩ = false by assumption) (show tkW l j0 4 ⟨#[45]⟩ = false by assumption)
           clear A S P hU
           rw [hx, opLoop, if_neg (by rw [ho]; decide)]
           refine ⟨rfl, rfl, ?_, ?_⟩ <;> first | trivial | omega)
        | (have ht := (show tkW l j0 4 ⟨#[43]⟩ = true by assumption)
           have ho : isOp l [⟨#[43]⟩, ⟨#[45]⟩] j0 = true := isOp_1 ht
           refine ⟨⟨_, j, 0, 0, ⟨#[]⟩, .inl ⟨rfl, rfl, rfl, ?_, ?_, tn 15 ⟨#[43]⟩ s0 0 ty0 ty0 (placeW l j0) [.node ak anm aag anu atk atks auk auks alb apl aks, .node k nm ag nu tk tks uk uks lb pl ks], m, rfl, ?_, ?_⟩⟩, ⟨⟨rfl, rfl, rfl, trivial⟩, rfl, rfl, ⟨[_], rfl⟩, rfl⟩, ?_⟩
           · omega
           · omega
           · omega
           · clear A S P hU
             rw [hx, opLoop, if_pos ho]
             simp only [opP, hp, bindP_ok, tk_text ht]
           · show ldM l 0 j < ldM l 0 j0
             unfold ldM; rw [if_pos rfl, if_pos rfl]; omega)
        | (have ht := (show tkW l j0 4 ⟨#[43]⟩ = true by assumption)
           have ho : isOp l [⟨#[43]⟩, ⟨#[45]⟩] j0 = true := isOp_1 ht
           refine ⟨⟨_, j, e, x, w, .inr ⟨he, .mk _ _ _ _ _ _ _ _ _ _ _, ?_⟩⟩, ⟨⟨rfl, rfl, rfl, trivial⟩, rfl, rfl, ⟨[_], rfl⟩, rfl⟩, ?_⟩
           · clear A S P hU
             rw [hx, opLoop, if_pos ho]
             simp only [opP, hp, bindP_bad]
           · show ldM l e j < ldM l 0 j0
             unfold ldM; rw [if_neg he, if_pos rfl]; omega)
        | (have ht := (show tkW l j0 4 ⟨#[45]⟩ = true by assumption)
           have ho : isOp l [⟨#[43]⟩, ⟨#[45]⟩] j0 = true := isOp_2 ht
           refine ⟨⟨_, j, 0, 0, ⟨#[]⟩, .inl ⟨rfl, rfl, rfl, ?_, ?_, tn 15 ⟨#[45]⟩ s0 0 ty0 ty0 (placeW l j0) [.node ak anm aag anu atk atks auk auks alb apl aks, .node k nm ag nu tk tks uk uks lb pl ks], m, rfl, ?_, ?_⟩⟩, ⟨⟨rfl, rfl, rfl, trivial⟩, rfl, rfl, ⟨[_], rfl⟩, rfl⟩, ?_⟩
           · omega
           · omega
           · omega
           · clear A S P hU
             rw [hx, opLoop, if_pos ho]
             simp only [opP, hp, bindP_ok, tk_text ht]
           · show ldM l 0 j < ldM l 0 j0
             unfold ldM; rw [if_pos rfl, if_pos rfl]; omega)
        | (have ht := (show tkW l j0 4 ⟨#[45]⟩ = true by assumption)
           have ho : isOp l [⟨#[43]⟩, ⟨#[45]⟩] j0 = true := isOp_2 ht
           refine ⟨⟨_, j, e, x, w, .inr ⟨he, .mk _ _ _ _ _ _ _ _ _ _ _, ?_⟩⟩, ⟨⟨rfl, rfl, rfl, trivial⟩, rfl, rfl, ⟨[_], rfl⟩, rfl⟩, ?_⟩
           · clear A S P hU
             rw [hx, opLoop, if_pos ho]
             simp only [opP, hp, bindP_bad]
           · show ldM l e j < ldM l 0 j0
             unfold ldM; rw [if_neg he, if_pos rfl]; omega)
       
    · have he' : (e == 0) = false := by simpa using he
      cases hc
      all_goals
        repeat' first | ((refine cs (fun h => absurd h (by rw [he']; decide)) (fun _ => ?_); conv => whnf)) | refine AW.seq ?_ | refine AW.block ?_ | ((first | refine AW.region tab_ok ?_ | refine AW.cond ?_ | refine AW.skip ?_ | refine AW.ret ?_ | refine AW.exit ?_); conv => whnf) | ((first | refine And.intro (@rfl Val _) ?_ | refine And.intro (by decide) ?_ | refine cs (fun _ => ?_) (fun _ => ?_)) <;> conv => whnf)
      all_goals first
        | (rw [hx]; exact ⟨he, _, _, ⟨_, _, _, _, _, _, _, _, _, _, _, rfl⟩, rfl, rfl⟩)
       
set_option maxRecDepth 10000 in
set_option maxHeartbeats 2000000 in
theorem rcmp_ok (l : List Wd) (n : Nat) (hU : ∀ i, i ≤ l.length → l.length - i < n + 1 → ACall Tryz.prog 147 [.agg [.ptr 0 0]] (rfO l i 0 0 ⟨#[]⟩) (rfR l Tm.val GTm i (pSum l (pTerm l n) i))) (i : Nat) (hi : i ≤ l.length) (hn : l.length - i < n + 1) (hl : l.length ≤ 1000000) :
    ACall Tryz.prog 122 [.agg [.ptr 0 0]] (rfO l i 0 0 ⟨#[]⟩) (rfR l Tm.val GTm i (pCmp l (pTerm l n) i)) := by
  have A := fun j e x u => rat_call l j e x u hl
  have S := fun j s => rSign_ok l j s hl
  have S' := fun j e x u s he => rSign_bad l j e x u s he
  have P := hU
  have P' := fun j e x u he => rsum_bad l j e x u hl he
  simp only [rfO, takeR, wantR] at A S S' P P' ⊢
  refine ACall.body tab_ok (ρ := 0) (N := 30) Tryz.func122 rfl rfl rfl rfl rfl ?_
  repeat' first | ((refine (A _ _ _ _).mono ?_; rintro _ _ ⟨rfl, rfl⟩; conv => whnf)) | ((refine (S _ _).mono ?_; rintro _ _ (⟨ht, hlt, rfl, rfl⟩ | ⟨ht, rfl, rfl⟩) <;> conv => whnf)) | ((refine (S' _ _ _ _ _ (by first | assumption | decide)).mono ?_; rintro _ _ ⟨rfl, rfl⟩; conv => whnf)) | ((refine (P _ (by omega) (by omega)).mono ?_; intro o σ hh; rcases rfR_cases hh with ⟨⟨k, nm, ag, nu, tk, tks, uk, uks, lb, pl, ks⟩, j, hp, hj1, hj2, rfl, rfl⟩ | ⟨e, x, w, v, j, hp, he, ⟨gk, gnm, gag, gnu, gtk, gd1, guk, gd2, glb, gpl, gd3, rfl⟩, rfl, rfl⟩ <;> clear hh <;> conv => whnf)) | ((refine (P' _ _ _ _ (by first | assumption | decide)).mono ?_; rintro _ _ ⟨rfl, rfl⟩; conv => whnf)) | refine AW.seq ?_ | refine AW.block ?_ | ((first | refine AW.region tab_ok ?_ | refine AW.cond ?_ | refine AW.skip ?_ | refine AW.ret ?_ | refine AW.exit ?_); conv => whnf) | (refine (r4op_call ..).mono ?_; rintro _ _ ⟨rfl, rfl⟩; conv => whnf) | ((first | refine And.intro (@rfl Val _) ?_ | refine And.intro (by decide) ?_ | refine cs (fun _ => ?_) (fun _ => ?_)) <;> conv => whnf)
  all_goals
    clear A S S' P P' hU
    first
      | (simp only [pCmp, *, bindP_bad, bindP_ok]
         exact ⟨he, _, _, ⟨_, _, _, _, _, _, _, _, _, _, _, rfl⟩, rfl, rfl⟩)
      | (have ho := isOp_0 (show tkW l _ 4 ⟨#[60]⟩ = false by assumption) (show tkW l _ 4 ⟨#[61]⟩ = false by assumption)
         simp only [pCmp, hp, bindP_ok, ho, Bool.false_eq_true, if_false]
         refine ⟨rfl, rfl, ?_, ?_⟩ <;> first | trivial | omega)
      | (have ht := (show tkW l _ 4 ⟨#[60]⟩ = true by assumption)
         have ho := isOp_1 (s' := ⟨#[61]⟩) ht
         simp only [pCmp, opP, *, bindP_ok, tk_text ht, if_true]
         refine ⟨rfl, rfl, ?_, ?_⟩ <;> first | trivial | omega)
      | (have ht := (show tkW l _ 4 ⟨#[60]⟩ = true by assumption)
         have ho := isOp_1 (s' := ⟨#[61]⟩) ht
         simp only [pCmp, opP, *, bindP_ok, bindP_bad, tk_text ht, if_true]
         exact ⟨he, _, _, ⟨_, _, _, _, _, _, _, _, _, _, _, rfl⟩, rfl, rfl⟩)
      | (have ht := (show tkW l _ 4 ⟨#[61]⟩ = true by assumption)
         have ho := isOp_2 (s := ⟨#[60]⟩) ht
         simp only [pCmp, opP, *, bindP_ok, tk_text ht, if_true]
         refine ⟨rfl, rfl, ?_, ?_⟩ <;> first | trivial | omega)
      | (have ht := (show tkW l _ 4 ⟨#[61]⟩ = true by assumption)
         have ho := isOp_2 (s := ⟨#[60]⟩) ht
         simp only [pCmp, opP, *, bindP_ok, bindP_bad, tk_text ht, if_true]
         exact ⟨he, _, _, ⟨_, _, _, _, _, _, _, _, _, _, _, rfl⟩, rfl, rfl⟩)
     
set_option maxRecDepth 10000 in
set_option maxHeartbeats 2000000 in
theorem ris_ok (l : List Wd) (n : Nat) (hU : ∀ i, i ≤ l.length → l.length - i < n + 1 → ACall Tryz.prog 122 [.agg [.ptr 0 0]] (rfO l i 0 0 ⟨#[]⟩) (rfR l Tm.val GTm i (pCmp l (pTerm l n) i))) (i : Nat) (hi : i ≤ l.length) (hn : l.length - i < n + 1) (hl : l.length ≤ 1000000) :
    ACall Tryz.prog 93 [.agg [.ptr 0 0]] (rfO l i 0 0 ⟨#[]⟩) (rfR l Tm.val GTm i (pIs l (pTerm l n) i)) := by
  have A := fun j e x u => rat_call l j e x u hl
  have S := fun j s => rSign_ok l j s hl
  have S' := fun j e x u s he => rSign_bad l j e x u s he
  have Y := fun j hj => rtyp_ok l j hj hl
  have Y' := fun j e x u he => rtyp_bad l j e x u hl he
  have P := hU
  simp only [rfO, takeR, wantR] at A S S' Y Y' P ⊢
  refine ACall.body tab_ok (ρ := 0) (N := 23) Tryz.func93 rfl rfl rfl rfl rfl ?_
  repeat' first | ((refine (P _ (by omega) (by omega)).mono ?_; intro o σ hh; rcases rfR_cases hh with ⟨⟨k, nm, ag, nu, tk, tks, uk, uks, lb, pl, ks⟩, j, hp, hj1, hj2, rfl, rfl⟩ | ⟨e, x, w, v, j, hp, he, ⟨gk, gnm, gag, gnu, gtk, gd1, guk, gd2, glb, gpl, gd3, rfl⟩, rfl, rfl⟩ <;> clear hh <;> conv => whnf)) | ((refine (A _ _ _ _).mono ?_; rintro _ _ ⟨rfl, rfl⟩; conv => whnf)) | refine AW.seq ?_ | refine AW.block ?_ | ((first | refine AW.region tab_ok ?_ | refine AW.cond ?_ | refine AW.skip ?_ | refine AW.ret ?_ | refine AW.exit ?_); conv => whnf) | ((first | refine And.intro (@rfl Val _) ?_ | refine And.intro (by decide) ?_ | refine cs (fun _ => ?_) (fun _ => ?_)) <;> conv => whnf)
  all_goals first
    | refine AW.loop (ι := IsR l i (pIs l (pTerm l n) i)) (fun x => ⟨23, [(4, .c (.d (.int .i64 x.p))), (3, .c (.ptr 3 0)), (2, .c (.ptr 2 0)), (1, .c (.ptr 1 0))], [.var [.d (.sl 0 4 (wrows l)), .d (.int .i64 x.j), .d (.int .i64 x.e), .d (.int .i64 x.x), .d (.str x.w)], .var [.ptr 0 0], .var _, .var x.c], []⟩) (fun x => ldM l x.e x.j) ⟨_, j, 0, 0, ⟨#[]⟩, placeW l j, .inl ⟨rfl, rfl, rfl, hj1, hj2, rfl, .node k nm ag nu tk tks uk uks lb pl ks, l.length + 1, .z _, by omega, by simp only [pIs, hp, bindP_ok]⟩⟩ 4 (fun _ => rfl) (Nat.le_of_ble_eq_true rfl) ⟨⟨rfl, rfl, rfl, rfl, trivial⟩, rfl, rfl, ⟨[], rfl⟩, rfl⟩ (fun x => ?_)
    | refine AW.loop (ι := IsR l i (pIs l (pTerm l n) i)) (fun x => ⟨23, [(4, .c (.d (.int .i64 x.p))), (3, .c (.ptr 3 0)), (2, .c (.ptr 2 0)), (1, .c (.ptr 1 0))], [.var [.d (.sl 0 4 (wrows l)), .d (.int .i64 x.j), .d (.int .i64 x.e), .d (.int .i64 x.x), .d (.str x.w)], .var [.ptr 0 0], .var _, .var x.c], []⟩) (fun x => ldM l x.e x.j) ⟨_, j, e, x, w, placeW l j, .inr ⟨he, .mk _ _ _ _ _ _ _ _ _ _ _, by simp only [pIs, hp, bindP_bad]⟩⟩ 4 (fun _ => rfl) (Nat.le_of_ble_eq_true rfl) ⟨⟨rfl, rfl, rfl, rfl, trivial⟩, rfl, rfl, ⟨[], rfl⟩, rfl⟩ (fun x => ?_)
   
  all_goals
    clear hp
    obtain ⟨c, j0, e, x, w, p, h⟩ := x
    dsimp only
    rcases h with ⟨rfl, rfl, rfl, h1, h2, rfl, ⟨ak, anm, aag, anu, atk, atks, auk, auks, alb, apl, aks⟩, m, hc, h3, hx⟩ | ⟨he, hc, hx⟩
    · obtain ⟨m, rfl⟩ : ∃ q, m = q + 1 := ⟨m - 1, by omega⟩
      cases hc
      all_goals try simp only [Tm.cells, List.map_cons, List.map_nil]
      all_goals
        repeat' first | ((refine (A _ _ _ _).mono ?_; rintro _ _ ⟨rfl, rfl⟩; conv => whnf)) | ((refine (S _ _).mono ?_; rintro _ _ (⟨ht, hlt, rfl, rfl⟩ | ⟨ht, rfl, rfl⟩) <;> conv => whnf)) | ((refine (S' _ _ _ _ _ (by first | assumption | decide)).mono ?_; rintro _ _ ⟨rfl, rfl⟩; conv => whnf)) | ((refine (Y _ (by omega)).mono ?_; intro o σ hh; rcases rfR_cases hh with ⟨⟨ak', aks'⟩, j, hp, hj1, hj2, rfl, rfl⟩ | ⟨e, x, w, v, j, hp, he, ⟨gk, gks, rfl⟩, rfl, rfl⟩ <;> clear hh <;> conv => whnf)) | ((refine (Y' _ _ _ _ (by first | assumption | decide)).mono ?_; rintro _ _ ⟨rfl, rfl⟩; conv => whnf)) | refine AW.seq ?_ | refine AW.block ?_ | ((first | refine AW.region tab_ok ?_ | refine AW.cond ?_ | refine AW.skip ?_ | refine AW.ret ?_ | refine AW.exit ?_); conv => whnf) | ((first | refine And.intro (@rfl Val _) ?_ | refine And.intro (by decide) ?_ | refine cs (fun _ => ?_) (fun _ => ?_)) <;> conv => whnf)
      all_goals first
        | (clear A S S' Y Y' P hU
           rw [hx, isLoop, if_neg (by simp [*])]
           refine ⟨rfl, rfl, ?_, ?_⟩ <;> first | trivial | omega)
        | (exfalso; omega)
        | (refine ⟨⟨_, _, 0, 0, ⟨#[]⟩, _, .inl ⟨rfl, rfl, rfl, ?_, ?_, rfl, tn 16 s0 s0 0 (.node ak' aks') ty0 (placeW l j0) [.node ak anm aag anu atk atks auk auks alb apl aks], m, .n _ _ _ _ _ _ _ _ _ _, ?_, ?_⟩⟩, ⟨⟨rfl, rfl, rfl, rfl, trivial⟩, rfl, rfl, ⟨[_], rfl⟩, rfl⟩, ?_⟩
           · omega
           · omega
           · omega
           · clear A S S' Y Y' P hU
             rw [hx, isLoop, if_pos (show tkW l j0 4 ⟨#[58]⟩ = true by assumption)]
             simp only [*, bindP_ok]
           · show ldM l 0 j < ldM l 0 j0
             unfold ldM; rw [if_pos rfl, if_pos rfl]; omega)
        | (refine ⟨⟨_, _, 0, 0, ⟨#[]⟩, _, .inl ⟨rfl, rfl, rfl, ?_, ?_, rfl, tn 16 s0 s0 0 (.node ak' aks') ty0 (placeW l j0) [.node ak anm aag anu atk atks auk [] alb apl aks], m, .n _ _ _ _ _ _ _ _ _ _, ?_, ?_⟩⟩, ⟨⟨rfl, rfl, rfl, rfl, trivial⟩, rfl, rfl, ⟨[_], rfl⟩, rfl⟩, ?_⟩
           · omega
           · omega
           · omega
           · clear A S S' Y Y' P hU
             rw [hx, isLoop, if_pos (show tkW l j0 4 ⟨#[58]⟩ = true by assumption)]
             simp only [*, bindP_ok]
           · show ldM l 0 j < ldM l 0 j0
             unfold ldM; rw [if_pos rfl, if_pos rfl]; omega)
        | (refine ⟨⟨_, _, e, x, w, _, .inr ⟨he, .t _ _ _ _ _ _ _ _ _ _, ?_⟩⟩, ⟨⟨rfl, rfl, rfl, rfl, trivial⟩, rfl, rfl, ⟨[_], rfl⟩, rfl⟩, ?_⟩
           · clear A S S' Y Y' P hU
             rw [hx, isLoop, if_pos (show tkW l j0 4 ⟨#[58]⟩ = true by assumption)]
             simp only [mustP, *, if_true, if_false, bindP_bad, bindP_ok, Bool.false_eq_true, wbad]
           · show ldM l e _ < ldM l 0 j0
             unfold ldM; rw [if_neg he, if_pos rfl]; omega)
        | (refine ⟨⟨_, _, 40, _, _, _, .inr ⟨by decide, .t _ _ _ _ _ _ _ _ _ _, ?_⟩⟩, ⟨⟨rfl, rfl, rfl, rfl, trivial⟩, rfl, rfl, ⟨[_], rfl⟩, rfl⟩, ?_⟩
           · clear A S S' Y Y' P hU
             rw [hx, isLoop, if_pos (show tkW l j0 4 ⟨#[58]⟩ = true by assumption)]
             simp only [mustP, *, if_true, if_false, bindP_bad, bindP_ok, Bool.false_eq_true, wbad]
           · show ldM l 40 _ < ldM l 0 j0
             unfold ldM; rw [if_neg (by decide), if_pos rfl]; omega)
       
    · cases hc
      all_goals
        repeat' first | ((refine (A _ _ _ _).mono ?_; rintro _ _ ⟨rfl, rfl⟩; conv => whnf)) | ((refine (S' _ _ _ _ _ (by first | assumption | decide)).mono ?_; rintro _ _ ⟨rfl, rfl⟩; conv => whnf)) | refine AW.seq ?_ | refine AW.block ?_ | ((first | refine AW.region tab_ok ?_ | refine AW.cond ?_ | refine AW.skip ?_ | refine AW.ret ?_ | refine AW.exit ?_); conv => whnf) | ((first | refine And.intro (@rfl Val _) ?_ | refine And.intro (by decide) ?_ | refine cs (fun _ => ?_) (fun _ => ?_)) <;> conv => whnf)
      all_goals first
        | (rw [hx]; exact ⟨he, _, _, ⟨_, _, _, _, _, _, _, _, _, _, _, rfl⟩, rfl, rfl⟩)
       
end Go.Proofs.YtmaokphbfjpodaaGreatDoor.E

/- Walks: the document's reader: rec, split, term. No conditions. -/
set_option linter.unusedVariables false
set_option linter.unusedSimpArgs false
namespace Go.Proofs.YtmaokphbfjpodaaGreatDoor.E
open Go

theorem run_all (l : List Wd) (n : Nat) (hW : PTermR l n) (hl : l.length ≤ 1000000) : ∀ m, UnR l n m
  | 0, i, hi, hm, hn => absurd hm (Nat.not_lt_zero _)
  | m + 1, i, hi, hm, hn => run_step l n hW m (run_all l n hW hl m) hl i hi hm hn
theorem ris_all (l : List Wd) (n : Nat) (hW : PTermR l n) (hl : l.length ≤ 1000000) (i : Nat) (hi : i ≤ l.length) (hn : l.length - i < n + 1) :
    ACall Tryz.prog 93 [.agg [.ptr 0 0]] (rfO l i 0 0 ⟨#[]⟩) (rfR l Tm.val GTm i (pIs l (pTerm l n) i)) :=
  ris_ok l n (fun i hi hn => rcmp_ok l n (fun i hi hn => rsum4_ok l n (fun i hi hn => rmul4_ok l n (fun i hi hn => run_all l n hW hl (l.length + 1) i hi (by omega) hn) i hi hn hl) i hi hn hl) i hi hn hl) i hi hn hl
set_option maxRecDepth 10000 in
set_option maxHeartbeats 2000000 in
theorem rrec_ok (l : List Wd) (n : Nat) (hW : PTermR l n) (p : Int) (i : Nat) (hi : i ≤ l.length) (hn : l.length - i < n + 1) (hl : l.length ≤ 1000000) :
    ACall Tryz.prog 91 [.agg [.ptr 0 0], .c (.d (.int .i64 p))] (rfO l i 0 0 ⟨#[]⟩) (rfR l Tm.val GTm i (recP l (pTerm l n) p i)) := by
  have N := fun j hj => rname_ok l j hj hl
  have N' := fun j e x u he => rname_bad l j e x u he
  have Q := fun j s => rWant_ok l j s hl
  have Q' := fun j e x u s he => rWant_bad l j e x u s he
  have Y := fun j hj => rtyp_ok l j hj hl
  have Y' := fun j e x u he => rtyp_bad l j e x u hl he
  have W := hW
  have W' := fun j e x u he => rterm_bad l j e x u hl he
  unfold PTermR at W
  simp only [rfO, takeR, wantR, SVal] at N N' Q Q' Y Y' W W' ⊢
  refine ACall.body tab_ok (ρ := 0) (N := 40) Tryz.func91 rfl rfl rfl rfl rfl ?_
  repeat' first | ((refine (N _ (by omega)).mono ?_; intro o σ hh; rcases rfR_cases hh with ⟨x, j, hp, hj1, hj2, rfl, rfl⟩ | ⟨e, x, w, v, j, hp, he, ⟨gs, rfl⟩, rfl, rfl⟩ <;> clear hh <;> conv => whnf)) | ((refine (N' _ _ _ _ (by first | assumption | decide)).mono ?_; rintro _ _ ⟨rfl, rfl⟩; conv => whnf)) | ((refine (Q _ _).mono ?_; rintro _ _ (⟨ht, hlt, rfl, rfl⟩ | ⟨ht, rfl, rfl⟩) <;> conv => whnf)) | ((refine (Q' _ _ _ _ _ (by first | assumption | decide)).mono ?_; rintro _ _ ⟨rfl, rfl⟩; conv => whnf)) | ((refine (Y _ (by omega)).mono ?_; intro o σ hh; rcases rfR_cases hh with ⟨⟨ak, aks⟩, j, hp, hj1, hj2, rfl, rfl⟩ | ⟨e, x, w, v, j, hp, he, ⟨gk, gks, rfl⟩, rfl, rfl⟩ <;> clear hh <;> conv => whnf)) | ((refine (Y' _ _ _ _ (by first | assumption | decide)).mono ?_; rintro _ _ ⟨rfl, rfl⟩; conv => whnf)) | ((refine (W _ (by omega) (by omega)).mono ?_; intro o σ hh; rcases rfR_cases hh with ⟨⟨k, nm, ag, nu, tk, tks, uk, uks, lb, pl, ks⟩, j, hp, hj1, hj2, rfl, rfl⟩ | ⟨e, x, w, v, j, hp, he, ⟨gk, gnm, gag, gnu, gtk, gd1, guk, gd2, glb, gpl, gd3, rfl⟩, rfl, rfl⟩ <;> clear hh <;> conv => whnf)) | ((refine (W' _ _ _ _ (by first | assumption | decide)).mono ?_; rintro _ _ ⟨rfl, rfl⟩; conv => whnf)) | refine AW.seq ?_ | refine AW.block ?_ | ((first | refine AW.region tab_ok ?_ | refine AW.cond ?_ | refine AW.skip ?_ | refine AW.ret ?_ | refine AW.exit ?_); conv => whnf) | ((first | refine And.intro (@rfl Val _) ?_ | refine And.intro (by decide) ?_ | refine cs (fun _ => ?_) (fun _ => ?_)) <;> conv => whnf)
  all_goals
    clear N N' Q Q' Y Y' W W' hW
    try dsimp only at *
    try simp only [cond_true, cond_false, bne_iff_ne, ne_eq, beq_iff_eq, bne_eq_false_iff_eq, beq_eq_false_iff_ne, decide_eq_true_eq, decide_eq_false_iff_not] at *
    first
      | (exfalso; omega)
      | (simp only [recP, annP, mustP, wbad, *, if_true, if_false, bindP_ok, bindP_bad, Bool.false_eq_true]
         first
           | (refine ⟨rfl, rfl, ?_, ?_⟩ <;> first | trivial | omega)
           | exact ⟨(by first | assumption | decide), _, _, ⟨_, _, _, _, _, _, _, _, _, _, _, rfl⟩, rfl, rfl⟩
          )
set_option maxRecDepth 10000 in
set_option maxHeartbeats 2000000 in
theorem rsplit_ok (l : List Wd) (n : Nat) (hW : PTermR l n) (p : Int) (i : Nat) (hi : i ≤ l.length) (hn : l.length - i < n) (hl : l.length ≤ 1000000) :
    ACall Tryz.prog 92 [.agg [.ptr 0 0], .c (.d (.int .i64 p))] (rfO l i 0 0 ⟨#[]⟩) (rfR l Tm.val GTm i (caseP l (pTerm l n) p i)) := by
  have N := fun j hj => rname_ok l j hj hl
  have N' := fun j e x u he => rname_bad l j e x u he
  have Q := fun j s => rWant_ok l j s hl
  have Q' := fun j e x u s he => rWant_bad l j e x u s he
  have E := fun j s => rkey_ok l j s hl
  have E' := fun j e x u s he => rkey_bad l j e x u s he
  have W := hW
  have W' := fun j e x u he => rterm_bad l j e x u hl he
  unfold PTermR at W
  simp only [rfO, takeR, wantR, SVal] at N N' Q Q' E E' W W' ⊢
  refine ACall.body tab_ok (ρ := 0) (N := 40) Tryz.func92 rfl rfl rfl rfl rfl ?_
  repeat' first | ((refine (N _ (by omega)).mono ?_; intro o σ hh; rcases rfR_cases hh with ⟨x, j, hp, hj1, hj2, rfl, rfl⟩ | ⟨e, x, w, v, j, hp, he, ⟨gs, rfl⟩, rfl, rfl⟩ <;> clear hh <;> conv => whnf)) | ((refine (N' _ _ _ _ (by first | assumption | decide)).mono ?_; rintro _ _ ⟨rfl, rfl⟩; conv => whnf)) | ((refine (Q _ _).mono ?_; rintro _ _ (⟨ht, hlt, rfl, rfl⟩ | ⟨ht, rfl, rfl⟩) <;> conv => whnf)) | ((refine (Q' _ _ _ _ _ (by first | assumption | decide)).mono ?_; rintro _ _ ⟨rfl, rfl⟩; conv => whnf)) | ((refine (E _ _).mono ?_; rintro _ _ (⟨ht, hlt, rfl, rfl⟩ | ⟨ht, rfl, rfl⟩) <;> conv => whnf)) | ((refine (E' _ _ _ _ _ (by first | assumption | decide)).mono ?_; rintro _ _ ⟨rfl, rfl⟩; conv => whnf)) | ((refine (W _ (by omega) (by omega)).mono ?_; intro o σ hh; rcases rfR_cases hh with ⟨⟨k, nm, ag, nu, tk, tks, uk, uks, lb, pl, ks⟩, j, hp, hj1, hj2, rfl, rfl⟩ | ⟨e, x, w, v, j, hp, he, ⟨gk, gnm, gag, gnu, gtk, gd1, guk, gd2, glb, gpl, gd3, rfl⟩, rfl, rfl⟩ <;> clear hh <;> conv => whnf)) | ((refine (W' _ _ _ _ (by first | assumption | decide)).mono ?_; rintro _ _ ⟨rfl, rfl⟩; conv => whnf)) | refine AW.seq ?_ | refine AW.block ?_ | ((first | refine AW.region tab_ok ?_ | refine AW.cond ?_ | refine AW.skip ?_ | refine AW.ret ?_ | refine AW.exit ?_); conv => whnf) | ((first | refine And.intro (@rfl Val _) ?_ | refine And.intro (by decide) ?_ | refine cs (fun _ => ?_) (fun _ => ?_)) <;> conv => whnf)
  all_goals
    clear N N' Q Q' E E' W W' hW
    try dsimp only at *
    try simp only [cond_true, cond_false, bne_iff_ne, ne_eq, beq_iff_eq, bne_eq_false_iff_eq, beq_eq_false_iff_ne, decide_eq_true_eq, decide_eq_false_iff_not] at *
    first
      | (exfalso; omega)
      | (simp only [caseP, branchP, mustP, wbad, *, if_true, if_false, bindP_ok, bindP_bad, Bool.false_eq_true]
         first
           | (refine ⟨rfl, rfl, ?_, ?_⟩ <;> first | trivial | omega)
           | exact ⟨(by first | assumption | decide), _, _, ⟨_, _, _, _, _, _, _, _, _, _, _, rfl⟩, rfl, rfl⟩
          )
set_option maxRecDepth 10000 in
set_option maxHeartbeats 2000000 in
theorem rterm_step (l : List Wd) (n : Nat) (hW : PTermR l n) (hl : l.length ≤ 1000000) : PTermR l (n + 1) := by
  intro i hi hn
  have A := fun j e x u => rat_call l j e x u hl
  have S := fun j s => rSign_ok l j s hl
  have K := fun j s => rKey_ok l j s hl
  have N := fun j hj => rname_ok l j hj hl
  have N' := fun j e x u he => rname_bad l j e x u he
  have Q := fun j s => rWant_ok l j s hl
  have Q' := fun j e x u s he => rWant_bad l j e x u s he
  have E := fun j s => rkey_ok l j s hl
  have E' := fun j e x u s he => rkey_bad l j e x u s he
  have Y := fun j hj => rtyp_ok l j hj hl
  have Y' := fun j e x u he => rtyp_bad l j e x u hl he
  have B := fun p j hj hn => rrec_ok l n hW p j hj hn hl
  have C := fun p j hj hn => rsplit_ok l n hW p j hj hn hl
  have G := fun j hj hn => ris_all l n hW hl j hj hn
  have W := hW
  have W' := fun j e x u he => rterm_bad l j e x u hl he
  unfold PTermR at W
  simp only [rfO, takeR, wantR, SVal] at A S K N N' Q Q' E E' Y Y' B C G W W' ⊢
  refine ACall.body tab_ok (ρ := 0) (N := 101) Tryz.func41 rfl rfl rfl rfl rfl ?_
  repeat' first | ((refine (A _ _ _ _).mono ?_; rintro _ _ ⟨rfl, rfl⟩; conv => whnf)) | ((refine (S _ _).mono ?_; rintro _ _ (⟨ht, hlt, rfl, rfl⟩ | ⟨ht, rfl, rfl⟩) <;> conv => whnf)) | ((refine (K _ _).mono ?_; rintro _ _ (⟨ht, hlt, rfl, rfl⟩ | ⟨ht, rfl, rfl⟩) <;> conv => whnf)) | ((refine (N _ (by omega)).mono ?_; intro o σ hh; rcases rfR_cases hh with ⟨x, j, hp, hj1, hj2, rfl, rfl⟩ | ⟨e, x, w, v, j, hp, he, ⟨gs, rfl⟩, rfl, rfl⟩ <;> clear hh <;> conv => whnf)) | ((refine (N' _ _ _ _ (by first | assumption | decide)).mono ?_; rintro _ _ ⟨rfl, rfl⟩; conv => whnf)) | ((refine (Q _ _).mono ?_; rintro _ _ (⟨ht, hlt, rfl, rfl⟩ | ⟨ht, rfl, rfl⟩) <;> conv => whnf)) | ((refine (Q' _ _ _ _ _ (by first | assumption | decide)).mono ?_; rintro _ _ ⟨rfl, rfl⟩; conv => whnf)) | ((refine (E _ _).mono ?_; rintro _ _ (⟨ht, hlt, rfl, rfl⟩ | ⟨ht, rfl, rfl⟩) <;> conv => whnf)) | ((refine (E' _ _ _ _ _ (by first | assumption | decide)).mono ?_; rintro _ _ ⟨rfl, rfl⟩; conv => whnf)) | ((refine (Y _ (by omega)).mono ?_; intro o σ hh; rcases rfR_cases hh with ⟨⟨ak, aks⟩, j, hp, hj1, hj2, rfl, rfl⟩ | ⟨e, x, w, v, j, hp, he, ⟨gk, gks, rfl⟩, rfl, rfl⟩ <;> clear hh <;> conv => whnf)) | ((refine (Y' _ _ _ _ (by first | assumption | decide)).mono ?_; rintro _ _ ⟨rfl, rfl⟩; conv => whnf)) | ((refine (B _ _ (by omega) (by omega)).mono ?_; intro o σ hh; rcases rfR_cases hh with ⟨⟨k, nm, ag, nu, tk, tks, uk, uks, lb, pl, ks⟩, j, hp, hj1, hj2, rfl, rfl⟩ | ⟨e, x, w, v, j, hp, he, ⟨gk, gnm, gag, gnu, gtk, gd1, guk, gd2, glb, gpl, gd3, rfl⟩, rfl, rfl⟩ <;> clear hh <;> conv => whnf)) | ((refine (C _ _ (by omega) (by omega)).mono ?_; intro o σ hh; rcases rfR_cases hh with ⟨⟨k, nm, ag, nu, tk, tks, uk, uks, lb, pl, ks⟩, j, hp, hj1, hj2, rfl, rfl⟩ | ⟨e, x, w, v, j, hp, he, ⟨gk, gnm, gag, gnu, gtk, gd1, guk, gd2, glb, gpl, gd3, rfl⟩, rfl, rfl⟩ <;> clear hh <;> conv => whnf)) | ((refine (G _ (by omega) (by omega)).mono ?_; intro o σ hh; rcases rfR_cases hh with ⟨⟨k, nm, ag, nu, tk, tks, uk, uks, lb, pl, ks⟩, j, hp, hj1, hj2, rfl, rfl⟩ | ⟨e, x, w, v, j, hp, he, ⟨gk, gnm, gag, gnu, gtk, gd1, guk, gd2, glb, gpl, gd3, rfl⟩, rfl, rfl⟩ <;> clear hh <;> conv => whnf)) | ((refine (W _ (by omega) (by omega)).mono ?_; intro o σ hh; rcases rfR_cases hh with ⟨⟨k, nm, ag, nu, tk, tks, uk, uks, lb, pl, ks⟩, j, hp, hj1, hj2, rfl, rfl⟩ | ⟨e, x, w, v, j, hp, he, ⟨gk, gnm, gag, gnu, gtk, gd1, guk, gd2, glb, gpl, gd3, rfl⟩, rfl, rfl⟩ <;> clear hh <;> conv => whnf)) | ((refine (W' _ _ _ _ (by first | assumption | decide)).mono ?_; rintro _ _ ⟨rfl, rfl⟩; conv => whnf)) | refine AW.seq ?_ | refine AW.block ?_ | ((first | refine AW.region tab_ok ?_ | refine AW.cond ?_ | refine AW.skip ?_ | refine AW.ret ?_ | refine AW.exit ?_); conv => whnf) | ((first | refine And.intro (@rfl Val _) ?_ | refine And.intro (by decide) ?_ | refine cs (fun _ => ?_) (fun _ => ?_)) <;> conv => whnf)
  all_goals
    clear A S K N N' Q Q' E E' Y Y' B C G W W' hW
    try dsimp only at *
    try simp only [cond_true, cond_false, bne_iff_ne, ne_eq, beq_iff_eq, bne_eq_false_iff_eq, beq_eq_false_iff_ne, decide_eq_true_eq, decide_eq_false_iff_not] at *
    first
      | (exfalso; omega)
      | (simp only [pTerm, pStep, lamP, letP, ifP, annP, mustP, wbad, *, if_true, if_false, bindP_ok, bindP_bad, Bool.false_eq_true]
         first
           | (refine ⟨rfl, rfl, ?_, ?_⟩ <;> first | trivial | omega)
           | exact ⟨(by first | assumption | decide), _, _, ⟨_, _, _, _, _, _, _, _, _, _, _, rfl⟩, rfl, rfl⟩
          )
theorem rterm_ok (l : List Wd) (hl : l.length ≤ 1000000) : ∀ n, PTermR l n
  | 0, i, hi, hn => absurd hn (Nat.not_lt_zero _)
  | n + 1, i, hi, hn => rterm_step l n (rterm_ok l hl n) hl i hi hn
end Go.Proofs.YtmaokphbfjpodaaGreatDoor.E

/- The scanner and the reader of texts in plain Lean. No conditions. -/
set_option linter.unusedVariables false
set_option linter.unusedSimpArgs false
namespace Go.Proofs.YtmaokphbfjpodaaGreatDoor.E
open Go

/-- How many bytes are blanks and remarks (true: in a remark). -/
def skipL : Bool → List UInt8 → Nat
  | _, [] => 0
  | r, c :: l => if c = 10 then 1 + skipL false l else if r = true then 1 + skipL true l else if c = 32 ∨ c = 9 ∨ c = 13 then 1 + skipL false l else if c = 35 then 1 + skipL true l else 0
/-- How many bytes are digits, or letters too. -/
def spanL (letters : Bool) : List UInt8 → Nat
  | [] => 0
  | c :: l => if digitF c.toNat || (letters && letterF c.toNat) then 1 + spanL letters l else 0
/-- A number's value, if it is below 2^63. -/
def numL : Nat → List UInt8 → Option Nat
  | n, [] => some n
  | n, c :: l => if n > (9223372036854775807 - (c.toNat - 48)) / 10 then none else numL (n * 10 + (c.toNat - 48)) l
def signsF : List UInt8 := [92, 46, 58, 61, 40, 41, 91, 93, 123, 125, 44, 124, 43, 42, 47, 60, 62, 63, 59]
/-- The word that begins here, or the fault: error and word. -/
def wordL (p : Nat) (s : List UInt8) : Except (Int × ByteArray) Wd := match s with
  | [] => .error (10, s0)
  | c :: l =>
    if letterF c.toNat then
      let w : ByteArray := ⟨(s.take (spanL true s)).toArray⟩
      if w.size > 64 then .error (3, w) else if keyF w then .ok ⟨3, w, 0, p⟩ else .ok ⟨1, w, 0, p⟩
    else if digitF c.toNat then
      let n := spanL false s
      let w : ByteArray := ⟨(s.take n).toArray⟩
      match numL 0 (s.take n) with
      | none => .error (3, w)
      | some v => if (n > 1 ∧ c = 48) ∨ (match s.drop n with | d :: _ => letterF d.toNat | [] => false) = true then .error (10, w) else .ok ⟨2, w, v, p⟩
    else if c = 45 then (match l with | 62 :: _ => .ok ⟨4, ⟨#[45, 62]⟩, 0, p⟩ | _ => .ok ⟨4, ⟨#[45]⟩, 0, p⟩)
    else if c ∈ signsF then .ok ⟨4, ⟨#[c]⟩, 0, p⟩
    else .error (10, ⟨#[c]⟩)
/-- From place p on. -/
def scanL : Nat → Nat → List UInt8 → Except (Int × Int × ByteArray) (List Wd)
  | 0, p, s => .ok []
  | n + 1, p, s =>
    let k := skipL false s
    let s := s.drop k
    match s with
    | [] => .ok []
    | _ => match wordL (p + k) s with
      | .error (e, w) => .error (e, (p + k : Nat), w)
      | .ok w => match scanL n (p + k + w.text.size) (s.drop w.text.size) with
        | .error x => .error x
        | .ok l => .ok (w :: l)
/-- scan.All. -/
def scanF (s : ByteArray) : Except (Int × Int × ByteArray) (List Wd) :=
  if s.size > 65536 then .error (3, 0, s0) else match scanL (s.size + 1) 0 s.data.toList with
    | .error x => .error x
    | .ok l => .ok (l ++ [⟨0, s0, 0, s.size⟩])
/-- parse.Term. -/
def readF (s : ByteArray) : Except (Int × Int × ByteArray) Tm := match scanF s with
  | .error x => .error x
  | .ok l => match wordsP l with
    | .bad e a w => .error (e, a, w)
    | .ok t j => match l[j]? with
      | some w => if w.kind = 0 then .ok t else .error (40, w.place, w.text)
      | none => .error (0, 0, s0)
end Go.Proofs.YtmaokphbfjpodaaGreatDoor.E
