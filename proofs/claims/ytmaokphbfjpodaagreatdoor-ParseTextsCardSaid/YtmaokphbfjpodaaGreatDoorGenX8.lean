/- Texts, merged: Pp4, Pp5, Pp6, Pp7, Pp8. No conditions. -/
import Derived.Test.YtmaokphbfjpodaaGreatDoorGenX7
/- Walks: parse.reader: op. No conditions. -/
set_option linter.unusedVariables false
set_option linter.unusedSimpArgs false
namespace Go.Proofs.YtmaokphbfjpodaaGreatDoor.E
open Go

def mpO (a b : ByteArray) : AObj := .mp .str 2 [(0, .str a, .int .i8 15), (1, .str b, .int .i8 15)]
def rdm (l : List Wd) (i : Nat) (a b : ByteArray) : List AObj := [.var [.d (.sl 0 4 (wrows l)), .d (.int .i64 i)], mpO a b]
/-- What op tells. -/
def opR (l : List Wd) (part : Nat → PR Tm) (a b : ByteArray) (t : Tm) (i : Nat) (o : Out) (σ : List AObj) : Prop :=
  (isOp l [a, b] i = false ∧ o = .ret (.tup [t.val, .c (.d (.bool false))]) ∧ σ = rdm l i a b) ∨
  (isOp l [a, b] i = true ∧ i < l.length ∧ ∃ u j, opP l part t i = .ok u j ∧ i < j ∧ j ≤ l.length ∧ o = .ret (.tup [u.val, .c (.d (.bool true))]) ∧ σ = rdm l j a b) ∨
  (isOp l [a, b] i = true ∧ ∃ e x w j, opP l part t i = .bad e x w ∧ j ≤ l.length ∧ o = .pan (panF e x w) ∧ σ = rdm l j a b)
set_option maxRecDepth 10000 in
set_option maxHeartbeats 2000000 in
theorem pop_call (l : List Wd) (n q : Nat) (hq : q = 164 ∨ q = 157 ∨ q = 143) (part : Nat → PR Tm) (hP : ∀ i, i ≤ l.length → l.length - i < n → ACall Tryz.prog q [.c (.ptr 0 0)] (rdObj l i) (prR l Tm.val i (part i))) (a b : ByteArray) (hab : a.size = 1 ∧ b.size = 1)
    (t : Tm) (i : Nat) (hi : i ≤ l.length) (hn : l.length - i < n) (hl : l.length ≤ 1000000) :
    ACall Tryz.prog 142 [.c (.ptr 0 0), t.val, .c (.mp 1), .c (.fn q [.ptr 0 0] [])] (rdm l i a b) (opR l part a b t i) := by
  have P := hP
  have N := fun j hj => pnext_split l j hj hl
  have ea : a ≠ ⟨#[]⟩ := fun h => by rw [h] at hab; exact absurd hab.1 (by decide)
  have eb : b ≠ ⟨#[]⟩ := fun h => by rw [h] at hab; exact absurd hab.2 (by decide)
  obtain ⟨tk0, tnm, tag, tnu, ttk, ttks, tuk, tuks, tlb, tpl, tks0⟩ := t
  unfold rdm mpO
  simp only [rdObj] at N P ⊢
  rcases hq with rfl | rfl | rfl
  all_goals refine ACall.body tab_ok (ρ := 0) (N := 47) Tryz.func142 rfl rfl rfl rfl rfl ?_
  all_goals
    repeat' first | ((refine (N _ (by omega)).mono ?_; rintro _ _ (⟨⟨wk, wt, wn, wp⟩, hw, hlt, rfl, rfl⟩ | ⟨hw, hge, rfl, rfl⟩) <;> conv => whnf)) | ((rw [wrap1 (by omega)]; refine (P _ (by omega) (by omega)).mono ?_; intro o σ hh; rcases prR_cases hh with ⟨⟨k, nm, ag, nu, tk, tks, uk, uks, lb, pl, ks⟩, j, hp, hj1, hj2, rfl, rfl⟩ | ⟨e, x, w, j, hp, hj2, rfl, rfl⟩ <;> clear hh <;> conv => whnf)) | refine AW.seq ?_ | refine AW.block ?_ | (refine (_root_.id : AW _ _ _ (.region 6 _ true) _ _ → _) ?_; refine AW.draw (id := 6) tab_ok mixed [0, 1, 2, 3, 4, 5, 6, 7, 8, 9, 10, 11] (by kernel_rfl) ?_; conv => whnf) | ((first | refine AW.region tab_ok ?_ | refine AW.cond ?_ | refine AW.skip ?_ | refine AW.ret ?_ | refine AW.exit ?_); conv => whnf) | ((first | refine And.intro (@rfl Val _) ?_ | refine And.intro (by decide) ?_ | refine cs (fun _ => ?_) (fun _ => ?_)) <;> conv => whnf)
  all_goals
    clear N P hP
    have dv : ∀ x y : ByteArray, dvEq (.str x) (.str y) = decide (x = y) := fun _ _ => rfl
    simp only [dv, cond_false, bne_iff_ne, ne_eq, beq_iff_eq, bne_eq_false_iff_eq, decide_eq_true_eq, decide_eq_false_iff_not] at *
    first
      | (exfalso; simp_all; done)
      | exact .inl ⟨by simp_all [isOp, tkW], rfl, rfl⟩
      | exact .inr (.inl ⟨by simp_all [isOp, tkW], by omega, tn 15 wt s0 0 ty0 ty0 wp [.node tk0 tnm tag tnu ttk ttks tuk tuks tlb tpl tks0, .node k nm ag nu tk tks uk uks lb pl ks], j, by simp only [opP, hp, bindP_ok, textW, placeW, hw], by omega, hj2, rfl, rfl⟩)
      | exact .inr (.inr ⟨by simp_all [isOp, tkW], e, x, w, j, by simp only [opP, hp, bindP_bad], hj2, rfl, rfl⟩)
     
end Go.Proofs.YtmaokphbfjpodaaGreatDoor.E

/- Walks: parse.reader: mul, sum, cmp. No conditions. -/
set_option linter.unusedVariables false
set_option linter.unusedSimpArgs false
namespace Go.Proofs.YtmaokphbfjpodaaGreatDoor.E
open Go

theorem mput_one {q y : DV} {X : Nat → List (Nat × DV × DV) → Prop} (h : X 1 [(0, q, y)]) : mput q y [] 0 X := ⟨h⟩
theorem mput_two {q y q0 y0 : DV} {X : Nat → List (Nat × DV × DV) → Prop} (hq : dvEq q q0 = false) (h : X 2 [(0, q0, y0), (1, q, y)]) : mput q y [(0, q0, y0)] 1 X := ⟨by simp only [mputD, mget, hq]; exact h⟩
structure MuI (l : List Wd) (part : Nat → PR Tm) (ops : List ByteArray) (i : Nat) (r : PR Tm) where
  a : Tm
  j : Nat
  ok : Bool
  h1 : i < j
  h2 : j ≤ l.length
  h : (ok = true ∧ ∃ m, l.length - j < m ∧ r = opLoop l part ops m a j) ∨ (ok = false ∧ r = .ok a j)
def meas (l : List Wd) (j : Nat) (ok : Bool) : Nat := 2 * (l.length - j) + (if ok = true then 1 else 0)
set_option maxRecDepth 10000 in
set_option maxHeartbeats 2000000 in
theorem pmul_call (l : List Wd) (n : Nat) (hU : ∀ i, i ≤ l.length → l.length - i < n + 1 → ACall Tryz.prog 164 [.c (.ptr 0 0)] (rdObj l i) (prR l Tm.val i (pU l (pTerm l n) i))) (i : Nat) (hi : i ≤ l.length) (hn : l.length - i < n + 1) (hl : l.length ≤ 1000000) :
    ACall Tryz.prog 157 [.c (.ptr 0 0)] (rdObj l i) (prR l Tm.val i (pMul l (pTerm l n) i)) := by
  have U := hU
  have O := fun t j hj hn => pop_call l (n + 1) 164 (.inl rfl) (pU l (pTerm l n)) hU ⟨#[42]⟩ ⟨#[47]⟩ ⟨rfl, rfl⟩ t j hj hn hl
  simp only [rdObj, rdm, mpO] at U O ⊢
  refine ACall.body tab_ok (ρ := 0) (N := 19) Tryz.func157 rfl rfl rfl rfl rfl ?_
  repeat' first | ((refine (U _ (by omega) (by omega)).mono ?_; intro o σ hh; rcases prR_cases hh with ⟨⟨k, nm, ag, nu, tk, tks, uk, uks, lb, pl, ks⟩, j, hp, hj1, hj2, rfl, rfl⟩ | ⟨e, x, w, j, hp, hj2, rfl, rfl⟩ <;> clear hh <;> conv => whnf)) | refine AW.seq ?_ | refine AW.block ?_ | ((first | refine AW.region tab_ok ?_ | refine AW.cond ?_ | refine AW.skip ?_ | refine AW.ret ?_ | refine AW.exit ?_); conv => whnf) | ((first | refine And.intro (@rfl Val _) ?_ | refine And.intro (by decide) ?_ | refine cs (fun _ => ?_) (fun _ => ?_)) <;> conv => whnf)
  any_goals
    (refine AW.loop (ι := MuI l (pU l (pTerm l n)) [⟨#[42]⟩, ⟨#[47]⟩] i (pMul l (pTerm l n) i)) (fun x => ⟨19, [(4, .c (.d (.bool x.ok))), (3, .c (.ptr 2 0)), (2, .c (.ptr 1 0)), (0, .c (.ptr 0 0))], [.var [.d (.sl 0 4 (wrows l)), .d (.int .i64 x.j)], .var _, .var (x.a.cells.map .d)], []⟩) (fun x => meas l x.j x.ok) ⟨.node k nm ag nu tk tks uk uks lb pl ks, j, true, hj1, hj2, .inl ⟨rfl, l.length + 1, by omega, by simp only [pMul, hp, bindP_ok]⟩⟩ 3 (fun _ => rfl) (Nat.le_of_ble_eq_true rfl) ⟨⟨rfl, rfl, rfl, rfl, trivial⟩, rfl, rfl, ⟨[], rfl⟩, rfl⟩ (fun x => ?_)
     obtain ⟨⟨ak, anm, aag, anu, atk, atks, auk, auks, alb, apl, aks⟩, j0, ok, h1, h2, h⟩ := x
     dsimp only
     try simp only [Tm.cells, List.map_cons, List.map_nil]
     rcases h with ⟨rfl, m, h3, hx⟩ | ⟨rfl, hx⟩
     all_goals
       repeat' first | ((refine mput_one ?_; conv => whnf)) | ((refine mput_two rfl ?_; conv => whnf)) | ((refine (O (.node ak anm aag anu atk atks auk auks alb apl aks) _ (by omega) (by omega)).mono ?_; rintro _ _ (⟨ho, rfl, rfl⟩ | ⟨ho, hlt, ⟨k, nm, ag, nu, tk, tks, uk, uks, lb, pl, ks⟩, j, hp, hj1, hj2, rfl, rfl⟩ | ⟨ho, e, x, w, j, hp, hj2, rfl, rfl⟩) <;> conv => whnf)) | refine AW.seq ?_ | refine AW.block ?_ | ((first | refine AW.region tab_ok ?_ | refine AW.cond ?_ | refine AW.skip ?_ | refine AW.ret ?_ | refine AW.exit ?_); conv => whnf) | ((first | refine And.intro (@rfl Val _) ?_ | refine And.intro (by decide) ?_ | refine cs (fun _ => ?_) (fun _ => ?_)) <;> conv => whnf)
     all_goals first
       | (clear U O
          rw [hx]
          refine ⟨rfl, rfl, ?_, ?_⟩ <;> first | trivial | omega)
       | (obtain ⟨m, rfl⟩ : ∃ q, m = q + 1 := ⟨m - 1, by omega⟩
          clear U O
          rw [opLoop, if_pos ho, hp, bindP_bad] at hx
          rw [hx]
          exact ⟨rfl, _, hj2, rfl⟩)
       | (obtain ⟨m, rfl⟩ : ∃ q, m = q + 1 := ⟨m - 1, by omega⟩
          clear U O
          rw [opLoop, if_pos ho, hp, bindP_ok] at hx
          refine ⟨⟨.node k nm ag nu tk tks uk uks lb pl ks, j, true, by omega, hj2, .inl ⟨rfl, m, by omega, hx⟩⟩, ⟨⟨rfl, rfl, rfl, rfl, trivial⟩, rfl, rfl, ⟨[_], rfl⟩, rfl⟩, ?_⟩
          show meas l j true < meas l j0 true
          unfold meas; omega)
       | (obtain ⟨m, rfl⟩ : ∃ q, m = q + 1 := ⟨m - 1, by omega⟩
          clear U O
          rw [opLoop, if_neg (by rw [ho]; decide)] at hx
          refine ⟨⟨.node ak anm aag anu atk atks auk auks alb apl aks, j0, false, h1, h2, .inr ⟨rfl, hx⟩⟩, ⟨⟨rfl, rfl, rfl, rfl, trivial⟩, rfl, rfl, ⟨[_], rfl⟩, rfl⟩, ?_⟩
          show meas l j0 false < meas l j0 true
          unfold meas; simp)
      )
  all_goals first
    | (clear U O
       try dsimp only at *
       try simp only [bne_iff_ne, ne_eq, beq_iff_eq, bne_eq_false_iff_eq, beq_eq_false_iff_ne, decide_eq_true_eq, decide_eq_false_iff_not] at *
       first
         | (exfalso; omega)
         | (simp only [pMul, wbad, *, if_true, if_false, bindP_ok, bindP_bad, Bool.false_eq_true]
            first
              | (refine ⟨rfl, rfl, ?_, ?_⟩ <;> first | trivial | omega)
              | exact ⟨rfl, _, by first | assumption | omega, rfl⟩
             ))
set_option maxRecDepth 10000 in
set_option maxHeartbeats 2000000 in
theorem psum_call (l : List Wd) (n : Nat) (hU : ∀ i, i ≤ l.length → l.length - i < n + 1 → ACall Tryz.prog 157 [.c (.ptr 0 0)] (rdObj l i) (prR l Tm.val i (pMul l (pTerm l n) i))) (i : Nat) (hi : i ≤ l.length) (hn : l.length - i < n + 1) (hl : l.length ≤ 1000000) :
    ACall Tryz.prog 143 [.c (.ptr 0 0)] (rdObj l i) (prR l Tm.val i (pSum l (pTerm l n) i)) := by
  have U := hU
  have O := fun t j hj hn => pop_call l (n + 1) 157 (.inr (.inl rfl)) (pMul l (pTerm l n)) hU ⟨#[43]⟩ ⟨#[45]⟩ ⟨rfl, rfl⟩ t j hj hn hl
  simp only [rdObj, rdm, mpO] at U O ⊢
  refine ACall.body tab_ok (ρ := 0) (N := 19) Tryz.func143 rfl rfl rfl rfl rfl ?_
  repeat' first | ((refine (U _ (by omega) (by omega)).mono ?_; intro o σ hh; rcases prR_cases hh with ⟨⟨k, nm, ag, nu, tk, tks, uk, uks, lb, pl, ks⟩, j, hp, hj1, hj2, rfl, rfl⟩ | ⟨e, x, w, j, hp, hj2, rfl, rfl⟩ <;> clear hh <;> conv => whnf)) | refine AW.seq ?_ | refine AW.block ?_ | ((first | refine AW.region tab_ok ?_ | refine AW.cond ?_ | refine AW.skip ?_ | refine AW.ret ?_ | refine AW.exit ?_); conv => whnf) | ((first | refine And.intro (@rfl Val _) ?_ | refine And.intro (by decide) ?_ | refine cs (fun _ => ?_) (fun _ => ?_)) <;> conv => whnf)
  any_goals
    (refine AW.loop (ι := MuI l (pMul l (pTerm l n)) [⟨#[43]⟩, ⟨#[45]⟩] i (pSum l (pTerm l n) i)) (fun x => ⟨19, [(4, .c (.d (.bool x.ok))), (3, .c (.ptr 2 0)), (2, .c (.ptr 1 0)), (0, .c (.ptr 0 0))], [.var [.d (.sl 0 4 (wrows l)), .d (.int .i64 x.j)], .var _, .var (x.a.cells.map .d)], []⟩) (fun x => meas l x.j x.ok) ⟨.node k nm ag nu tk tks uk uks lb pl ks, j, true, hj1, hj2, .inl ⟨rfl, l.length + 1, by omega, by simp only [pSum, hp, bindP_ok]⟩⟩ 3 (fun _ => rfl) (Nat.le_of_ble_eq_true rfl) ⟨⟨rfl, rfl, rfl, rfl, trivial⟩, rfl, rfl, ⟨[], rfl⟩, rfl⟩ (fun x => ?_)
     obtain ⟨⟨ak, anm, aag, anu, atk, atks, auk, auks, alb, apl, aks⟩, j0, ok, h1, h2, h⟩ := x
     dsimp only
     try simp only [Tm.cells, List.map_cons, List.map_nil]
     rcases h with ⟨rfl, m, h3, hx⟩ | ⟨rfl, hx⟩
     all_goals
       repeat' first | ((refine mput_one ?_; conv => whnf)) | ((refine mput_two rfl ?_; conv => whnf)) | ((refine (O (.node ak anm aag anu atk atks auk auks alb apl aks) _ (by omega) (by omega)).mono ?_; rintro _ _ (⟨ho, rfl, rfl⟩ | ⟨ho, hlt, ⟨k, nm, ag, nu, tk, tks, uk, uks, lb, pl, ks⟩, j, hp, hj1, hj2, rfl, rfl⟩ | ⟨ho, e, x, w, j, hp, hj2, rfl, rfl⟩) <;> conv => whnf)) | refine AW.seq ?_ | refine AW.block ?_ | ((first | refine AW.region tab_ok ?_ | refine AW.cond ?_ | refine AW.skip ?_ | refine AW.ret ?_ | refine AW.exit ?_); conv => whnf) | ((first | refine And.intro (@rfl Val _) ?_ | refine And.intro (by decide) ?_ | refine cs (fun _ => ?_) (fun _ => ?_)) <;> conv => whnf)
     all_goals first
       | (clear U O
          rw [hx]
          refine ⟨rfl, rfl, ?_, ?_⟩ <;> first | trivial | omega)
       | (obtain ⟨m, rfl⟩ : ∃ q, m = q + 1 := ⟨m - 1, by omega⟩
          clear U O
          rw [opLoop, if_pos ho, hp, bindP_bad] at hx
          rw [hx]
          exact ⟨rfl, _, hj2, rfl⟩)
       | (obtain ⟨m, rfl⟩ : ∃ q, m = q + 1 := ⟨m - 1, by omega⟩
          clear U O
          rw [opLoop, if_pos ho, hp, bindP_ok] at hx
          refine ⟨⟨.node k nm ag nu tk tks uk uks lb pl ks, j, true, by omega, hj2, .inl ⟨rfl, m, by omega, hx⟩⟩, ⟨⟨rfl, rfl, rfl, rfl, trivial⟩, rfl, rfl, ⟨[_], rfl⟩, rfl⟩, ?_⟩
          show meas l j true < meas l j0 true
          unfold meas; omega)
       | (obtain ⟨m, rfl⟩ : ∃ q, m = q + 1 := ⟨m - 1, by omega⟩
          clear U O
          rw [opLoop, if_neg (by rw [ho]; decide)] at hx
          refine ⟨⟨.node ak anm aag anu atk atks auk auks alb apl aks, j0, false, h1, h2, .inr ⟨rfl, hx⟩⟩, ⟨⟨rfl, rfl, rfl, rfl, trivial⟩, rfl, rfl, ⟨[_], rfl⟩, rfl⟩, ?_⟩
          show meas l j0 false < meas l j0 true
          unfold meas; simp)
      )
  all_goals first
    | (clear U O
       try dsimp only at *
       try simp only [bne_iff_ne, ne_eq, beq_iff_eq, bne_eq_false_iff_eq, beq_eq_false_iff_ne, decide_eq_true_eq, decide_eq_false_iff_not] at *
       first
         | (exfalso; omega)
         | (simp only [pSum, wbad, *, if_true, if_false, bindP_ok, bindP_bad, Bool.false_eq_true]
            first
              | (refine ⟨rfl, rfl, ?_, ?_⟩ <;> first | trivial | omega)
              | exact ⟨rfl, _, by first | assumption | omega, rfl⟩
             ))
set_option maxRecDepth 10000 in
set_option maxHeartbeats 2000000 in
theorem pcmp_call (l : List Wd) (n : Nat) (hU : ∀ i, i ≤ l.length → l.length - i < n + 1 → ACall Tryz.prog 143 [.c (.ptr 0 0)] (rdObj l i) (prR l Tm.val i (pSum l (pTerm l n) i))) (i : Nat) (hi : i ≤ l.length) (hn : l.length - i < n + 1) (hl : l.length ≤ 1000000) :
    ACall Tryz.prog 117 [.c (.ptr 0 0)] (rdObj l i) (prR l Tm.val i (pCmp l (pTerm l n) i)) := by
  have U := hU
  have O := fun t j hj hn => pop_call l (n + 1) 143 (.inr (.inr rfl)) (pSum l (pTerm l n)) hU ⟨#[60]⟩ ⟨#[61]⟩ ⟨rfl, rfl⟩ t j hj hn hl
  simp only [rdObj, rdm, mpO] at U O ⊢
  refine ACall.body tab_ok (ρ := 0) (N := 17) Tryz.func117 rfl rfl rfl rfl rfl ?_
  repeat' first | ((refine (U _ (by omega) (by omega)).mono ?_; intro o σ hh; rcases prR_cases hh with ⟨⟨ak, anm, aag, anu, atk, atks, auk, auks, alb, apl, aks⟩, j, hp, hj1, hj2, rfl, rfl⟩ | ⟨e, x, w, j, hp, hj2, rfl, rfl⟩ <;> clear hh <;> conv => whnf)) | ((refine mput_one ?_; conv => whnf)) | ((refine mput_two rfl ?_; conv => whnf)) | ((refine (O (.node ak anm aag anu atk atks auk auks alb apl aks) _ (by omega) (by omega)).mono ?_; rintro _ _ (⟨ho, rfl, rfl⟩ | ⟨ho, hlt, ⟨k, nm, ag, nu, tk, tks, uk, uks, lb, pl, ks⟩, j, hp, hj1, hj2, rfl, rfl⟩ | ⟨ho, e, x, w, j, hp, hj2, rfl, rfl⟩) <;> conv => whnf)) | refine AW.seq ?_ | refine AW.block ?_ | ((first | refine AW.region tab_ok ?_ | refine AW.cond ?_ | refine AW.skip ?_ | refine AW.ret ?_ | refine AW.exit ?_); conv => whnf) | ((first | refine And.intro (@rfl Val _) ?_ | refine And.intro (by decide) ?_ | refine cs (fun _ => ?_) (fun _ => ?_)) <;> conv => whnf)
  all_goals first
    | (clear U O
       try dsimp only at *
       try simp only [bne_iff_ne, ne_eq, beq_iff_eq, bne_eq_false_iff_eq, beq_eq_false_iff_ne, decide_eq_true_eq, decide_eq_false_iff_not] at *
       first
         | (exfalso; omega)
         | (simp only [pCmp, wbad, *, if_true, if_false, bindP_ok, bindP_bad, Bool.false_eq_true]
            first
              | (refine ⟨rfl, rfl, ?_, ?_⟩ <;> first | trivial | omega)
              | exact ⟨rfl, _, by first | assumption | omega, rfl⟩
             ))
end Go.Proofs.YtmaokphbfjpodaaGreatDoor.E

/- Walks: parse.reader: is, term. No conditions. -/
set_option linter.unusedVariables false
set_option linter.unusedSimpArgs false
namespace Go.Proofs.YtmaokphbfjpodaaGreatDoor.E
open Go

structure IsI (l : List Wd) (i : Nat) (r : PR Tm) where
  a : Tm
  c : List AV
  hc : VC2 a c
  j : Nat
  m : Nat
  h1 : i < j
  h2 : j ≤ l.length
  h3 : l.length - j < m
  h : r = isLoop l m a j
set_option maxRecDepth 10000 in
set_option maxHeartbeats 2000000 in
theorem pis_call (l : List Wd) (n : Nat) (hU : ∀ i, i ≤ l.length → l.length - i < n + 1 → ACall Tryz.prog 117 [.c (.ptr 0 0)] (rdObj l i) (prR l Tm.val i (pCmp l (pTerm l n) i))) (i : Nat) (hi : i ≤ l.length) (hn : l.length - i < n + 1) (hl : l.length ≤ 1000000) :
    ACall Tryz.prog 76 [.c (.ptr 0 0)] (rdObj l i) (prR l Tm.val i (pIs l (pTerm l n) i)) := by
  have T := fun j hj k s hk => ptake_split l j k s hk hj hl
  have N := fun j hj => pnext_split l j hj hl
  have Y := fun j hj => ptyp_call l j hj hl
  have U := hU
  simp only [rdObj] at T N Y U ⊢
  refine ACall.body tab_ok (ρ := 0) (N := 20) Tryz.func76 rfl rfl rfl rfl rfl ?_
  repeat' first | ((refine (U _ (by omega) (by omega)).mono ?_; intro o σ hh; rcases prR_cases hh with ⟨⟨k, nm, ag, nu, tk, tks, uk, uks, lb, pl, ks⟩, j, hp, hj1, hj2, rfl, rfl⟩ | ⟨e, x, w, j, hp, hj2, rfl, rfl⟩ <;> clear hh <;> conv => whnf)) | refine AW.seq ?_ | refine AW.block ?_ | (refine (_root_.id : AW _ _ _ (.region 5 _ true) _ _ → _) ?_; refine AW.draw (id := 5) tab_ok mixed [0, 2, 3, 4, 5, 1, 6, 7] (by kernel_rfl) ?_; conv => whnf) | ((first | refine AW.region tab_ok ?_ | refine AW.cond ?_ | refine AW.skip ?_ | refine AW.ret ?_ | refine AW.exit ?_); conv => whnf) | ((first | refine And.intro (@rfl Val _) ?_ | refine And.intro (by decide) ?_ | refine cs (fun _ => ?_) (fun _ => ?_)) <;> conv => whnf)
  any_goals
    (refine AW.loop (ι := IsI l i (pIs l (pTerm l n) i)) (fun x => ⟨20, [(3, .c (.ptr 2 0)), (2, .c (.ptr 1 0)), (0, .c (.ptr 0 0))], [.var [.d (.sl 0 4 (wrows l)), .d (.int .i64 x.j)], .var _, .var x.c], []⟩) (fun x => l.length - x.j) ⟨.node k nm ag nu tk tks uk uks lb pl ks, _, .z _, j, l.length + 1, hj1, hj2, by omega, by simp only [pIs, hp, bindP_ok]⟩ 3 (fun _ => rfl) (Nat.le_of_ble_eq_true rfl) ⟨⟨rfl, rfl, rfl, trivial⟩, rfl, rfl, ⟨[], rfl⟩, rfl⟩ (fun x => ?_)
     obtain ⟨⟨sk, snm, sag, snu, stk, stks, suk, suks, slb, spl, sks⟩, c, hc, j0, m, h1, h2, h3, hx⟩ := x
     obtain ⟨m, rfl⟩ : ∃ q, m = q + 1 := ⟨m - 1, by omega⟩
     dsimp only
     cases hc
     all_goals try simp only [Tm.cells, List.map_cons, List.map_nil]
     all_goals
       repeat' first | ((refine (T _ (by omega) _ _ (by decide)).mono ?_; rintro _ _ (⟨ht, hlt, rfl, rfl⟩ | ⟨ht, rfl, rfl⟩) <;> conv => whnf)) | ((refine (N _ (by omega)).mono ?_; rintro _ _ (⟨⟨wk, wt, wn, wp⟩, hw, hlt, rfl, rfl⟩ | ⟨hw, hge, rfl, rfl⟩) <;> conv => whnf)) | ((refine (Y _ (by omega)).mono ?_; intro o σ hh; rcases prR_cases hh with ⟨⟨ak, aks⟩, j, hp, hj1, hj2, rfl, rfl⟩ | ⟨e, x, w, j, hp, hj2, rfl, rfl⟩ <;> clear hh <;> conv => whnf)) | refine AW.seq ?_ | refine AW.block ?_ | (refine (_root_.id : AW _ _ _ (.region 5 _ true) _ _ → _) ?_; refine AW.draw (id := 5) tab_ok mixed [0, 2, 3, 4, 5, 1, 6, 7] (by kernel_rfl) ?_; conv => whnf) | ((first | refine AW.region tab_ok ?_ | refine AW.cond ?_ | refine AW.skip ?_ | refine AW.ret ?_ | refine AW.exit ?_); conv => whnf) | ((first | refine And.intro (@rfl Val _) ?_ | refine And.intro (by decide) ?_ | refine cs (fun _ => ?_) (fun _ => ?_)) <;> conv => whnf)
     all_goals first
       | (clear T N Y U
          rw [hx, isLoop, if_neg (by simp [*])]
          refine ⟨rfl, rfl, ?_, ?_⟩ <;> first | trivial | omega)
       | (exfalso; omega)
       | (clear T N Y U
          rw [hx, isLoop, if_pos (by assumption)]
          simp only [placeW, *, bindP_bad, bindP_ok]
          exact ⟨rfl, _, by first | assumption | omega, rfl⟩)
       | (refine ⟨⟨tn 16 s0 s0 0 (.node ak aks) ty0 wp [.node sk snm sag snu stk stks suk suks slb spl sks], _, .n _ _ _ _ _ _ _ _ _ _, j, m, by omega, by omega, by omega, ?_⟩, ⟨⟨rfl, rfl, rfl, trivial⟩, rfl, rfl, ⟨[_], rfl⟩, rfl⟩, ?_⟩
          · clear T N Y U
            rw [hx, isLoop, if_pos (by assumption)]
            simp only [placeW, *, bindP_bad, bindP_ok]
          · show l.length - j < l.length - j0
            omega)
       | (refine ⟨⟨tn 16 s0 s0 0 (.node ak aks) ty0 wp [.node sk snm sag snu stk stks suk [] slb spl sks], _, .n _ _ _ _ _ _ _ _ _ _, j, m, by omega, by omega, by omega, ?_⟩, ⟨⟨rfl, rfl, rfl, trivial⟩, rfl, rfl, ⟨[_], rfl⟩, rfl⟩, ?_⟩
          · clear T N Y U
            rw [hx, isLoop, if_pos (by assumption)]
            simp only [placeW, *, bindP_bad, bindP_ok]
          · show l.length - j < l.length - j0
            omega)
      )
  all_goals first
    | (clear T N Y U
       try dsimp only at *
       try simp only [bne_iff_ne, ne_eq, beq_iff_eq, bne_eq_false_iff_eq, beq_eq_false_iff_ne, decide_eq_true_eq, decide_eq_false_iff_not] at *
       first
         | (exfalso; omega)
         | (simp only [pIs, wbad, *, if_true, if_false, bindP_ok, bindP_bad, Bool.false_eq_true]
            first
              | (refine ⟨rfl, rfl, ?_, ?_⟩ <;> first | trivial | omega)
              | exact ⟨rfl, _, by first | assumption | omega, rfl⟩
             ))
end Go.Proofs.YtmaokphbfjpodaaGreatDoor.E

/- Walks: parse.reader: term. No conditions. -/
set_option linter.unusedVariables false
set_option linter.unusedSimpArgs false
namespace Go.Proofs.YtmaokphbfjpodaaGreatDoor.E
open Go

theorem pun_all (l : List Wd) (n : Nat) (hW : PTermC l n) (hl : l.length ≤ 1000000) : ∀ m, UnC l n m
  | 0, i, hi, hm, hn => absurd hm (Nat.not_lt_zero _)
  | m + 1, i, hi, hm, hn => pun_step l n hW m (pun_all l n hW hl m) hl i hi hm hn
theorem pis_all (l : List Wd) (n : Nat) (hW : PTermC l n) (hl : l.length ≤ 1000000) (i : Nat) (hi : i ≤ l.length) (hn : l.length - i < n + 1) :
    ACall Tryz.prog 76 [.c (.ptr 0 0)] (rdObj l i) (prR l Tm.val i (pIs l (pTerm l n) i)) :=
  pis_call l n (fun i hi hn => pcmp_call l n (fun i hi hn => psum_call l n (fun i hi hn => pmul_call l n (fun i hi hn => pun_all l n hW hl (l.length + 1) i hi (by omega) hn) i hi hn hl) i hi hn hl) i hi hn hl) i hi hn hl
set_option maxRecDepth 10000 in
set_option maxHeartbeats 2000000 in
theorem pterm_step (l : List Wd) (n : Nat) (hW : PTermC l n) (hl : l.length ≤ 1000000) : PTermC l (n + 1) := by
  intro i hi hn
  have T := fun j hj k s hk => ptake_split l j k s hk hj hl
  have N := fun j hj => pnext_split l j hj hl
  have S := fun j hj s => psign_call l s j hj hl
  have K := fun j hj s => pkey_call l s j hj hl
  have Y := fun j hj => ptyp_call l j hj hl
  have E := fun j hj => pname_call l j hj hl
  have A := fun j hj => pann_call l j hj hl
  have B := fun j hj hn => pbranch_call l n hW j hj hn hl
  have I := fun j hj hn => pis_all l n hW hl j hj hn
  have W := hW
  unfold PTermC at W
  simp only [rdObj] at T N S K Y E A B I W ⊢
  refine ACall.body tab_ok (ρ := 0) (N := 142) Tryz.func37 rfl rfl rfl rfl rfl ?_
  repeat' first | ((refine (T _ (by omega) _ _ (by decide)).mono ?_; rintro _ _ (⟨ht, hlt, rfl, rfl⟩ | ⟨ht, rfl, rfl⟩) <;> conv => whnf)) | ((refine (N _ (by omega)).mono ?_; rintro _ _ (⟨⟨wk, wt, wn, wp⟩, hw, hlt, rfl, rfl⟩ | ⟨hw, hge, rfl, rfl⟩) <;> conv => whnf)) | ((refine (S _ (by omega) _).mono ?_; intro o σ hh; rcases prR_cases hh with ⟨⟨⟩, j, hp, hj1, hj2, rfl, rfl⟩ | ⟨e, x, w, j, hp, hj2, rfl, rfl⟩ <;> clear hh <;> conv => whnf)) | ((refine (K _ (by omega) _).mono ?_; intro o σ hh; rcases prR_cases hh with ⟨⟨⟩, j, hp, hj1, hj2, rfl, rfl⟩ | ⟨e, x, w, j, hp, hj2, rfl, rfl⟩ <;> clear hh <;> conv => whnf)) | ((refine (Y _ (by omega)).mono ?_; intro o σ hh; rcases prR_cases hh with ⟨⟨ak, aks⟩, j, hp, hj1, hj2, rfl, rfl⟩ | ⟨e, x, w, j, hp, hj2, rfl, rfl⟩ <;> clear hh <;> conv => whnf)) | ((refine (E _ (by omega)).mono ?_; intro o σ hh; rcases prR_cases hh with ⟨x, j, hp, hj1, hj2, rfl, rfl⟩ | ⟨e, x, w, j, hp, hj2, rfl, rfl⟩ <;> clear hh <;> conv => whnf)) | ((refine (A _ (by omega)).mono ?_; intro o σ hh; rcases prR_cases hh with ⟨⟨x, ⟨ak, aks⟩⟩, j, hp, hj1, hj2, rfl, rfl⟩ | ⟨e, x, w, j, hp, hj2, rfl, rfl⟩ <;> clear hh <;> conv => whnf)) | ((refine (B _ (by omega) (by omega)).mono ?_; intro o σ hh; rcases prR_cases hh with ⟨⟨x, ⟨k, nm, ag, nu, tk, tks, uk, uks, lb, pl, ks⟩⟩, j, hp, hj1, hj2, rfl, rfl⟩ | ⟨e, x, w, j, hp, hj2, rfl, rfl⟩ <;> clear hh <;> conv => whnf)) | ((refine (I _ (by omega) (by omega)).mono ?_; intro o σ hh; rcases prR_cases hh with ⟨⟨k, nm, ag, nu, tk, tks, uk, uks, lb, pl, ks⟩, j, hp, hj1, hj2, rfl, rfl⟩ | ⟨e, x, w, j, hp, hj2, rfl, rfl⟩ <;> clear hh <;> conv => whnf)) | ((refine (W _ (by omega) (by omega)).mono ?_; intro o σ hh; rcases prR_cases hh with ⟨⟨k, nm, ag, nu, tk, tks, uk, uks, lb, pl, ks⟩, j, hp, hj1, hj2, rfl, rfl⟩ | ⟨e, x, w, j, hp, hj2, rfl, rfl⟩ <;> clear hh <;> conv => whnf)) | refine AW.seq ?_ | refine AW.block ?_ | (refine (_root_.id : AW _ _ _ (.region 5 _ true) _ _ → _) ?_; refine AW.draw (id := 5) tab_ok mixed [0, 1, 2, 3, 4, 5, 6, 7, 8] (by kernel_rfl) ?_; conv => whnf) | (refine (_root_.id : AW _ _ _ (.region 11 _ true) _ _ → _) ?_; refine AW.draw (id := 11) tab_ok mixed [0, 1, 2, 3, 4, 5, 6, 7, 8, 9] (by kernel_rfl) ?_; conv => whnf) | (refine (_root_.id : AW _ _ _ (.region 17 _ true) _ _ → _) ?_; refine AW.draw (id := 17) tab_ok mixed [0, 1, 2, 3, 4, 5, 6, 7, 8] (by kernel_rfl) ?_; conv => whnf) | (refine (_root_.id : AW _ _ _ (.region 26 _ true) _ _ → _) ?_; refine AW.draw (id := 26) tab_ok mixed [0, 1, 2, 3, 4, 5, 6, 7, 8, 9, 10] (by kernel_rfl) ?_; conv => whnf) | ((first | refine AW.region tab_ok ?_ | refine AW.cond ?_ | refine AW.skip ?_ | refine AW.ret ?_ | refine AW.exit ?_); conv => whnf) | ((first | refine And.intro (@rfl Val _) ?_ | refine And.intro (by decide) ?_ | refine cs (fun _ => ?_) (fun _ => ?_)) <;> conv => whnf)
  all_goals first
    | (clear T N S K Y E A B I W
       try dsimp only at *
       try simp only [bne_iff_ne, ne_eq, beq_iff_eq, bne_eq_false_iff_eq, beq_eq_false_iff_ne, decide_eq_true_eq, decide_eq_false_iff_not] at *
       first
         | (exfalso; omega)
         | (simp only [pTerm, pStep, lamP, letP, ifP, recP, caseP, placeW, wbad, *, if_true, if_false, bindP_ok, bindP_bad, Bool.false_eq_true]
            first
              | (refine ⟨rfl, rfl, ?_, ?_⟩ <;> first | trivial | omega)
              | exact ⟨rfl, _, by first | assumption | omega, rfl⟩
             ))
theorem pterm_call (l : List Wd) (hl : l.length ≤ 1000000) : ∀ n, PTermC l n
  | 0, i, hi, hn => absurd hn (Nat.not_lt_zero _)
  | n + 1, i, hi, hn => pterm_step l n (pterm_call l hl n) hl i hi hn
end Go.Proofs.YtmaokphbfjpodaaGreatDoor.E

/- Walks: parse.Words. No conditions. -/
set_option linter.unusedVariables false
set_option linter.unusedSimpArgs false
namespace Go.Proofs.YtmaokphbfjpodaaGreatDoor.E
open Go

def tmZ : Tm := tn 0 s0 s0 0 ty0 ty0 0 []
/-- What parse.Words tells at the first word. -/
def wordsR (l : List Wd) (o : Out) (σ : List AObj) : Prop :=
  (∃ t j, wordsP l = .ok t j ∧ 0 < j ∧ j ≤ l.length ∧ o = .ret (.tup [t.val, .c (.d (.int .i64 j)), .c (.d .nili)]) ∧ σ = []) ∨
  (∃ e x w, wordsP l = .bad e x w ∧ o = .ret (.tup [tmZ.val, .c (.d (.int .i64 0)), .c (.d (faultI e x w))]) ∧ σ = [])
def tcells (k : Int) (nm ag : ByteArray) (nu tk : Int) (x1 : DV) (uk : Int) (x2 : DV) (lb pl : Int) (x3 : DV) : List AV :=
  [.d (.int .i8 k), .d (.str nm), .d (.str ag), .d (.int .i64 nu), .d (.int .i8 tk), .d x1, .d (.int .i8 uk), .d x2, .d (.int .i64 lb), .d (.int .i64 pl), .d x3]
set_option maxRecDepth 10000 in
theorem wrecover_none (k : Int) (nm ag : ByteArray) (nu tk : Int) (x1 : DV) (uk : Int) (x2 : DV) (lb pl : Int) (x3 : DV) (a : Int) (c : DV) (y : List (List DV)) (z : Int) : ADef Tryz.prog 36 [.ptr 0 0, .ptr 1 0, .ptr 2 0] [.var (tcells k nm ag nu tk x1 uk x2 lb pl x3), .var [.d (.int .i64 a)], .var [.d c], .var [.d (.sl 0 4 y), .d (.int .i64 z)]] .ret
    (fun o u σ => o = .ret (.tup []) ∧ u = .ret ∧ σ = [.var (tcells k nm ag nu tk x1 uk x2 lb pl x3), .var [.d (.int .i64 a)], .var [.d c], .var [.d (.sl 0 4 y), .d (.int .i64 z)]]) := by
  unfold tcells
  refine ADef.recover tab_ok (ρ := 0) (N := 15) (d := 6) Tryz.func36 rfl rfl rfl rfl rfl rfl rfl rfl rfl ?_
  repeat' first | refine AW.seq ?_ | refine AW.block ?_ | ((first | refine AW.region tab_ok ?_ | refine AW.cond ?_ | refine AW.skip ?_ | refine AW.ret ?_ | refine AW.exit ?_); conv => whnf) | ((first | refine And.intro (@rfl Val _) ?_ | refine And.intro (by decide) ?_ | refine cs (fun _ => ?_) (fun _ => ?_)) <;> conv => whnf)
  all_goals first | exact ⟨rfl, rfl, rfl⟩
set_option maxRecDepth 10000 in
theorem wrecover_some (k : Int) (nm ag : ByteArray) (nu tk : Int) (x1 : DV) (uk : Int) (x2 : DV) (lb pl : Int) (x3 : DV) (a : Int) (c : DV) (y : List (List DV)) (z : Int) (e p : Int) (w : ByteArray) : ADef Tryz.prog 36 [.ptr 0 0, .ptr 1 0, .ptr 2 0] [.var (tcells k nm ag nu tk x1 uk x2 lb pl x3), .var [.d (.int .i64 a)], .var [.d c], .var [.d (.sl 0 4 y), .d (.int .i64 z)]] (.pan (panF e p w) false)
    (fun o u σ => o = .ret (.tup []) ∧ u = .pan (panF e p w) true ∧ σ = [.var (tcells 0 s0 s0 0 0 .nils 0 .nils 0 0 .nils), .var [.d (.int .i64 0)], .var [.ifc 58 (.d (.rp 0 [.int .i64 e, .int .i64 p, .str w]))], .var [.d (.sl 0 4 y), .d (.int .i64 z)]]) := by
  unfold tcells
  refine ADef.recover tab_ok (ρ := 0) (N := 15) (d := 6) Tryz.func36 rfl rfl rfl rfl rfl rfl rfl rfl rfl ?_
  repeat' first | refine AW.seq ?_ | refine AW.block ?_ | ((first | refine AW.region tab_ok ?_ | refine AW.cond ?_ | refine AW.skip ?_ | refine AW.ret ?_ | refine AW.exit ?_); conv => whnf) | ((first | refine And.intro (@rfl Val _) ?_ | refine And.intro (by decide) ?_ | refine cs (fun _ => ?_) (fun _ => ?_)) <;> conv => whnf)
  all_goals first | exact ⟨rfl, rfl, rfl⟩
set_option maxRecDepth 10000 in
theorem wrecover_own (k : Int) (nm ag : ByteArray) (nu tk : Int) (x1 : DV) (uk : Int) (x2 : DV) (lb pl : Int) (x3 : DV) (a : Int) (c : DV) (y : List (List DV)) (z : Int) (e p : Int) (w : ByteArray) : ADef Tryz.prog 36 [.ptr 0 0, .ptr 1 0, .ptr 2 0] [.var (tcells k nm ag nu tk x1 uk x2 lb pl x3), .var [.d (.int .i64 a)], .var [.d c], .var [.d (.sl 0 4 y), .d (.int .i64 z)], .var [.d (.int .i64 e), .d (.int .i64 p), .d (.str w)]] (.pan (.ifc 58 (.ptr 4 0)) false)
    (fun o u σ => o = .ret (.tup []) ∧ u = .pan (.ifc 58 (.ptr 4 0)) true ∧ σ = [.var (tcells 0 s0 s0 0 0 .nils 0 .nils 0 0 .nils), .var [.d (.int .i64 0)], .var [.ifc 58 (.ptr 4 0)], .var [.d (.sl 0 4 y), .d (.int .i64 z)], .var [.d (.int .i64 e), .d (.int .i64 p), .d (.str w)]]) := by
  unfold tcells
  refine ADef.recover tab_ok (ρ := 0) (N := 15) (d := 6) Tryz.func36 rfl rfl rfl rfl rfl rfl rfl rfl rfl ?_
  repeat' first | refine AW.seq ?_ | refine AW.block ?_ | ((first | refine AW.region tab_ok ?_ | refine AW.cond ?_ | refine AW.skip ?_ | refine AW.ret ?_ | refine AW.exit ?_); conv => whnf) | ((first | refine And.intro (@rfl Val _) ?_ | refine And.intro (by decide) ?_ | refine cs (fun _ => ?_) (fun _ => ?_)) <;> conv => whnf)
  all_goals first | exact ⟨rfl, rfl, rfl⟩
set_option maxRecDepth 10000 in
set_option maxHeartbeats 1000000 in
theorem words_call (l : List Wd) (hl : l.length ≤ 1000000) :
    ACall Tryz.prog 19 [.c (.d (.sl 0 4 (wrows l))), .c (.d (.int .i64 0))] [] (wordsR l) := by
  have hm : max (0 : Int) (min (0 : Int) ((wrows l).length : Int)) = ((0 : Nat) : Int) := by rw [wrows_len]; omega
  have X : ACall Tryz.prog 37 [.c (.ptr 0 0)] [.var [.d (.sl 0 4 (wrows l)), .d (.int .i64 (max (0 : Int) (min (0 : Int) ((wrows l).length : Int))))]] (prR l Tm.val 0 (pTerm l (l.length + 1) 0)) := by
    rw [hm]
    exact pterm_call l hl (l.length + 1) 0 (Nat.zero_le _) (by omega)
  refine ACall.bodyD tab_ok (ρ := 0) (N := 38) Tryz.func19 rfl rfl rfl rfl rfl ?_
  repeat' first | ((refine X.mono ?_; intro o σ hh; rcases prR_cases hh with ⟨⟨k, nm, ag, nu, tk, tks, uk, uks, lb, pl, ks⟩, j, hp, hj1, hj2, rfl, rfl⟩ | ⟨e, x, w, j, hp, hj2, rfl, rfl⟩ <;> conv => whnf)) | refine AW.seq ?_ | refine AW.block ?_ | (refine (_root_.id : AW _ _ _ (.region 8 _ true) _ _ → _) ?_; refine AW.draw (id := 8) tab_ok mixed [0, 1, 2, 3, 4, 5, 6, 7] (by kernel_rfl) ?_; conv => whnf) | ((first | refine AW.region tab_ok ?_ | refine AW.cond ?_ | refine AW.skip ?_ | refine AW.ret ?_ | refine AW.exit ?_); conv => whnf) | ((first | refine (tnodes_call (.node k nm ag nu tk tks uk uks lb pl ks)).mono ?_ | refine (tDepth_call (.node k nm ag nu tk tks uk uks lb pl ks)).mono ?_); rintro _ _ ⟨rfl, rfl⟩; conv => whnf) | ((first | refine And.intro (@rfl Val _) ?_ | refine And.intro (by decide) ?_ | refine cs (fun _ => ?_) (fun _ => ?_)) <;> conv => whnf)
  · refine (wrecover_own k nm ag nu tk _ uk _ lb pl _ _ _ _ _ _ _ _).mono ?_
    rintro _ _ _ ⟨rfl, rfl, rfl⟩
    conv => whnf
    rename_i h
    have h : tmN (.node k nm ag nu tk tks uk uks lb pl ks) > 8192 := by have := of_decide_eq_true h; omega
    first | exact .inr ⟨32, 0, s0, by rw [wordsP, hp, bindP_ok, if_pos h], rfl, rfl⟩
  · refine (wrecover_own k nm ag nu tk _ uk _ lb pl _ _ _ _ _ _ _ _).mono ?_
    rintro _ _ _ ⟨rfl, rfl, rfl⟩
    conv => whnf
    rename_i h h2
    have h : ¬ tmN (.node k nm ag nu tk tks uk uks lb pl ks) > 8192 := by have := of_decide_eq_false h; omega
    have h2 : tmDepth (.node k nm ag nu tk tks uk uks lb pl ks) > 200 := by have := of_decide_eq_true h2; omega
    first | exact .inr ⟨31, 0, s0, by rw [wordsP, hp, bindP_ok, if_neg h, if_pos h2], rfl, rfl⟩
  · refine (wrecover_none k nm ag nu tk _ uk _ lb pl _ _ _ _ _).mono ?_
    rintro _ _ _ ⟨rfl, rfl, rfl⟩
    conv => whnf
    rename_i h h2
    have h : ¬ tmN (.node k nm ag nu tk tks uk uks lb pl ks) > 8192 := by have := of_decide_eq_false h; omega
    have h2 : ¬ tmDepth (.node k nm ag nu tk tks uk uks lb pl ks) > 200 := by have := of_decide_eq_false h2; omega
    first | exact .inl ⟨.node k nm ag nu tk tks uk uks lb pl ks, j, by rw [wordsP, hp, bindP_ok, if_neg h, if_neg h2], by omega, hj2, rfl, rfl⟩
  · refine (wrecover_some 0 s0 s0 0 0 .nils 0 .nils 0 0 .nils _ _ _ _ _ _ _).mono ?_
    rintro _ _ _ ⟨rfl, rfl, rfl⟩
    conv => whnf
    first | exact .inr ⟨_, _, _, by rw [wordsP, hp, bindP_bad], rfl, rfl⟩
end Go.Proofs.YtmaokphbfjpodaaGreatDoor.E
