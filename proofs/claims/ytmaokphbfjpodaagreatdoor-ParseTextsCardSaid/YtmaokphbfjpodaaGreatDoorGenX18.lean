/- Texts, merged: Tp5, Tp6, Tp7, Tp8, Tp9, Cl2, Pm3. No conditions. -/
import Derived.Test.YtmaokphbfjpodaaGreatDoorGenX17
import Derived.Test.YtmaokphbfjpodaaGreatDoorGenX8
import Derived.Test.YtmaokphbfjpodaaGreatDoorGenX14
import Derived.Test.YtmaokphbfjpodaaGreatDoorGenX4
import Derived.Test.YtmaokphbfjpodaaGreatDoorGenX15
/- Walks: parse.reader: its results' blocks are of tags 1 and 4. No conditions. -/
set_option linter.unusedVariables false
set_option linter.unusedSimpArgs false
namespace Go.Proofs.YtmaokphbfjpodaaGreatDoor.E
open Go

structure MuIT (l : List Wd) (part : Nat → PR Tm) (ops : List ByteArray) (i : Nat) (r : PR Tm) where
  a : Tm
  j : Nat
  ok : Bool
  h1 : i < j
  h2 : j ≤ l.length
  h : (ok = true ∧ ∃ m, l.length - j < m ∧ r = opLoop l part ops m a j) ∨ (ok = false ∧ r = .ok a j)
set_option maxRecDepth 10000 in
set_option maxHeartbeats 2000000 in
theorem pmulT_call (l : List Wd) (n : Nat) (hU : ∀ i, i ≤ l.length → l.length - i < n + 1 → ACall Tryz.prog 164 [.c (.ptr 0 0)] (rdObj l i) (prT l (Tm.valR 1 4) i (pU l (pTerm l n) i))) (i : Nat) (hi : i ≤ l.length) (hn : l.length - i < n + 1) (hl : l.length ≤ 1000000) :
    ACall Tryz.prog 157 [.c (.ptr 0 0)] (rdObj l i) (prT l (Tm.valR 1 4) i (pMul l (pTerm l n) i)) := by
  have U := hU
  have O := fun t j hj hn => popT_call l (n + 1) 164 (.inl rfl) (pU l (pTerm l n)) hU ⟨#[42]⟩ ⟨#[47]⟩ ⟨rfl, rfl⟩ t j hj hn hl
  simp only [rdObj, rdm, mpO] at U O ⊢
  refine ACall.body tab_ok (ρ := 4) (N := 19) Tryz.func157 rfl rfl rfl rfl rfl ?_
  repeat' first | ((refine (U _ (by omega) (by omega)).mono ?_; intro o σ hh; rcases prT_cases hh with ⟨⟨k, nm, ag, nu, tk, tks, uk, uks, lb, pl, ks⟩, j, hp, hj1, hj2, rfl, rfl⟩ | ⟨e, x, w, r, j, hp, hj2, rfl, rfl⟩ <;> clear hh <;> conv => whnf)) | refine AW.seq ?_ | refine AW.block ?_ | ((first | refine AW.region tab_ok ?_ | refine AW.cond ?_ | refine AW.skip ?_ | refine AW.ret ?_ | refine AW.exit ?_); conv => whnf) | ((first | refine And.intro (@rfl Val _) ?_ | refine And.intro (by decide) ?_ | refine cs (fun _ => ?_) (fun _ => ?_)) <;> conv => whnf)
  any_goals
    (refine AW.loop (ι := MuIT l (pU l (pTerm l n)) [⟨#[42]⟩, ⟨#[47]⟩] i (pMul l (pTerm l n) i)) (fun x => ⟨19, [(4, .c (.d (.bool x.ok))), (3, .c (.ptr 2 0)), (2, .c (.ptr 1 0)), (0, .c (.ptr 0 0))], [.var [.d (.sl 0 4 (wrows l)), .d (.int .i64 x.j)], .var _, .var ((x.a.cellsR 1 4).map .d)], []⟩) (fun x => meas l x.j x.ok) ⟨.node k nm ag nu tk tks uk uks lb pl ks, j, true, hj1, hj2, .inl ⟨rfl, l.length + 1, by omega, by simp only [pMul, hp, bindP_ok]⟩⟩ 3 (fun _ => rfl) (Nat.le_of_ble_eq_true rfl) ⟨⟨rfl, rfl, rfl, rfl, trivial⟩, rfl, rfl, ⟨[], rfl⟩, rfl⟩ (fun x => ?_)
     obtain ⟨⟨ak, anm, aag, anu, atk, atks, auk, auks, alb, apl, aks⟩, j0, ok, h1, h2, h⟩ := x
     dsimp only
     try simp only [Tm.cellsR, List.map_cons, List.map_nil]
     rcases h with ⟨rfl, m, h3, hx⟩ | ⟨rfl, hx⟩
     all_goals
       repeat' first | ((refine mput_one ?_; conv => whnf)) | ((refine mput_two rfl ?_; conv => whnf)) | ((refine (O (.node ak anm aag anu atk atks auk auks alb apl aks) _ (by omega) (by omega)).mono ?_; rintro _ _ (⟨ho, rfl, rfl⟩ | ⟨ho, hlt, ⟨k, nm, ag, nu, tk, tks, uk, uks, lb, pl, ks⟩, j, hp, hj1, hj2, rfl, rfl⟩ | ⟨ho, e, x, w, r, j, hp, hj2, rfl, rfl⟩) <;> conv => whnf)) | refine AW.seq ?_ | refine AW.block ?_ | ((first | refine AW.region tab_ok ?_ | refine AW.cond ?_ | refine AW.skip ?_ | refine AW.ret ?_ | refine AW.exit ?_); conv => whnf) | ((first | refine And.intro (@rfl Val _) ?_ | refine And.intro (by decide) ?_ | refine cs (fun _ => ?_) (fun _ => ?_)) <;> conv => whnf)
     all_goals first
       | (clear U O
          rw [hx]
          refine ⟨rfl, rfl, ?_, ?_⟩ <;> first | trivial | omega)
       | (obtain ⟨m, rfl⟩ : ∃ q, m = q + 1 := ⟨m - 1, by omega⟩
          clear U O
          rw [opLoop, if_pos ho, hp, bindP_bad] at hx
          rw [hx]
          exact ⟨_, rfl, _, hj2, rfl⟩)
       | (obtain ⟨m, rfl⟩ : ∃ q, m = q + 1 := ⟨m - 1, by omega⟩
          clear U O
          rw [opLoop, if_pos ho, hp, bindP_ok] at hx
          refine ⟨⟨.node k nm ag nu tk tks uk uks lb pl ks, j, true, by omega, hj2, .inl ⟨rfl, m, by omega, hx⟩⟩, ⟨⟨rfl, rfl, rfl, rfl, trivial⟩, rfl, rfl, ⟨[_], rfl⟩, rfl⟩, ?_⟩
          show meas l j true < meas l j0 true
          unfold meas; omega)
       | (obtain ⟨m, rfl⟩ : ∃ q, m = q + 1 := ⟨m - 1, by omega⟩
          clear U O
          rw [opLoop, if_neg (by rw [ho]; decide)] at hx
          refine ⟨⟨.node ak anm aag anu atk atks auk auks alb apl aks, j0, false, h1, h2, .inr ⟨rfl, hx⟩⟩, ⟨⟨rfl, rfl, rfl, rfl, trivial⟩, rfl, rfl, ⟨[_], rfl⟩, rfl⟩, ?_⟩
          show meas l j0 false < meas l j0 true
          unfold meas; simp)
      )
  all_goals first
    | (clear U O
       try dsimp only at *
       try simp only [bne_iff_ne, ne_eq, beq_iff_eq, bne_eq_false_iff_eq, beq_eq_false_iff_ne, decide_eq_true_eq, decide_eq_false_iff_not] at *
       first
         | (exfalso; omega)
         | (simp only [pMul, wbad, *, if_true, if_false, bindP_ok, bindP_bad, Bool.false_eq_true]
            first
              | (refine ⟨rfl, rfl, ?_, ?_⟩ <;> first | trivial | omega)
              | exact ⟨_, rfl, _, by first | assumption | omega, rfl⟩
             ))
set_option maxRecDepth 10000 in
set_option maxHeartbeats 2000000 in
theorem psumT_call (l : List Wd) (n : Nat) (hU : ∀ i, i ≤ l.length → l.length - i < n + 1 → ACall Tryz.prog 157 [.c (.ptr 0 0)] (rdObj l i) (prT l (Tm.valR 1 4) i (pMul l (pTerm l n) i))) (i : Nat) (hi : i ≤ l.length) (hn : l.length - i < n + 1) (hl : l.length ≤ 1000000) :
    ACall Tryz.prog 143 [.c (.ptr 0 0)] (rdObj l i) (prT l (Tm.valR 1 4) i (pSum l (pTerm l n) i)) := by
  have U := hU
  have O := fun t j hj hn => popT_call l (n + 1) 157 (.inr (.inl rfl)) (pMul l (pTerm l n)) hU ⟨#[43]⟩ ⟨#[45]⟩ ⟨rfl, rfl⟩ t j hj hn hl
  simp only [rdObj, rdm, mpO] at U O ⊢
  refine ACall.body tab_ok (ρ := 4) (N := 19) Tryz.func143 rfl rfl rfl rfl rfl ?_
  repeat' first | ((refine (U _ (by omega) (by omega)).mono ?_; intro o σ hh; rcases prT_cases hh with ⟨⟨k, nm, ag, nu, tk, tks, uk, uks, lb, pl, ks⟩, j, hp, hj1, hj2, rfl, rfl⟩ | ⟨e, x, w, r, j, hp, hj2, rfl, rfl⟩ <;> clear hh <;> conv => whnf)) | refine AW.seq ?_ | refine AW.block ?_ | ((first | refine AW.region tab_ok ?_ | refine AW.cond ?_ | refine AW.skip ?_ | refine AW.ret ?_ | refine AW.exit ?_); conv => whnf) | ((first | refine And.intro (@rfl Val _) ?_ | refine And.intro (by decide) ?_ | refine cs (fun _ => ?_) (fun _ => ?_)) <;> conv => whnf)
  any_goals
    (refine AW.loop (ι := MuIT l (pMul l (pTerm l n)) [⟨#[43]⟩, ⟨#[45]⟩] i (pSum l (pTerm l n) i)) (fun x => ⟨19, [(4, .c (.d (.bool x.ok))), (3, .c (.ptr 2 0)), (2, .c (.ptr 1 0)), (0, .c (.ptr 0 0))], [.var [.d (.sl 0 4 (wrows l)), .d (.int .i64 x.j)], .var _, .var ((x.a.cellsR 1 4).map .d)], []⟩) (fun x => meas l x.j x.ok) ⟨.node k nm ag nu tk tks uk uks lb pl ks, j, true, hj1, hj2, .inl ⟨rfl, l.length + 1, by omega, by simp only [pSum, hp, bindP_ok]⟩⟩ 3 (fun _ => rfl) (Nat.le_of_ble_eq_true rfl) ⟨⟨rfl, rfl, rfl, rfl, trivial⟩, rfl, rfl, ⟨[], rfl⟩, rfl⟩ (fun x => ?_)
     obtain ⟨⟨ak, anm, aag, anu, atk, atks, auk, auks, alb, apl, aks⟩, j0, ok, h1, h2, h⟩ := x
     dsimp only
     try simp only [Tm.cellsR, List.map_cons, List.map_nil]
     rcases h with ⟨rfl, m, h3, hx⟩ | ⟨rfl, hx⟩
     all_goals
       repeat' first | ((refine mput_one ?_; conv => whnf)) | ((refine mput_two rfl ?_; conv => whnf)) | ((refine (O (.node ak anm aag anu atk atks auk auks alb apl aks) _ (by omega) (by omega)).mono ?_; rintro _ _ (⟨ho, rfl, rfl⟩ | ⟨ho, hlt, ⟨k, nm, ag, nu, tk, tks, uk, uks, lb, pl, ks⟩, j, hp, hj1, hj2, rfl, rfl⟩ | ⟨ho, e, x, w, r, j, hp, hj2, rfl, rfl⟩) <;> conv => whnf)) | refine AW.seq ?_ | refine AW.block ?_ | ((first | refine AW.region tab_ok ?_ | refine AW.cond ?_ | refine AW.skip ?_ | refine AW.ret ?_ | refine AW.exit ?_); conv => whnf) | ((first | refine And.intro (@rfl Val _) ?_ | refine And.intro (by decide) ?_ | refine cs (fun _ => ?_) (fun _ => ?_)) <;> conv => whnf)
     all_goals first
       | (clear U O
          rw [hx]
          refine ⟨rfl, rfl, ?_, ?_⟩ <;> first | trivial | omega)
       | (obtain ⟨m, rfl⟩ : ∃ q, m = q + 1 := ⟨m - 1, by omega⟩
          clear U O
          rw [opLoop, if_pos ho, hp, bindP_bad] at hx
          rw [hx]
          exact ⟨_, rfl, _, hj2, rfl⟩)
       | (obtain ⟨m, rfl⟩ : ∃ q, m = q + 1 := ⟨m - 1, by omega⟩
          clear U O
          rw [opLoop, if_pos ho, hp, bindP_ok] at hx
          refine ⟨⟨.node k nm ag nu tk tks uk uks lb pl ks, j, true, by omega, hj2, .inl ⟨rfl, m, by omega, hx⟩⟩, ⟨⟨rfl, rfl, rfl, rfl, trivial⟩, rfl, rfl, ⟨[_], rfl⟩, rfl⟩, ?_⟩
          show meas l j true < meas l j0 true
          unfold meas; omega)
       | (obtain ⟨m, rfl⟩ : ∃ q, m = q + 1 := ⟨m - 1, by omega⟩
          clear U O
          rw [opLoop, if_neg (by rw [ho]; decide)] at hx
          refine ⟨⟨.node ak anm aag anu atk atks auk auks alb apl aks, j0, false, h1, h2, .inr ⟨rfl, hx⟩⟩, ⟨⟨rfl, rfl, rfl, rfl, trivial⟩, rfl, rfl, ⟨[_], rfl⟩, rfl⟩, ?_⟩
          show meas l j0 false < meas l j0 true
          unfold meas; simp)
      )
  all_goals first
    | (clear U O
       try dsimp only at *
       try simp only [bne_iff_ne, ne_eq, beq_iff_eq, bne_eq_false_iff_eq, beq_eq_false_iff_ne, decide_eq_true_eq, decide_eq_false_iff_not] at *
       first
         | (exfalso; omega)
         | (simp only [pSum, wbad, *, if_true, if_false, bindP_ok, bindP_bad, Bool.false_eq_true]
            first
              | (refine ⟨rfl, rfl, ?_, ?_⟩ <;> first | trivial | omega)
              | exact ⟨_, rfl, _, by first | assumption | omega, rfl⟩
             ))
set_option maxRecDepth 10000 in
set_option maxHeartbeats 2000000 in
theorem pcmpT_call (l : List Wd) (n : Nat) (hU : ∀ i, i ≤ l.length → l.length - i < n + 1 → ACall Tryz.prog 143 [.c (.ptr 0 0)] (rdObj l i) (prT l (Tm.valR 1 4) i (pSum l (pTerm l n) i))) (i : Nat) (hi : i ≤ l.length) (hn : l.length - i < n + 1) (hl : l.length ≤ 1000000) :
    ACall Tryz.prog 117 [.c (.ptr 0 0)] (rdObj l i) (prT l (Tm.valR 1 4) i (pCmp l (pTerm l n) i)) := by
  have U := hU
  have O := fun t j hj hn => popT_call l (n + 1) 143 (.inr (.inr rfl)) (pSum l (pTerm l n)) hU ⟨#[60]⟩ ⟨#[61]⟩ ⟨rfl, rfl⟩ t j hj hn hl
  simp only [rdObj, rdm, mpO] at U O ⊢
  refine ACall.body tab_ok (ρ := 4) (N := 17) Tryz.func117 rfl rfl rfl rfl rfl ?_
  repeat' first | ((refine (U _ (by omega) (by omega)).mono ?_; intro o σ hh; rcases prT_cases hh with ⟨⟨ak, anm, aag, anu, atk, atks, auk, auks, alb, apl, aks⟩, j, hp, hj1, hj2, rfl, rfl⟩ | ⟨e, x, w, r, j, hp, hj2, rfl, rfl⟩ <;> clear hh <;> conv => whnf)) | ((refine mput_one ?_; conv => whnf)) | ((refine mput_two rfl ?_; conv => whnf)) | ((refine (O (.node ak anm aag anu atk atks auk auks alb apl aks) _ (by omega) (by omega)).mono ?_; rintro _ _ (⟨ho, rfl, rfl⟩ | ⟨ho, hlt, ⟨k, nm, ag, nu, tk, tks, uk, uks, lb, pl, ks⟩, j, hp, hj1, hj2, rfl, rfl⟩ | ⟨ho, e, x, w, r, j, hp, hj2, rfl, rfl⟩) <;> conv => whnf)) | refine AW.seq ?_ | refine AW.block ?_ | ((first | refine AW.region tab_ok ?_ | refine AW.cond ?_ | refine AW.skip ?_ | refine AW.ret ?_ | refine AW.exit ?_); conv => whnf) | ((first | refine And.intro (@rfl Val _) ?_ | refine And.intro (by decide) ?_ | refine cs (fun _ => ?_) (fun _ => ?_)) <;> conv => whnf)
  all_goals first
    | (clear U O
       try dsimp only at *
       try simp only [bne_iff_ne, ne_eq, beq_iff_eq, bne_eq_false_iff_eq, beq_eq_false_iff_ne, decide_eq_true_eq, decide_eq_false_iff_not] at *
       first
         | (exfalso; omega)
         | (simp only [pCmp, wbad, *, if_true, if_false, bindP_ok, bindP_bad, Bool.false_eq_true]
            first
              | (refine ⟨rfl, rfl, ?_, ?_⟩ <;> first | trivial | omega)
              | exact ⟨_, rfl, _, by first | assumption | omega, rfl⟩
             ))
end Go.Proofs.YtmaokphbfjpodaaGreatDoor.E

/- Walks: parse.reader: its results' blocks are of tags 1 and 4. No conditions. -/
set_option linter.unusedVariables false
set_option linter.unusedSimpArgs false
namespace Go.Proofs.YtmaokphbfjpodaaGreatDoor.E
open Go

structure IsIT (l : List Wd) (i : Nat) (r : PR Tm) where
  a : Tm
  c : List AV
  hc : VC2T a c
  j : Nat
  m : Nat
  h1 : i < j
  h2 : j ≤ l.length
  h3 : l.length - j < m
  h : r = isLoop l m a j
set_option maxRecDepth 10000 in
set_option maxHeartbeats 2000000 in
theorem pisT_call (l : List Wd) (n : Nat) (hU : ∀ i, i ≤ l.length → l.length - i < n + 1 → ACall Tryz.prog 117 [.c (.ptr 0 0)] (rdObj l i) (prT l (Tm.valR 1 4) i (pCmp l (pTerm l n) i))) (i : Nat) (hi : i ≤ l.length) (hn : l.length - i < n + 1) (hl : l.length ≤ 1000000) :
    ACall Tryz.prog 76 [.c (.ptr 0 0)] (rdObj l i) (prT l (Tm.valR 1 4) i (pIs l (pTerm l n) i)) := by
  have T := fun j hj k s hk => ptake_split l j k s hk hj hl
  have N := fun j hj => pnext_split l j hj hl
  have Y := fun j hj => ptypT_call l j hj hl
  have U := hU
  simp only [rdObj] at T N Y U ⊢
  refine ACall.body tab_ok (ρ := 4) (N := 20) Tryz.func76 rfl rfl rfl rfl rfl ?_
  repeat' first | ((refine (U _ (by omega) (by omega)).mono ?_; intro o σ hh; rcases prT_cases hh with ⟨⟨k, nm, ag, nu, tk, tks, uk, uks, lb, pl, ks⟩, j, hp, hj1, hj2, rfl, rfl⟩ | ⟨e, x, w, r, j, hp, hj2, rfl, rfl⟩ <;> clear hh <;> conv => whnf)) | refine AW.seq ?_ | refine AW.block ?_ | (refine (_root_.id : AW _ _ _ (.region 5 _ true) _ _ → _) ?_; refine AW.draw (id := 5) tab_ok mixed [0, 2, 3, 4, 5, 1, 6, 7] (by kernel_rfl) ?_; conv => whnf) | ((first | refine AW.region tab_ok ?_ | refine AW.cond ?_ | refine AW.skip ?_ | refine AW.ret ?_ | refine AW.exit ?_); conv => whnf) | ((first | refine And.intro (@rfl Val _) ?_ | refine And.intro (by decide) ?_ | refine cs (fun _ => ?_) (fun _ => ?_)) <;> conv => whnf)
  any_goals
    (refine AW.loop (ι := IsIT l i (pIs l (pTerm l n) i)) (fun x => ⟨20, [(3, .c (.ptr 2 0)), (2, .c (.ptr 1 0)), (0, .c (.ptr 0 0))], [.var [.d (.sl 0 4 (wrows l)), .d (.int .i64 x.j)], .var _, .var x.c], []⟩) (fun x => l.length - x.j) ⟨.node k nm ag nu tk tks uk uks lb pl ks, _, .z _, j, l.length + 1, hj1, hj2, by omega, by simp only [pIs, hp, bindP_ok]⟩ 3 (fun _ => rfl) (Nat.le_of_ble_eq_true rfl) ⟨⟨rfl, rfl, rfl, trivial⟩, rfl, rfl, ⟨[], rfl⟩, rfl⟩ (fun x => ?_)
     obtain ⟨⟨sk, snm, sag, snu, stk, stks, suk, suks, slb, spl, sks⟩, c, hc, j0, m, h1, h2, h3, hx⟩ := x
     obtain ⟨m, rfl⟩ : ∃ q, m = q + 1 := ⟨m - 1, by omega⟩
     dsimp only
     cases hc
     all_goals try simp only [Tm.cellsR, List.map_cons, List.map_nil]
     all_goals
       repeat' first | ((refine (T _ (by omega) _ _ (by decide)).mono ?_; rintro _ _ (⟨ht, hlt, rfl, rfl⟩ | ⟨ht, rfl, rfl⟩) <;> conv => whnf)) | ((refine (N _ (by omega)).mono ?_; rintro _ _ (⟨⟨wk, wt, wn, wp⟩, hw, hlt, rfl, rfl⟩ | ⟨hw, hge, rfl, rfl⟩) <;> conv => whnf)) | ((refine (Y _ (by omega)).mono ?_; intro o σ hh; rcases prT_cases hh with ⟨⟨ak, aks⟩, j, hp, hj1, hj2, rfl, rfl⟩ | ⟨e, x, w, r, j, hp, hj2, rfl, rfl⟩ <;> clear hh <;> conv => whnf)) | refine AW.seq ?_ | refine AW.block ?_ | (refine (_root_.id : AW _ _ _ (.region 5 _ true) _ _ → _) ?_; refine AW.draw (id := 5) tab_ok mixed [0, 2, 3, 4, 5, 1, 6, 7] (by kernel_rfl) ?_; conv => whnf) | ((first | refine AW.region tab_ok ?_ | refine AW.cond ?_ | refine AW.skip ?_ | refine AW.ret ?_ | refine AW.exit ?_); conv => whnf) | ((first | refine And.intro (@rfl Val _) ?_ | refine And.intro (by decide) ?_ | refine cs (fun _ => ?_) (fun _ => ?_)) <;> conv => whnf)
     all_goals first
       | (clear T N Y U
          rw [hx, isLoop, if_neg (by simp [*])]
          refine ⟨rfl, rfl, ?_, ?_⟩ <;> first | trivial | omega)
       | (exfalso; omega)
       | (clear T N Y U
          rw [hx, isLoop, if_pos (by assumption)]
          simp only [placeW, *, bindP_bad, bindP_ok]
          exact ⟨_, rfl, _, by first | assumption | omega, rfl⟩)
       | (refine ⟨⟨tn 16 s0 s0 0 (.node ak aks) ty0 wp [.node sk snm sag snu stk stks suk suks slb spl sks], _, .n _ _ _ _ _ _ _ _ _ _, j, m, by omega, by omega, by omega, ?_⟩, ⟨⟨rfl, rfl, rfl, trivial⟩, rfl, rfl, ⟨[_], rfl⟩, rfl⟩, ?_⟩
          · clear T N Y U
            rw [hx, isLoop, if_pos (by assumption)]
            simp only [placeW, *, bindP_bad, bindP_ok]
          · show l.length - j < l.length - j0
            omega)
       | (refine ⟨⟨tn 16 s0 s0 0 (.node ak aks) ty0 wp [.node sk snm sag snu stk stks suk [] slb spl sks], _, .n _ _ _ _ _ _ _ _ _ _, j, m, by omega, by omega, by omega, ?_⟩, ⟨⟨rfl, rfl, rfl, trivial⟩, rfl, rfl, ⟨[_], rfl⟩, rfl⟩, ?_⟩
          · clear T N Y U
            rw [hx, isLoop, if_pos (by assumption)]
            simp only [placeW, *, bindP_bad, bindP_ok]
          · show l.length - j < l.length - j0
            omega)
      )
  all_goals first
    | (clear T N Y U
       try dsimp only at *
       try simp only [bne_iff_ne, ne_eq, beq_iff_eq, bne_eq_false_iff_eq, beq_eq_false_iff_ne, decide_eq_true_eq, decide_eq_false_iff_not] at *
       first
         | (exfalso; omega)
         | (simp only [pIs, wbad, *, if_true, if_false, bindP_ok, bindP_bad, Bool.false_eq_true]
            first
              | (refine ⟨rfl, rfl, ?_, ?_⟩ <;> first | trivial | omega)
              | exact ⟨_, rfl, _, by first | assumption | omega, rfl⟩
             ))
end Go.Proofs.YtmaokphbfjpodaaGreatDoor.E

/- Walks: parse.reader: its results' blocks are of tags 1 and 4. No conditions. -/
set_option linter.unusedVariables false
set_option linter.unusedSimpArgs false
namespace Go.Proofs.YtmaokphbfjpodaaGreatDoor.E
open Go

theorem pun_allT (l : List Wd) (n : Nat) (hW : PTermCT l n) (hl : l.length ≤ 1000000) : ∀ m, UnCT l n m
  | 0, i, hi, hm, hn => absurd hm (Nat.not_lt_zero _)
  | m + 1, i, hi, hm, hn => pun_stepT l n hW m (pun_allT l n hW hl m) hl i hi hm hn
theorem pis_allT (l : List Wd) (n : Nat) (hW : PTermCT l n) (hl : l.length ≤ 1000000) (i : Nat) (hi : i ≤ l.length) (hn : l.length - i < n + 1) :
    ACall Tryz.prog 76 [.c (.ptr 0 0)] (rdObj l i) (prT l (Tm.valR 1 4) i (pIs l (pTerm l n) i)) :=
  pisT_call l n (fun i hi hn => pcmpT_call l n (fun i hi hn => psumT_call l n (fun i hi hn => pmulT_call l n (fun i hi hn => pun_allT l n hW hl (l.length + 1) i hi (by omega) hn) i hi hn hl) i hi hn hl) i hi hn hl) i hi hn hl
set_option maxRecDepth 10000 in
set_option maxHeartbeats 2000000 in
theorem pterm_stepT (l : List Wd) (n : Nat) (hW : PTermCT l n) (hl : l.length ≤ 1000000) : PTermCT l (n + 1) := by
  intro i hi hn
  have T := fun j hj k s hk => ptake_split l j k s hk hj hl
  have N := fun j hj => pnext_split l j hj hl
  have S := fun j hj s => psign_call l s j hj hl
  have K := fun j hj s => pkey_call l s j hj hl
  have Y := fun j hj => ptypT_call l j hj hl
  have E := fun j hj => pname_call l j hj hl
  have A := fun j hj => pannT_call l j hj hl
  have B := fun j hj hn => pbranchT_call l n hW j hj hn hl
  have I := fun j hj hn => pis_allT l n hW hl j hj hn
  have W := hW
  unfold PTermCT at W
  simp only [rdObj] at T N S K Y E A B I W ⊢
  refine ACall.body tab_ok (ρ := 4) (N := 142) Tryz.func37 rfl rfl rfl rfl rfl ?_
  repeat' first | ((refine (T _ (by omega) _ _ (by decide)).mono ?_; rintro _ _ (⟨ht, hlt, rfl, rfl⟩ | ⟨ht, rfl, rfl⟩) <;> conv => whnf)) | ((refine (N _ (by omega)).mono ?_; rintro _ _ (⟨⟨wk, wt, wn, wp⟩, hw, hlt, rfl, rfl⟩ | ⟨hw, hge, rfl, rfl⟩) <;> conv => whnf)) | ((refine (S _ (by omega) _).mono ?_; intro o σ hh; rcases prR_cases hh with ⟨⟨⟩, j, hp, hj1, hj2, rfl, rfl⟩ | ⟨e, x, w, j, hp, hj2, rfl, rfl⟩ <;> clear hh <;> conv => whnf)) | ((refine (K _ (by omega) _).mono ?_; intro o σ hh; rcases prR_cases hh with ⟨⟨⟩, j, hp, hj1, hj2, rfl, rfl⟩ | ⟨e, x, w, j, hp, hj2, rfl, rfl⟩ <;> clear hh <;> conv => whnf)) | ((refine (Y _ (by omega)).mono ?_; intro o σ hh; rcases prT_cases hh with ⟨⟨ak, aks⟩, j, hp, hj1, hj2, rfl, rfl⟩ | ⟨e, x, w, r, j, hp, hj2, rfl, rfl⟩ <;> clear hh <;> conv => whnf)) | ((refine (E _ (by omega)).mono ?_; intro o σ hh; rcases prR_cases hh with ⟨x, j, hp, hj1, hj2, rfl, rfl⟩ | ⟨e, x, w, j, hp, hj2, rfl, rfl⟩ <;> clear hh <;> conv => whnf)) | ((refine (A _ (by omega)).mono ?_; intro o σ hh; rcases prT_cases hh with ⟨⟨x, ⟨ak, aks⟩⟩, j, hp, hj1, hj2, rfl, rfl⟩ | ⟨e, x, w, r, j, hp, hj2, rfl, rfl⟩ <;> clear hh <;> conv => whnf)) | ((refine (B _ (by omega) (by omega)).mono ?_; intro o σ hh; rcases prT_cases hh with ⟨⟨x, ⟨k, nm, ag, nu, tk, tks, uk, uks, lb, pl, ks⟩⟩, j, hp, hj1, hj2, rfl, rfl⟩ | ⟨e, x, w, r, j, hp, hj2, rfl, rfl⟩ <;> clear hh <;> conv => whnf)) | ((refine (I _ (by omega) (by omega)).mono ?_; intro o σ hh; rcases prT_cases hh with ⟨⟨k, nm, ag, nu, tk, tks, uk, uks, lb, pl, ks⟩, j, hp, hj1, hj2, rfl, rfl⟩ | ⟨e, x, w, r, j, hp, hj2, rfl, rfl⟩ <;> clear hh <;> conv => whnf)) | ((refine (W _ (by omega) (by omega)).mono ?_; intro o σ hh; rcases prT_cases hh with ⟨⟨k, nm, ag, nu, tk, tks, uk, uks, lb, pl, ks⟩, j, hp, hj1, hj2, rfl, rfl⟩ | ⟨e, x, w, r, j, hp, hj2, rfl, rfl⟩ <;> clear hh <;> conv => whnf)) | refine AW.seq ?_ | refine AW.block ?_ | (refine (_root_.id : AW _ _ _ (.region 5 _ true) _ _ → _) ?_; refine AW.draw (id := 5) tab_ok mixed [0, 1, 2, 3, 4, 5, 6, 7, 8] (by kernel_rfl) ?_; conv => whnf) | (refine (_root_.id : AW _ _ _ (.region 11 _ true) _ _ → _) ?_; refine AW.draw (id := 11) tab_ok mixed [0, 1, 2, 3, 4, 5, 6, 7, 8, 9] (by kernel_rfl) ?_; conv => whnf) | (refine (_root_.id : AW _ _ _ (.region 17 _ true) _ _ → _) ?_; refine AW.draw (id := 17) tab_ok mixed [0, 1, 2, 3, 4, 5, 6, 7, 8] (by kernel_rfl) ?_; conv => whnf) | (refine (_root_.id : AW _ _ _ (.region 26 _ true) _ _ → _) ?_; refine AW.draw (id := 26) tab_ok mixed [0, 1, 2, 3, 4, 5, 6, 7, 8, 9, 10] (by kernel_rfl) ?_; conv => whnf) | ((first | refine AW.region tab_ok ?_ | refine AW.cond ?_ | refine AW.skip ?_ | refine AW.ret ?_ | refine AW.exit ?_); conv => whnf) | ((first | refine And.intro (@rfl Val _) ?_ | refine And.intro (by decide) ?_ | refine cs (fun _ => ?_) (fun _ => ?_)) <;> conv => whnf)
  all_goals first
    | (clear T N S K Y E A B I W
       try dsimp only at *
       try simp only [bne_iff_ne, ne_eq, beq_iff_eq, bne_eq_false_iff_eq, beq_eq_false_iff_ne, decide_eq_true_eq, decide_eq_false_iff_not] at *
       first
         | (exfalso; omega)
         | (simp only [pTerm, pStep, lamP, letP, ifP, recP, caseP, placeW, wbad, *, if_true, if_false, bindP_ok, bindP_bad, Bool.false_eq_true]
            first
              | (refine ⟨rfl, rfl, ?_, ?_⟩ <;> first | trivial | omega)
              | exact ⟨_, rfl, _, by first | assumption | omega, rfl⟩
             ))
theorem ptermT_call (l : List Wd) (hl : l.length ≤ 1000000) : ∀ n, PTermCT l n
  | 0, i, hi, hn => absurd hn (Nat.not_lt_zero _)
  | n + 1, i, hi, hn => pterm_stepT l n (ptermT_call l hl n) hl i hi hn
end Go.Proofs.YtmaokphbfjpodaaGreatDoor.E

/- Walks: parse.Words: its result's blocks are of tags 1 and 4. No conditions. -/
set_option linter.unusedVariables false
set_option linter.unusedSimpArgs false
namespace Go.Proofs.YtmaokphbfjpodaaGreatDoor.E
open Go

/-- What parse.Words tells at the first word. -/
def wordsRT (l : List Wd) (o : Out) (σ : List AObj) : Prop :=
  (∃ t j, wordsP l = .ok t j ∧ 0 < j ∧ j ≤ l.length ∧ o = .ret (.tup [t.valR 1 4, .c (.d (.int .i64 j)), .c (.d .nili)]) ∧ σ = []) ∨
  (∃ e x w r, wordsP l = .bad e x w ∧ o = .ret (.tup [tmZ.valR 1 4, .c (.d (.int .i64 0)), .c (.d (faultR r e x w))]) ∧ σ = [])
set_option maxRecDepth 10000 in
theorem wrecover_someT (r : Nat) (k : Int) (nm ag : ByteArray) (nu tk : Int) (x1 : DV) (uk : Int) (x2 : DV) (lb pl : Int) (x3 : DV) (a : Int) (c : DV) (y : List (List DV)) (z : Int) (e p : Int) (w : ByteArray) : ADef Tryz.prog 36 [.ptr 0 0, .ptr 1 0, .ptr 2 0] [.var (tcells k nm ag nu tk x1 uk x2 lb pl x3), .var [.d (.int .i64 a)], .var [.d c], .var [.d (.sl 0 4 y), .d (.int .i64 z)]] (.pan (panR r e p w) false)
    (fun o u σ => o = .ret (.tup []) ∧ u = .pan (panR r e p w) true ∧ σ = [.var (tcells 0 s0 s0 0 0 .nils 0 .nils 0 0 .nils), .var [.d (.int .i64 0)], .var [.ifc 58 (.d (.rp r [.int .i64 e, .int .i64 p, .str w]))], .var [.d (.sl 0 4 y), .d (.int .i64 z)]]) := by
  unfold tcells
  refine ADef.recover tab_ok (ρ := 0) (N := 15) (d := 6) Tryz.func36 rfl rfl rfl rfl rfl rfl rfl rfl rfl ?_
  repeat' first | refine AW.seq ?_ | refine AW.block ?_ | ((first | refine AW.region tab_ok ?_ | refine AW.cond ?_ | refine AW.skip ?_ | refine AW.ret ?_ | refine AW.exit ?_); conv => whnf) | ((first | refine And.intro (@rfl Val _) ?_ | refine And.intro (by decide) ?_ | refine cs (fun _ => ?_) (fun _ => ?_)) <;> conv => whnf)
  all_goals first | exact ⟨rfl, rfl, rfl⟩
set_option maxRecDepth 10000 in
set_option maxHeartbeats 1000000 in
theorem wordsT_call (l : List Wd) (hl : l.length ≤ 1000000) :
    ACall Tryz.prog 19 [.c (.d (.sl 0 4 (wrows l))), .c (.d (.int .i64 0))] [] (wordsRT l) := by
  have hm : max (0 : Int) (min (0 : Int) ((wrows l).length : Int)) = ((0 : Nat) : Int) := by rw [wrows_len]; omega
  have X : ACall Tryz.prog 37 [.c (.ptr 0 0)] [.var [.d (.sl 0 4 (wrows l)), .d (.int .i64 (max (0 : Int) (min (0 : Int) ((wrows l).length : Int))))]] (prT l (Tm.valR 1 4) 0 (pTerm l (l.length + 1) 0)) := by
    rw [hm]
    exact ptermT_call l hl (l.length + 1) 0 (Nat.zero_le _) (by omega)
  have CN : ∀ a : Tm, ACall Tryz.prog 26 [a.valR 1 4] [] (fun o σ => o = .ret (.c (.d (.int .i64 (min (tmN a) 8193 : Nat)))) ∧ σ = []) := fun a => (tnodes_call a).any (.cons (by rw [← tm_V0]; exact tm_rtV 1 4 0 a) .nil) (.int _ _)
  have CD : ∀ a : Tm, ACall Tryz.prog 27 [a.valR 1 4] [] (fun o σ => o = .ret (.c (.d (.int .i64 (tmDepth a)))) ∧ σ = []) := fun a => (tDepth_call a).any (.cons (by rw [← tm_V0]; exact tm_rtV 1 4 0 a) .nil) (.int _ _)
  refine ACall.bodyD tab_ok (ρ := 4) (N := 38) Tryz.func19 rfl rfl rfl rfl rfl ?_
  repeat' first | ((refine X.mono ?_; intro o σ hh; rcases prT_cases hh with ⟨⟨k, nm, ag, nu, tk, tks, uk, uks, lb, pl, ks⟩, j, hp, hj1, hj2, rfl, rfl⟩ | ⟨e, x, w, r, j, hp, hj2, rfl, rfl⟩ <;> conv => whnf)) | refine AW.seq ?_ | refine AW.block ?_ | (refine (_root_.id : AW _ _ _ (.region 8 _ true) _ _ → _) ?_; refine AW.draw (id := 8) tab_ok mixed [0, 1, 2, 3, 4, 5, 6, 7] (by kernel_rfl) ?_; conv => whnf) | ((first | refine AW.region tab_ok ?_ | refine AW.cond ?_ | refine AW.skip ?_ | refine AW.ret ?_ | refine AW.exit ?_); conv => whnf) | ((first | refine (CN (.node k nm ag nu tk tks uk uks lb pl ks)).mono ?_ | refine (CD (.node k nm ag nu tk tks uk uks lb pl ks)).mono ?_); rintro _ _ ⟨rfl, rfl⟩; conv => whnf) | ((first | refine And.intro (@rfl Val _) ?_ | refine And.intro (by decide) ?_ | refine cs (fun _ => ?_) (fun _ => ?_)) <;> conv => whnf)
  · refine (wrecover_own k nm ag nu tk _ uk _ lb pl _ _ _ _ _ _ _ _).mono ?_
    rintro _ _ _ ⟨rfl, rfl, rfl⟩
    conv => whnf
    rename_i h
    have h : tmN (.node k nm ag nu tk tks uk uks lb pl ks) > 8192 := by have := of_decide_eq_true h; omega
    first | exact .inr ⟨32, 0, s0, _, by rw [wordsP, hp, bindP_ok, if_pos h], rfl, rfl⟩
  · refine (wrecover_own k nm ag nu tk _ uk _ lb pl _ _ _ _ _ _ _ _).mono ?_
    rintro _ _ _ ⟨rfl, rfl, rfl⟩
    conv => whnf
    rename_i h h2
    have h : ¬ tmN (.node k nm ag nu tk tks uk uks lb pl ks) > 8192 := by have := of_decide_eq_false h; omega
    have h2 : tmDepth (.node k nm ag nu tk tks uk uks lb pl ks) > 200 := by have := of_decide_eq_true h2; omega
    first | exact .inr ⟨31, 0, s0, _, by rw [wordsP, hp, bindP_ok, if_neg h, if_pos h2], rfl, rfl⟩
  · refine (wrecover_none k nm ag nu tk _ uk _ lb pl _ _ _ _ _).mono ?_
    rintro _ _ _ ⟨rfl, rfl, rfl⟩
    conv => whnf
    rename_i h h2
    have h : ¬ tmN (.node k nm ag nu tk tks uk uks lb pl ks) > 8192 := by have := of_decide_eq_false h; omega
    have h2 : ¬ tmDepth (.node k nm ag nu tk tks uk uks lb pl ks) > 200 := by have := of_decide_eq_false h2; omega
    first | exact .inl ⟨.node k nm ag nu tk tks uk uks lb pl ks, j, by rw [wordsP, hp, bindP_ok, if_neg h, if_neg h2], by omega, hj2, rfl, rfl⟩
  · refine (wrecover_someT _ 0 s0 s0 0 0 .nils 0 .nils 0 0 .nils _ _ _ _ _ _ _).mono ?_
    rintro _ _ _ ⟨rfl, rfl, rfl⟩
    conv => whnf
    first | exact .inr ⟨_, _, _, _, by rw [wordsP, hp, bindP_bad], rfl, rfl⟩
end Go.Proofs.YtmaokphbfjpodaaGreatDoor.E

/- Walks: parse.Term: its result's blocks are of tags 1 and 4. No conditions. -/
set_option linter.unusedVariables false
set_option linter.unusedSimpArgs false
namespace Go.Proofs.YtmaokphbfjpodaaGreatDoor.E
open Go
def oTTp9_8_9 : OT := (.op 0 (.op 1 (.op 2 (.op 3 (.op 4 (.op 5 (.alt (.op 6 (.alt (.op 7 (.op 8 (.op 9 .nil))) (.op 8 (.op 7 (.op 9 .nil))))) (.op 8 (.op 6 (.op 7 (.op 9 .nil)))))))))))

set_option maxRecDepth 10000 in
set_option maxHeartbeats 2000000 in
theorem parseTermT_call (s : ByteArray) (u : Tm) (hr : readF s = .ok u) : ACall Tryz.prog 8 [.c (.d (.str s))] [] (fun o σ => o = .ret (.tup [u.valR 1 4, .c (.d .nili)]) ∧ σ = []) := by
  have A := all_call s
  cases hs : scanF s with
  | error x =>
    have hR : readF s = .error x := by unfold readF; rw [hs]
    rw [hR] at hr
    cases hr
  | ok l =>
    have A : ACall Tryz.prog 18 [.c (.d (.str s))] [] (fun o σ => o = .ret (.tup [.c (.d (.sl 0 4 (wrows l))), .c (.d .nili)]) ∧ σ = []) := A.mono fun o σ h => by unfold allR at h; rw [hs] at h; exact h
    obtain ⟨hz, ws, hl, hlen, _⟩ := scanF_ok hs
    have hE : EndW l ws.length := ⟨⟨0, s0, 0, s.size⟩, by rw [hl]; simp, rfl⟩
    have hll : l.length = ws.length + 1 := by rw [hl]; simp
    have W := wordsT_call l (by omega)
    have hB := wordsP_bd hE
    unfold wordsRT at W
    cases hw : wordsP l with
    | bad e a w =>
      have hR : readF s = .error (e, a, w) := by unfold readF; rw [hs]; simp only; rw [hw]
      rw [hR] at hr
      cases hr
    | ok t j =>
      have W : ACall Tryz.prog 19 [.c (.d (.sl 0 4 (wrows l))), .c (.d (.int .i64 0))] [] (fun o σ => o = .ret (.tup [t.valR 1 4, .c (.d (.int .i64 j)), .c (.d .nili)]) ∧ σ = []) := W.mono fun o σ h => by
        rw [hw] at h
        rcases h with ⟨t', j', h, _, _, h2⟩ | ⟨e', x', w', r', h, h2⟩
        · cases h; exact h2
        · cases h
      have hj := hB t j hw
      obtain ⟨w, hwj⟩ : ∃ w, l[j]? = some w := ⟨_, List.getElem?_eq_getElem (by omega)⟩
      have hrow : (wrows l)[j]? = some w.cells := by simp [wrows, hwj]
      obtain ⟨k, nm, ag, nu, tk, tks, uk, uks, lb, pl, ks⟩ := t
      obtain ⟨wk, wt, wn, wp⟩ := w
      have hR : readF s = if wk = 0 then .ok (.node k nm ag nu tk tks uk uks lb pl ks) else .error (40, wp, wt) := by unfold readF; rw [hs]; simp only; rw [hw]; simp only; rw [hwj]
      rw [hR] at hr
      by_cases hk0 : wk = 0
      · rw [if_pos hk0] at hr
        cases hr
        subst hk0
        refine ACall.body tab_ok (ρ := 4) (N := 44) Tryz.func8 rfl rfl rfl rfl rfl ?_
        repeat' first | refine AW.seq ?_ | refine AW.block ?_ | (refine (_root_.id : AW _ _ _ (.region 9 _ true) _ _ → _) ?_; refine AW.drawT (id := 9) tab_ok mixed [0, 1, 2, 3, 4, 5, 6, 7, 8, 9] oTTp9_8_9 (by kernel_rfl) ?_; conv => whnf) | (refine Fork.mk ?_ ?_ <;> conv => whnf) | ((first | refine AW.region tab_ok ?_ | refine AW.cond ?_ | refine AW.skip ?_ | refine AW.ret ?_ | refine AW.exit ?_); conv => whnf) | ((first | refine (A).mono ?_ | refine (W).mono ?_); rintro _ _ ⟨rfl, rfl⟩; conv => whnf) | ((first | refine And.intro (@rfl Val _) ?_ | refine And.intro (by decide) ?_ | refine cs (fun _ => ?_) (fun _ => ?_)) <;> conv => whnf)
        refine ⟨⟨by omega, by rw [wrows_len]; omega⟩, fun row hr => ?_⟩
        obtain rfl := Option.some.inj (hrow.symm.trans (by simpa using hr))
        conv => whnf
        repeat' first | refine AW.seq ?_ | refine AW.block ?_ | (refine (_root_.id : AW _ _ _ (.region 9 _ true) _ _ → _) ?_; refine AW.drawT (id := 9) tab_ok mixed [0, 1, 2, 3, 4, 5, 6, 7, 8, 9] oTTp9_8_9 (by kernel_rfl) ?_; conv => whnf) | (refine Fork.mk ?_ ?_ <;> conv => whnf) | ((first | refine AW.region tab_ok ?_ | refine AW.cond ?_ | refine AW.skip ?_ | refine AW.ret ?_ | refine AW.exit ?_); conv => whnf) | ((first | refine (A).mono ?_ | refine (W).mono ?_); rintro _ _ ⟨rfl, rfl⟩; conv => whnf) | ((first | refine And.intro (@rfl Val _) ?_ | refine And.intro (by decide) ?_ | refine cs (fun _ => ?_) (fun _ => ?_)) <;> conv => whnf)
        all_goals first | exact ⟨rfl, rfl⟩
      · rw [if_neg hk0] at hr
        cases hr
end Go.Proofs.YtmaokphbfjpodaaGreatDoor.E

/- Terms that may be told; numbers in range. No conditions. -/
set_option linter.unusedVariables false
set_option linter.unusedSimpArgs false
namespace Go.Proofs.YtmaokphbfjpodaaGreatDoor.E
open Go

def NumR (num : Int) : Prop := -9223372036854775808 ≤ num ∧ num ≤ 9223372036854775807
mutual
/-- All numbers are in range. -/
def tmInR : Tm → Prop
  | .node _ _ _ num _ _ _ _ _ _ ks => NumR num ∧ tmInRs ks
def tmInRs : List Tm → Prop
  | [] => True
  | t :: l => tmInR t ∧ tmInRs l
end
mutual
def tmBad : Tm → Bool
  | .node k name arg num tk tks uk uks label place ks => (decide (k = 17) || (decide (k = 1) && decide (num = -9223372036854775808))) || tmBads ks
def tmBads : List Tm → Bool
  | [] => false
  | t :: l => tmBad t || tmBads l
end
end Go.Proofs.YtmaokphbfjpodaaGreatDoor.E

/- What the parser takes is a term, in plain Lean. No conditions. -/
set_option linter.unusedVariables false
set_option linter.unusedSimpArgs false
set_option linter.unusedSectionVars false
namespace Go.Proofs.YtmaokphbfjpodaaGreatDoor.E
open Go

def Gd {α : Type} (Q : α → Prop) (p : PR α) : Prop := ∀ x j, p = .ok x j → Q x
/-- Words as the scanner makes them. -/
def WsOk (l : List Wd) : Prop := ∀ w ∈ l, (w.kind = 1 → nameF w.text = true) ∧ (w.kind = 2 → 0 ≤ w.num ∧ w.num ≤ 9223372036854775807)
def Good (t : Tm) : Prop := tmright t = true ∧ tmInR t ∧ tmBad t = false
theorem gd_bad {α : Type} {Q : α → Prop} {e a : Int} {w : ByteArray} : Gd Q (.bad e a w : PR α) := fun x j h => by cases h
theorem gd_wbad {α : Type} {Q : α → Prop} {l : List Wd} {i : Nat} : Gd Q (wbad l i : PR α) := gd_bad
theorem gd_ok {α : Type} {Q : α → Prop} {x : α} {j : Nat} (h : Q x) : Gd Q (.ok x j : PR α) := fun y j h => by cases h; assumption
theorem gd_bind {α β : Type} {P : α → Prop} {Q : β → Prop} {p : PR α} {f : α → Nat → PR β} (h : Gd P p) (hf : ∀ x j, P x → Gd Q (f x j)) : Gd Q (bindP p f) := by
  cases p with
  | ok x j => exact hf x j (h x j rfl)
  | bad e a w => exact gd_bad
theorem gd_ite {α : Type} {Q : α → Prop} {P : Prop} [Decidable P] {a b : PR α} (ha : Gd Q a) (hb : Gd Q b) : Gd Q (if P then a else b) := by
  split
  · exact ha
  · exact hb
theorem tmInRs_all : ∀ {ks : List Tm}, (∀ t ∈ ks, tmInR t) → tmInRs ks
  | [], _ => trivial
  | t :: l, h => ⟨h t (by simp), tmInRs_all fun x hx => h x (by simp [hx])⟩
theorem tmBads_all : ∀ {ks : List Tm}, (∀ t ∈ ks, tmBad t = false) → tmBads ks = false
  | [], _ => rfl
  | t :: l, h => by rw [tmBads, h t (List.mem_cons_self ..), tmBads_all fun x hx => h x (List.mem_cons_of_mem _ hx)]; rfl
theorem good_tn {k : Int} {name arg : ByteArray} {num : Int} {a b : Ty} {p : Int} {ks : List Tm} (h1 : kidsK k = ks.length) (h2 : k ≠ 17) (h3 : nameK k = true → nameF name = true) (h4 : argK k = true → nameF arg = true) (h5 : typeK k = true → tcheck a = 0) (h6 : toK k = true → tcheck b = 0)
    (h7 : k = 15 → opF name = true) (h8 : k = 1 → -9223372036854775808 < num) (h9 : -9223372036854775808 ≤ num ∧ num ≤ 9223372036854775807) (h10 : ∀ t ∈ ks, Good t) : Good (tn k name arg num a b p ks) := by
  obtain ⟨tk, tks⟩ := a
  obtain ⟨uk, uks⟩ := b
  refine ⟨?_, ?_, ?_⟩
  · simp only [tn, tmright, ownRight, Bool.and_eq_true, Bool.or_eq_true, Bool.not_eq_true', decide_eq_true_eq, decide_eq_false_iff_not]
    refine ⟨⟨⟨⟨⟨⟨⟨h1, .inl h2⟩, ?_⟩, ?_⟩, ?_⟩, ?_⟩, ?_⟩, (tmrights_all ks).2 fun t ht => (h10 t ht).1⟩
    · cases hq : nameK k <;> simp_all
    · cases hq : argK k <;> simp_all
    · cases hq : typeK k <;> simp_all
    · cases hq : toK k <;> simp_all
    · by_cases hq : k = 15 <;> simp_all
  · exact ⟨h9, tmInRs_all fun t ht => (h10 t ht).2.1⟩
  · simp only [tn, tmBad, Bool.or_eq_false_iff, Bool.and_eq_false_iff, decide_eq_false_iff_not]
    refine ⟨⟨h2, ?_⟩, tmBads_all fun t ht => (h10 t ht).2.2⟩
    by_cases hq : k = 1
    · exact .inr (by have := h8 hq; omega)
    · exact .inl hq
section
variable {l : List Wd} (hl : WsOk l)
include hl
theorem typP_gd (i : Nat) : Gd (fun a => tcheck a = 0) (typP l i) := by
  unfold typP
  intro x j h
  cases hp : tWhole l (l.length + 1) i with
  | bad e a w => rw [hp] at h; cases h
  | ok a q =>
    rw [hp, bindP_ok] at h
    split at h
    · cases h; assumption
    · cases h
theorem mustP_gd (k : Int) (s : ByteArray) (i : Nat) : Gd (fun _ => True) (mustP l k s i) := fun _ _ _ => trivial
theorem nameP_gd (i : Nat) : Gd (fun x => nameF x = true) (nameP l i) := by
  unfold nameP
  split
  · rename_i w hw
    split
    · rename_i hk
      exact gd_ok ((hl w (List.mem_of_getElem? hw)).1 hk)
    · exact gd_wbad
  · exact gd_wbad
theorem numP_gd (p : Int) (i : Nat) : Gd Good (numP l p i) := by
  unfold numP
  split
  · rename_i w hw
    split
    · rename_i hk
      have h := (hl w (List.mem_of_getElem? hw)).2 hk
      refine gd_ok ?_
      rw [wrap64 (by omega) (by omega)]
      exact good_tn rfl (by decide) (fun h => absurd h (by decide)) (fun h => absurd h (by decide)) (fun h => absurd h (by decide)) (fun h => absurd h (by decide)) (fun h => absurd h (by decide)) (fun _ => by omega) ⟨by omega, by omega⟩ (fun t ht => by simp at ht)
    · exact gd_wbad
  · exact gd_wbad
theorem must4_gd (s : ByteArray) (i : Nat) : Gd (fun _ => True) (mustP l 4 s i) := mustP_gd hl 4 s i
theorem must3_gd (s : ByteArray) (i : Nat) : Gd (fun _ => True) (mustP l 3 s i) := mustP_gd hl 3 s i
theorem annP_gd (i : Nat) : Gd (fun x : ByteArray × Ty => nameF x.1 = true ∧ tcheck x.2 = 0) (annP l i) := by
  unfold annP
  repeat' first | with_reducible exact gd_bad | with_reducible exact gd_wbad | (with_reducible refine gd_ok ?_) | (with_reducible refine gd_bind (must4_gd hl _ _) (fun x j hx => ?_)) | (with_reducible refine gd_bind (must3_gd hl _ _) (fun x j hx => ?_)) | (with_reducible refine gd_bind (nameP_gd hl _) (fun x j hx => ?_)) | (with_reducible refine gd_bind (typP_gd hl _) (fun x j hx => ?_)) | (with_reducible refine gd_bind (numP_gd hl _ _) (fun x j hx => ?_)) | with_reducible exact must4_gd hl _ _ | with_reducible exact must3_gd hl _ _ | with_reducible exact nameP_gd hl _ | with_reducible exact typP_gd hl _ | with_reducible exact numP_gd hl _ _ | (with_reducible refine gd_ite ?_ ?_) | exact ⟨by assumption, by assumption⟩
theorem isOp_text {ops : List ByteArray} {i : Nat} (h : isOp l ops i = true) (hs : ∀ s ∈ ops, opF s = true) : opF (textW l i) = true := by
  simp only [isOp, List.any_eq_true] at h
  obtain ⟨s, hm, h⟩ := h
  unfold tkW at h
  unfold textW
  cases hg : l[i]? with
  | none => rw [hg] at h; cases h
  | some w =>
    rw [hg] at h
    simp only [Bool.and_eq_true, decide_eq_true_eq] at h
    simp only
    rw [h.2]; exact hs s hm
end
end Go.Proofs.YtmaokphbfjpodaaGreatDoor.E
