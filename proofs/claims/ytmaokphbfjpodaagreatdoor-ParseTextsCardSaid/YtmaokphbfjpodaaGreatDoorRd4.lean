/- Walks: the document's reader: op, atom, app, in, un. No conditions. -/
import Derived.Test.YtmaokphbfjpodaaGreatDoorRd3
import Derived.Test.YtmaokphbfjpodaaGreatDoorGenX7
set_option linter.unusedVariables false
set_option linter.unusedSimpArgs false
namespace Go.Proofs.YtmaokphbfjpodaaGreatDoor.E
open Go

set_option maxRecDepth 10000 in
set_option maxHeartbeats 2000000 in
theorem r4op_call (s : ByteArray) (p : Int) (k : Int) (nm ag : ByteArray) (nu tk : Int) (d1 : List (List DV)) (uk : Int) (d2 : List (List DV)) (lb pl : Int) (d3 : List (List DV)) (k' : Int) (nm' ag' : ByteArray) (nu' tk' : Int) (d1' : List (List DV)) (uk' : Int) (d2' : List (List DV)) (lb' pl' : Int) (d3' : List (List DV)) : ACall Tryz.prog 148 [.c (.d (.str s)), .c (.d (.int .i64 p)), .agg [.d (.int .i8 k), .d (.str nm), .d (.str ag), .d (.int .i64 nu), .d (.int .i8 tk), .d (.sl 0 2 d1), .d (.int .i8 uk), .d (.sl 0 2 d2), .d (.int .i64 lb), .d (.int .i64 pl), .d (.sl 0 11 d3)], .agg [.d (.int .i8 k'), .d (.str nm'), .d (.str ag'), .d (.int .i64 nu'), .d (.int .i8 tk'), .d (.sl 0 2 d1'), .d (.int .i8 uk'), .d (.sl 0 2 d2'), .d (.int .i64 lb'), .d (.int .i64 pl'), .d (.sl 0 11 d3')]] [] (fun o σ => o = .ret (.agg [.d (.int .i8 15), .d (.str s), .d (.str ⟨#[]⟩), .d (.int .i64 0), .d (.int .i8 0), .d (.sl 0 2 []), .d (.int .i8 0), .d (.sl 0 2 []), .d (.int .i64 0), .d (.int .i64 p), .d (.sl 0 11 [[.int .i8 k, .str nm, .str ag, .int .i64 nu, .int .i8 tk, .sl 0 2 d1, .int .i8 uk, .sl 0 2 d2, .int .i64 lb, .int .i64 pl, .sl 0 11 d3], [.int .i8 k', .str nm', .str ag', .int .i64 nu', .int .i8 tk', .sl 0 2 d1', .int .i8 uk', .sl 0 2 d2', .int .i64 lb', .int .i64 pl', .sl 0 11 d3']])]) ∧ σ = []) := by
  refine ACall.body tab_ok (ρ := 0) (N := 15) Tryz.func148 rfl rfl rfl rfl rfl ?_
  repeat' first | refine AW.seq ?_ | refine AW.block ?_ | ((first | refine AW.region tab_ok ?_ | refine AW.cond ?_ | refine AW.skip ?_ | refine AW.ret ?_ | refine AW.exit ?_); conv => whnf) | ((first | refine And.intro (@rfl Val _) ?_ | refine And.intro (by decide) ?_ | refine cs (fun _ => ?_) (fun _ => ?_)) <;> conv => whnf)
  all_goals first | exact ⟨rfl, rfl⟩
def PTermR (l : List Wd) (n : Nat) : Prop := ∀ i, i ≤ l.length → l.length - i < n → ACall Tryz.prog 41 [.agg [.ptr 0 0]] (rfO l i 0 0 ⟨#[]⟩) (rfR l Tm.val GTm i (pTerm l n i))
/-- A garbage variable's cells. -/
inductive CG : List AV → Prop
  | mk (k : Int) (nm ag : ByteArray) (nu tk : Int) (d1 : List (List DV)) (uk : Int) (d2 : List (List DV)) (lb pl : Int) (d3 : List (List DV)) : CG [.d (.int .i8 k), .d (.str nm), .d (.str ag), .d (.int .i64 nu), .d (.int .i8 tk), .d (.sl 0 2 d1), .d (.int .i8 uk), .d (.sl 0 2 d2), .d (.int .i64 lb), .d (.int .i64 pl), .d (.sl 0 11 d3)]
  | n (k : Int) (nm ag : ByteArray) (nu tk : Int) (uk : Int) (lb pl : Int) (d3 : List (List DV)) : CG [.d (.int .i8 k), .d (.str nm), .d (.str ag), .d (.int .i64 nu), .d (.int .i8 tk), .d .nils, .d (.int .i8 uk), .d .nils, .d (.int .i64 lb), .d (.int .i64 pl), .d (.sl 0 11 d3)]
  | t (k : Int) (nm ag : ByteArray) (nu tk : Int) (d1 : List (List DV)) (uk : Int) (lb pl : Int) (d3 : List (List DV)) : CG [.d (.int .i8 k), .d (.str nm), .d (.str ag), .d (.int .i64 nu), .d (.int .i8 tk), .d (.sl 0 2 d1), .d (.int .i8 uk), .d .nils, .d (.int .i64 lb), .d (.int .i64 pl), .d (.sl 0 11 d3)]
theorem tk_text {l : List Wd} {j : Nat} {k : Int} {s : ByteArray} (h : tkW l j k s = true) : textW l j = s := by
  unfold tkW at h
  unfold textW
  cases hg : l[j]? with
  | none => rw [hg] at h; cases h
  | some w => rw [hg] at h; simp at h; exact h.2
theorem isOp_1 {l : List Wd} {j : Nat} {s s' : ByteArray} (h : tkW l j 4 s = true) : isOp l [s, s'] j = true := by simp [isOp, h]
theorem isOp_2 {l : List Wd} {j : Nat} {s s' : ByteArray} (h : tkW l j 4 s' = true) : isOp l [s, s'] j = true := by simp [isOp, h]
theorem isOp_0 {l : List Wd} {j : Nat} {s s' : ByteArray} (h : tkW l j 4 s = false) (h' : tkW l j 4 s' = false) : isOp l [s, s'] j = false := by simp [isOp, h, h']
def appP (l : List Wd) (W : Nat → PR Tm) (i : Nat) : PR Tm := bindP (pAtom l W i) fun t j => appLoop l W (l.length + 1) t j
theorem appP_fold (l : List Wd) (W : Nat → PR Tm) (i : Nat) : (bindP (pAtom l W i) fun t j => appLoop l W (l.length + 1) t j) = appP l W i := rfl
set_option maxRecDepth 10000 in
set_option maxHeartbeats 2000000 in
theorem ratom4_ok (l : List Wd) (n : Nat) (hW : PTermR l n) (i : Nat) (hi : i ≤ l.length) (hn : l.length - i < n + 1) (hl : l.length ≤ 1000000) :
    ACall Tryz.prog 172 [.agg [.ptr 0 0]] (rfO l i 0 0 ⟨#[]⟩) (rfR l Tm.val GTm i (pAtom l (pTerm l n) i)) := by
  have A := fun j e x u => rat_call l j e x u hl
  have K := fun j s => rKey_ok l j s hl
  have S := fun j s => rSign_ok l j s hl
  have Q := fun j s => rWant_ok l j s hl
  have Q' := fun j e x u s he => rWant_bad l j e x u s he
  have X := fun j => rWrong_ok l j hl
  have W := hW
  have W' := fun j e x u he => rterm_bad l j e x u hl he
  unfold PTermR at W
  have hb : i < l.length → IntKind.i64.wrap (IntKind.i64.wrap ((i : Int) + 1) - 1) = ((i : Nat) : Int) := fun h => by rw [wrap64 (x := (i : Int) + 1) (by omega) (by omega), wrap64 (by omega) (by omega)]; omega
  have hwi : i < l.length → IntKind.i64.wrap ((i : Int) + 1) = ((i + 1 : Nat) : Int) := fun h => by rw [wrap64 (x := (i : Int) + 1) (by omega) (by omega)]; omega
  simp only [rfO, takeR, wantR] at A K S Q Q' X W W' ⊢
  by_cases hlt : i < l.length
  · have hb := hb hlt
    have hwi := hwi hlt
    obtain ⟨⟨wk, wt, wn, wp⟩, hw⟩ : ∃ w, l[i]? = some w := ⟨_, List.getElem?_eq_getElem hlt⟩
    have hrow : (wrows l)[i]? = some (Wd.mk wk wt wn wp).cells := by simp [wrows, hw]
    have hpw : placeW l i = wp := by unfold placeW; rw [hw]
    refine ACall.body tab_ok (ρ := 0) (N := 154) Tryz.func172 rfl rfl rfl rfl rfl ?_
    repeat' first | ((refine And.intro (⟨by omega, by rw [wrows_len]; omega⟩ : (0 : Int) ≤ _ ∧ _ < _) ?_; intro row hr; obtain rfl := Option.some.inj (hrow.symm.trans (by simpa using hr)); conv => whnf)) | ((rw [hb]; refine And.intro (⟨by omega, by rw [wrows_len]; omega⟩ : (0 : Int) ≤ _ ∧ _ < _) ?_; intro row hr; obtain rfl := Option.some.inj (hrow.symm.trans (by simpa using hr)); conv => whnf)) | ((refine (A _ _ _ _).mono ?_; rintro _ _ ⟨rfl, rfl⟩; conv => whnf)) | ((refine (K _ _).mono ?_; rintro _ _ (⟨ht, hlt, rfl, rfl⟩ | ⟨ht, rfl, rfl⟩) <;> conv => whnf)) | ((refine (S _ _).mono ?_; rintro _ _ (⟨ht, hlt, rfl, rfl⟩ | ⟨ht, rfl, rfl⟩) <;> conv => whnf)) | ((refine (Q _ _).mono ?_; rintro _ _ (⟨ht, hlt, rfl, rfl⟩ | ⟨ht, rfl, rfl⟩) <;> conv => whnf)) | ((refine (Q' _ _ _ _ _ (by first | assumption | decide)).mono ?_; rintro _ _ ⟨rfl, rfl⟩; conv => whnf)) | ((refine (X _).mono ?_; rintro _ _ ⟨rfl, rfl⟩; conv => whnf)) | ((refine (W _ (by omega) (by omega)).mono ?_; intro o σ hh; rcases rfR_cases hh with ⟨⟨k, nm, ag, nu, tk, tks, uk, uks, lb, pl, ks⟩, j, hp, hj1, hj2, rfl, rfl⟩ | ⟨e, x, w, v, j, hp, he, ⟨gk, gnm, gag, gnu, gtk, gd1, guk, gd2, glb, gpl, gd3, rfl⟩, rfl, rfl⟩ <;> clear hh <;> conv => whnf)) | ((refine (W' _ _ _ _ (by first | assumption | decide)).mono ?_; rintro _ _ ⟨rfl, rfl⟩; conv => whnf)) | refine AW.seq ?_ | refine AW.block ?_ | (refine (_root_.id : AW _ _ _ (.region 2 _ true) _ _ → _) ?_; refine AW.draw (id := 2) tab_ok mixed [0, 1, 2, 3, 4, 5, 6, 7, 8, 9, 10, 11, 12, 13, 14, 15, 16, 17, 18, 19, 20, 21] (by kernel_rfl) ?_; conv => whnf) | (refine (_root_.id : AW _ _ _ (.region 3 _ true) _ _ → _) ?_; refine AW.draw (id := 3) tab_ok mixed [0, 1, 2, 3, 4, 5, 6, 7, 8, 9, 10, 11, 12, 13, 14] (by kernel_rfl) ?_; conv => whnf) | (refine (_root_.id : AW _ _ _ (.region 5 _ true) _ _ → _) ?_; refine AW.draw (id := 5) tab_ok mixed [0, 1, 2, 3, 4, 5, 6, 7, 8, 9, 10, 11, 12, 13, 14, 15, 16] (by kernel_rfl) ?_; conv => whnf) | (refine (_root_.id : AW _ _ _ (.region 6 _ true) _ _ → _) ?_; refine AW.draw (id := 6) tab_ok mixed [0, 1, 2, 3, 4, 5, 6, 7, 8, 9, 10, 11, 12, 13, 14] (by kernel_rfl) ?_; conv => whnf) | (refine (_root_.id : AW _ _ _ (.region 8 _ true) _ _ → _) ?_; refine AW.draw (id := 8) tab_ok mixed [0, 1, 2, 3, 4, 5, 6, 7, 8, 9, 10, 11, 12, 13, 14, 15, 16] (by kernel_rfl) ?_; conv => whnf) | ((first | refine AW.region tab_ok ?_ | refine AW.cond ?_ | refine AW.skip ?_ | refine AW.ret ?_ | refine AW.exit ?_); conv => whnf) | ((first | refine And.intro (@rfl Val _) ?_ | refine And.intro (by decide) ?_ | refine cs (fun _ => ?_) (fun _ => ?_)) <;> conv => whnf)
    all_goals
      clear A K S Q Q' X W W' hW
      try simp only [wrows_len, cond_true, cond_false, bne_iff_ne, ne_eq, beq_iff_eq, bne_eq_false_iff_eq, beq_eq_false_iff_ne, decide_eq_true_eq, decide_eq_false_iff_not] at *
      first
        | (exfalso; omega)
        | (try rw [hwi]
           simp only [pAtom, mustP, wbad, *, if_true, if_false, bindP_ok, bindP_bad, Bool.false_eq_true]
           first
             | (refine ⟨rfl, rfl, ?_, ?_⟩ <;> first | trivial | omega)
             | exact ⟨(by first | assumption | decide), _, _, ⟨_, _, _, _, _, _, _, _, _, _, _, rfl⟩, rfl, rfl⟩
            )
  · have hw : l[i]? = none := List.getElem?_eq_none (by omega)
    refine ACall.body tab_ok (ρ := 0) (N := 154) Tryz.func172 rfl rfl rfl rfl rfl ?_
    repeat' first | ((refine (A _ _ _ _).mono ?_; rintro _ _ ⟨rfl, rfl⟩; conv => whnf)) | ((refine (K _ _).mono ?_; rintro _ _ (⟨ht, hlt, rfl, rfl⟩ | ⟨ht, rfl, rfl⟩) <;> conv => whnf)) | ((refine (S _ _).mono ?_; rintro _ _ (⟨ht, hlt, rfl, rfl⟩ | ⟨ht, rfl, rfl⟩) <;> conv => whnf)) | ((refine (Q _ _).mono ?_; rintro _ _ (⟨ht, hlt, rfl, rfl⟩ | ⟨ht, rfl, rfl⟩) <;> conv => whnf)) | ((refine (Q' _ _ _ _ _ (by first | assumption | decide)).mono ?_; rintro _ _ ⟨rfl, rfl⟩; conv => whnf)) | ((refine (X _).mono ?_; rintro _ _ ⟨rfl, rfl⟩; conv => whnf)) | ((refine (W _ (by omega) (by omega)).mono ?_; intro o σ hh; rcases rfR_cases hh with ⟨⟨k, nm, ag, nu, tk, tks, uk, uks, lb, pl, ks⟩, j, hp, hj1, hj2, rfl, rfl⟩ | ⟨e, x, w, v, j, hp, he, ⟨gk, gnm, gag, gnu, gtk, gd1, guk, gd2, glb, gpl, gd3, rfl⟩, rfl, rfl⟩ <;> clear hh <;> conv => whnf)) | ((refine (W' _ _ _ _ (by first | assumption | decide)).mono ?_; rintro _ _ ⟨rfl, rfl⟩; conv => whnf)) | refine AW.seq ?_ | refine AW.block ?_ | (refine (_root_.id : AW _ _ _ (.region 2 _ true) _ _ → _) ?_; refine AW.draw (id := 2) tab_ok mixed [0, 1, 2, 3, 4, 5, 6, 7, 8, 9, 10, 11, 12, 13, 14, 15, 16, 17, 18, 19, 20, 21] (by kernel_rfl) ?_; conv => whnf) | (refine (_root_.id : AW _ _ _ (.region 3 _ true) _ _ → _) ?_; refine AW.draw (id := 3) tab_ok mixed [0, 1, 2, 3, 4, 5, 6, 7, 8, 9, 10, 11, 12, 13, 14] (by kernel_rfl) ?_; conv => whnf) | (refine (_root_.id : AW _ _ _ (.region 5 _ true) _ _ → _) ?_; refine AW.draw (id := 5) tab_ok mixed [0, 1, 2, 3, 4, 5, 6, 7, 8, 9, 10, 11, 12, 13, 14, 15, 16] (by kernel_rfl) ?_; conv => whnf) | (refine (_root_.id : AW _ _ _ (.region 6 _ true) _ _ → _) ?_; refine AW.draw (id := 6) tab_ok mixed [0, 1, 2, 3, 4, 5, 6, 7, 8, 9, 10, 11, 12, 13, 14] (by kernel_rfl) ?_; conv => whnf) | (refine (_root_.id : AW _ _ _ (.region 8 _ true) _ _ → _) ?_; refine AW.draw (id := 8) tab_ok mixed [0, 1, 2, 3, 4, 5, 6, 7, 8, 9, 10, 11, 12, 13, 14, 15, 16] (by kernel_rfl) ?_; conv => whnf) | ((first | refine AW.region tab_ok ?_ | refine AW.cond ?_ | refine AW.skip ?_ | refine AW.ret ?_ | refine AW.exit ?_); conv => whnf) | ((first | refine And.intro (@rfl Val _) ?_ | refine And.intro (by decide) ?_ | refine cs (fun _ => ?_) (fun _ => ?_)) <;> conv => whnf)
    all_goals
      clear A K S Q Q' X W W' hW
      try simp only [wrows_len, cond_true, cond_false, bne_iff_ne, ne_eq, beq_iff_eq, bne_eq_false_iff_eq, beq_eq_false_iff_ne, decide_eq_true_eq, decide_eq_false_iff_not] at *
      first
        | (exfalso; omega)
        | (simp only [pAtom, hw, wbad]
           exact ⟨by decide, _, _, ⟨_, _, _, _, _, _, _, _, _, _, _, rfl⟩, rfl, rfl⟩)
       
structure ApR (l : List Wd) (n : Nat) (i : Nat) (r : PR Tm) where
  c : List AV
  j : Nat
  e : Int
  x : Int
  w : ByteArray
  p : Int
  h : (e = 0 ∧ x = 0 ∧ w = ⟨#[]⟩ ∧ i < j ∧ j ≤ l.length ∧ p = placeW l j ∧ ∃ a m, VC1 a c ∧ l.length - j < m ∧ r = appLoop l (pTerm l n) m a j) ∨ (e ≠ 0 ∧ CG c ∧ r = .bad e x w)
set_option maxRecDepth 10000 in
set_option maxHeartbeats 2000000 in
theorem rapp_ok (l : List Wd) (n : Nat) (hW : PTermR l n) (i : Nat) (hi : i ≤ l.length) (hn : l.length - i < n + 1) (hl : l.length ≤ 1000000) :
    ACall Tryz.prog 171 [.agg [.ptr 0 0]] (rfO l i 0 0 ⟨#[]⟩) (rfR l Tm.val GTm i (appP l (pTerm l n) i)) := by
  have A := fun j e x u => rat_call l j e x u hl
  have S := fun j s => rSign_ok l j s hl
  have S' := fun j e x u s he => rSign_bad l j e x u s he
  have Q := fun j s => rWant_ok l j s hl
  have Q' := fun j e x u s he => rWant_bad l j e x u s he
  have W := hW
  have W' := fun j e x u he => rterm_bad l j e x u hl he
  have P := fun j hj hn => ratom4_ok l n hW j hj hn hl
  unfold PTermR at W
  simp only [rfO, takeR, wantR] at A S S' Q Q' W W' P ⊢
  refine ACall.body tab_ok (ρ := 0) (N := 26) Tryz.func171 rfl rfl rfl rfl rfl ?_
  repeat' first | ((refine (P _ (by omega) (by omega)).mono ?_; intro o σ hh; rcases rfR_cases hh with ⟨⟨k, nm, ag, nu, tk, tks, uk, uks, lb, pl, ks⟩, j, hp, hj1, hj2, rfl, rfl⟩ | ⟨e, x, w, v, j, hp, he, ⟨gk, gnm, gag, gnu, gtk, gd1, guk, gd2, glb, gpl, gd3, rfl⟩, rfl, rfl⟩ <;> clear hh <;> conv => whnf)) | ((refine (A _ _ _ _).mono ?_; rintro _ _ ⟨rfl, rfl⟩; conv => whnf)) | refine AW.seq ?_ | refine AW.block ?_ | ((first | refine AW.region tab_ok ?_ | refine AW.cond ?_ | refine AW.skip ?_ | refine AW.ret ?_ | refine AW.exit ?_); conv => whnf) | ((first | refine And.intro (@rfl Val _) ?_ | refine And.intro (by decide) ?_ | refine cs (fun _ => ?_) (fun _ => ?_)) <;> conv => whnf)
  all_goals first
    | refine AW.loop (ι := ApR l n i (appP l (pTerm l n) i)) (fun x => ⟨26, [(4, .c (.d (.int .i64 x.p))), (3, .c (.ptr 3 0)), (2, .c (.ptr 2 0)), (1, .c (.ptr 1 0))], [.var [.d (.sl 0 4 (wrows l)), .d (.int .i64 x.j), .d (.int .i64 x.e), .d (.int .i64 x.x), .d (.str x.w)], .var [.ptr 0 0], .var _, .var x.c], []⟩) (fun x => ldM l x.e x.j) ⟨_, j, 0, 0, ⟨#[]⟩, placeW l j, .inl ⟨rfl, rfl, rfl, hj1, hj2, rfl, .node k nm ag nu tk tks uk uks lb pl ks, l.length + 1, .z _, by omega, by simp only [appP, hp, bindP_ok]⟩⟩ 4 (fun _ => rfl) (Nat.le_of_ble_eq_true rfl) ⟨⟨rfl, rfl, rfl, rfl, trivial⟩, rfl, rfl, ⟨[], rfl⟩, rfl⟩ (fun x => ?_)
    | refine AW.loop (ι := ApR l n i (appP l (pTerm l n) i)) (fun x => ⟨26, [(4, .c (.d (.int .i64 x.p))), (3, .c (.ptr 3 0)), (2, .c (.ptr 2 0)), (1, .c (.ptr 1 0))], [.var [.d (.sl 0 4 (wrows l)), .d (.int .i64 x.j), .d (.int .i64 x.e), .d (.int .i64 x.x), .d (.str x.w)], .var [.ptr 0 0], .var _, .var x.c], []⟩) (fun x => ldM l x.e x.j) ⟨_, j, e, x, w, placeW l j, .inr ⟨he, .mk _ _ _ _ _ _ _ _ _ _ _, by simp only [appP, hp, bindP_bad]⟩⟩ 4 (fun _ => rfl) (Nat.le_of_ble_eq_true rfl) ⟨⟨rfl, rfl, rfl, rfl, trivial⟩, rfl, rfl, ⟨[], rfl⟩, rfl⟩ (fun x => ?_)
   
  all_goals
    clear hp
    obtain ⟨c, j0, e, x, w, p, h⟩ := x
    dsimp only
    rcases h with ⟨rfl, rfl, rfl, h1, h2, rfl, ⟨ak, anm, aag, anu, atk, atks, auk, auks, alb, apl, aks⟩, m, hc, h3, hx⟩ | ⟨he, hc, hx⟩
    · obtain ⟨m, rfl⟩ : ∃ q, m = q + 1 := ⟨m - 1, by omega⟩
      cases hc
      all_goals try simp only [Tm.cells, List.map_cons, List.map_nil]
      all_goals
        repeat' first | ((refine (A _ _ _ _).mono ?_; rintro _ _ ⟨rfl, rfl⟩; conv => whnf)) | ((refine (S _ _).mono ?_; rintro _ _ (⟨ht, hlt, rfl, rfl⟩ | ⟨ht, rfl, rfl⟩) <;> conv => whnf)) | ((refine (S' _ _ _ _ _ (by first | assumption | decide)).mono ?_; rintro _ _ ⟨rfl, rfl⟩; conv => whnf)) | ((refine (Q _ _).mono ?_; rintro _ _ (⟨ht, hlt, rfl, rfl⟩ | ⟨ht, rfl, rfl⟩) <;> conv => whnf)) | ((refine (Q' _ _ _ _ _ (by first | assumption | decide)).mono ?_; rintro _ _ ⟨rfl, rfl⟩; conv => whnf)) | ((refine (W _ (by omega) (by omega)).mono ?_; intro o σ hh; rcases rfR_cases hh with ⟨⟨k, nm, ag, nu, tk, tks, uk, uks, lb, pl, ks⟩, j, hp, hj1, hj2, rfl, rfl⟩ | ⟨e, x, w, v, j, hp, he, ⟨gk, gnm, gag, gnu, gtk, gd1, guk, gd2, glb, gpl, gd3, rfl⟩, rfl, rfl⟩ <;> clear hh <;> conv => whnf)) | ((refine (W' _ _ _ _ (by first | assumption | decide)).mono ?_; rintro _ _ ⟨rfl, rfl⟩; conv => whnf)) | refine AW.seq ?_ | refine AW.block ?_ | ((first | refine AW.region tab_ok ?_ | refine AW.cond ?_ | refine AW.skip ?_ | refine AW.ret ?_ | refine AW.exit ?_); conv => whnf) | ((first | refine And.intro (@rfl Val _) ?_ | refine And.intro (by decide) ?_ | refine cs (fun _ => ?_) (fun _ => ?_)) <;> conv => whnf)
      all_goals first
        | (clear A S S' Q Q' W W' P hW
           rw [hx, appLoop, if_neg (by simp [*])]
           refine ⟨rfl, rfl, ?_, ?_⟩ <;> first | trivial | omega)
        | (exfalso; omega)
        | (refine ⟨⟨_, _, 0, 0, ⟨#[]⟩, _, .inl ⟨rfl, rfl, rfl, ?_, ?_, rfl, tn 6 s0 s0 0 ty0 ty0 (placeW l j0) [.node ak anm aag anu atk atks auk auks alb apl aks, .node k nm ag nu tk tks uk uks lb pl ks], m, .n _ _ _ _ _ _ _ _ _, ?_, ?_⟩⟩, ⟨⟨rfl, rfl, rfl, rfl, trivial⟩, rfl, rfl, ⟨[_], rfl⟩, rfl⟩, ?_⟩
           · omega
           · omega
           · omega
           · clear A S S' Q Q' W W' P hW
             rw [hx, appLoop, if_pos (show tkW l j0 4 ⟨#[40]⟩ = true by assumption)]
             simp only [mustP, *, if_true, if_false, bindP_bad, bindP_ok, Bool.false_eq_true]
           · show ldM l 0 (j + 1) < ldM l 0 j0
             unfold ldM; rw [if_pos rfl, if_pos rfl]; omega)
        | (refine ⟨⟨_, _, 0, 0, ⟨#[]⟩, _, .inl ⟨rfl, rfl, rfl, ?_, ?_, rfl, tn 6 s0 s0 0 ty0 ty0 (placeW l j0) [.node ak anm aag anu atk [] auk [] alb apl aks, .node k nm ag nu tk tks uk uks lb pl ks], m, .n _ _ _ _ _ _ _ _ _, ?_, ?_⟩⟩, ⟨⟨rfl, rfl, rfl, rfl, trivial⟩, rfl, rfl, ⟨[_], rfl⟩, rfl⟩, ?_⟩
           · omega
           · omega
           · omega
           · clear A S S' Q Q' W W' P hW
             rw [hx, appLoop, if_pos (show tkW l j0 4 ⟨#[40]⟩ = true by assumption)]
             simp only [mustP, *, if_true, if_false, bindP_bad, bindP_ok, Bool.false_eq_true]
           · show ldM l 0 (j + 1) < ldM l 0 j0
             unfold ldM; rw [if_pos rfl, if_pos rfl]; omega)
        | (refine ⟨⟨_, _, e, x, w, _, .inr ⟨he, .n _ _ _ _ _ _ _ _ _, ?_⟩⟩, ⟨⟨rfl, rfl, rfl, rfl, trivial⟩, rfl, rfl, ⟨[_], rfl⟩, rfl⟩, ?_⟩
           · clear A S S' Q Q' W W' P hW
             rw [hx, appLoop, if_pos (show tkW l j0 4 ⟨#[40]⟩ = true by assumption)]
             simp only [mustP, *, if_true, if_false, bindP_bad, bindP_ok, Bool.false_eq_true, wbad]
           · show ldM l e _ < ldM l 0 j0
             unfold ldM; rw [if_neg he, if_pos rfl]; omega)
        | (refine ⟨⟨_, _, 40, _, _, _, .inr ⟨by decide, .n _ _ _ _ _ _ _ _ _, ?_⟩⟩, ⟨⟨rfl, rfl, rfl, rfl, trivial⟩, rfl, rfl, ⟨[_], rfl⟩, rfl⟩, ?_⟩
           · clear A S S' Q Q' W W' P hW
             rw [hx, appLoop, if_pos (show tkW l j0 4 ⟨#[40]⟩ = true by assumption)]
             simp only [mustP, *, if_true, if_false, bindP_bad, bindP_ok, Bool.false_eq_true, wbad]
           · show ldM l 40 _ < ldM l 0 j0
             unfold ldM; rw [if_neg (by decide), if_pos rfl]; omega)
       
    · cases hc
      all_goals
        repeat' first | ((refine (A _ _ _ _).mono ?_; rintro _ _ ⟨rfl, rfl⟩; conv => whnf)) | ((refine (S' _ _ _ _ _ (by first | assumption | decide)).mono ?_; rintro _ _ ⟨rfl, rfl⟩; conv => whnf)) | refine AW.seq ?_ | refine AW.block ?_ | ((first | refine AW.region tab_ok ?_ | refine AW.cond ?_ | refine AW.skip ?_ | refine AW.ret ?_ | refine AW.exit ?_); conv => whnf) | ((first | refine And.intro (@rfl Val _) ?_ | refine And.intro (by decide) ?_ | refine cs (fun _ => ?_) (fun _ => ?_)) <;> conv => whnf)
      all_goals first
        | (rw [hx]; exact ⟨he, _, _, ⟨_, _, _, _, _, _, _, _, _, _, _, rfl⟩, rfl, rfl⟩)
       
def UnR (l : List Wd) (n m : Nat) : Prop := ∀ i, i ≤ l.length → l.length - i < m → l.length - i < n + 1 → ACall Tryz.prog 166 [.agg [.ptr 0 0]] (rfO l i 0 0 ⟨#[]⟩) (rfR l Tm.val GTm i (pUn l (pTerm l n) m i))
set_option maxRecDepth 10000 in
set_option maxHeartbeats 2000000 in
theorem rin_ok (l : List Wd) (n m : Nat) (hU : UnR l n m) (k p : Int) (i : Nat) (hi : i ≤ l.length) (hm : l.length - i < m) (hn : l.length - i < n + 1) (hl : l.length ≤ 1000000) :
    ACall Tryz.prog 170 [.agg [.ptr 0 0], .c (.d (.int .i8 k)), .c (.d (.int .i64 p))] (rfO l i 0 0 ⟨#[]⟩) (rfR l Tm.val GTm i (inP l (pUn l (pTerm l n) m) k p i)) := by
  have Q := fun j s => rWant_ok l j s hl
  have Q' := fun j e x u s he => rWant_bad l j e x u s he
  have Y := fun j hj => rtyp_ok l j hj hl
  have Y' := fun j e x u he => rtyp_bad l j e x u hl he
  have U := hU
  unfold UnR at U
  have U' := fun j e x u he => run_bad l j e x u hl he
  simp only [rfO, takeR, wantR, SVal] at Q Q' Y Y' U U' ⊢
  refine ACall.body tab_ok (ρ := 0) (N := 25) Tryz.func170 rfl rfl rfl rfl rfl ?_
  repeat' first | ((refine (Q _ _).mono ?_; rintro _ _ (⟨ht, hlt, rfl, rfl⟩ | ⟨ht, rfl, rfl⟩) <;> conv => whnf)) | ((refine (Q' _ _ _ _ _ (by first | assumption | decide)).mono ?_; rintro _ _ ⟨rfl, rfl⟩; conv => whnf)) | ((refine (Y _ (by omega)).mono ?_; intro o σ hh; rcases rfR_cases hh with ⟨⟨ak, aks⟩, j, hp, hj1, hj2, rfl, rfl⟩ | ⟨e, x, w, v, j, hp, he, ⟨gk, gks, rfl⟩, rfl, rfl⟩ <;> clear hh <;> conv => whnf)) | ((refine (Y' _ _ _ _ (by first | assumption | decide)).mono ?_; rintro _ _ ⟨rfl, rfl⟩; conv => whnf)) | ((refine (U _ (by omega) (by omega) (by omega)).mono ?_; intro o σ hh; rcases rfR_cases hh with ⟨⟨k, nm, ag, nu, tk, tks, uk, uks, lb, pl, ks⟩, j, hp, hj1, hj2, rfl, rfl⟩ | ⟨e, x, w, v, j, hp, he, ⟨gk, gnm, gag, gnu, gtk, gd1, guk, gd2, glb, gpl, gd3, rfl⟩, rfl, rfl⟩ <;> clear hh <;> conv => whnf)) | ((refine (U' _ _ _ _ (by first | assumption | decide)).mono ?_; rintro _ _ ⟨rfl, rfl⟩; conv => whnf)) | refine AW.seq ?_ | refine AW.block ?_ | ((first | refine AW.region tab_ok ?_ | refine AW.cond ?_ | refine AW.skip ?_ | refine AW.ret ?_ | refine AW.exit ?_); conv => whnf) | ((first | refine And.intro (@rfl Val _) ?_ | refine And.intro (by decide) ?_ | refine cs (fun _ => ?_) (fun _ => ?_)) <;> conv => whnf)
  all_goals
    clear hU Q Q' Y Y' U U'
    try dsimp only at *
    try simp only [cond_true, cond_false, bne_iff_ne, ne_eq, beq_iff_eq, bne_eq_false_iff_eq, beq_eq_false_iff_ne, decide_eq_true_eq, decide_eq_false_iff_not] at *
    first
      | (exfalso; omega)
      | (simp only [inP, mustP, wbad, *, if_true, if_false, bindP_ok, bindP_bad, Bool.false_eq_true]
         first
           | (refine ⟨rfl, rfl, ?_, ?_⟩ <;> first | trivial | omega)
           | exact ⟨(by first | assumption | decide), _, _, ⟨_, _, _, _, _, _, _, _, _, _, _, rfl⟩, rfl, rfl⟩
          )
set_option maxRecDepth 10000 in
set_option maxHeartbeats 2000000 in
theorem run_step (l : List Wd) (n : Nat) (hW : PTermR l n) (m : Nat) (hU : UnR l n m) (hl : l.length ≤ 1000000) : UnR l n (m + 1) := by
  intro i hi hm hn
  have A := fun j e x u => rat_call l j e x u hl
  have K := fun j s => rKey_ok l j s hl
  have S := fun j s => rSign_ok l j s hl
  have U := hU
  have I := fun k p j hj hm hn => rin_ok l n m hU k p j hj hm hn hl
  have F := fun j hj hn => rapp_ok l n hW j hj hn hl
  have X := fun j => rWrong_ok l j hl
  unfold UnR at U
  simp only [rfO, takeR, wantR] at A K S U I F X ⊢
  by_cases hlt : i + 1 < l.length
  · have hb : IntKind.i64.wrap (IntKind.i64.wrap (((i + 1 : Nat) : Int) + 1) - 1) = ((i + 1 : Nat) : Int) := by rw [wrap64 (x := ((i + 1 : Nat) : Int) + 1) (by omega) (by omega), wrap64 (by omega) (by omega)]; omega
    have hwi : IntKind.i64.wrap (((i + 1 : Nat) : Int) + 1) = ((i + 1 + 1 : Nat) : Int) := by rw [wrap64 (by omega) (by omega)]; omega
    obtain ⟨⟨wk, wt, wn, wp⟩, hw⟩ : ∃ w, l[i + 1]? = some w := ⟨_, List.getElem?_eq_getElem hlt⟩
    have hrow : (wrows l)[i + 1]? = some (Wd.mk wk wt wn wp).cells := by simp [wrows, hw]
    refine ACall.body tab_ok (ρ := 0) (N := 101) Tryz.func166 rfl rfl rfl rfl rfl ?_
    repeat' first | ((refine And.intro (⟨by omega, by rw [wrows_len]; omega⟩ : (0 : Int) ≤ _ ∧ _ < _) ?_; intro row hr; obtain rfl := Option.some.inj (hrow.symm.trans (by simpa using hr)); conv => whnf)) | ((rw [hb]; refine And.intro (⟨by omega, by rw [wrows_len]; omega⟩ : (0 : Int) ≤ _ ∧ _ < _) ?_; intro row hr; obtain rfl := Option.some.inj (hrow.symm.trans (by simpa using hr)); conv => whnf)) | ((refine (A _ _ _ _).mono ?_; rintro _ _ ⟨rfl, rfl⟩; conv => whnf)) | ((refine (K _ _).mono ?_; rintro _ _ (⟨ht, hlt, rfl, rfl⟩ | ⟨ht, rfl, rfl⟩) <;> conv => whnf)) | ((refine (S _ _).mono ?_; rintro _ _ (⟨ht, hlt, rfl, rfl⟩ | ⟨ht, rfl, rfl⟩) <;> conv => whnf)) | ((refine (U _ (by omega) (by omega) (by omega)).mono ?_; intro o σ hh; rcases rfR_cases hh with ⟨⟨k, nm, ag, nu, tk, tks, uk, uks, lb, pl, ks⟩, j, hp, hj1, hj2, rfl, rfl⟩ | ⟨e, x, w, v, j, hp, he, ⟨gk, gnm, gag, gnu, gtk, gd1, guk, gd2, glb, gpl, gd3, rfl⟩, rfl, rfl⟩ <;> clear hh <;> conv => whnf)) | ((refine (I _ _ _ (by omega) (by omega) (by omega)).mono ?_; intro o σ hh; rcases rfR_cases hh with ⟨⟨k, nm, ag, nu, tk, tks, uk, uks, lb, pl, ks⟩, j, hp, hj1, hj2, rfl, rfl⟩ | ⟨e, x, w, v, j, hp, he, ⟨gk, gnm, gag, gnu, gtk, gd1, guk, gd2, glb, gpl, gd3, rfl⟩, rfl, rfl⟩ <;> clear hh <;> conv => whnf)) | ((refine (F _ (by omega) (by omega)).mono ?_; intro o σ hh; rcases rfR_cases hh with ⟨⟨k, nm, ag, nu, tk, tks, uk, uks, lb, pl, ks⟩, j, hp, hj1, hj2, rfl, rfl⟩ | ⟨e, x, w, v, j, hp, he, ⟨gk, gnm, gag, gnu, gtk, gd1, guk, gd2, glb, gpl, gd3, rfl⟩, rfl, rfl⟩ <;> clear hh <;> conv => whnf)) | ((refine (X _).mono ?_; rintro _ _ ⟨rfl, rfl⟩; conv => whnf)) | refine AW.seq ?_ | refine AW.block ?_ | (refine (_root_.id : AW _ _ _ (.region 11 _ true) _ _ → _) ?_; refine AW.draw (id := 11) tab_ok mixed [0, 1, 2, 3, 4, 5, 6, 7, 8, 9, 10, 11, 12, 13, 14, 15, 16, 17, 18, 19, 20, 21, 22, 23, 24, 25, 26, 27] (by kernel_rfl) ?_; conv => whnf) | (refine (_root_.id : AW _ _ _ (.region 13 _ true) _ _ → _) ?_; refine AW.draw (id := 13) tab_ok mixed [0, 1, 2, 3, 4, 5, 6, 7, 8, 9, 10, 11, 12, 13, 14, 15, 16, 17] (by kernel_rfl) ?_; conv => whnf) | ((first | refine AW.region tab_ok ?_ | refine AW.cond ?_ | refine AW.skip ?_ | refine AW.ret ?_ | refine AW.exit ?_); conv => whnf) | ((first | refine And.intro (@rfl Val _) ?_ | refine And.intro (by decide) ?_ | refine cs (fun _ => ?_) (fun _ => ?_)) <;> conv => whnf)
    all_goals
      clear A K S U I F X hW hU
      try simp only [wrows_len, cond_true, cond_false, bne_iff_ne, ne_eq, beq_iff_eq, bne_eq_false_iff_eq, beq_eq_false_iff_ne, decide_eq_true_eq, decide_eq_false_iff_not] at *
      first
        | (exfalso; omega)
        | (try rw [hwi]
           simp only [pUn, numP, appP_fold, wbad, *, if_true, if_false, bindP_ok, bindP_bad, Bool.false_eq_true]
           first
             | (refine ⟨rfl, rfl, ?_, ?_⟩ <;> first | trivial | omega)
             | exact ⟨(by first | assumption | decide), _, _, ⟨_, _, _, _, _, _, _, _, _, _, _, rfl⟩, rfl, rfl⟩
            )
  · have hw : l[i + 1]? = none := List.getElem?_eq_none (by omega)
    refine ACall.body tab_ok (ρ := 0) (N := 101) Tryz.func166 rfl rfl rfl rfl rfl ?_
    repeat' first | ((refine (A _ _ _ _).mono ?_; rintro _ _ ⟨rfl, rfl⟩; conv => whnf)) | ((refine (K _ _).mono ?_; rintro _ _ (⟨ht, hlt, rfl, rfl⟩ | ⟨ht, rfl, rfl⟩) <;> conv => whnf)) | ((refine (S _ _).mono ?_; rintro _ _ (⟨ht, hlt, rfl, rfl⟩ | ⟨ht, rfl, rfl⟩) <;> conv => whnf)) | ((refine (U _ (by omega) (by omega) (by omega)).mono ?_; intro o σ hh; rcases rfR_cases hh with ⟨⟨k, nm, ag, nu, tk, tks, uk, uks, lb, pl, ks⟩, j, hp, hj1, hj2, rfl, rfl⟩ | ⟨e, x, w, v, j, hp, he, ⟨gk, gnm, gag, gnu, gtk, gd1, guk, gd2, glb, gpl, gd3, rfl⟩, rfl, rfl⟩ <;> clear hh <;> conv => whnf)) | ((refine (I _ _ _ (by omega) (by omega) (by omega)).mono ?_; intro o σ hh; rcases rfR_cases hh with ⟨⟨k, nm, ag, nu, tk, tks, uk, uks, lb, pl, ks⟩, j, hp, hj1, hj2, rfl, rfl⟩ | ⟨e, x, w, v, j, hp, he, ⟨gk, gnm, gag, gnu, gtk, gd1, guk, gd2, glb, gpl, gd3, rfl⟩, rfl, rfl⟩ <;> clear hh <;> conv => whnf)) | ((refine (F _ (by omega) (by omega)).mono ?_; intro o σ hh; rcases rfR_cases hh with ⟨⟨k, nm, ag, nu, tk, tks, uk, uks, lb, pl, ks⟩, j, hp, hj1, hj2, rfl, rfl⟩ | ⟨e, x, w, v, j, hp, he, ⟨gk, gnm, gag, gnu, gtk, gd1, guk, gd2, glb, gpl, gd3, rfl⟩, rfl, rfl⟩ <;> clear hh <;> conv => whnf)) | ((refine (X _).mono ?_; rintro _ _ ⟨rfl, rfl⟩; conv => whnf)) | refine AW.seq ?_ | refine AW.block ?_ | (refine (_root_.id : AW _ _ _ (.region 11 _ true) _ _ → _) ?_; refine AW.draw (id := 11) tab_ok mixed [0, 1, 2, 3, 4, 5, 6, 7, 8, 9, 10, 11, 12, 13, 14, 15, 16, 17, 18, 19, 20, 21, 22, 23, 24, 25, 26, 27] (by kernel_rfl) ?_; conv => whnf) | (refine (_root_.id : AW _ _ _ (.region 13 _ true) _ _ → _) ?_; refine AW.draw (id := 13) tab_ok mixed [0, 1, 2, 3, 4, 5, 6, 7, 8, 9, 10, 11, 12, 13, 14, 15, 16, 17] (by kernel_rfl) ?_; conv => whnf) | ((first | refine AW.region tab_ok ?_ | refine AW.cond ?_ | refine AW.skip ?_ | refine AW.ret ?_ | refine AW.exit ?_); conv => whnf) | ((first | refine And.intro (@rfl Val _) ?_ | refine And.intro (by decide) ?_ | refine cs (fun _ => ?_) (fun _ => ?_)) <;> conv => whnf)
    all_goals
      clear A K S U I F X hW hU
      try simp only [wrows_len, cond_true, cond_false, bne_iff_ne, ne_eq, beq_iff_eq, bne_eq_false_iff_eq, beq_eq_false_iff_ne, decide_eq_true_eq, decide_eq_false_iff_not] at *
      first
        | (exfalso; omega)
        | (simp only [pUn, numP, appP_fold, wbad, *, if_true, if_false, bindP_ok, bindP_bad, Bool.false_eq_true]
           first
             | (refine ⟨rfl, rfl, ?_, ?_⟩ <;> first | trivial | omega)
             | exact ⟨(by first | assumption | decide), _, _, ⟨_, _, _, _, _, _, _, _, _, _, _, rfl⟩, rfl, rfl⟩
            )
end Go.Proofs.YtmaokphbfjpodaaGreatDoor.E
