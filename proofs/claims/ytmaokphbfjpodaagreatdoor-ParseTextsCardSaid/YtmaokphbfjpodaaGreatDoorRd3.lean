/- Walks: the document's reader: at, name, key, typ; a fault's state. No conditions. -/
import Derived.Test.YtmaokphbfjpodaaGreatDoorGenX6
import Derived.Test.YtmaokphbfjpodaaGreatDoorGenX8
set_option linter.unusedVariables false
set_option linter.unusedSimpArgs false
namespace Go.Proofs.YtmaokphbfjpodaaGreatDoor.E
open Go

def GTm (v : Val) : Prop := ∃ k nm ag nu tk d1 uk d2 lb pl d3, v = .agg [.d (.int .i8 k), .d (.str nm), .d (.str ag), .d (.int .i64 nu), .d (.int .i8 tk), .d (.sl 0 2 d1), .d (.int .i8 uk), .d (.sl 0 2 d2), .d (.int .i64 lb), .d (.int .i64 pl), .d (.sl 0 11 d3)]
set_option maxRecDepth 10000 in
set_option maxHeartbeats 2000000 in
theorem rat_call (l : List Wd) (i : Nat) (e x : Int) (u : ByteArray) (hl : l.length ≤ 1000000) : ACall Tryz.prog 84 [.agg [.ptr 0 0]] (rfO l i e x u) (fun o σ => o = .ret (.c (.d (.int .i64 (placeW l i)))) ∧ σ = rfO l i e x u) := by
  unfold rfO
  refine ACall.body tab_ok (ρ := 0) (N := 28) Tryz.func84 rfl rfl rfl rfl rfl ?_
  repeat' first | refine AW.seq ?_ | refine AW.block ?_ | (refine (_root_.id : AW _ _ _ (.region 1 _ true) _ _ → _) ?_; refine AW.draw (id := 1) tab_ok mixed [0, 1, 2, 3, 4, 5, 6, 7, 8, 9, 10, 11] (by kernel_rfl) ?_; conv => whnf) | (refine (_root_.id : AW _ _ _ (.region 2 _ true) _ _ → _) ?_; refine AW.draw (id := 2) tab_ok mixed [0, 1, 2, 3, 4, 5, 6, 7, 8, 9, 10, 11, 12, 13] (by kernel_rfl) ?_; conv => whnf) | ((first | refine AW.region tab_ok ?_ | refine AW.cond ?_ | refine AW.skip ?_ | refine AW.ret ?_ | refine AW.exit ?_); conv => whnf) | ((first | refine And.intro (@rfl Val _) ?_ | refine And.intro (by decide) ?_ | refine cs (fun _ => ?_) (fun _ => ?_)) <;> conv => whnf)
  · rename_i h2
    have hlt : i < l.length := by have := of_decide_eq_true h2; rw [wrows_len] at this; omega
    obtain ⟨w, hw⟩ : ∃ w, l[i]? = some w := ⟨_, List.getElem?_eq_getElem hlt⟩
    have hrow : (wrows l)[i]? = some w.cells := by simp [wrows, hw]
    have hpw : placeW l i = w.place := by unfold placeW; rw [hw]
    rw [hpw]
    refine ⟨⟨by omega, by rw [wrows_len]; omega⟩, fun row hr => ?_⟩
    obtain rfl := Option.some.inj (hrow.symm.trans hr)
    obtain ⟨wk, wt, wn, wp⟩ := w
    conv => whnf
    repeat' first | refine AW.seq ?_ | refine AW.block ?_ | (refine (_root_.id : AW _ _ _ (.region 1 _ true) _ _ → _) ?_; refine AW.draw (id := 1) tab_ok mixed [0, 1, 2, 3, 4, 5, 6, 7, 8, 9, 10, 11] (by kernel_rfl) ?_; conv => whnf) | (refine (_root_.id : AW _ _ _ (.region 2 _ true) _ _ → _) ?_; refine AW.draw (id := 2) tab_ok mixed [0, 1, 2, 3, 4, 5, 6, 7, 8, 9, 10, 11, 12, 13] (by kernel_rfl) ?_; conv => whnf) | ((first | refine AW.region tab_ok ?_ | refine AW.cond ?_ | refine AW.skip ?_ | refine AW.ret ?_ | refine AW.exit ?_); conv => whnf) | ((first | refine And.intro (@rfl Val _) ?_ | refine And.intro (by decide) ?_ | refine cs (fun _ => ?_) (fun _ => ?_)) <;> conv => whnf)
    all_goals first | exact ⟨rfl, rfl⟩
  · rename_i h2
    have hge : l.length ≤ i := by have := of_decide_eq_false h2; rw [wrows_len] at this; omega
    have hpw : placeW l i = 0 := by unfold placeW; rw [List.getElem?_eq_none hge]
    rw [hpw]
    first | exact ⟨rfl, rfl⟩
set_option maxRecDepth 10000 in
set_option maxHeartbeats 2000000 in
theorem rname_ok (l : List Wd) (i : Nat) (hi : i ≤ l.length) (hl : l.length ≤ 1000000) :
    ACall Tryz.prog 86 [.agg [.ptr 0 0]] (rfO l i 0 0 ⟨#[]⟩) (rfR l SVal GStr i (nameP l i)) := by
  have X := fun j => rWrong_ok l j hl
  have hb : i < l.length → IntKind.i64.wrap (IntKind.i64.wrap ((i : Int) + 1) - 1) = ((i : Nat) : Int) := fun h => by rw [wrap64 (x := (i : Int) + 1) (by omega) (by omega), wrap64 (by omega) (by omega)]; omega
  have hwi : i < l.length → IntKind.i64.wrap ((i : Int) + 1) = ((i + 1 : Nat) : Int) := fun h => by rw [wrap64 (x := (i : Int) + 1) (by omega) (by omega)]; omega
  simp only [rfO, SVal] at X ⊢
  by_cases hlt : i < l.length
  · have hb := hb hlt
    have hwi := hwi hlt
    obtain ⟨⟨wk, wt, wn, wp⟩, hw⟩ : ∃ w, l[i]? = some w := ⟨_, List.getElem?_eq_getElem hlt⟩
    have hrow : (wrows l)[i]? = some (Wd.mk wk wt wn wp).cells := by simp [wrows, hw]
    have hd : decide ((i : Int) < ((wrows l).length : Int)) = true := by rw [wrows_len]; simp; omega
    refine ACall.body tab_ok (ρ := 0) (N := 65) Tryz.func86 rfl rfl rfl rfl rfl ?_
    repeat' first | ((refine cs (fun _ => ?_) (fun h => absurd (hd.symm.trans h) (by decide)); conv => whnf)) | ((refine And.intro (⟨by omega, by rw [wrows_len]; omega⟩ : (0 : Int) ≤ _ ∧ _ < _) ?_; intro row hr; obtain rfl := Option.some.inj (hrow.symm.trans (by simpa using hr)); conv => whnf)) | ((rw [hb]; refine And.intro (⟨by omega, by rw [wrows_len]; omega⟩ : (0 : Int) ≤ _ ∧ _ < _) ?_; intro row hr; obtain rfl := Option.some.inj (hrow.symm.trans (by simpa using hr)); conv => whnf)) | ((refine (X _).mono ?_; rintro _ _ ⟨rfl, rfl⟩; conv => whnf)) | refine AW.seq ?_ | refine AW.block ?_ | (refine (_root_.id : AW _ _ _ (.region 1 _ true) _ _ → _) ?_; refine AW.draw (id := 1) tab_ok mixed [0, 1, 2, 3, 4, 5, 6, 7, 8, 9, 10, 11, 12, 13, 14, 15, 16, 17, 18, 19, 20, 21, 22, 23, 24, 25, 26, 27, 28, 29, 30, 31, 32, 33, 34, 35, 36] (by kernel_rfl) ?_; conv => whnf) | (refine (_root_.id : AW _ _ _ (.region 3 _ true) _ _ → _) ?_; refine AW.draw (id := 3) tab_ok mixed [0, 1, 2, 3, 4, 5, 6, 7, 8, 9, 10, 11, 12, 13, 14] (by kernel_rfl) ?_; conv => whnf) | ((first | refine AW.region tab_ok ?_ | refine AW.cond ?_ | refine AW.skip ?_ | refine AW.ret ?_ | refine AW.exit ?_); conv => whnf) | ((first | refine And.intro (@rfl Val _) ?_ | refine And.intro (by decide) ?_ | refine cs (fun _ => ?_) (fun _ => ?_)) <;> conv => whnf)
    all_goals
      rename_i h
      first
        | (have hk : ¬ wk = 1 := by simpa using h
           simp only [nameP, hw, if_neg hk, wbad]
           exact ⟨by decide, _, _, ⟨_, rfl⟩, rfl, rfl⟩)
        | (have hk : wk = 1 := by simpa using h
           simp only [nameP, hw, if_pos hk]
           rw [hwi]
           exact ⟨rfl, rfl, by omega, by omega⟩)
       
  · have hd : decide ((i : Int) < ((wrows l).length : Int)) = false := by rw [wrows_len]; simp; omega
    have hw : l[i]? = none := List.getElem?_eq_none (by omega)
    refine ACall.body tab_ok (ρ := 0) (N := 65) Tryz.func86 rfl rfl rfl rfl rfl ?_
    repeat' first | ((refine cs (fun h => absurd (hd.symm.trans h) (by decide)) (fun _ => ?_); conv => whnf)) | ((refine (X _).mono ?_; rintro _ _ ⟨rfl, rfl⟩; conv => whnf)) | refine AW.seq ?_ | refine AW.block ?_ | (refine (_root_.id : AW _ _ _ (.region 1 _ true) _ _ → _) ?_; refine AW.draw (id := 1) tab_ok mixed [0, 1, 2, 3, 4, 5, 6, 7, 8, 9, 10, 11, 12, 13, 14, 15, 16, 17, 18, 19, 20, 21, 22, 23, 24, 25, 26, 27, 28, 29, 30, 31, 32, 33, 34, 35, 36] (by kernel_rfl) ?_; conv => whnf) | (refine (_root_.id : AW _ _ _ (.region 3 _ true) _ _ → _) ?_; refine AW.draw (id := 3) tab_ok mixed [0, 1, 2, 3, 4, 5, 6, 7, 8, 9, 10, 11, 12, 13, 14] (by kernel_rfl) ?_; conv => whnf) | ((first | refine AW.region tab_ok ?_ | refine AW.cond ?_ | refine AW.skip ?_ | refine AW.ret ?_ | refine AW.exit ?_); conv => whnf) | ((first | refine And.intro (@rfl Val _) ?_ | refine And.intro (by decide) ?_ | refine cs (fun _ => ?_) (fun _ => ?_)) <;> conv => whnf)
    all_goals
      simp only [nameP, hw, wbad]
      first
        | exact ⟨by decide, _, _, ⟨_, rfl⟩, rfl, rfl⟩
       
set_option maxRecDepth 10000 in
set_option maxHeartbeats 2000000 in
theorem rname_bad (l : List Wd) (i : Nat) (e x : Int) (u : ByteArray) (he : e ≠ 0) : ACall Tryz.prog 86 [.agg [.ptr 0 0]] (rfO l i e x u) (fun o σ => o = .ret (.c (.d (.str ⟨#[]⟩))) ∧ σ = rfO l i e x u) := by
  have he' : (e == 0) = false := by simpa using he
  have hn' : (e != 0) = true := by simpa using he
  have X' := fun j e x u he => rWrong_bad l j e x u he
  simp only [rfO, takeR, wantR] at X' ⊢
  refine ACall.body tab_ok (ρ := 0) (N := 65) Tryz.func86 rfl rfl rfl rfl rfl ?_
  repeat' first | ((refine cs (fun h => absurd h (by rw [he']; decide)) (fun _ => ?_); conv => whnf)) | ((refine cs (fun _ => ?_) (fun h => absurd h (by rw [hn']; decide)); conv => whnf)) | ((refine (X' _ _ _ _ (by first | assumption | decide)).mono ?_; rintro _ _ ⟨rfl, rfl⟩; conv => whnf)) | refine AW.seq ?_ | refine AW.block ?_ | (refine (_root_.id : AW _ _ _ (.region 1 _ true) _ _ → _) ?_; refine AW.draw (id := 1) tab_ok mixed [0, 1, 2, 3, 4, 5, 6, 7, 8, 9, 10, 11, 12, 13, 14, 15, 16, 17, 18, 19, 20, 21, 22, 23, 24, 25, 26, 27, 28, 29, 30, 31, 32, 33, 34, 35, 36] (by kernel_rfl) ?_; conv => whnf) | (refine (_root_.id : AW _ _ _ (.region 3 _ true) _ _ → _) ?_; refine AW.draw (id := 3) tab_ok mixed [0, 1, 2, 3, 4, 5, 6, 7, 8, 9, 10, 11, 12, 13, 14] (by kernel_rfl) ?_; conv => whnf) | ((first | refine AW.region tab_ok ?_ | refine AW.cond ?_ | refine AW.skip ?_ | refine AW.ret ?_ | refine AW.exit ?_); conv => whnf) | ((first | refine And.intro (@rfl Val _) ?_ | refine And.intro (by decide) ?_ | refine cs (fun _ => ?_) (fun _ => ?_)) <;> conv => whnf)
  all_goals first | exact ⟨rfl, rfl⟩
set_option maxRecDepth 10000 in
set_option maxHeartbeats 2000000 in
theorem rkey_ok (l : List Wd) (i : Nat) (s : ByteArray) (hl : l.length ≤ 1000000) : ACall Tryz.prog 90 [.agg [.ptr 0 0], .c (.d (.str s))] (rfO l i 0 0 ⟨#[]⟩) (wantR l i 3 s) := by
  have K := rKey_ok l i s hl
  have X := rWrong_ok l i hl
  unfold takeR at K
  unfold wantR
  simp only [rfO] at K X ⊢
  refine ACall.body tab_ok (ρ := 0) (N := 14) Tryz.func90 rfl rfl rfl rfl rfl ?_
  repeat' first | ((refine K.mono ?_; rintro _ _ (⟨ht, hlt, rfl, rfl⟩ | ⟨ht, rfl, rfl⟩) <;> conv => whnf)) | refine AW.seq ?_ | refine AW.block ?_ | ((first | refine AW.region tab_ok ?_ | refine AW.cond ?_ | refine AW.skip ?_ | refine AW.ret ?_ | refine AW.exit ?_); conv => whnf) | (refine (X).mono ?_; rintro _ _ ⟨rfl, rfl⟩; conv => whnf) | ((first | refine And.intro (@rfl Val _) ?_ | refine And.intro (by decide) ?_ | refine cs (fun _ => ?_) (fun _ => ?_)) <;> conv => whnf)
  all_goals first | exact .inl ⟨ht, hlt, rfl, rfl⟩ | exact .inr ⟨ht, rfl, rfl⟩
set_option maxRecDepth 10000 in
set_option maxHeartbeats 2000000 in
theorem rkey_bad (l : List Wd) (i : Nat) (e x : Int) (u s : ByteArray) (he : e ≠ 0) : ACall Tryz.prog 90 [.agg [.ptr 0 0], .c (.d (.str s))] (rfO l i e x u) (fun o σ => o = .ret (.tup []) ∧ σ = rfO l i e x u) := by
  have K := rKey_bad l i e x u s he
  have X := rWrong_bad l i e x u he
  simp only [rfO] at K X ⊢
  refine ACall.body tab_ok (ρ := 0) (N := 14) Tryz.func90 rfl rfl rfl rfl rfl ?_
  repeat' first | refine AW.seq ?_ | refine AW.block ?_ | ((first | refine AW.region tab_ok ?_ | refine AW.cond ?_ | refine AW.skip ?_ | refine AW.ret ?_ | refine AW.exit ?_); conv => whnf) | ((first | refine (K).mono ?_ | refine (X).mono ?_); rintro _ _ ⟨rfl, rfl⟩; conv => whnf) | ((first | refine And.intro (@rfl Val _) ?_ | refine And.intro (by decide) ?_ | refine cs (fun _ => ?_) (fun _ => ?_)) <;> conv => whnf)
  all_goals first | exact ⟨rfl, rfl⟩
set_option maxRecDepth 10000 in
set_option maxHeartbeats 2000000 in
theorem rtyp_bad (l : List Wd) (i : Nat) (e x : Int) (u : ByteArray) (hl : l.length ≤ 1000000) (he : e ≠ 0) : ACall Tryz.prog 88 [.agg [.ptr 0 0]] (rfO l i e x u) (fun o σ => o = .ret ty0.val ∧ σ = rfO l i e x u) := by
  have he' : (e == 0) = false := by simpa using he
  have A := rat_call l i e x u hl
  have W2' := rType_bad l i e x u he
  have C := rcheck_call ty0
  simp only [rfO] at A W2' ⊢
  refine ACall.body tab_ok (ρ := 0) (N := 32) Tryz.func88 rfl rfl rfl rfl rfl ?_
  repeat' first | ((refine cs (fun h => absurd h (by rw [he']; decide)) (fun _ => ?_); conv => whnf)) | refine AW.seq ?_ | refine AW.block ?_ | ((first | refine AW.region tab_ok ?_ | refine AW.cond ?_ | refine AW.skip ?_ | refine AW.ret ?_ | refine AW.exit ?_); conv => whnf) | ((first | refine (A).mono ?_ | refine (W2').mono ?_ | refine (C).mono ?_); rintro _ _ ⟨rfl, rfl⟩; conv => whnf) | ((first | refine And.intro (@rfl Val _) ?_ | refine And.intro (by decide) ?_ | refine cs (fun _ => ?_) (fun _ => ?_)) <;> conv => whnf)
  all_goals first | exact ⟨rfl, rfl⟩
set_option maxRecDepth 10000 in
set_option maxHeartbeats 2000000 in
theorem rtyp_ok (l : List Wd) (i : Nat) (hi : i ≤ l.length) (hl : l.length ≤ 1000000) :
    ACall Tryz.prog 88 [.agg [.ptr 0 0]] (rfO l i 0 0 ⟨#[]⟩) (rfR l Ty.val GTy i (typP l i)) := by
  have A := rat_call l i 0 0 ⟨#[]⟩ hl
  have W2 := rType_ok l hl (l.length + 1) i hi (by omega)
  simp only [rfO] at A W2 ⊢
  refine ACall.body tab_ok (ρ := 0) (N := 32) Tryz.func88 rfl rfl rfl rfl rfl ?_
  repeat' first | ((refine W2.mono ?_; intro o σ hh; rcases rfR_cases hh with ⟨⟨ak, aks⟩, j, hp, hj1, hj2, rfl, rfl⟩ | ⟨e, x, w, v, j, hp, he, ⟨gk, gks, rfl⟩, rfl, rfl⟩ <;> clear hh <;> conv => whnf)) | refine AW.seq ?_ | refine AW.block ?_ | ((first | refine AW.region tab_ok ?_ | refine AW.cond ?_ | refine AW.skip ?_ | refine AW.ret ?_ | refine AW.exit ?_); conv => whnf) | ((first | refine (A).mono ?_ | refine (rcheck_call (.node ak aks)).mono ?_ | refine (rcheck_call (.node gk gks)).mono ?_); rintro _ _ ⟨rfl, rfl⟩; conv => whnf) | ((first | refine And.intro (@rfl Val _) ?_ | refine And.intro (by decide) ?_ | refine cs (fun _ => ?_) (fun _ => ?_)) <;> conv => whnf)
  all_goals
    clear A W2
    try simp only [cond_true, cond_false, bne_iff_ne, ne_eq, beq_iff_eq, bne_eq_false_iff_eq, beq_eq_false_iff_ne] at *
    first
      | (exfalso; simp_all; done)
      | (have hc : tcheck (.node ak aks) = 0 := by assumption
         simp only [typP, hp, bindP_ok, hc, if_true]
         exact ⟨rfl, rfl, hj1, hj2⟩)
      | (have hc : ¬ tcheck (.node ak aks) = 0 := by assumption
         simp only [typP, hp, bindP_ok, if_neg hc]
         exact ⟨hc, _, _, ⟨_, _, rfl⟩, rfl, rfl⟩)
      | (simp only [typP, hp, bindP_bad]
         exact ⟨he, _, _, ⟨_, _, rfl⟩, rfl, rfl⟩)
     
set_option maxRecDepth 10000 in
set_option maxHeartbeats 2000000 in
theorem ratom_bad (l : List Wd) (i : Nat) (e x : Int) (u : ByteArray) (hl : l.length ≤ 1000000) (he : e ≠ 0) : ACall Tryz.prog 172 [.agg [.ptr 0 0]] (rfO l i e x u) (fun o σ => o = .ret (tmZ.val) ∧ σ = rfO l i e x u) := by
  have he' : (e == 0) = false := by simpa using he
  have hn' : (e != 0) = true := by simpa using he
  have A := fun j e x u => rat_call l j e x u hl
  have S' := fun j e x u s he => rSign_bad l j e x u s he
  have K' := fun j e x u s he => rKey_bad l j e x u s he
  have X' := fun j e x u he => rWrong_bad l j e x u he
  simp only [rfO, takeR, wantR] at A S' K' X' ⊢
  refine ACall.body tab_ok (ρ := 0) (N := 154) Tryz.func172 rfl rfl rfl rfl rfl ?_
  repeat' first | ((refine cs (fun h => absurd h (by rw [he']; decide)) (fun _ => ?_); conv => whnf)) | ((refine cs (fun _ => ?_) (fun h => absurd h (by rw [hn']; decide)); conv => whnf)) | ((refine (A _ _ _ _).mono ?_; rintro _ _ ⟨rfl, rfl⟩; conv => whnf)) | ((refine (S' _ _ _ _ _ (by first | assumption | decide)).mono ?_; rintro _ _ ⟨rfl, rfl⟩; conv => whnf)) | ((refine (K' _ _ _ _ _ (by first | assumption | decide)).mono ?_; rintro _ _ ⟨rfl, rfl⟩; conv => whnf)) | ((refine (X' _ _ _ _ (by first | assumption | decide)).mono ?_; rintro _ _ ⟨rfl, rfl⟩; conv => whnf)) | refine AW.seq ?_ | refine AW.block ?_ | (refine (_root_.id : AW _ _ _ (.region 2 _ true) _ _ → _) ?_; refine AW.draw (id := 2) tab_ok mixed [0, 1, 2, 3, 4, 5, 6, 7, 8, 9, 10, 11, 12, 13, 14, 15, 16, 17, 18, 19, 20, 21] (by kernel_rfl) ?_; conv => whnf) | (refine (_root_.id : AW _ _ _ (.region 3 _ true) _ _ → _) ?_; refine AW.draw (id := 3) tab_ok mixed [0, 1, 2, 3, 4, 5, 6, 7, 8, 9, 10, 11, 12, 13, 14] (by kernel_rfl) ?_; conv => whnf) | (refine (_root_.id : AW _ _ _ (.region 5 _ true) _ _ → _) ?_; refine AW.draw (id := 5) tab_ok mixed [0, 1, 2, 3, 4, 5, 6, 7, 8, 9, 10, 11, 12, 13, 14, 15, 16] (by kernel_rfl) ?_; conv => whnf) | (refine (_root_.id : AW _ _ _ (.region 6 _ true) _ _ → _) ?_; refine AW.draw (id := 6) tab_ok mixed [0, 1, 2, 3, 4, 5, 6, 7, 8, 9, 10, 11, 12, 13, 14] (by kernel_rfl) ?_; conv => whnf) | (refine (_root_.id : AW _ _ _ (.region 8 _ true) _ _ → _) ?_; refine AW.draw (id := 8) tab_ok mixed [0, 1, 2, 3, 4, 5, 6, 7, 8, 9, 10, 11, 12, 13, 14, 15, 16] (by kernel_rfl) ?_; conv => whnf) | ((first | refine AW.region tab_ok ?_ | refine AW.cond ?_ | refine AW.skip ?_ | refine AW.ret ?_ | refine AW.exit ?_); conv => whnf) | ((first | refine And.intro (@rfl Val _) ?_ | refine And.intro (by decide) ?_ | refine cs (fun _ => ?_) (fun _ => ?_)) <;> conv => whnf)
  all_goals first | exact ⟨rfl, rfl⟩
set_option maxRecDepth 10000 in
set_option maxHeartbeats 2000000 in
theorem rapp_bad (l : List Wd) (i : Nat) (e x : Int) (u : ByteArray) (hl : l.length ≤ 1000000) (he : e ≠ 0) : ACall Tryz.prog 171 [.agg [.ptr 0 0]] (rfO l i e x u) (fun o σ => o = .ret (tmZ.val) ∧ σ = rfO l i e x u) := by
  have he' : (e == 0) = false := by simpa using he
  have hn' : (e != 0) = true := by simpa using he
  have A := fun j e x u => rat_call l j e x u hl
  have S' := fun j e x u s he => rSign_bad l j e x u s he
  have B0 := fun j e x u he => ratom_bad l j e x u hl he
  simp only [rfO, takeR, wantR] at A S' B0 ⊢
  refine ACall.body tab_ok (ρ := 0) (N := 26) Tryz.func171 rfl rfl rfl rfl rfl ?_
  repeat' first | ((refine AW.rounds 2 ?_; conv => whnf)) | ((refine cs (fun h => absurd h (by rw [he']; decide)) (fun _ => ?_); conv => whnf)) | ((refine cs (fun _ => ?_) (fun h => absurd h (by rw [hn']; decide)); conv => whnf)) | ((refine (A _ _ _ _).mono ?_; rintro _ _ ⟨rfl, rfl⟩; conv => whnf)) | ((refine (S' _ _ _ _ _ (by first | assumption | decide)).mono ?_; rintro _ _ ⟨rfl, rfl⟩; conv => whnf)) | ((refine (B0 _ _ _ _ (by first | assumption | decide)).mono ?_; rintro _ _ ⟨rfl, rfl⟩; conv => whnf)) | refine AW.seq ?_ | refine AW.block ?_ | ((first | refine AW.region tab_ok ?_ | refine AW.cond ?_ | refine AW.skip ?_ | refine AW.ret ?_ | refine AW.exit ?_); conv => whnf) | ((first | refine And.intro (@rfl Val _) ?_ | refine And.intro (by decide) ?_ | refine cs (fun _ => ?_) (fun _ => ?_)) <;> conv => whnf)
  all_goals first | exact ⟨rfl, rfl⟩
set_option maxRecDepth 10000 in
set_option maxHeartbeats 2000000 in
theorem run_bad (l : List Wd) (i : Nat) (e x : Int) (u : ByteArray) (hl : l.length ≤ 1000000) (he : e ≠ 0) : ACall Tryz.prog 166 [.agg [.ptr 0 0]] (rfO l i e x u) (fun o σ => o = .ret (tmZ.val) ∧ σ = rfO l i e x u) := by
  have he' : (e == 0) = false := by simpa using he
  have hn' : (e != 0) = true := by simpa using he
  have A := fun j e x u => rat_call l j e x u hl
  have S' := fun j e x u s he => rSign_bad l j e x u s he
  have K' := fun j e x u s he => rKey_bad l j e x u s he
  have B1 := fun j e x u he => rapp_bad l j e x u hl he
  simp only [rfO, takeR, wantR] at A S' K' B1 ⊢
  refine ACall.body tab_ok (ρ := 0) (N := 101) Tryz.func166 rfl rfl rfl rfl rfl ?_
  repeat' first | ((refine cs (fun h => absurd h (by rw [he']; decide)) (fun _ => ?_); conv => whnf)) | ((refine cs (fun _ => ?_) (fun h => absurd h (by rw [hn']; decide)); conv => whnf)) | ((refine (A _ _ _ _).mono ?_; rintro _ _ ⟨rfl, rfl⟩; conv => whnf)) | ((refine (S' _ _ _ _ _ (by first | assumption | decide)).mono ?_; rintro _ _ ⟨rfl, rfl⟩; conv => whnf)) | ((refine (K' _ _ _ _ _ (by first | assumption | decide)).mono ?_; rintro _ _ ⟨rfl, rfl⟩; conv => whnf)) | ((refine (B1 _ _ _ _ (by first | assumption | decide)).mono ?_; rintro _ _ ⟨rfl, rfl⟩; conv => whnf)) | refine AW.seq ?_ | refine AW.block ?_ | (refine (_root_.id : AW _ _ _ (.region 11 _ true) _ _ → _) ?_; refine AW.draw (id := 11) tab_ok mixed [0, 1, 2, 3, 4, 5, 6, 7, 8, 9, 10, 11, 12, 13, 14, 15, 16, 17, 18, 19, 20, 21, 22, 23, 24, 25, 26, 27] (by kernel_rfl) ?_; conv => whnf) | (refine (_root_.id : AW _ _ _ (.region 13 _ true) _ _ → _) ?_; refine AW.draw (id := 13) tab_ok mixed [0, 1, 2, 3, 4, 5, 6, 7, 8, 9, 10, 11, 12, 13, 14, 15, 16, 17] (by kernel_rfl) ?_; conv => whnf) | ((first | refine AW.region tab_ok ?_ | refine AW.cond ?_ | refine AW.skip ?_ | refine AW.ret ?_ | refine AW.exit ?_); conv => whnf) | ((first | refine And.intro (@rfl Val _) ?_ | refine And.intro (by decide) ?_ | refine cs (fun _ => ?_) (fun _ => ?_)) <;> conv => whnf)
  all_goals first | exact ⟨rfl, rfl⟩
set_option maxRecDepth 10000 in
set_option maxHeartbeats 2000000 in
theorem rmul_bad (l : List Wd) (i : Nat) (e x : Int) (u : ByteArray) (hl : l.length ≤ 1000000) (he : e ≠ 0) : ACall Tryz.prog 160 [.agg [.ptr 0 0]] (rfO l i e x u) (fun o σ => o = .ret (tmZ.val) ∧ σ = rfO l i e x u) := by
  have he' : (e == 0) = false := by simpa using he
  have hn' : (e != 0) = true := by simpa using he
  have B2 := fun j e x u he => run_bad l j e x u hl he
  simp only [rfO, takeR, wantR] at B2 ⊢
  refine ACall.body tab_ok (ρ := 0) (N := 35) Tryz.func160 rfl rfl rfl rfl rfl ?_
  repeat' first | ((refine AW.rounds 2 ?_; conv => whnf)) | ((refine cs (fun h => absurd h (by rw [he']; decide)) (fun _ => ?_); conv => whnf)) | ((refine cs (fun _ => ?_) (fun h => absurd h (by rw [hn']; decide)); conv => whnf)) | ((refine (B2 _ _ _ _ (by first | assumption | decide)).mono ?_; rintro _ _ ⟨rfl, rfl⟩; conv => whnf)) | refine AW.seq ?_ | refine AW.block ?_ | ((first | refine AW.region tab_ok ?_ | refine AW.cond ?_ | refine AW.skip ?_ | refine AW.ret ?_ | refine AW.exit ?_); conv => whnf) | ((first | refine And.intro (@rfl Val _) ?_ | refine And.intro (by decide) ?_ | refine cs (fun _ => ?_) (fun _ => ?_)) <;> conv => whnf)
  all_goals first | exact ⟨rfl, rfl⟩
set_option maxRecDepth 10000 in
set_option maxHeartbeats 2000000 in
theorem rsum_bad (l : List Wd) (i : Nat) (e x : Int) (u : ByteArray) (hl : l.length ≤ 1000000) (he : e ≠ 0) : ACall Tryz.prog 147 [.agg [.ptr 0 0]] (rfO l i e x u) (fun o σ => o = .ret (tmZ.val) ∧ σ = rfO l i e x u) := by
  have he' : (e == 0) = false := by simpa using he
  have hn' : (e != 0) = true := by simpa using he
  have B3 := fun j e x u he => rmul_bad l j e x u hl he
  simp only [rfO, takeR, wantR] at B3 ⊢
  refine ACall.body tab_ok (ρ := 0) (N := 35) Tryz.func147 rfl rfl rfl rfl rfl ?_
  repeat' first | ((refine AW.rounds 2 ?_; conv => whnf)) | ((refine cs (fun h => absurd h (by rw [he']; decide)) (fun _ => ?_); conv => whnf)) | ((refine cs (fun _ => ?_) (fun h => absurd h (by rw [hn']; decide)); conv => whnf)) | ((refine (B3 _ _ _ _ (by first | assumption | decide)).mono ?_; rintro _ _ ⟨rfl, rfl⟩; conv => whnf)) | refine AW.seq ?_ | refine AW.block ?_ | ((first | refine AW.region tab_ok ?_ | refine AW.cond ?_ | refine AW.skip ?_ | refine AW.ret ?_ | refine AW.exit ?_); conv => whnf) | ((first | refine And.intro (@rfl Val _) ?_ | refine And.intro (by decide) ?_ | refine cs (fun _ => ?_) (fun _ => ?_)) <;> conv => whnf)
  all_goals first | exact ⟨rfl, rfl⟩
set_option maxRecDepth 10000 in
set_option maxHeartbeats 2000000 in
theorem rcmp_bad (l : List Wd) (i : Nat) (e x : Int) (u : ByteArray) (hl : l.length ≤ 1000000) (he : e ≠ 0) : ACall Tryz.prog 122 [.agg [.ptr 0 0]] (rfO l i e x u) (fun o σ => o = .ret (tmZ.val) ∧ σ = rfO l i e x u) := by
  have he' : (e == 0) = false := by simpa using he
  have hn' : (e != 0) = true := by simpa using he
  have A := fun j e x u => rat_call l j e x u hl
  have S' := fun j e x u s he => rSign_bad l j e x u s he
  have B4 := fun j e x u he => rsum_bad l j e x u hl he
  simp only [rfO, takeR, wantR] at A S' B4 ⊢
  refine ACall.body tab_ok (ρ := 0) (N := 30) Tryz.func122 rfl rfl rfl rfl rfl ?_
  repeat' first | ((refine cs (fun h => absurd h (by rw [he']; decide)) (fun _ => ?_); conv => whnf)) | ((refine cs (fun _ => ?_) (fun h => absurd h (by rw [hn']; decide)); conv => whnf)) | ((refine (A _ _ _ _).mono ?_; rintro _ _ ⟨rfl, rfl⟩; conv => whnf)) | ((refine (S' _ _ _ _ _ (by first | assumption | decide)).mono ?_; rintro _ _ ⟨rfl, rfl⟩; conv => whnf)) | ((refine (B4 _ _ _ _ (by first | assumption | decide)).mono ?_; rintro _ _ ⟨rfl, rfl⟩; conv => whnf)) | refine AW.seq ?_ | refine AW.block ?_ | ((first | refine AW.region tab_ok ?_ | refine AW.cond ?_ | refine AW.skip ?_ | refine AW.ret ?_ | refine AW.exit ?_); conv => whnf) | ((first | refine And.intro (@rfl Val _) ?_ | refine And.intro (by decide) ?_ | refine cs (fun _ => ?_) (fun _ => ?_)) <;> conv => whnf)
  all_goals first | exact ⟨rfl, rfl⟩
set_option maxRecDepth 10000 in
set_option maxHeartbeats 2000000 in
theorem ris_bad (l : List Wd) (i : Nat) (e x : Int) (u : ByteArray) (hl : l.length ≤ 1000000) (he : e ≠ 0) : ACall Tryz.prog 93 [.agg [.ptr 0 0]] (rfO l i e x u) (fun o σ => o = .ret (tmZ.val) ∧ σ = rfO l i e x u) := by
  have he' : (e == 0) = false := by simpa using he
  have hn' : (e != 0) = true := by simpa using he
  have A := fun j e x u => rat_call l j e x u hl
  have S' := fun j e x u s he => rSign_bad l j e x u s he
  have B5 := fun j e x u he => rcmp_bad l j e x u hl he
  simp only [rfO, takeR, wantR] at A S' B5 ⊢
  refine ACall.body tab_ok (ρ := 0) (N := 23) Tryz.func93 rfl rfl rfl rfl rfl ?_
  repeat' first | ((refine AW.rounds 2 ?_; conv => whnf)) | ((refine cs (fun h => absurd h (by rw [he']; decide)) (fun _ => ?_); conv => whnf)) | ((refine cs (fun _ => ?_) (fun h => absurd h (by rw [hn']; decide)); conv => whnf)) | ((refine (A _ _ _ _).mono ?_; rintro _ _ ⟨rfl, rfl⟩; conv => whnf)) | ((refine (S' _ _ _ _ _ (by first | assumption | decide)).mono ?_; rintro _ _ ⟨rfl, rfl⟩; conv => whnf)) | ((refine (B5 _ _ _ _ (by first | assumption | decide)).mono ?_; rintro _ _ ⟨rfl, rfl⟩; conv => whnf)) | refine AW.seq ?_ | refine AW.block ?_ | ((first | refine AW.region tab_ok ?_ | refine AW.cond ?_ | refine AW.skip ?_ | refine AW.ret ?_ | refine AW.exit ?_); conv => whnf) | ((first | refine And.intro (@rfl Val _) ?_ | refine And.intro (by decide) ?_ | refine cs (fun _ => ?_) (fun _ => ?_)) <;> conv => whnf)
  all_goals first | exact ⟨rfl, rfl⟩
set_option maxRecDepth 10000 in
set_option maxHeartbeats 2000000 in
theorem rterm_bad (l : List Wd) (i : Nat) (e x : Int) (u : ByteArray) (hl : l.length ≤ 1000000) (he : e ≠ 0) : ACall Tryz.prog 41 [.agg [.ptr 0 0]] (rfO l i e x u) (fun o σ => o = .ret (tmZ.val) ∧ σ = rfO l i e x u) := by
  have he' : (e == 0) = false := by simpa using he
  have hn' : (e != 0) = true := by simpa using he
  have A := fun j e x u => rat_call l j e x u hl
  have S' := fun j e x u s he => rSign_bad l j e x u s he
  have K' := fun j e x u s he => rKey_bad l j e x u s he
  have B6 := fun j e x u he => ris_bad l j e x u hl he
  simp only [rfO, takeR, wantR] at A S' K' B6 ⊢
  refine ACall.body tab_ok (ρ := 0) (N := 101) Tryz.func41 rfl rfl rfl rfl rfl ?_
  repeat' first | ((refine cs (fun h => absurd h (by rw [he']; decide)) (fun _ => ?_); conv => whnf)) | ((refine cs (fun _ => ?_) (fun h => absurd h (by rw [hn']; decide)); conv => whnf)) | ((refine (A _ _ _ _).mono ?_; rintro _ _ ⟨rfl, rfl⟩; conv => whnf)) | ((refine (S' _ _ _ _ _ (by first | assumption | decide)).mono ?_; rintro _ _ ⟨rfl, rfl⟩; conv => whnf)) | ((refine (K' _ _ _ _ _ (by first | assumption | decide)).mono ?_; rintro _ _ ⟨rfl, rfl⟩; conv => whnf)) | ((refine (B6 _ _ _ _ (by first | assumption | decide)).mono ?_; rintro _ _ ⟨rfl, rfl⟩; conv => whnf)) | refine AW.seq ?_ | refine AW.block ?_ | ((first | refine AW.region tab_ok ?_ | refine AW.cond ?_ | refine AW.skip ?_ | refine AW.ret ?_ | refine AW.exit ?_); conv => whnf) | ((first | refine And.intro (@rfl Val _) ?_ | refine And.intro (by decide) ?_ | refine cs (fun _ => ?_) (fun _ => ?_)) <;> conv => whnf)
  all_goals first | exact ⟨rfl, rfl⟩
end Go.Proofs.YtmaokphbfjpodaaGreatDoor.E
