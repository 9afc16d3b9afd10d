/- Texts, merged: Rd1, Rd2, Rd2L. No conditions. -/
import Derived.Test.YtmaokphbfjpodaaGreatDoorGenX5
import Derived.Test.YtmaokphbfjpodaaGreatDoorGenX2
import Derived.Test.YtmaokphbfjpodaaGreatDoorEngX3
/- Walks: the document's reader of words: Is, Sign, Key, Wrong, Want. No conditions. -/
set_option linter.unusedVariables false
set_option linter.unusedSimpArgs false
namespace Go.Proofs.YtmaokphbfjpodaaGreatDoor.E
open Go

/-- The document's reader: its words, its place, its first fault. -/
def rfO (l : List Wd) (i : Nat) (e x : Int) (w : ByteArray) : List AObj := [.var [.d (.sl 0 4 (wrows l)), .d (.int .i64 i), .d (.int .i64 e), .d (.int .i64 x), .d (.str w)]]
set_option maxRecDepth 10000 in
set_option maxHeartbeats 1000000 in
theorem rIs_call (l : List Wd) (i : Nat) (e x : Int) (u : ByteArray) (k : Int) (s : ByteArray) (hl : l.length ≤ 1000000) : ACall Tryz.prog 118 [.c (.ptr 0 0), .c (.d (.int .i8 k)), .c (.d (.str s))] (rfO l i e x u)
    (fun o σ => o = .ret (.c (.d (.bool (tkW l i k s)))) ∧ σ = rfO l i e x u) := by
  unfold rfO
  refine ACall.body tab_ok (ρ := 0) (N := 47) Tryz.func118 rfl rfl rfl rfl rfl ?_
  repeat' first | refine AW.seq ?_ | refine AW.block ?_ | (refine (_root_.id : AW _ _ _ (.region 1 _ true) _ _ → _) ?_; refine AW.draw (id := 1) tab_ok mixed [0, 1, 2, 3, 4, 5, 6, 7, 8, 9, 10, 11, 12, 13, 14, 15, 16, 17, 18, 19, 20, 21, 22, 23, 24, 25, 26, 27, 28, 29, 30, 31, 32, 33, 34, 35, 36, 37, 38, 39, 40] (by kernel_rfl) ?_; conv => whnf) | ((first | refine AW.region tab_ok ?_ | refine AW.cond ?_ | refine AW.skip ?_ | refine AW.ret ?_ | refine AW.exit ?_); conv => whnf) | ((first | refine And.intro (@rfl Val _) ?_ | refine And.intro (by decide) ?_ | refine cs (fun _ => ?_) (fun _ => ?_)) <;> conv => whnf)
  · rename_i h2
    have hlt : i < l.length := by have := of_decide_eq_true h2; rw [wrows_len] at this; omega
    obtain ⟨w, hw⟩ : ∃ w, l[i]? = some w := ⟨_, List.getElem?_eq_getElem hlt⟩
    have hrow : (wrows l)[i]? = some w.cells := by simp [wrows, hw]
    have htk : tkW l i k s = (decide (w.kind = k) && decide (w.text = s)) := by unfold tkW; rw [hw]
    rw [htk]
    refine ⟨⟨by omega, by rw [wrows_len]; omega⟩, fun row hr => ?_⟩
    obtain rfl := Option.some.inj (hrow.symm.trans hr)
    obtain ⟨wk, wt, wn, wp⟩ := w
    conv => whnf
    repeat' first | ((refine And.intro (⟨by omega, by rw [wrows_len]; omega⟩ : (0 : Int) ≤ _ ∧ _) ?_; intro row hr; obtain rfl := Option.some.inj (hrow.symm.trans hr); conv => whnf)) | refine AW.seq ?_ | refine AW.block ?_ | (refine (_root_.id : AW _ _ _ (.region 1 _ true) _ _ → _) ?_; refine AW.draw (id := 1) tab_ok mixed [0, 1, 2, 3, 4, 5, 6, 7, 8, 9, 10, 11, 12, 13, 14, 15, 16, 17, 18, 19, 20, 21, 22, 23, 24, 25, 26, 27, 28, 29, 30, 31, 32, 33, 34, 35, 36, 37, 38, 39, 40] (by kernel_rfl) ?_; conv => whnf) | ((first | refine AW.region tab_ok ?_ | refine AW.cond ?_ | refine AW.skip ?_ | refine AW.ret ?_ | refine AW.exit ?_); conv => whnf) | ((first | refine And.intro (@rfl Val _) ?_ | refine And.intro (by decide) ?_ | refine cs (fun _ => ?_) (fun _ => ?_)) <;> conv => whnf)
    all_goals
      refine ⟨outb ?_, rfl⟩
      clear htk hw hrow
      dsimp only at *
      rw [Bool.eq_iff_iff]
      simp only [cond_true, cond_false, beq_iff_eq, beq_eq_false_iff_ne, ne_eq, Bool.and_eq_true, decide_eq_true_eq] at *
      first | (simp_all; done)
  · rename_i h2
    have hlt : ¬ i < l.length := by have := of_decide_eq_false h2; rw [wrows_len] at this; omega
    have htk : tkW l i k s = false := by unfold tkW; rw [List.getElem?_eq_none (by omega)]
    rw [htk]
    exact ⟨rfl, rfl⟩
theorem rtk_lt {l : List Wd} {i : Nat} {k : Int} {s : ByteArray} (h : tkW l i k s = true) : i < l.length := by
  unfold tkW at h
  cases hg : l[i]? with
  | none => rw [hg] at h; cases h
  | some w => exact (List.getElem?_eq_some_iff.1 hg).1
def takeR (l : List Wd) (i : Nat) (k : Int) (s : ByteArray) (o : Out) (σ : List AObj) : Prop :=
  (tkW l i k s = true ∧ i < l.length ∧ o = .ret (.c (.d (.bool true))) ∧ σ = rfO l (i + 1) 0 0 ⟨#[]⟩) ∨ (tkW l i k s = false ∧ o = .ret (.c (.d (.bool false))) ∧ σ = rfO l i 0 0 ⟨#[]⟩)
set_option maxRecDepth 10000 in
set_option maxHeartbeats 1000000 in
theorem rSign_ok (l : List Wd) (i : Nat) (s : ByteArray) (hl : l.length ≤ 1000000) : ACall Tryz.prog 85 [.c (.ptr 0 0), .c (.d (.str s))] (rfO l i 0 0 ⟨#[]⟩) (takeR l i 4 s) := by
  have I := rIs_call l i 0 0 ⟨#[]⟩ 4 s hl
  unfold takeR
  cases h : tkW l i 4 s with
  | true =>
    have hlt := rtk_lt h
    have hwi : IntKind.i64.wrap ((i : Int) + 1) = ((i + 1 : Nat) : Int) := by rw [wrap64 (by omega) (by omega)]; omega
    rw [h] at I
    unfold rfO at I ⊢
    refine ACall.body tab_ok (ρ := 0) (N := 26) Tryz.func85 rfl rfl rfl rfl rfl ?_
    repeat' first | refine AW.seq ?_ | refine AW.block ?_ | ((first | refine AW.region tab_ok ?_ | refine AW.cond ?_ | refine AW.skip ?_ | refine AW.ret ?_ | refine AW.exit ?_); conv => whnf) | (refine (I).mono ?_; rintro _ _ ⟨rfl, rfl⟩; conv => whnf) | ((first | refine And.intro (@rfl Val _) ?_ | refine And.intro (by decide) ?_ | refine cs (fun _ => ?_) (fun _ => ?_)) <;> conv => whnf)
    all_goals first | (rw [hwi]; exact .inl ⟨rfl, hlt, rfl, rfl⟩)
  | false =>
    rw [h] at I
    unfold rfO at I ⊢
    refine ACall.body tab_ok (ρ := 0) (N := 26) Tryz.func85 rfl rfl rfl rfl rfl ?_
    repeat' first | refine AW.seq ?_ | refine AW.block ?_ | ((first | refine AW.region tab_ok ?_ | refine AW.cond ?_ | refine AW.skip ?_ | refine AW.ret ?_ | refine AW.exit ?_); conv => whnf) | (refine (I).mono ?_; rintro _ _ ⟨rfl, rfl⟩; conv => whnf) | ((first | refine And.intro (@rfl Val _) ?_ | refine And.intro (by decide) ?_ | refine cs (fun _ => ?_) (fun _ => ?_)) <;> conv => whnf)
    all_goals first | exact .inr ⟨rfl, rfl, rfl⟩
set_option maxRecDepth 10000 in
set_option maxHeartbeats 1000000 in
theorem rKey_ok (l : List Wd) (i : Nat) (s : ByteArray) (hl : l.length ≤ 1000000) : ACall Tryz.prog 89 [.c (.ptr 0 0), .c (.d (.str s))] (rfO l i 0 0 ⟨#[]⟩) (takeR l i 3 s) := by
  have I := rIs_call l i 0 0 ⟨#[]⟩ 3 s hl
  unfold takeR
  cases h : tkW l i 3 s with
  | true =>
    have hlt := rtk_lt h
    have hwi : IntKind.i64.wrap ((i : Int) + 1) = ((i + 1 : Nat) : Int) := by rw [wrap64 (by omega) (by omega)]; omega
    rw [h] at I
    unfold rfO at I ⊢
    refine ACall.body tab_ok (ρ := 0) (N := 26) Tryz.func89 rfl rfl rfl rfl rfl ?_
    repeat' first | refine AW.seq ?_ | refine AW.block ?_ | ((first | refine AW.region tab_ok ?_ | refine AW.cond ?_ | refine AW.skip ?_ | refine AW.ret ?_ | refine AW.exit ?_); conv => whnf) | (refine (I).mono ?_; rintro _ _ ⟨rfl, rfl⟩; conv => whnf) | ((first | refine And.intro (@rfl Val _) ?_ | refine And.intro (by decide) ?_ | refine cs (fun _ => ?_) (fun _ => ?_)) <;> conv => whnf)
    all_goals first | (rw [hwi]; exact .inl ⟨rfl, hlt, rfl, rfl⟩)
  | false =>
    rw [h] at I
    unfold rfO at I ⊢
    refine ACall.body tab_ok (ρ := 0) (N := 26) Tryz.func89 rfl rfl rfl rfl rfl ?_
    repeat' first | refine AW.seq ?_ | refine AW.block ?_ | ((first | refine AW.region tab_ok ?_ | refine AW.cond ?_ | refine AW.skip ?_ | refine AW.ret ?_ | refine AW.exit ?_); conv => whnf) | (refine (I).mono ?_; rintro _ _ ⟨rfl, rfl⟩; conv => whnf) | ((first | refine And.intro (@rfl Val _) ?_ | refine And.intro (by decide) ?_ | refine cs (fun _ => ?_) (fun _ => ?_)) <;> conv => whnf)
    all_goals first | exact .inr ⟨rfl, rfl, rfl⟩
set_option maxRecDepth 10000 in
theorem rSign_bad (l : List Wd) (i : Nat) (e x : Int) (u s : ByteArray) (he : e ≠ 0) : ACall Tryz.prog 85 [.c (.ptr 0 0), .c (.d (.str s))] (rfO l i e x u) (fun o σ => o = .ret (.c (.d (.bool false))) ∧ σ = rfO l i e x u) := by
  have he' : (e == 0) = false := by simpa using he
  unfold rfO
  refine ACall.body tab_ok (ρ := 0) (N := 26) Tryz.func85 rfl rfl rfl rfl rfl ?_
  repeat' first | ((refine cs (fun h => absurd h (by rw [he']; decide)) (fun _ => ?_); conv => whnf)) | refine AW.seq ?_ | refine AW.block ?_ | ((first | refine AW.region tab_ok ?_ | refine AW.cond ?_ | refine AW.skip ?_ | refine AW.ret ?_ | refine AW.exit ?_); conv => whnf) | ((first | refine And.intro (@rfl Val _) ?_ | refine And.intro (by decide) ?_ | refine cs (fun _ => ?_) (fun _ => ?_)) <;> conv => whnf)
  all_goals first | exact ⟨rfl, rfl⟩
set_option maxRecDepth 10000 in
theorem rKey_bad (l : List Wd) (i : Nat) (e x : Int) (u s : ByteArray) (he : e ≠ 0) : ACall Tryz.prog 89 [.c (.ptr 0 0), .c (.d (.str s))] (rfO l i e x u) (fun o σ => o = .ret (.c (.d (.bool false))) ∧ σ = rfO l i e x u) := by
  have he' : (e == 0) = false := by simpa using he
  unfold rfO
  refine ACall.body tab_ok (ρ := 0) (N := 26) Tryz.func89 rfl rfl rfl rfl rfl ?_
  repeat' first | ((refine cs (fun h => absurd h (by rw [he']; decide)) (fun _ => ?_); conv => whnf)) | refine AW.seq ?_ | refine AW.block ?_ | ((first | refine AW.region tab_ok ?_ | refine AW.cond ?_ | refine AW.skip ?_ | refine AW.ret ?_ | refine AW.exit ?_); conv => whnf) | ((first | refine And.intro (@rfl Val _) ?_ | refine And.intro (by decide) ?_ | refine cs (fun _ => ?_) (fun _ => ?_)) <;> conv => whnf)
  all_goals first | exact ⟨rfl, rfl⟩
set_option maxRecDepth 10000 in
theorem rWrong_bad (l : List Wd) (i : Nat) (e x : Int) (u : ByteArray) (he : e ≠ 0) : ACall Tryz.prog 119 [.c (.ptr 0 0)] (rfO l i e x u) (fun o σ => o = .ret (.tup []) ∧ σ = rfO l i e x u) := by
  have he' : (e != 0) = true := by simpa using he
  unfold rfO
  refine ACall.body tab_ok (ρ := 0) (N := 74) Tryz.func119 rfl rfl rfl rfl rfl ?_
  repeat' first | ((refine cs (fun _ => ?_) (fun h => absurd h (by rw [he']; decide)); conv => whnf)) | refine AW.seq ?_ | refine AW.block ?_ | (refine (_root_.id : AW _ _ _ (.region 2 _ true) _ _ → _) ?_; refine AW.draw (id := 2) tab_ok mixed [0, 1, 2, 3, 4, 5, 6, 7, 8, 9] (by kernel_rfl) ?_; conv => whnf) | (refine (_root_.id : AW _ _ _ (.region 3 _ true) _ _ → _) ?_; refine AW.draw (id := 3) tab_ok mixed [0, 1, 2, 3, 4, 5, 6, 7, 8, 9, 10, 11, 12] (by kernel_rfl) ?_; conv => whnf) | (refine (_root_.id : AW _ _ _ (.region 4 _ true) _ _ → _) ?_; refine AW.draw (id := 4) tab_ok mixed [0, 1, 2, 3, 4, 5, 6, 7, 8, 9, 10, 11, 12] (by kernel_rfl) ?_; conv => whnf) | (refine (_root_.id : AW _ _ _ (.region 6 _ true) _ _ → _) ?_; refine AW.draw (id := 6) tab_ok mixed [0, 1, 2, 3, 4, 5, 6, 7, 8, 9, 10, 11, 12, 13] (by kernel_rfl) ?_; conv => whnf) | ((first | refine AW.region tab_ok ?_ | refine AW.cond ?_ | refine AW.skip ?_ | refine AW.ret ?_ | refine AW.exit ?_); conv => whnf) | ((first | refine And.intro (@rfl Val _) ?_ | refine And.intro (by decide) ?_ | refine cs (fun _ => ?_) (fun _ => ?_)) <;> conv => whnf)
  all_goals first | exact ⟨rfl, rfl⟩
set_option maxRecDepth 10000 in
set_option maxHeartbeats 1000000 in
theorem rWrong_ok (l : List Wd) (i : Nat) (hl : l.length ≤ 1000000) : ACall Tryz.prog 119 [.c (.ptr 0 0)] (rfO l i 0 0 ⟨#[]⟩)
    (fun o σ => o = .ret (.tup []) ∧ σ = rfO l i 40 (wrongA l i).1 (wrongA l i).2) := by
  unfold rfO
  refine ACall.body tab_ok (ρ := 0) (N := 74) Tryz.func119 rfl rfl rfl rfl rfl ?_
  repeat' first | refine AW.seq ?_ | refine AW.block ?_ | (refine (_root_.id : AW _ _ _ (.region 2 _ true) _ _ → _) ?_; refine AW.draw (id := 2) tab_ok mixed [0, 1, 2, 3, 4, 5, 6, 7, 8, 9] (by kernel_rfl) ?_; conv => whnf) | (refine (_root_.id : AW _ _ _ (.region 3 _ true) _ _ → _) ?_; refine AW.draw (id := 3) tab_ok mixed [0, 1, 2, 3, 4, 5, 6, 7, 8, 9, 10, 11, 12] (by kernel_rfl) ?_; conv => whnf) | (refine (_root_.id : AW _ _ _ (.region 4 _ true) _ _ → _) ?_; refine AW.draw (id := 4) tab_ok mixed [0, 1, 2, 3, 4, 5, 6, 7, 8, 9, 10, 11, 12] (by kernel_rfl) ?_; conv => whnf) | (refine (_root_.id : AW _ _ _ (.region 6 _ true) _ _ → _) ?_; refine AW.draw (id := 6) tab_ok mixed [0, 1, 2, 3, 4, 5, 6, 7, 8, 9, 10, 11, 12, 13] (by kernel_rfl) ?_; conv => whnf) | ((first | refine AW.region tab_ok ?_ | refine AW.cond ?_ | refine AW.skip ?_ | refine AW.ret ?_ | refine AW.exit ?_); conv => whnf) | ((first | refine And.intro (@rfl Val _) ?_ | refine And.intro (by decide) ?_ | refine cs (fun _ => ?_) (fun _ => ?_)) <;> conv => whnf)
  · rename_i h2
    have hlt : i < l.length := by have := of_decide_eq_true h2; rw [wrows_len] at this; omega
    obtain ⟨w, hw⟩ : ∃ w, l[i]? = some w := ⟨_, List.getElem?_eq_getElem hlt⟩
    have hrow : (wrows l)[i]? = some w.cells := by simp [wrows, hw]
    have hwa : wrongA l i = (w.place, w.text) := by unfold wrongA; rw [hw]
    rw [hwa]
    refine ⟨⟨by omega, by rw [wrows_len]; omega⟩, fun row hr => ?_⟩
    obtain rfl := Option.some.inj (hrow.symm.trans hr)
    obtain ⟨wk, wt, wn, wp⟩ := w
    conv => whnf
    repeat' first | ((refine And.intro (⟨by omega, by rw [wrows_len]; omega⟩ : (0 : Int) ≤ _ ∧ _) ?_; intro row hr; obtain rfl := Option.some.inj (hrow.symm.trans hr); conv => whnf)) | refine AW.seq ?_ | refine AW.block ?_ | (refine (_root_.id : AW _ _ _ (.region 2 _ true) _ _ → _) ?_; refine AW.draw (id := 2) tab_ok mixed [0, 1, 2, 3, 4, 5, 6, 7, 8, 9] (by kernel_rfl) ?_; conv => whnf) | (refine (_root_.id : AW _ _ _ (.region 3 _ true) _ _ → _) ?_; refine AW.draw (id := 3) tab_ok mixed [0, 1, 2, 3, 4, 5, 6, 7, 8, 9, 10, 11, 12] (by kernel_rfl) ?_; conv => whnf) | (refine (_root_.id : AW _ _ _ (.region 4 _ true) _ _ → _) ?_; refine AW.draw (id := 4) tab_ok mixed [0, 1, 2, 3, 4, 5, 6, 7, 8, 9, 10, 11, 12] (by kernel_rfl) ?_; conv => whnf) | (refine (_root_.id : AW _ _ _ (.region 6 _ true) _ _ → _) ?_; refine AW.draw (id := 6) tab_ok mixed [0, 1, 2, 3, 4, 5, 6, 7, 8, 9, 10, 11, 12, 13] (by kernel_rfl) ?_; conv => whnf) | ((first | refine AW.region tab_ok ?_ | refine AW.cond ?_ | refine AW.skip ?_ | refine AW.ret ?_ | refine AW.exit ?_); conv => whnf) | ((first | refine And.intro (@rfl Val _) ?_ | refine And.intro (by decide) ?_ | refine cs (fun _ => ?_) (fun _ => ?_)) <;> conv => whnf)
    all_goals first | exact ⟨rfl, rfl⟩
  · rename_i h2 h3
    have hlt : ¬ i < l.length := by have := of_decide_eq_false h2; rw [wrows_len] at this; omega
    have hpos : 0 < l.length := by have := of_decide_eq_true h3; rw [wrows_len] at this; omega
    obtain ⟨w, hw⟩ : ∃ w, l[l.length - 1]? = some w := ⟨_, List.getElem?_eq_getElem (by omega)⟩
    have hrow : (wrows l)[l.length - 1]? = some w.cells := by simp [wrows, hw]
    have hix : IntKind.i64.wrap (((wrows l).length : Int) - 1) = ((l.length - 1 : Nat) : Int) := by rw [wrows_len, wrap64 (by omega) (by omega)]; omega
    have hwa : wrongA l i = (IntKind.i64.wrap (w.place + w.text.size), ⟨#[]⟩) := by
      unfold wrongA
      rw [List.getElem?_eq_none (by omega), List.getLast?_eq_getElem?, hw]
    rw [hwa, hix]
    refine ⟨⟨by omega, by rw [wrows_len]; omega⟩, fun row hr => ?_⟩
    obtain rfl := Option.some.inj (hrow.symm.trans hr)
    obtain ⟨wk, wt, wn, wp⟩ := w
    conv => whnf
    repeat' first | ((rw [hix]; refine And.intro (⟨by omega, by rw [wrows_len]; omega⟩ : (0 : Int) ≤ _ ∧ _) ?_; intro row hr; obtain rfl := Option.some.inj (hrow.symm.trans hr); conv => whnf)) | refine AW.seq ?_ | refine AW.block ?_ | (refine (_root_.id : AW _ _ _ (.region 2 _ true) _ _ → _) ?_; refine AW.draw (id := 2) tab_ok mixed [0, 1, 2, 3, 4, 5, 6, 7, 8, 9] (by kernel_rfl) ?_; conv => whnf) | (refine (_root_.id : AW _ _ _ (.region 3 _ true) _ _ → _) ?_; refine AW.draw (id := 3) tab_ok mixed [0, 1, 2, 3, 4, 5, 6, 7, 8, 9, 10, 11, 12] (by kernel_rfl) ?_; conv => whnf) | (refine (_root_.id : AW _ _ _ (.region 4 _ true) _ _ → _) ?_; refine AW.draw (id := 4) tab_ok mixed [0, 1, 2, 3, 4, 5, 6, 7, 8, 9, 10, 11, 12] (by kernel_rfl) ?_; conv => whnf) | (refine (_root_.id : AW _ _ _ (.region 6 _ true) _ _ → _) ?_; refine AW.draw (id := 6) tab_ok mixed [0, 1, 2, 3, 4, 5, 6, 7, 8, 9, 10, 11, 12, 13] (by kernel_rfl) ?_; conv => whnf) | ((first | refine AW.region tab_ok ?_ | refine AW.cond ?_ | refine AW.skip ?_ | refine AW.ret ?_ | refine AW.exit ?_); conv => whnf) | ((first | refine And.intro (@rfl Val _) ?_ | refine And.intro (by decide) ?_ | refine cs (fun _ => ?_) (fun _ => ?_)) <;> conv => whnf)
    all_goals first | exact ⟨rfl, rfl⟩
  · rename_i h2 h3
    have hz : l = [] := List.eq_nil_of_length_eq_zero (by have := of_decide_eq_false h3; rw [wrows_len] at this; omega)
    subst hz
    first | (unfold wrongA; exact ⟨rfl, rfl⟩)
/-- Want: the sign, or the fault. -/
def wantR (l : List Wd) (i : Nat) (k : Int) (s : ByteArray) (o : Out) (σ : List AObj) : Prop :=
  (tkW l i k s = true ∧ i < l.length ∧ o = .ret (.tup []) ∧ σ = rfO l (i + 1) 0 0 ⟨#[]⟩) ∨ (tkW l i k s = false ∧ o = .ret (.tup []) ∧ σ = rfO l i 40 (wrongA l i).1 (wrongA l i).2)
set_option maxRecDepth 10000 in
theorem rWant_ok (l : List Wd) (i : Nat) (s : ByteArray) (hl : l.length ≤ 1000000) : ACall Tryz.prog 87 [.c (.ptr 0 0), .c (.d (.str s))] (rfO l i 0 0 ⟨#[]⟩) (wantR l i 4 s) := by
  have S := rSign_ok l i s hl
  have X := rWrong_ok l i hl
  unfold takeR at S
  unfold wantR
  simp only [rfO] at S X ⊢
  refine ACall.body tab_ok (ρ := 0) (N := 12) Tryz.func87 rfl rfl rfl rfl rfl ?_
  repeat' first | ((refine S.mono ?_; rintro _ _ (⟨ht, hlt, rfl, rfl⟩ | ⟨ht, rfl, rfl⟩) <;> conv => whnf)) | refine AW.seq ?_ | refine AW.block ?_ | ((first | refine AW.region tab_ok ?_ | refine AW.cond ?_ | refine AW.skip ?_ | refine AW.ret ?_ | refine AW.exit ?_); conv => whnf) | (refine (X).mono ?_; rintro _ _ ⟨rfl, rfl⟩; conv => whnf) | ((first | refine And.intro (@rfl Val _) ?_ | refine And.intro (by decide) ?_ | refine cs (fun _ => ?_) (fun _ => ?_)) <;> conv => whnf)
  all_goals first | exact .inl ⟨ht, hlt, rfl, rfl⟩ | exact .inr ⟨ht, rfl, rfl⟩
set_option maxRecDepth 10000 in
theorem rWant_bad (l : List Wd) (i : Nat) (e x : Int) (u s : ByteArray) (he : e ≠ 0) : ACall Tryz.prog 87 [.c (.ptr 0 0), .c (.d (.str s))] (rfO l i e x u) (fun o σ => o = .ret (.tup []) ∧ σ = rfO l i e x u) := by
  have S := rSign_bad l i e x u s he
  have X := rWrong_bad l i e x u he
  simp only [rfO] at S X ⊢
  refine ACall.body tab_ok (ρ := 0) (N := 12) Tryz.func87 rfl rfl rfl rfl rfl ?_
  repeat' first | refine AW.seq ?_ | refine AW.block ?_ | ((first | refine AW.region tab_ok ?_ | refine AW.cond ?_ | refine AW.skip ?_ | refine AW.ret ?_ | refine AW.exit ?_); conv => whnf) | ((first | refine (S).mono ?_ | refine (X).mono ?_); rintro _ _ ⟨rfl, rfl⟩; conv => whnf) | ((first | refine And.intro (@rfl Val _) ?_ | refine And.intro (by decide) ?_ | refine cs (fun _ => ?_) (fun _ => ?_)) <;> conv => whnf)
  all_goals first | exact ⟨rfl, rfl⟩
end Go.Proofs.YtmaokphbfjpodaaGreatDoor.E

/- Walks: the document's reader: types. No conditions. -/
set_option linter.unusedVariables false
set_option linter.unusedSimpArgs false
namespace Go.Proofs.YtmaokphbfjpodaaGreatDoor.E
open Go

/-- What a method of the document's reader tells: a value, and it went on; or a fault is laid down, and some value. -/
def rfR {α : Type} (l : List Wd) (V : α → Val) (G : Val → Prop) (i : Nat) (pr : PR α) (o : Out) (σ : List AObj) : Prop := match pr with
  | .ok a j => o = .ret (V a) ∧ σ = rfO l j 0 0 ⟨#[]⟩ ∧ i < j ∧ j ≤ l.length
  | .bad e x w => e ≠ 0 ∧ ∃ v j, G v ∧ o = .ret v ∧ σ = rfO l j e x w
theorem rfR_cases {α : Type} {l : List Wd} {V : α → Val} {G : Val → Prop} {i : Nat} {pr : PR α} {o : Out} {σ : List AObj} (h : rfR l V G i pr o σ) :
    (∃ a j, pr = .ok a j ∧ i < j ∧ j ≤ l.length ∧ o = .ret (V a) ∧ σ = rfO l j 0 0 ⟨#[]⟩) ∨ (∃ e x w v j, pr = .bad e x w ∧ e ≠ 0 ∧ G v ∧ o = .ret v ∧ σ = rfO l j e x w) := by
  cases pr with
  | ok a j => obtain ⟨h1, h2, h3, h4⟩ := h; exact .inl ⟨a, j, rfl, h3, h4, h1, h2⟩
  | bad e x w => obtain ⟨h0, v, j, h1, h2, h3⟩ := h; exact .inr ⟨e, x, w, v, j, rfl, h0, h1, h2, h3⟩
def GTy (v : Val) : Prop := ∃ k ks, v = (Ty.node k ks).val
def GStr (v : Val) : Prop := ∃ s, v = .c (.d (.str s))
def SVal (s : ByteArray) : Val := .c (.d (.str s))
set_option maxRecDepth 10000 in
theorem rOf_call (k : Int) (a b : Ty) : ACall Tryz.prog 145 [.c (.d (.int .i8 k)), a.val, b.val] [] (fun o σ => o = .ret (Ty.node k [a, b]).val ∧ σ = []) := by
  obtain ⟨ak, aks⟩ := a
  obtain ⟨bk, bks⟩ := b
  refine ACall.body tab_ok (ρ := 0) (N := 12) Tryz.func145 rfl rfl rfl rfl rfl ?_
  repeat' first | refine AW.seq ?_ | refine AW.block ?_ | ((first | refine AW.region tab_ok ?_ | refine AW.cond ?_ | refine AW.skip ?_ | refine AW.ret ?_ | refine AW.exit ?_); conv => whnf) | ((first | refine And.intro (@rfl Val _) ?_ | refine And.intro (by decide) ?_ | refine cs (fun _ => ?_) (fun _ => ?_)) <;> conv => whnf)
  all_goals first | exact ⟨rfl, rfl⟩
def WholeR (l : List Wd) (n : Nat) : Prop := ∀ i, i ≤ l.length → l.length - i < n → ACall Tryz.prog 120 [.c (.ptr 0 0)] (rfO l i 0 0 ⟨#[]⟩) (rfR l Ty.val GTy i (tWhole l n i))
set_option maxRecDepth 10000 in
set_option maxHeartbeats 2000000 in
theorem ratom2_bad (l : List Wd) (i : Nat) (e x : Int) (u : ByteArray) (he : e ≠ 0) : ACall Tryz.prog 165 [.c (.ptr 0 0)] (rfO l i e x u) (fun o σ => o = .ret (ty0.val) ∧ σ = rfO l i e x u) := by
  have he' : (e == 0) = false := by simpa using he
  have hn' : (e != 0) = true := by simpa using he
  have S' := fun j e x u s he => rSign_bad l j e x u s he
  have K' := fun j e x u s he => rKey_bad l j e x u s he
  have X' := fun j e x u he => rWrong_bad l j e x u he
  simp only [rfO, takeR, wantR] at S' K' X' ⊢
  refine ACall.body tab_ok (ρ := 0) (N := 27) Tryz.func165 rfl rfl rfl rfl rfl ?_
  repeat' first | ((refine cs (fun h => absurd h (by rw [he']; decide)) (fun _ => ?_); conv => whnf)) | ((refine cs (fun _ => ?_) (fun h => absurd h (by rw [hn']; decide)); conv => whnf)) | ((refine (S' _ _ _ _ _ (by first | assumption | decide)).mono ?_; rintro _ _ ⟨rfl, rfl⟩; conv => whnf)) | ((refine (K' _ _ _ _ _ (by first | assumption | decide)).mono ?_; rintro _ _ ⟨rfl, rfl⟩; conv => whnf)) | ((refine (X' _ _ _ _ (by first | assumption | decide)).mono ?_; rintro _ _ ⟨rfl, rfl⟩; conv => whnf)) | refine AW.seq ?_ | refine AW.block ?_ | ((first | refine AW.region tab_ok ?_ | refine AW.cond ?_ | refine AW.skip ?_ | refine AW.ret ?_ | refine AW.exit ?_); conv => whnf) | ((first | refine And.intro (@rfl Val _) ?_ | refine And.intro (by decide) ?_ | refine cs (fun _ => ?_) (fun _ => ?_)) <;> conv => whnf)
  all_goals first | exact ⟨rfl, rfl⟩
set_option maxRecDepth 10000 in
set_option maxHeartbeats 2000000 in
theorem ratom2_ok (l : List Wd) (n : Nat) (hW : WholeR l n) (i : Nat) (hi : i ≤ l.length) (hn : l.length - i < n + 1) (hl : l.length ≤ 1000000) :
    ACall Tryz.prog 165 [.c (.ptr 0 0)] (rfO l i 0 0 ⟨#[]⟩) (rfR l Ty.val GTy i (tAtom l (tWhole l n) i)) := by
  have S := fun j s => rSign_ok l j s hl
  have K := fun j s => rKey_ok l j s hl
  have Q := fun j s => rWant_ok l j s hl
  have Q' := fun j e x u s he => rWant_bad l j e x u s he
  have X := fun j => rWrong_ok l j hl
  have W2 := hW
  unfold WholeR at W2
  simp only [rfO, takeR, wantR, SVal] at S K Q Q' X W2 ⊢
  refine ACall.body tab_ok (ρ := 0) (N := 27) Tryz.func165 rfl rfl rfl rfl rfl ?_
  repeat' first | ((refine (S _ _).mono ?_; rintro _ _ (⟨ht, hlt, rfl, rfl⟩ | ⟨ht, rfl, rfl⟩) <;> conv => whnf)) | ((refine (K _ _).mono ?_; rintro _ _ (⟨ht, hlt, rfl, rfl⟩ | ⟨ht, rfl, rfl⟩) <;> conv => whnf)) | ((refine (Q _ _).mono ?_; rintro _ _ (⟨ht, hlt, rfl, rfl⟩ | ⟨ht, rfl, rfl⟩) <;> conv => whnf)) | ((refine (Q' _ _ _ _ _ (by first | assumption | decide)).mono ?_; rintro _ _ ⟨rfl, rfl⟩; conv => whnf)) | ((refine (X _).mono ?_; rintro _ _ ⟨rfl, rfl⟩; conv => whnf)) | ((refine (W2 _ (by omega) (by omega)).mono ?_; intro o σ hh; rcases rfR_cases hh with ⟨⟨ak, aks⟩, j, hp, hj1, hj2, rfl, rfl⟩ | ⟨e, x, w, v, j, hp, he, ⟨gk, gks, rfl⟩, rfl, rfl⟩ <;> clear hh <;> conv => whnf)) | refine AW.seq ?_ | refine AW.block ?_ | ((first | refine AW.region tab_ok ?_ | refine AW.cond ?_ | refine AW.skip ?_ | refine AW.ret ?_ | refine AW.exit ?_); conv => whnf) | ((first | refine And.intro (@rfl Val _) ?_ | refine And.intro (by decide) ?_ | refine cs (fun _ => ?_) (fun _ => ?_)) <;> conv => whnf)
  all_goals
    clear S K Q Q' X W2 hW
    try dsimp only at *
    try simp only [cond_true, cond_false, bne_iff_ne, ne_eq, beq_iff_eq, bne_eq_false_iff_eq, beq_eq_false_iff_ne, decide_eq_true_eq, decide_eq_false_iff_not] at *
    first
      | (exfalso; omega)
      | (simp only [tAtom, wbad, *, if_true, if_false, bindP_ok, bindP_bad, Bool.false_eq_true]
         first
           | (refine ⟨rfl, rfl, ?_, ?_⟩ <;> first | trivial | omega)
           | exact ⟨(by first | assumption | decide), _, _, ⟨0, [], rfl⟩, rfl, rfl⟩
           | exact ⟨(by first | assumption | decide), _, _, ⟨1, [], rfl⟩, rfl, rfl⟩
           | exact ⟨(by first | assumption | decide), _, _, ⟨2, [], rfl⟩, rfl, rfl⟩
           | exact ⟨(by first | assumption | decide), _, _, ⟨_, _, rfl⟩, rfl, rfl⟩
           | exact ⟨(by first | assumption | decide), _, _, ⟨_, [.node ak aks, .node gk gks], rfl⟩, rfl, rfl⟩
           | exact ⟨(by first | assumption | decide), _, _, ⟨_, [.node gk gks, .node 0 []], rfl⟩, rfl, rfl⟩
          )
end Go.Proofs.YtmaokphbfjpodaaGreatDoor.E

/- Walks: the document's reader: types: left, and all. No conditions. -/
set_option linter.unusedVariables false
set_option linter.unusedSimpArgs false
namespace Go.Proofs.YtmaokphbfjpodaaGreatDoor.E
open Go

set_option maxRecDepth 10000 in
set_option maxHeartbeats 2000000 in
theorem rprod2_bad (l : List Wd) (i : Nat) (e x : Int) (u : ByteArray) (he : e ≠ 0) : ACall Tryz.prog 158 [.c (.ptr 0 0)] (rfO l i e x u) (fun o σ => o = .ret (ty0.val) ∧ σ = rfO l i e x u) := by
  have he' : (e == 0) = false := by simpa using he
  have hn' : (e != 0) = true := by simpa using he
  have L0 := fun j e x u he => ratom2_bad l j e x u he
  have S' := fun j e x u s he => rSign_bad l j e x u s he
  simp only [rfO, takeR, wantR] at L0 S' ⊢
  refine ACall.body tab_ok (ρ := 0) (N := 15) Tryz.func158 rfl rfl rfl rfl rfl ?_
  repeat' first | ((refine AW.rounds 2 ?_; conv => whnf)) | ((refine cs (fun h => absurd h (by rw [he']; decide)) (fun _ => ?_); conv => whnf)) | ((refine cs (fun _ => ?_) (fun h => absurd h (by rw [hn']; decide)); conv => whnf)) | ((refine (L0 _ _ _ _ (by first | assumption | decide)).mono ?_; rintro _ _ ⟨rfl, rfl⟩; conv => whnf)) | ((refine (S' _ _ _ _ _ (by first | assumption | decide)).mono ?_; rintro _ _ ⟨rfl, rfl⟩; conv => whnf)) | refine AW.seq ?_ | refine AW.block ?_ | ((first | refine AW.region tab_ok ?_ | refine AW.cond ?_ | refine AW.skip ?_ | refine AW.ret ?_ | refine AW.exit ?_); conv => whnf) | ((first | refine And.intro (@rfl Val _) ?_ | refine And.intro (by decide) ?_ | refine cs (fun _ => ?_) (fun _ => ?_)) <;> conv => whnf)
  all_goals first | exact ⟨rfl, rfl⟩
set_option maxRecDepth 10000 in
set_option maxHeartbeats 2000000 in
theorem rsum2_bad (l : List Wd) (i : Nat) (e x : Int) (u : ByteArray) (he : e ≠ 0) : ACall Tryz.prog 144 [.c (.ptr 0 0)] (rfO l i e x u) (fun o σ => o = .ret (ty0.val) ∧ σ = rfO l i e x u) := by
  have he' : (e == 0) = false := by simpa using he
  have hn' : (e != 0) = true := by simpa using he
  have L1 := fun j e x u he => rprod2_bad l j e x u he
  have S' := fun j e x u s he => rSign_bad l j e x u s he
  simp only [rfO, takeR, wantR] at L1 S' ⊢
  refine ACall.body tab_ok (ρ := 0) (N := 15) Tryz.func144 rfl rfl rfl rfl rfl ?_
  repeat' first | ((refine AW.rounds 2 ?_; conv => whnf)) | ((refine cs (fun h => absurd h (by rw [he']; decide)) (fun _ => ?_); conv => whnf)) | ((refine cs (fun _ => ?_) (fun h => absurd h (by rw [hn']; decide)); conv => whnf)) | ((refine (L1 _ _ _ _ (by first | assumption | decide)).mono ?_; rintro _ _ ⟨rfl, rfl⟩; conv => whnf)) | ((refine (S' _ _ _ _ _ (by first | assumption | decide)).mono ?_; rintro _ _ ⟨rfl, rfl⟩; conv => whnf)) | refine AW.seq ?_ | refine AW.block ?_ | ((first | refine AW.region tab_ok ?_ | refine AW.cond ?_ | refine AW.skip ?_ | refine AW.ret ?_ | refine AW.exit ?_); conv => whnf) | ((first | refine And.intro (@rfl Val _) ?_ | refine And.intro (by decide) ?_ | refine cs (fun _ => ?_) (fun _ => ?_)) <;> conv => whnf)
  all_goals first | exact ⟨rfl, rfl⟩
set_option maxRecDepth 10000 in
set_option maxHeartbeats 2000000 in
theorem rType_bad (l : List Wd) (i : Nat) (e x : Int) (u : ByteArray) (he : e ≠ 0) : ACall Tryz.prog 120 [.c (.ptr 0 0)] (rfO l i e x u) (fun o σ => o = .ret (ty0.val) ∧ σ = rfO l i e x u) := by
  have he' : (e == 0) = false := by simpa using he
  have hn' : (e != 0) = true := by simpa using he
  have L2 := fun j e x u he => rsum2_bad l j e x u he
  have S' := fun j e x u s he => rSign_bad l j e x u s he
  simp only [rfO, takeR, wantR] at L2 S' ⊢
  refine ACall.body tab_ok (ρ := 0) (N := 15) Tryz.func120 rfl rfl rfl rfl rfl ?_
  repeat' first | ((refine cs (fun h => absurd h (by rw [he']; decide)) (fun _ => ?_); conv => whnf)) | ((refine cs (fun _ => ?_) (fun h => absurd h (by rw [hn']; decide)); conv => whnf)) | ((refine (L2 _ _ _ _ (by first | assumption | decide)).mono ?_; rintro _ _ ⟨rfl, rfl⟩; conv => whnf)) | ((refine (S' _ _ _ _ _ (by first | assumption | decide)).mono ?_; rintro _ _ ⟨rfl, rfl⟩; conv => whnf)) | refine AW.seq ?_ | refine AW.block ?_ | ((first | refine AW.region tab_ok ?_ | refine AW.cond ?_ | refine AW.skip ?_ | refine AW.ret ?_ | refine AW.exit ?_); conv => whnf) | ((first | refine And.intro (@rfl Val _) ?_ | refine And.intro (by decide) ?_ | refine cs (fun _ => ?_) (fun _ => ?_)) <;> conv => whnf)
  all_goals first | exact ⟨rfl, rfl⟩
structure LdI (l : List Wd) (part : Nat → PR Ty) (k : Int) (s : ByteArray) (i : Nat) where
  a : Ty
  j : Nat
  e : Int
  x : Int
  w : ByteArray
  h : (e = 0 ∧ x = 0 ∧ w = ⟨#[]⟩ ∧ i < j ∧ j ≤ l.length ∧ ∃ m, l.length - j < m ∧ tLeft l part k s i = tLoop l part k s m a j) ∨ (e ≠ 0 ∧ tLeft l part k s i = .bad e x w)
def ldM (l : List Wd) (e : Int) (j : Nat) : Nat := if e = 0 then l.length - j + 1 else 0
set_option maxRecDepth 10000 in
set_option maxHeartbeats 2000000 in
theorem rprod2_ok (l : List Wd) (n : Nat) (hW : WholeR l n) (i : Nat) (hi : i ≤ l.length) (hn : l.length - i < n + 1) (hl : l.length ≤ 1000000) :
    ACall Tryz.prog 158 [.c (.ptr 0 0)] (rfO l i 0 0 ⟨#[]⟩) (rfR l Ty.val GTy i (tProd l (tWhole l n) i)) := by
  have P := fun j hj hn => ratom2_ok l n hW j hj hn hl
  have S := fun j s => rSign_ok l j s hl
  have S' := fun j e x u s he => rSign_bad l j e x u s he
  unfold tProd
  simp only [rfO, takeR, wantR] at P S S' ⊢
  refine ACall.body tab_ok (ρ := 0) (N := 15) Tryz.func158 rfl rfl rfl rfl rfl ?_
  repeat' first | ((refine (P _ (by omega) (by omega)).mono ?_; intro o σ hh; rcases rfR_cases hh with ⟨⟨ak, aks⟩, j, hp, hj1, hj2, rfl, rfl⟩ | ⟨e, x, w, v, j, hp, he, ⟨gk, gks, rfl⟩, rfl, rfl⟩ <;> clear hh <;> conv => whnf)) | refine AW.seq ?_ | refine AW.block ?_ | ((first | refine AW.region tab_ok ?_ | refine AW.cond ?_ | refine AW.skip ?_ | refine AW.ret ?_ | refine AW.exit ?_); conv => whnf) | ((first | refine And.intro (@rfl Val _) ?_ | refine And.intro (by decide) ?_ | refine cs (fun _ => ?_) (fun _ => ?_)) <;> conv => whnf)
  all_goals first
    | refine AW.loop (ι := LdI l (tAtom l (tWhole l n)) 4 ⟨#[42]⟩ i) (fun x => ⟨15, [(3, .c (.ptr 2 0)), (2, .c (.ptr 1 0)), (0, .c (.ptr 0 0))], [.var [.d (.sl 0 4 (wrows l)), .d (.int .i64 x.j), .d (.int .i64 x.e), .d (.int .i64 x.x), .d (.str x.w)], .var [.d (.int .i8 0), .d .nils], .var (x.a.cells.map .d)], []⟩) (fun x => ldM l x.e x.j) ⟨.node ak aks, j, 0, 0, ⟨#[]⟩, .inl ⟨rfl, rfl, rfl, hj1, hj2, l.length + 1, by omega, by simp only [tLeft, hp, bindP_ok]⟩⟩ 3 (fun _ => rfl) (Nat.le_of_ble_eq_true rfl) ⟨⟨rfl, rfl, rfl, trivial⟩, rfl, rfl, ⟨[], rfl⟩, rfl⟩ (fun x => ?_)
    | refine AW.loop (ι := LdI l (tAtom l (tWhole l n)) 4 ⟨#[42]⟩ i) (fun x => ⟨15, [(3, .c (.ptr 2 0)), (2, .c (.ptr 1 0)), (0, .c (.ptr 0 0))], [.var [.d (.sl 0 4 (wrows l)), .d (.int .i64 x.j), .d (.int .i64 x.e), .d (.int .i64 x.x), .d (.str x.w)], .var [.d (.int .i8 0), .d .nils], .var (x.a.cells.map .d)], []⟩) (fun x => ldM l x.e x.j) ⟨.node gk gks, j, e, x, w, .inr ⟨he, by simp only [tLeft, hp, bindP_bad]⟩⟩ 3 (fun _ => rfl) (Nat.le_of_ble_eq_true rfl) ⟨⟨rfl, rfl, rfl, trivial⟩, rfl, rfl, ⟨[], rfl⟩, rfl⟩ (fun x => ?_)
   
  all_goals
    clear hp
    obtain ⟨⟨ak, aks⟩, j, e, x, w, h⟩ := x
    dsimp only
    simp only [Ty.cells, List.map_cons, List.map_nil]
    rcases h with ⟨rfl, rfl, rfl, h1, h2, m, h3, hx⟩ | ⟨he, hx⟩
    · obtain ⟨m, rfl⟩ : ∃ q, m = q + 1 := ⟨m - 1, by omega⟩
      repeat' first | ((refine (S _ _).mono ?_; rintro _ _ (⟨ht, hlt, rfl, rfl⟩ | ⟨ht, rfl, rfl⟩) <;> conv => whnf)) | ((refine (P _ (by omega) (by omega)).mono ?_; intro o σ hh; rcases rfR_cases hh with ⟨⟨bk, bks⟩, j2, hp, hj3, hj4, rfl, rfl⟩ | ⟨e, x, w, v, j2, hp, he, ⟨gk, gks, rfl⟩, rfl, rfl⟩ <;> clear hh <;> conv => whnf)) | refine AW.seq ?_ | refine AW.block ?_ | ((first | refine AW.region tab_ok ?_ | refine AW.cond ?_ | refine AW.skip ?_ | refine AW.ret ?_ | refine AW.exit ?_); conv => whnf) | ((first | refine (rOf_call _ (.node ak aks) (.node bk bks)).mono ?_ | refine (rOf_call _ (.node ak aks) (.node gk gks)).mono ?_); rintro _ _ ⟨rfl, rfl⟩; conv => whnf) | ((first | refine And.intro (@rfl Val _) ?_ | refine And.intro (by decide) ?_ | refine cs (fun _ => ?_) (fun _ => ?_)) <;> conv => whnf)
      all_goals first
        | (rw [hx, tLoop, if_neg (by simp [*])]; exact ⟨rfl, rfl, by omega, by omega⟩)
        | (refine ⟨⟨.node _ [.node ak aks, .node bk bks], j2, 0, 0, ⟨#[]⟩, .inl ⟨rfl, rfl, rfl, by omega, by omega, m, by omega, by rw [hx, tLoop, if_pos (by assumption)]; simp only [*, bindP_ok]⟩⟩, ⟨⟨rfl, rfl, rfl, trivial⟩, rfl, rfl, ⟨[_], rfl⟩, rfl⟩, ?_⟩; show ldM l 0 j2 < ldM l 0 j; unfold ldM; rw [if_pos rfl, if_pos rfl]; omega)
        | (refine ⟨⟨.node _ [.node ak aks, .node gk gks], j2, e, x, w, .inr ⟨he, by rw [hx, tLoop, if_pos (by assumption)]; simp only [*, bindP_bad]⟩⟩, ⟨⟨rfl, rfl, rfl, trivial⟩, rfl, rfl, ⟨[_], rfl⟩, rfl⟩, ?_⟩; show ldM l e j2 < ldM l 0 j; unfold ldM; rw [if_neg he, if_pos rfl]; omega)
       
    · skip
      repeat' first | ((refine (S' _ _ _ _ _ (by first | assumption | decide)).mono ?_; rintro _ _ ⟨rfl, rfl⟩; conv => whnf)) | refine AW.seq ?_ | refine AW.block ?_ | ((first | refine AW.region tab_ok ?_ | refine AW.cond ?_ | refine AW.skip ?_ | refine AW.ret ?_ | refine AW.exit ?_); conv => whnf) | ((first | refine And.intro (@rfl Val _) ?_ | refine And.intro (by decide) ?_ | refine cs (fun _ => ?_) (fun _ => ?_)) <;> conv => whnf)
      all_goals
        first
          | (rw [hx]; exact ⟨he, _, _, ⟨_, _, rfl⟩, rfl, rfl⟩)
         
set_option maxRecDepth 10000 in
set_option maxHeartbeats 2000000 in
theorem rsum2_ok (l : List Wd) (n : Nat) (hW : WholeR l n) (i : Nat) (hi : i ≤ l.length) (hn : l.length - i < n + 1) (hl : l.length ≤ 1000000) :
    ACall Tryz.prog 144 [.c (.ptr 0 0)] (rfO l i 0 0 ⟨#[]⟩) (rfR l Ty.val GTy i (tSum l (tWhole l n) i)) := by
  have P := fun j hj hn => rprod2_ok l n hW j hj hn hl
  have S := fun j s => rSign_ok l j s hl
  have S' := fun j e x u s he => rSign_bad l j e x u s he
  unfold tSum
  simp only [rfO, takeR, wantR] at P S S' ⊢
  refine ACall.body tab_ok (ρ := 0) (N := 15) Tryz.func144 rfl rfl rfl rfl rfl ?_
  repeat' first | ((refine (P _ (by omega) (by omega)).mono ?_; intro o σ hh; rcases rfR_cases hh with ⟨⟨ak, aks⟩, j, hp, hj1, hj2, rfl, rfl⟩ | ⟨e, x, w, v, j, hp, he, ⟨gk, gks, rfl⟩, rfl, rfl⟩ <;> clear hh <;> conv => whnf)) | refine AW.seq ?_ | refine AW.block ?_ | ((first | refine AW.region tab_ok ?_ | refine AW.cond ?_ | refine AW.skip ?_ | refine AW.ret ?_ | refine AW.exit ?_); conv => whnf) | ((first | refine And.intro (@rfl Val _) ?_ | refine And.intro (by decide) ?_ | refine cs (fun _ => ?_) (fun _ => ?_)) <;> conv => whnf)
  all_goals first
    | refine AW.loop (ι := LdI l (tProd l (tWhole l n)) 5 ⟨#[43]⟩ i) (fun x => ⟨15, [(3, .c (.ptr 2 0)), (2, .c (.ptr 1 0)), (0, .c (.ptr 0 0))], [.var [.d (.sl 0 4 (wrows l)), .d (.int .i64 x.j), .d (.int .i64 x.e), .d (.int .i64 x.x), .d (.str x.w)], .var [.d (.int .i8 0), .d .nils], .var (x.a.cells.map .d)], []⟩) (fun x => ldM l x.e x.j) ⟨.node ak aks, j, 0, 0, ⟨#[]⟩, .inl ⟨rfl, rfl, rfl, hj1, hj2, l.length + 1, by omega, by simp only [tLeft, hp, bindP_ok]⟩⟩ 3 (fun _ => rfl) (Nat.le_of_ble_eq_true rfl) ⟨⟨rfl, rfl, rfl, trivial⟩, rfl, rfl, ⟨[], rfl⟩, rfl⟩ (fun x => ?_)
    | refine AW.loop (ι := LdI l (tProd l (tWhole l n)) 5 ⟨#[43]⟩ i) (fun x => ⟨15, [(3, .c (.ptr 2 0)), (2, .c (.ptr 1 0)), (0, .c (.ptr 0 0))], [.var [.d (.sl 0 4 (wrows l)), .d (.int .i64 x.j), .d (.int .i64 x.e), .d (.int .i64 x.x), .d (.str x.w)], .var [.d (.int .i8 0), .d .nils], .var (x.a.cells.map .d)], []⟩) (fun x => ldM l x.e x.j) ⟨.node gk gks, j, e, x, w, .inr ⟨he, by simp only [tLeft, hp, bindP_bad]⟩⟩ 3 (fun _ => rfl) (Nat.le_of_ble_eq_true rfl) ⟨⟨rfl, rfl, rfl, trivial⟩, rfl, rfl, ⟨[], rfl⟩, rfl⟩ (fun x => ?_)
   
  all_goals
    clear hp
    obtain ⟨⟨ak, aks⟩, j, e, x, w, h⟩ := x
    dsimp only
    simp only [Ty.cells, List.map_cons, List.map_nil]
    rcases h with ⟨rfl, rfl, rfl, h1, h2, m, h3, hx⟩ | ⟨he, hx⟩
    · obtain ⟨m, rfl⟩ : ∃ q, m = q + 1 := ⟨m - 1, by omega⟩
      repeat' first | ((refine (S _ _).mono ?_; rintro _ _ (⟨ht, hlt, rfl, rfl⟩ | ⟨ht, rfl, rfl⟩) <;> conv => whnf)) | ((refine (P _ (by omega) (by omega)).mono ?_; intro o σ hh; rcases rfR_cases hh with ⟨⟨bk, bks⟩, j2, hp, hj3, hj4, rfl, rfl⟩ | ⟨e, x, w, v, j2, hp, he, ⟨gk, gks, rfl⟩, rfl, rfl⟩ <;> clear hh <;> conv => whnf)) | refine AW.seq ?_ | refine AW.block ?_ | ((first | refine AW.region tab_ok ?_ | refine AW.cond ?_ | refine AW.skip ?_ | refine AW.ret ?_ | refine AW.exit ?_); conv => whnf) | ((first | refine (rOf_call _ (.node ak aks) (.node bk bks)).mono ?_ | refine (rOf_call _ (.node ak aks) (.node gk gks)).mono ?_); rintro _ _ ⟨rfl, rfl⟩; conv => whnf) | ((first | refine And.intro (@rfl Val _) ?_ | refine And.intro (by decide) ?_ | refine cs (fun _ => ?_) (fun _ => ?_)) <;> conv => whnf)
      all_goals first
        | (rw [hx, tLoop, if_neg (by simp [*])]; exact ⟨rfl, rfl, by omega, by omega⟩)
        | (refine ⟨⟨.node _ [.node ak aks, .node bk bks], j2, 0, 0, ⟨#[]⟩, .inl ⟨rfl, rfl, rfl, by omega, by omega, m, by omega, by rw [hx, tLoop, if_pos (by assumption)]; simp only [*, bindP_ok]⟩⟩, ⟨⟨rfl, rfl, rfl, trivial⟩, rfl, rfl, ⟨[_], rfl⟩, rfl⟩, ?_⟩; show ldM l 0 j2 < ldM l 0 j; unfold ldM; rw [if_pos rfl, if_pos rfl]; omega)
        | (refine ⟨⟨.node _ [.node ak aks, .node gk gks], j2, e, x, w, .inr ⟨he, by rw [hx, tLoop, if_pos (by assumption)]; simp only [*, bindP_bad]⟩⟩, ⟨⟨rfl, rfl, rfl, trivial⟩, rfl, rfl, ⟨[_], rfl⟩, rfl⟩, ?_⟩; show ldM l e j2 < ldM l 0 j; unfold ldM; rw [if_neg he, if_pos rfl]; omega)
       
    · skip
      repeat' first | ((refine (S' _ _ _ _ _ (by first | assumption | decide)).mono ?_; rintro _ _ ⟨rfl, rfl⟩; conv => whnf)) | refine AW.seq ?_ | refine AW.block ?_ | ((first | refine AW.region tab_ok ?_ | refine AW.cond ?_ | refine AW.skip ?_ | refine AW.ret ?_ | refine AW.exit ?_); conv => whnf) | ((first | refine And.intro (@rfl Val _) ?_ | refine And.intro (by decide) ?_ | refine cs (fun _ => ?_) (fun _ => ?_)) <;> conv => whnf)
      all_goals
        first
          | (rw [hx]; exact ⟨he, _, _, ⟨_, _, rfl⟩, rfl, rfl⟩)
         
set_option maxRecDepth 10000 in
set_option maxHeartbeats 2000000 in
theorem rType_ok (l : List Wd) (hl : l.length ≤ 1000000) : ∀ n, WholeR l n
  | 0, i, hi, hn => absurd hn (Nat.not_lt_zero _)
  | n + 1, i, hi, hn => by
    have ih := rType_ok l hl n
    have P := fun j hj hn => rsum2_ok l n ih j hj hn hl
    have S := fun j s => rSign_ok l j s hl
    have S' := fun j e x u s he => rSign_bad l j e x u s he
    unfold WholeR at ih
    simp only [rfO, takeR, wantR] at P S S' ih ⊢
    refine ACall.body tab_ok (ρ := 0) (N := 15) Tryz.func120 rfl rfl rfl rfl rfl ?_
    repeat' first | ((refine (P _ (by omega) (by omega)).mono ?_; intro o σ hh; rcases rfR_cases hh with ⟨⟨ak, aks⟩, j, hp, hj1, hj2, rfl, rfl⟩ | ⟨e, x, w, v, j, hp, he, ⟨gk, gks, rfl⟩, rfl, rfl⟩ <;> clear hh <;> conv => whnf)) | ((refine (S _ _).mono ?_; rintro _ _ (⟨ht, hlt, rfl, rfl⟩ | ⟨ht, rfl, rfl⟩) <;> conv => whnf)) | ((refine (S' _ _ _ _ _ (by first | assumption | decide)).mono ?_; rintro _ _ ⟨rfl, rfl⟩; conv => whnf)) | ((refine (ih _ (by omega) (by omega)).mono ?_; intro o σ hh; rcases rfR_cases hh with ⟨⟨bk, bks⟩, j2, hp2, hj3, hj4, rfl, rfl⟩ | ⟨e, x, w, v, j2, hp2, he, ⟨gk, gks, rfl⟩, rfl, rfl⟩ <;> clear hh <;> conv => whnf)) | refine AW.seq ?_ | refine AW.block ?_ | ((first | refine AW.region tab_ok ?_ | refine AW.cond ?_ | refine AW.skip ?_ | refine AW.ret ?_ | refine AW.exit ?_); conv => whnf) | ((first | refine (rOf_call _ (.node ak aks) (.node bk bks)).mono ?_ | refine (rOf_call _ (.node ak aks) (.node gk gks)).mono ?_); rintro _ _ ⟨rfl, rfl⟩; conv => whnf) | ((first | refine And.intro (@rfl Val _) ?_ | refine And.intro (by decide) ?_ | refine cs (fun _ => ?_) (fun _ => ?_)) <;> conv => whnf)
    all_goals
      clear P S S' ih
      simp only [tWhole, *, if_true, if_false, bindP_ok, bindP_bad, Bool.false_eq_true]
      first
        | (refine ⟨rfl, rfl, ?_, ?_⟩ <;> first | trivial | omega)
        | exact ⟨(by first | assumption | decide), _, _, ⟨_, _, rfl⟩, rfl, rfl⟩
        | exact ⟨(by first | assumption | decide), _, _, ⟨_, [.node ak aks, .node gk gks], rfl⟩, rfl, rfl⟩
       
end Go.Proofs.YtmaokphbfjpodaaGreatDoor.E
