/- Texts, merged: Pp1, Pp2, Pp3. No conditions. -/
import Derived.Test.YtmaokphbfjpodaaGreatDoorGenX5
/- Walks: parse.reader: next, take, wrong, must, any, name, typ. No conditions. -/
set_option linter.unusedVariables false
set_option linter.unusedSimpArgs false
namespace Go.Proofs.YtmaokphbfjpodaaGreatDoor.E
open Go
def oTPp1_74_1 : OT := (.op 0 (.op 1 (.op 2 (.op 3 (.op 4 (.op 5 (.op 6 (.op 7 (.alt (.op 8 (.op 9 (.alt (.op 10 (.alt (.op 11 (.alt (.op 12 (.op 13 (.op 14 (.op 15 (.op 16 .nil))))) (.op 13 (.alt (.op 12 (.op 14 (.op 15 (.op 16 .nil)))) (.op 14 (.alt (.op 12 (.op 15 (.op 16 .nil))) (.op 15 (.op 12 (.op 16 .nil))))))))) (.alt (.op 12 (.alt (.op 11 (.op 13 (.op 14 (.op 15 (.op 16 .nil))))) (.op 13 (.alt (.op 11 (.op 14 (.op 15 (.op 16 .nil)))) (.op 14 (.op 11 (.op 15 (.op 16 .nil)))))))) (.op 13 (.alt (.op 11 (.alt (.op 12 (.op 14 (.op 15 (.op 16 .nil)))) (.op 14 (.alt (.op 12 (.op 15 (.op 16 .nil))) (.op 15 (.op 12 (.op 16 .nil))))))) (.alt (.op 12 (.alt (.op 11 (.op 14 (.op 15 (.op 16 .nil)))) (.op 14 (.op 11 (.op 15 (.op 16 .nil)))))) (.op 14 (.alt (.op 11 (.alt (.op 12 (.op 15 (.op 16 .nil))) (.op 15 (.op 12 (.op 16 .nil))))) (.op 12 (.op 11 (.op 15 (.op 16 .nil)))))))))))) (.alt (.op 11 (.alt (.op 10 (.alt (.op 12 (.op 13 (.op 14 (.op 15 (.op 16 .nil))))) (.op 13 (.alt (.op 12 (.op 14 (.op 15 (.op 16 .nil)))) (.op 14 (.alt (.op 12 (.op 15 (.op 16 .nil))) (.op 15 (.op 12 (.op 16 .nil))))))))) (.alt (.op 12 (.alt (.op 10 (.op 13 (.op 14 (.op 15 (.op 16 .nil))))) (.op 13 (.op 10 (.op 14 (.op 15 (.op 16 .nil))))))) (.op 13 (.alt (.op 10 (.alt (.op 12 (.op 14 (.op 15 (.op 16 .nil)))) (.op 14 (.alt (.op 12 (.op 15 (.op 16 .nil))) (.op 15 (.op 12 (.op 16 .nil))))))) (.op 12 (.op 10 (.op 14 (.op 15 (.op 16 .nil)))))))))) (.alt (.op 12 (.alt (.op 10 (.alt (.op 11 (.op 13 (.op 14 (.op 15 (.op 16 .nil))))) (.op 13 (.alt (.op 11 (.op 14 (.op 15 (.op 16 .nil)))) (.op 14 (.op 11 (.op 15 (.op 16 .nil)))))))) (.alt (.op 11 (.alt (.op 10 (.op 13 (.op 14 (.op 15 (.op 16 .nil))))) (.op 13 (.op 10 (.op 14 (.op 15 (.op 16 .nil))))))) (.op 13 (.alt (.op 10 (.alt (.op 11 (.op 14 (.op 15 (.op 16 .nil)))) (.op 14 (.op 11 (.op 15 (.op 16 .nil)))))) (.op 11 (.op 10 (.op 14 (.op 15 (.op 16 .nil)))))))))) (.op 13 (.alt (.op 10 (.alt (.op 11 (.alt (.op 12 (.op 14 (.op 15 (.op 16 .nil)))) (.op 14 (.alt (.op 12 (.op 15 (.op 16 .nil))) (.op 15 (.op 12 (.op 16 .nil))))))) (.alt (.op 12 (.alt (.op 11 (.op 14 (.op 15 (.op 16 .nil)))) (.op 14 (.op 11 (.op 15 (.op 16 .nil)))))) (.op 14 (.alt (.op 11 (.alt (.op 12 (.op 15 (.op 16 .nil))) (.op 15 (.op 12 (.op 16 .nil))))) (.op 12 (.op 11 (.op 15 (.op 16 .nil))))))))) (.alt (.op 11 (.alt (.op 10 (.alt (.op 12 (.op 14 (.op 15 (.op 16 .nil)))) (.op 14 (.alt (.op 12 (.op 15 (.op 16 .nil))) (.op 15 (.op 12 (.op 16 .nil))))))) (.op 12 (.op 10 (.op 14 (.op 15 (.op 16 .nil))))))) (.op 12 (.alt (.op 10 (.alt (.op 11 (.op 14 (.op 15 (.op 16 .nil)))) (.op 14 (.op 11 (.op 15 (.op 16 .nil)))))) (.op 11 (.op 10 (.op 14 (.op 15 (.op 16 .nil))))))))))))))) (.op 13 (.op 8 (.op 9 (.alt (.op 10 (.alt (.op 11 (.alt (.op 12 (.op 14 (.op 15 (.op 16 .nil)))) (.op 14 (.alt (.op 12 (.op 15 (.op 16 .nil))) (.op 15 (.op 12 (.op 16 .nil))))))) (.alt (.op 12 (.alt (.op 11 (.op 14 (.op 15 (.op 16 .nil)))) (.op 14 (.op 11 (.op 15 (.op 16 .nil)))))) (.op 14 (.alt (.op 11 (.alt (.op 12 (.op 15 (.op 16 .nil))) (.op 15 (.op 12 (.op 16 .nil))))) (.op 12 (.op 11 (.op 15 (.op 16 .nil))))))))) (.alt (.op 11 (.alt (.op 10 (.alt (.op 12 (.op 14 (.op 15 (.op 16 .nil)))) (.op 14 (.alt (.op 12 (.op 15 (.op 16 .nil))) (.op 15 (.op 12 (.op 16 .nil))))))) (.op 12 (.op 10 (.op 14 (.op 15 (.op 16 .nil))))))) (.op 12 (.alt (.op 10 (.alt (.op 11 (.op 14 (.op 15 (.op 16 .nil)))) (.op 14 (.op 11 (.op 15 (.op 16 .nil)))))) (.op 11 (.op 10 (.op 14 (.op 15 (.op 16 .nil)))))))))))))))))))))

theorem wrap1 {i : Nat} (h : i ≤ 1000000) : IntKind.i64.wrap ((i : Int) + 1) = ((i + 1 : Nat) : Int) := by rw [wrap64 (by omega) (by omega)]; omega
set_option maxRecDepth 10000 in
set_option maxHeartbeats 2000000 in
theorem pnext_split (l : List Wd) (i : Nat) (hi : i ≤ l.length) (hl : l.length ≤ 1000000) : ACall Tryz.prog 68 [.c (.ptr 0 0)] (rdObj l i)
    (fun o σ => (∃ w, l[i]? = some w ∧ i < l.length ∧ o = .ret (.agg (w.cells.map .d)) ∧ σ = rdObj l i) ∨ (l[i]? = none ∧ l.length ≤ i ∧ o = .ret (.agg [.d (.int .i8 (-1)), .d (.str ⟨#[]⟩), .d (.int .i64 0), .d (.int .i64 0)]) ∧ σ = rdObj l i)) := by
  unfold rdObj
  refine ACall.body tab_ok (ρ := 0) (N := 24) Tryz.func68 rfl rfl rfl rfl rfl ?_
  repeat' first | refine AW.seq ?_ | refine AW.block ?_ | (refine (_root_.id : AW _ _ _ (.region 1 _ true) _ _ → _) ?_; refine AW.draw (id := 1) tab_ok mixed [0, 1, 2, 3, 4, 5, 6, 7, 8, 9] (by kernel_rfl) ?_; conv => whnf) | (refine (_root_.id : AW _ _ _ (.region 2 _ true) _ _ → _) ?_; refine AW.draw (id := 2) tab_ok mixed [0, 1, 2, 3, 4, 5, 6, 7, 8, 9, 10] (by kernel_rfl) ?_; conv => whnf) | ((first | refine AW.region tab_ok ?_ | refine AW.cond ?_ | refine AW.skip ?_ | refine AW.ret ?_ | refine AW.exit ?_); conv => whnf) | ((first | refine And.intro (@rfl Val _) ?_ | refine And.intro (by decide) ?_ | refine cs (fun _ => ?_) (fun _ => ?_)) <;> conv => whnf)
  · rename_i h2
    have hlt : i < l.length := by have := of_decide_eq_true h2; rw [wrows_len] at this; omega
    obtain ⟨w, hw⟩ : ∃ w, l[i]? = some w := ⟨_, List.getElem?_eq_getElem hlt⟩
    have hrow : (wrows l)[i]? = some w.cells := by simp [wrows, hw]
    refine ⟨⟨by omega, by rw [wrows_len]; omega⟩, fun row hr => ?_⟩
    obtain rfl := Option.some.inj (hrow.symm.trans hr)
    obtain ⟨wk, wt, wn, wp⟩ := w
    conv => whnf
    repeat' first | refine AW.seq ?_ | refine AW.block ?_ | (refine (_root_.id : AW _ _ _ (.region 1 _ true) _ _ → _) ?_; refine AW.draw (id := 1) tab_ok mixed [0, 1, 2, 3, 4, 5, 6, 7, 8, 9] (by kernel_rfl) ?_; conv => whnf) | (refine (_root_.id : AW _ _ _ (.region 2 _ true) _ _ → _) ?_; refine AW.draw (id := 2) tab_ok mixed [0, 1, 2, 3, 4, 5, 6, 7, 8, 9, 10] (by kernel_rfl) ?_; conv => whnf) | ((first | refine AW.region tab_ok ?_ | refine AW.cond ?_ | refine AW.skip ?_ | refine AW.ret ?_ | refine AW.exit ?_); conv => whnf) | ((first | refine And.intro (@rfl Val _) ?_ | refine And.intro (by decide) ?_ | refine cs (fun _ => ?_) (fun _ => ?_)) <;> conv => whnf)
    all_goals first | exact .inl ⟨_, hw, hlt, rfl, rfl⟩
  · rename_i h2
    have hge : l.length ≤ i := by have := of_decide_eq_false h2; rw [wrows_len] at this; omega
    first | exact .inr ⟨List.getElem?_eq_none hge, hge, rfl, rfl⟩
set_option maxRecDepth 10000 in
set_option maxHeartbeats 2000000 in
theorem ptake_split (l : List Wd) (i : Nat) (k : Int) (s : ByteArray) (hk : k ≠ -1) (hi : i ≤ l.length) (hl : l.length ≤ 1000000) : ACall Tryz.prog 69 [.c (.ptr 0 0), .c (.d (.int .i8 k)), .c (.d (.str s))] (rdObj l i)
    (fun o σ => (tkW l i k s = true ∧ i < l.length ∧ o = .ret (.c (.d (.bool true))) ∧ σ = rdObj l (i + 1)) ∨ (tkW l i k s = false ∧ o = .ret (.c (.d (.bool false))) ∧ σ = rdObj l i)) := by
  have N := fun j hj => pnext_split l j hj hl
  have hwi : IntKind.i64.wrap ((i : Int) + 1) = ((i + 1 : Nat) : Int) := by rw [wrap64 (by omega) (by omega)]; omega
  simp only [rdObj] at N ⊢
  refine ACall.body tab_ok (ρ := 0) (N := 27) Tryz.func69 rfl rfl rfl rfl rfl ?_
  repeat' first | ((refine (N _ (by omega)).mono ?_; rintro _ _ (⟨⟨wk, wt, wn, wp⟩, hw, hlt, rfl, rfl⟩ | ⟨hw, hge, rfl, rfl⟩) <;> conv => whnf)) | refine AW.seq ?_ | refine AW.block ?_ | ((first | refine AW.region tab_ok ?_ | refine AW.cond ?_ | refine AW.skip ?_ | refine AW.ret ?_ | refine AW.exit ?_); conv => whnf) | ((first | refine And.intro (@rfl Val _) ?_ | refine And.intro (by decide) ?_ | refine cs (fun _ => ?_) (fun _ => ?_)) <;> conv => whnf)
  all_goals
    clear N
    try dsimp only at *
    first
      | (exfalso; simp_all; done)
      | (have ht : tkW l i k s = true := by unfold tkW; simp_all
         rw [hwi]
         first | exact .inl ⟨ht, hlt, rfl, rfl⟩)
      | (have ht : tkW l i k s = false := by unfold tkW; simp_all
         first | exact .inr ⟨ht, rfl, rfl⟩)
      | (exfalso; simp_all; omega)
     
set_option maxRecDepth 10000 in
set_option maxHeartbeats 2000000 in
theorem pwrong_call (l : List Wd) (i : Nat) (hi : i ≤ l.length) (hl : l.length ≤ 1000000) : ACall Tryz.prog 139 [.c (.ptr 0 0)] (rdObj l i)
    (fun o σ => o = .pan (.d (.ifc 58 (.rp 0 [.int .i64 40, .int .i64 (wrongA l i).1, .str (wrongA l i).2]))) ∧ σ = rdObj l i) := by
  unfold rdObj
  refine ACall.body tab_ok (ρ := 0) (N := 76) Tryz.func139 rfl rfl rfl rfl rfl ?_
  repeat' first | refine AW.seq ?_ | refine AW.block ?_ | (refine (_root_.id : AW _ _ _ (.region 1 _ true) _ _ → _) ?_; refine AW.draw (id := 1) tab_ok mixed [0, 1, 2, 3, 4, 5, 6, 7, 8, 9] (by kernel_rfl) ?_; conv => whnf) | (refine (_root_.id : AW _ _ _ (.region 2 _ true) _ _ → _) ?_; refine AW.draw (id := 2) tab_ok mixed [0, 1, 2, 3, 4, 5, 6, 7, 8, 9, 10, 11, 12, 13, 14, 15, 16, 17, 18, 19, 20, 21, 22, 23, 24, 25, 26, 27, 28, 29] (by kernel_rfl) ?_; conv => whnf) | (refine (_root_.id : AW _ _ _ (.region 5 _ true) _ _ → _) ?_; refine AW.draw (id := 5) tab_ok mixed [0, 1, 2, 3, 4, 5, 6, 7, 8, 9, 10, 11, 12, 13, 14, 15, 16, 17, 18, 19, 20, 21, 22, 23] (by kernel_rfl) ?_; conv => whnf) | ((first | refine AW.region tab_ok ?_ | refine AW.cond ?_ | refine AW.skip ?_ | refine AW.ret ?_ | refine AW.exit ?_); conv => whnf) | ((first | refine And.intro (@rfl Val _) ?_ | refine And.intro (by decide) ?_ | refine cs (fun _ => ?_) (fun _ => ?_)) <;> conv => whnf)
  · rename_i h2
    have hlt : i < l.length := by have := of_decide_eq_true h2; rw [wrows_len] at this; omega
    obtain ⟨w, hw⟩ : ∃ w, l[i]? = some w := ⟨_, List.getElem?_eq_getElem hlt⟩
    have hrow : (wrows l)[i]? = some w.cells := by simp [wrows, hw]
    have hwa : wrongA l i = (w.place, w.text) := by unfold wrongA; rw [hw]
    rw [hwa]
    refine ⟨⟨by omega, by rw [wrows_len]; omega⟩, fun row hr => ?_⟩
    obtain rfl := Option.some.inj (hrow.symm.trans hr)
    obtain ⟨wk, wt, wn, wp⟩ := w
    conv => whnf
    repeat' first | ((refine And.intro (⟨by omega, by rw [wrows_len]; omega⟩ : (0 : Int) ≤ _ ∧ _) ?_; intro row hr; obtain rfl := Option.some.inj (hrow.symm.trans hr); conv => whnf)) | refine AW.seq ?_ | refine AW.block ?_ | (refine (_root_.id : AW _ _ _ (.region 1 _ true) _ _ → _) ?_; refine AW.draw (id := 1) tab_ok mixed [0, 1, 2, 3, 4, 5, 6, 7, 8, 9] (by kernel_rfl) ?_; conv => whnf) | (refine (_root_.id : AW _ _ _ (.region 2 _ true) _ _ → _) ?_; refine AW.draw (id := 2) tab_ok mixed [0, 1, 2, 3, 4, 5, 6, 7, 8, 9, 10, 11, 12, 13, 14, 15, 16, 17, 18, 19, 20, 21, 22, 23, 24, 25, 26, 27, 28, 29] (by kernel_rfl) ?_; conv => whnf) | (refine (_root_.id : AW _ _ _ (.region 5 _ true) _ _ → _) ?_; refine AW.draw (id := 5) tab_ok mixed [0, 1, 2, 3, 4, 5, 6, 7, 8, 9, 10, 11, 12, 13, 14, 15, 16, 17, 18, 19, 20, 21, 22, 23] (by kernel_rfl) ?_; conv => whnf) | ((first | refine AW.region tab_ok ?_ | refine AW.cond ?_ | refine AW.skip ?_ | refine AW.ret ?_ | refine AW.exit ?_); conv => whnf) | ((first | refine And.intro (@rfl Val _) ?_ | refine And.intro (by decide) ?_ | refine cs (fun _ => ?_) (fun _ => ?_)) <;> conv => whnf)
    all_goals first | exact ⟨rfl, rfl⟩
  · rename_i h2 h3
    have hlt : ¬ i < l.length := by have := of_decide_eq_false h2; rw [wrows_len] at this; omega
    have hpos : 0 < l.length := by have := of_decide_eq_true h3; rw [wrows_len] at this; omega
    obtain ⟨w, hw⟩ : ∃ w, l[l.length - 1]? = some w := ⟨_, List.getElem?_eq_getElem (by omega)⟩
    have hrow : (wrows l)[l.length - 1]? = some w.cells := by simp [wrows, hw]
    have hix : IntKind.i64.wrap (((wrows l).length : Int) - 1) = ((l.length - 1 : Nat) : Int) := by rw [wrows_len, wrap64 (by omega) (by omega)]; omega
    have hwa : wrongA l i = (IntKind.i64.wrap (w.place + w.text.size), ⟨#[]⟩) := by
      unfold wrongA
      rw [List.getElem?_eq_none (by omega), List.getLast?_eq_getElem?, hw]
    rw [hwa, hix]
    refine ⟨⟨by omega, by rw [wrows_len]; omega⟩, fun row hr => ?_⟩
    obtain rfl := Option.some.inj (hrow.symm.trans hr)
    obtain ⟨wk, wt, wn, wp⟩ := w
    conv => whnf
    repeat' first | ((rw [hix]; refine And.intro (⟨by omega, by rw [wrows_len]; omega⟩ : (0 : Int) ≤ _ ∧ _) ?_; intro row hr; obtain rfl := Option.some.inj (hrow.symm.trans hr); conv => whnf)) | refine AW.seq ?_ | refine AW.block ?_ | (refine (_root_.id : AW _ _ _ (.region 1 _ true) _ _ → _) ?_; refine AW.draw (id := 1) tab_ok mixed [0, 1, 2, 3, 4, 5, 6, 7, 8, 9] (by kernel_rfl) ?_; conv => whnf) | (refine (_root_.id : AW _ _ _ (.region 2 _ true) _ _ → _) ?_; refine AW.draw (id := 2) tab_ok mixed [0, 1, 2, 3, 4, 5, 6, 7, 8, 9, 10, 11, 12, 13, 14, 15, 16, 17, 18, 19, 20, 21, 22, 23, 24, 25, 26, 27, 28, 29] (by kernel_rfl) ?_; conv => whnf) | (refine (_root_.id : AW _ _ _ (.region 5 _ true) _ _ → _) ?_; refine AW.draw (id := 5) tab_ok mixed [0, 1, 2, 3, 4, 5, 6, 7, 8, 9, 10, 11, 12, 13, 14, 15, 16, 17, 18, 19, 20, 21, 22, 23] (by kernel_rfl) ?_; conv => whnf) | ((first | refine AW.region tab_ok ?_ | refine AW.cond ?_ | refine AW.skip ?_ | refine AW.ret ?_ | refine AW.exit ?_); conv => whnf) | ((first | refine And.intro (@rfl Val _) ?_ | refine And.intro (by decide) ?_ | refine cs (fun _ => ?_) (fun _ => ?_)) <;> conv => whnf)
    all_goals first | exact ⟨rfl, rfl⟩
  · rename_i h2 h3
    have hz : l = [] := List.eq_nil_of_length_eq_zero (by have := of_decide_eq_false h3; rw [wrows_len] at this; omega)
    subst hz
    exact ⟨rfl, rfl⟩
set_option maxRecDepth 10000 in
set_option maxHeartbeats 2000000 in
theorem pmust_call (l : List Wd) (k : Int) (s : ByteArray) (hk : k ≠ -1) (i : Nat) (hi : i ≤ l.length) (hl : l.length ≤ 1000000) :
    ACall Tryz.prog 114 [.c (.ptr 0 0), .c (.d (.int .i8 k)), .c (.d (.str s))] (rdObj l i) (prR l (fun _ : Unit => .tup []) i (mustP l k s i)) := by
  have T := fun j hj k s hk => ptake_split l j k s hk hj hl
  have X := fun j hj => pwrong_call l j hj hl
  simp only [rdObj] at T X ⊢
  refine ACall.body tab_ok (ρ := 0) (N := 13) Tryz.func114 rfl rfl rfl rfl rfl ?_
  repeat' first | ((refine (T _ (by omega) _ _ hk).mono ?_; rintro _ _ (⟨ht, hlt, rfl, rfl⟩ | ⟨ht, rfl, rfl⟩) <;> conv => whnf)) | ((refine (X _ (by omega)).mono ?_; rintro _ _ ⟨rfl, rfl⟩; conv => whnf)) | refine AW.seq ?_ | refine AW.block ?_ | ((first | refine AW.region tab_ok ?_ | refine AW.cond ?_ | refine AW.skip ?_ | refine AW.ret ?_ | refine AW.exit ?_); conv => whnf) | ((first | refine And.intro (@rfl Val _) ?_ | refine And.intro (by decide) ?_ | refine cs (fun _ => ?_) (fun _ => ?_)) <;> conv => whnf)
  all_goals
    clear T X
    try dsimp only at *
    try simp only [bne_iff_ne, ne_eq, beq_iff_eq, bne_eq_false_iff_eq, beq_eq_false_iff_ne, decide_eq_true_eq, decide_eq_false_iff_not] at *
    first
      | (exfalso; omega)
      | (try rw [wrap1 (by omega)]
         simp only [mustP, wbad, *, if_true, if_false, bindP_ok, bindP_bad, Bool.false_eq_true]
         first
           | (refine ⟨rfl, rfl, ?_, ?_⟩ <;> first | trivial | omega)
           | exact ⟨rfl, _, by first | assumption | omega, rfl⟩
          )
def anyP (l : List Wd) (k : Int) (i : Nat) : PR Wd := match l[i]? with
  | some w => if w.kind = k then .ok w (i + 1) else wbad l i
  | none => wbad l i
def Wd.val (w : Wd) : Val := .agg (w.cells.map .d)
set_option maxRecDepth 10000 in
set_option maxHeartbeats 2000000 in
theorem pany_call (l : List Wd) (k : Int) (hk : k ≠ -1) (i : Nat) (hi : i ≤ l.length) (hl : l.length ≤ 1000000) :
    ACall Tryz.prog 115 [.c (.ptr 0 0), .c (.d (.int .i8 k))] (rdObj l i) (prR l Wd.val i (anyP l k i)) := by
  have N := fun j hj => pnext_split l j hj hl
  have X := fun j hj => pwrong_call l j hj hl
  simp only [rdObj] at N X ⊢
  refine ACall.body tab_ok (ρ := 0) (N := 22) Tryz.func115 rfl rfl rfl rfl rfl ?_
  repeat' first | ((refine (N _ (by omega)).mono ?_; rintro _ _ (⟨⟨wk, wt, wn, wp⟩, hw, hlt, rfl, rfl⟩ | ⟨hw, hge, rfl, rfl⟩) <;> conv => whnf)) | ((refine (X _ (by omega)).mono ?_; rintro _ _ ⟨rfl, rfl⟩; conv => whnf)) | refine AW.seq ?_ | refine AW.block ?_ | ((first | refine AW.region tab_ok ?_ | refine AW.cond ?_ | refine AW.skip ?_ | refine AW.ret ?_ | refine AW.exit ?_); conv => whnf) | ((first | refine And.intro (@rfl Val _) ?_ | refine And.intro (by decide) ?_ | refine cs (fun _ => ?_) (fun _ => ?_)) <;> conv => whnf)
  all_goals
    clear N X
    try dsimp only at *
    try simp only [bne_iff_ne, ne_eq, beq_iff_eq, bne_eq_false_iff_eq, beq_eq_false_iff_ne, decide_eq_true_eq, decide_eq_false_iff_not] at *
    first
      | (exfalso; omega)
      | (try rw [wrap1 (by omega)]
         simp only [anyP, wbad, *, if_true, if_false, bindP_ok, bindP_bad, Bool.false_eq_true]
         first
           | (refine ⟨rfl, rfl, ?_, ?_⟩ <;> first | trivial | omega)
           | exact ⟨rfl, _, by first | assumption | omega, rfl⟩
          )
theorem nameP_any (l : List Wd) (i : Nat) : nameP l i = bindP (anyP l 1 i) fun w j => .ok w.text j := by
  unfold nameP anyP
  cases l[i]? with
  | none => rfl
  | some w => by_cases h : w.kind = 1 <;> simp [h, wbad]
theorem numP_any (l : List Wd) (p : Int) (i : Nat) : numP l p i = bindP (anyP l 2 i) fun w j => .ok (tn 1 s0 s0 (IntKind.i64.wrap (0 - w.num)) ty0 ty0 p []) j := by
  unfold numP anyP
  cases l[i]? with
  | none => rfl
  | some w => by_cases h : w.kind = 2 <;> simp [h, wbad]
set_option maxRecDepth 10000 in
set_option maxHeartbeats 2000000 in
theorem pname_call (l : List Wd) (i : Nat) (hi : i ≤ l.length) (hl : l.length ≤ 1000000) :
    ACall Tryz.prog 73 [.c (.ptr 0 0)] (rdObj l i) (prR l (fun s : ByteArray => .c (.d (.str s))) i (nameP l i)) := by
  have A := fun j hj k hk => pany_call l k hk j hj hl
  simp only [rdObj, Wd.val] at A ⊢
  refine ACall.body tab_ok (ρ := 0) (N := 6) Tryz.func73 rfl rfl rfl rfl rfl ?_
  repeat' first | ((refine (A _ (by omega) _ (by decide)).mono ?_; intro o σ hh; rcases prR_cases hh with ⟨⟨wk, wt, wn, wp⟩, j, hp, hj1, hj2, rfl, rfl⟩ | ⟨e, x, w, j, hp, hj2, rfl, rfl⟩ <;> clear hh <;> conv => whnf)) | refine AW.seq ?_ | refine AW.block ?_ | ((first | refine AW.region tab_ok ?_ | refine AW.cond ?_ | refine AW.skip ?_ | refine AW.ret ?_ | refine AW.exit ?_); conv => whnf) | ((first | refine And.intro (@rfl Val _) ?_ | refine And.intro (by decide) ?_ | refine cs (fun _ => ?_) (fun _ => ?_)) <;> conv => whnf)
  all_goals
    clear A
    try dsimp only at *
    try simp only [bne_iff_ne, ne_eq, beq_iff_eq, bne_eq_false_iff_eq, beq_eq_false_iff_ne, decide_eq_true_eq, decide_eq_false_iff_not] at *
    first
      | (exfalso; omega)
      | (try rw [wrap1 (by omega)]
         simp only [nameP_any, wbad, *, if_true, if_false, bindP_ok, bindP_bad, Bool.false_eq_true]
         first
           | (refine ⟨rfl, rfl, ?_, ?_⟩ <;> first | trivial | omega)
           | exact ⟨rfl, _, by first | assumption | omega, rfl⟩
          )
set_option maxRecDepth 10000 in
set_option maxHeartbeats 2000000 in
theorem ptyp_call (l : List Wd) (i : Nat) (hi : i ≤ l.length) (hl : l.length ≤ 1000000) :
    ACall Tryz.prog 74 [.c (.ptr 0 0)] (rdObj l i) (prR l Ty.val i (typP l i)) := by
  have R := fun j hj => read_call l j hj hl
  simp only [rdObj] at R ⊢
  refine ACall.body tab_ok (ρ := 0) (N := 27) Tryz.func74 rfl rfl rfl rfl rfl ?_
  repeat' first | ((refine (R _ (by omega)).mono ?_; rintro _ _ (⟨⟨ak, aks⟩, j, hp, hj1, hj2, rfl, rfl⟩ | ⟨e, x, w, hp, rfl, rfl⟩) <;> conv => whnf)) | refine AW.seq ?_ | refine AW.block ?_ | (refine (_root_.id : AW _ _ _ (.region 1 _ true) _ _ → _) ?_; refine AW.drawT (id := 1) tab_ok mixed [0, 1, 2, 3, 4, 5, 6, 7, 8, 9, 10, 11, 12, 13, 14, 15, 16] oTPp1_74_1 (by kernel_rfl) ?_; conv => whnf) | (refine Fork.mk ?_ ?_ <;> conv => whnf) | ((first | refine AW.region tab_ok ?_ | refine AW.cond ?_ | refine AW.skip ?_ | refine AW.ret ?_ | refine AW.exit ?_); conv => whnf) | ((first | refine And.intro (@rfl Val _) ?_ | refine And.intro (by decide) ?_ | refine cs (fun _ => ?_) (fun _ => ?_)) <;> conv => whnf)
  all_goals
    clear R
    try dsimp only at *
    try simp only [bne_iff_ne, ne_eq, beq_iff_eq, bne_eq_false_iff_eq, beq_eq_false_iff_ne, decide_eq_true_eq, decide_eq_false_iff_not] at *
    first
      | (exfalso; omega)
      | (try rw [wrap1 (by omega)]
         simp only [wbad, *, if_true, if_false, bindP_ok, bindP_bad, Bool.false_eq_true]
         first
           | (refine ⟨rfl, rfl, ?_, ?_⟩ <;> first | trivial | omega)
           | exact ⟨rfl, _, by first | assumption | omega, rfl⟩
          )
end Go.Proofs.YtmaokphbfjpodaaGreatDoor.E

/- Walks: parse.reader: sign, key, annotated, branch, atom. No conditions. -/
set_option linter.unusedVariables false
set_option linter.unusedSimpArgs false
namespace Go.Proofs.YtmaokphbfjpodaaGreatDoor.E
open Go

set_option maxRecDepth 10000 in
set_option maxHeartbeats 2000000 in
theorem psign_call (l : List Wd) (s : ByteArray) (i : Nat) (hi : i ≤ l.length) (hl : l.length ≤ 1000000) :
    ACall Tryz.prog 71 [.c (.ptr 0 0), .c (.d (.str s))] (rdObj l i) (prR l (fun _ : Unit => .tup []) i (mustP l 4 s i)) := by
  have A := fun j hj k s hk => pmust_call l k s hk j hj hl
  simp only [rdObj] at A ⊢
  refine ACall.body tab_ok (ρ := 0) (N := 7) Tryz.func71 rfl rfl rfl rfl rfl ?_
  repeat' first | ((refine (A _ (by omega) _ _ (by decide)).mono ?_; intro o σ hh; rcases prR_cases hh with ⟨⟨⟩, j, hp, hj1, hj2, rfl, rfl⟩ | ⟨e, x, w, j, hp, hj2, rfl, rfl⟩ <;> clear hh <;> conv => whnf)) | refine AW.seq ?_ | refine AW.block ?_ | ((first | refine AW.region tab_ok ?_ | refine AW.cond ?_ | refine AW.skip ?_ | refine AW.ret ?_ | refine AW.exit ?_); conv => whnf) | ((first | refine And.intro (@rfl Val _) ?_ | refine And.intro (by decide) ?_ | refine cs (fun _ => ?_) (fun _ => ?_)) <;> conv => whnf)
  all_goals
    clear A
    try dsimp only at *
    try simp only [bne_iff_ne, ne_eq, beq_iff_eq, bne_eq_false_iff_eq, beq_eq_false_iff_ne, decide_eq_true_eq, decide_eq_false_iff_not] at *
    first
      | (exfalso; omega)
      | (try rw [wrap1 (by omega)]
         simp only [wbad, *, if_true, if_false, bindP_ok, bindP_bad, Bool.false_eq_true]
         first
           | (refine ⟨rfl, rfl, ?_, ?_⟩ <;> first | trivial | omega)
           | exact ⟨rfl, _, by first | assumption | omega, rfl⟩
          )
set_option maxRecDepth 10000 in
set_option maxHeartbeats 2000000 in
theorem pkey_call (l : List Wd) (s : ByteArray) (i : Nat) (hi : i ≤ l.length) (hl : l.length ≤ 1000000) :
    ACall Tryz.prog 72 [.c (.ptr 0 0), .c (.d (.str s))] (rdObj l i) (prR l (fun _ : Unit => .tup []) i (mustP l 3 s i)) := by
  have A := fun j hj k s hk => pmust_call l k s hk j hj hl
  simp only [rdObj] at A ⊢
  refine ACall.body tab_ok (ρ := 0) (N := 7) Tryz.func72 rfl rfl rfl rfl rfl ?_
  repeat' first | ((refine (A _ (by omega) _ _ (by decide)).mono ?_; intro o σ hh; rcases prR_cases hh with ⟨⟨⟩, j, hp, hj1, hj2, rfl, rfl⟩ | ⟨e, x, w, j, hp, hj2, rfl, rfl⟩ <;> clear hh <;> conv => whnf)) | refine AW.seq ?_ | refine AW.block ?_ | ((first | refine AW.region tab_ok ?_ | refine AW.cond ?_ | refine AW.skip ?_ | refine AW.ret ?_ | refine AW.exit ?_); conv => whnf) | ((first | refine And.intro (@rfl Val _) ?_ | refine And.intro (by decide) ?_ | refine cs (fun _ => ?_) (fun _ => ?_)) <;> conv => whnf)
  all_goals
    clear A
    try dsimp only at *
    try simp only [bne_iff_ne, ne_eq, beq_iff_eq, bne_eq_false_iff_eq, beq_eq_false_iff_ne, decide_eq_true_eq, decide_eq_false_iff_not] at *
    first
      | (exfalso; omega)
      | (try rw [wrap1 (by omega)]
         simp only [wbad, *, if_true, if_false, bindP_ok, bindP_bad, Bool.false_eq_true]
         first
           | (refine ⟨rfl, rfl, ?_, ?_⟩ <;> first | trivial | omega)
           | exact ⟨rfl, _, by first | assumption | omega, rfl⟩
          )
set_option maxRecDepth 10000 in
set_option maxHeartbeats 2000000 in
theorem pann_call (l : List Wd) (i : Nat) (hi : i ≤ l.length) (hl : l.length ≤ 1000000) :
    ACall Tryz.prog 70 [.c (.ptr 0 0)] (rdObj l i) (prR l (fun p : ByteArray × Ty => .tup [.c (.d (.str p.1)), p.2.val]) i (annP l i)) := by
  have S := fun j hj s => psign_call l s j hj hl
  have Y := fun j hj => ptyp_call l j hj hl
  have E := fun j hj => pname_call l j hj hl
  simp only [rdObj] at S Y E ⊢
  refine ACall.body tab_ok (ρ := 0) (N := 12) Tryz.func70 rfl rfl rfl rfl rfl ?_
  repeat' first | ((refine (S _ (by omega) _).mono ?_; intro o σ hh; rcases prR_cases hh with ⟨⟨⟩, j, hp, hj1, hj2, rfl, rfl⟩ | ⟨e, x, w, j, hp, hj2, rfl, rfl⟩ <;> clear hh <;> conv => whnf)) | ((refine (Y _ (by omega)).mono ?_; intro o σ hh; rcases prR_cases hh with ⟨⟨ak, aks⟩, j, hp, hj1, hj2, rfl, rfl⟩ | ⟨e, x, w, j, hp, hj2, rfl, rfl⟩ <;> clear hh <;> conv => whnf)) | ((refine (E _ (by omega)).mono ?_; intro o σ hh; rcases prR_cases hh with ⟨x, j, hp, hj1, hj2, rfl, rfl⟩ | ⟨e, x, w, j, hp, hj2, rfl, rfl⟩ <;> clear hh <;> conv => whnf)) | refine AW.seq ?_ | refine AW.block ?_ | ((first | refine AW.region tab_ok ?_ | refine AW.cond ?_ | refine AW.skip ?_ | refine AW.ret ?_ | refine AW.exit ?_); conv => whnf) | ((first | refine And.intro (@rfl Val _) ?_ | refine And.intro (by decide) ?_ | refine cs (fun _ => ?_) (fun _ => ?_)) <;> conv => whnf)
  all_goals
    clear S Y E
    try dsimp only at *
    try simp only [bne_iff_ne, ne_eq, beq_iff_eq, bne_eq_false_iff_eq, beq_eq_false_iff_ne, decide_eq_true_eq, decide_eq_false_iff_not] at *
    first
      | (exfalso; omega)
      | (try rw [wrap1 (by omega)]
         simp only [annP, wbad, *, if_true, if_false, bindP_ok, bindP_bad, Bool.false_eq_true]
         first
           | (refine ⟨rfl, rfl, ?_, ?_⟩ <;> first | trivial | omega)
           | exact ⟨rfl, _, by first | assumption | omega, rfl⟩
          )
def PTermC (l : List Wd) (n : Nat) : Prop := ∀ i, i ≤ l.length → l.length - i < n → ACall Tryz.prog 37 [.c (.ptr 0 0)] (rdObj l i) (prR l Tm.val i (pTerm l n i))
set_option maxRecDepth 10000 in
set_option maxHeartbeats 2000000 in
theorem pbranch_call (l : List Wd) (n : Nat) (hW : PTermC l n) (i : Nat) (hi : i ≤ l.length) (hn : l.length - i < n + 1) (hl : l.length ≤ 1000000) :
    ACall Tryz.prog 75 [.c (.ptr 0 0)] (rdObj l i) (prR l (fun p : ByteArray × Tm => .tup [.c (.d (.str p.1)), p.2.val]) i (branchP l (pTerm l n) i)) := by
  have S := fun j hj s => psign_call l s j hj hl
  have E := fun j hj => pname_call l j hj hl
  have W := hW
  unfold PTermC at W
  simp only [rdObj] at S E W ⊢
  refine ACall.body tab_ok (ρ := 0) (N := 12) Tryz.func75 rfl rfl rfl rfl rfl ?_
  repeat' first | ((refine (S _ (by omega) _).mono ?_; intro o σ hh; rcases prR_cases hh with ⟨⟨⟩, j, hp, hj1, hj2, rfl, rfl⟩ | ⟨e, x, w, j, hp, hj2, rfl, rfl⟩ <;> clear hh <;> conv => whnf)) | ((refine (E _ (by omega)).mono ?_; intro o σ hh; rcases prR_cases hh with ⟨x, j, hp, hj1, hj2, rfl, rfl⟩ | ⟨e, x, w, j, hp, hj2, rfl, rfl⟩ <;> clear hh <;> conv => whnf)) | ((refine (W _ (by omega) (by omega)).mono ?_; intro o σ hh; rcases prR_cases hh with ⟨⟨k, nm, ag, nu, tk, tks, uk, uks, lb, pl, ks⟩, j, hp, hj1, hj2, rfl, rfl⟩ | ⟨e, x, w, j, hp, hj2, rfl, rfl⟩ <;> clear hh <;> conv => whnf)) | refine AW.seq ?_ | refine AW.block ?_ | ((first | refine AW.region tab_ok ?_ | refine AW.cond ?_ | refine AW.skip ?_ | refine AW.ret ?_ | refine AW.exit ?_); conv => whnf) | ((first | refine And.intro (@rfl Val _) ?_ | refine And.intro (by decide) ?_ | refine cs (fun _ => ?_) (fun _ => ?_)) <;> conv => whnf)
  all_goals
    clear S E W hW
    try dsimp only at *
    try simp only [bne_iff_ne, ne_eq, beq_iff_eq, bne_eq_false_iff_eq, beq_eq_false_iff_ne, decide_eq_true_eq, decide_eq_false_iff_not] at *
    first
      | (exfalso; omega)
      | (try rw [wrap1 (by omega)]
         simp only [branchP, wbad, *, if_true, if_false, bindP_ok, bindP_bad, Bool.false_eq_true]
         first
           | (refine ⟨rfl, rfl, ?_, ?_⟩ <;> first | trivial | omega)
           | exact ⟨rfl, _, by first | assumption | omega, rfl⟩
          )
set_option maxRecDepth 10000 in
set_option maxHeartbeats 2000000 in
theorem patom_call (l : List Wd) (n : Nat) (hW : PTermC l n) (i : Nat) (hi : i ≤ l.length) (hn : l.length - i < n + 1) (hl : l.length ≤ 1000000) :
    ACall Tryz.prog 169 [.c (.ptr 0 0)] (rdObj l i) (prR l Tm.val i (pAtom l (pTerm l n) i)) := by
  have T := fun j hj k s hk => ptake_split l j k s hk hj hl
  have N := fun j hj => pnext_split l j hj hl
  have X := fun j hj => pwrong_call l j hj hl
  have S := fun j hj s => psign_call l s j hj hl
  have W := hW
  unfold PTermC at W
  simp only [rdObj] at T N X S W ⊢
  refine ACall.body tab_ok (ρ := 0) (N := 81) Tryz.func169 rfl rfl rfl rfl rfl ?_
  repeat' first | ((refine (T _ (by omega) _ _ (by decide)).mono ?_; rintro _ _ (⟨ht, hlt, rfl, rfl⟩ | ⟨ht, rfl, rfl⟩) <;> conv => whnf)) | ((refine (N _ (by omega)).mono ?_; rintro _ _ (⟨⟨wk, wt, wn, wp⟩, hw, hlt, rfl, rfl⟩ | ⟨hw, hge, rfl, rfl⟩) <;> conv => whnf)) | ((refine (X _ (by omega)).mono ?_; rintro _ _ ⟨rfl, rfl⟩; conv => whnf)) | ((refine (S _ (by omega) _).mono ?_; intro o σ hh; rcases prR_cases hh with ⟨⟨⟩, j, hp, hj1, hj2, rfl, rfl⟩ | ⟨e, x, w, j, hp, hj2, rfl, rfl⟩ <;> clear hh <;> conv => whnf)) | ((refine (W _ (by omega) (by omega)).mono ?_; intro o σ hh; rcases prR_cases hh with ⟨⟨k, nm, ag, nu, tk, tks, uk, uks, lb, pl, ks⟩, j, hp, hj1, hj2, rfl, rfl⟩ | ⟨e, x, w, j, hp, hj2, rfl, rfl⟩ <;> clear hh <;> conv => whnf)) | refine AW.seq ?_ | refine AW.block ?_ | ((first | refine AW.region tab_ok ?_ | refine AW.cond ?_ | refine AW.skip ?_ | refine AW.ret ?_ | refine AW.exit ?_); conv => whnf) | ((first | refine And.intro (@rfl Val _) ?_ | refine And.intro (by decide) ?_ | refine cs (fun _ => ?_) (fun _ => ?_)) <;> conv => whnf)
  all_goals
    clear T N X S W hW
    try dsimp only at *
    try simp only [bne_iff_ne, ne_eq, beq_iff_eq, bne_eq_false_iff_eq, beq_eq_false_iff_ne, decide_eq_true_eq, decide_eq_false_iff_not] at *
    first
      | (exfalso; omega)
      | (try rw [wrap1 (by omega)]
         simp only [pAtom, wbad, *, if_true, if_false, bindP_ok, bindP_bad, Bool.false_eq_true]
         first
           | (refine ⟨rfl, rfl, ?_, ?_⟩ <;> first | trivial | omega)
           | exact ⟨rfl, _, by first | assumption | omega, rfl⟩
          )
end Go.Proofs.YtmaokphbfjpodaaGreatDoor.E

/- Walks: parse.reader: in, un. No conditions. -/
set_option linter.unusedVariables false
set_option linter.unusedSimpArgs false
namespace Go.Proofs.YtmaokphbfjpodaaGreatDoor.E
open Go

def UnC (l : List Wd) (n m : Nat) : Prop := ∀ i, i ≤ l.length → l.length - i < m → l.length - i < n + 1 → ACall Tryz.prog 164 [.c (.ptr 0 0)] (rdObj l i) (prR l Tm.val i (pUn l (pTerm l n) m i))
set_option maxRecDepth 10000 in
set_option maxHeartbeats 2000000 in
theorem pin_call (l : List Wd) (n m : Nat) (hU : UnC l n m) (k p : Int) (i : Nat) (hi : i ≤ l.length) (hm : l.length - i < m) (hn : l.length - i < n + 1) (hl : l.length ≤ 1000000) :
    ACall Tryz.prog 168 [.c (.ptr 0 0), .c (.d (.int .i8 k)), .c (.d (.int .i64 p))] (rdObj l i) (prR l Tm.val i (inP l (pUn l (pTerm l n) m) k p i)) := by
  have S := fun j hj s => psign_call l s j hj hl
  have Y := fun j hj => ptyp_call l j hj hl
  have U := hU
  unfold UnC at U
  simp only [rdObj] at S Y U ⊢
  refine ACall.body tab_ok (ρ := 0) (N := 21) Tryz.func168 rfl rfl rfl rfl rfl ?_
  repeat' first | ((refine (S _ (by omega) _).mono ?_; intro o σ hh; rcases prR_cases hh with ⟨⟨⟩, j, hp, hj1, hj2, rfl, rfl⟩ | ⟨e, x, w, j, hp, hj2, rfl, rfl⟩ <;> clear hh <;> conv => whnf)) | ((refine (Y _ (by omega)).mono ?_; intro o σ hh; rcases prR_cases hh with ⟨⟨ak, aks⟩, j, hp, hj1, hj2, rfl, rfl⟩ | ⟨e, x, w, j, hp, hj2, rfl, rfl⟩ <;> clear hh <;> conv => whnf)) | ((refine (U _ (by omega) (by omega) (by omega)).mono ?_; intro o σ hh; rcases prR_cases hh with ⟨⟨k, nm, ag, nu, tk, tks, uk, uks, lb, pl, ks⟩, j, hp, hj1, hj2, rfl, rfl⟩ | ⟨e, x, w, j, hp, hj2, rfl, rfl⟩ <;> clear hh <;> conv => whnf)) | refine AW.seq ?_ | refine AW.block ?_ | (refine (_root_.id : AW _ _ _ (.region 4 _ true) _ _ → _) ?_; refine AW.draw (id := 4) tab_ok mixed [0, 1, 2, 3, 4, 5, 6, 7] (by kernel_rfl) ?_; conv => whnf) | ((first | refine AW.region tab_ok ?_ | refine AW.cond ?_ | refine AW.skip ?_ | refine AW.ret ?_ | refine AW.exit ?_); conv => whnf) | ((first | refine And.intro (@rfl Val _) ?_ | refine And.intro (by decide) ?_ | refine cs (fun _ => ?_) (fun _ => ?_)) <;> conv => whnf)
  all_goals
    clear S Y U hU
    try dsimp only at *
    try simp only [bne_iff_ne, ne_eq, beq_iff_eq, bne_eq_false_iff_eq, beq_eq_false_iff_ne, decide_eq_true_eq, decide_eq_false_iff_not] at *
    first
      | (exfalso; omega)
      | (try rw [wrap1 (by omega)]
         simp only [inP, wbad, *, if_true, if_false, bindP_ok, bindP_bad, Bool.false_eq_true]
         first
           | (refine ⟨rfl, rfl, ?_, ?_⟩ <;> first | trivial | omega)
           | exact ⟨rfl, _, by first | assumption | omega, rfl⟩
          )
/-- A variable's cells: read, or laid anew (the types' parts nil). -/
inductive VC1 : Tm → List AV → Prop
  | z (a : Tm) : VC1 a (a.cells.map .d)
  | n (k : Int) (nm ag : ByteArray) (nu tk uk lb pl : Int) (ks : List Tm) : VC1 (.node k nm ag nu tk [] uk [] lb pl ks) [.d (.int .i8 k), .d (.str nm), .d (.str ag), .d (.int .i64 nu), .d (.int .i8 tk), .d .nils, .d (.int .i8 uk), .d .nils, .d (.int .i64 lb), .d (.int .i64 pl), .d (.sl 0 11 (Tm.rows ks))]
inductive VC2 : Tm → List AV → Prop
  | z (a : Tm) : VC2 a (a.cells.map .d)
  | n (k : Int) (nm ag : ByteArray) (nu tk : Int) (tks : List Ty) (uk lb pl : Int) (ks : List Tm) : VC2 (.node k nm ag nu tk tks uk [] lb pl ks) [.d (.int .i8 k), .d (.str nm), .d (.str ag), .d (.int .i64 nu), .d (.int .i8 tk), .d (.sl 0 2 (Ty.rows tks)), .d (.int .i8 uk), .d .nils, .d (.int .i64 lb), .d (.int .i64 pl), .d (.sl 0 11 (Tm.rows ks))]
structure ApI (l : List Wd) (n : Nat) (i : Nat) (r : PR Tm) where
  a : Tm
  c : List AV
  hc : VC1 a c
  j : Nat
  m : Nat
  h1 : i < j
  h2 : j ≤ l.length
  h3 : l.length - j < m
  h : r = appLoop l (pTerm l n) m a j
set_option maxRecDepth 10000 in
set_option maxHeartbeats 2000000 in
theorem pun_step (l : List Wd) (n : Nat) (hW : PTermC l n) (m : Nat) (hU : UnC l n m) (hl : l.length ≤ 1000000) : UnC l n (m + 1) := by
  intro i hi hm hn
  have T := fun j hj k s hk => ptake_split l j k s hk hj hl
  have N := fun j hj => pnext_split l j hj hl
  have S := fun j hj s => psign_call l s j hj hl
  have A := fun j hj k hk => pany_call l k hk j hj hl
  have B := fun j hj hn => patom_call l n hW j hj hn hl
  have U := hU
  have I := fun k p j hj hm hn => pin_call l n m hU k p j hj hm hn hl
  have W := hW
  unfold PTermC at W
  unfold UnC at U
  simp only [rdObj, Wd.val] at T N S A B U I W ⊢
  refine ACall.body tab_ok (ρ := 0) (N := 69) Tryz.func164 rfl rfl rfl rfl rfl ?_
  repeat' first | ((refine (T _ (by omega) _ _ (by decide)).mono ?_; rintro _ _ (⟨ht, hlt, rfl, rfl⟩ | ⟨ht, rfl, rfl⟩) <;> conv => whnf)) | ((refine (N _ (by omega)).mono ?_; rintro _ _ (⟨⟨wk, wt, wn, wp⟩, hw, hlt, rfl, rfl⟩ | ⟨hw, hge, rfl, rfl⟩) <;> conv => whnf)) | ((refine (S _ (by omega) _).mono ?_; intro o σ hh; rcases prR_cases hh with ⟨⟨⟩, j, hp, hj1, hj2, rfl, rfl⟩ | ⟨e, x, w, j, hp, hj2, rfl, rfl⟩ <;> clear hh <;> conv => whnf)) | ((refine (A _ (by omega) _ (by decide)).mono ?_; intro o σ hh; rcases prR_cases hh with ⟨⟨wk, wt, wn, wp⟩, j, hp, hj1, hj2, rfl, rfl⟩ | ⟨e, x, w, j, hp, hj2, rfl, rfl⟩ <;> clear hh <;> conv => whnf)) | ((refine (B _ (by omega) (by omega)).mono ?_; intro o σ hh; rcases prR_cases hh with ⟨⟨k, nm, ag, nu, tk, tks, uk, uks, lb, pl, ks⟩, j, hp, hj1, hj2, rfl, rfl⟩ | ⟨e, x, w, j, hp, hj2, rfl, rfl⟩ <;> clear hh <;> conv => whnf)) | ((refine (U _ (by omega) (by omega) (by omega)).mono ?_; intro o σ hh; rcases prR_cases hh with ⟨⟨k, nm, ag, nu, tk, tks, uk, uks, lb, pl, ks⟩, j, hp, hj1, hj2, rfl, rfl⟩ | ⟨e, x, w, j, hp, hj2, rfl, rfl⟩ <;> clear hh <;> conv => whnf)) | ((refine (I _ _ _ (by omega) (by omega) (by omega)).mono ?_; intro o σ hh; rcases prR_cases hh with ⟨⟨k, nm, ag, nu, tk, tks, uk, uks, lb, pl, ks⟩, j, hp, hj1, hj2, rfl, rfl⟩ | ⟨e, x, w, j, hp, hj2, rfl, rfl⟩ <;> clear hh <;> conv => whnf)) | refine AW.seq ?_ | refine AW.block ?_ | (refine (_root_.id : AW _ _ _ (.region 3 _ true) _ _ → _) ?_; refine AW.draw (id := 3) tab_ok mixed [0, 1, 2, 3, 4, 5, 6] (by kernel_rfl) ?_; conv => whnf) | (refine (_root_.id : AW _ _ _ (.region 5 _ true) _ _ → _) ?_; refine AW.draw (id := 5) tab_ok mixed [0, 1, 2, 3, 4, 5, 6] (by kernel_rfl) ?_; conv => whnf) | (refine (_root_.id : AW _ _ _ (.region 11 _ true) _ _ → _) ?_; refine AW.draw (id := 11) tab_ok mixed [0, 4, 5, 1, 2, 3, 6, 7] (by kernel_rfl) ?_; conv => whnf) | ((first | refine AW.region tab_ok ?_ | refine AW.cond ?_ | refine AW.skip ?_ | refine AW.ret ?_ | refine AW.exit ?_); conv => whnf) | ((first | refine And.intro (@rfl Val _) ?_ | refine And.intro (by decide) ?_ | refine cs (fun _ => ?_) (fun _ => ?_)) <;> conv => whnf)
  any_goals
    (refine AW.loop (ι := ApI l n i (pUn l (pTerm l n) (m + 1) i)) (fun x => ⟨69, [(4, .c (.ptr 3 0)), (2, .c (.ptr 1 0)), (0, .c (.ptr 0 0))], [.var [.d (.sl 0 4 (wrows l)), .d (.int .i64 x.j)], .var _, .var _, .var x.c], []⟩) (fun x => l.length - x.j) ⟨.node k nm ag nu tk tks uk uks lb pl ks, _, .z _, j, l.length + 1, hj1, hj2, by omega, by simp only [pUn, numP_any, placeW, *, if_true, if_false, bindP_ok, bindP_bad, Bool.false_eq_true]⟩ 4 (fun _ => rfl) (Nat.le_of_ble_eq_true rfl) ⟨⟨rfl, rfl, rfl, trivial⟩, rfl, rfl, ⟨[], rfl⟩, rfl⟩ (fun x => ?_)
     obtain ⟨⟨ak, anm, aag, anu, atk, atks, auk, auks, alb, apl, aks⟩, c, hc, j0, m, h1, h2, h3, hx⟩ := x
     obtain ⟨m, rfl⟩ : ∃ q, m = q + 1 := ⟨m - 1, by omega⟩
     dsimp only
     cases hc
     all_goals try simp only [Tm.cells, List.map_cons, List.map_nil]
     all_goals
       repeat' first | ((refine (T _ (by omega) _ _ (by decide)).mono ?_; rintro _ _ (⟨ht, hlt, rfl, rfl⟩ | ⟨ht, rfl, rfl⟩) <;> conv => whnf)) | ((refine (N _ (by omega)).mono ?_; rintro _ _ (⟨⟨wk, wt, wn, wp⟩, hw, hlt, rfl, rfl⟩ | ⟨hw, hge, rfl, rfl⟩) <;> conv => whnf)) | ((refine (S _ (by omega) _).mono ?_; intro o σ hh; rcases prR_cases hh with ⟨⟨⟩, j, hp, hj1, hj2, rfl, rfl⟩ | ⟨e, x, w, j, hp, hj2, rfl, rfl⟩ <;> clear hh <;> conv => whnf)) | ((refine (W _ (by omega) (by omega)).mono ?_; intro o σ hh; rcases prR_cases hh with ⟨⟨k, nm, ag, nu, tk, tks, uk, uks, lb, pl, ks⟩, j, hp, hj1, hj2, rfl, rfl⟩ | ⟨e, x, w, j, hp, hj2, rfl, rfl⟩ <;> clear hh <;> conv => whnf)) | refine AW.seq ?_ | refine AW.block ?_ | (refine (_root_.id : AW _ _ _ (.region 3 _ true) _ _ → _) ?_; refine AW.draw (id := 3) tab_ok mixed [0, 1, 2, 3, 4, 5, 6] (by kernel_rfl) ?_; conv => whnf) | (refine (_root_.id : AW _ _ _ (.region 5 _ true) _ _ → _) ?_; refine AW.draw (id := 5) tab_ok mixed [0, 1, 2, 3, 4, 5, 6] (by kernel_rfl) ?_; conv => whnf) | (refine (_root_.id : AW _ _ _ (.region 11 _ true) _ _ → _) ?_; refine AW.draw (id := 11) tab_ok mixed [0, 4, 5, 1, 2, 3, 6, 7] (by kernel_rfl) ?_; conv => whnf) | ((first | refine AW.region tab_ok ?_ | refine AW.cond ?_ | refine AW.skip ?_ | refine AW.ret ?_ | refine AW.exit ?_); conv => whnf) | ((first | refine And.intro (@rfl Val _) ?_ | refine And.intro (by decide) ?_ | refine cs (fun _ => ?_) (fun _ => ?_)) <;> conv => whnf)
     all_goals first
       | (clear T N S A B U I W
          rw [hx, appLoop, if_neg (by simp [*])]
          refine ⟨rfl, rfl, ?_, ?_⟩ <;> first | trivial | omega)
       | (exfalso; omega)
       | (clear T N S A B U I W
          rw [hx, appLoop, if_pos (by assumption)]
          simp only [placeW, *, bindP_bad, bindP_ok]
          exact ⟨rfl, _, by first | assumption | omega, rfl⟩)
       | (refine ⟨⟨tn 6 s0 s0 0 ty0 ty0 wp [.node ak anm aag anu atk atks auk auks alb apl aks, .node k nm ag nu tk tks uk uks lb pl ks], _, .n _ _ _ _ _ _ _ _ _, j, m, by omega, by omega, by omega, ?_⟩, ⟨⟨rfl, rfl, rfl, trivial⟩, rfl, rfl, ⟨[_, _], rfl⟩, rfl⟩, ?_⟩
          · clear T N S A B U I W
            rw [hx, appLoop, if_pos (by assumption)]
            simp only [placeW, *, bindP_bad, bindP_ok]
          · show l.length - j < l.length - j0
            omega)
       | (refine ⟨⟨tn 6 s0 s0 0 ty0 ty0 wp [.node ak anm aag anu atk [] auk [] alb apl aks, .node k nm ag nu tk tks uk uks lb pl ks], _, .n _ _ _ _ _ _ _ _ _, j, m, by omega, by omega, by omega, ?_⟩, ⟨⟨rfl, rfl, rfl, trivial⟩, rfl, rfl, ⟨[_, _], rfl⟩, rfl⟩, ?_⟩
          · clear T N S A B U I W
            rw [hx, appLoop, if_pos (by assumption)]
            simp only [placeW, *, bindP_bad, bindP_ok]
          · show l.length - j < l.length - j0
            omega)
      )
  all_goals first
    | (clear T N S A B U I W
       try dsimp only at *
       try simp only [bne_iff_ne, ne_eq, beq_iff_eq, bne_eq_false_iff_eq, beq_eq_false_iff_ne, decide_eq_true_eq, decide_eq_false_iff_not] at *
       first
         | (exfalso; omega)
         | (simp only [pUn, numP_any, placeW, wbad, *, if_true, if_false, bindP_ok, bindP_bad, Bool.false_eq_true]
            first
              | (refine ⟨rfl, rfl, ?_, ?_⟩ <;> first | trivial | omega)
              | exact ⟨rfl, _, by first | assumption | omega, rfl⟩
             ))
end Go.Proofs.YtmaokphbfjpodaaGreatDoor.E
