/- Texts, merged: Tq2, Tq3, Tp1, Tp2, Tp3, Tp4. No conditions. -/
import Derived.Test.YtmaokphbfjpodaaGreatDoorGenX5
import Derived.Test.YtmaokphbfjpodaaGreatDoorGenX16
import Derived.Test.YtmaokphbfjpodaaGreatDoorEngX3
import Derived.Test.YtmaokphbfjpodaaGreatDoorGenX8
/- Walks: types.reader: its result's blocks are of tag 1. No conditions. -/
set_option linter.unusedVariables false
set_option linter.unusedSimpArgs false
namespace Go.Proofs.YtmaokphbfjpodaaGreatDoor.E
open Go

def panR (r : Nat) (e a : Int) (w : ByteArray) : AV := .d (.ifc 58 (.rp r [.int .i64 e, .int .i64 a, .str w]))
def faultR (r : Nat) (e a : Int) (w : ByteArray) : DV := .ifc 58 (.rp r [.int .i64 e, .int .i64 a, .str w])
/-- What a method of a reader tells: a value, and it went on; or a fault, in any block. -/
def prT {α : Type} (l : List Wd) (V : α → Val) (i : Nat) (pr : PR α) (o : Out) (σ : List AObj) : Prop := match pr with
  | .ok a j => o = .ret (V a) ∧ σ = rdObj l j ∧ i < j ∧ j ≤ l.length
  | .bad e x w => ∃ r, o = .pan (panR r e x w) ∧ ∃ j, j ≤ l.length ∧ σ = rdObj l j
theorem prT_cases {α : Type} {l : List Wd} {V : α → Val} {i : Nat} {pr : PR α} {o : Out} {σ : List AObj} (h : prT l V i pr o σ) :
    (∃ a j, pr = .ok a j ∧ i < j ∧ j ≤ l.length ∧ o = .ret (V a) ∧ σ = rdObj l j) ∨ (∃ e x w r j, pr = .bad e x w ∧ j ≤ l.length ∧ o = .pan (panR r e x w) ∧ σ = rdObj l j) := by
  cases pr with
  | ok a j => obtain ⟨h1, h2, h3, h4⟩ := h; exact .inl ⟨a, j, rfl, h3, h4, h1, h2⟩
  | bad e x w => obtain ⟨r, h1, j, h2, h3⟩ := h; exact .inr ⟨e, x, w, r, j, rfl, h2, h1, h3⟩
def WholeCT (l : List Wd) (n : Nat) : Prop := ∀ i, i ≤ l.length → l.length - i < n → ACall Tryz.prog 141 [.c (.ptr 0 0)] (rdObj l i) (prR l (Ty.valR 1) i (tWhole l n i))
set_option maxRecDepth 10000 in
set_option maxHeartbeats 1000000 in
theorem tatomT_call (l : List Wd) (n : Nat) (hW : WholeCT l n) (i : Nat) (hi : i ≤ l.length) (hn : l.length - i < n + 1) (hl : l.length ≤ 1000000) :
    ACall Tryz.prog 163 [.c (.ptr 0 0)] (rdObj l i) (prR l (Ty.valR 1) i (tAtom l (tWhole l n) i)) := by
  have T := fun j hj k s => ttake_split l j k s hj hl
  have X := fun j hj => twrong_call l j hj hl
  unfold WholeCT at hW
  simp only [rdObj] at T X hW ⊢
  refine ACall.body tab_ok (ρ := 1) (N := 30) Tryz.func163 rfl rfl rfl rfl rfl ?_
  repeat' first | ((refine (T _ (by omega) _ _).mono ?_; rintro _ _ (⟨ht, hlt, rfl, rfl⟩ | ⟨ht, rfl, rfl⟩) <;> conv => whnf)) | ((refine (X _ (by omega)).mono ?_; rintro _ _ ⟨rfl, rfl⟩; conv => whnf)) | ((refine (hW _ (by omega) (by omega)).mono ?_; intro o σ hh; rcases prR_cases hh with ⟨⟨k, ks⟩, j, hp, hj1, hj2, rfl, rfl⟩ | ⟨e, x, w, j, hp, hj2, rfl, rfl⟩ <;> conv => whnf)) | refine AW.seq ?_ | refine AW.block ?_ | ((first | refine AW.region tab_ok ?_ | refine AW.cond ?_ | refine AW.skip ?_ | refine AW.ret ?_ | refine AW.exit ?_); conv => whnf) | ((first | refine And.intro (@rfl Val _) ?_ | refine And.intro (by decide) ?_ | refine cs (fun _ => ?_) (fun _ => ?_)) <;> conv => whnf)
  all_goals
    clear T X hW
    try clear hh
    simp only [tAtom, *, if_true, if_false, bindP_ok, bindP_bad, Bool.false_eq_true, wbad]
    first
      | exact ⟨rfl, rfl, by omega, by omega⟩
      | exact ⟨rfl, _, by assumption, rfl⟩
     
structure LfIT (l : List Wd) (part : Nat → PR Ty) (k : Int) (s : ByteArray) (i : Nat) where
  a : Ty
  j : Nat
  m : Nat
  h1 : i < j
  h2 : j ≤ l.length
  h3 : l.length - j < m
  h : tLeft l part k s i = tLoop l part k s m a j
set_option maxRecDepth 10000 in
set_option maxHeartbeats 1000000 in
theorem tleftT_call (l : List Wd) (n q : Nat) (hq : q = 163 ∨ q = 155) (part : Nat → PR Ty) (hP : ∀ i, i ≤ l.length → l.length - i < n → ACall Tryz.prog q [.c (.ptr 0 0)] (rdObj l i) (prR l (Ty.valR 1) i (part i))) (k : Int) (s : ByteArray) (i : Nat) (hi : i ≤ l.length) (hn : l.length - i < n) (hl : l.length ≤ 1000000) :
    ACall Tryz.prog 154 [.c (.ptr 0 0), .c (.d (.int .i8 k)), .c (.d (.str s)), .c (.fn q [.ptr 0 0] [])] (rdObj l i) (prR l (Ty.valR 1) i (tLeft l part k s i)) := by
  have T := fun j hj k s => ttake_split l j k s hj hl
  simp only [rdObj] at T hP ⊢
  rcases hq with rfl | rfl
  all_goals refine ACall.body tab_ok (ρ := 1) (N := 22) Tryz.func154 rfl rfl rfl rfl rfl ?_
  all_goals
    repeat' first | ((refine (hP _ (by omega) (by omega)).mono ?_; intro o σ hh; rcases prR_cases hh with ⟨⟨ak, aks⟩, j, hp, hj1, hj2, rfl, rfl⟩ | ⟨e, x, w, j, hp, hj2, rfl, rfl⟩ <;> conv => whnf)) | refine AW.seq ?_ | refine AW.block ?_ | (refine (_root_.id : AW _ _ _ (.region 3 _ true) _ _ → _) ?_; refine AW.draw (id := 3) tab_ok mixed [0, 1, 2, 3, 4, 5, 6] (by kernel_rfl) ?_; conv => whnf) | ((first | refine AW.region tab_ok ?_ | refine AW.cond ?_ | refine AW.skip ?_ | refine AW.ret ?_ | refine AW.exit ?_); conv => whnf) | ((first | refine And.intro (@rfl Val _) ?_ | refine And.intro (by decide) ?_ | refine cs (fun _ => ?_) (fun _ => ?_)) <;> conv => whnf)
  all_goals first
    | (simp only [tLeft, hp, bindP_bad]; exact ⟨rfl, _, hj2, rfl⟩)
    | skip
  all_goals
    refine AW.loop (ι := LfIT l part k s i) (fun x => ⟨22, [(9, .c (.ptr 2 0)), (8, .c (.ptr 1 0)), (3, .c (.fn _ [.ptr 0 0] [])), (2, .c (.d (.str s))), (1, .c (.d (.int .i8 k))), (0, .c (.ptr 0 0))], [.var [.d (.sl 0 4 (wrows l)), .d (.int .i64 x.j)], .var [.d (.int .i8 0), .d .nils], .var ((x.a.cellsR 1).map .d)], []⟩)
      (fun x => l.length - x.j) ⟨.node ak aks, j, l.length + 1, hj1, hj2, by omega, by simp only [tLeft, hp, bindP_ok]⟩ 3 (fun _ => rfl) (Nat.le_of_ble_eq_true rfl) ⟨⟨rfl, rfl, rfl, rfl, rfl, rfl, trivial⟩, rfl, rfl, ⟨[], rfl⟩, rfl⟩ (fun x => ?_)
    clear hh hp
    obtain ⟨⟨ak, aks⟩, j, m, h1, h2, h3, hx⟩ := x
    obtain ⟨m, rfl⟩ : ∃ q, m = q + 1 := ⟨m - 1, by omega⟩
    dsimp only
    simp only [Ty.cellsR, List.map_cons, List.map_nil]
    repeat' first | ((refine (T _ (by omega) _ _).mono ?_; rintro _ _ (⟨ht, hlt, rfl, rfl⟩ | ⟨ht, rfl, rfl⟩) <;> conv => whnf)) | ((refine (hP _ (by omega) (by omega)).mono ?_; intro o σ hh; rcases prR_cases hh with ⟨⟨bk, bks⟩, j2, hp, hj3, hj4, rfl, rfl⟩ | ⟨e, x, w, j2, hp, hj4, rfl, rfl⟩ <;> conv => whnf)) | refine AW.seq ?_ | refine AW.block ?_ | (refine (_root_.id : AW _ _ _ (.region 3 _ true) _ _ → _) ?_; refine AW.draw (id := 3) tab_ok mixed [0, 1, 2, 3, 4, 5, 6] (by kernel_rfl) ?_; conv => whnf) | ((first | refine AW.region tab_ok ?_ | refine AW.cond ?_ | refine AW.skip ?_ | refine AW.ret ?_ | refine AW.exit ?_); conv => whnf) | ((first | refine And.intro (@rfl Val _) ?_ | refine And.intro (by decide) ?_ | refine cs (fun _ => ?_) (fun _ => ?_)) <;> conv => whnf)
  all_goals first
    | (rw [hx, tLoop, if_neg (by simp [*])]; exact ⟨rfl, rfl, by omega, by omega⟩)
    | (rw [hx, tLoop, if_pos (by assumption)]; simp only [*, bindP_bad]; exact ⟨rfl, _, by assumption, rfl⟩)
    | (refine ⟨⟨.node k [.node ak aks, .node bk bks], j2, m, by omega, by omega, by omega, by rw [hx, tLoop, if_pos (by assumption)]; simp only [*, bindP_ok]⟩, ⟨⟨rfl, rfl, rfl, rfl, rfl, rfl, trivial⟩, rfl, rfl, ⟨[], rfl⟩, rfl⟩, ?_⟩; show l.length - j2 < l.length - j; omega)
   
set_option maxRecDepth 10000 in
set_option maxHeartbeats 1000000 in
theorem tprodT_call (l : List Wd) (n : Nat) (hW : WholeCT l n) (i : Nat) (hi : i ≤ l.length) (hn : l.length - i < n + 1) (hl : l.length ≤ 1000000) :
    ACall Tryz.prog 155 [.c (.ptr 0 0)] (rdObj l i) (prR l (Ty.valR 1) i (tProd l (tWhole l n) i)) := by
  have X := fun j hj hn => tleftT_call l (n + 1) 163 (.inl rfl) (tAtom l (tWhole l n)) (fun i hi hn => tatomT_call l n hW i hi hn hl) 4 ⟨#[42]⟩ j hj hn hl
  unfold tProd
  simp only [rdObj] at X ⊢
  refine ACall.body tab_ok (ρ := 1) (N := 7) Tryz.func155 rfl rfl rfl rfl rfl ?_
  repeat' first | ((refine (X _ (by omega) (by omega)).mono ?_; intro o σ hh; rcases prR_cases hh with ⟨⟨ak, aks⟩, j, hp, hj1, hj2, rfl, rfl⟩ | ⟨e, x, w, j, hp, hj2, rfl, rfl⟩ <;> conv => whnf)) | refine AW.seq ?_ | refine AW.block ?_ | ((first | refine AW.region tab_ok ?_ | refine AW.cond ?_ | refine AW.skip ?_ | refine AW.ret ?_ | refine AW.exit ?_); conv => whnf) | ((first | refine And.intro (@rfl Val _) ?_ | refine And.intro (by decide) ?_ | refine cs (fun _ => ?_) (fun _ => ?_)) <;> conv => whnf)
  all_goals first
    | (clear X; simp only [*]; (refine ⟨rfl, rfl, ?_, ?_⟩ <;> first | trivial | omega))
    | (clear X; simp only [*]; exact ⟨rfl, _, by assumption, rfl⟩)
   
set_option maxRecDepth 10000 in
set_option maxHeartbeats 1000000 in
theorem twholeT_call (l : List Wd) (hl : l.length ≤ 1000000) : ∀ n, WholeCT l n
  | 0, i, hi, hn => absurd hn (Nat.not_lt_zero _)
  | n + 1, i, hi, hn => by
    have ih := twholeT_call l hl n
    have T := fun j hj k s => ttake_split l j k s hj hl
    have X := fun j hj hn => tleftT_call l (n + 1) 155 (.inr rfl) (tProd l (tWhole l n)) (fun i hi hn => tprodT_call l n ih i hi hn hl) 5 ⟨#[43]⟩ j hj hn hl
    unfold WholeCT at ih
    simp only [rdObj] at X T ih ⊢
    refine ACall.body tab_ok (ρ := 1) (N := 16) Tryz.func141 rfl rfl rfl rfl rfl ?_
    repeat' first | ((refine (T _ (by omega) _ _).mono ?_; rintro _ _ (⟨ht, hlt, rfl, rfl⟩ | ⟨ht, rfl, rfl⟩) <;> conv => whnf)) | ((refine (X _ (by omega) (by omega)).mono ?_; intro o σ hh; rcases prR_cases hh with ⟨⟨ak, aks⟩, j, hp, hj1, hj2, rfl, rfl⟩ | ⟨e, x, w, j, hp, hj2, rfl, rfl⟩ <;> conv => whnf)) | ((refine (ih _ (by omega) (by omega)).mono ?_; intro o σ hh; rcases prR_cases hh with ⟨⟨ak, aks⟩, j, hp, hj1, hj2, rfl, rfl⟩ | ⟨e, x, w, j, hp, hj2, rfl, rfl⟩ <;> conv => whnf)) | refine AW.seq ?_ | refine AW.block ?_ | (refine (_root_.id : AW _ _ _ (.region 3 _ true) _ _ → _) ?_; refine AW.draw (id := 3) tab_ok mixed [0, 1, 2, 3, 4, 5] (by kernel_rfl) ?_; conv => whnf) | ((first | refine AW.region tab_ok ?_ | refine AW.cond ?_ | refine AW.skip ?_ | refine AW.ret ?_ | refine AW.exit ?_); conv => whnf) | ((first | refine And.intro (@rfl Val _) ?_ | refine And.intro (by decide) ?_ | refine cs (fun _ => ?_) (fun _ => ?_)) <;> conv => whnf)
    all_goals
      clear T X ih
      try clear hh
      simp only [tWhole, tSum, *, if_true, if_false, bindP_ok, bindP_bad, Bool.false_eq_true]
      first
        | (refine ⟨rfl, rfl, ?_, ?_⟩ <;> first | trivial | omega)
        | exact ⟨rfl, _, by assumption, rfl⟩
       
end Go.Proofs.YtmaokphbfjpodaaGreatDoor.E

/- Walks: types.Read: its result's blocks are of tag 1. No conditions. -/
set_option linter.unusedVariables false
set_option linter.unusedSimpArgs false
namespace Go.Proofs.YtmaokphbfjpodaaGreatDoor.E
open Go

/-- What types.Read tells. -/
def readRT (l : List Wd) (i : Nat) (o : Out) (σ : List AObj) : Prop :=
  (∃ a j, typP l i = .ok a j ∧ i < j ∧ j ≤ l.length ∧ o = .ret (.tup [a.valR 1, .c (.d (.int .i64 j)), .c (.d .nili)]) ∧ σ = []) ∨
  (∃ e x w r, typP l i = .bad e x w ∧ o = .ret (.tup [ty0.valR 1, .c (.d (.int .i64 0)), .c (.d (faultR r e x w))]) ∧ σ = [])
set_option maxRecDepth 10000 in
set_option maxHeartbeats 1000000 in
theorem readT_call (l : List Wd) (i : Nat) (hi : i ≤ l.length) (hl : l.length ≤ 1000000) :
    ACall Tryz.prog 116 [.c (.d (.sl 0 4 (wrows l))), .c (.d (.int .i64 i))] [] (readRT l i) := by
  have hm : max (0 : Int) (min (i : Int) ((wrows l).length : Int)) = i := by rw [wrows_len]; omega
  have X : ACall Tryz.prog 141 [.c (.ptr 0 0)] [.var [.d (.sl 0 4 (wrows l)), .d (.int .i64 (max 0 (min (i : Int) ((wrows l).length : Int))))]] (prR l (Ty.valR 1) i (tWhole l (l.length + 1) i)) := by
    rw [hm]
    exact twholeT_call l hl (l.length + 1) i hi (by omega)
  have CC : ∀ a : Ty, ACall Tryz.prog 54 [a.valR 1] [] (fun o σ => o = .ret (.c (.d (.int .i64 (tcheck a)))) ∧ σ = []) := fun a => (check_call a).any (.cons (by rw [← ty_V0]; exact ty_rtV 1 0 a) .nil) (.int _ _)
  refine ACall.bodyD tab_ok (ρ := 1) (N := 43) Tryz.func116 rfl rfl rfl rfl rfl ?_
  repeat' first | ((refine X.mono ?_; intro o σ hh; rcases prR_cases hh with ⟨⟨ak, aks⟩, j, hp, hj1, hj2, rfl, rfl⟩ | ⟨e, x, w, j, hp, hj2, rfl, rfl⟩ <;> conv => whnf)) | refine AW.seq ?_ | refine AW.block ?_ | (refine (_root_.id : AW _ _ _ (.region 8 _ true) _ _ → _) ?_; refine AW.draw (id := 8) tab_ok mixed [0, 1, 2, 3, 4, 5, 6, 7] (by kernel_rfl) ?_; conv => whnf) | ((first | refine AW.region tab_ok ?_ | refine AW.cond ?_ | refine AW.skip ?_ | refine AW.ret ?_ | refine AW.exit ?_); conv => whnf) | (refine (CC (.node ak aks)).mono ?_; rintro _ _ ⟨rfl, rfl⟩; conv => whnf) | ((first | refine And.intro (@rfl Val _) ?_ | refine And.intro (by decide) ?_ | refine cs (fun _ => ?_) (fun _ => ?_)) <;> conv => whnf)
  · have hlt : i < l.length := by omega
    obtain ⟨w, hw⟩ : ∃ w, l[i]? = some w := ⟨_, List.getElem?_eq_getElem hlt⟩
    have hrow : (wrows l)[i]? = some w.cells := by simp [wrows, hw]
    refine ⟨⟨by omega, by rw [hm, wrows_len]; omega⟩, fun row hr => ?_⟩
    rw [hm] at hr
    obtain rfl := Option.some.inj (hrow.symm.trans hr)
    obtain ⟨wk, wt, wn, wp⟩ := w
    conv => whnf
    have hpw : placeW l i = wp := by unfold placeW; rw [hw]
    repeat' first | refine AW.seq ?_ | refine AW.block ?_ | (refine (_root_.id : AW _ _ _ (.region 8 _ true) _ _ → _) ?_; refine AW.draw (id := 8) tab_ok mixed [0, 1, 2, 3, 4, 5, 6, 7] (by kernel_rfl) ?_; conv => whnf) | ((first | refine AW.region tab_ok ?_ | refine AW.cond ?_ | refine AW.skip ?_ | refine AW.ret ?_ | refine AW.exit ?_); conv => whnf) | ((first | refine And.intro (@rfl Val _) ?_ | refine And.intro (by decide) ?_ | refine cs (fun _ => ?_) (fun _ => ?_)) <;> conv => whnf)
    refine (recover_own _ _ _ _ _ _ _ _ _).mono ?_
    rintro _ _ _ ⟨rfl, rfl, rfl⟩
    conv => whnf
    have hc : ¬ tcheck (.node ak aks) = 0 := by simp_all
    first | exact .inr ⟨_, _, _, _, by rw [typP, hp, bindP_ok, if_neg hc, hpw], rfl, rfl⟩
  · refine (recover_none ..).mono ?_
    rintro _ _ _ ⟨rfl, rfl, rfl⟩
    conv => whnf
    have hc : tcheck (.node ak aks) = 0 := by simp_all
    first | exact .inl ⟨.node ak aks, j, by rw [typP, hp, bindP_ok, if_pos hc], hj1, hj2, rfl, rfl⟩
  · refine (recover_some ..).mono ?_
    rintro _ _ _ ⟨rfl, rfl, rfl⟩
    conv => whnf
    first | exact .inr ⟨_, _, _, _, by rw [typP, hp, bindP_bad], rfl, rfl⟩
end Go.Proofs.YtmaokphbfjpodaaGreatDoor.E

/- Walks: parse.reader: its results' blocks are of tags 1 and 4. No conditions. -/
set_option linter.unusedVariables false
set_option linter.unusedSimpArgs false
namespace Go.Proofs.YtmaokphbfjpodaaGreatDoor.E
open Go
def oTTp1_74_1 : OT := (.op 0 (.op 1 (.op 2 (.op 3 (.op 4 (.op 5 (.op 6 (.op 7 (.alt (.op 8 (.op 9 (.alt (.op 10 (.alt (.op 11 (.alt (.op 12 (.op 13 (.op 14 (.op 15 (.op 16 .nil))))) (.op 13 (.alt (.op 12 (.op 14 (.op 15 (.op 16 .nil)))) (.op 14 (.alt (.op 12 (.op 15 (.op 16 .nil))) (.op 15 (.op 12 (.op 16 .nil))))))))) (.alt (.op 12 (.alt (.op 11 (.op 13 (.op 14 (.op 15 (.op 16 .nil))))) (.op 13 (.alt (.op 11 (.op 14 (.op 15 (.op 16 .nil)))) (.op 14 (.op 11 (.op 15 (.op 16 .nil)))))))) (.op 13 (.alt (.op 11 (.alt (.op 12 (.op 14 (.op 15 (.op 16 .nil)))) (.op 14 (.alt (.op 12 (.op 15 (.op 16 .nil))) (.op 15 (.op 12 (.op 16 .nil))))))) (.alt (.op 12 (.alt (.op 11 (.op 14 (.op 15 (.op 16 .nil)))) (.op 14 (.op 11 (.op 15 (.op 16 .nil)))))) (.op 14 (.alt (.op 11 (.alt (.op 12 (.op 15 (.op 16 .nil))) (.op 15 (.op 12 (.op 16 .nil))))) (.op 12 (.op 11 (.op 15 (.op 16 .nil)))))))))))) (.alt (.op 11 (.alt (.op 10 (.alt (.op 12 (.op 13 (.op 14 (.op 15 (.op 16 .nil))))) (.op 13 (.alt (.op 12 (.op 14 (.op 15 (.op 16 .nil)))) (.op 14 (.alt (.op 12 (.op 15 (.op 16 .nil))) (.op 15 (.op 12 (.op 16 .nil))))))))) (.alt (.op 12 (.alt (.op 10 (.op 13 (.op 14 (.op 15 (.op 16 .nil))))) (.op 13 (.op 10 (.op 14 (.op 15 (.op 16 .nil))))))) (.op 13 (.alt (.op 10 (.alt (.op 12 (.op 14 (.op 15 (.op 16 .nil)))) (.op 14 (.alt (.op 12 (.op 15 (.op 16 .nil))) (.op 15 (.op 12 (.op 16 .nil))))))) (.op 12 (.op 10 (.op 14 (.op 15 (.op 16 .nil)))))))))) (.alt (.op 12 (.alt (.op 10 (.alt (.op 11 (.op 13 (.op 14 (.op 15 (.op 16 .nil))))) (.op 13 (.alt (.op 11 (.op 14 (.op 15 (.op 16 .nil)))) (.op 14 (.op 11 (.op 15 (.op 16 .nil)))))))) (.alt (.op 11 (.alt (.op 10 (.op 13 (.op 14 (.op 15 (.op 16 .nil))))) (.op 13 (.op 10 (.op 14 (.op 15 (.op 16 .nil))))))) (.op 13 (.alt (.op 10 (.alt (.op 11 (.op 14 (.op 15 (.op 16 .nil)))) (.op 14 (.op 11 (.op 15 (.op 16 .nil)))))) (.op 11 (.op 10 (.op 14 (.op 15 (.op 16 .nil)))))))))) (.op 13 (.alt (.op 10 (.alt (.op 11 (.alt (.op 12 (.op 14 (.op 15 (.op 16 .nil)))) (.op 14 (.alt (.op 12 (.op 15 (.op 16 .nil))) (.op 15 (.op 12 (.op 16 .nil))))))) (.alt (.op 12 (.alt (.op 11 (.op 14 (.op 15 (.op 16 .nil)))) (.op 14 (.op 11 (.op 15 (.op 16 .nil)))))) (.op 14 (.alt (.op 11 (.alt (.op 12 (.op 15 (.op 16 .nil))) (.op 15 (.op 12 (.op 16 .nil))))) (.op 12 (.op 11 (.op 15 (.op 16 .nil))))))))) (.alt (.op 11 (.alt (.op 10 (.alt (.op 12 (.op 14 (.op 15 (.op 16 .nil)))) (.op 14 (.alt (.op 12 (.op 15 (.op 16 .nil))) (.op 15 (.op 12 (.op 16 .nil))))))) (.op 12 (.op 10 (.op 14 (.op 15 (.op 16 .nil))))))) (.op 12 (.alt (.op 10 (.alt (.op 11 (.op 14 (.op 15 (.op 16 .nil)))) (.op 14 (.op 11 (.op 15 (.op 16 .nil)))))) (.op 11 (.op 10 (.op 14 (.op 15 (.op 16 .nil))))))))))))))) (.op 13 (.op 8 (.op 9 (.alt (.op 10 (.alt (.op 11 (.alt (.op 12 (.op 14 (.op 15 (.op 16 .nil)))) (.op 14 (.alt (.op 12 (.op 15 (.op 16 .nil))) (.op 15 (.op 12 (.op 16 .nil))))))) (.alt (.op 12 (.alt (.op 11 (.op 14 (.op 15 (.op 16 .nil)))) (.op 14 (.op 11 (.op 15 (.op 16 .nil)))))) (.op 14 (.alt (.op 11 (.alt (.op 12 (.op 15 (.op 16 .nil))) (.op 15 (.op 12 (.op 16 .nil))))) (.op 12 (.op 11 (.op 15 (.op 16 .nil))))))))) (.alt (.op 11 (.alt (.op 10 (.alt (.op 12 (.op 14 (.op 15 (.op 16 .nil)))) (.op 14 (.alt (.op 12 (.op 15 (.op 16 .nil))) (.op 15 (.op 12 (.op 16 .nil))))))) (.op 12 (.op 10 (.op 14 (.op 15 (.op 16 .nil))))))) (.op 12 (.alt (.op 10 (.alt (.op 11 (.op 14 (.op 15 (.op 16 .nil)))) (.op 14 (.op 11 (.op 15 (.op 16 .nil)))))) (.op 11 (.op 10 (.op 14 (.op 15 (.op 16 .nil)))))))))))))))))))))

set_option maxRecDepth 10000 in
set_option maxHeartbeats 2000000 in
theorem ptypT_call (l : List Wd) (i : Nat) (hi : i ≤ l.length) (hl : l.length ≤ 1000000) :
    ACall Tryz.prog 74 [.c (.ptr 0 0)] (rdObj l i) (prT l (Ty.valR 1) i (typP l i)) := by
  have R := fun j hj => readT_call l j hj hl
  simp only [rdObj] at R ⊢
  refine ACall.body tab_ok (ρ := 4) (N := 27) Tryz.func74 rfl rfl rfl rfl rfl ?_
  repeat' first | ((refine (R _ (by omega)).mono ?_; rintro _ _ (⟨⟨ak, aks⟩, j, hp, hj1, hj2, rfl, rfl⟩ | ⟨e, x, w, r, hp, rfl, rfl⟩) <;> conv => whnf)) | refine AW.seq ?_ | refine AW.block ?_ | (refine (_root_.id : AW _ _ _ (.region 1 _ true) _ _ → _) ?_; refine AW.drawT (id := 1) tab_ok mixed [0, 1, 2, 3, 4, 5, 6, 7, 8, 9, 10, 11, 12, 13, 14, 15, 16] oTTp1_74_1 (by kernel_rfl) ?_; conv => whnf) | (refine Fork.mk ?_ ?_ <;> conv => whnf) | ((first | refine AW.region tab_ok ?_ | refine AW.cond ?_ | refine AW.skip ?_ | refine AW.ret ?_ | refine AW.exit ?_); conv => whnf) | ((first | refine And.intro (@rfl Val _) ?_ | refine And.intro (by decide) ?_ | refine cs (fun _ => ?_) (fun _ => ?_)) <;> conv => whnf)
  all_goals
    clear R
    try dsimp only at *
    try simp only [bne_iff_ne, ne_eq, beq_iff_eq, bne_eq_false_iff_eq, beq_eq_false_iff_ne, decide_eq_true_eq, decide_eq_false_iff_not] at *
    first
      | (exfalso; omega)
      | (try rw [wrap1 (by omega)]
         simp only [wbad, *, if_true, if_false, bindP_ok, bindP_bad, Bool.false_eq_true]
         first
           | (refine ⟨rfl, rfl, ?_, ?_⟩ <;> first | trivial | omega)
           | exact ⟨_, rfl, _, by first | assumption | omega, rfl⟩
          )
end Go.Proofs.YtmaokphbfjpodaaGreatDoor.E

/- Walks: parse.reader: its results' blocks are of tags 1 and 4. No conditions. -/
set_option linter.unusedVariables false
set_option linter.unusedSimpArgs false
namespace Go.Proofs.YtmaokphbfjpodaaGreatDoor.E
open Go

set_option maxRecDepth 10000 in
set_option maxHeartbeats 2000000 in
theorem pannT_call (l : List Wd) (i : Nat) (hi : i ≤ l.length) (hl : l.length ≤ 1000000) :
    ACall Tryz.prog 70 [.c (.ptr 0 0)] (rdObj l i) (prT l (fun p : ByteArray × Ty => .tup [.c (.d (.str p.1)), p.2.valR 1]) i (annP l i)) := by
  have S := fun j hj s => psign_call l s j hj hl
  have Y := fun j hj => ptypT_call l j hj hl
  have E := fun j hj => pname_call l j hj hl
  simp only [rdObj] at S Y E ⊢
  refine ACall.body tab_ok (ρ := 4) (N := 12) Tryz.func70 rfl rfl rfl rfl rfl ?_
  repeat' first | ((refine (S _ (by omega) _).mono ?_; intro o σ hh; rcases prR_cases hh with ⟨⟨⟩, j, hp, hj1, hj2, rfl, rfl⟩ | ⟨e, x, w, j, hp, hj2, rfl, rfl⟩ <;> clear hh <;> conv => whnf)) | ((refine (Y _ (by omega)).mono ?_; intro o σ hh; rcases prT_cases hh with ⟨⟨ak, aks⟩, j, hp, hj1, hj2, rfl, rfl⟩ | ⟨e, x, w, r, j, hp, hj2, rfl, rfl⟩ <;> clear hh <;> conv => whnf)) | ((refine (E _ (by omega)).mono ?_; intro o σ hh; rcases prR_cases hh with ⟨x, j, hp, hj1, hj2, rfl, rfl⟩ | ⟨e, x, w, j, hp, hj2, rfl, rfl⟩ <;> clear hh <;> conv => whnf)) | refine AW.seq ?_ | refine AW.block ?_ | ((first | refine AW.region tab_ok ?_ | refine AW.cond ?_ | refine AW.skip ?_ | refine AW.ret ?_ | refine AW.exit ?_); conv => whnf) | ((first | refine And.intro (@rfl Val _) ?_ | refine And.intro (by decide) ?_ | refine cs (fun _ => ?_) (fun _ => ?_)) <;> conv => whnf)
  all_goals
    clear S Y E
    try dsimp only at *
    try simp only [bne_iff_ne, ne_eq, beq_iff_eq, bne_eq_false_iff_eq, beq_eq_false_iff_ne, decide_eq_true_eq, decide_eq_false_iff_not] at *
    first
      | (exfalso; omega)
      | (try rw [wrap1 (by omega)]
         simp only [annP, wbad, *, if_true, if_false, bindP_ok, bindP_bad, Bool.false_eq_true]
         first
           | (refine ⟨rfl, rfl, ?_, ?_⟩ <;> first | trivial | omega)
           | exact ⟨_, rfl, _, by first | assumption | omega, rfl⟩
          )
def PTermCT (l : List Wd) (n : Nat) : Prop := ∀ i, i ≤ l.length → l.length - i < n → ACall Tryz.prog 37 [.c (.ptr 0 0)] (rdObj l i) (prT l (Tm.valR 1 4) i (pTerm l n i))
set_option maxRecDepth 10000 in
set_option maxHeartbeats 2000000 in
theorem pbranchT_call (l : List Wd) (n : Nat) (hW : PTermCT l n) (i : Nat) (hi : i ≤ l.length) (hn : l.length - i < n + 1) (hl : l.length ≤ 1000000) :
    ACall Tryz.prog 75 [.c (.ptr 0 0)] (rdObj l i) (prT l (fun p : ByteArray × Tm => .tup [.c (.d (.str p.1)), p.2.valR 1 4]) i (branchP l (pTerm l n) i)) := by
  have S := fun j hj s => psign_call l s j hj hl
  have E := fun j hj => pname_call l j hj hl
  have W := hW
  unfold PTermCT at W
  simp only [rdObj] at S E W ⊢
  refine ACall.body tab_ok (ρ := 4) (N := 12) Tryz.func75 rfl rfl rfl rfl rfl ?_
  repeat' first | ((refine (S _ (by omega) _).mono ?_; intro o σ hh; rcases prR_cases hh with ⟨⟨⟩, j, hp, hj1, hj2, rfl, rfl⟩ | ⟨e, x, w, j, hp, hj2, rfl, rfl⟩ <;> clear hh <;> conv => whnf)) | ((refine (E _ (by omega)).mono ?_; intro o σ hh; rcases prR_cases hh with ⟨x, j, hp, hj1, hj2, rfl, rfl⟩ | ⟨e, x, w, j, hp, hj2, rfl, rfl⟩ <;> clear hh <;> conv => whnf)) | ((refine (W _ (by omega) (by omega)).mono ?_; intro o σ hh; rcases prT_cases hh with ⟨⟨k, nm, ag, nu, tk, tks, uk, uks, lb, pl, ks⟩, j, hp, hj1, hj2, rfl, rfl⟩ | ⟨e, x, w, r, j, hp, hj2, rfl, rfl⟩ <;> clear hh <;> conv => whnf)) | refine AW.seq ?_ | refine AW.block ?_ | ((first | refine AW.region tab_ok ?_ | refine AW.cond ?_ | refine AW.skip ?_ | refine AW.ret ?_ | refine AW.exit ?_); conv => whnf) | ((first | refine And.intro (@rfl Val _) ?_ | refine And.intro (by decide) ?_ | refine cs (fun _ => ?_) (fun _ => ?_)) <;> conv => whnf)
  all_goals
    clear S E W hW
    try dsimp only at *
    try simp only [bne_iff_ne, ne_eq, beq_iff_eq, bne_eq_false_iff_eq, beq_eq_false_iff_ne, decide_eq_true_eq, decide_eq_false_iff_not] at *
    first
      | (exfalso; omega)
      | (try rw [wrap1 (by omega)]
         simp only [branchP, wbad, *, if_true, if_false, bindP_ok, bindP_bad, Bool.false_eq_true]
         first
           | (refine ⟨rfl, rfl, ?_, ?_⟩ <;> first | trivial | omega)
           | exact ⟨_, rfl, _, by first | assumption | omega, rfl⟩
          )
set_option maxRecDepth 10000 in
set_option maxHeartbeats 2000000 in
theorem patomT_call (l : List Wd) (n : Nat) (hW : PTermCT l n) (i : Nat) (hi : i ≤ l.length) (hn : l.length - i < n + 1) (hl : l.length ≤ 1000000) :
    ACall Tryz.prog 169 [.c (.ptr 0 0)] (rdObj l i) (prT l (Tm.valR 1 4) i (pAtom l (pTerm l n) i)) := by
  have T := fun j hj k s hk => ptake_split l j k s hk hj hl
  have N := fun j hj => pnext_split l j hj hl
  have X := fun j hj => pwrong_call l j hj hl
  have S := fun j hj s => psign_call l s j hj hl
  have W := hW
  unfold PTermCT at W
  simp only [rdObj] at T N X S W ⊢
  refine ACall.body tab_ok (ρ := 4) (N := 81) Tryz.func169 rfl rfl rfl rfl rfl ?_
  repeat' first | ((refine (T _ (by omega) _ _ (by decide)).mono ?_; rintro _ _ (⟨ht, hlt, rfl, rfl⟩ | ⟨ht, rfl, rfl⟩) <;> conv => whnf)) | ((refine (N _ (by omega)).mono ?_; rintro _ _ (⟨⟨wk, wt, wn, wp⟩, hw, hlt, rfl, rfl⟩ | ⟨hw, hge, rfl, rfl⟩) <;> conv => whnf)) | ((refine (X _ (by omega)).mono ?_; rintro _ _ ⟨rfl, rfl⟩; conv => whnf)) | ((refine (S _ (by omega) _).mono ?_; intro o σ hh; rcases prR_cases hh with ⟨⟨⟩, j, hp, hj1, hj2, rfl, rfl⟩ | ⟨e, x, w, j, hp, hj2, rfl, rfl⟩ <;> clear hh <;> conv => whnf)) | ((refine (W _ (by omega) (by omega)).mono ?_; intro o σ hh; rcases prT_cases hh with ⟨⟨k, nm, ag, nu, tk, tks, uk, uks, lb, pl, ks⟩, j, hp, hj1, hj2, rfl, rfl⟩ | ⟨e, x, w, r, j, hp, hj2, rfl, rfl⟩ <;> clear hh <;> conv => whnf)) | refine AW.seq ?_ | refine AW.block ?_ | ((first | refine AW.region tab_ok ?_ | refine AW.cond ?_ | refine AW.skip ?_ | refine AW.ret ?_ | refine AW.exit ?_); conv => whnf) | ((first | refine And.intro (@rfl Val _) ?_ | refine And.intro (by decide) ?_ | refine cs (fun _ => ?_) (fun _ => ?_)) <;> conv => whnf)
  all_goals
    clear T N X S W hW
    try dsimp only at *
    try simp only [bne_iff_ne, ne_eq, beq_iff_eq, bne_eq_false_iff_eq, beq_eq_false_iff_ne, decide_eq_true_eq, decide_eq_false_iff_not] at *
    first
      | (exfalso; omega)
      | (try rw [wrap1 (by omega)]
         simp only [pAtom, wbad, *, if_true, if_false, bindP_ok, bindP_bad, Bool.false_eq_true]
         first
           | (refine ⟨rfl, rfl, ?_, ?_⟩ <;> first | trivial | omega)
           | exact ⟨_, rfl, _, by first | assumption | omega, rfl⟩
          )
end Go.Proofs.YtmaokphbfjpodaaGreatDoor.E

/- Walks: parse.reader: its results' blocks are of tags 1 and 4. No conditions. -/
set_option linter.unusedVariables false
set_option linter.unusedSimpArgs false
namespace Go.Proofs.YtmaokphbfjpodaaGreatDoor.E
open Go

def UnCT (l : List Wd) (n m : Nat) : Prop := ∀ i, i ≤ l.length → l.length - i < m → l.length - i < n + 1 → ACall Tryz.prog 164 [.c (.ptr 0 0)] (rdObj l i) (prT l (Tm.valR 1 4) i (pUn l (pTerm l n) m i))
set_option maxRecDepth 10000 in
set_option maxHeartbeats 2000000 in
theorem pinT_call (l : List Wd) (n m : Nat) (hU : UnCT l n m) (k p : Int) (i : Nat) (hi : i ≤ l.length) (hm : l.length - i < m) (hn : l.length - i < n + 1) (hl : l.length ≤ 1000000) :
    ACall Tryz.prog 168 [.c (.ptr 0 0), .c (.d (.int .i8 k)), .c (.d (.int .i64 p))] (rdObj l i) (prT l (Tm.valR 1 4) i (inP l (pUn l (pTerm l n) m) k p i)) := by
  have S := fun j hj s => psign_call l s j hj hl
  have Y := fun j hj => ptypT_call l j hj hl
  have U := hU
  unfold UnCT at U
  simp only [rdObj] at S Y U ⊢
  refine ACall.body tab_ok (ρ := 4) (N := 21) Tryz.func168 rfl rfl rfl rfl rfl ?_
  repeat' first | ((refine (S _ (by omega) _).mono ?_; intro o σ hh; rcases prR_cases hh with ⟨⟨⟩, j, hp, hj1, hj2, rfl, rfl⟩ | ⟨e, x, w, j, hp, hj2, rfl, rfl⟩ <;> clear hh <;> conv => whnf)) | ((refine (Y _ (by omega)).mono ?_; intro o σ hh; rcases prT_cases hh with ⟨⟨ak, aks⟩, j, hp, hj1, hj2, rfl, rfl⟩ | ⟨e, x, w, r, j, hp, hj2, rfl, rfl⟩ <;> clear hh <;> conv => whnf)) | ((refine (U _ (by omega) (by omega) (by omega)).mono ?_; intro o σ hh; rcases prT_cases hh with ⟨⟨k, nm, ag, nu, tk, tks, uk, uks, lb, pl, ks⟩, j, hp, hj1, hj2, rfl, rfl⟩ | ⟨e, x, w, r, j, hp, hj2, rfl, rfl⟩ <;> clear hh <;> conv => whnf)) | refine AW.seq ?_ | refine AW.block ?_ | (refine (_root_.id : AW _ _ _ (.region 4 _ true) _ _ → _) ?_; refine AW.draw (id := 4) tab_ok mixed [0, 1, 2, 3, 4, 5, 6, 7] (by kernel_rfl) ?_; conv => whnf) | ((first | refine AW.region tab_ok ?_ | refine AW.cond ?_ | refine AW.skip ?_ | refine AW.ret ?_ | refine AW.exit ?_); conv => whnf) | ((first | refine And.intro (@rfl Val _) ?_ | refine And.intro (by decide) ?_ | refine cs (fun _ => ?_) (fun _ => ?_)) <;> conv => whnf)
  all_goals
    clear S Y U hU
    try dsimp only at *
    try simp only [bne_iff_ne, ne_eq, beq_iff_eq, bne_eq_false_iff_eq, beq_eq_false_iff_ne, decide_eq_true_eq, decide_eq_false_iff_not] at *
    first
      | (exfalso; omega)
      | (try rw [wrap1 (by omega)]
         simp only [inP, wbad, *, if_true, if_false, bindP_ok, bindP_bad, Bool.false_eq_true]
         first
           | (refine ⟨rfl, rfl, ?_, ?_⟩ <;> first | trivial | omega)
           | exact ⟨_, rfl, _, by first | assumption | omega, rfl⟩
          )
/-- A variable's cells: read, or laid anew (the types' parts nil). -/
inductive VC1T : Tm → List AV → Prop
  | z (a : Tm) : VC1T a ((a.cellsR 1 4).map .d)
  | n (k : Int) (nm ag : ByteArray) (nu tk uk lb pl : Int) (ks : List Tm) : VC1T (.node k nm ag nu tk [] uk [] lb pl ks) [.d (.int .i8 k), .d (.str nm), .d (.str ag), .d (.int .i64 nu), .d (.int .i8 tk), .d .nils, .d (.int .i8 uk), .d .nils, .d (.int .i64 lb), .d (.int .i64 pl), .d (.sl 4 11 (Tm.rowsR 1 4 ks))]
inductive VC2T : Tm → List AV → Prop
  | z (a : Tm) : VC2T a ((a.cellsR 1 4).map .d)
  | n (k : Int) (nm ag : ByteArray) (nu tk : Int) (tks : List Ty) (uk lb pl : Int) (ks : List Tm) : VC2T (.node k nm ag nu tk tks uk [] lb pl ks) [.d (.int .i8 k), .d (.str nm), .d (.str ag), .d (.int .i64 nu), .d (.int .i8 tk), .d (.sl 1 2 (Ty.rowsR 1 tks)), .d (.int .i8 uk), .d .nils, .d (.int .i64 lb), .d (.int .i64 pl), .d (.sl 4 11 (Tm.rowsR 1 4 ks))]
structure ApIT (l : List Wd) (n : Nat) (i : Nat) (r : PR Tm) where
  a : Tm
  c : List AV
  hc : VC1T a c
  j : Nat
  m : Nat
  h1 : i < j
  h2 : j ≤ l.length
  h3 : l.length - j < m
  h : r = appLoop l (pTerm l n) m a j
set_option maxRecDepth 10000 in
set_option maxHeartbeats 2000000 in
theorem pun_stepT (l : List Wd) (n : Nat) (hW : PTermCT l n) (m : Nat) (hU : UnCT l n m) (hl : l.length ≤ 1000000) : UnCT l n (m + 1) := by
  intro i hi hm hn
  have T := fun j hj k s hk => ptake_split l j k s hk hj hl
  have N := fun j hj => pnext_split l j hj hl
  have S := fun j hj s => psign_call l s j hj hl
  have A := fun j hj k hk => pany_call l k hk j hj hl
  have B := fun j hj hn => patomT_call l n hW j hj hn hl
  have U := hU
  have I := fun k p j hj hm hn => pinT_call l n m hU k p j hj hm hn hl
  have W := hW
  unfold PTermCT at W
  unfold UnCT at U
  simp only [rdObj, Wd.val] at T N S A B U I W ⊢
  refine ACall.body tab_ok (ρ := 4) (N := 69) Tryz.func164 rfl rfl rfl rfl rfl ?_
  repeat' first | ((refine (T _ (by omega) _ _ (by decide)).mono ?_; rintro _ _ (⟨ht, hlt, rfl, rfl⟩ | ⟨ht, rfl, rfl⟩) <;> conv => whnf)) | ((refine (N _ (by omega)).mono ?_; rintro _ _ (⟨⟨wk, wt, wn, wp⟩, hw, hlt, rfl, rfl⟩ | ⟨hw, hge, rfl, rfl⟩) <;> conv => whnf)) | ((refine (S _ (by omega) _).mono ?_; intro o σ hh; rcases prR_cases hh with ⟨⟨⟩, j, hp, hj1, hj2, rfl, rfl⟩ | ⟨e, x, w, j, hp, hj2, rfl, rfl⟩ <;> clear hh <;> conv => whnf)) | ((refine (A _ (by omega) _ (by decide)).mono ?_; intro o σ hh; rcases prR_cases hh with ⟨⟨wk, wt, wn, wp⟩, j, hp, hj1, hj2, rfl, rfl⟩ | ⟨e, x, w, j, hp, hj2, rfl, rfl⟩ <;> clear hh <;> conv => whnf)) | ((refine (B _ (by omega) (by omega)).mono ?_; intro o σ hh; rcases prT_cases hh with ⟨⟨k, nm, ag, nu, tk, tks, uk, uks, lb, pl, ks⟩, j, hp, hj1, hj2, rfl, rfl⟩ | ⟨e, x, w, r, j, hp, hj2, rfl, rfl⟩ <;> clear hh <;> conv => whnf)) | ((refine (U _ (by omega) (by omega) (by omega)).mono ?_; intro o σ hh; rcases prT_cases hh with ⟨⟨k, nm, ag, nu, tk, tks, uk, uks, lb, pl, ks⟩, j, hp, hj1, hj2, rfl, rfl⟩ | ⟨e, x, w, r, j, hp, hj2, rfl, rfl⟩ <;> clear hh <;> conv => whnf)) | ((refine (I _ _ _ (by omega) (by omega) (by omega)).mono ?_; intro o σ hh; rcases prT_cases hh with ⟨⟨k, nm, ag, nu, tk, tks, uk, uks, lb, pl, ks⟩, j, hp, hj1, hj2, rfl, rfl⟩ | ⟨e, x, w, r, j, hp, hj2, rfl, rfl⟩ <;> clear hh <;> conv => whnf)) | refine AW.seq ?_ | refine AW.block ?_ | (refine (_root_.id : AW _ _ _ (.region 3 _ true) _ _ → _) ?_; refine AW.draw (id := 3) tab_ok mixed [0, 1, 2, 3, 4, 5, 6] (by kernel_rfl) ?_; conv => whnf) | (refine (_root_.id : AW _ _ _ (.region 5 _ true) _ _ → _) ?_; refine AW.draw (id := 5) tab_ok mixed [0, 1, 2, 3, 4, 5, 6] (by kernel_rfl) ?_; conv => whnf) | (refine (_root_.id : AW _ _ _ (.region 11 _ true) _ _ → _) ?_; refine AW.draw (id := 11) tab_ok mixed [0, 4, 5, 1, 2, 3, 6, 7] (by kernel_rfl) ?_; conv => whnf) | ((first | refine AW.region tab_ok ?_ | refine AW.cond ?_ | refine AW.skip ?_ | refine AW.ret ?_ | refine AW.exit ?_); conv => whnf) | ((first | refine And.intro (@rfl Val _) ?_ | refine And.intro (by decide) ?_ | refine cs (fun _ => ?_) (fun _ => ?_)) <;> conv => whnf)
  any_goals
    (refine AW.loop (ι := ApIT l n i (pUn l (pTerm l n) (m + 1) i)) (fun x => ⟨69, [(4, .c (.ptr 3 0)), (2, .c (.ptr 1 0)), (0, .c (.ptr 0 0))], [.var [.d (.sl 0 4 (wrows l)), .d (.int .i64 x.j)], .var _, .var _, .var x.c], []⟩) (fun x => l.length - x.j) ⟨.node k nm ag nu tk tks uk uks lb pl ks, _, .z _, j, l.length + 1, hj1, hj2, by omega, by simp only [pUn, numP_any, placeW, *, if_true, if_false, bindP_ok, bindP_bad, Bool.false_eq_true]⟩ 4 (fun _ => rfl) (Nat.le_of_ble_eq_true rfl) ⟨⟨rfl, rfl, rfl, trivial⟩, rfl, rfl, ⟨[], rfl⟩, rfl⟩ (fun x => ?_)
     obtain ⟨⟨ak, anm, aag, anu, atk, atks, auk, auks, alb, apl, aks⟩, c, hc, j0, m, h1, h2, h3, hx⟩ := x
     obtain ⟨m, rfl⟩ : ∃ q, m = q + 1 := ⟨m - 1, by omega⟩
     dsimp only
     cases hc
     all_goals try simp only [Tm.cellsR, List.map_cons, List.map_nil]
     all_goals
       repeat' first | ((refine (T _ (by omega) _ _ (by decide)).mono ?_; rintro _ _ (⟨ht, hlt, rfl, rfl⟩ | ⟨ht, rfl, rfl⟩) <;> conv => whnf)) | ((refine (N _ (by omega)).mono ?_; rintro _ _ (⟨⟨wk, wt, wn, wp⟩, hw, hlt, rfl, rfl⟩ | ⟨hw, hge, rfl, rfl⟩) <;> conv => whnf)) | ((refine (S _ (by omega) _).mono ?_; intro o σ hh; rcases prR_cases hh with ⟨⟨⟩, j, hp, hj1, hj2, rfl, rfl⟩ | ⟨e, x, w, j, hp, hj2, rfl, rfl⟩ <;> clear hh <;> conv => whnf)) | ((refine (W _ (by omega) (by omega)).mono ?_; intro o σ hh; rcases prT_cases hh with ⟨⟨k, nm, ag, nu, tk, tks, uk, uks, lb, pl, ks⟩, j, hp, hj1, hj2, rfl, rfl⟩ | ⟨e, x, w, r, j, hp, hj2, rfl, rfl⟩ <;> clear hh <;> conv => whnf)) | refine AW.seq ?_ | refine AW.block ?_ | (refine (_root_.id : AW _ _ _ (.region 3 _ true) _ _ → _) ?_; refine AW.draw (id := 3) tab_ok mixed [0, 1, 2, 3, 4, 5, 6] (by kernel_rfl) ?_; conv => whnf) | (refine (_root_.id : AW _ _ _ (.region 5 _ true) _ _ → _) ?_; refine AW.draw (id := 5) tab_ok mixed [0, 1, 2, 3, 4, 5, 6] (by kernel_rfl) ?_; conv => whnf) | (refine (_root_.id : AW _ _ _ (.region 11 _ true) _ _ → _) ?_; refine AW.draw (id := 11) tab_ok mixed [0, 4, 5, 1, 2, 3, 6, 7] (by kernel_rfl) ?_; conv => whnf) | ((first | refine AW.region tab_ok ?_ | refine AW.cond ?_ | refine AW.skip ?_ | refine AW.ret ?_ | refine AW.exit ?_); conv => whnf) | ((first | refine And.intro (@rfl Val _) ?_ | refine And.intro (by decide) ?_ | refine cs (fun _ => ?_) (fun _ => ?_)) <;> conv => whnf)
     all_goals first
       | (clear T N S A B U I W
          rw [hx, appLoop, if_neg (by simp [*])]
          refine ⟨rfl, rfl, ?_, ?_⟩ <;> first | trivial | omega)
       | (exfalso; omega)
       | (clear T N S A B U I W
          rw [hx, appLoop, if_pos (by assumption)]
          simp only [placeW, *, bindP_bad, bindP_ok]
          exact ⟨_, rfl, _, by first | assumption | omega, rfl⟩)
       | (refine ⟨⟨tn 6 s0 s0 0 ty0 ty0 wp [.node ak anm aag anu atk atks auk auks alb apl aks, .node k nm ag nu tk tks uk uks lb pl ks], _, .n _ _ _ _ _ _ _ _ _, j, m, by omega, by omega, by omega, ?_⟩, ⟨⟨rfl, rfl, rfl, trivial⟩, rfl, rfl, ⟨[_, _], rfl⟩, rfl⟩, ?_⟩
          · clear T N S A B U I W
            rw [hx, appLoop, if_pos (by assumption)]
            simp only [placeW, *, bindP_bad, bindP_ok]
          · show l.length - j < l.length - j0
            omega)
       | (refine ⟨⟨tn 6 s0 s0 0 ty0 ty0 wp [.node ak anm aag anu atk [] auk [] alb apl aks, .node k nm ag nu tk tks uk uks lb pl ks], _, .n _ _ _ _ _ _ _ _ _, j, m, by omega, by omega, by omega, ?_⟩, ⟨⟨rfl, rfl, rfl, trivial⟩, rfl, rfl, ⟨[_, _], rfl⟩, rfl⟩, ?_⟩
          · clear T N S A B U I W
            rw [hx, appLoop, if_pos (by assumption)]
            simp only [placeW, *, bindP_bad, bindP_ok]
          · show l.length - j < l.length - j0
            omega)
      )
  all_goals first
    | (clear T N S A B U I W
       try dsimp only at *
       try simp only [bne_iff_ne, ne_eq, beq_iff_eq, bne_eq_false_iff_eq, beq_eq_false_iff_ne, decide_eq_true_eq, decide_eq_false_iff_not] at *
       first
         | (exfalso; omega)
         | (simp only [pUn, numP_any, placeW, wbad, *, if_true, if_false, bindP_ok, bindP_bad, Bool.false_eq_true]
            first
              | (refine ⟨rfl, rfl, ?_, ?_⟩ <;> first | trivial | omega)
              | exact ⟨_, rfl, _, by first | assumption | omega, rfl⟩
             ))
end Go.Proofs.YtmaokphbfjpodaaGreatDoor.E

/- Walks: parse.reader: its results' blocks are of tags 1 and 4. No conditions. -/
set_option linter.unusedVariables false
set_option linter.unusedSimpArgs false
namespace Go.Proofs.YtmaokphbfjpodaaGreatDoor.E
open Go

/-- What op tells. -/
def opRT (l : List Wd) (part : Nat → PR Tm) (a b : ByteArray) (t : Tm) (i : Nat) (o : Out) (σ : List AObj) : Prop :=
  (isOp l [a, b] i = false ∧ o = .ret (.tup [t.valR 1 4, .c (.d (.bool false))]) ∧ σ = rdm l i a b) ∨
  (isOp l [a, b] i = true ∧ i < l.length ∧ ∃ u j, opP l part t i = .ok u j ∧ i < j ∧ j ≤ l.length ∧ o = .ret (.tup [u.valR 1 4, .c (.d (.bool true))]) ∧ σ = rdm l j a b) ∨
  (isOp l [a, b] i = true ∧ ∃ e x w r j, opP l part t i = .bad e x w ∧ j ≤ l.length ∧ o = .pan (panR r e x w) ∧ σ = rdm l j a b)
set_option maxRecDepth 10000 in
set_option maxHeartbeats 2000000 in
theorem popT_call (l : List Wd) (n q : Nat) (hq : q = 164 ∨ q = 157 ∨ q = 143) (part : Nat → PR Tm) (hP : ∀ i, i ≤ l.length → l.length - i < n → ACall Tryz.prog q [.c (.ptr 0 0)] (rdObj l i) (prT l (Tm.valR 1 4) i (part i))) (a b : ByteArray) (hab : a.size = 1 ∧ b.size = 1)
    (t : Tm) (i : Nat) (hi : i ≤ l.length) (hn : l.length - i < n) (hl : l.length ≤ 1000000) :
    ACall Tryz.prog 142 [.c (.ptr 0 0), t.valR 1 4, .c (.mp 1), .c (.fn q [.ptr 0 0] [])] (rdm l i a b) (opRT l part a b t i) := by
  have P := hP
  have N := fun j hj => pnext_split l j hj hl
  have ea : a ≠ ⟨#[]⟩ := fun h => by rw [h] at hab; exact absurd hab.1 (by decide)
  have eb : b ≠ ⟨#[]⟩ := fun h => by rw [h] at hab; exact absurd hab.2 (by decide)
  obtain ⟨tk0, tnm, tag, tnu, ttk, ttks, tuk, tuks, tlb, tpl, tks0⟩ := t
  unfold rdm mpO
  simp only [rdObj] at N P ⊢
  rcases hq with rfl | rfl | rfl
  all_goals refine ACall.body tab_ok (ρ := 4) (N := 47) Tryz.func142 rfl rfl rfl rfl rfl ?_
  all_goals
    repeat' first | ((refine (N _ (by omega)).mono ?_; rintro _ _ (⟨⟨wk, wt, wn, wp⟩, hw, hlt, rfl, rfl⟩ | ⟨hw, hge, rfl, rfl⟩) <;> conv => whnf)) | ((rw [wrap1 (by omega)]; refine (P _ (by omega) (by omega)).mono ?_; intro o σ hh; rcases prT_cases hh with ⟨⟨k, nm, ag, nu, tk, tks, uk, uks, lb, pl, ks⟩, j, hp, hj1, hj2, rfl, rfl⟩ | ⟨e, x, w, r, j, hp, hj2, rfl, rfl⟩ <;> clear hh <;> conv => whnf)) | refine AW.seq ?_ | refine AW.block ?_ | (refine (_root_.id : AW _ _ _ (.region 6 _ true) _ _ → _) ?_; refine AW.draw (id := 6) tab_ok mixed [0, 1, 2, 3, 4, 5, 6, 7, 8, 9, 10, 11] (by kernel_rfl) ?_; conv => whnf) | ((first | refine AW.region tab_ok ?_ | refine AW.cond ?_ | refine AW.skip ?_ | refine AW.ret ?_ | refine AW.exit ?_); conv => whnf) | ((first | refine And.intro (@rfl Val _) ?_ | refine And.intro (by decide) ?_ | refine cs (fun _ => ?_) (fun _ => ?_)) <;> conv => whnf)
  all_goals
    clear N P hP
    have dv : ∀ x y : ByteArray, dvEq (.str x) (.str y) = decide (x = y) := fun _ _ => rfl
    simp only [dv, cond_false, bne_iff_ne, ne_eq, beq_iff_eq, bne_eq_false_iff_eq, decide_eq_true_eq, decide_eq_false_iff_not] at *
    first
      | (exfalso; simp_all; done)
      | exact .inl ⟨by simp_all [isOp, tkW], rfl, rfl⟩
      | exact .inr (.inl ⟨by simp_all [isOp, tkW], by omega, tn 15 wt s0 0 ty0 ty0 wp [.node tk0 tnm tag tnu ttk ttks tuk tuks tlb tpl tks0, .node k nm ag nu tk tks uk uks lb pl ks], j, by simp only [opP, hp, bindP_ok, textW, placeW, hw], by omega, hj2, rfl, rfl⟩)
      | exact .inr (.inr ⟨by simp_all [isOp, tkW], e, x, w, _, j, by simp only [opP, hp, bindP_bad], hj2, rfl, rfl⟩)
     
end Go.Proofs.YtmaokphbfjpodaaGreatDoor.E
