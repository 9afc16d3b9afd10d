/- Texts, merged: St7, Fr1, Df0, Df1, St8, St9, St10. No conditions. -/
import Derived.Test.YtmaokphbfjpodaaGreatDoorGenX10
import Derived.Test.YtmaokphbfjpodaaGreatDoorGenX11
import Derived.Test.YtmaokphbfjpodaaGreatDoorGenX4
import Derived.Test.YtmaokphbfjpodaaGreatDoorEngX3
import Derived.Test.YtmaokphbfjpodaaGreatDoorGenX9
import Derived.Lib.ItoaLen
/- Walks: numbers and operators; the writer on any term. No conditions. -/
set_option linter.unusedVariables false
set_option linter.unusedSimpArgs false
namespace Go.Proofs.YtmaokphbfjpodaaGreatDoor.E
open Go

/-- May the term be told? -/
def NumR (num : Int) : Prop := -9223372036854775808 ≤ num ∧ num ≤ 9223372036854775807
set_option maxRecDepth 10000 in
set_option maxHeartbeats 2000000 in
theorem wterm_1 (name arg : ByteArray) (num : Int) (tk : Int) (tks : List Ty) (uk : Int) (uks : List Ty) (label place : Int) (h : NumR num) (hm : num ≠ -9223372036854775808) : WordsC 56 (.node 1 name arg num tk tks uk uks label place []) := by
  intro ws hb
  by_cases hn : num < 0
  · have hd : decide (num < 0) = true := by simp [hn]
    have hW : tmW (Tm.node 1 name arg num tk tks uk uks label place []) = [bw [45], digs (-num)] := by
      show (if num < 0 then [bw [45], digs (-num)] else [digs num]) = _
      rw [if_pos hn]
    rw [hW] at hb ⊢
    clear hW
    simp only [List.length_append, List.length_cons, List.length_nil] at hb
    have hw : IntKind.i64.wrap (0 - num) = -num := by
      rw [Int.zero_sub]
      exact wrap64 (by unfold NumR at h; omega) (by unfold NumR at h; omega)
    have c1 := fmt_call (-num) (by unfold NumR at h; omega) (by unfold NumR at h; omega)
    generalize hdg : digs (-num) = dg at *
    unfold wObj
    refine ACall.body tab_ok (ρ := 0) (N := 165) Tryz.func56 rfl rfl rfl rfl rfl ?_
    repeat' first | ((rw [hd]; conv => whnf)) | ((rw [hw]; refine (c1).mono ?_; rintro _ _ ⟨rfl, rfl⟩; conv => whnf)) | refine AW.seq ?_ | refine AW.block ?_ | (refine (_root_.id : AW _ _ _ (.region 3 _ true) _ _ → _) ?_; refine AW.draw (id := 3) tab_ok mixed [0, 1, 2, 3, 4, 5, 6, 7, 8, 9] (by kernel_rfl) ?_; conv => whnf) | (refine (_root_.id : AW _ _ _ (.region 10 _ true) _ _ → _) ?_; refine AW.draw (id := 10) tab_ok mixed [0, 1, 2, 3, 4, 5, 6, 7, 8, 9, 10, 11] (by kernel_rfl) ?_; conv => whnf) | (refine (_root_.id : AW _ _ _ (.region 11 _ true) _ _ → _) ?_; refine AW.draw (id := 11) tab_ok mixed [0, 1, 2, 3, 4, 5, 6, 7, 8, 9, 10] (by kernel_rfl) ?_; conv => whnf) | ((first | refine AW.region tab_ok ?_ | refine AW.cond ?_ | refine AW.skip ?_ | refine AW.ret ?_ | refine AW.exit ?_); conv => whnf) | (refine (put_call _ [bw [45], dg] (by first | omega | (simp only [List.length_append, List.length_cons, List.length_nil]; omega))).mono ?_; rintro _ _ ⟨rfl, rfl⟩; conv => whnf) | ((first | refine And.intro (@rfl Val _) ?_ | refine And.intro (by decide) ?_ | refine cs (fun _ => ?_) (fun _ => ?_)) <;> conv => whnf)
    all_goals first | exact ⟨rfl, rfl⟩
  · have hd : decide (num < 0) = false := by simp [hn]
    have hW : tmW (Tm.node 1 name arg num tk tks uk uks label place []) = [digs num] := by
      show (if num < 0 then [bw [45], digs (-num)] else [digs num]) = _
      rw [if_neg hn]
    rw [hW] at hb ⊢
    clear hW
    simp only [List.length_append, List.length_cons, List.length_nil] at hb
    have c1 := fmt_call num h.1 h.2
    generalize hdg : digs num = dg at *
    unfold wObj
    refine ACall.body tab_ok (ρ := 0) (N := 165) Tryz.func56 rfl rfl rfl rfl rfl ?_
    repeat' first | ((rw [hd]; conv => whnf)) | refine AW.seq ?_ | refine AW.block ?_ | (refine (_root_.id : AW _ _ _ (.region 3 _ true) _ _ → _) ?_; refine AW.draw (id := 3) tab_ok mixed [0, 1, 2, 3, 4, 5, 6, 7, 8, 9] (by kernel_rfl) ?_; conv => whnf) | (refine (_root_.id : AW _ _ _ (.region 10 _ true) _ _ → _) ?_; refine AW.draw (id := 10) tab_ok mixed [0, 1, 2, 3, 4, 5, 6, 7, 8, 9, 10, 11] (by kernel_rfl) ?_; conv => whnf) | (refine (_root_.id : AW _ _ _ (.region 11 _ true) _ _ → _) ?_; refine AW.draw (id := 11) tab_ok mixed [0, 1, 2, 3, 4, 5, 6, 7, 8, 9, 10] (by kernel_rfl) ?_; conv => whnf) | ((first | refine AW.region tab_ok ?_ | refine AW.cond ?_ | refine AW.skip ?_ | refine AW.ret ?_ | refine AW.exit ?_); conv => whnf) | ((first | refine (c1).mono ?_ | refine (put_call _ [dg] (by first | omega | (simp only [List.length_append, List.length_cons, List.length_nil]; omega))).mono ?_); rintro _ _ ⟨rfl, rfl⟩; conv => whnf) | ((first | refine And.intro (@rfl Val _) ?_ | refine And.intro (by decide) ?_ | refine cs (fun _ => ?_) (fun _ => ?_)) <;> conv => whnf)
    all_goals first | exact ⟨rfl, rfl⟩

theorem tmS15_cases (name arg : ByteArray) (num : Int) (tk : Int) (tks : List Ty) (uk : Int) (uks : List Ty) (label place : Int) (ks : List Tm) :
    tmS (.node 15 name arg num tk tks uk uks label place ks) = 1 ∨ tmS (.node 15 name arg num tk tks uk uks label place ks) = 2 ∨ tmS (.node 15 name arg num tk tks uk uks label place ks) = 3 := by
  rw [tmS15]
  split
  · exact .inl rfl
  · split
    · exact .inr (.inl rfl)
    · exact .inr (.inr rfl)
set_option maxRecDepth 10000 in
set_option maxHeartbeats 2000000 in
theorem wop_15 (name arg : ByteArray) (num : Int) (tk : Int) (tks : List Ty) (uk : Int) (uks : List Ty) (label place : Int) (x y : Tm) (ht : tmright (.node 15 name arg num tk tks uk uks label place [x, y]) = true) (cx : AtC x) (cy : AtC y) : WordsC 108 (.node 15 name arg num tk tks uk uks label place [x, y]) := by
  intro ws hb
  have c1 := strength_call _ ht
  have hs := tmS15_cases name arg num tk tks uk uks label place [x, y]
  have hW : tmW (.node 15 name arg num tk tks uk uks label place [x, y]) = tmA (if tmS (.node 15 name arg num tk tks uk uks label place [x, y]) = 1 then 2 else tmS (.node 15 name arg num tk tks uk uks label place [x, y])) x ++ [name] ++ tmA (tmS (.node 15 name arg num tk tks uk uks label place [x, y]) + 1) y := rfl
  rw [hW] at hb ⊢
  clear hW
  generalize tmS (.node 15 name arg num tk tks uk uks label place [x, y]) = s at c1 hs hb ⊢
  have dx := cx (if s = 1 then 2 else s)
  have dy := cy (s + 1)
  generalize tmA (if s = 1 then 2 else s) x = sx at hb dx ⊢
  generalize tmA (s + 1) y = sy at hb dy ⊢
  simp only [List.length_append, List.length_cons, List.length_nil, wObj] at hb dx dy
  unfold wObj
  rcases hs with rfl | rfl | rfl
  all_goals
    refine ACall.body tab_ok (ρ := 0) (N := 39) Tryz.func108 rfl rfl rfl rfl rfl ?_
    repeat' first | ((refine And.intro (⟨by decide, by first | decide | (simp [Tm.rows]; done) | (simp [Tm.rows]; decide)⟩ : _ ∧ _) ?_; conv => whnf)) | ((intro row hrow; obtain rfl := Option.some.inj hrow; conv => whnf)) | refine AW.seq ?_ | refine AW.block ?_ | (refine (_root_.id : AW _ _ _ (.region 4 _ true) _ _ → _) ?_; refine AW.draw (id := 4) tab_ok mixed [0, 1, 2, 3, 4, 5, 6, 7, 8, 9] (by kernel_rfl) ?_; conv => whnf) | ((first | refine AW.region tab_ok ?_ | refine AW.cond ?_ | refine AW.skip ?_ | refine AW.ret ?_ | refine AW.exit ?_); conv => whnf) | ((first | refine (c1).mono ?_ | refine (dx _ (by first | omega | (simp only [List.length_append, List.length_cons, List.length_nil]; omega))).mono ?_ | refine (dy _ (by first | omega | (simp only [List.length_append, List.length_cons, List.length_nil]; omega))).mono ?_ | refine (put_call _ [name] (by first | omega | (simp only [List.length_append, List.length_cons, List.length_nil]; omega))).mono ?_); rintro _ _ ⟨rfl, rfl⟩; conv => whnf) | ((first | refine And.intro (@rfl Val _) ?_ | refine And.intro (by decide) ?_ | refine cs (fun _ => ?_) (fun _ => ?_)) <;> conv => whnf)
    all_goals first | exact ⟨rfl, rfl⟩ | (refine ⟨rfl, ?_⟩; simp only [List.append_assoc]; rfl)
set_option maxRecDepth 10000 in
theorem wterm_15 (name arg : ByteArray) (num : Int) (tk : Int) (tks : List Ty) (uk : Int) (uks : List Ty) (label place : Int) (ks : List Tm) (h : WordsC 108 (Tm.node 15 name arg num tk tks uk uks label place ks)) : WordsC 56 (Tm.node 15 name arg num tk tks uk uks label place ks) := by
  intro ws hb
  have d := h ws hb
  generalize tmW (Tm.node 15 name arg num tk tks uk uks label place ks) = s at *
  unfold wObj at d ⊢
  refine ACall.body tab_ok (ρ := 0) (N := 165) Tryz.func56 rfl rfl rfl rfl rfl ?_
  repeat' first | refine AW.seq ?_ | refine AW.block ?_ | (refine (_root_.id : AW _ _ _ (.region 3 _ true) _ _ → _) ?_; refine AW.draw (id := 3) tab_ok mixed [0, 1, 2, 3, 4, 5, 6, 7, 8, 9] (by kernel_rfl) ?_; conv => whnf) | (refine (_root_.id : AW _ _ _ (.region 10 _ true) _ _ → _) ?_; refine AW.draw (id := 10) tab_ok mixed [0, 1, 2, 3, 4, 5, 6, 7, 8, 9, 10, 11] (by kernel_rfl) ?_; conv => whnf) | (refine (_root_.id : AW _ _ _ (.region 11 _ true) _ _ → _) ?_; refine AW.draw (id := 11) tab_ok mixed [0, 1, 2, 3, 4, 5, 6, 7, 8, 9, 10] (by kernel_rfl) ?_; conv => whnf) | ((first | refine AW.region tab_ok ?_ | refine AW.cond ?_ | refine AW.skip ?_ | refine AW.ret ?_ | refine AW.exit ?_); conv => whnf) | (refine (d).mono ?_; rintro _ _ ⟨rfl, rfl⟩; conv => whnf) | ((first | refine And.intro (@rfl Val _) ?_ | refine And.intro (by decide) ?_ | refine cs (fun _ => ?_) (fun _ => ?_)) <;> conv => whnf)
  all_goals first | exact ⟨rfl, rfl⟩
set_option maxRecDepth 10000 in
theorem at_step (t : Tm) (ht : tmright t = true) (h : WordsC 56 t) : AtC t := by
  intro least ws hb
  have c1 := strength_call t ht
  unfold wObj
  by_cases hl : tmS t ≥ least
  · have hd : decide (tmS t ≥ least) = true := by simp [hl]
    have hA : tmA least t = tmW t := by unfold tmA wbr; rw [if_pos hl]
    rw [hA] at hb ⊢
    have d := h ws hb
    unfold wObj at d
    generalize tmW t = s at *
    obtain ⟨k, name, arg, num, tk, tks, uk, uks, label, place, ks⟩ := t
    generalize tmS _ = r at *
    refine ACall.body tab_ok (ρ := 0) (N := 28) Tryz.func31 rfl rfl rfl rfl rfl ?_
    repeat' first | ((rw [hd]; conv => whnf)) | refine AW.seq ?_ | refine AW.block ?_ | ((first | refine AW.region tab_ok ?_ | refine AW.cond ?_ | refine AW.skip ?_ | refine AW.ret ?_ | refine AW.exit ?_); conv => whnf) | ((first | refine (c1).mono ?_ | refine (d).mono ?_); rintro _ _ ⟨rfl, rfl⟩; conv => whnf) | ((first | refine And.intro (@rfl Val _) ?_ | refine And.intro (by decide) ?_ | refine cs (fun _ => ?_) (fun _ => ?_)) <;> conv => whnf)
    all_goals first | exact ⟨rfl, rfl⟩
  · have hd : decide (tmS t ≥ least) = false := by simp [hl]
    have hA : tmA least t = [bw [40]] ++ tmW t ++ [bw [41]] := by unfold tmA wbr; rw [if_neg hl]
    rw [hA] at hb ⊢
    simp only [List.length_append, List.length_cons, List.length_nil] at hb
    have d := h
    unfold WordsC wObj at d
    generalize tmW t = s at *
    obtain ⟨k, name, arg, num, tk, tks, uk, uks, label, place, ks⟩ := t
    generalize tmS _ = r at *
    refine ACall.body tab_ok (ρ := 0) (N := 28) Tryz.func31 rfl rfl rfl rfl rfl ?_
    repeat' first | ((rw [hd]; conv => whnf)) | refine AW.seq ?_ | refine AW.block ?_ | ((first | refine AW.region tab_ok ?_ | refine AW.cond ?_ | refine AW.skip ?_ | refine AW.ret ?_ | refine AW.exit ?_); conv => whnf) | ((first | refine (c1).mono ?_ | refine (d _ (by first | omega | (simp only [List.length_append, List.length_cons, List.length_nil]; omega))).mono ?_ | refine (put_call _ [bw [40]] (by first | omega | (simp only [List.length_append, List.length_cons, List.length_nil]; omega))).mono ?_ | refine (put_call _ [bw [41]] (by first | omega | (simp only [List.length_append, List.length_cons, List.length_nil]; omega))).mono ?_); rintro _ _ ⟨rfl, rfl⟩; conv => whnf) | ((first | refine And.intro (@rfl Val _) ?_ | refine And.intro (by decide) ?_ | refine cs (fun _ => ?_) (fun _ => ?_)) <;> conv => whnf)
    all_goals first | exact ⟨rfl, rfl⟩ | (refine ⟨rfl, ?_⟩; simp only [List.append_assoc]; rfl)
end Go.Proofs.YtmaokphbfjpodaaGreatDoor.E

/- Free names: the program's walk over a term, with its maps. No conditions. -/
set_option linter.unusedVariables false
set_option linter.unusedSimpArgs false
namespace Go.Proofs.YtmaokphbfjpodaaGreatDoor.E
open Go

/-! ### Maps from names to numbers -/
abbrev TL := List (Nat × ByteArray × Int)
def encL (l : TL) : List (Nat × DV × DV) := l.map fun x => (x.1, .str x.2.1, .int .i64 x.2.2)
def tget (s : ByteArray) : TL → Nat → Option (Nat × Int)
  | [], _ => none
  | (_, k, v) :: l, i => if s = k then some (i, v) else tget s l (i + 1)
def tset (j : Nat) (v : Int) : TL → TL
  | [] => []
  | (c, k, u) :: l => match j with
    | 0 => (c, k, v) :: l
    | j + 1 => (c, k, u) :: tset j v l
def tval (s : ByteArray) (l : TL) : Int := match tget s l 0 with
  | some (_, v) => v
  | none => 0
def tput (s : ByteArray) (v : Int) (m : Nat × TL) : Nat × TL := match tget s m.2 0 with
  | some (j, _) => (m.1, tset j v m.2)
  | none => (m.1 + 1, m.2 ++ [(m.1, s, v)])
def tdel (s : ByteArray) (l : TL) : TL := match tget s l 0 with
  | some (j, _) => l.eraseIdx j
  | none => l
attribute [irreducible] tval tput tdel encL
/-! ### What the walk does -/
end Go.Proofs.YtmaokphbfjpodaaGreatDoor.E

/- Definitions of a program as data; what defs.sound and its document's answer tell of them. No conditions. -/
set_option linter.unusedVariables false
set_option linter.unusedSimpArgs false
namespace Go.Proofs.YtmaokphbfjpodaaGreatDoor.E
open Go

structure Df where
  name : ByteArray
  ty : Ty
  tm : Tm
  pl : Int
def Df.cells : Df → List DV
  | ⟨s, .node a bs, .node k name arg num tk tks uk uks label place ks, pl⟩ =>
    [.str s, .int .i8 a, .sl 0 2 (Ty.rows bs), .int .i8 k, .str name, .str arg, .int .i64 num, .int .i8 tk, .sl 0 2 (Ty.rows tks), .int .i8 uk, .sl 0 2 (Ty.rows uks), .int .i64 label, .int .i64 place, .sl 0 11 (Tm.rows ks), .int .i64 pl]
/-! ### The place of a name -/
def hv : Nat → List Df → TL
  | _, [] => []
  | k, d :: l => (k, d.name, (k : Int) + 1) :: hv (k + 1) l
/-! ### sound -/
end Go.Proofs.YtmaokphbfjpodaaGreatDoor.E

/- Walks: rules.Has, defs.sound. No conditions. -/
set_option linter.unusedVariables false
set_option linter.unusedSimpArgs false
namespace Go.Proofs.YtmaokphbfjpodaaGreatDoor.E
open Go

end Go.Proofs.YtmaokphbfjpodaaGreatDoor.E

/- Walks: may a term be told? No conditions. (Printed by mk43.py out of the walks of Has.) -/
set_option linter.unusedVariables false
set_option linter.unusedSimpArgs false
namespace Go.Proofs.YtmaokphbfjpodaaGreatDoor.E
open Go

mutual
def tmBad : Tm → Bool
  | .node k name arg num tk tks uk uks label place ks => (decide (k = 17) || (decide (k = 1) && decide (num = -9223372036854775808))) || tmBads ks
def tmBads : List Tm → Bool
  | [] => false
  | t :: l => tmBad t || tmBads l
end
theorem tmBads_take : ∀ (ks : List Tm) (i : Nat) t, ks[i]? = some t → tmBads (ks.take (i + 1)) = (tmBads (ks.take i) || tmBad t)
  | x :: l, 0, t, h => by simp at h; subst h; simp [tmBads]
  | x :: l, i + 1, t, h => by
    simp only [List.getElem?_cons_succ] at h
    have := tmBads_take l i t h
    simp only [List.take_succ_cons, tmBads]
    rw [this, Bool.or_assoc]
theorem tmBads_mem : ∀ (ks : List Tm) (t : Tm), t ∈ ks → tmBad t = true → tmBads ks = true
  | x :: l, t, hm, h => by
    simp only [tmBads, Bool.or_eq_true]
    rcases List.mem_cons.1 hm with rfl | hm
    · exact .inl h
    · exact .inr (tmBads_mem l t hm h)
structure tmBadI (ks : List Tm) where
  i : Nat
  hi : i ≤ ks.length
  h : tmBads (ks.take i) = false
set_option maxRecDepth 10000 in
theorem tell_call (t : Tm) : tmN t ≤ 8192 → ACall Tryz.prog 29 [.c (.d (.rp 0 t.cells))] [] (fun o σ => o = .ret (.c (.d (.bool (!tmBad t)))) ∧ σ = []) := by
  induction t using Tm.ind with
  | _ k name arg num tk tks uk uks label place ks ih =>
  intro hN
  have hlen := tmNL_len ks
  simp only [tmN] at hN
  have ih' : ∀ t ∈ ks, ACall Tryz.prog 29 [.c (.d (.rp 0 t.cells))] [] (fun o σ => o = .ret (.c (.d (.bool (!tmBad t)))) ∧ σ = []) := fun t ht => ih t ht (by have := tmN_mem ks t ht; omega)
  have e : tmBad (.node k name arg num tk tks uk uks label place ks) = ((decide (k = 17) || (decide (k = 1) && decide (num = -9223372036854775808))) || tmBads ks) := rfl
  rw [e]
  have hks : ks.length ≤ 8192 := by omega
  clear e hN ih
  refine ACall.body tab_ok (ρ := 0) (N := 40) Tryz.func29 rfl rfl rfl rfl rfl ?_
  repeat' first | refine AW.seq ?_ | refine AW.block ?_ | ((first | refine AW.region tab_ok ?_ | refine AW.cond ?_ | refine AW.skip ?_ | refine AW.ret ?_ | refine AW.exit ?_); conv => whnf) | ((first | refine And.intro (@rfl Val _) ?_ | refine And.intro (by decide) ?_ | refine cs (fun _ => ?_) (fun _ => ?_)) <;> conv => whnf)
  all_goals first
    | exact ⟨outb (by simp_all), rfl⟩
    | skip
      have ho : (decide (k = 17) || (decide (k = 1) && decide (num = -9223372036854775808))) = false := by simp_all
      rw [ho, Bool.false_or]
      clear ho
      refine AW.loop (ι := tmBadI ks) (fun x => ⟨40, [(28, .c (.d (.int .i64 x.i))), (27, .c (.d (.int .i64 (Tm.rows ks).length))), (0, .c (.d (.rp 0 [.int .i8 k, .str name, .str arg, .int .i64 num, .int .i8 tk, .sl 0 2 (Ty.rows tks), .int .i8 uk, .sl 0 2 (Ty.rows uks), .int .i64 label, .int .i64 place, .sl 0 11 (Tm.rows ks)])))], [], []⟩)
        (fun x => ks.length - x.i) ⟨0, Nat.zero_le _, rfl⟩ 0 (fun _ => rfl) (Nat.le_of_ble_eq_true rfl) ⟨⟨rfl, rfl, rfl, trivial⟩, rfl, rfl, ⟨[], rfl⟩, rfl⟩ (fun x => ?_)
      obtain ⟨i, hi, hj⟩ := x
      repeat' first | refine AW.seq ?_ | refine AW.block ?_ | ((first | refine AW.region tab_ok ?_ | refine AW.cond ?_ | refine AW.skip ?_ | refine AW.ret ?_ | refine AW.exit ?_); conv => whnf) | ((first | refine And.intro (@rfl Val _) ?_ | refine And.intro (by decide) ?_ | refine cs (fun _ => ?_) (fun _ => ?_)) <;> conv => whnf)
      · rename_i h2
        simp only [trows_length] at h2 ⊢
        have := of_decide_eq_true h2
        refine ⟨by omega, fun row hrow => ?_⟩
        obtain ⟨⟨kx, namex, argx, numx, tkx, tksx, ukx, uksx, labelx, placex, ksx⟩, ht, rfl⟩ := trows_get ks i row (by simpa using hrow)
        have hlt : i < ks.length := (List.getElem?_eq_some_iff.1 ht).1
        have hmem := List.mem_of_getElem? ht
        have hc := ih' _ hmem
        have hn := tmBads_take ks i _ ht
        have hf := tmBads_mem ks _ hmem
        generalize tmBad (Tm.node kx namex argx numx tkx tksx ukx uksx labelx placex ksx) = b at hc hn hf
        conv => whnf
        repeat' first | refine AW.seq ?_ | refine AW.block ?_ | ((first | refine AW.region tab_ok ?_ | refine AW.cond ?_ | refine AW.skip ?_ | refine AW.ret ?_ | refine AW.exit ?_); conv => whnf) | (refine (hc).mono ?_; rintro _ _ ⟨rfl, rfl⟩; conv => whnf) | ((first | refine And.intro (@rfl Val _) ?_ | refine And.intro (by decide) ?_ | refine cs (fun _ => ?_) (fun _ => ?_)) <;> conv => whnf)
        · rename_i h3
          exact ⟨outb (by simp_all), rfl⟩
        · rename_i h3
          rw [wrap64 (x := (i : Int) + 1) (by omega) (by omega)]
          exact ⟨⟨i + 1, hlt, by rw [hn, hj]; simpa using h3⟩, ⟨⟨rfl, rfl, rfl, trivial⟩, rfl, rfl, ⟨[], rfl⟩, rfl⟩, show ks.length - (i + 1) < ks.length - i by omega⟩
      · rename_i h2
        simp only [trows_length] at h2
        have := of_decide_eq_false h2
        obtain rfl : i = ks.length := by omega
        simp only [List.take_length] at hj
        exact ⟨outb (by simp [hj]), rfl⟩
end Go.Proofs.YtmaokphbfjpodaaGreatDoor.E

/- Plain facts: how long a term's text may be; the writer on any term that may be told. No conditions. -/
set_option linter.unusedVariables false
set_option linter.unusedSimpArgs false
namespace Go.Proofs.YtmaokphbfjpodaaGreatDoor.E
open Go

/-- The bytes of words, one more for each. -/
def wsum (ws : List ByteArray) : Nat := (ws.map fun w => w.size + 1).sum
theorem wsum_nil : wsum [] = 0 := rfl
theorem wsum_cons (w : ByteArray) (l : List ByteArray) : wsum (w :: l) = w.size + 1 + wsum l := by simp [wsum]
theorem wsum_app (l m : List ByteArray) : wsum (l ++ m) = wsum l + wsum m := by simp [wsum]
theorem wsum_len (l : List ByteArray) : l.length ≤ wsum l := by
  induction l with
  | nil => exact Nat.zero_le _
  | cons w l ih => rw [wsum_cons, List.length_cons]; omega
theorem joinW_le (ws : List ByteArray) : (joinW ws).length ≤ wsum ws := by
  cases ws with
  | nil => exact Nat.zero_le _
  | cons w l =>
    unfold joinW
    rw [List.map_cons, Lib.join_length]
    have e : ∀ l : List ByteArray, Lib.lens (l.map (·.data.toList)) + l.length = wsum l := fun l => by
      induction l with
      | nil => rfl
      | cons w l ih =>
        rw [wsum_cons, ← ih]
        simp only [Lib.lens, List.map_cons, List.sum_cons, List.length_cons, Array.length_toList]
        show w.data.size + _ + _ = w.data.size + 1 + _
        omega
    have e2 := e l
    rw [wsum_cons, ← e2]
    simp only [Lib.lens, List.map_cons, List.sum_cons, List.length_cons, List.length_nil, Array.length_toList, List.length_map]
    show _ ≤ w.data.size + 1 + _
    omega
mutual
/-- All numbers are in range. -/
def tmInR : Tm → Prop
  | .node _ _ _ num _ _ _ _ _ _ ks => NumR num ∧ tmInRs ks
def tmInRs : List Tm → Prop
  | [] => True
  | t :: l => tmInR t ∧ tmInRs l
end
theorem tmInRs_mem : ∀ (ks : List Tm) (t : Tm), t ∈ ks → tmInRs ks → tmInR t
  | x :: l, t, hm, h => by
    rcases List.mem_cons.1 hm with rfl | hm
    · exact h.1
    · exact tmInRs_mem l t hm h.2
theorem digs_size {n : Int} (h0 : 0 ≤ n) (h : n ≤ 9223372036854775808) : (digs n).size ≤ 20 := by
  show (Lib.itoa n).length ≤ 20
  unfold Lib.itoa
  rw [if_neg (by omega), Lib.decDigits_length]
  exact Lib.nDigits_le20 _ (by omega)
theorem wbr_wsum (least : Int) (p : Int × List ByteArray) : wsum (wbr least p) ≤ wsum p.2 + 4 := by
  unfold wbr
  split
  · omega
  · simp only [wsum_app, wsum_cons, wsum_nil, bw_size, List.length_cons, List.length_nil]; omega
def wtot (l : List (Int × List ByteArray)) : Nat := (l.map fun p => wsum p.2 + 4).sum
def wix (l : List (Int × List ByteArray)) (i : Nat) : Nat := match l[i]? with
  | some p => wsum p.2 + 4
  | none => 0
theorem wat_ix (l : List (Int × List ByteArray)) (i : Nat) (a : Int) : wsum (wat l i a) ≤ wix l i := by
  unfold wat wix
  cases l[i]? with
  | none => exact Nat.le_refl _
  | some p => exact wbr_wsum a p
theorem wix_tot (l : List (Int × List ByteArray)) : wix l 0 + wix l 1 + wix l 2 ≤ wtot l := by
  match l with
  | [] => simp [wix, wtot]
  | [p] => simp [wix, wtot]
  | [p, q] => simp [wix, wtot]
  | p :: q :: r :: l => simp [wix, wtot]; omega
theorem nameF_size {s : ByteArray} (h : nameF s = true) : s.size ≤ 64 := by
  simp only [nameF, Bool.and_eq_true, decide_eq_true_eq] at h
  exact h.1.1.1.2
theorem opF_size {s : ByteArray} (h : opF s = true) : s.size ≤ 64 := by
  simp only [opF, opsF, List.any_cons, List.any_nil, Bool.or_false, Bool.or_eq_true, decide_eq_true_eq] at h
  rcases h with rfl | rfl | rfl | rfl | rfl | rfl <;> decide
theorem tmright_words {k name arg num tk tks uk uks label place ks} (h : tmright (.node k name arg num tk tks uk uks label place ks) = true) :
    (nameK k = true → name.size ≤ 64) ∧ (argK k = true → arg.size ≤ 64) ∧ (k = 15 → name.size ≤ 64) := by
  simp only [tmright, ownRight, Bool.and_eq_true, Bool.or_eq_true, Bool.not_eq_true', decide_eq_true_eq, decide_eq_false_iff_not] at h
  refine ⟨fun q => ?_, fun q => ?_, fun q => ?_⟩
  · rcases h.1.1.1.1.1.2 with e | e
    · rw [q] at e; cases e
    · exact nameF_size e
  · rcases h.1.1.1.1.2 with e | e
    · rw [q] at e; cases e
    · exact nameF_size e
  · rcases h.1.2 with e | e
    · exact absurd q e
    · exact opF_size e
theorem tmJ_wsum (k : Int) (hv : validK k = true) (h17 : k ≠ 17) (name arg : ByteArray) (num s : Int) (T U : ByteArray) (l : List (Int × List ByteArray)) (nT nU : Nat)
    (h1 : nameK k = true → name.size ≤ 64) (h2 : argK k = true → arg.size ≤ 64) (h3 : k = 15 → name.size ≤ 64) (hn : NumR num) (hT : typeK k = true → T.size ≤ nT) (hU : toK k = true → U.size ≤ nU) :
    wsum (tmJ k name arg num s T U l) ≤ 200 + (if typeK k = true then nT else 0) + (if toK k = true then nU else 0) + wtot l := by
  have h0 := wix_tot l
  have w0m := wat_ix l 0 (-1)
  have w0o := wat_ix l 0 0
  have w0f := wat_ix l 0 4
  have w0v := wat_ix l 0 5
  have w1m := wat_ix l 1 (-1)
  have w1o := wat_ix l 1 0
  have w1f := wat_ix l 1 4
  have w1v := wat_ix l 1 5
  have w2m := wat_ix l 2 (-1)
  have w2o := wat_ix l 2 0
  have w2f := wat_ix l 2 4
  have w2v := wat_ix l 2 5
  unfold NumR at hn
  have hneg : num < 0 → (digs (-num)).size ≤ 20 := fun h => digs_size (by omega) (by omega)
  have hpos : ¬ num < 0 → (digs num).size ≤ 20 := fun h => digs_size (by omega) (by omega)
  rcases kinds k hv with rfl | rfl | rfl | rfl | rfl | rfl | rfl | rfl | rfl | rfl | rfl | rfl | rfl | rfl | rfl | rfl | rfl | rfl
  all_goals first
    | exact absurd rfl h17
    | (have h1 := h1 rfl; have h2 := h2 rfl; have hT := hT rfl; have hU := hU rfl; simp [tmJ, wsum_app, wsum_cons, wsum_nil, bw_size, typeK, toK]; omega)
    | (have h1 := h1 rfl; have h2 := h2 rfl; simp [tmJ, wsum_app, wsum_cons, wsum_nil, bw_size, typeK, toK]; omega)
    | (have h1 := h1 rfl; have hT := hT rfl; simp [tmJ, wsum_app, wsum_cons, wsum_nil, bw_size, typeK, toK]; omega)
    | (have hT := hT rfl; simp [tmJ, wsum_app, wsum_cons, wsum_nil, bw_size, typeK, toK]; omega)
    | (have h1 := h1 rfl; simp [tmJ, wsum_app, wsum_cons, wsum_nil, bw_size, typeK, toK]; omega)
    | (have h3 := h3 rfl; have wx := wat_ix l 0 (if s = 1 then 2 else s); have wy := wat_ix l 1 (s + 1); simp [tmJ, wsum_app, wsum_cons, wsum_nil, bw_size, typeK, toK]; omega)
    | (simp [tmJ, wsum_app, wsum_cons, wsum_nil, bw_size, typeK, toK]; omega)
    | (by_cases hx : num < 0
       · have := hneg hx; simp [tmJ, hx, wsum_app, wsum_cons, wsum_nil, bw_size, typeK, toK]; omega
       · have := hpos hx; simp [tmJ, hx, wsum_app, wsum_cons, wsum_nil, bw_size, typeK, toK]; omega)
   
end Go.Proofs.YtmaokphbfjpodaaGreatDoor.E

/- The writer on any term that may be told; show.Text. No conditions. -/
set_option linter.unusedVariables false
set_option linter.unusedSimpArgs false
namespace Go.Proofs.YtmaokphbfjpodaaGreatDoor.E
open Go

theorem tmBads_mem' {ks : List Tm} (h : tmBads ks = false) {t : Tm} (ht : t ∈ ks) : tmBad t = false := by
  cases hb : tmBad t with
  | false => rfl
  | true => rw [tmBads_mem ks t ht hb] at h; cases h
theorem tmBad_own {k name arg num tk tks uk uks label place ks} (h : tmBad (.node k name arg num tk tks uk uks label place ks) = false) : k ≠ 17 ∧ (k = 1 → num ≠ -9223372036854775808) ∧ tmBads ks = false := by
  simp only [tmBad, Bool.or_eq_false_iff, decide_eq_false_iff_not, Bool.and_eq_false_iff] at h
  refine ⟨h.1.1, fun e => ?_, h.2⟩
  rcases h.1.2 with q | q
  · exact absurd e q
  · exact q
theorem bwtyO_size (t : Ty) : (bw (tyO t)).size ≤ 6 * nodes t := by
  have := tyO_len t
  rw [bw_size]; omega
theorem tm_wsum (t : Tm) : tmright t = true → tmInR t → tmBad t = false → wsum (tmW t) + 4 ≤ 400 * tmN t := by
  induction t using Tm.ind with
  | _ k name arg num tk tks uk uks label place ks ih =>
  intro hr hn hb
  obtain ⟨b1, b2, b3⟩ := tmBad_own hb
  obtain ⟨w1, w2, w3⟩ := tmright_words hr
  obtain ⟨o1, o2⟩ := tmright_own hr
  have hv := tmright_valid hr
  have hJ := tmJ_wsum k hv b1 name arg num (tmS (.node k name arg num tk tks uk uks label place ks)) (bw (tyO (.node tk tks))) (bw (tyO (.node uk uks))) (tmWL ks) _ _ w1 w2 w3 hn.1 (fun _ => bwtyO_size _) (fun _ => bwtyO_size _)
  have hL : ∀ l : List Tm, (∀ t ∈ l, wsum (tmW t) + 4 ≤ 400 * tmN t) → wtot (tmWL l) ≤ 400 * tmNL l := fun l => by
    induction l with
    | nil => intro _; exact Nat.le_refl _
    | cons x l ihl =>
      intro hl
      have h1 := hl x (by simp)
      have h2 := ihl fun t ht => hl t (by simp [ht])
      simp only [wtot, tmWL, List.map_cons, List.sum_cons, tmNL] at h2 ⊢
      omega
  have hk := hL ks fun t ht => ih t ht (tmright_kid hr ht) (tmInRs_mem ks t ht hn.2) (tmBads_mem' b3 ht)
  have e : tmW (.node k name arg num tk tks uk uks label place ks) = tmJ k name arg num (tmS (.node k name arg num tk tks uk uks label place ks)) (bw (tyO (.node tk tks))) (bw (tyO (.node uk uks))) (tmWL ks) := rfl
  rw [e]
  have hT : (if typeK k = true then 6 * nodes (.node tk tks) else 0) ≤ 6 * (if typeK k = true then min (nodes (.node tk tks)) 8193 else 0) := by
    split
    · rename_i q
      have := tcheck_nodes (o1 q)
      omega
    · omega
  have hU : (if toK k = true then 6 * nodes (.node uk uks) else 0) ≤ 6 * (if toK k = true then min (nodes (.node uk uks)) 8193 else 0) := by
    split
    · rename_i q
      have := tcheck_nodes (o2 q)
      omega
    · omega
  simp only [tmN]
  omega
theorem tmA_wsum (least : Int) (t : Tm) (h1 : tmright t = true) (h2 : tmInR t) (h3 : tmBad t = false) : wsum (tmA least t) ≤ 400 * tmN t :=
  Nat.le_trans (wbr_wsum least (tmS t, tmW t)) (tm_wsum t h1 h2 h3)
theorem len1 {α : Type} {l : List α} (h : (1 : Int) = l.length) : ∃ x, l = [x] := by
  match l, h with
  | [x], _ => exact ⟨x, rfl⟩
  | _ :: _ :: l, h => simp at h; omega
theorem len2' {α : Type} {l : List α} (h : (2 : Int) = l.length) : ∃ x y, l = [x, y] := len2 (by omega)
theorem len3 {α : Type} {l : List α} (h : (3 : Int) = l.length) : ∃ x y z, l = [x, y, z] := by
  match l, h with
  | [x, y, z], _ => exact ⟨x, y, z, rfl⟩
  | [], h => simp at h
  | [_], h => simp at h
  | [_, _], h => simp at h
  | _ :: _ :: _ :: _ :: l, h => simp at h; omega
theorem len0 {α : Type} {l : List α} (h : (0 : Int) = l.length) : l = [] := List.eq_nil_of_length_eq_zero (by omega)
theorem at_all (t : Tm) : tmright t = true → tmInR t → tmBad t = false → AtC t := by
  induction t using Tm.ind with
  | _ k name arg num tk tks uk uks label place ks ih =>
  intro hr hn hb
  obtain ⟨b1, b2, b3⟩ := tmBad_own hb
  have hv := tmright_valid hr
  have hl := tmright_len hr
  have hk : ∀ t ∈ ks, AtC t := fun t ht => ih t ht (tmright_kid hr ht) (tmInRs_mem ks t ht hn.2) (tmBads_mem' b3 ht)
  refine at_step _ hr ?_
  have hn1 : NumR num := hn.1
  clear ih hb b3
  rcases kinds k hv with rfl | rfl | rfl | rfl | rfl | rfl | rfl | rfl | rfl | rfl | rfl | rfl | rfl | rfl | rfl | rfl | rfl | rfl
  · obtain rfl := len0 hl; exact wterm_0 _ _ _ _ _ _ _ _ _ hr
  · obtain rfl := len0 hl; exact wterm_1 _ _ _ _ _ _ _ _ _ hn1 (b2 rfl)
  · obtain rfl := len0 hl; exact wterm_2 _ _ _ _ _ _ _ _ _ hr
  · obtain rfl := len0 hl; exact wterm_3 _ _ _ _ _ _ _ _ _ hr
  · obtain ⟨x, rfl⟩ := len1 hl; exact wterm_4 _ _ _ _ _ _ _ _ _ _ (wbinder_4 _ _ _ _ _ _ _ _ _ _ hr (hk x (by simp)))
  · obtain ⟨x, rfl⟩ := len1 hl; exact wterm_5 _ _ _ _ _ _ _ _ _ _ (wbinder_5 _ _ _ _ _ _ _ _ _ _ hr (hk x (by simp)))
  · obtain ⟨x, y, rfl⟩ := len2' hl; exact wterm_6 _ _ _ _ _ _ _ _ _ _ _ hr (hk x (by simp)) (hk y (by simp))
  · obtain ⟨x, y, rfl⟩ := len2' hl; exact wterm_7 _ _ _ _ _ _ _ _ _ _ (wbinder_7 _ _ _ _ _ _ _ _ _ _ _ hr (hk x (by simp)) (hk y (by simp)))
  · obtain ⟨x, y, z, rfl⟩ := len3 hl; exact wterm_8 _ _ _ _ _ _ _ _ _ _ (wbinder_8 _ _ _ _ _ _ _ _ _ _ _ _ hr (hk x (by simp)) (hk y (by simp)) (hk z (by simp)))
  · obtain ⟨x, y, rfl⟩ := len2' hl; exact wterm_9 _ _ _ _ _ _ _ _ _ _ _ hr (hk x (by simp)) (hk y (by simp))
  · obtain ⟨x, rfl⟩ := len1 hl; exact wterm_10 _ _ _ _ _ _ _ _ _ _ (wprefix_10 _ _ _ _ _ _ _ _ _ _ hr (hk x (by simp)))
  · obtain ⟨x, rfl⟩ := len1 hl; exact wterm_11 _ _ _ _ _ _ _ _ _ _ (wprefix_11 _ _ _ _ _ _ _ _ _ _ hr (hk x (by simp)))
  · obtain ⟨x, rfl⟩ := len1 hl; exact wterm_12 _ _ _ _ _ _ _ _ _ _ (wprefix_12 _ _ _ _ _ _ _ _ _ _ hr (hk x (by simp)))
  · obtain ⟨x, rfl⟩ := len1 hl; exact wterm_13 _ _ _ _ _ _ _ _ _ _ (wprefix_13 _ _ _ _ _ _ _ _ _ _ hr (hk x (by simp)))
  · obtain ⟨x, y, z, rfl⟩ := len3 hl; exact wterm_14 _ _ _ _ _ _ _ _ _ _ (wbinder_14 _ _ _ _ _ _ _ _ _ _ _ _ hr (hk x (by simp)) (hk y (by simp)) (hk z (by simp)))
  · obtain ⟨x, y, rfl⟩ := len2' hl; exact wterm_15 _ _ _ _ _ _ _ _ _ _ (wop_15 _ _ _ _ _ _ _ _ _ _ _ hr (hk x (by simp)) (hk y (by simp)))
  · obtain ⟨x, rfl⟩ := len1 hl; exact wterm_16 _ _ _ _ _ _ _ _ _ _ hr (hk x (by simp))
  · exact absurd rfl b1
/-- What is told of a term. -/
def toldF (t : Tm) : ByteArray × Int :=
  if tmcheck t = 0 then (if tmBad t = true then (⟨#[]⟩, 30) else if (joinW (tmA (-1) t)).length > 65536 then (⟨#[]⟩, 3) else (bw (joinW (tmA (-1) t)), 0)) else (⟨#[]⟩, tmcheck t)
def toldV (t : Tm) : Out := .ret (.tup [.c (.d (.str (toldF t).1)), .c (.d (.int .i64 (toldF t).2))])
set_option maxRecDepth 10000 in
set_option maxHeartbeats 2000000 in
theorem told_call (t : Tm) (hn : tmInR t) : ACall Tryz.prog 15 [t.val] [] (fun o σ => o = toldV t ∧ σ = []) := by
  have c1 := tmCheck_call t
  unfold toldV toldF
  by_cases h : tmcheck t = 0
  · rw [if_pos h]
    rw [h] at c1
    obtain ⟨hN, hr⟩ := tmcheck_ok h
    have c2 := tell_call t hN
    cases hb : tmBad t with
    | true =>
      rw [hb] at c2
      clear hn h hr hN hb
      obtain ⟨k, name, arg, num, tk, tks, uk, uks, label, place, ks⟩ := t
      refine ACall.body tab_ok (ρ := 0) (N := 26) Tryz.func15 rfl rfl rfl rfl rfl ?_
      repeat' first | refine AW.seq ?_ | refine AW.block ?_ | ((first | refine AW.region tab_ok ?_ | refine AW.cond ?_ | refine AW.skip ?_ | refine AW.ret ?_ | refine AW.exit ?_); conv => whnf) | ((first | refine (c1).mono ?_ | refine (c2).mono ?_); rintro _ _ ⟨rfl, rfl⟩; conv => whnf) | ((first | refine And.intro (@rfl Val _) ?_ | refine And.intro (by decide) ?_ | refine cs (fun _ => ?_) (fun _ => ?_)) <;> conv => whnf)
      all_goals first | exact ⟨rfl, rfl⟩
    | false =>
      rw [hb] at c2
      rw [if_neg (by decide)]
      have hw := tmA_wsum (-1) t hr hn hb
      have hj := joinW_le (tmA (-1) t)
      have hl := wsum_len (tmA (-1) t)
      have c3 := at_all t hr hn hb (-1) [] (by simp; omega)
      have c4 := join_call (tmA (-1) t) (by omega) (by omega)
      rw [List.nil_append] at c3
      generalize tmA (-1) t = ws at *
      have hsz : (bw (joinW ws)).size = (joinW ws).length := rfl
      generalize joinW ws = j at *
      clear hn h hr hN hb
      obtain ⟨k, name, arg, num, tk, tks, uk, uks, label, place, ks⟩ := t
      unfold wObj at c3
      refine ACall.body tab_ok (ρ := 0) (N := 26) Tryz.func15 rfl rfl rfl rfl rfl ?_
      repeat' first | ((refine (_root_.id : AW _ _ _ (.region 8 _ _) _ _ → _) ?_; refine AW.ghost 9 1 1 0 (by decide) rfl rfl ?_; conv => whnf)) | ((refine And.intro (rfl : (_ : Nat) = _) ?_; conv => whnf)) | refine AW.seq ?_ | refine AW.block ?_ | ((first | refine AW.region tab_ok ?_ | refine AW.cond ?_ | refine AW.skip ?_ | refine AW.ret ?_ | refine AW.exit ?_); conv => whnf) | ((first | refine (c1).mono ?_ | refine (c2).mono ?_ | refine (c3).mono ?_ | refine (c4).mono ?_); rintro _ _ ⟨rfl, rfl⟩; conv => whnf) | ((first | refine And.intro (@rfl Val _) ?_ | refine And.intro (by decide) ?_ | refine cs (fun _ => ?_) (fun _ => ?_)) <;> conv => whnf)
      · rename_i h3
        have := of_decide_eq_true h3
        rw [if_pos (by omega)]
        exact ⟨rfl, rfl⟩
      · rename_i h3
        have := of_decide_eq_false h3
        rw [if_neg (by omega)]
        exact ⟨rfl, rfl⟩
  · rw [if_neg h]
    generalize tmcheck t = e at *
    obtain ⟨k, name, arg, num, tk, tks, uk, uks, label, place, ks⟩ := t
    refine ACall.body tab_ok (ρ := 0) (N := 26) Tryz.func15 rfl rfl rfl rfl rfl ?_
    repeat' first | refine AW.seq ?_ | refine AW.block ?_ | ((first | refine AW.region tab_ok ?_ | refine AW.cond ?_ | refine AW.skip ?_ | refine AW.ret ?_ | refine AW.exit ?_); conv => whnf) | (refine (c1).mono ?_; rintro _ _ ⟨rfl, rfl⟩; conv => whnf) | ((first | refine And.intro (@rfl Val _) ?_ | refine And.intro (by decide) ?_ | refine cs (fun _ => ?_) (fun _ => ?_)) <;> conv => whnf)
    all_goals first | exact ⟨rfl, rfl⟩ | (rename_i h3; exact absurd (by simpa using h3) h)
end Go.Proofs.YtmaokphbfjpodaaGreatDoor.E
