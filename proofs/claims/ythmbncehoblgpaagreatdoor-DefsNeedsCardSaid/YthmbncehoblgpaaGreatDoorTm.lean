/- Terms as trees; what the program tells of a kind. No conditions. -/
import Derived.Test.YthmbncehoblgpaaGreatDoorTy4
import Derived.Test.YthmbncehoblgpaaGreatDoorNames
set_option linter.unusedVariables false
set_option linter.unusedSimpArgs false
namespace Go.Proofs.YthmbncehoblgpaaGreatDoor.E
open Go

/-- k, name, arg, num, the types (kind, kids), label, place, kids. -/
inductive Tm where
  | node (k : Int) (name arg : ByteArray) (num tk : Int) (tks : List Ty) (uk : Int) (uks : List Ty) (label place : Int) (kids : List Tm)
mutual
def Tm.cells : Tm → List DV
  | .node k name arg num tk tks uk uks label place ks =>
    [.int .i8 k, .str name, .str arg, .int .i64 num, .int .i8 tk, .sl 0 2 (Ty.rows tks), .int .i8 uk, .sl 0 2 (Ty.rows uks), .int .i64 label, .int .i64 place, .sl 0 11 (Tm.rows ks)]
def Tm.rows : List Tm → List (List DV)
  | [] => []
  | t :: l => Tm.cells t :: Tm.rows l
end
/-- A term, as a value. -/
def Tm.val (t : Tm) : Val := .agg (t.cells.map .d)
def Tm.kids : Tm → List Tm
  | .node _ _ _ _ _ _ _ _ _ _ ks => ks
theorem trows_length : ∀ ks, (Tm.rows ks).length = ks.length
  | [] => rfl
  | _ :: l => by simp [Tm.rows, trows_length l]
theorem trows_get : ∀ (ks : List Tm) (i : Nat) row, (Tm.rows ks)[i]? = some row → ∃ t, ks[i]? = some t ∧ row = Tm.cells t
  | [], i, row, h => by simp [Tm.rows] at h
  | t :: l, 0, row, h => by simp [Tm.rows] at h; exact ⟨t, rfl, h.symm⟩
  | t :: l, i + 1, row, h => by simp only [Tm.rows, List.getElem?_cons_succ] at h ⊢; exact trows_get l i row h
theorem trows_map : ∀ ks : List Tm, Tm.rows ks = ks.map Tm.cells
  | [] => rfl
  | t :: l => by simp [Tm.rows, trows_map l]

/-! ### Kinds -/
def kidsK (k : Int) : Int :=
  if k = 0 ∨ k = 1 ∨ k = 2 ∨ k = 3 then 0 else if k = 4 ∨ k = 5 ∨ k = 10 ∨ k = 11 ∨ k = 12 ∨ k = 13 ∨ k = 16 ∨ k = 17 then 1
  else if k = 6 ∨ k = 7 ∨ k = 9 ∨ k = 15 then 2 else if k = 8 ∨ k = 14 then 3 else -1
def nameK (k : Int) : Bool := decide (k = 0 ∨ k = 4 ∨ k = 5 ∨ k = 7 ∨ k = 14)
def argK (k : Int) : Bool := decide (k = 5 ∨ k = 14)
def typeK (k : Int) : Bool := decide (k = 4 ∨ k = 5 ∨ k = 7 ∨ k = 12 ∨ k = 13 ∨ k = 16 ∨ k = 17)
def toK (k : Int) : Bool := decide (k = 5 ∨ k = 17)
def validK (k : Int) : Bool := decide (0 ≤ k ∧ k ≤ 17)
def shapeK (k : Int) : Val := .agg [.d (.int .i64 (if validK k = true then kidsK k else 0)), .d (.bool (nameK k)), .d (.bool (argK k)), .d (.bool (decide (k = 1))), .d (.bool (typeK k)), .d (.bool (toK k)), .d (.bool (decide (k = 17))), .d (.bool (decide (k = 15)))]
set_option maxRecDepth 10000 in
theorem of_call (k : Int) : ACall Tryz.prog 47 [.c (.d (.int .i8 k))] [] (fun o σ => o = .ret (.tup [shapeK k, .c (.d (.bool (validK k)))]) ∧ σ = []) := by
  refine ACall.body tab_ok (ρ := 0) (N := 50) Tryz.func47 rfl rfl rfl rfl rfl ?_
  repeat' first | refine AW.seq ?_ | refine AW.block ?_ | ((first | refine AW.region tab_ok ?_ | refine AW.cond ?_ | refine AW.skip ?_ | refine AW.ret ?_ | refine AW.exit ?_); conv => whnf) | ((first | refine And.intro (@rfl Val _) ?_ | refine And.intro (by decide) ?_ | refine cs (fun _ => ?_) (fun _ => ?_)) <;> conv => whnf)
  all_goals refine ⟨?_, rfl⟩
  all_goals first
    | (rename_i h; simp at h; subst h; rfl)
    | (simp at *
       have hv : validK k = false := by simp [validK]; omega
       have h1 : nameK k = false := by simp [nameK]; omega
       have h2 : argK k = false := by simp [argK]; omega
       have h3 : typeK k = false := by simp [typeK]; omega
       have h4 : toK k = false := by simp [toK]; omega
       have h5 : decide (k = 1) = false := by simp; omega
       have h6 : decide (k = 17) = false := by simp; omega
       have h7 : decide (k = 15) = false := by simp; omega
       simp only [shapeK, oneOf, hv, h1, h2, h3, h4, h5, h6, h7]
       rfl)
set_option maxRecDepth 10000 in
theorem rkids_call (k : Int) : ACall Tryz.prog 73 [.c (.d (.int .i8 k))] [] (fun o σ => o = .ret (.c (.d (.int .i64 (kidsK k)))) ∧ σ = []) := by
  refine ACall.body tab_ok (ρ := 0) (N := 26) Tryz.func73 rfl rfl rfl rfl rfl ?_
  repeat' first | refine AW.seq ?_ | refine AW.block ?_ | ((first | refine AW.region tab_ok ?_ | refine AW.cond ?_ | refine AW.skip ?_ | refine AW.ret ?_ | refine AW.exit ?_); conv => whnf) | ((first | refine And.intro (@rfl Val _) ?_ | refine And.intro (by decide) ?_ | refine cs (fun _ => ?_) (fun _ => ?_)) <;> conv => whnf)
  all_goals (refine ⟨?_, rfl⟩; simp_all [oneOf, kidsK])
set_option maxRecDepth 10000 in
theorem rhasName_call (k : Int) : ACall Tryz.prog 75 [.c (.d (.int .i8 k))] [] (fun o σ => o = .ret (.c (.d (.bool (nameK k || decide (k = 15))))) ∧ σ = []) := by
  refine ACall.body tab_ok (ρ := 0) (N := 25) Tryz.func75 rfl rfl rfl rfl rfl ?_
  repeat' first | refine AW.seq ?_ | refine AW.block ?_ | ((first | refine AW.region tab_ok ?_ | refine AW.cond ?_ | refine AW.skip ?_ | refine AW.ret ?_ | refine AW.exit ?_); conv => whnf) | ((first | refine And.intro (@rfl Val _) ?_ | refine And.intro (by decide) ?_ | refine cs (fun _ => ?_) (fun _ => ?_)) <;> conv => whnf)
  all_goals
    refine ⟨outb ?_, rfl⟩
    rw [Bool.eq_iff_iff]
    simp at *
    simp [nameK]
    omega
set_option maxRecDepth 10000 in
theorem rhasArg_call (k : Int) : ACall Tryz.prog 76 [.c (.d (.int .i8 k))] [] (fun o σ => o = .ret (.c (.d (.bool (argK k)))) ∧ σ = []) := by
  refine ACall.body tab_ok (ρ := 0) (N := 9) Tryz.func76 rfl rfl rfl rfl rfl ?_
  repeat' first | refine AW.seq ?_ | refine AW.block ?_ | ((first | refine AW.region tab_ok ?_ | refine AW.cond ?_ | refine AW.skip ?_ | refine AW.ret ?_ | refine AW.exit ?_); conv => whnf) | ((first | refine And.intro (@rfl Val _) ?_ | refine And.intro (by decide) ?_ | refine cs (fun _ => ?_) (fun _ => ?_)) <;> conv => whnf)
  all_goals
    refine ⟨outb ?_, rfl⟩
    rw [Bool.eq_iff_iff]
    simp at *
    simp [argK]
    omega
set_option maxRecDepth 10000 in
theorem rhasType_call (k : Int) : ACall Tryz.prog 77 [.c (.d (.int .i8 k))] [] (fun o σ => o = .ret (.c (.d (.bool (typeK k)))) ∧ σ = []) := by
  refine ACall.body tab_ok (ρ := 0) (N := 29) Tryz.func77 rfl rfl rfl rfl rfl ?_
  repeat' first | refine AW.seq ?_ | refine AW.block ?_ | ((first | refine AW.region tab_ok ?_ | refine AW.cond ?_ | refine AW.skip ?_ | refine AW.ret ?_ | refine AW.exit ?_); conv => whnf) | ((first | refine And.intro (@rfl Val _) ?_ | refine And.intro (by decide) ?_ | refine cs (fun _ => ?_) (fun _ => ?_)) <;> conv => whnf)
  all_goals
    refine ⟨outb ?_, rfl⟩
    rw [Bool.eq_iff_iff]
    simp at *
    simp [typeK]
    omega
set_option maxRecDepth 10000 in
theorem rhasTo_call (k : Int) : ACall Tryz.prog 78 [.c (.d (.int .i8 k))] [] (fun o σ => o = .ret (.c (.d (.bool (toK k)))) ∧ σ = []) := by
  refine ACall.body tab_ok (ρ := 0) (N := 9) Tryz.func78 rfl rfl rfl rfl rfl ?_
  repeat' first | refine AW.seq ?_ | refine AW.block ?_ | ((first | refine AW.region tab_ok ?_ | refine AW.cond ?_ | refine AW.skip ?_ | refine AW.ret ?_ | refine AW.exit ?_); conv => whnf) | ((first | refine And.intro (@rfl Val _) ?_ | refine And.intro (by decide) ?_ | refine cs (fun _ => ?_) (fun _ => ?_)) <;> conv => whnf)
  all_goals
    refine ⟨outb ?_, rfl⟩
    rw [Bool.eq_iff_iff]
    simp at *
    simp [toK]
    omega
end Go.Proofs.YthmbncehoblgpaaGreatDoor.E
