/- The engine, part 17: regions whose order is drawn. No conditions. -/
import Derived.Test.YtdhkopangbgehaaEng16
import Derived.Orders
set_option linter.unusedVariables false
set_option linter.unusedSimpArgs false
set_option linter.unusedSectionVars false
namespace Go.Proofs.Ytdhkopangbgehaa.E
open Go

/-! ### Computations that come to one value -/
def Det (F : (Val → Prop) → Prop) : Prop := ∀ K, F K → ∃ v, K v ∧ F (fun u => u = v)

theorem det_k (v : Val) : Det (fun K => K v) := fun K h => ⟨v, h, rfl⟩
theorem det_f : Det (fun _ => False) := fun K h => h.elim
theorem det_and {p : Prop} {F : (Val → Prop) → Prop} (h : Det F) : Det (fun K => p ∧ F K) := fun K ⟨hp, hk⟩ => by
  obtain ⟨v, h1, h2⟩ := h K hk
  exact ⟨v, h1, hp, h2⟩
theorem det_c {b : Bool} {F G : (Val → Prop) → Prop} (h : Det F) (g : Det G) : Det (fun K => cond b (F K) (G K)) := by cases b; exact g; exact h

theorem aCells_det (i : TI) (cs : List AV) : Det (aCells i cs) := by
  unfold aCells
  refine det_c ?_ ?_
  · split
    · exact det_k _
    · exact det_f
  · split
    · exact det_k _
    · exact det_f
theorem aNil_det (x : Val) : Det (aNil x) := by
  unfold aNil; split <;> first | exact det_k _ | exact det_f
theorem aUn_det (op : UnOp) (x : Val) : Det (aUn op x) := by
  unfold aUn; split <;> first | exact det_k _ | exact det_f
theorem aLen_det (x : Val) : Det (aLen x) := by
  unfold aLen; split <;> first | exact det_k _ | exact det_f
theorem iBin_det (op : BinOp) (k : IntKind) (a b : Int) : Det (iBin op k a b) := by
  unfold iBin; split <;> first | exact det_k _ | exact det_and (det_k _) | exact det_f
theorem sBin_det (op : BinOp) (a b : ByteArray) : Det (sBin op a b) := by
  unfold sBin; split <;> first | exact det_k _ | exact det_and (det_k _) | exact det_f
theorem nBin_det (op : BinOp) (tk : TK) (x : Val) (cst : Bool) : Det (nBin op tk x cst) := by
  unfold nBin
  refine det_c ?_ det_f
  split
  · split <;> first | exact det_k _ | exact det_f
  · exact det_f
theorem aBin_det (T : Tab) (op : BinOp) (t : Nat) (x y : Val) (cst : Bool) : Det (aBin T op t x y cst) := by
  unfold aBin
  split
  · exact det_c (iBin_det _ _ _ _) det_f
  · exact sBin_det _ _ _
  · split
    · split <;> first | exact det_k _ | exact det_f
    · exact det_f
  · split
    · exact det_c (nBin_det _ _ _ _) det_f
    · exact det_f
theorem aOff_det (x : Val) (n : Nat) : Det (aOff x n) := by
  unfold aOff; split <;> first | exact det_k _ | exact det_and (det_k _) | exact det_f
theorem aFieldAddr_det (T : Tab) (s : Nat) (x : Val) (f : Nat) : Det (aFieldAddr T s x f) := by
  unfold aFieldAddr
  split
  · split
    · split
      · exact aOff_det _ _
      · exact det_f
    · exact det_f
  · exact det_f
theorem aField_det (T : Tab) (s : Nat) (x : Val) (f : Nat) : Det (aField T s x f) := by
  unfold aField
  split
  · split
    · split
      · split
        · exact aCells_det _ _
        · exact det_f
      · exact det_f
    · exact det_f
  · exact det_f
theorem rows_det {r : Nat} {rows : List (List DV)} {n : Int} : Det (fun K => (0 ≤ n ∧ n < rows.length) ∧ ∀ row, rows[n.toNat]? = some row → K (.c (.d (.rp r row)))) := fun K ⟨h1, h2⟩ => by
  have hlt : n.toNat < rows.length := by omega
  have e := List.getElem?_eq_getElem hlt
  exact ⟨_, h2 _ e, h1, fun row' h' => by rw [e] at h'; cases h'; rfl⟩
theorem aIndexAddr_det (T : Tab) (σ : List AObj) (t : Nat) (x ix : Val) : Det (aIndexAddr T σ t x ix) := by
  unfold aIndexAddr
  split
  · split
    · split
      · split
        · exact det_c rows_det det_f
        · exact det_c rows_det det_f
        · split
          · exact det_c (det_and (det_k _)) det_f
          · exact det_f
        · exact det_f
      · exact det_f
    · split
      · split
        · exact det_and (aOff_det _ _)
        · exact det_f
      · exact det_f
    · exact det_f
  · exact det_f
theorem aPick_det (q : Bool) (x y : Val) : Det (aPick q x y) := by
  unfold aPick
  split
  · exact det_k _
  · exact det_c (det_k _) (det_k _)
theorem aFill_det (T : Tab) (place : Nat → Option (Nat × Nat)) : ∀ (ps : List (Nat × Val)) (cells : List AV), Det (fun K => aFill T place ps cells (fun cs => K (.agg cs)))
  | [], cells => det_k _
  | (f, x) :: r, cells => by
    simp only [aFill]
    split
    · refine det_c ?_ det_f
      split
      · exact aFill_det T place r _
      · exact det_f
    · exact det_f
theorem aBuild_det (T : Tab) (t : Nat) (ps : List (Nat × Val)) : Det (aBuild T t ps) := by
  unfold aBuild
  split
  · split
    · exact aFill_det _ _ _ _
    · split
      · exact aFill_det _ _ _ _
      · exact det_f
    · exact det_f
  · exact det_f
theorem aLoad_det (T : Tab) (σ : List AObj) (t : Nat) (x : Val) : Det (fun K => aLoad T σ t x (fun v _ => K v)) := by
  unfold aLoad
  split
  · exact det_f
  · split
    · split
      · exact aCells_det _ _
      · exact aCells_det _ _
      · exact det_f
    · exact aCells_det _ _
    · exact det_f
theorem aLoad_σ (T : Tab) (σ : List AObj) (t : Nat) (x : Val) (K : Val → List AObj → Prop) : aLoad T σ t x K = aLoad T σ t x (fun v _ => K v σ) := by
  unfold aLoad
  split
  · rfl
  · split
    · split <;> rfl
    · rfl
    · rfl

/-- An operation that changes no object and comes to one value. -/
def loud (o : Oper) : Bool :=
  match o.op with
  | .move _ | .pick _ _ _ | .load _ _ | .nilCheck _ | .binOp _ _ _ _ _ | .unOp _ _ _ | .fieldAddr _ _ _ | .field _ _ _ | .indexAddr _ _ _ | .build _ _ => false
  | .call c => match c.callee with
    | .builtin .len => false
    | _ => true
  | _ => true

section
variable {P : Program} {T : Tab}

theorem det_of {F : (Val → Prop) → Prop} (h : Det F) {σ : List AObj} {K : Val → List AObj → Prop} (hk : F (fun v => K v σ)) :
    ∃ v, K v σ ∧ F (fun u => u = v ∧ True) := by
  obtain ⟨v, h1, h2⟩ := h _ hk
  exact ⟨v, h1, by simpa using h2⟩

theorem quiet_det {ρ : Nat} {env : List (Nat × Val)} {σ : List AObj} {o : Oper} (ho : loud o = false) {K : Val → List AObj → Prop} {KD : Dfr → Prop} {KP : AV → List AObj → Prop}
    (hk : aop P T ρ env σ o K KD KP) : ∃ v, K v σ ∧ aop P T ρ env σ o (fun u τ => u = v ∧ τ = σ) (fun _ => False) (fun _ _ => False) := by
  unfold aop at hk ⊢
  unfold loud at ho
  split at ho <;> rename_i hop <;> simp only [hop] at hk ⊢
  · exact ⟨_, hk, rfl, trivial⟩
  · split at hk
    · exact det_of (aPick_det _ _ _) hk
    · exact hk.elim
  · rw [aLoad_σ] at hk
    obtain ⟨v, h1, h2⟩ := det_of (aLoad_det T σ _ _) (K := K) hk
    exact ⟨v, h1, by rw [aLoad_σ]; simpa using h2⟩
  · exact det_of (aNil_det _) hk
  · exact det_of (aBin_det _ _ _ _ _ _) hk
  · exact det_of (aUn_det _ _) hk
  · exact det_of (aFieldAddr_det _ _ _ _) hk
  · exact det_of (aField_det _ _ _ _) hk
  · exact det_of (aIndexAddr_det _ _ _ _ _) hk
  · exact det_of (aBuild_det _ _ _) hk
  · split at ho
    · rename_i hcal
      simp only [hcal, fK_eq] at hk ⊢
      unfold aBuiltin at hk ⊢
      split at hk
      · rename_i hb
        rename_i t x e1 e2
        simp only [e1, e2]
        exact det_of (F := fun K => cond (lenTy T t x) (aLen x K) False) (det_c (aLen_det _) det_f) hk
      · rename_i hb _ _; cases hb
      · rename_i hb _; cases hb
      · rename_i hb _; cases hb
      · exact hk.elim
    · cases ho
  · cases ho

end
end Go.Proofs.Ytdhkopangbgehaa.E
