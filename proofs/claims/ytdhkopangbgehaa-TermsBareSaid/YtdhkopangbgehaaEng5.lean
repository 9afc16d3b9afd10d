/- The engine, part 5: what is our own becomes data (is frozen); further operations. No conditions. -/
import Derived.Test.YtdhkopangbgehaaEng4
set_option linter.unusedVariables false
set_option linter.unusedSimpArgs false
namespace Go.Proofs.Ytdhkopangbgehaa.E
open Go

theorem repA_d {w : World} {C : Cz} {v : Value} {x : DV} (h : RepA w C v (.d x)) : RepD w C.rg v x := by
  cases h with
  | d _ _ h => exact h

/-! ### Freezing -/
def allD : List AV → Option (List DV)
  | [] => some []
  | .d x :: l => match allD l with | some r => some (x :: r) | none => none
  | _ :: _ => none

theorem allD_some : ∀ {l : List AV} {xs : List DV}, allD l = some xs → l = xs.map .d
  | [], xs, h => by simp [allD] at h; subst h; rfl
  | .d x :: l, xs, h => by
    simp only [allD] at h
    split at h
    · rename_i r hr; cases h; simp [allD_some hr]
    · cases h
  | .ptr _ _ :: l, xs, h => by simp [allD] at h
  | .own _ _ :: l, xs, h => by simp [allD] at h
  | .rowp _ _ _ :: l, xs, h => by simp [allD] at h
  | .emp :: l, xs, h => by simp [allD] at h
  | .full _ _ _ :: l, xs, h => by simp [allD] at h
  | .mp _ :: l, xs, h => by simp [allD] at h
  | .fn _ _ _ :: l, xs, h => by simp [allD] at h
  | .ifc _ _ :: l, xs, h => by simp [allD] at h
  | .ifa _ _ :: l, xs, h => by simp [allD] at h

def frzPtr (ρ : Nat) (σ : List AObj) (o off : Nat) (K : DV → List AObj → Prop) : Prop :=
  match σ[o]? with
  | some (.var cells) => match allD cells with
    | some ds => K (.rp ρ (ds.drop off)) (σ.set o (.frz ρ ds))
    | none => False
  | some (.frz r cells) => K (.rp r (cells.drop off)) σ
  | _ => False

/-- One cell becomes data. n: it is a slice, an element of which has so many cells. -/
def frz1 (ρ : Nat) (σ : List AObj) (a : AV) (n : Option Nat) (K : DV → List AObj → Prop) : Prop :=
  match a with
  | .d .nils => match n with | some sz => K (.sl ρ sz []) σ | none => K .nils σ
  | .d x => K x σ
  | .emp => match n with | some sz => K (.sl ρ sz []) σ | none => K (.sl ρ 0 []) σ
  | .full r sz rows => K (.sl r sz rows) σ
  | .own o m => match σ[o]? with
    | some (.row e sz rows) => m = rows.length ∧ K (.sl ρ sz rows) (σ.set o .gone)
    | _ => False
  | .ptr o off => frzPtr ρ σ o off K
  | .ifc t (.d x) => K (.ifc t x) σ
  | .ifc t (.ptr o off) => frzPtr ρ σ o off (fun x => K (.ifc t x))
  | .ifa t cells => match allD cells with | some ds => K (.ifa t ds) σ | none => False
  | _ => False

def frzL (ρ : Nat) (σ : List AObj) : List AV → List (Option Nat) → (List DV → List AObj → Prop) → Prop
  | [], _, K => K [] σ
  | a :: as, ns, K => frz1 ρ σ a ns.head?.join (fun x σ' => frzL ρ σ' as ns.tail (fun xs σ'' => K (x :: xs) σ''))

theorem frz_row {w : World} {C : Cz} {σ : List AObj} (hI : Inv w C σ) (ρ : Nat) {o e sz : Nat} {rows : List (List DV)} (ho : σ[o]? = some (.row e sz rows)) {v : Value} (hv : RepA w C v (.own o rows.length)) :
    ∃ C', CzLe w C w C' ∧ Inv w C' (σ.set o .gone) ∧ Ext w C σ w C' (σ.set o .gone) ∧ RepD w C'.rg v (.sl ρ sz rows) := by
  cases hv with
  | own _ _ en he hr hn A c hval =>
  obtain ⟨g1, g2, g3, g4, g5, xs, g6, g7⟩ := hI.ok o _ en ho he
  obtain ⟨k1, k2, k3⟩ := hI.frz (o' := .gone) ho he rfl ρ rfl (fun _ => trivial)
  have hval := hval g2.symm
  refine ⟨_, k1, k2, k3, ?_⟩
  rcases g6.2 with ⟨h1, h2⟩ | ⟨g, cap, cur, h1, _, h3, h4, h5, h6, h7⟩
  · have : rows = [] := List.eq_nil_of_length_eq_zero h2
    subst this
    exact .sl0 A ρ sz c
  · rw [h1] at hval
    cases hval
    have hb : en.b = some g := by rw [g3, h1]; rfl
    have hlen : ∀ j i, j < rows.length → i < sz → j * sz + i < rows.length * sz := fun j i hj hi => by
      have : j * sz + sz ≤ rows.length * sz := by rw [← Nat.succ_mul]; exact Nat.mul_le_mul_right _ hj
      omega
    have hcell : ∀ j i, j < rows.length → i < sz → cur[j * sz + i]? = some (xs.getD (j * sz + i) undef) := fun j i hj hi => by
      have := hlen j i hj hi
      have hx : xs[j * sz + i]? = some (xs.getD (j * sz + i) undef) := by
        have hl := g6.1
        rw [List.getD_eq_getElem?_getD, List.getElem?_eq_getElem (by omega)]; rfl
      rw [← hx, ← h7, List.getElem?_take, if_pos this, Array.getElem?_toList]
    refine .sl ρ sz g 0 rows.length _ rows cur e (0, 0) (fun j i => xs.getD (j * sz + i) undef) (by simp [Cz.frz, hb]) h3 rfl h4 g5 (fun j i hj hi => by rw [Nat.zero_add]; exact hcell j i hj hi) (fun j i row x hj hi => ?_)
    obtain ⟨u, hu, hru⟩ := g7 j i row x hj hi
    have : xs.getD (j * sz + i) undef = u := by rw [List.getD_eq_getElem?_getD, hu]; rfl
    rw [this]
    exact hru.mono k1.rg

theorem frzPtr_ok {w : World} {C : Cz} {σ : List AObj} (hI : Inv w C σ) (ρ : Nat) {o off : Nat} {v : Value} (hv : RepA w C v (.ptr o off)) {K : DV → List AObj → Prop} (hk : frzPtr ρ σ o off K) :
    ∃ C' x σ', K x σ' ∧ CzLe w C w C' ∧ Inv w C' σ' ∧ Ext w C σ w C' σ' ∧ RepD w C'.rg v x := by
  unfold frzPtr at hk
  cases hv with
  | ptr _ _ b e he hr hb =>
  split at hk
  · rename_i cells ho
    split at hk
    · rename_i ds hds
      obtain ⟨g1, b', cs, ty, g2, g3, g4⟩ := hI.ok o _ e ho he
      rw [hb] at g2; cases g2
      have hcells := allD_some hds
      subst hcells
      have hrep : ∀ (i : Nat) x, ds[i]? = some x → ∃ v, cs[i]? = some v ∧ RepD w C.rg v x := fun i x hx => by
        have hlt : i < cs.toList.length := by rw [g4.1]; simp; exact (List.getElem?_eq_some_iff.1 hx).1
        have := g4.2 i _ (.d x) (List.getElem?_eq_getElem hlt) (by rw [List.getElem?_map, hx]; rfl)
        exact ⟨_, by rw [← Array.getElem?_toList]; exact List.getElem?_eq_getElem hlt, repA_d this⟩
      obtain ⟨k1, k2, k3⟩ := hI.frz (o' := .frz ρ ds) ho he rfl ρ rfl (fun hc => ⟨hr, b, cs, ty, (0, 0), hb, by simp [Cz.frz, hb], g3, fun i x hx => by
        obtain ⟨v, h1, h2⟩ := hrep i x hx
        exact ⟨v, h1, h2.mono hc.rg⟩⟩)
      refine ⟨_, _, _, hk, k1, k2, k3, .rp ρ b off _ cs ty (0, 0) (fun i => (cs[off + i]?).getD undef) (by simp [Cz.frz, hb]) g3 (fun i hi => ?_) (fun i x hx => ?_)⟩
      · simp only [List.length_drop] at hi
        obtain ⟨v, h1, _⟩ := hrep (off + i) _ (List.getElem?_eq_getElem (show off + i < ds.length by omega))
        rw [h1]; rfl
      · rw [List.getElem?_drop] at hx
        obtain ⟨v, h1, h2⟩ := hrep (off + i) x hx
        rw [h1]; exact h2.mono k1.rg
    · exact hk.elim
  · rename_i r cells ho
    obtain ⟨g1, b', cs, ty, fz, g2, g3, g4, g5⟩ := hI.ok o _ e ho he
    rw [hb] at g2; cases g2
    refine ⟨C, _, _, hk, .refl w C, hI, .refl w C σ, .rp r b off _ cs ty fz (fun i => (cs[off + i]?).getD undef) g3 g4 (fun i hi => ?_) (fun i x hx => ?_)⟩
    · simp only [List.length_drop] at hi
      obtain ⟨v, h1, _⟩ := g5 (off + i) _ (List.getElem?_eq_getElem (show off + i < cells.length by omega))
      rw [h1]; rfl
    · rw [List.getElem?_drop] at hx
      obtain ⟨v, h1, h2⟩ := g5 (off + i) x hx
      rw [h1]; exact h2
  · exact hk.elim

theorem repD_nils {w : World} {rg : Nat → Option Nat} {v : Value} (h : RepD w rg v .nils) (r sz : Nat) : RepD w rg v (.sl r sz []) := by
  cases h; exact .sl0 none r sz 0

theorem allD_cells {w : World} {C : Cz} {vs : Array Value} {as : List AV} {ds : List DV} (h : RepL w C vs.toList as) (hd : allD as = some ds) (i : Nat) :
    (i < ds.length → vs[i]? = some ((vs[i]?).getD undef)) ∧ ∀ x, ds[i]? = some x → RepD w C.rg ((vs[i]?).getD undef) x := by
  have := allD_some hd
  subst this
  have hl := h.1
  simp at hl
  refine ⟨fun hi => by rw [Array.getElem?_eq_getElem (by omega)]; rfl, fun x hx => ?_⟩
  have hi := (List.getElem?_eq_some_iff.1 hx).1
  have hv : vs[i]? = some (vs[i]'(by omega)) := Array.getElem?_eq_getElem _
  have := h.2 i _ (.d x) (by rw [Array.getElem?_toList]; exact hv) (by rw [List.getElem?_map, hx]; rfl)
  rw [hv]
  exact repA_d this

theorem frz1_ok {w : World} {C : Cz} {σ : List AObj} (hI : Inv w C σ) (ρ : Nat) {a : AV} {n : Option Nat} {v : Value} (hv : RepA w C v a) {K : DV → List AObj → Prop} (hk : frz1 ρ σ a n K) :
    ∃ C' x σ', K x σ' ∧ CzLe w C w C' ∧ Inv w C' σ' ∧ Ext w C σ w C' σ' ∧ RepD w C'.rg v x := by
  unfold frz1 at hk
  split at hk
  · cases hv with
    | d _ _ hv =>
    split at hk
    · exact ⟨C, _, σ, hk, .refl w C, hI, .refl w C σ, repD_nils hv _ _⟩
    · exact ⟨C, _, σ, hk, .refl w C, hI, .refl w C σ, hv⟩
  · cases hv with
    | d _ _ hv => exact ⟨C, _, σ, hk, .refl w C, hI, .refl w C σ, hv⟩
  · cases hv with
    | emp A =>
    split at hk
    · exact ⟨C, _, σ, hk, .refl w C, hI, .refl w C σ, .sl0 A _ _ 0⟩
    · exact ⟨C, _, σ, hk, .refl w C, hI, .refl w C σ, .sl0 A _ _ 0⟩
  · cases hv with
    | full A n r sz rows hn h => exact ⟨C, _, σ, hk, .refl w C, hI, .refl w C σ, h⟩
  · split at hk
    · rename_i ho
      obtain ⟨rfl, hk⟩ := hk
      obtain ⟨C', h1, h2, h3, h4⟩ := frz_row hI ρ ho hv
      exact ⟨C', _, _, hk, h1, h2, h3, h4⟩
    · exact hk.elim
  · exact frzPtr_ok hI ρ hv hk
  · cases hv with
    | ifc t v x h =>
    cases h with
    | d _ _ h => exact ⟨C, _, σ, hk, .refl w C, hI, .refl w C σ, .ifc _ v _ h⟩
  · cases hv with
    | ifc t v x h =>
    obtain ⟨C', x, σ', h1, h2, h3, h4, h5⟩ := frzPtr_ok hI ρ h hk
    exact ⟨C', _, σ', h1, h2, h3, h4, .ifc _ v _ h5⟩
  · split at hk
    · rename_i ds hds
      cases hv with
      | ifa t arr cells vs hs hcell hrep =>
      have hr : RepL w C arr.toList _ := ⟨by simpa using hs, fun i u a h1 h2 => by
        have hi := (List.getElem?_eq_some_iff.1 h2).1
        have := hcell i hi
        rw [Array.getElem?_toList, this] at h1
        cases h1
        exact hrep i a h2⟩
      have hds' := allD_some hds
      refine ⟨C, _, σ, hk, .refl w C, hI, .refl w C σ, .ifa _ arr ds (fun i => (arr[i]?).getD undef) (by rw [hs, hds']; simp) (fun i hi => (allD_cells hr hds i).1 hi) (fun i x hx => (allD_cells hr hds i).2 x hx)⟩
    · exact hk.elim
  · exact hk.elim

theorem frzL_ok {w : World} (ρ : Nat) : ∀ {as : List AV} {ns : List (Option Nat)} {C : Cz} {σ : List AObj} (hI : Inv w C σ) {vs : List Value} (hv : RepL w C vs as) {K : List DV → List AObj → Prop} (hk : frzL ρ σ as ns K),
    ∃ C' xs σ', K xs σ' ∧ CzLe w C w C' ∧ Inv w C' σ' ∧ Ext w C σ w C' σ' ∧ vs.length = xs.length ∧ ∀ (i : Nat) v x, vs[i]? = some v → xs[i]? = some x → RepD w C'.rg v x
  | [], ns, C, σ, hI, vs, hv, K, hk => ⟨C, [], σ, hk, .refl w C, hI, .refl w C σ, hv.1, fun i v x _ h => by simp at h⟩
  | a :: as, ns, C, σ, hI, [], hv, K, hk => by have := hv.1; simp at this
  | a :: as, ns, C, σ, hI, v :: vs, hv, K, hk => by
    have hv0 : RepA w C v a := hv.2 0 v a rfl rfl
    obtain ⟨C1, x, σ1, hk1, l1, I1, E1, r1⟩ := frz1_ok hI ρ hv0 hk
    have hv1 : RepL w C1 vs as := ⟨by have := hv.1; simpa using this, fun i u b h1 h2 => (hv.2 (i + 1) u b (by simpa using h1) (by simpa using h2)).mono l1⟩
    obtain ⟨C2, xs, σ2, hk2, l2, I2, E2, hl, r2⟩ := frzL_ok ρ I1 hv1 hk1
    refine ⟨C2, x :: xs, σ2, hk2, l1.trans l2, I2, E1.trans E2, by simp [hl], fun i u y h1 h2 => ?_⟩
    cases i with
    | zero => simp at h1 h2; subst h1; subst h2; exact r1.mono l2.rg
    | succ i => simp at h1 h2; exact r2 i u y h1 h2

end Go.Proofs.Ytdhkopangbgehaa.E
