/- From a row's reading of an argument to a tree. No conditions. -/
import Derived.Test.YthmbncehoblgpaaGreatDoorTy
import Derived.Deep.Slices
import Derived.WideKeyArgs
import Derived.ChangeArms
import Derived.ChangeOld
import Derived.Below
set_option linter.unusedVariables false
set_option linter.unusedSimpArgs false
namespace Go.Proofs.YthmbncehoblgpaaGreatDoor.E
open Go Go.RowKit

/-- All that was there is one region. -/
def rgAll (w : World) : Nat → Option Nat := fun b => if b < w.heap.size then some 0 else none
def czAll (w : World) : Cz := ⟨[], rgAll w⟩
theorem inv_all (w : World) (hg : GlobOk w (czAll w) := by intro a v h; simp [globs] at h) : Inv w (czAll w) [] :=
  ⟨rfl, fun i o e h => by simp at h, fun i o e b h => by simp at h, fun i j o p e f b h => by simp at h, fun b r h => (by
    simp only [czAll, rgAll] at h
    split at h
    · assumption
    · cases h), hg⟩

theorem cell_parts {w : World} {a : Addr} {v : Value} (h : w.cell? a = some v) : a.spot = none ∧ ∃ cs e fz, w.heap[a.block]? = some (.cells cs e fz) ∧ cs[a.off]? = some v := by
  have hs := World.cell?_spot h
  refine ⟨hs, ?_⟩
  unfold World.cell? at h
  split at h
  · rename_i cs e fz hh
    exact ⟨cs, e, fz, hh, by simpa [hs] using h⟩
  · cases h

noncomputable def fld (t i : Nat) : Field := match Tryz.prog.underlying t with
  | some (.struct fs) => fs.getD i default
  | _ => default
theorem u30 : Tryz.prog.underlying 32 = some (.struct #[fld 32 0, fld 32 1]) := by kernel_rfl
theorem f30_0 : (fld 32 0).type = 29 ∧ (fld 32 0).offset = 0 := ⟨by kernel_rfl, by kernel_rfl⟩
theorem f30_1 : (fld 32 1).type = 30 ∧ (fld 32 1).offset = 1 := ⟨by kernel_rfl, by kernel_rfl⟩
theorem u28 : Tryz.prog.underlying 30 = some (.slice 32) := by kernel_rfl
theorem u27 : Tryz.prog.underlying 29 = some (.int .i8) := by kernel_rfl
theorem c30 : Tryz.prog.cellsOf 32 = 2 := by kernel_rfl
theorem c28 : Tryz.prog.cellsOf 30 = 1 := by kernel_rfl
theorem c27 : Tryz.prog.cellsOf 29 = 1 := by kernel_rfl

/-- The cells of a value stand for the data. -/
def Stand (w : World) (cs : List Value) (xs : List DV) : Prop := cs.length = xs.length ∧ ∀ (i : Nat) v x, cs[i]? = some v → xs[i]? = some x → RepD w (rgAll w) v x

section
variable {H : Type} {enc : TypeId × Value → H} {w : World} {base : Nat} {spare : Nat → Bool} {held : Bool}

theorem list_of {α : Type} {Q : Nat → α → Prop} : ∀ n, (∀ i, i < n → ∃ x, Q i x) → ∃ xs : List α, xs.length = n ∧ ∀ (i : Nat) x, xs[i]? = some x → Q i x
  | 0, _ => ⟨[], rfl, fun i x h => by simp at h⟩
  | n + 1, h => by
    obtain ⟨xs, h1, h2⟩ := list_of n (fun i hi => h i (by omega))
    obtain ⟨x, hx⟩ := h n (by omega)
    refine ⟨xs ++ [x], by simp [h1], fun i y hy => ?_⟩
    by_cases hi : i < n
    · rw [List.getElem?_append_left (by omega)] at hy
      exact h2 i y hy
    · rw [List.getElem?_append_right (by omega)] at hy
      cases he : i - xs.length with
      | zero =>
        rw [he] at hy
        simp at hy
        subst hy
        obtain rfl : i = n := by omega
        exact hx
      | succ k => rw [he] at hy; simp at hy

theorem add_none (b o k : Nat) : (⟨b, o, none⟩ : Addr).add k = ⟨b, o + k, none⟩ := by
  unfold Addr.add
  split
  · rename_i h; subst h; rfl
  · rfl

/-- A slice, from its elements. -/
theorem stand_slice {α : Type} (sz : Nat) (hsz : 0 < sz) (f : α → List DV) (hf : ∀ x, (f x).length = sz) {a : Addr} {len cap : Nat} (hlc : len ≤ cap) (h : ∀ i, i < len → ∃ x cs, w.cells? base (a.add (i * sz)) sz = some cs ∧ Stand w cs (f x)) :
    ∃ xs : List α, xs.length = len ∧ RepD w (rgAll w) (.slice (some a) len cap) (.sl 0 sz (xs.map f)) := by
  obtain ⟨xs, hx1, hx2⟩ := list_of len h
  refine ⟨xs, hx1, ?_⟩
  cases xs with
  | nil =>
    simp at hx1
    subst hx1
    exact .sl0 (some a) 0 sz cap
  | cons x0 xr =>
    obtain ⟨cs0, g1, g2⟩ := hx2 0 x0 rfl
    obtain ⟨_, g3, g4⟩ := World.cells?_some g1
    have hc0 := g4 0 hsz
    rw [List.getElem?_eq_getElem (by omega)] at hc0
    obtain ⟨k1, cs, e, fz, k2, k3⟩ := cell_parts hc0
    obtain ⟨b, o, spot⟩ := a
    have hspot : spot = none := by simpa [Addr.add] using k1
    subst hspot
    simp only [Nat.zero_mul, add_none, Nat.add_zero] at k2
    have hlt : b < w.heap.size := by
      rcases Nat.lt_or_ge b w.heap.size with h | h
      · exact h
      · rw [Array.getElem?_eq_none h] at k2; cases k2
    have hcell : ∀ (j i : Nat) x, (x0 :: xr)[j]? = some x → i < sz → ∃ v, cs[o + j * sz + i]? = some v ∧ ∀ y, (f x)[i]? = some y → RepD w (rgAll w) v y := fun j i x hj hi => by
      obtain ⟨cs', q1, q2, q3⟩ := hx2 j x hj
      obtain ⟨_, q4, q5⟩ := World.cells?_some q1
      have q6 := q5 i hi
      rw [List.getElem?_eq_getElem (by omega)] at q6
      obtain ⟨_, cs2, e2, fz2, r2, r3⟩ := cell_parts q6
      simp only [add_none] at r2 r3
      rw [k2] at r2
      cases r2
      exact ⟨_, r3, fun y hy => q3 i _ y (List.getElem?_eq_getElem (by omega)) hy⟩
    refine .sl 0 sz b o len cap _ cs e fz (fun j i => (cs[o + j * sz + i]?).getD undef) ⟨⟨0, by simp [rgAll, hlt], rfl, .inl rfl⟩, fun h => by rcases h with h | h <;> cases h⟩ k2 (by simpa using hx1.symm) hlc (fun row hr => ?_) (fun j i hj hi => ?_) (fun j i row y hj hi => ?_)
    · obtain ⟨x, _, rfl⟩ := List.mem_map.1 hr
      exact hf x
    · obtain ⟨v, hv, _⟩ := hcell j i _ (List.getElem?_eq_getElem (by omega)) hi
      rw [hv]; rfl
    · rw [List.getElem?_map] at hj
      cases hjx : (x0 :: xr)[j]? with
      | none => rw [hjx] at hj; cases hj
      | some x =>
        rw [hjx] at hj
        cases hj
        have hil : i < sz := by
          have := (List.getElem?_eq_some_iff.1 hi).1
          rw [hf] at this; exact this
        obtain ⟨v, hv, hr⟩ := hcell j i x hjx hil
        show RepD w (rgAll w) ((cs[o + j * sz + i]?).getD undef) y
        rw [hv]
        exact hr y hi

theorem rows_map : ∀ ks : List Ty, Ty.rows ks = ks.map Ty.cells
  | [] => rfl
  | t :: l => by simp [Ty.rows, rows_map l]
theorem cells_len (t : Ty) : t.cells.length = 2 := by cases t; rfl

set_option maxRecDepth 100000 in
theorem open_ty : ∀ (fuel : Nat) (cs : List Value) x, DataW.trod enc Tryz.prog w base spare held fuel 32 cs = some x → ∃ t : Ty, Stand w cs t.cells
  | 0, cs, x, h => by simp [DataW.trod] at h
  | fuel + 1, cs, x, h => by
    obtain ⟨xs, n, hn, _, hl, hxl, hf⟩ := DataW.trod_struct u30 h
    obtain rfl : fuel = n := by omega
    rw [c30] at hl
    obtain ⟨a, b, rfl⟩ : ∃ a b, cs = [a, b] := by
      match cs, hl with
      | [a, b], _ => exact ⟨a, b, rfl⟩
    have h0 := hf 0 (fld 32 0) rfl
    have h1 := hf 1 (fld 32 1) rfl
    rw [f30_0.1, f30_0.2, c27] at h0
    rw [f30_1.1, f30_1.2, c28] at h1
    have hx0 : 0 < xs.length := by rw [hxl]; exact Nat.zero_lt_succ _
    have hx1 : 1 < xs.length := by rw [hxl]; exact Nat.lt_succ_self _
    rw [List.getElem?_eq_getElem hx0] at h0
    rw [List.getElem?_eq_getElem hx1] at h1
    simp only [List.drop_zero, List.take_succ_cons, List.take_zero, List.drop_succ_cons] at h0 h1
    obtain ⟨k, hk, _, _⟩ := DataW.trod_int u27 h0
    cases hk
    have two : ∀ ks : List Ty, RepD w (rgAll w) b (.sl 0 2 (Ty.rows ks)) → ∃ t : Ty, Stand w [.int .i8 k, b] t.cells := fun ks hr =>
      ⟨.node k ks, rfl, fun i v y hv hy => by
        match i with
        | 0 => simp [Ty.cells] at hv hy; subst hv; subst hy; exact .int _ _
        | 1 => simp [Ty.cells] at hv hy; subst hv; subst hy; exact hr
        | i + 2 => simp at hv⟩
    rcases DataW.trod_slice u28 h1 with ⟨hb, _⟩ | ⟨a, len, cap, elems, rest, n, hn, hb, _, _, hlc, _, hel, hall, _⟩
    · cases hb
      exact two [] (.sl0 none 0 2 0)
    · cases hb
      rw [c30] at hall
      obtain ⟨ks, hks, hr⟩ := stand_slice (w := w) (base := base) 2 (by decide) Ty.cells cells_len (a := a) hlc (fun i hi => by
        have := hall i hi
        rw [List.getElem?_eq_getElem (by omega)] at this
        obtain ⟨cs', h2, h3⟩ := Option.bind_eq_some_iff.1 this
        obtain ⟨t, ht⟩ := open_ty n cs' _ h3
        exact ⟨t, cs', h2, ht⟩)
      exact two ks (by rw [rows_map]; exact hr)
  termination_by fuel => fuel
  decreasing_by all_goals omega
end

/-- What was there is as it was. -/
theorem below_same {w w' : World} (h : Below w.heap.size w w') {p : MemPlace} (hp : p.block < w.heap.size) : w.sameAt w' p := by
  cases p with
  | cell b off =>
    show w'.cell? _ = w.cell? _
    unfold World.cell?
    rw [h.block b hp]
  | map b => exact h.block b hp
end Go.Proofs.YthmbncehoblgpaaGreatDoor.E
