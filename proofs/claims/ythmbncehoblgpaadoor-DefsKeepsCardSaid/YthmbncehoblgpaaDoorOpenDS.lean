/- From a row's reading of definitions to a list, with the reach of each slice. No conditions. -/
import Derived.Test.YthmbncehoblgpaaDoorGenX10
import Derived.Test.YthmbncehoblgpaaDoorGenX9
set_option linter.unusedVariables false
set_option linter.unusedSimpArgs false
namespace Go.Proofs.YthmbncehoblgpaaDoor.E
open Go Go.RowKit

section
variable {H : Type} {enc : TypeId × Value → H} {w : World} {base : Nat} {spare : Nat → Bool} {held : Bool}
set_option maxRecDepth 100000 in
theorem open_dfS (fuel : Nat) (cs : List Value) (x : DataW H × List MemPlace) (h : DataW.trod enc Tryd.prog w base spare held fuel 39 cs = some x) (hz : (x.1.weights Tryd.prog 39).all (· ≤ reachBytes) = true) : ∃ d : Df, Stand w cs d.cells ∧ DfOk d := by
  cases fuel with
  | zero => simp [DataW.trod] at h
  | succ fuel =>
  obtain ⟨xs, n, hn, hxx, hl, hxl, hf⟩ := DataW.trod_struct uD h
  subst hxx
  simp only [DataW.weights, uD] at hz
  obtain rfl : fuel = n := by omega
  rw [cD] at hl
  obtain ⟨v0, v1, v2, v3, v4, v5, v6, v7, v8, v9, v10, v11, v12, v13, v14, rfl⟩ := cells15 hl
  have h0 := hf 0 (fld 39 0) rfl
  have h1 := hf 1 (fld 39 1) rfl
  have h2 := hf 2 (fld 39 2) rfl
  have h3 := hf 3 (fld 39 3) rfl
  rw [fD_0.1, fD_0.2, c9] at h0
  rw [fD_1.1, fD_1.2, c30] at h1
  rw [fD_2.1, fD_2.2, c39] at h2
  rw [fD_3.1, fD_3.2, c3] at h3
  have hx : ∀ i, i < 4 → i < xs.length := fun i hi => by rw [hxl]; exact hi
  rw [List.getElem?_eq_getElem (hx 0 (by omega))] at h0
  rw [List.getElem?_eq_getElem (hx 1 (by omega))] at h1
  rw [List.getElem?_eq_getElem (hx 2 (by omega))] at h2
  rw [List.getElem?_eq_getElem (hx 3 (by omega))] at h3
  have hz1 := weights_part hz (j := 1) (t := 26) (by rw [← fD_1.1]; rfl) (d := (xs[1]'(hx 1 (by omega))).1) (by rw [List.getElem?_map, List.getElem?_eq_getElem (hx 1 (by omega))]; rfl)
  have hz2 := weights_part hz (j := 2) (t := 29) (by rw [← fD_2.1]; rfl) (d := (xs[2]'(hx 2 (by omega))).1) (by rw [List.getElem?_map, List.getElem?_eq_getElem (hx 2 (by omega))]; rfl)
  simp only [List.drop_zero, List.take_succ_cons, List.take_zero, List.drop_succ_cons] at h0 h1 h2 h3
  obtain ⟨s, hs, _, _⟩ := DataW.trod_string u9 h0
  cases hs
  obtain ⟨⟨a, bs⟩, ⟨_, s1⟩, o1⟩ := open_tyS _ _ _ h1 hz1
  obtain ⟨⟨k, name, arg, num, tk, tks, uk, uks, label, place, ks⟩, ⟨_, s2⟩, o2⟩ := open_tmS _ _ _ h2 hz2
  obtain ⟨p, hp, _, _⟩ := DataW.trod_int u3 h3
  cases hp
  refine ⟨⟨s, .node a bs, .node k name arg num tk tks uk uks label place ks, p⟩, ⟨rfl, fun i v y hv hy => ?_⟩, o1, o2⟩
  match i with
  | 0 => simp [Df.cells] at hv hy; subst hv; subst hy; exact .str _
  | 1 => simp [Df.cells] at hv hy; subst hv; subst hy; exact s1 0 _ _ rfl rfl
  | 2 => simp [Df.cells] at hv hy; subst hv; subst hy; exact s1 1 _ _ rfl rfl
  | 3 => simp [Df.cells] at hv hy; subst hv; subst hy; exact s2 0 _ _ rfl rfl
  | 4 => simp [Df.cells] at hv hy; subst hv; subst hy; exact s2 1 _ _ rfl rfl
  | 5 => simp [Df.cells] at hv hy; subst hv; subst hy; exact s2 2 _ _ rfl rfl
  | 6 => simp [Df.cells] at hv hy; subst hv; subst hy; exact s2 3 _ _ rfl rfl
  | 7 => simp [Df.cells] at hv hy; subst hv; subst hy; exact s2 4 _ _ rfl rfl
  | 8 => simp [Df.cells] at hv hy; subst hv; subst hy; exact s2 5 _ _ rfl rfl
  | 9 => simp [Df.cells] at hv hy; subst hv; subst hy; exact s2 6 _ _ rfl rfl
  | 10 => simp [Df.cells] at hv hy; subst hv; subst hy; exact s2 7 _ _ rfl rfl
  | 11 => simp [Df.cells] at hv hy; subst hv; subst hy; exact s2 8 _ _ rfl rfl
  | 12 => simp [Df.cells] at hv hy; subst hv; subst hy; exact s2 9 _ _ rfl rfl
  | 13 => simp [Df.cells] at hv hy; subst hv; subst hy; exact s2 10 _ _ rfl rfl
  | 14 => simp [Df.cells] at hv hy; subst hv; subst hy; exact .int _ _
  | i + 15 => simp at hv
theorem open_dfsS (fuel : Nat) (v : Value) (x : DataW H × List MemPlace) (h : DataW.trod enc Tryd.prog w base spare held fuel 22 [v] = some x) (hz : (x.1.weights Tryd.prog 22).all (· ≤ reachBytes) = true) :
    ∃ l : List Df, RepD w (rgAll w) v (.sl 0 15 (drows l)) ∧ ∀ d ∈ l, DfOk d := by
  rcases DataW.trod_slice uDs h with ⟨hb, _⟩ | ⟨a, len, cap, elems, rest, n, hn, hb, hxs, _, hlc, _, hel, hall, _⟩
  · cases hb
    exact ⟨[], .sl0 none 0 15 0, by simp⟩
  · cases hb
    rw [cD] at hall
    rw [hxs] at hz
    obtain ⟨g1, g2⟩ := weights_elem uDs hz
    obtain ⟨l, hks, hq, hr⟩ := stand_sliceQ (w := w) (base := base) DfOk 15 (by decide) Df.cells dcells_len (a := a) hlc (fun i hi => by
      have := hall i hi
      rw [List.getElem?_eq_getElem (by omega)] at this
      obtain ⟨cs', h2, h3⟩ := Option.bind_eq_some_iff.1 this
      obtain ⟨d, hd, ho⟩ := open_dfS n cs' _ h3 (g2 (j := i) (by rw [List.getElem?_map, List.getElem?_eq_getElem (by omega)]; rfl))
      exact ⟨d, cs', h2, hd, ho⟩)
    exact ⟨l, hr, hq⟩
end
end Go.Proofs.YthmbncehoblgpaaDoor.E
