/- From a row's reading to a term whose numbers are in range. No conditions. (Printed by mk45.py out of OpenS.) -/
import Derived.Test.YthmbncehoblgpaaDoorGenX11
import Derived.Test.YthmbncehoblgpaaDoorGenX8
set_option linter.unusedVariables false
set_option linter.unusedSimpArgs false
namespace Go.Proofs.YthmbncehoblgpaaDoor.E
open Go Go.RowKit

theorem tmInRs_of : ∀ {ks : List Tm}, (∀ t ∈ ks, tmInR t) → tmInRs ks
  | [], _ => trivial
  | t :: l, h => ⟨h t (by simp), tmInRs_of fun x hx => h x (by simp [hx])⟩
section
variable {H : Type} {enc : TypeId × Value → H} {w : World} {base : Nat} {spare : Nat → Bool} {held : Bool}
theorem stand_sliceR {α : Type} (Q : α → Prop) (sz : Nat) (hsz : 0 < sz) (f : α → List DV) (hf : ∀ x, (f x).length = sz) {a : Addr} {len cap : Nat} (hlc : len ≤ cap) (h : ∀ i, i < len → ∃ x cs, w.cells? base (a.add (i * sz)) sz = some cs ∧ Stand w cs (f x) ∧ Q x) :
    ∃ xs : List α, xs.length = len ∧ (∀ x ∈ xs, Q x) ∧ RepD w (rgAll w) (.slice (some a) len cap) (.sl 0 sz (xs.map f)) := by
  obtain ⟨xs, h1, h2⟩ := stand_slice (α := {x : α // Q x}) (w := w) (base := base) sz hsz (fun x => f x.1) (fun x => hf x.1) hlc (fun i hi => by
    obtain ⟨x, cs, g1, g2, g3⟩ := h i hi
    exact ⟨⟨x, g3⟩, cs, g1, g2⟩)
  refine ⟨xs.map (·.1), by simpa using h1, fun x hx => ?_, by simpa [List.map_map] using h2⟩
  obtain ⟨y, _, rfl⟩ := List.mem_map.1 hx
  exact y.2
set_option maxRecDepth 100000 in
theorem open_tmR : ∀ (fuel : Nat) (cs : List Value) x, DataW.trod enc Tryd.prog w base spare held fuel 29 cs = some x → ∃ t : Tm, Stand w cs t.cells ∧ tmInR t
  | 0, cs, x, h => by simp [DataW.trod] at h
  | fuel + 1, cs, x, h => by
    obtain ⟨xs, n, hn, hxx, hl, hxl, hf⟩ := DataW.trod_struct u39 h
    subst hxx
    obtain rfl : fuel = n := by omega
    rw [c39] at hl
    obtain ⟨v0, v1, v2, v3, v4, v5, v6, v7, v8, v9, v10, rfl⟩ : ∃ v0 v1 v2 v3 v4 v5 v6 v7 v8 v9 v10, cs = [v0, v1, v2, v3, v4, v5, v6, v7, v8, v9, v10] := by
      match cs, hl with
      | [v0, v1, v2, v3, v4, v5, v6, v7, v8, v9, v10], _ => exact ⟨_, _, _, _, _, _, _, _, _, _, _, rfl⟩
    have h0 := hf 0 (fld 29 0) rfl
    have h1 := hf 1 (fld 29 1) rfl
    have h2 := hf 2 (fld 29 2) rfl
    have h3 := hf 3 (fld 29 3) rfl
    have h4 := hf 4 (fld 29 4) rfl
    have h5 := hf 5 (fld 29 5) rfl
    have h6 := hf 6 (fld 29 6) rfl
    have h7 := hf 7 (fld 29 7) rfl
    have h8 := hf 8 (fld 29 8) rfl
    rw [f39_0.1, f39_0.2, c27] at h0
    rw [f39_1.1, f39_1.2, c9] at h1
    rw [f39_2.1, f39_2.2, c9] at h2
    rw [f39_3.1, f39_3.2, c2] at h3
    rw [f39_4.1, f39_4.2, c30] at h4
    rw [f39_5.1, f39_5.2, c30] at h5
    rw [f39_6.1, f39_6.2, c3] at h6
    rw [f39_7.1, f39_7.2, c3] at h7
    rw [f39_8.1, f39_8.2, c37] at h8
    have hx : ∀ i, i < 9 → i < xs.length := fun i hi => by rw [hxl]; exact hi
    rw [List.getElem?_eq_getElem (hx 0 (by omega))] at h0
    rw [List.getElem?_eq_getElem (hx 1 (by omega))] at h1
    rw [List.getElem?_eq_getElem (hx 2 (by omega))] at h2
    rw [List.getElem?_eq_getElem (hx 3 (by omega))] at h3
    rw [List.getElem?_eq_getElem (hx 4 (by omega))] at h4
    rw [List.getElem?_eq_getElem (hx 5 (by omega))] at h5
    rw [List.getElem?_eq_getElem (hx 6 (by omega))] at h6
    rw [List.getElem?_eq_getElem (hx 7 (by omega))] at h7
    rw [List.getElem?_eq_getElem (hx 8 (by omega))] at h8
    simp only [List.drop_zero, List.take_succ_cons, List.take_zero, List.drop_succ_cons] at h0 h1 h2 h3 h4 h5 h6 h7 h8
    obtain ⟨k, hk, _, _⟩ := DataW.trod_int u27 h0
    cases hk
    obtain ⟨name, hk, _, _⟩ := DataW.trod_string u9 h1
    cases hk
    obtain ⟨arg, hk, _, _⟩ := DataW.trod_string u9 h2
    cases hk
    obtain ⟨num, hk, _, hnum⟩ := DataW.trod_int u2 h3
    cases hk
    obtain ⟨⟨tk, tks⟩, _, s4⟩ := open_ty _ _ _ h4
    obtain ⟨⟨uk, uks⟩, _, s5⟩ := open_ty _ _ _ h5
    obtain ⟨label, hk, _, _⟩ := DataW.trod_int u3 h6
    cases hk
    obtain ⟨place, hk, _, _⟩ := DataW.trod_int u3 h7
    cases hk
    have q0 := s4 0 _ _ rfl rfl
    have q1 := s4 1 _ _ rfl rfl
    have q2 := s5 0 _ _ rfl rfl
    have q3 := s5 1 _ _ rfl rfl
    have two : ∀ ks : List Tm, RepD w (rgAll w) v10 (.sl 0 11 (Tm.rows ks)) → (∀ t ∈ ks, tmInR t) → ∃ t : Tm, Stand w [.int .i8 k, .string name, .string arg, .int .i64 num, v4, v5, v6, v7, .int .i64 label, .int .i64 place, v10] t.cells ∧ tmInR t := fun ks hr hk2 =>
      ⟨.node k name arg num tk tks uk uks label place ks, ⟨rfl, fun i v y hv hy => by
        match i with
        | 0 => simp [Tm.cells] at hv hy; subst hv; subst hy; exact .int _ _
        | 1 => simp [Tm.cells] at hv hy; subst hv; subst hy; exact .str _
        | 2 => simp [Tm.cells] at hv hy; subst hv; subst hy; exact .str _
        | 3 => simp [Tm.cells] at hv hy; subst hv; subst hy; exact .int _ _
        | 4 => simp [Tm.cells] at hv hy; subst hv; subst hy; exact q0
        | 5 => simp [Tm.cells] at hv hy; subst hv; subst hy; exact q1
        | 6 => simp [Tm.cells] at hv hy; subst hv; subst hy; exact q2
        | 7 => simp [Tm.cells] at hv hy; subst hv; subst hy; exact q3
        | 8 => simp [Tm.cells] at hv hy; subst hv; subst hy; exact .int _ _
        | 9 => simp [Tm.cells] at hv hy; subst hv; subst hy; exact .int _ _
        | 10 => simp [Tm.cells] at hv hy; subst hv; subst hy; exact hr
        | i + 11 => simp at hv⟩, ⟨bounds_i64 hnum, tmInRs_of hk2⟩⟩
    rcases DataW.trod_slice u37 h8 with ⟨hb, _⟩ | ⟨a, len, cap, elems, rest, n, hn, hb, hxs, _, hlc, _, hel, hall, _⟩
    · cases hb
      exact two [] (.sl0 none 0 11 0) (by simp)
    · cases hb
      rw [c39] at hall
      obtain ⟨ks, hks, hq, hr⟩ := stand_sliceR (w := w) (base := base) tmInR 11 (by decide) Tm.cells tcells_len (a := a) hlc (fun i hi => by
        have := hall i hi
        rw [List.getElem?_eq_getElem (by omega)] at this
        obtain ⟨cs', h2, h3⟩ := Option.bind_eq_some_iff.1 this
        obtain ⟨t, ht, ho⟩ := open_tmR n cs' _ h3
        exact ⟨t, cs', h2, ht, ho⟩)
      exact two ks (by rw [trows_map]; exact hr) hq
  termination_by fuel => fuel
  decreasing_by all_goals omega
end
end Go.Proofs.YthmbncehoblgpaaDoor.E
