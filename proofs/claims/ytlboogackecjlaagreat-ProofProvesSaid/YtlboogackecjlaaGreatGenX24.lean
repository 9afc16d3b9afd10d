/- Texts, merged: OpenS, OpenP. No conditions. -/
import Derived.Test.YtlboogackecjlaaGreatGenX23
import Derived.Test.YtlboogackecjlaaGreatGenX7
import Derived.Test.YtlboogackecjlaaGreatGenX10
/- From a row's reading to trees, with the reach of each slice. No conditions. -/
set_option linter.unusedVariables false
set_option linter.unusedSimpArgs false
namespace Go.Proofs.YtlboogackecjlaaGreat.E
open Go Go.RowKit

section
variable {H : Type} {enc : TypeId × Value → H} {w : World} {base : Nat} {spare : Nat → Bool} {held : Bool}
theorem stand_sliceQ {α : Type} (Q : α → Prop) (sz : Nat) (hsz : 0 < sz) (f : α → List DV) (hf : ∀ x, (f x).length = sz) {a : Addr} {len cap : Nat} (hlc : len ≤ cap) (h : ∀ i, i < len → ∃ x cs, w.cells? base (a.add (i * sz)) sz = some cs ∧ Stand w cs (f x) ∧ Q x) :
    ∃ xs : List α, xs.length = len ∧ (∀ x ∈ xs, Q x) ∧ RepD w (rgAll w) (.slice (some a) len cap) (.sl 0 sz (xs.map f)) := by
  obtain ⟨xs, h1, h2⟩ := stand_slice (α := {x : α // Q x}) (w := w) (base := base) sz hsz (fun x => f x.1) (fun x => hf x.1) hlc (fun i hi => by
    obtain ⟨x, cs, g1, g2, g3⟩ := h i hi
    exact ⟨⟨x, g3⟩, cs, g1, g2⟩)
  refine ⟨xs.map (·.1), by simpa using h1, fun x hx => ?_, by simpa [List.map_map] using h2⟩
  obtain ⟨y, _, rfl⟩ := List.mem_map.1 hx
  exact y.2
theorem weights_part {P : Program} {ts : List TypeId} {ds : List (DataW H)} (h : (DataW.weightsEach P ts ds).all (· ≤ reachBytes) = true) {j : Nat} {t : TypeId} {d : DataW H} (ht : ts[j]? = some t) (hd : ds[j]? = some d) : (d.weights P t).all (· ≤ reachBytes) = true :=
  List.all_eq_true.2 fun n hn => List.all_eq_true.1 h n (DataW.weights_mem_each ht hd n hn)
theorem weights_all {P : Program} {e : TypeId} : ∀ {ds : List (DataW H)} {j : Nat} {d : DataW H}, ds[j]? = some d → ∀ n ∈ d.weights P e, n ∈ DataW.weightsAll P e ds
  | d0 :: ds, 0, d, hd, n, hn => by
    simp only [List.getElem?_cons_zero, Option.some.injEq] at hd
    subst hd
    simp only [DataW.weightsAll, List.mem_append]
    exact .inl hn
  | d0 :: ds, j + 1, d, hd, n, hn => by
    simp only [List.getElem?_cons_succ] at hd
    simp only [DataW.weightsAll, List.mem_append]
    exact .inr (weights_all hd n hn)
  | [], _, _, hd, _, _ => by simp at hd
theorem weights_elem {P : Program} {t e : TypeId} {elems rest : List (DataW H)} (hu : P.underlying t = some (.slice e)) (h : ((DataW.slice elems rest).weights P t).all (· ≤ reachBytes) = true) :
    elems.length * P.bytesOf e ≤ reachBytes ∧ ∀ {j : Nat} {d : DataW H}, elems[j]? = some d → (d.weights P e).all (· ≤ reachBytes) = true := by
  simp only [DataW.weights, hu] at h
  rw [List.all_eq_true] at h
  refine ⟨?_, fun hd => List.all_eq_true.2 fun n hn => h n (List.mem_cons_of_mem _ (List.mem_append.2 (.inl (weights_all hd n hn))))⟩
  have h1 := h _ (List.mem_cons_self ..)
  have h1 : (elems.length + rest.length) * P.bytesOf e ≤ reachBytes := of_decide_eq_true h1
  exact Nat.le_trans (Nat.mul_le_mul_right _ (Nat.le_add_right _ _)) h1
theorem b30 : Tryz.prog.bytesOf 25 = 32 := by kernel_rfl
theorem b39 : Tryz.prog.bytesOf 31 = 152 := by kernel_rfl
theorem reach_le {n : Nat} (h : n ≤ reachBytes) : n ≤ 140737488355328 := by
  have : reachBytes < 2 ^ 47 := by decide
  omega
set_option maxRecDepth 100000 in
theorem open_tyS : ∀ (fuel : Nat) (cs : List Value) x, DataW.trod enc Tryz.prog w base spare held fuel 25 cs = some x → (x.1.weights Tryz.prog 25).all (· ≤ reachBytes) = true → ∃ t : Ty, Stand w cs t.cells ∧ TyOk t
  | 0, cs, x, h, hz => by simp [DataW.trod] at h
  | fuel + 1, cs, x, h, hz => by
    obtain ⟨xs, n, hn, hx, hl, hxl, hf⟩ := DataW.trod_struct u30 h
    subst hx
    simp only [DataW.weights, u30] at hz
    obtain rfl : fuel = n := by omega
    rw [c30] at hl
    obtain ⟨a, b, rfl⟩ : ∃ a b, cs = [a, b] := by
      match cs, hl with
      | [a, b], _ => exact ⟨a, b, rfl⟩
    have h0 := hf 0 (fld 25 0) rfl
    have h1 := hf 1 (fld 25 1) rfl
    rw [f30_0.1, f30_0.2, c27] at h0
    rw [f30_1.1, f30_1.2, c28] at h1
    have hx0 : 0 < xs.length := by rw [hxl]; exact Nat.zero_lt_succ _
    have hx1 : 1 < xs.length := by rw [hxl]; exact Nat.lt_succ_self _
    rw [List.getElem?_eq_getElem hx0] at h0
    rw [List.getElem?_eq_getElem hx1] at h1
    have hz1 := weights_part hz (j := 1) (t := 23) (by rw [← f30_1.1]; rfl) (d := xs[1].1) (by rw [List.getElem?_map, List.getElem?_eq_getElem hx1]; rfl)
    simp only [List.drop_zero, List.take_succ_cons, List.take_zero, List.drop_succ_cons] at h0 h1
    obtain ⟨k, hk, _, _⟩ := DataW.trod_int u27 h0
    cases hk
    have two : ∀ ks : List Ty, RepD w (rgAll w) b (.sl 0 2 (Ty.rows ks)) → TyOk (.node k ks) → ∃ t : Ty, Stand w [.int .i8 k, b] t.cells ∧ TyOk t := fun ks hr hok =>
      ⟨.node k ks, ⟨rfl, fun i v y hv hy => by
        match i with
        | 0 => simp [Ty.cells] at hv hy; subst hv; subst hy; exact .int _ _
        | 1 => simp [Ty.cells] at hv hy; subst hv; subst hy; exact hr
        | i + 2 => simp at hv⟩, hok⟩
    rcases DataW.trod_slice u28 h1 with ⟨hb, _⟩ | ⟨a, len, cap, elems, rest, n, hn, hb, hxs, _, hlc, _, hel, hall, _⟩
    · cases hb
      exact two [] (.sl0 none 0 2 0) (.node (by simp) (by simp))
    · cases hb
      rw [c30] at hall
      rw [hxs] at hz1
      obtain ⟨g1, g2⟩ := weights_elem u28 hz1
      rw [b30, List.length_map, hel] at g1
      obtain ⟨ks, hks, hq, hr⟩ := stand_sliceQ (w := w) (base := base) TyOk 2 (by decide) Ty.cells cells_len (a := a) hlc (fun i hi => by
        have := hall i hi
        rw [List.getElem?_eq_getElem (by omega)] at this
        obtain ⟨cs', h2, h3⟩ := Option.bind_eq_some_iff.1 this
        obtain ⟨t, ht, ho⟩ := open_tyS n cs' _ h3 (g2 (j := i) (by rw [List.getElem?_map, List.getElem?_eq_getElem (by omega)]; rfl))
        exact ⟨t, cs', h2, ht, ho⟩)
      exact two ks (by rw [rows_map]; exact hr) (.node (by rw [hks]; exact reach_le g1) hq)
  termination_by fuel => fuel
  decreasing_by all_goals omega
set_option maxRecDepth 100000 in
theorem open_tmS : ∀ (fuel : Nat) (cs : List Value) x, DataW.trod enc Tryz.prog w base spare held fuel 31 cs = some x → (x.1.weights Tryz.prog 31).all (· ≤ reachBytes) = true → ∃ t : Tm, Stand w cs t.cells ∧ TmOk t
  | 0, cs, x, h, hz => by simp [DataW.trod] at h
  | fuel + 1, cs, x, h, hz => by
    obtain ⟨xs, n, hn, hxx, hl, hxl, hf⟩ := DataW.trod_struct u39 h
    subst hxx
    simp only [DataW.weights, u39] at hz
    obtain rfl : fuel = n := by omega
    rw [c39] at hl
    obtain ⟨v0, v1, v2, v3, v4, v5, v6, v7, v8, v9, v10, rfl⟩ : ∃ v0 v1 v2 v3 v4 v5 v6 v7 v8 v9 v10, cs = [v0, v1, v2, v3, v4, v5, v6, v7, v8, v9, v10] := by
      match cs, hl with
      | [v0, v1, v2, v3, v4, v5, v6, v7, v8, v9, v10], _ => exact ⟨_, _, _, _, _, _, _, _, _, _, _, rfl⟩
    have h0 := hf 0 (fld 31 0) rfl
    have h1 := hf 1 (fld 31 1) rfl
    have h2 := hf 2 (fld 31 2) rfl
    have h3 := hf 3 (fld 31 3) rfl
    have h4 := hf 4 (fld 31 4) rfl
    have h5 := hf 5 (fld 31 5) rfl
    have h6 := hf 6 (fld 31 6) rfl
    have h7 := hf 7 (fld 31 7) rfl
    have h8 := hf 8 (fld 31 8) rfl
    rw [f39_0.1, f39_0.2, c27] at h0
    rw [f39_1.1, f39_1.2, c9] at h1
    rw [f39_2.1, f39_2.2, c9] at h2
    rw [f39_3.1, f39_3.2, c2] at h3
    rw [f39_4.1, f39_4.2, c30] at h4
    rw [f39_5.1, f39_5.2, c30] at h5
    rw [f39_6.1, f39_6.2, c3] at h6
    rw [f39_7.1, f39_7.2, c3] at h7
    rw [f39_8.1, f39_8.2, c37] at h8
    have hx : ∀ i, i < 9 → i < xs.length := fun i hi => by rw [hxl]; exact hi
    rw [List.getElem?_eq_getElem (hx 0 (by omega))] at h0
    rw [List.getElem?_eq_getElem (hx 1 (by omega))] at h1
    rw [List.getElem?_eq_getElem (hx 2 (by omega))] at h2
    rw [List.getElem?_eq_getElem (hx 3 (by omega))] at h3
    rw [List.getElem?_eq_getElem (hx 4 (by omega))] at h4
    rw [List.getElem?_eq_getElem (hx 5 (by omega))] at h5
    rw [List.getElem?_eq_getElem (hx 6 (by omega))] at h6
    rw [List.getElem?_eq_getElem (hx 7 (by omega))] at h7
    rw [List.getElem?_eq_getElem (hx 8 (by omega))] at h8
    have hz4 := weights_part hz (j := 4) (t := 25) (by rw [← f39_4.1]; rfl) (d := (xs[4]'(hx 4 (by omega))).1) (by rw [List.getElem?_map, List.getElem?_eq_getElem (hx 4 (by omega))]; rfl)
    have hz5 := weights_part hz (j := 5) (t := 25) (by rw [← f39_5.1]; rfl) (d := (xs[5]'(hx 5 (by omega))).1) (by rw [List.getElem?_map, List.getElem?_eq_getElem (hx 5 (by omega))]; rfl)
    have hz8 := weights_part hz (j := 8) (t := 29) (by rw [← f39_8.1]; rfl) (d := (xs[8]'(hx 8 (by omega))).1) (by rw [List.getElem?_map, List.getElem?_eq_getElem (hx 8 (by omega))]; rfl)
    simp only [List.drop_zero, List.take_succ_cons, List.take_zero, List.drop_succ_cons] at h0 h1 h2 h3 h4 h5 h6 h7 h8
    obtain ⟨k, hk, _, _⟩ := DataW.trod_int u27 h0
    cases hk
    obtain ⟨name, hk, _, _⟩ := DataW.trod_string u9 h1
    cases hk
    obtain ⟨arg, hk, _, _⟩ := DataW.trod_string u9 h2
    cases hk
    obtain ⟨num, hk, _, _⟩ := DataW.trod_int u2 h3
    cases hk
    obtain ⟨⟨tk, tks⟩, ⟨_, s4⟩, o4⟩ := open_tyS _ _ _ h4 hz4
    obtain ⟨⟨uk, uks⟩, ⟨_, s5⟩, o5⟩ := open_tyS _ _ _ h5 hz5
    obtain ⟨label, hk, _, _⟩ := DataW.trod_int u3 h6
    cases hk
    obtain ⟨place, hk, _, _⟩ := DataW.trod_int u3 h7
    cases hk
    have q0 := s4 0 _ _ rfl rfl
    have q1 := s4 1 _ _ rfl rfl
    have q2 := s5 0 _ _ rfl rfl
    have q3 := s5 1 _ _ rfl rfl
    have two : ∀ ks : List Tm, RepD w (rgAll w) v10 (.sl 0 11 (Tm.rows ks)) → ks.length * 152 ≤ 140737488355328 → (∀ t ∈ ks, TmOk t) → ∃ t : Tm, Stand w [.int .i8 k, .string name, .string arg, .int .i64 num, v4, v5, v6, v7, .int .i64 label, .int .i64 place, v10] t.cells ∧ TmOk t := fun ks hr hk1 hk2 =>
      ⟨.node k name arg num tk tks uk uks label place ks, ⟨rfl, fun i v y hv hy => by
        match i with
        | 0 => simp [Tm.cells] at hv hy; subst hv; subst hy; exact .int _ _
        | 1 => simp [Tm.cells] at hv hy; subst hv; subst hy; exact .str _
        | 2 => simp [Tm.cells] at hv hy; subst hv; subst hy; exact .str _
        | 3 => simp [Tm.cells] at hv hy; subst hv; subst hy; exact .int _ _
        | 4 => simp [Tm.cells] at hv hy; subst hv; subst hy; exact q0
        | 5 => simp [Tm.cells] at hv hy; subst hv; subst hy; exact q1
        | 6 => simp [Tm.cells] at hv hy; subst hv; subst hy; exact q2
        | 7 => simp [Tm.cells] at hv hy; subst hv; subst hy; exact q3
        | 8 => simp [Tm.cells] at hv hy; subst hv; subst hy; exact .int _ _
        | 9 => simp [Tm.cells] at hv hy; subst hv; subst hy; exact .int _ _
        | 10 => simp [Tm.cells] at hv hy; subst hv; subst hy; exact hr
        | i + 11 => simp at hv⟩, .node o4 o5 hk1 hk2⟩
    rcases DataW.trod_slice u37 h8 with ⟨hb, _⟩ | ⟨a, len, cap, elems, rest, n, hn, hb, hxs, _, hlc, _, hel, hall, _⟩
    · cases hb
      exact two [] (.sl0 none 0 11 0) (by simp) (by simp)
    · cases hb
      rw [c39] at hall
      rw [hxs] at hz8
      obtain ⟨g1, g2⟩ := weights_elem u37 hz8
      rw [b39, List.length_map, hel] at g1
      obtain ⟨ks, hks, hq, hr⟩ := stand_sliceQ (w := w) (base := base) TmOk 11 (by decide) Tm.cells tcells_len (a := a) hlc (fun i hi => by
        have := hall i hi
        rw [List.getElem?_eq_getElem (by omega)] at this
        obtain ⟨cs', h2, h3⟩ := Option.bind_eq_some_iff.1 this
        obtain ⟨t, ht, ho⟩ := open_tmS n cs' _ h3 (g2 (j := i) (by rw [List.getElem?_map, List.getElem?_eq_getElem (by omega)]; rfl))
        exact ⟨t, cs', h2, ht, ho⟩)
      exact two ks (by rw [trows_map]; exact hr) (by rw [hks]; exact reach_le g1) hq
  termination_by fuel => fuel
  decreasing_by all_goals omega
end
end Go.Proofs.YtlboogackecjlaaGreat.E

/- From a row's reading of a derivation to a tree. No conditions. -/
set_option linter.unusedVariables false
set_option linter.unusedSimpArgs false
namespace Go.Proofs.YtlboogackecjlaaGreat.E
open Go Go.RowKit

theorem uP : Tryz.prog.underlying 28 = some (.struct #[fld 28 0, fld 28 1, fld 28 2]) := by kernel_rfl
theorem fP_0 : (fld 28 0).type = 9 ∧ (fld 28 0).offset = 0 := ⟨by kernel_rfl, by kernel_rfl⟩
theorem fP_1 : (fld 28 1).type = 25 ∧ (fld 28 1).offset = 1 := ⟨by kernel_rfl, by kernel_rfl⟩
theorem fP_2 : (fld 28 2).type = 26 ∧ (fld 28 2).offset = 3 := ⟨by kernel_rfl, by kernel_rfl⟩
theorem uPs : Tryz.prog.underlying 26 = some (.slice 28) := by kernel_rfl
theorem cP : Tryz.prog.cellsOf 28 = 4 := by kernel_rfl
theorem cPs : Tryz.prog.cellsOf 26 = 1 := by kernel_rfl
theorem pcells_len (p : Pf) : p.cells.length = 4 := by obtain ⟨r, ⟨k, ks⟩, qs⟩ := p; rfl
theorem prows_map : ∀ l : List Pf, Pf.rows l = l.map Pf.cells
  | [] => rfl
  | p :: l => by rw [Pf.rows, prows_map l]; rfl
theorem pf_val {w : World} {v : Value} {p : Pf} (h : Stand w v.cells.toList p.cells) : RepV w (czAll w) v p.val := by
  have hl := h.1
  rw [pcells_len] at hl
  have key : ∀ arr : Array Value, Stand w arr.toList p.cells → RepV w (czAll w) (.agg arr) p.val := fun arr h =>
    .agg _ _ (RepL.ofD (C := czAll w) h.1 h.2)
  cases v <;> first | exact key _ h | (simp [Value.cells] at hl)
section
variable {H : Type} {enc : TypeId × Value → H} {w : World} {base : Nat} {spare : Nat → Bool} {held : Bool}
set_option maxRecDepth 100000 in
theorem open_pf : ∀ (fuel : Nat) (cs : List Value) x, DataW.trod enc Tryz.prog w base spare held fuel 28 cs = some x → ∃ p : Pf, Stand w cs p.cells
  | 0, cs, x, h => by simp [DataW.trod] at h
  | fuel + 1, cs, x, h => by
    obtain ⟨xs, n, hn, _, hl, hxl, hf⟩ := DataW.trod_struct uP h
    obtain rfl : fuel = n := by omega
    rw [cP] at hl
    obtain ⟨v0, v1, v2, v3, rfl⟩ : ∃ v0 v1 v2 v3, cs = [v0, v1, v2, v3] := by
      match cs, hl with
      | [v0, v1, v2, v3], _ => exact ⟨_, _, _, _, rfl⟩
    have h0 := hf 0 (fld 28 0) rfl
    have h1 := hf 1 (fld 28 1) rfl
    have h2 := hf 2 (fld 28 2) rfl
    rw [fP_0.1, fP_0.2, c9] at h0
    rw [fP_1.1, fP_1.2, c30] at h1
    rw [fP_2.1, fP_2.2, cPs] at h2
    have hx : ∀ i, i < 3 → i < xs.length := fun i hi => by rw [hxl]; exact hi
    rw [List.getElem?_eq_getElem (hx 0 (by omega))] at h0
    rw [List.getElem?_eq_getElem (hx 1 (by omega))] at h1
    rw [List.getElem?_eq_getElem (hx 2 (by omega))] at h2
    simp only [List.drop_zero, List.take_succ_cons, List.take_zero, List.drop_succ_cons] at h0 h1 h2
    obtain ⟨r, hk, _, _⟩ := DataW.trod_string u9 h0
    cases hk
    obtain ⟨⟨tk, tks⟩, _, s1⟩ := open_ty _ _ _ h1
    have q0 := s1 0 _ _ rfl rfl
    have q1 := s1 1 _ _ rfl rfl
    have two : ∀ ks : List Pf, RepD w (rgAll w) v3 (.sl 0 4 (Pf.rows ks)) → ∃ p : Pf, Stand w [.string r, v1, v2, v3] p.cells := fun ks hr =>
      ⟨.node r (.node tk tks) ks, rfl, fun i v y hv hy => by
        match i with
        | 0 => simp [Pf.cells, Ty.cells] at hv hy; subst hv; subst hy; exact .str _
        | 1 => simp [Pf.cells, Ty.cells] at hv hy; subst hv; subst hy; exact q0
        | 2 => simp [Pf.cells, Ty.cells] at hv hy; subst hv; subst hy; exact q1
        | 3 => simp [Pf.cells, Ty.cells] at hv hy; subst hv; subst hy; exact hr
        | i + 4 => simp at hv⟩
    rcases DataW.trod_slice uPs h2 with ⟨hb, _⟩ | ⟨a, len, cap, elems, rest, n, hn, hb, _, _, hlc, _, hel, hall, _⟩
    · cases hb
      exact two [] (.sl0 none 0 4 0)
    · cases hb
      rw [cP] at hall
      obtain ⟨ks, hks, hr⟩ := stand_slice (w := w) (base := base) 4 (by decide) Pf.cells pcells_len (a := a) hlc (fun i hi => by
        have := hall i hi
        rw [List.getElem?_eq_getElem (by omega)] at this
        obtain ⟨cs', h2, h3⟩ := Option.bind_eq_some_iff.1 this
        obtain ⟨t, ht⟩ := open_pf n cs' _ h3
        exact ⟨t, cs', h2, ht⟩)
      exact two ks (by rw [prows_map]; exact hr)
  termination_by fuel => fuel
  decreasing_by all_goals omega
end
end Go.Proofs.YtlboogackecjlaaGreat.E
