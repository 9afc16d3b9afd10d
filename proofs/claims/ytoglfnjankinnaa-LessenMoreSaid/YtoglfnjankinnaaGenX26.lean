/- Texts, merged: TyOpen, Glue, TmOpen, OpenS, OpenI. No conditions. -/
import Derived.Test.YtoglfnjankinnaaGenX2
import Derived.Deep.Slices
import Derived.WideKeyArgs
import Derived.ChangeArms
import Derived.ChangeOld
import Derived.Below
import Derived.WalkKit
import Derived.ProofKit
import Derived.OpenShut
import Derived.SizedLaws
import Derived.Test.YtoglfnjankinnaaGenX4
import Derived.Test.YtoglfnjankinnaaGenX20
import Derived.Test.YtoglfnjankinnaaGenX18
/- From a row's reading of an argument to a tree. No conditions. -/
set_option linter.unusedVariables false
set_option linter.unusedSimpArgs false
namespace Go.Proofs.Ytoglfnjankinnaa.E
open Go Go.RowKit

/-- All that was there is one region. -/
def rgAll (w : World) : Nat → Option Nat := fun b => if b < w.heap.size then some 0 else none
def czAll (w : World) : Cz := ⟨[], rgAll w⟩
theorem inv_all (w : World) : Inv w (czAll w) [] :=
  ⟨rfl, fun i o e h => by simp at h, fun i o e b h => by simp at h, fun i j o p e f b h => by simp at h, fun b r h => by
    simp only [czAll, rgAll] at h
    split at h
    · assumption
    · cases h⟩

theorem cell_parts {w : World} {a : Addr} {v : Value} (h : w.cell? a = some v) : a.spot = none ∧ ∃ cs e fz, w.heap[a.block]? = some (.cells cs e fz) ∧ cs[a.off]? = some v := by
  have hs := World.cell?_spot h
  refine ⟨hs, ?_⟩
  unfold World.cell? at h
  split at h
  · rename_i cs e fz hh
    exact ⟨cs, e, fz, hh, by simpa [hs] using h⟩
  · cases h

noncomputable def fld (t i : Nat) : Field := match Try.prog.underlying t with
  | some (.struct fs) => fs.getD i default
  | _ => default
theorem u30 : Try.prog.underlying 25 = some (.struct #[fld 25 0, fld 25 1]) := by kernel_rfl
theorem f30_0 : (fld 25 0).type = 22 ∧ (fld 25 0).offset = 0 := ⟨by kernel_rfl, by kernel_rfl⟩
theorem f30_1 : (fld 25 1).type = 23 ∧ (fld 25 1).offset = 1 := ⟨by kernel_rfl, by kernel_rfl⟩
theorem u28 : Try.prog.underlying 23 = some (.slice 25) := by kernel_rfl
theorem u27 : Try.prog.underlying 22 = some (.int .i8) := by kernel_rfl
theorem c30 : Try.prog.cellsOf 25 = 2 := by kernel_rfl
theorem c28 : Try.prog.cellsOf 23 = 1 := by kernel_rfl
theorem c27 : Try.prog.cellsOf 22 = 1 := by kernel_rfl

/-- The cells of a value stand for the data. -/
def Stand (w : World) (cs : List Value) (xs : List DV) : Prop := cs.length = xs.length ∧ ∀ (i : Nat) v x, cs[i]? = some v → xs[i]? = some x → RepD w (rgAll w) v x

section
variable {H : Type} {enc : TypeId × Value → H} {w : World} {base : Nat} {spare : Nat → Bool} {held : Bool}

theorem list_of {α : Type} {Q : Nat → α → Prop} : ∀ n, (∀ i, i < n → ∃ x, Q i x) → ∃ xs : List α, xs.length = n ∧ ∀ (i : Nat) x, xs[i]? = some x → Q i x
  | 0, _ => ⟨[], rfl, fun i x h => by simp at h⟩
  | n + 1, h => by
    obtain ⟨xs, h1, h2⟩ := list_of n (fun i hi => h i (by omega))
    obtain ⟨x, hx⟩ := h n (by omega)
    refine ⟨xs ++ [x], by simp [h1], fun i y hy => ?_⟩
    by_cases hi : i < n
    · rw [List.getElem?_append_left (by omega)] at hy
      exact h2 i y hy
    · rw [List.getElem?_append_right (by omega)] at hy
      cases he : i - xs.length with
      | zero =>
        rw [he] at hy
        simp at hy
        subst hy
        obtain rfl : i = n := by omega
        exact hx
      | succ k => rw [he] at hy; simp at hy

theorem add_none (b o k : Nat) : (⟨b, o, none⟩ : Addr).add k = ⟨b, o + k, none⟩ := by
  unfold Addr.add
  split
  · rename_i h; subst h; rfl
  · rfl

/-- A slice, from its elements. -/
theorem stand_slice {α : Type} (sz : Nat) (hsz : 0 < sz) (f : α → List DV) (hf : ∀ x, (f x).length = sz) {a : Addr} {len cap : Nat} (hlc : len ≤ cap) (h : ∀ i, i < len → ∃ x cs, w.cells? base (a.add (i * sz)) sz = some cs ∧ Stand w cs (f x)) :
    ∃ xs : List α, xs.length = len ∧ RepD w (rgAll w) (.slice (some a) len cap) (.sl 0 sz (xs.map f)) := by
  obtain ⟨xs, hx1, hx2⟩ := list_of len h
  refine ⟨xs, hx1, ?_⟩
  cases xs with
  | nil =>
    simp at hx1
    subst hx1
    exact .sl0 (some a) 0 sz cap
  | cons x0 xr =>
    obtain ⟨cs0, g1, g2⟩ := hx2 0 x0 rfl
    obtain ⟨_, g3, g4⟩ := World.cells?_some g1
    have hc0 := g4 0 hsz
    rw [List.getElem?_eq_getElem (by omega)] at hc0
    obtain ⟨k1, cs, e, fz, k2, k3⟩ := cell_parts hc0
    obtain ⟨b, o, spot⟩ := a
    have hspot : spot = none := by simpa [Addr.add] using k1
    subst hspot
    simp only [Nat.zero_mul, add_none, Nat.add_zero] at k2
    have hlt : b < w.heap.size := by
      rcases Nat.lt_or_ge b w.heap.size with h | h
      · exact h
      · rw [Array.getElem?_eq_none h] at k2; cases k2
    have hcell : ∀ (j i : Nat) x, (x0 :: xr)[j]? = some x → i < sz → ∃ v, cs[o + j * sz + i]? = some v ∧ ∀ y, (f x)[i]? = some y → RepD w (rgAll w) v y := fun j i x hj hi => by
      obtain ⟨cs', q1, q2, q3⟩ := hx2 j x hj
      obtain ⟨_, q4, q5⟩ := World.cells?_some q1
      have q6 := q5 i hi
      rw [List.getElem?_eq_getElem (by omega)] at q6
      obtain ⟨_, cs2, e2, fz2, r2, r3⟩ := cell_parts q6
      simp only [add_none] at r2 r3
      rw [k2] at r2
      cases r2
      exact ⟨_, r3, fun y hy => q3 i _ y (List.getElem?_eq_getElem (by omega)) hy⟩
    refine .sl 0 sz b o len cap _ cs e fz (fun j i => (cs[o + j * sz + i]?).getD undef) (by simp [rgAll, hlt]) k2 (by simpa using hx1.symm) hlc (fun row hr => ?_) (fun j i hj hi => ?_) (fun j i row y hj hi => ?_)
    · obtain ⟨x, _, rfl⟩ := List.mem_map.1 hr
      exact hf x
    · obtain ⟨v, hv, _⟩ := hcell j i _ (List.getElem?_eq_getElem (by omega)) hi
      rw [hv]; rfl
    · rw [List.getElem?_map] at hj
      cases hjx : (x0 :: xr)[j]? with
      | none => rw [hjx] at hj; cases hj
      | some x =>
        rw [hjx] at hj
        cases hj
        have hil : i < sz := by
          have := (List.getElem?_eq_some_iff.1 hi).1
          rw [hf] at this; exact this
        obtain ⟨v, hv, hr⟩ := hcell j i x hjx hil
        show RepD w (rgAll w) ((cs[o + j * sz + i]?).getD undef) y
        rw [hv]
        exact hr y hi

theorem rows_map : ∀ ks : List Ty, Ty.rows ks = ks.map Ty.cells
  | [] => rfl
  | t :: l => by simp [Ty.rows, rows_map l]
theorem cells_len (t : Ty) : t.cells.length = 2 := by cases t; rfl

set_option maxRecDepth 100000 in
theorem open_ty : ∀ (fuel : Nat) (cs : List Value) x, DataW.trod enc Try.prog w base spare held fuel 25 cs = some x → ∃ t : Ty, Stand w cs t.cells
  | 0, cs, x, h => by simp [DataW.trod] at h
  | fuel + 1, cs, x, h => by
    obtain ⟨xs, n, hn, _, hl, hxl, hf⟩ := DataW.trod_struct u30 h
    obtain rfl : fuel = n := by omega
    rw [c30] at hl
    obtain ⟨a, b, rfl⟩ : ∃ a b, cs = [a, b] := by
      match cs, hl with
      | [a, b], _ => exact ⟨a, b, rfl⟩
    have h0 := hf 0 (fld 25 0) rfl
    have h1 := hf 1 (fld 25 1) rfl
    rw [f30_0.1, f30_0.2, c27] at h0
    rw [f30_1.1, f30_1.2, c28] at h1
    have hx0 : 0 < xs.length := by rw [hxl]; exact Nat.zero_lt_succ _
    have hx1 : 1 < xs.length := by rw [hxl]; exact Nat.lt_succ_self _
    rw [List.getElem?_eq_getElem hx0] at h0
    rw [List.getElem?_eq_getElem hx1] at h1
    simp only [List.drop_zero, List.take_succ_cons, List.take_zero, List.drop_succ_cons] at h0 h1
    obtain ⟨k, hk, _, _⟩ := DataW.trod_int u27 h0
    cases hk
    have two : ∀ ks : List Ty, RepD w (rgAll w) b (.sl 0 2 (Ty.rows ks)) → ∃ t : Ty, Stand w [.int .i8 k, b] t.cells := fun ks hr =>
      ⟨.node k ks, rfl, fun i v y hv hy => by
        match i with
        | 0 => simp [Ty.cells] at hv hy; subst hv; subst hy; exact .int _ _
        | 1 => simp [Ty.cells] at hv hy; subst hv; subst hy; exact hr
        | i + 2 => simp at hv⟩
    rcases DataW.trod_slice u28 h1 with ⟨hb, _⟩ | ⟨a, len, cap, elems, rest, n, hn, hb, _, _, hlc, _, hel, hall, _⟩
    · cases hb
      exact two [] (.sl0 none 0 2 0)
    · cases hb
      rw [c30] at hall
      obtain ⟨ks, hks, hr⟩ := stand_slice (w := w) (base := base) 2 (by decide) Ty.cells cells_len (a := a) hlc (fun i hi => by
        have := hall i hi
        rw [List.getElem?_eq_getElem (by omega)] at this
        obtain ⟨cs', h2, h3⟩ := Option.bind_eq_some_iff.1 this
        obtain ⟨t, ht⟩ := open_ty n cs' _ h3
        exact ⟨t, cs', h2, ht⟩)
      exact two ks (by rw [rows_map]; exact hr)
  termination_by fuel => fuel
  decreasing_by all_goals omega
end

/-- What was there is as it was. -/
theorem below_same {w w' : World} (h : Below w.heap.size w w') {p : MemPlace} (hp : p.block < w.heap.size) : w.sameAt w' p := by
  cases p with
  | cell b off =>
    show w'.cell? _ = w.cell? _
    unfold World.cell?
    rw [h.block b hp]
  | map b => exact h.block b hp
end Go.Proofs.Ytoglfnjankinnaa.E

/- From a law's walk to its row: parts for all rows. No conditions. -/
namespace Go.Proofs.Ytoglfnjankinnaa.E
open Go Go.RowKit

theorem ty_val {w : World} {v : Value} {t : Ty} (h : Stand w v.cells.toList t.cells) : RepV w (czAll w) v t.val := by
  have hl := h.1
  rw [cells_len] at hl
  have key : ∀ arr : Array Value, Stand w arr.toList t.cells → RepV w (czAll w) (.agg arr) t.val := fun arr h =>
    .agg _ _ (RepL.ofD (C := czAll w) h.1 h.2)
  cases v <;> first | exact key _ h | (simp [Value.cells] at hl)

theorem rep2 {w : World} {C : Cz} {u v : Value} {x y : Val} (h : RepV w C u x) (g : RepV w C v y) : RepVs w C #[u, v].toList [x, y] := .cons h (.cons g ⟨rfl, fun i v x h => by simp at h⟩)
theorem rep1 {w : World} {C : Cz} {u : Value} {x : Val} (h : RepV w C u x) : RepVs w C #[u].toList [x] := .cons h ⟨rfl, fun i v x h => by simp at h⟩
theorem rep3 {w : World} {C : Cz} {u v z : Value} {x y q : Val} (h : RepV w C u x) (g : RepV w C v y) (k : RepV w C z q) : RepVs w C #[u, v, z].toList [x, y, q] := .cons h (.cons g (.cons k ⟨rfl, fun i v x h => by simp at h⟩))

theorem rep4 {w : World} {C : Cz} {u v z t : Value} {x y q s : Val} (h : RepV w C u x) (g : RepV w C v y) (k : RepV w C z q) (l : RepV w C t s) : RepVs w C #[u, v, z, t].toList [x, y, q, s] := .cons h (.cons g (.cons k (.cons l ⟨rfl, fun i v x h => by simp at h⟩)))

/-- A law that is true: as a call. -/
theorem law_true {P : Program} {f : FuncId} {args : List Val} (h : ACall P f args [] (fun o σ => o = .ret (.c (.d (.bool true))) ∧ σ = [])) {w : World} {vs : Array Value} (hv : RepVs w (czAll w) vs.toList args) :
    Calls P f vs w fun e w' => e = .returned (.bool true) ∧ Below w.heap.size w w' :=
  (h.out w (czAll w) vs (inv_all w) hv).mono fun e w' ⟨o, σ', C', ⟨ho, hs⟩, hI, hX, hO⟩ => by
    subst ho; subst hs
    obtain ⟨v, rfl, hr⟩ := hO
    have := bool_of hr
    subst this
    exact ⟨rfl, hX.os, hX.tape, hX.output, hX.size, fun k hk => hX.frame k hk (fun ⟨i, o, e, h, _⟩ => by simp at h)⟩
end Go.Proofs.Ytoglfnjankinnaa.E

/- From a row's reading of a term to a tree. No conditions. -/
set_option linter.unusedVariables false
set_option linter.unusedSimpArgs false
namespace Go.Proofs.Ytoglfnjankinnaa.E
open Go Go.RowKit

theorem u39 : Try.prog.underlying 28 = some (.struct #[fld 28 0, fld 28 1, fld 28 2, fld 28 3, fld 28 4, fld 28 5, fld 28 6, fld 28 7, fld 28 8]) := by kernel_rfl
theorem f39_0 : (fld 28 0).type = 22 ∧ (fld 28 0).offset = 0 := ⟨by kernel_rfl, by kernel_rfl⟩
theorem f39_1 : (fld 28 1).type = 9 ∧ (fld 28 1).offset = 1 := ⟨by kernel_rfl, by kernel_rfl⟩
theorem f39_2 : (fld 28 2).type = 9 ∧ (fld 28 2).offset = 2 := ⟨by kernel_rfl, by kernel_rfl⟩
theorem f39_3 : (fld 28 3).type = 2 ∧ (fld 28 3).offset = 3 := ⟨by kernel_rfl, by kernel_rfl⟩
theorem f39_4 : (fld 28 4).type = 25 ∧ (fld 28 4).offset = 4 := ⟨by kernel_rfl, by kernel_rfl⟩
theorem f39_5 : (fld 28 5).type = 25 ∧ (fld 28 5).offset = 6 := ⟨by kernel_rfl, by kernel_rfl⟩
theorem f39_6 : (fld 28 6).type = 3 ∧ (fld 28 6).offset = 8 := ⟨by kernel_rfl, by kernel_rfl⟩
theorem f39_7 : (fld 28 7).type = 3 ∧ (fld 28 7).offset = 9 := ⟨by kernel_rfl, by kernel_rfl⟩
theorem f39_8 : (fld 28 8).type = 26 ∧ (fld 28 8).offset = 10 := ⟨by kernel_rfl, by kernel_rfl⟩
theorem u37 : Try.prog.underlying 26 = some (.slice 28) := by kernel_rfl
theorem u9 : Try.prog.underlying 9 = some .string := by kernel_rfl
theorem u2 : Try.prog.underlying 2 = some (.int .i64) := by kernel_rfl
theorem u3 : Try.prog.underlying 3 = some (.int .i64) := by kernel_rfl
theorem c39 : Try.prog.cellsOf 28 = 11 := by kernel_rfl
theorem c37 : Try.prog.cellsOf 26 = 1 := by kernel_rfl
theorem c9 : Try.prog.cellsOf 9 = 1 := by kernel_rfl
theorem c2 : Try.prog.cellsOf 2 = 1 := by kernel_rfl
theorem c3 : Try.prog.cellsOf 3 = 1 := by kernel_rfl
theorem tcells_len (t : Tm) : t.cells.length = 11 := by cases t; rfl
theorem tm_val {w : World} {v : Value} {t : Tm} (h : Stand w v.cells.toList t.cells) : RepV w (czAll w) v t.val := by
  have hl := h.1
  rw [tcells_len] at hl
  have key : ∀ arr : Array Value, Stand w arr.toList t.cells → RepV w (czAll w) (.agg arr) t.val := fun arr h =>
    .agg _ _ (RepL.ofD (C := czAll w) h.1 h.2)
  cases v <;> first | exact key _ h | (simp [Value.cells] at hl)
section
variable {H : Type} {enc : TypeId × Value → H} {w : World} {base : Nat} {spare : Nat → Bool} {held : Bool}
set_option maxRecDepth 100000 in
theorem open_tm : ∀ (fuel : Nat) (cs : List Value) x, DataW.trod enc Try.prog w base spare held fuel 28 cs = some x → ∃ t : Tm, Stand w cs t.cells
  | 0, cs, x, h => by simp [DataW.trod] at h
  | fuel + 1, cs, x, h => by
    obtain ⟨xs, n, hn, _, hl, hxl, hf⟩ := DataW.trod_struct u39 h
    obtain rfl : fuel = n := by omega
    rw [c39] at hl
    obtain ⟨v0, v1, v2, v3, v4, v5, v6, v7, v8, v9, v10, rfl⟩ : ∃ v0 v1 v2 v3 v4 v5 v6 v7 v8 v9 v10, cs = [v0, v1, v2, v3, v4, v5, v6, v7, v8, v9, v10] := by
      match cs, hl with
      | [v0, v1, v2, v3, v4, v5, v6, v7, v8, v9, v10], _ => exact ⟨_, _, _, _, _, _, _, _, _, _, _, rfl⟩
    have h0 := hf 0 (fld 28 0) rfl
    have h1 := hf 1 (fld 28 1) rfl
    have h2 := hf 2 (fld 28 2) rfl
    have h3 := hf 3 (fld 28 3) rfl
    have h4 := hf 4 (fld 28 4) rfl
    have h5 := hf 5 (fld 28 5) rfl
    have h6 := hf 6 (fld 28 6) rfl
    have h7 := hf 7 (fld 28 7) rfl
    have h8 := hf 8 (fld 28 8) rfl
    rw [f39_0.1, f39_0.2, c27] at h0
    rw [f39_1.1, f39_1.2, c9] at h1
    rw [f39_2.1, f39_2.2, c9] at h2
    rw [f39_3.1, f39_3.2, c2] at h3
    rw [f39_4.1, f39_4.2, c30] at h4
    rw [f39_5.1, f39_5.2, c30] at h5
    rw [f39_6.1, f39_6.2, c3] at h6
    rw [f39_7.1, f39_7.2, c3] at h7
    rw [f39_8.1, f39_8.2, c37] at h8
    have hx : ∀ i, i < 9 → i < xs.length := fun i hi => by rw [hxl]; exact hi
    rw [List.getElem?_eq_getElem (hx 0 (by omega))] at h0
    rw [List.getElem?_eq_getElem (hx 1 (by omega))] at h1
    rw [List.getElem?_eq_getElem (hx 2 (by omega))] at h2
    rw [List.getElem?_eq_getElem (hx 3 (by omega))] at h3
    rw [List.getElem?_eq_getElem (hx 4 (by omega))] at h4
    rw [List.getElem?_eq_getElem (hx 5 (by omega))] at h5
    rw [List.getElem?_eq_getElem (hx 6 (by omega))] at h6
    rw [List.getElem?_eq_getElem (hx 7 (by omega))] at h7
    rw [List.getElem?_eq_getElem (hx 8 (by omega))] at h8
    simp only [List.drop_zero, List.take_succ_cons, List.take_zero, List.drop_succ_cons] at h0 h1 h2 h3 h4 h5 h6 h7 h8
    obtain ⟨k, hk, _, _⟩ := DataW.trod_int u27 h0
    cases hk
    obtain ⟨name, hk, _, _⟩ := DataW.trod_string u9 h1
    cases hk
    obtain ⟨arg, hk, _, _⟩ := DataW.trod_string u9 h2
    cases hk
    obtain ⟨num, hk, _, _⟩ := DataW.trod_int u2 h3
    cases hk
    obtain ⟨⟨tk, tks⟩, _, s4⟩ := open_ty _ _ _ h4
    obtain ⟨⟨uk, uks⟩, _, s5⟩ := open_ty _ _ _ h5
    obtain ⟨label, hk, _, _⟩ := DataW.trod_int u3 h6
    cases hk
    obtain ⟨place, hk, _, _⟩ := DataW.trod_int u3 h7
    cases hk
    have q0 := s4 0 _ _ rfl rfl
    have q1 := s4 1 _ _ rfl rfl
    have q2 := s5 0 _ _ rfl rfl
    have q3 := s5 1 _ _ rfl rfl
    have two : ∀ ks : List Tm, RepD w (rgAll w) v10 (.sl 0 11 (Tm.rows ks)) → ∃ t : Tm, Stand w [.int .i8 k, .string name, .string arg, .int .i64 num, v4, v5, v6, v7, .int .i64 label, .int .i64 place, v10] t.cells := fun ks hr =>
      ⟨.node k name arg num tk tks uk uks label place ks, rfl, fun i v y hv hy => by
        match i with
        | 0 => simp [Tm.cells] at hv hy; subst hv; subst hy; exact .int _ _
        | 1 => simp [Tm.cells] at hv hy; subst hv; subst hy; exact .str _
        | 2 => simp [Tm.cells] at hv hy; subst hv; subst hy; exact .str _
        | 3 => simp [Tm.cells] at hv hy; subst hv; subst hy; exact .int _ _
        | 4 => simp [Tm.cells] at hv hy; subst hv; subst hy; exact q0
        | 5 => simp [Tm.cells] at hv hy; subst hv; subst hy; exact q1
        | 6 => simp [Tm.cells] at hv hy; subst hv; subst hy; exact q2
        | 7 => simp [Tm.cells] at hv hy; subst hv; subst hy; exact q3
        | 8 => simp [Tm.cells] at hv hy; subst hv; subst hy; exact .int _ _
        | 9 => simp [Tm.cells] at hv hy; subst hv; subst hy; exact .int _ _
        | 10 => simp [Tm.cells] at hv hy; subst hv; subst hy; exact hr
        | i + 11 => simp at hv⟩
    rcases DataW.trod_slice u37 h8 with ⟨hb, _⟩ | ⟨a, len, cap, elems, rest, n, hn, hb, _, _, hlc, _, hel, hall, _⟩
    · cases hb
      exact two [] (.sl0 none 0 11 0)
    · cases hb
      rw [c39] at hall
      obtain ⟨ks, hks, hr⟩ := stand_slice (w := w) (base := base) 11 (by decide) Tm.cells tcells_len (a := a) hlc (fun i hi => by
        have := hall i hi
        rw [List.getElem?_eq_getElem (by omega)] at this
        obtain ⟨cs', h2, h3⟩ := Option.bind_eq_some_iff.1 this
        obtain ⟨t, ht⟩ := open_tm n cs' _ h3
        exact ⟨t, cs', h2, ht⟩)
      exact two ks (by rw [trows_map]; exact hr)
  termination_by fuel => fuel
  decreasing_by all_goals omega
end
end Go.Proofs.Ytoglfnjankinnaa.E

/- From a row's reading to trees, with the reach of each slice. No conditions. -/
set_option linter.unusedVariables false
set_option linter.unusedSimpArgs false
namespace Go.Proofs.Ytoglfnjankinnaa.E
open Go Go.RowKit

section
variable {H : Type} {enc : TypeId × Value → H} {w : World} {base : Nat} {spare : Nat → Bool} {held : Bool}
theorem stand_sliceQ {α : Type} (Q : α → Prop) (sz : Nat) (hsz : 0 < sz) (f : α → List DV) (hf : ∀ x, (f x).length = sz) {a : Addr} {len cap : Nat} (hlc : len ≤ cap) (h : ∀ i, i < len → ∃ x cs, w.cells? base (a.add (i * sz)) sz = some cs ∧ Stand w cs (f x) ∧ Q x) :
    ∃ xs : List α, xs.length = len ∧ (∀ x ∈ xs, Q x) ∧ RepD w (rgAll w) (.slice (some a) len cap) (.sl 0 sz (xs.map f)) := by
  obtain ⟨xs, h1, h2⟩ := stand_slice (α := {x : α // Q x}) (w := w) (base := base) sz hsz (fun x => f x.1) (fun x => hf x.1) hlc (fun i hi => by
    obtain ⟨x, cs, g1, g2, g3⟩ := h i hi
    exact ⟨⟨x, g3⟩, cs, g1, g2⟩)
  refine ⟨xs.map (·.1), by simpa using h1, fun x hx => ?_, by simpa [List.map_map] using h2⟩
  obtain ⟨y, _, rfl⟩ := List.mem_map.1 hx
  exact y.2
theorem weights_part {P : Program} {ts : List TypeId} {ds : List (DataW H)} (h : (DataW.weightsEach P ts ds).all (· ≤ reachBytes) = true) {j : Nat} {t : TypeId} {d : DataW H} (ht : ts[j]? = some t) (hd : ds[j]? = some d) : (d.weights P t).all (· ≤ reachBytes) = true :=
  List.all_eq_true.2 fun n hn => List.all_eq_true.1 h n (DataW.weights_mem_each ht hd n hn)
theorem weights_all {P : Program} {e : TypeId} : ∀ {ds : List (DataW H)} {j : Nat} {d : DataW H}, ds[j]? = some d → ∀ n ∈ d.weights P e, n ∈ DataW.weightsAll P e ds
  | d0 :: ds, 0, d, hd, n, hn => by
    simp only [List.getElem?_cons_zero, Option.some.injEq] at hd
    subst hd
    simp only [DataW.weightsAll, List.mem_append]
    exact .inl hn
  | d0 :: ds, j + 1, d, hd, n, hn => by
    simp only [List.getElem?_cons_succ] at hd
    simp only [DataW.weightsAll, List.mem_append]
    exact .inr (weights_all hd n hn)
  | [], _, _, hd, _, _ => by simp at hd
theorem weights_elem {P : Program} {t e : TypeId} {elems rest : List (DataW H)} (hu : P.underlying t = some (.slice e)) (h : ((DataW.slice elems rest).weights P t).all (· ≤ reachBytes) = true) :
    elems.length * P.bytesOf e ≤ reachBytes ∧ ∀ {j : Nat} {d : DataW H}, elems[j]? = some d → (d.weights P e).all (· ≤ reachBytes) = true := by
  simp only [DataW.weights, hu] at h
  rw [List.all_eq_true] at h
  refine ⟨?_, fun hd => List.all_eq_true.2 fun n hn => h n (List.mem_cons_of_mem _ (List.mem_append.2 (.inl (weights_all hd n hn))))⟩
  have h1 := h _ (List.mem_cons_self ..)
  have h1 : (elems.length + rest.length) * P.bytesOf e ≤ reachBytes := of_decide_eq_true h1
  exact Nat.le_trans (Nat.mul_le_mul_right _ (Nat.le_add_right _ _)) h1
theorem b30 : Try.prog.bytesOf 25 = 32 := by kernel_rfl
theorem b39 : Try.prog.bytesOf 28 = 152 := by kernel_rfl
theorem reach_le {n : Nat} (h : n ≤ reachBytes) : n ≤ 140737488355328 := by
  have : reachBytes < 2 ^ 47 := by decide
  omega
set_option maxRecDepth 100000 in
theorem open_tyS : ∀ (fuel : Nat) (cs : List Value) x, DataW.trod enc Try.prog w base spare held fuel 25 cs = some x → (x.1.weights Try.prog 25).all (· ≤ reachBytes) = true → ∃ t : Ty, Stand w cs t.cells ∧ TyOk t
  | 0, cs, x, h, hz => by simp [DataW.trod] at h
  | fuel + 1, cs, x, h, hz => by
    obtain ⟨xs, n, hn, hx, hl, hxl, hf⟩ := DataW.trod_struct u30 h
    subst hx
    simp only [DataW.weights, u30] at hz
    obtain rfl : fuel = n := by omega
    rw [c30] at hl
    obtain ⟨a, b, rfl⟩ : ∃ a b, cs = [a, b] := by
      match cs, hl with
      | [a, b], _ => exact ⟨a, b, rfl⟩
    have h0 := hf 0 (fld 25 0) rfl
    have h1 := hf 1 (fld 25 1) rfl
    rw [f30_0.1, f30_0.2, c27] at h0
    rw [f30_1.1, f30_1.2, c28] at h1
    have hx0 : 0 < xs.length := by rw [hxl]; exact Nat.zero_lt_succ _
    have hx1 : 1 < xs.length := by rw [hxl]; exact Nat.lt_succ_self _
    rw [List.getElem?_eq_getElem hx0] at h0
    rw [List.getElem?_eq_getElem hx1] at h1
    have hz1 := weights_part hz (j := 1) (t := 23) (by rw [← f30_1.1]; rfl) (d := xs[1].1) (by rw [List.getElem?_map, List.getElem?_eq_getElem hx1]; rfl)
    simp only [List.drop_zero, List.take_succ_cons, List.take_zero, List.drop_succ_cons] at h0 h1
    obtain ⟨k, hk, _, _⟩ := DataW.trod_int u27 h0
    cases hk
    have two : ∀ ks : List Ty, RepD w (rgAll w) b (.sl 0 2 (Ty.rows ks)) → TyOk (.node k ks) → ∃ t : Ty, Stand w [.int .i8 k, b] t.cells ∧ TyOk t := fun ks hr hok =>
      ⟨.node k ks, ⟨rfl, fun i v y hv hy => by
        match i with
        | 0 => simp [Ty.cells] at hv hy; subst hv; subst hy; exact .int _ _
        | 1 => simp [Ty.cells] at hv hy; subst hv; subst hy; exact hr
        | i + 2 => simp at hv⟩, hok⟩
    rcases DataW.trod_slice u28 h1 with ⟨hb, _⟩ | ⟨a, len, cap, elems, rest, n, hn, hb, hxs, _, hlc, _, hel, hall, _⟩
    · cases hb
      exact two [] (.sl0 none 0 2 0) (.node (by simp) (by simp))
    · cases hb
      rw [c30] at hall
      rw [hxs] at hz1
      obtain ⟨g1, g2⟩ := weights_elem u28 hz1
      rw [b30, List.length_map, hel] at g1
      obtain ⟨ks, hks, hq, hr⟩ := stand_sliceQ (w := w) (base := base) TyOk 2 (by decide) Ty.cells cells_len (a := a) hlc (fun i hi => by
        have := hall i hi
        rw [List.getElem?_eq_getElem (by omega)] at this
        obtain ⟨cs', h2, h3⟩ := Option.bind_eq_some_iff.1 this
        obtain ⟨t, ht, ho⟩ := open_tyS n cs' _ h3 (g2 (j := i) (by rw [List.getElem?_map, List.getElem?_eq_getElem (by omega)]; rfl))
        exact ⟨t, cs', h2, ht, ho⟩)
      exact two ks (by rw [rows_map]; exact hr) (.node (by rw [hks]; exact reach_le g1) hq)
  termination_by fuel => fuel
  decreasing_by all_goals omega
set_option maxRecDepth 100000 in
theorem open_tmS : ∀ (fuel : Nat) (cs : List Value) x, DataW.trod enc Try.prog w base spare held fuel 28 cs = some x → (x.1.weights Try.prog 28).all (· ≤ reachBytes) = true → ∃ t : Tm, Stand w cs t.cells ∧ TmOk t
  | 0, cs, x, h, hz => by simp [DataW.trod] at h
  | fuel + 1, cs, x, h, hz => by
    obtain ⟨xs, n, hn, hxx, hl, hxl, hf⟩ := DataW.trod_struct u39 h
    subst hxx
    simp only [DataW.weights, u39] at hz
    obtain rfl : fuel = n := by omega
    rw [c39] at hl
    obtain ⟨v0, v1, v2, v3, v4, v5, v6, v7, v8, v9, v10, rfl⟩ : ∃ v0 v1 v2 v3 v4 v5 v6 v7 v8 v9 v10, cs = [v0, v1, v2, v3, v4, v5, v6, v7, v8, v9, v10] := by
      match cs, hl with
      | [v0, v1, v2, v3, v4, v5, v6, v7, v8, v9, v10], _ => exact ⟨_, _, _, _, _, _, _, _, _, _, _, rfl⟩
    have h0 := hf 0 (fld 28 0) rfl
    have h1 := hf 1 (fld 28 1) rfl
    have h2 := hf 2 (fld 28 2) rfl
    have h3 := hf 3 (fld 28 3) rfl
    have h4 := hf 4 (fld 28 4) rfl
    have h5 := hf 5 (fld 28 5) rfl
    have h6 := hf 6 (fld 28 6) rfl
    have h7 := hf 7 (fld 28 7) rfl
    have h8 := hf 8 (fld 28 8) rfl
    rw [f39_0.1, f39_0.2, c27] at h0
    rw [f39_1.1, f39_1.2, c9] at h1
    rw [f39_2.1, f39_2.2, c9] at h2
    rw [f39_3.1, f39_3.2, c2] at h3
    rw [f39_4.1, f39_4.2, c30] at h4
    rw [f39_5.1, f39_5.2, c30] at h5
    rw [f39_6.1, f39_6.2, c3] at h6
    rw [f39_7.1, f39_7.2, c3] at h7
    rw [f39_8.1, f39_8.2, c37] at h8
    have hx : ∀ i, i < 9 → i < xs.length := fun i hi => by rw [hxl]; exact hi
    rw [List.getElem?_eq_getElem (hx 0 (by omega))] at h0
    rw [List.getElem?_eq_getElem (hx 1 (by omega))] at h1
    rw [List.getElem?_eq_getElem (hx 2 (by omega))] at h2
    rw [List.getElem?_eq_getElem (hx 3 (by omega))] at h3
    rw [List.getElem?_eq_getElem (hx 4 (by omega))] at h4
    rw [List.getElem?_eq_getElem (hx 5 (by omega))] at h5
    rw [List.getElem?_eq_getElem (hx 6 (by omega))] at h6
    rw [List.getElem?_eq_getElem (hx 7 (by omega))] at h7
    rw [List.getElem?_eq_getElem (hx 8 (by omega))] at h8
    have hz4 := weights_part hz (j := 4) (t := 25) (by rw [← f39_4.1]; rfl) (d := (xs[4]'(hx 4 (by omega))).1) (by rw [List.getElem?_map, List.getElem?_eq_getElem (hx 4 (by omega))]; rfl)
    have hz5 := weights_part hz (j := 5) (t := 25) (by rw [← f39_5.1]; rfl) (d := (xs[5]'(hx 5 (by omega))).1) (by rw [List.getElem?_map, List.getElem?_eq_getElem (hx 5 (by omega))]; rfl)
    have hz8 := weights_part hz (j := 8) (t := 26) (by rw [← f39_8.1]; rfl) (d := (xs[8]'(hx 8 (by omega))).1) (by rw [List.getElem?_map, List.getElem?_eq_getElem (hx 8 (by omega))]; rfl)
    simp only [List.drop_zero, List.take_succ_cons, List.take_zero, List.drop_succ_cons] at h0 h1 h2 h3 h4 h5 h6 h7 h8
    obtain ⟨k, hk, _, _⟩ := DataW.trod_int u27 h0
    cases hk
    obtain ⟨name, hk, _, _⟩ := DataW.trod_string u9 h1
    cases hk
    obtain ⟨arg, hk, _, _⟩ := DataW.trod_string u9 h2
    cases hk
    obtain ⟨num, hk, _, _⟩ := DataW.trod_int u2 h3
    cases hk
    obtain ⟨⟨tk, tks⟩, ⟨_, s4⟩, o4⟩ := open_tyS _ _ _ h4 hz4
    obtain ⟨⟨uk, uks⟩, ⟨_, s5⟩, o5⟩ := open_tyS _ _ _ h5 hz5
    obtain ⟨label, hk, _, _⟩ := DataW.trod_int u3 h6
    cases hk
    obtain ⟨place, hk, _, _⟩ := DataW.trod_int u3 h7
    cases hk
    have q0 := s4 0 _ _ rfl rfl
    have q1 := s4 1 _ _ rfl rfl
    have q2 := s5 0 _ _ rfl rfl
    have q3 := s5 1 _ _ rfl rfl
    have two : ∀ ks : List Tm, RepD w (rgAll w) v10 (.sl 0 11 (Tm.rows ks)) → ks.length * 152 ≤ 140737488355328 → (∀ t ∈ ks, TmOk t) → ∃ t : Tm, Stand w [.int .i8 k, .string name, .string arg, .int .i64 num, v4, v5, v6, v7, .int .i64 label, .int .i64 place, v10] t.cells ∧ TmOk t := fun ks hr hk1 hk2 =>
      ⟨.node k name arg num tk tks uk uks label place ks, ⟨rfl, fun i v y hv hy => by
        match i with
        | 0 => simp [Tm.cells] at hv hy; subst hv; subst hy; exact .int _ _
        | 1 => simp [Tm.cells] at hv hy; subst hv; subst hy; exact .str _
        | 2 => simp [Tm.cells] at hv hy; subst hv; subst hy; exact .str _
        | 3 => simp [Tm.cells] at hv hy; subst hv; subst hy; exact .int _ _
        | 4 => simp [Tm.cells] at hv hy; subst hv; subst hy; exact q0
        | 5 => simp [Tm.cells] at hv hy; subst hv; subst hy; exact q1
        | 6 => simp [Tm.cells] at hv hy; subst hv; subst hy; exact q2
        | 7 => simp [Tm.cells] at hv hy; subst hv; subst hy; exact q3
        | 8 => simp [Tm.cells] at hv hy; subst hv; subst hy; exact .int _ _
        | 9 => simp [Tm.cells] at hv hy; subst hv; subst hy; exact .int _ _
        | 10 => simp [Tm.cells] at hv hy; subst hv; subst hy; exact hr
        | i + 11 => simp at hv⟩, .node o4 o5 hk1 hk2⟩
    rcases DataW.trod_slice u37 h8 with ⟨hb, _⟩ | ⟨a, len, cap, elems, rest, n, hn, hb, hxs, _, hlc, _, hel, hall, _⟩
    · cases hb
      exact two [] (.sl0 none 0 11 0) (by simp) (by simp)
    · cases hb
      rw [c39] at hall
      rw [hxs] at hz8
      obtain ⟨g1, g2⟩ := weights_elem u37 hz8
      rw [b39, List.length_map, hel] at g1
      obtain ⟨ks, hks, hq, hr⟩ := stand_sliceQ (w := w) (base := base) TmOk 11 (by decide) Tm.cells tcells_len (a := a) hlc (fun i hi => by
        have := hall i hi
        rw [List.getElem?_eq_getElem (by omega)] at this
        obtain ⟨cs', h2, h3⟩ := Option.bind_eq_some_iff.1 this
        obtain ⟨t, ht, ho⟩ := open_tmS n cs' _ h3 (g2 (j := i) (by rw [List.getElem?_map, List.getElem?_eq_getElem (by omega)]; rfl))
        exact ⟨t, cs', h2, ht, ho⟩)
      exact two ks (by rw [trows_map]; exact hr) (by rw [hks]; exact reach_le g1) hq
  termination_by fuel => fuel
  decreasing_by all_goals omega
end
end Go.Proofs.Ytoglfnjankinnaa.E

/- From a row's reading of a slice of numbers to a list. No conditions. -/
set_option linter.unusedVariables false
set_option linter.unusedSimpArgs false
namespace Go.Proofs.Ytoglfnjankinnaa.E
open Go Go.RowKit

section
variable {H : Type} {enc : TypeId × Value → H} {w : World} {base : Nat} {spare : Nat → Bool} {held : Bool}
theorem u_ints : Try.prog.underlying 42 = some (.slice 3) := by kernel_rfl
theorem u_int3 : Try.prog.underlying 3 = some (.int .i64) := by kernel_rfl
theorem c_int3 : Try.prog.cellsOf 3 = 1 := by kernel_rfl
theorem open_intsL (fuel : Nat) (v : Value) (x : DataW H × List MemPlace) (h : DataW.trod enc Try.prog w base spare held fuel 42 [v] = some x) : ∃ l : List Int, RepD w (rgAll w) v (.sl 0 1 (ints l)) := by
  rcases DataW.trod_slice u_ints h with ⟨hb, _⟩ | ⟨a, len, cap, elems, rest, n, hn, hb, _, _, hlc, _, hel, hall, _⟩
  · cases hb
    exact ⟨[], .sl0 none 0 1 0⟩
  · cases hb
    rw [c_int3] at hall
    obtain ⟨l, _, hr⟩ := stand_slice (w := w) (base := base) 1 (by decide) (fun s : Int => [DV.int .i64 s]) (fun _ => rfl) (a := a) hlc (fun i hi => by
      have := hall i hi
      rw [List.getElem?_eq_getElem (by omega)] at this
      obtain ⟨cs', h2, h3⟩ := Option.bind_eq_some_iff.1 this
      obtain ⟨s, hs, _, _⟩ := DataW.trod_int u_int3 h3
      subst hs
      exact ⟨s, _, h2, rfl, fun i v y hv hy => by
        match i with
        | 0 => simp at hv hy; subst hv; subst hy; exact .int _ _
        | i + 1 => simp at hv⟩)
    exact ⟨l, hr⟩
end
end Go.Proofs.Ytoglfnjankinnaa.E
