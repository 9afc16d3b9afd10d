/- Texts, merged: TyOpen, Glue, TmOpen, OpenD, OpenS, OpenDS. No conditions. -/
import Derived.Test.YthmbncehoblgpaaGreatDoorGenX2
import Derived.Deep.Slices
import Derived.WideKeyArgs
import Derived.ChangeArms
import Derived.ChangeOld
import Derived.Below
import Derived.WalkKit
import Derived.ProofKit
import Derived.OpenShut
import Derived.SizedLaws
import Derived.Test.YthmbncehoblgpaaGreatDoorGenX3
import Derived.Test.YthmbncehoblgpaaGreatDoorGenX7
import Derived.Test.YthmbncehoblgpaaGreatDoorGenX13
import Derived.Test.YthmbncehoblgpaaGreatDoorGenX14
/- From a row's reading of an argument to a tree. No conditions. -/
set_option linter.unusedVariables false
set_option linter.unusedSimpArgs false
namespace Go.Proofs.YthmbncehoblgpaaGreatDoor.E
open Go Go.RowKit

/-- All that was there is one region. -/
def rgAll (w : World) : Nat → Option Nat := fun b => if b < w.heap.size then some 0 else none
def czAll (w : World) : Cz := ⟨[], rgAll w⟩
theorem inv_all (w : World) (hg : GlobOk w (czAll w) := by intro a v h; simp [globs] at h) : Inv w (czAll w) [] :=
  ⟨rfl, fun i o e h => by simp at h, fun i o e b h => by simp at h, fun i j o p e f b h => by simp at h, fun b r h => (by
    simp only [czAll, rgAll] at h
    split at h
    · assumption
    · cases h), hg⟩

theorem cell_parts {w : World} {a : Addr} {v : Value} (h : w.cell? a = some v) : a.spot = none ∧ ∃ cs e fz, w.heap[a.block]? = some (.cells cs e fz) ∧ cs[a.off]? = some v := by
  have hs := World.cell?_spot h
  refine ⟨hs, ?_⟩
  unfold World.cell? at h
  split at h
  · rename_i cs e fz hh
    exact ⟨cs, e, fz, hh, by simpa [hs] using h⟩
  · cases h

noncomputable def fld (t i : Nat) : Field := match Tryz.prog.underlying t with
  | some (.struct fs) => fs.getD i default
  | _ => default
theorem u30 : Tryz.prog.underlying 32 = some (.struct #[fld 32 0, fld 32 1]) := by kernel_rfl
theorem f30_0 : (fld 32 0).type = 29 ∧ (fld 32 0).offset = 0 := ⟨by kernel_rfl, by kernel_rfl⟩
theorem f30_1 : (fld 32 1).type = 30 ∧ (fld 32 1).offset = 1 := ⟨by kernel_rfl, by kernel_rfl⟩
theorem u28 : Tryz.prog.underlying 30 = some (.slice 32) := by kernel_rfl
theorem u27 : Tryz.prog.underlying 29 = some (.int .i8) := by kernel_rfl
theorem c30 : Tryz.prog.cellsOf 32 = 2 := by kernel_rfl
theorem c28 : Tryz.prog.cellsOf 30 = 1 := by kernel_rfl
theorem c27 : Tryz.prog.cellsOf 29 = 1 := by kernel_rfl

/-- The cells of a value stand for the data. -/
def Stand (w : World) (cs : List Value) (xs : List DV) : Prop := cs.length = xs.length ∧ ∀ (i : Nat) v x, cs[i]? = some v → xs[i]? = some x → RepD w (rgAll w) v x

section
variable {H : Type} {enc : TypeId × Value → H} {w : World} {base : Nat} {spare : Nat → Bool} {held : Bool}

theorem list_of {α : Type} {Q : Nat → α → Prop} : ∀ n, (∀ i, i < n → ∃ x, Q i x) → ∃ xs : List α, xs.length = n ∧ ∀ (i : Nat) x, xs[i]? = some x → Q i x
  | 0, _ => ⟨[], rfl, fun i x h => by simp at h⟩
  | n + 1, h => by
    obtain ⟨xs, h1, h2⟩ := list_of n (fun i hi => h i (by omega))
    obtain ⟨x, hx⟩ := h n (by omega)
    refine ⟨xs ++ [x], by simp [h1], fun i y hy => ?_⟩
    by_cases hi : i < n
    · rw [List.getElem?_append_left (by omega)] at hy
      exact h2 i y hy
    · rw [List.getElem?_append_right (by omega)] at hy
      cases he : i - xs.length with
      | zero =>
        rw [he] at hy
        simp at hy
        subst hy
        obtain rfl : i = n := by omega
        exact hx
      | succ k => rw [he] at hy; simp at hy

theorem add_none (b o k : Nat) : (⟨b, o, none⟩ : Addr).add k = ⟨b, o + k, none⟩ := by
  unfold Addr.add
  split
  · rename_i h; subst h; rfl
  · rfl

/-- A slice, from its elements. -/
theorem stand_slice {α : Type} (sz : Nat) (hsz : 0 < sz) (f : α → List DV) (hf : ∀ x, (f x).length = sz) {a : Addr} {len cap : Nat} (hlc : len ≤ cap) (h : ∀ i, i < len → ∃ x cs, w.cells? base (a.add (i * sz)) sz = some cs ∧ Stand w cs (f x)) :
    ∃ xs : List α, xs.length = len ∧ RepD w (rgAll w) (.slice (some a) len cap) (.sl 0 sz (xs.map f)) := by
  obtain ⟨xs, hx1, hx2⟩ := list_of len h
  refine ⟨xs, hx1, ?_⟩
  cases xs with
  | nil =>
    simp at hx1
    subst hx1
    exact .sl0 (some a) 0 sz cap
  | cons x0 xr =>
    obtain ⟨cs0, g1, g2⟩ := hx2 0 x0 rfl
    obtain ⟨_, g3, g4⟩ := World.cells?_some g1
    have hc0 := g4 0 hsz
    rw [List.getElem?_eq_getElem (by omega)] at hc0
    obtain ⟨k1, cs, e, fz, k2, k3⟩ := cell_parts hc0
    obtain ⟨b, o, spot⟩ := a
    have hspot : spot = none := by simpa [Addr.add] using k1
    subst hspot
    simp only [Nat.zero_mul, add_none, Nat.add_zero] at k2
    have hlt : b < w.heap.size := by
      rcases Nat.lt_or_ge b w.heap.size with h | h
      · exact h
      · rw [Array.getElem?_eq_none h] at k2; cases k2
    have hcell : ∀ (j i : Nat) x, (x0 :: xr)[j]? = some x → i < sz → ∃ v, cs[o + j * sz + i]? = some v ∧ ∀ y, (f x)[i]? = some y → RepD w (rgAll w) v y := fun j i x hj hi => by
      obtain ⟨cs', q1, q2, q3⟩ := hx2 j x hj
      obtain ⟨_, q4, q5⟩ := World.cells?_some q1
      have q6 := q5 i hi
      rw [List.getElem?_eq_getElem (by omega)] at q6
      obtain ⟨_, cs2, e2, fz2, r2, r3⟩ := cell_parts q6
      simp only [add_none] at r2 r3
      rw [k2] at r2
      cases r2
      exact ⟨_, r3, fun y hy => q3 i _ y (List.getElem?_eq_getElem (by omega)) hy⟩
    refine .sl 0 sz b o len cap _ cs e fz (fun j i => (cs[o + j * sz + i]?).getD undef) ⟨⟨0, by simp [rgAll, hlt], rfl, .inl rfl⟩, fun h => by rcases h with h | h <;> cases h⟩ k2 (by simpa using hx1.symm) hlc (fun row hr => ?_) (fun j i hj hi => ?_) (fun j i row y hj hi => ?_)
    · obtain ⟨x, _, rfl⟩ := List.mem_map.1 hr
      exact hf x
    · obtain ⟨v, hv, _⟩ := hcell j i _ (List.getElem?_eq_getElem (by omega)) hi
      rw [hv]; rfl
    · rw [List.getElem?_map] at hj
      cases hjx : (x0 :: xr)[j]? with
      | none => rw [hjx] at hj; cases hj
      | some x =>
        rw [hjx] at hj
        cases hj
        have hil : i < sz := by
          have := (List.getElem?_eq_some_iff.1 hi).1
          rw [hf] at this; exact this
        obtain ⟨v, hv, hr⟩ := hcell j i x hjx hil
        show RepD w (rgAll w) ((cs[o + j * sz + i]?).getD undef) y
        rw [hv]
        exact hr y hi

theorem rows_map : ∀ ks : List Ty, Ty.rows ks = ks.map Ty.cells
  | [] => rfl
  | t :: l => by simp [Ty.rows, rows_map l]
theorem cells_len (t : Ty) : t.cells.length = 2 := by cases t; rfl

end

/-- What was there is as it was. -/
theorem below_same {w w' : World} (h : Below w.heap.size w w') {p : MemPlace} (hp : p.block < w.heap.size) : w.sameAt w' p := by
  cases p with
  | cell b off =>
    show w'.cell? _ = w.cell? _
    unfold World.cell?
    rw [h.block b hp]
  | map b => exact h.block b hp
end Go.Proofs.YthmbncehoblgpaaGreatDoor.E

/- From a law's walk to its row: parts for all rows. No conditions. -/
namespace Go.Proofs.YthmbncehoblgpaaGreatDoor.E
open Go Go.RowKit

theorem rep2 {w : World} {C : Cz} {u v : Value} {x y : Val} (h : RepV w C u x) (g : RepV w C v y) : RepVs w C #[u, v].toList [x, y] := .cons h (.cons g ⟨rfl, fun i v x h => by simp at h⟩)
/-- A law that is true: as a call. -/
theorem law_true {P : Program} {f : FuncId} {args : List Val} (h : ACall P f args [] (fun o σ => o = .ret (.c (.d (.bool true))) ∧ σ = [])) {w : World} {vs : Array Value} (hv : RepVs w (czAll w) vs.toList args) (hg : GlobOk w (czAll w) := by intro a v h; simp [globs] at h) :
    Calls P f vs w fun e w' => e = .returned (.bool true) ∧ Below w.heap.size w w' :=
  (h.out w (czAll w) vs (inv_all w hg) hv).mono fun e w' ⟨o, σ', C', ⟨ho, hs⟩, hI, hX, hO⟩ => by
    subst ho; subst hs
    obtain ⟨v, rfl, hr⟩ := hO
    have := bool_of hr
    subst this
    exact ⟨rfl, hX.os, hX.tape, hX.output, hX.size, fun k hk => hX.frame k hk (fun ⟨i, o, e, h, _⟩ => by simp at h) (fun r hr => by simp only [czAll, rgAll] at hr; rw [if_pos hk] at hr; cases hr; rfl)⟩
end Go.Proofs.YthmbncehoblgpaaGreatDoor.E

/- From a row's reading of a term to a tree. No conditions. -/
set_option linter.unusedVariables false
set_option linter.unusedSimpArgs false
namespace Go.Proofs.YthmbncehoblgpaaGreatDoor.E
open Go Go.RowKit

theorem u39 : Tryz.prog.underlying 35 = some (.struct #[fld 35 0, fld 35 1, fld 35 2, fld 35 3, fld 35 4, fld 35 5, fld 35 6, fld 35 7, fld 35 8]) := by kernel_rfl
theorem f39_0 : (fld 35 0).type = 29 ∧ (fld 35 0).offset = 0 := ⟨by kernel_rfl, by kernel_rfl⟩
theorem f39_1 : (fld 35 1).type = 9 ∧ (fld 35 1).offset = 1 := ⟨by kernel_rfl, by kernel_rfl⟩
theorem f39_2 : (fld 35 2).type = 9 ∧ (fld 35 2).offset = 2 := ⟨by kernel_rfl, by kernel_rfl⟩
theorem f39_3 : (fld 35 3).type = 2 ∧ (fld 35 3).offset = 3 := ⟨by kernel_rfl, by kernel_rfl⟩
theorem f39_4 : (fld 35 4).type = 32 ∧ (fld 35 4).offset = 4 := ⟨by kernel_rfl, by kernel_rfl⟩
theorem f39_5 : (fld 35 5).type = 32 ∧ (fld 35 5).offset = 6 := ⟨by kernel_rfl, by kernel_rfl⟩
theorem f39_6 : (fld 35 6).type = 3 ∧ (fld 35 6).offset = 8 := ⟨by kernel_rfl, by kernel_rfl⟩
theorem f39_7 : (fld 35 7).type = 3 ∧ (fld 35 7).offset = 9 := ⟨by kernel_rfl, by kernel_rfl⟩
theorem f39_8 : (fld 35 8).type = 33 ∧ (fld 35 8).offset = 10 := ⟨by kernel_rfl, by kernel_rfl⟩
theorem u37 : Tryz.prog.underlying 33 = some (.slice 35) := by kernel_rfl
theorem u9 : Tryz.prog.underlying 9 = some .string := by kernel_rfl
theorem u2 : Tryz.prog.underlying 2 = some (.int .i64) := by kernel_rfl
theorem u3 : Tryz.prog.underlying 3 = some (.int .i64) := by kernel_rfl
theorem c39 : Tryz.prog.cellsOf 35 = 11 := by kernel_rfl
theorem c37 : Tryz.prog.cellsOf 33 = 1 := by kernel_rfl
theorem c9 : Tryz.prog.cellsOf 9 = 1 := by kernel_rfl
theorem c2 : Tryz.prog.cellsOf 2 = 1 := by kernel_rfl
theorem c3 : Tryz.prog.cellsOf 3 = 1 := by kernel_rfl
theorem tcells_len (t : Tm) : t.cells.length = 11 := by cases t; rfl
section
variable {H : Type} {enc : TypeId × Value → H} {w : World} {base : Nat} {spare : Nat → Bool} {held : Bool}
end
end Go.Proofs.YthmbncehoblgpaaGreatDoor.E

/- From a row's reading of definitions to a list. No conditions. -/
set_option linter.unusedVariables false
set_option linter.unusedSimpArgs false
namespace Go.Proofs.YthmbncehoblgpaaGreatDoor.E
open Go Go.RowKit

theorem uD : Tryz.prog.underlying 57 = some (.struct #[fld 57 0, fld 57 1, fld 57 2, fld 57 3]) := by kernel_rfl
theorem fD_0 : (fld 57 0).type = 9 ∧ (fld 57 0).offset = 0 := ⟨by kernel_rfl, by kernel_rfl⟩
theorem fD_1 : (fld 57 1).type = 32 ∧ (fld 57 1).offset = 1 := ⟨by kernel_rfl, by kernel_rfl⟩
theorem fD_2 : (fld 57 2).type = 35 ∧ (fld 57 2).offset = 3 := ⟨by kernel_rfl, by kernel_rfl⟩
theorem fD_3 : (fld 57 3).type = 3 ∧ (fld 57 3).offset = 14 := ⟨by kernel_rfl, by kernel_rfl⟩
theorem uDs : Tryz.prog.underlying 22 = some (.slice 57) := by kernel_rfl
theorem cD : Tryz.prog.cellsOf 57 = 15 := by kernel_rfl
theorem dcells_len (d : Df) : d.cells.length = 15 := by obtain ⟨s, ⟨a, bs⟩, ⟨k, name, arg, num, tk, tks, uk, uks, label, place, ks⟩, pl⟩ := d; rfl
theorem cells15 {α : Type} {l : List α} (h : l.length = 15) : ∃ a b c d e f g i j k m n o p q, l = [a, b, c, d, e, f, g, i, j, k, m, n, o, p, q] := by
  match l, h with
  | [a, b, c, d, e, f, g, i, j, k, m, n, o, p, q], _ => exact ⟨_, _, _, _, _, _, _, _, _, _, _, _, _, _, _, rfl⟩
section
variable {H : Type} {enc : TypeId × Value → H} {w : World} {base : Nat} {spare : Nat → Bool} {held : Bool}
end
end Go.Proofs.YthmbncehoblgpaaGreatDoor.E

/- From a row's reading to trees, with the reach of each slice. No conditions. -/
set_option linter.unusedVariables false
set_option linter.unusedSimpArgs false
namespace Go.Proofs.YthmbncehoblgpaaGreatDoor.E
open Go Go.RowKit

section
variable {H : Type} {enc : TypeId × Value → H} {w : World} {base : Nat} {spare : Nat → Bool} {held : Bool}
theorem stand_sliceQ {α : Type} (Q : α → Prop) (sz : Nat) (hsz : 0 < sz) (f : α → List DV) (hf : ∀ x, (f x).length = sz) {a : Addr} {len cap : Nat} (hlc : len ≤ cap) (h : ∀ i, i < len → ∃ x cs, w.cells? base (a.add (i * sz)) sz = some cs ∧ Stand w cs (f x) ∧ Q x) :
    ∃ xs : List α, xs.length = len ∧ (∀ x ∈ xs, Q x) ∧ RepD w (rgAll w) (.slice (some a) len cap) (.sl 0 sz (xs.map f)) := by
  obtain ⟨xs, h1, h2⟩ := stand_slice (α := {x : α // Q x}) (w := w) (base := base) sz hsz (fun x => f x.1) (fun x => hf x.1) hlc (fun i hi => by
    obtain ⟨x, cs, g1, g2, g3⟩ := h i hi
    exact ⟨⟨x, g3⟩, cs, g1, g2⟩)
  refine ⟨xs.map (·.1), by simpa using h1, fun x hx => ?_, by simpa [List.map_map] using h2⟩
  obtain ⟨y, _, rfl⟩ := List.mem_map.1 hx
  exact y.2
theorem weights_part {P : Program} {ts : List TypeId} {ds : List (DataW H)} (h : (DataW.weightsEach P ts ds).all (· ≤ reachBytes) = true) {j : Nat} {t : TypeId} {d : DataW H} (ht : ts[j]? = some t) (hd : ds[j]? = some d) : (d.weights P t).all (· ≤ reachBytes) = true :=
  List.all_eq_true.2 fun n hn => List.all_eq_true.1 h n (DataW.weights_mem_each ht hd n hn)
theorem weights_all {P : Program} {e : TypeId} : ∀ {ds : List (DataW H)} {j : Nat} {d : DataW H}, ds[j]? = some d → ∀ n ∈ d.weights P e, n ∈ DataW.weightsAll P e ds
  | d0 :: ds, 0, d, hd, n, hn => by
    simp only [List.getElem?_cons_zero, Option.some.injEq] at hd
    subst hd
    simp only [DataW.weightsAll, List.mem_append]
    exact .inl hn
  | d0 :: ds, j + 1, d, hd, n, hn => by
    simp only [List.getElem?_cons_succ] at hd
    simp only [DataW.weightsAll, List.mem_append]
    exact .inr (weights_all hd n hn)
  | [], _, _, hd, _, _ => by simp at hd
theorem weights_elem {P : Program} {t e : TypeId} {elems rest : List (DataW H)} (hu : P.underlying t = some (.slice e)) (h : ((DataW.slice elems rest).weights P t).all (· ≤ reachBytes) = true) :
    elems.length * P.bytesOf e ≤ reachBytes ∧ ∀ {j : Nat} {d : DataW H}, elems[j]? = some d → (d.weights P e).all (· ≤ reachBytes) = true := by
  simp only [DataW.weights, hu] at h
  rw [List.all_eq_true] at h
  refine ⟨?_, fun hd => List.all_eq_true.2 fun n hn => h n (List.mem_cons_of_mem _ (List.mem_append.2 (.inl (weights_all hd n hn))))⟩
  have h1 := h _ (List.mem_cons_self ..)
  have h1 : (elems.length + rest.length) * P.bytesOf e ≤ reachBytes := of_decide_eq_true h1
  exact Nat.le_trans (Nat.mul_le_mul_right _ (Nat.le_add_right _ _)) h1
theorem b30 : Tryz.prog.bytesOf 32 = 32 := by kernel_rfl
theorem b39 : Tryz.prog.bytesOf 35 = 152 := by kernel_rfl
theorem reach_le {n : Nat} (h : n ≤ reachBytes) : n ≤ 140737488355328 := by
  have : reachBytes < 2 ^ 47 := by decide
  omega
set_option maxRecDepth 100000 in
theorem open_tyS : ∀ (fuel : Nat) (cs : List Value) x, DataW.trod enc Tryz.prog w base spare held fuel 32 cs = some x → (x.1.weights Tryz.prog 32).all (· ≤ reachBytes) = true → ∃ t : Ty, Stand w cs t.cells ∧ TyOk t
  | 0, cs, x, h, hz => by simp [DataW.trod] at h
  | fuel + 1, cs, x, h, hz => by
    obtain ⟨xs, n, hn, hx, hl, hxl, hf⟩ := DataW.trod_struct u30 h
    subst hx
    simp only [DataW.weights, u30] at hz
    obtain rfl : fuel = n := by omega
    rw [c30] at hl
    obtain ⟨a, b, rfl⟩ : ∃ a b, cs = [a, b] := by
      match cs, hl with
      | [a, b], _ => exact ⟨a, b, rfl⟩
    have h0 := hf 0 (fld 32 0) rfl
    have h1 := hf 1 (fld 32 1) rfl
    rw [f30_0.1, f30_0.2, c27] at h0
    rw [f30_1.1, f30_1.2, c28] at h1
    have hx0 : 0 < xs.length := by rw [hxl]; exact Nat.zero_lt_succ _
    have hx1 : 1 < xs.length := by rw [hxl]; exact Nat.lt_succ_self _
    rw [List.getElem?_eq_getElem hx0] at h0
    rw [List.getElem?_eq_getElem hx1] at h1
    have hz1 := weights_part hz (j := 1) (t := 30) (by rw [← f30_1.1]; rfl) (d := xs[1].1) (by rw [List.getElem?_map, List.getElem?_eq_getElem hx1]; rfl)
    simp only [List.drop_zero, List.take_succ_cons, List.take_zero, List.drop_succ_cons] at h0 h1
    obtain ⟨k, hk, _, _⟩ := DataW.trod_int u27 h0
    cases hk
    have two : ∀ ks : List Ty, RepD w (rgAll w) b (.sl 0 2 (Ty.rows ks)) → TyOk (.node k ks) → ∃ t : Ty, Stand w [.int .i8 k, b] t.cells ∧ TyOk t := fun ks hr hok =>
      ⟨.node k ks, ⟨rfl, fun i v y hv hy => by
        match i with
        | 0 => simp [Ty.cells] at hv hy; subst hv; subst hy; exact .int _ _
        | 1 => simp [Ty.cells] at hv hy; subst hv; subst hy; exact hr
        | i + 2 => simp at hv⟩, hok⟩
    rcases DataW.trod_slice u28 h1 with ⟨hb, _⟩ | ⟨a, len, cap, elems, rest, n, hn, hb, hxs, _, hlc, _, hel, hall, _⟩
    · cases hb
      exact two [] (.sl0 none 0 2 0) (.node (by simp) (by simp))
    · cases hb
      rw [c30] at hall
      rw [hxs] at hz1
      obtain ⟨g1, g2⟩ := weights_elem u28 hz1
      rw [b30, List.length_map, hel] at g1
      obtain ⟨ks, hks, hq, hr⟩ := stand_sliceQ (w := w) (base := base) TyOk 2 (by decide) Ty.cells cells_len (a := a) hlc (fun i hi => by
        have := hall i hi
        rw [List.getElem?_eq_getElem (by omega)] at this
        obtain ⟨cs', h2, h3⟩ := Option.bind_eq_some_iff.1 this
        obtain ⟨t, ht, ho⟩ := open_tyS n cs' _ h3 (g2 (j := i) (by rw [List.getElem?_map, List.getElem?_eq_getElem (by omega)]; rfl))
        exact ⟨t, cs', h2, ht, ho⟩)
      exact two ks (by rw [rows_map]; exact hr) (.node (by rw [hks]; exact reach_le g1) hq)
  termination_by fuel => fuel
  decreasing_by all_goals omega
set_option maxRecDepth 100000 in
theorem open_tmS : ∀ (fuel : Nat) (cs : List Value) x, DataW.trod enc Tryz.prog w base spare held fuel 35 cs = some x → (x.1.weights Tryz.prog 35).all (· ≤ reachBytes) = true → ∃ t : Tm, Stand w cs t.cells ∧ TmOk t
  | 0, cs, x, h, hz => by simp [DataW.trod] at h
  | fuel + 1, cs, x, h, hz => by
    obtain ⟨xs, n, hn, hxx, hl, hxl, hf⟩ := DataW.trod_struct u39 h
    subst hxx
    simp only [DataW.weights, u39] at hz
    obtain rfl : fuel = n := by omega
    rw [c39] at hl
    obtain ⟨v0, v1, v2, v3, v4, v5, v6, v7, v8, v9, v10, rfl⟩ : ∃ v0 v1 v2 v3 v4 v5 v6 v7 v8 v9 v10, cs = [v0, v1, v2, v3, v4, v5, v6, v7, v8, v9, v10] := by
      match cs, hl with
      | [v0, v1, v2, v3, v4, v5, v6, v7, v8, v9, v10], _ => exact ⟨_, _, _, _, _, _, _, _, _, _, _, rfl⟩
    have h0 := hf 0 (fld 35 0) rfl
    have h1 := hf 1 (fld 35 1) rfl
    have h2 := hf 2 (fld 35 2) rfl
    have h3 := hf 3 (fld 35 3) rfl
    have h4 := hf 4 (fld 35 4) rfl
    have h5 := hf 5 (fld 35 5) rfl
    have h6 := hf 6 (fld 35 6) rfl
    have h7 := hf 7 (fld 35 7) rfl
    have h8 := hf 8 (fld 35 8) rfl
    rw [f39_0.1, f39_0.2, c27] at h0
    rw [f39_1.1, f39_1.2, c9] at h1
    rw [f39_2.1, f39_2.2, c9] at h2
    rw [f39_3.1, f39_3.2, c2] at h3
    rw [f39_4.1, f39_4.2, c30] at h4
    rw [f39_5.1, f39_5.2, c30] at h5
    rw [f39_6.1, f39_6.2, c3] at h6
    rw [f39_7.1, f39_7.2, c3] at h7
    rw [f39_8.1, f39_8.2, c37] at h8
    have hx : ∀ i, i < 9 → i < xs.length := fun i hi => by rw [hxl]; exact hi
    rw [List.getElem?_eq_getElem (hx 0 (by omega))] at h0
    rw [List.getElem?_eq_getElem (hx 1 (by omega))] at h1
    rw [List.getElem?_eq_getElem (hx 2 (by omega))] at h2
    rw [List.getElem?_eq_getElem (hx 3 (by omega))] at h3
    rw [List.getElem?_eq_getElem (hx 4 (by omega))] at h4
    rw [List.getElem?_eq_getElem (hx 5 (by omega))] at h5
    rw [List.getElem?_eq_getElem (hx 6 (by omega))] at h6
    rw [List.getElem?_eq_getElem (hx 7 (by omega))] at h7
    rw [List.getElem?_eq_getElem (hx 8 (by omega))] at h8
    have hz4 := weights_part hz (j := 4) (t := 32) (by rw [← f39_4.1]; rfl) (d := (xs[4]'(hx 4 (by omega))).1) (by rw [List.getElem?_map, List.getElem?_eq_getElem (hx 4 (by omega))]; rfl)
    have hz5 := weights_part hz (j := 5) (t := 32) (by rw [← f39_5.1]; rfl) (d := (xs[5]'(hx 5 (by omega))).1) (by rw [List.getElem?_map, List.getElem?_eq_getElem (hx 5 (by omega))]; rfl)
    have hz8 := weights_part hz (j := 8) (t := 33) (by rw [← f39_8.1]; rfl) (d := (xs[8]'(hx 8 (by omega))).1) (by rw [List.getElem?_map, List.getElem?_eq_getElem (hx 8 (by omega))]; rfl)
    simp only [List.drop_zero, List.take_succ_cons, List.take_zero, List.drop_succ_cons] at h0 h1 h2 h3 h4 h5 h6 h7 h8
    obtain ⟨k, hk, _, _⟩ := DataW.trod_int u27 h0
    cases hk
    obtain ⟨name, hk, _, _⟩ := DataW.trod_string u9 h1
    cases hk
    obtain ⟨arg, hk, _, _⟩ := DataW.trod_string u9 h2
    cases hk
    obtain ⟨num, hk, _, _⟩ := DataW.trod_int u2 h3
    cases hk
    obtain ⟨⟨tk, tks⟩, ⟨_, s4⟩, o4⟩ := open_tyS _ _ _ h4 hz4
    obtain ⟨⟨uk, uks⟩, ⟨_, s5⟩, o5⟩ := open_tyS _ _ _ h5 hz5
    obtain ⟨label, hk, _, _⟩ := DataW.trod_int u3 h6
    cases hk
    obtain ⟨place, hk, _, _⟩ := DataW.trod_int u3 h7
    cases hk
    have q0 := s4 0 _ _ rfl rfl
    have q1 := s4 1 _ _ rfl rfl
    have q2 := s5 0 _ _ rfl rfl
    have q3 := s5 1 _ _ rfl rfl
    have two : ∀ ks : List Tm, RepD w (rgAll w) v10 (.sl 0 11 (Tm.rows ks)) → ks.length * 152 ≤ 140737488355328 → (∀ t ∈ ks, TmOk t) → ∃ t : Tm, Stand w [.int .i8 k, .string name, .string arg, .int .i64 num, v4, v5, v6, v7, .int .i64 label, .int .i64 place, v10] t.cells ∧ TmOk t := fun ks hr hk1 hk2 =>
      ⟨.node k name arg num tk tks uk uks label place ks, ⟨rfl, fun i v y hv hy => by
        match i with
        | 0 => simp [Tm.cells] at hv hy; subst hv; subst hy; exact .int _ _
        | 1 => simp [Tm.cells] at hv hy; subst hv; subst hy; exact .str _
        | 2 => simp [Tm.cells] at hv hy; subst hv; subst hy; exact .str _
        | 3 => simp [Tm.cells] at hv hy; subst hv; subst hy; exact .int _ _
        | 4 => simp [Tm.cells] at hv hy; subst hv; subst hy; exact q0
        | 5 => simp [Tm.cells] at hv hy; subst hv; subst hy; exact q1
        | 6 => simp [Tm.cells] at hv hy; subst hv; subst hy; exact q2
        | 7 => simp [Tm.cells] at hv hy; subst hv; subst hy; exact q3
        | 8 => simp [Tm.cells] at hv hy; subst hv; subst hy; exact .int _ _
        | 9 => simp [Tm.cells] at hv hy; subst hv; subst hy; exact .int _ _
        | 10 => simp [Tm.cells] at hv hy; subst hv; subst hy; exact hr
        | i + 11 => simp at hv⟩, .node o4 o5 hk1 hk2⟩
    rcases DataW.trod_slice u37 h8 with ⟨hb, _⟩ | ⟨a, len, cap, elems, rest, n, hn, hb, hxs, _, hlc, _, hel, hall, _⟩
    · cases hb
      exact two [] (.sl0 none 0 11 0) (by simp) (by simp)
    · cases hb
      rw [c39] at hall
      rw [hxs] at hz8
      obtain ⟨g1, g2⟩ := weights_elem u37 hz8
      rw [b39, List.length_map, hel] at g1
      obtain ⟨ks, hks, hq, hr⟩ := stand_sliceQ (w := w) (base := base) TmOk 11 (by decide) Tm.cells tcells_len (a := a) hlc (fun i hi => by
        have := hall i hi
        rw [List.getElem?_eq_getElem (by omega)] at this
        obtain ⟨cs', h2, h3⟩ := Option.bind_eq_some_iff.1 this
        obtain ⟨t, ht, ho⟩ := open_tmS n cs' _ h3 (g2 (j := i) (by rw [List.getElem?_map, List.getElem?_eq_getElem (by omega)]; rfl))
        exact ⟨t, cs', h2, ht, ho⟩)
      exact two ks (by rw [trows_map]; exact hr) (by rw [hks]; exact reach_le g1) hq
  termination_by fuel => fuel
  decreasing_by all_goals omega
end
end Go.Proofs.YthmbncehoblgpaaGreatDoor.E

/- From a row's reading of definitions to a list, with the reach of each slice. No conditions. -/
set_option linter.unusedVariables false
set_option linter.unusedSimpArgs false
namespace Go.Proofs.YthmbncehoblgpaaGreatDoor.E
open Go Go.RowKit

section
variable {H : Type} {enc : TypeId × Value → H} {w : World} {base : Nat} {spare : Nat → Bool} {held : Bool}
set_option maxRecDepth 100000 in
theorem open_dfS (fuel : Nat) (cs : List Value) (x : DataW H × List MemPlace) (h : DataW.trod enc Tryz.prog w base spare held fuel 57 cs = some x) (hz : (x.1.weights Tryz.prog 57).all (· ≤ reachBytes) = true) : ∃ d : Df, Stand w cs d.cells ∧ DfOk d := by
  cases fuel with
  | zero => simp [DataW.trod] at h
  | succ fuel =>
  obtain ⟨xs, n, hn, hxx, hl, hxl, hf⟩ := DataW.trod_struct uD h
  subst hxx
  simp only [DataW.weights, uD] at hz
  obtain rfl : fuel = n := by omega
  rw [cD] at hl
  obtain ⟨v0, v1, v2, v3, v4, v5, v6, v7, v8, v9, v10, v11, v12, v13, v14, rfl⟩ := cells15 hl
  have h0 := hf 0 (fld 57 0) rfl
  have h1 := hf 1 (fld 57 1) rfl
  have h2 := hf 2 (fld 57 2) rfl
  have h3 := hf 3 (fld 57 3) rfl
  rw [fD_0.1, fD_0.2, c9] at h0
  rw [fD_1.1, fD_1.2, c30] at h1
  rw [fD_2.1, fD_2.2, c39] at h2
  rw [fD_3.1, fD_3.2, c3] at h3
  have hx : ∀ i, i < 4 → i < xs.length := fun i hi => by rw [hxl]; exact hi
  rw [List.getElem?_eq_getElem (hx 0 (by omega))] at h0
  rw [List.getElem?_eq_getElem (hx 1 (by omega))] at h1
  rw [List.getElem?_eq_getElem (hx 2 (by omega))] at h2
  rw [List.getElem?_eq_getElem (hx 3 (by omega))] at h3
  have hz1 := weights_part hz (j := 1) (t := 32) (by rw [← fD_1.1]; rfl) (d := (xs[1]'(hx 1 (by omega))).1) (by rw [List.getElem?_map, List.getElem?_eq_getElem (hx 1 (by omega))]; rfl)
  have hz2 := weights_part hz (j := 2) (t := 35) (by rw [← fD_2.1]; rfl) (d := (xs[2]'(hx 2 (by omega))).1) (by rw [List.getElem?_map, List.getElem?_eq_getElem (hx 2 (by omega))]; rfl)
  simp only [List.drop_zero, List.take_succ_cons, List.take_zero, List.drop_succ_cons] at h0 h1 h2 h3
  obtain ⟨s, hs, _, _⟩ := DataW.trod_string u9 h0
  cases hs
  obtain ⟨⟨a, bs⟩, ⟨_, s1⟩, o1⟩ := open_tyS _ _ _ h1 hz1
  obtain ⟨⟨k, name, arg, num, tk, tks, uk, uks, label, place, ks⟩, ⟨_, s2⟩, o2⟩ := open_tmS _ _ _ h2 hz2
  obtain ⟨p, hp, _, _⟩ := DataW.trod_int u3 h3
  cases hp
  refine ⟨⟨s, .node a bs, .node k name arg num tk tks uk uks label place ks, p⟩, ⟨rfl, fun i v y hv hy => ?_⟩, o1, o2⟩
  match i with
  | 0 => simp [Df.cells] at hv hy; subst hv; subst hy; exact .str _
  | 1 => simp [Df.cells] at hv hy; subst hv; subst hy; exact s1 0 _ _ rfl rfl
  | 2 => simp [Df.cells] at hv hy; subst hv; subst hy; exact s1 1 _ _ rfl rfl
  | 3 => simp [Df.cells] at hv hy; subst hv; subst hy; exact s2 0 _ _ rfl rfl
  | 4 => simp [Df.cells] at hv hy; subst hv; subst hy; exact s2 1 _ _ rfl rfl
  | 5 => simp [Df.cells] at hv hy; subst hv; subst hy; exact s2 2 _ _ rfl rfl
  | 6 => simp [Df.cells] at hv hy; subst hv; subst hy; exact s2 3 _ _ rfl rfl
  | 7 => simp [Df.cells] at hv hy; subst hv; subst hy; exact s2 4 _ _ rfl rfl
  | 8 => simp [Df.cells] at hv hy; subst hv; subst hy; exact s2 5 _ _ rfl rfl
  | 9 => simp [Df.cells] at hv hy; subst hv; subst hy; exact s2 6 _ _ rfl rfl
  | 10 => simp [Df.cells] at hv hy; subst hv; subst hy; exact s2 7 _ _ rfl rfl
  | 11 => simp [Df.cells] at hv hy; subst hv; subst hy; exact s2 8 _ _ rfl rfl
  | 12 => simp [Df.cells] at hv hy; subst hv; subst hy; exact s2 9 _ _ rfl rfl
  | 13 => simp [Df.cells] at hv hy; subst hv; subst hy; exact s2 10 _ _ rfl rfl
  | 14 => simp [Df.cells] at hv hy; subst hv; subst hy; exact .int _ _
  | i + 15 => simp at hv
theorem open_dfsS (fuel : Nat) (v : Value) (x : DataW H × List MemPlace) (h : DataW.trod enc Tryz.prog w base spare held fuel 22 [v] = some x) (hz : (x.1.weights Tryz.prog 22).all (· ≤ reachBytes) = true) :
    ∃ l : List Df, RepD w (rgAll w) v (.sl 0 15 (drows l)) ∧ ∀ d ∈ l, DfOk d := by
  rcases DataW.trod_slice uDs h with ⟨hb, _⟩ | ⟨a, len, cap, elems, rest, n, hn, hb, hxs, _, hlc, _, hel, hall, _⟩
  · cases hb
    exact ⟨[], .sl0 none 0 15 0, by simp⟩
  · cases hb
    rw [cD] at hall
    rw [hxs] at hz
    obtain ⟨g1, g2⟩ := weights_elem uDs hz
    obtain ⟨l, hks, hq, hr⟩ := stand_sliceQ (w := w) (base := base) DfOk 15 (by decide) Df.cells dcells_len (a := a) hlc (fun i hi => by
      have := hall i hi
      rw [List.getElem?_eq_getElem (by omega)] at this
      obtain ⟨cs', h2, h3⟩ := Option.bind_eq_some_iff.1 this
      obtain ⟨d, hd, ho⟩ := open_dfS n cs' _ h3 (g2 (j := i) (by rw [List.getElem?_map, List.getElem?_eq_getElem (by omega)]; rfl))
      exact ⟨d, cs', h2, hd, ho⟩)
    exact ⟨l, hr, hq⟩
end
end Go.Proofs.YthmbncehoblgpaaGreatDoor.E
