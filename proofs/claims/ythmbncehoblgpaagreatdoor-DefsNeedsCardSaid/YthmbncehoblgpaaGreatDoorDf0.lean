/- Definitions of a program as data; what defs.sound and its document's answer tell of them. No conditions. -/
import Derived.Test.YthmbncehoblgpaaGreatDoorTm15
import Derived.Test.YthmbncehoblgpaaGreatDoorFr1
set_option linter.unusedVariables false
set_option linter.unusedSimpArgs false
namespace Go.Proofs.YthmbncehoblgpaaGreatDoor.E
open Go

structure Df where
  name : ByteArray
  ty : Ty
  tm : Tm
  pl : Int
def Df.cells : Df → List DV
  | ⟨s, .node a bs, .node k name arg num tk tks uk uks label place ks, pl⟩ =>
    [.str s, .int .i8 a, .sl 0 2 (Ty.rows bs), .int .i8 k, .str name, .str arg, .int .i64 num, .int .i8 tk, .sl 0 2 (Ty.rows tks), .int .i8 uk, .sl 0 2 (Ty.rows uks), .int .i64 label, .int .i64 place, .sl 0 11 (Tm.rows ks), .int .i64 pl]
def drows (l : List Df) : List (List DV) := l.map Df.cells
theorem drows_len (l : List Df) : (drows l).length = l.length := by simp [drows]
theorem drows_get {l : List Df} {i : Nat} {row : List DV} (h : (drows l)[i]? = some row) : ∃ d, l[i]? = some d ∧ row = d.cells := by
  simp only [drows, List.getElem?_map, Option.map_eq_some_iff] at h
  obtain ⟨d, h1, h2⟩ := h
  exact ⟨d, h1, h2.symm⟩
def nameAt (l : List Df) (i : Nat) : ByteArray := match l[i]? with
  | some d => d.name
  | none => ⟨#[]⟩

/-! ### The place of a name -/
def nix (s : ByteArray) : Nat → List Df → Int
  | _, [] => 0
  | k, d :: l => if d.name = s then (k : Int) + 1 else nix s (k + 1) l
def hv : Nat → List Df → TL
  | _, [] => []
  | k, d :: l => (k, d.name, (k : Int) + 1) :: hv (k + 1) l
theorem nix_zero {s : ByteArray} : ∀ {l : List Df} {k : Nat}, nix s k l = 0 ↔ ∀ d ∈ l, d.name ≠ s
  | [], k => by simp [nix]
  | d :: l, k => by
    simp only [nix, List.mem_cons, forall_eq_or_imp]
    split
    · rename_i h
      constructor
      · intro h2; omega
      · intro h2; exact absurd h h2.1
    · rename_i h
      rw [nix_zero]
      exact ⟨fun g => ⟨h, g⟩, fun g => g.2⟩
theorem nix_at {s : ByteArray} : ∀ {l : List Df} {k i : Nat} {d : Df}, l[i]? = some d → d.name = s → (∀ (j : Nat) (e : Df), j < i → l[j]? = some e → e.name ≠ s) → nix s k l = k + i + 1
  | [], k, i, d, h, _, _ => by simp at h
  | e :: l, k, 0, d, h, hs, _ => by simp at h; subst h; simp [nix, hs]
  | e :: l, k, i + 1, d, h, hs, hn => by
    have h0 := hn 0 e (by omega) rfl
    simp only [List.getElem?_cons_succ] at h
    simp only [nix, if_neg h0]
    rw [nix_at (k := k + 1) h hs (fun j e' hj he => hn (j + 1) e' (by omega) (by simpa using he))]
    omega
theorem nix_pos {s : ByteArray} : ∀ {l : List Df} {k : Nat}, nix s k l ≠ 0 → ∃ (i : Nat) (d : Df), l[i]? = some d ∧ d.name = s ∧ nix s k l = k + i + 1 ∧ ∀ (j : Nat) (e : Df), j < i → l[j]? = some e → e.name ≠ s
  | [], k, h => by simp [nix] at h
  | d :: l, k, h => by
    simp only [nix] at h ⊢
    split at h
    · rename_i hs
      exact ⟨0, d, rfl, hs, by simp [hs], fun j e hj => by omega⟩
    · rename_i hs
      obtain ⟨i, e, h1, h2, h3, h4⟩ := nix_pos h
      refine ⟨i + 1, e, by simpa using h1, h2, by rw [if_neg hs, h3]; omega, fun j e' hj he => ?_⟩
      cases j with
      | zero => simp at he; subst he; exact hs
      | succ j => exact h4 j e' (by omega) (by simpa using he)
theorem tget_hv (s : ByteArray) : ∀ (l : List Df) (k i : Nat), (tget s (hv k l) i).map (·.2) = if nix s k l = 0 then none else some (nix s k l)
  | [], k, i => by simp [hv, tget, nix]
  | d :: l, k, i => by
    simp only [hv, tget, nix]
    by_cases h : d.name = s
    · have h' : s = d.name := h.symm
      simp [h]
      omega
    · have h' : ¬ s = d.name := fun e => h e.symm
      simp [h, h']
      exact tget_hv s l (k + 1) (i + 1)
theorem tval_hv (s : ByteArray) (l : List Df) (k : Nat) : tval s (hv k l) = nix s k l := by
  have h := tget_hv s l k 0
  unfold tval
  cases hg : tget s (hv k l) 0 with
  | none => rw [hg] at h; simp at h; simp [h]
  | some x =>
    rw [hg] at h
    obtain ⟨j, v⟩ := x
    simp only [Option.map_some] at h
    split at h
    · cases h
    · simpa using h
theorem hv_snoc : ∀ (l : List Df) (k : Nat) (d : Df), hv k (l ++ [d]) = hv k l ++ [(k + l.length, d.name, ((k + l.length : Nat) : Int) + 1)]
  | [], k, d => by simp [hv]
  | e :: l, k, d => by
    simp only [List.cons_append, hv, hv_snoc l (k + 1) d, List.length_cons]
    congr 4
    · omega
    · congr 2; omega
theorem tput_hv {s : ByteArray} {l : List Df} {d : Df} {n : Nat} (hn : n = l.length) (hs : d.name = s) (h : nix s 0 l = 0) (v : Int) (hv' : v = (n : Int) + 1) : tput s v (n, hv 0 l) = (n + 1, hv 0 (l ++ [d])) := by
  have hg := tget_hv s l 0 0
  rw [if_pos h] at hg
  have hg : tget s (hv 0 l) 0 = none := by
    cases hh : tget s (hv 0 l) 0 with
    | none => rfl
    | some x => rw [hh] at hg; simp at hg
  unfold tput
  simp only [hg]
  rw [hv_snoc]
  subst hn; subst hs; subst hv'
  simp

/-! ### sound -/
def badAt (l : List Df) (i : Nat) : Bool := match l[i]? with
  | some d => !nameF d.name || (l.take i).any fun e => decide (e.name = d.name)
  | none => false
def errD (d : Df) : Int := if tmcheck d.tm ≠ 0 then tmcheck d.tm else if tmhas 17 d.tm = true then 30 else tcheck d.ty
def errAt (l : List Df) (i : Nat) : Int := match l[i]? with
  | some d => errD d
  | none => 0
/-- A fault: its number, its place, its word. -/
abbrev Fl := Int × Int × ByteArray
def noB : ByteArray := ⟨#[]⟩
def soundF (l : List Df) (main : ByteArray) : Int × Fl :=
  if l.length > 256 then (0, 3, 0, noB) else
  match (List.range l.length).find? (badAt l) with
  | some i => (0, 230, 0, nameAt l i)
  | none => match (List.range l.length).find? (fun i => decide (errAt l i ≠ 0)) with
    | some i => (0, errAt l i, 0, noB)
    | none => if nix main 0 l = 0 then (0, 5, 0, main) else (nix main 0 l - 1, 0, 0, noB)

def errV (f : Fl) : DV := if f.1 = 0 then .nili else .ifc 49 (.rp 0 [.int .i64 f.1, .int .i64 f.2.1, .str f.2.2])
def fltV (f : Fl) : Val := .agg [.d (.int .i64 f.1), .d (.int .i64 f.2.1), .d (.str f.2.2)]

theorem find_range {p : Nat → Bool} {n i : Nat} (hi : i < n) (hp : p i = true) (h : ∀ j, j < i → p j = false) : (List.range n).find? p = some i :=
  List.find?_range_eq_some.2 ⟨hp, by simpa using hi, fun j hj => by simp [h j hj]⟩
theorem find_range_none {p : Nat → Bool} {n : Nat} (h : ∀ j, j < n → p j = false) : (List.range n).find? p = none :=
  List.find?_range_eq_none.2 fun j hj => by simp [h j hj]
theorem soundF_long {l : List Df} {main : ByteArray} (h : l.length > 256) : soundF l main = (0, 3, 0, noB) := by simp [soundF, h]
theorem soundF_bad {l : List Df} {main : ByteArray} (h : ¬ l.length > 256) {i : Nat} {d : Df} (hd : l[i]? = some d) (hp : badAt l i = true) (hj : ∀ j, j < i → badAt l j = false) : soundF l main = (0, 230, 0, d.name) := by
  simp [soundF, h, find_range (List.getElem?_eq_some_iff.1 hd).1 hp hj, nameAt, hd]
theorem soundF_err {l : List Df} {main : ByteArray} (h : ¬ l.length > 256) (hb : ∀ j, j < l.length → badAt l j = false) {i : Nat} {d : Df} (hd : l[i]? = some d) (hp : errD d ≠ 0) (hj : ∀ j, j < i → errAt l j = 0) : soundF l main = (0, errD d, 0, noB) := by
  have he : errAt l i = errD d := by simp [errAt, hd]
  have := find_range (p := fun i => decide (errAt l i ≠ 0)) (List.getElem?_eq_some_iff.1 hd).1 (by simp [he, hp]) (fun j h => by simp [hj j h])
  simp only [soundF, if_neg h, find_range_none hb, this, he]
theorem soundF_end {l : List Df} {main : ByteArray} (h : ¬ l.length > 256) (hb : ∀ j, j < l.length → badAt l j = false) (hj : ∀ j, j < l.length → errAt l j = 0) : soundF l main = if nix main 0 l = 0 then (0, 5, 0, main) else (nix main 0 l - 1, 0, 0, noB) := by
  have := find_range_none (p := fun i => decide (errAt l i ≠ 0)) (n := l.length) (fun j h => by simp [hj j h])
  simp only [soundF, if_neg h, find_range_none hb, this]
theorem badAt_nix {l : List Df} {i : Nat} {d : Df} (hd : l[i]? = some d) : badAt l i = (!nameF d.name || !decide (nix d.name 0 (l.take i) = 0)) := by
  simp only [badAt, hd]
  congr 1
  rw [Bool.eq_iff_iff]
  simp [nix_zero]
end Go.Proofs.YthmbncehoblgpaaGreatDoor.E
