/- slices.Sort at an own row of strings: the library's contract in the engine's words. No conditions. -/
import Derived.Test.YthmbncehoblgpaaGreatDoorEngX3
import Derived.Test.YthmbncehoblgpaaGreatDoorTab
import Derived.Test.YthmbncehoblgpaaGreatDoorLay190
import Derived.Shelf.Sort.Plain
import Derived.Shelf.Slices.In.SortNone
import Derived.Sort.OwnSorted
import Derived.Lib.OwnBridge
set_option linter.unusedVariables false
set_option linter.unusedSimpArgs false
namespace Go.Proofs.YthmbncehoblgpaaGreatDoor.E
open Go Go.Sort Go.Shelf

/-- A list of strings, sorted. -/
def bsort (l : List ByteArray) : List ByteArray := ((l.map (·.data.toList)).mergeSort fun x y => decide (x ≤ y)).map fun x => ⟨x.toArray⟩
theorem bsort_len (l : List ByteArray) : (bsort l).length = l.length := by simp [bsort]
def strs (l : List ByteArray) : List (List DV) := l.map fun s => [.str s]
theorem strs_len (l : List ByteArray) : (strs l).length = l.length := by simp [strs]
set_option maxRecDepth 10000 in
set_option maxHeartbeats 1000000 in
theorem sort_call (e : Nat) (names : List ByteArray) (hn : names.length < 4611686018427387904) :
    ACall Tryz.prog 59 [.c (.own 0 names.length)] [.row e 1 (strs names)] (fun o σ => o = .ret (.tup []) ∧ σ = [.row e 1 (strs (bsort names))]) where
  out := fun w C vs hI hv => by
    have hl : vs.size = 1 := by have := hv.1; simpa using this
    obtain ⟨u, rfl⟩ : ∃ u, vs = #[u] := by
      match vs, hl with
      | ⟨[u]⟩, _ => exact ⟨u, rfl⟩
    have hx := c_of (hv.2 0 u _ rfl rfl)
    cases hx with
    | own _ _ en he hr hle A c hval =>
    obtain ⟨g1, g2, g3, g4, g5, xs, g6, g7⟩ := hI.ok 0 _ en rfl he
    have hval := hval (by rw [g2, strs_len])
    rw [strs_len] at g6
    rcases g6.2 with ⟨q1, q2⟩ | ⟨g, cap, cur, q1, q0, q3, q4, q5, q6, q7⟩
    · have : names = [] := List.eq_nil_of_length_eq_zero q2
      subst this
      rw [q1] at hval
      cases hval
      have hcon := Any.slices_Sort_string_none lays190 none 0 w
      change Calls Tryz.prog 59 _ _ _ at hcon
      refine hcon.mono fun e' w' ⟨h1, h2⟩ => ?_
      subst h1; subst h2
      exact ⟨_, _, C, ⟨rfl, by simp [bsort]⟩, hI, .refl _ _ _, _, rfl, .tup _ _ rfl (fun i v x h1 h2 => by simp at h1)⟩
    · rw [q1] at hval
      cases hval
      have hxs : xs = (names.map (·.data.toList)).map encStr := by
        rw [Lib.map_encStr]
        have hxl := g6.1
        refine List.ext_getElem (by simp at hxl ⊢; omega) fun j h1 h2 => ?_
        have hj : j < names.length := by simpa using h2
        obtain ⟨v, p1, p2⟩ := g7 j 0 [.str names[j]] (.str names[j]) (by simp [strs, hj]) rfl
        simp only [Nat.mul_one, Nat.add_zero] at p1
        rw [List.getElem?_eq_getElem h1] at p1
        cases p1
        rw [List.getElem_map]
        generalize xs[j] = v at p2
        cases p2
        rfl
      have hH := holds_of_block (ss := names.map (·.data.toList)) q3 (by rw [← hxs]; simpa using q7)
      have hlt : g < w.heap.size := (Array.getElem?_eq_some_iff.1 q3).1
      have hcon := Any.slices_Sort_string lays190 g 0 c (names.map (·.data.toList)) w hH hlt (by simpa using hn)
      change Calls Tryz.prog 59 _ _ _ at hcon
      rw [List.length_map] at hcon
      refine hcon.mono fun e' w' ⟨h1, n, os, h2⟩ => ?_
      subst h1; subst h2
      have hgb := grownBy_sorted (w := w) (g := g) (n := n) (os := os) ((names.map (·.data.toList)).mergeSort fun x y => decide (x ≤ y)).toArray
      have hb : en.b = some g := by rw [g3, q1]; rfl
      have hown := ownsRow_sorted (w := w) (base := 0) (n := n) (os := os) (ss := names.map (·.data.toList)) (ts := (names.map (·.data.toList)).mergeSort fun x y => decide (x ≤ y)) (by simp) (Nat.zero_le _) q3 (by simpa using q4) q5 q6
      generalize grow (putRow encStr (Sort.ahead w n) g 0 ((names.map (·.data.toList)).mergeSort fun x y => decide (x ≤ y)).toArray) os = W at hgb hown ⊢
      have hold : ∀ b, b < w.heap.size → en.b ≠ some b → W.heap[b]? = w.heap[b]? := fun b hb' hne => hgb.block b hb' (fun e1 => hne (by rw [hb, e1]))
      obtain ⟨u1, u2⟩ := hI.upd (i := 0) (o := .row e 1 (strs names)) (w' := W) (o' := .row e 1 (strs (bsort names))) (e' := en) rfl he rfl hgb.size (.refl en) hold (fun b' hb' => .inl hb')
        (fun hc => ⟨hr, by rw [g2, strs_len, strs_len, bsort_len], g3, g4, fun row hrow => by
            simp only [strs, List.mem_map] at hrow
            obtain ⟨s, _, rfl⟩ := hrow
            rfl, _, by rw [strs_len, bsort_len, q1]; simpa using hown, fun j i row x hj hi => by
          simp only [strs, List.getElem?_map, bsort] at hj
          cases hs : ((names.map (·.data.toList)).mergeSort fun x y => decide (x ≤ y))[j]? with
          | none => rw [hs] at hj; cases hj
          | some t =>
            rw [hs] at hj
            cases hj
            cases i with
            | succ i => simp at hi
            | zero =>
              cases hi
              exact ⟨encStr t, by simp [hs], .str _⟩⟩)
      exact ⟨_, _, _, ⟨rfl, rfl⟩, u2, Ext.upd (i := 0) (o := .row e 1 (strs names)) hI rfl he rfl hgb.os hgb.tape hgb.output hgb.size u1 hold (fun b' hb' => .inl hb'), _, rfl, .tup _ _ rfl (fun i v x h1 h2 => by simp at h1)⟩
end Go.Proofs.YthmbncehoblgpaaGreatDoor.E
