/- Texts, merged: Fr1, Lay190, FrS. No conditions. -/
import Derived.Test.YtoglfnjankinnaaGenX7
import Derived.Test.YtoglfnjankinnaaEngX3
import Derived.Test.YtoglfnjankinnaaTab
import Derived.Shelf.Sort.Plain
import Derived.KernelRfl
import Derived.Shelf.Slices.In.SortNone
import Derived.Sort.OwnSorted
import Derived.Lib.OwnBridge
/- Free names: the program's walk over a term, with its maps. No conditions. -/
set_option linter.unusedVariables false
set_option linter.unusedSimpArgs false
namespace Go.Proofs.Ytoglfnjankinnaa.E
open Go

/-! ### Maps from names to numbers -/
abbrev TL := List (Nat × ByteArray × Int)
def encL (l : TL) : List (Nat × DV × DV) := l.map fun x => (x.1, .str x.2.1, .int .i64 x.2.2)
def tget (s : ByteArray) : TL → Nat → Option (Nat × Int)
  | [], _ => none
  | (_, k, v) :: l, i => if s = k then some (i, v) else tget s l (i + 1)
def tset (j : Nat) (v : Int) : TL → TL
  | [] => []
  | (c, k, u) :: l => match j with
    | 0 => (c, k, v) :: l
    | j + 1 => (c, k, u) :: tset j v l
theorem mget_enc (s : ByteArray) : ∀ (l : TL) (i : Nat), mget (.str s) (encL l) i = (tget s l i).map fun x => (x.1, DV.int .i64 x.2)
  | [], i => rfl
  | (c, k, v) :: l, i => by
    have ih := mget_enc s l (i + 1)
    simp only [encL, List.map_cons, mget, tget, dvEq, decide_eq_true_eq] at ih ⊢
    by_cases h : s = k
    · rw [if_pos h, if_pos h]; rfl
    · rw [if_neg h, if_neg h, ih]
theorem mset_enc : ∀ (l : TL) (j : Nat) (v : Int), mset j (.int .i64 v) (encL l) = encL (tset j v l)
  | [], j, v => by simp [mset, tset, encL]
  | (c, k, u) :: l, 0, v => rfl
  | (c, k, u) :: l, j + 1, v => by
    have ih := mset_enc l j v
    simp only [encL] at ih
    simp only [encL, List.map_cons, mset, tset, ih]
def tval (s : ByteArray) (l : TL) : Int := match tget s l 0 with
  | some (_, v) => v
  | none => 0
def tput (s : ByteArray) (v : Int) (m : Nat × TL) : Nat × TL := match tget s m.2 0 with
  | some (j, _) => (m.1, tset j v m.2)
  | none => (m.1 + 1, m.2 ++ [(m.1, s, v)])
def tdel (s : ByteArray) (l : TL) : TL := match tget s l 0 with
  | some (j, _) => l.eraseIdx j
  | none => l
theorem mlook_of {s : ByteArray} {l : TL} {X : DV → Prop} (h : X (.int .i64 (tval s l))) : mlook (.str s) (encL l) (.int .i64 0) X := by
  unfold mlook
  rw [mget_enc]
  unfold tval at h
  cases hg : tget s l 0 with
  | none => rw [hg] at h; exact h
  | some x => rw [hg] at h; exact h
theorem mput_of {s : ByteArray} {v : Int} {l : TL} {ck : Nat} {X : Nat → List (Nat × DV × DV) → Prop} (h : X (tput s v (ck, l)).1 (encL (tput s v (ck, l)).2)) : mput (.str s) (.int .i64 v) (encL l) ck X := by
  unfold mput
  rw [mget_enc]
  unfold tput at h
  cases hg : tget s l 0 with
  | none =>
    rw [hg] at h
    simp only [Option.map_none]
    have : encL l ++ [(ck, DV.str s, DV.int .i64 v)] = encL (l ++ [(ck, s, v)]) := by simp [encL]
    rw [this]; exact h
  | some x =>
    rw [hg] at h
    simp only [Option.map_some]
    rw [mset_enc]; exact h
theorem mdel_of {s : ByteArray} {l : TL} {X : List (Nat × DV × DV) → Prop} (h : X (encL (tdel s l))) : mdel (.str s) (encL l) X := by
  unfold mdel
  rw [mget_enc]
  unfold tdel at h
  cases hg : tget s l 0 with
  | none => rw [hg] at h; exact h
  | some x =>
    rw [hg] at h
    simp only [Option.map_some]
    have : (encL l).eraseIdx x.1 = encL (l.eraseIdx x.1) := by simp only [encL, ChangeMaps.map_eraseIdx]
    rw [this]; exact h

attribute [irreducible] tval tput tdel encL
/-! ### What the walk does -/
abbrev FM := (Nat × TL) × (Nat × TL)
def fobj (m : FM) : List AObj := [.var [.mp 1, .mp 2], .mp .str m.1.1 (encL m.1.2), .mp .str m.2.1 (encL m.2.2)]
def finn (s : ByteArray) (m : FM) : FM := (tput s (IntKind.i64.wrap (tval s m.1.2 + 1)) m.1, m.2)
def fdec (s : ByteArray) (m : FM) : FM := (tput s (IntKind.i64.wrap (tval s m.1.2 - 1)) m.1, m.2)
def fout (s : ByteArray) (m : FM) : FM := if tval s (fdec s m).1.2 = 0 then (((fdec s m).1.1, tdel s (fdec s m).1.2), m.2) else fdec s m
def win : List ByteArray → FM → FM
  | [], m => m
  | [s], m => finn s m
  | s :: a :: _, m => finn a (finn s m)
def wout : List ByteArray → FM → FM
  | [], m => m
  | [s], m => fout s m
  | s :: a :: _, m => fdec s (fout a m)
def wsK (k : Int) (name arg : ByteArray) : List (List ByteArray) := if k = 4 then [[name]] else if k = 5 then [[name, arg]] else if k = 7 then [[], [name]] else if k = 14 then [[], [name], [arg]] else []
mutual
def fterm : Tm → FM → FM
  | .node k name arg _ _ _ _ _ _ _ ks, m => if k = 0 then (if tval name m.1.2 = 0 then (m.1, tput name 1 m.2) else m) else fterms ks (wsK k name arg) m
def fterms : List Tm → List (List ByteArray) → FM → FM
  | [], _, m => m
  | t :: l, w, m => fterms l w.tail (wout (w.headD []) (fterm t (win (w.headD []) m)))
end
theorem fterms_take : ∀ (ks : List Tm) (i : Nat) t (m : FM), ks[i]? = some t → fterms (ks.take (i + 1)) [] m = fterm t (fterms (ks.take i) [] m)
  | x :: l, 0, t, m, h => by simp at h; subst h; simp [fterms, win, wout]
  | x :: l, i + 1, t, m, h => by
    simp only [List.getElem?_cons_succ] at h
    have := fterms_take l i t (fterm x m) h
    simp only [List.take_succ_cons, fterms, List.tail_nil, List.headD_nil, win, wout, this]

/-- The contract of the walk over a term. -/
def TermC (t : Tm) : Prop := ∀ (ck : Nat) (l : TL) (cf : Nat) (fl : TL),
  ACall Try.prog 63 [.c (.ptr 0 0), .c (.d (.rp 0 t.cells))] [.var [.mp 1, .mp 2], .mp .str ck (encL l), .mp .str cf (encL fl)] (fun o σ => o = .ret (.tup []) ∧ σ = fobj (fterm t ((ck, l), (cf, fl))))
set_option maxRecDepth 10000 in
theorem within_call (s : ByteArray) (t : Tm) (ih : TermC t) (ck : Nat) (l : TL) (cf : Nat) (fl : TL) :
    ACall Try.prog 119 [.c (.ptr 0 0), .c (.d (.str s)), .c (.d (.rp 0 t.cells))] [.var [.mp 1, .mp 2], .mp .str ck (encL l), .mp .str cf (encL fl)]
      (fun o σ => o = .ret (.tup []) ∧ σ = fobj (fout s (fterm t (finn s ((ck, l), (cf, fl)))))) := by
  refine ACall.body tab_ok (ρ := 0) (N := 35) Try.func119 rfl rfl rfl rfl rfl ?_
  repeat' first
    | ((refine mlook_of ?_; conv => whnf))
    | ((refine mput_of ?_; conv => whnf))
    | ((refine mdel_of ?_; conv => whnf))
    | refine AW.seq ?_
    | refine AW.block ?_
    | (refine AW.region tab_ok ?_; conv => whnf)
    | (refine AW.cond ?_; conv => whnf)
    | (refine AW.skip ?_; conv => whnf)
    | (refine AW.ret ?_; conv => whnf)
    | (refine AW.exit ?_; conv => whnf)
    | (refine (ih _ _ _ _).mono ?_; rintro _ _ ⟨rfl, rfl⟩; conv => whnf)
    | (refine And.intro (@rfl Val _) ?_; conv => whnf)
    | (refine And.intro (by decide) ?_; conv => whnf)
    | (refine cs (fun _ => ?_) (fun _ => ?_) <;> conv => whnf)
  · rename_i h
    have h' : tval s (fdec s (fterm t (finn s ((ck, l), (cf, fl))))).1.2 = 0 := eq_of_beq h
    refine ⟨rfl, ?_⟩
    simp only [fout, if_pos h']
    rfl
  · rename_i h
    have h' : ¬ tval s (fdec s (fterm t (finn s ((ck, l), (cf, fl))))).1.2 = 0 := fun e => by
      have := (beq_eq_false_iff_ne.1 h)
      exact this e
    refine ⟨rfl, ?_⟩
    simp only [fout, if_neg h']
    rfl

structure FreeI (ks : List Tm) where
  i : Nat
  hi : i ≤ ks.length
set_option maxRecDepth 10000 in
set_option maxHeartbeats 1000000 in
theorem termF_call (t : Tm) : tmright t = true → tmN t ≤ 8192 → TermC t := by
  induction t using Tm.ind with
  | _ k name arg num tk tks uk uks label place ks ih =>
  intro hr hN ck l cf fl
  have hlen := tmNL_len ks
  simp only [tmN] at hN
  have ih' : ∀ t ∈ ks, TermC t := fun t ht => ih t ht (tmright_kid hr ht) (by have := tmN_mem ks t ht; omega)
  have hl8 : ks.length ≤ 8192 := by omega
  have hkl := tmright_len hr
  clear ih hN hr hlen
  by_cases h0 : k = 0
  · subst h0
    refine ACall.body tab_ok (ρ := 0) (N := 143) Try.func63 rfl rfl rfl rfl rfl ?_
    repeat' first
      | ((refine mlook_of ?_; conv => whnf))
      | ((refine mput_of ?_; conv => whnf))
      | refine AW.seq ?_
      | refine AW.block ?_
      | (refine AW.region tab_ok ?_; conv => whnf)
      | (refine AW.draw (id := 7) tab_ok mixed [0, 1, 2, 3, 4, 5, 6, 7, 8, 9] (by kernel_rfl) ?_; conv => whnf)
      | (refine AW.draw (id := 8) tab_ok mixed [0, 1, 2, 3, 4, 5, 6, 7, 8] (by kernel_rfl) ?_; conv => whnf)
      | (refine AW.draw (id := 10) tab_ok mixed [0, 1, 2, 3, 4, 5, 6, 7, 8, 9, 10] (by kernel_rfl) ?_; conv => whnf)
      | (refine AW.draw (id := 12) tab_ok mixed [0, 1, 2, 3, 4, 5, 6, 7, 8, 9, 10] (by kernel_rfl) ?_; conv => whnf)
      | (refine AW.draw (id := 13) tab_ok mixed [0, 1, 2, 3, 4, 5, 6, 7, 8, 9, 10] (by kernel_rfl) ?_; conv => whnf)
      | (refine AW.draw (id := 14) tab_ok mixed [0, 1, 2, 3, 4, 5, 6, 7, 8, 9, 10] (by kernel_rfl) ?_; conv => whnf)
      | (refine AW.draw (id := 17) tab_ok mixed [0, 1, 2, 3, 4, 5, 6, 7, 8, 9, 10] (by kernel_rfl) ?_; conv => whnf)
      | (refine AW.draw (id := 20) tab_ok mixed [0, 1, 2, 3, 4, 5, 6, 7, 8, 9, 10] (by kernel_rfl) ?_; conv => whnf)
      | (refine AW.draw (id := 21) tab_ok mixed [0, 1, 2, 3, 4, 5, 6, 7, 8, 9, 10] (by kernel_rfl) ?_; conv => whnf)
      | (refine AW.cond ?_; conv => whnf)
      | (refine AW.skip ?_; conv => whnf)
      | (refine AW.ret ?_; conv => whnf)
      | (refine AW.exit ?_; conv => whnf)
      | (refine And.intro (@rfl Val _) ?_; conv => whnf)
      | (refine And.intro (by decide) ?_; conv => whnf)
      | (refine cs (fun _ => ?_) (fun _ => ?_) <;> conv => whnf)
    · rename_i h
      have h' : tval name l = 0 := eq_of_beq h
      refine ⟨rfl, ?_⟩
      simp only [fterm, if_true, h']
      rfl
    · rename_i h
      have h' : ¬ tval name l = 0 := beq_eq_false_iff_ne.1 h
      refine ⟨rfl, ?_⟩
      simp only [fterm, if_true, if_neg h']
      rfl
  by_cases h4 : k = 4
  · subst h4
    have hk1 : ks.length = 1 := by simp [kidsK] at hkl; omega
    obtain ⟨a, rfl⟩ : ∃ a, ks = [a] := by
      match ks, hk1 with
      | [a], _ => exact ⟨a, rfl⟩
    have wa := fun s => within_call s a (ih' a (by simp))
    refine ACall.body tab_ok (ρ := 0) (N := 143) Try.func63 rfl rfl rfl rfl rfl ?_
    repeat' first
      | ((refine ⟨by simp [trows_length], fun row hrow => ?_⟩; simp [Tm.rows] at hrow; subst hrow; conv => whnf))
      | refine AW.seq ?_
      | refine AW.block ?_
      | (refine AW.region tab_ok ?_; conv => whnf)
      | (refine AW.draw (id := 7) tab_ok mixed [0, 1, 2, 3, 4, 5, 6, 7, 8, 9] (by kernel_rfl) ?_; conv => whnf)
      | (refine AW.draw (id := 8) tab_ok mixed [0, 1, 2, 3, 4, 5, 6, 7, 8] (by kernel_rfl) ?_; conv => whnf)
      | (refine AW.draw (id := 10) tab_ok mixed [0, 1, 2, 3, 4, 5, 6, 7, 8, 9, 10] (by kernel_rfl) ?_; conv => whnf)
      | (refine AW.draw (id := 12) tab_ok mixed [0, 1, 2, 3, 4, 5, 6, 7, 8, 9, 10] (by kernel_rfl) ?_; conv => whnf)
      | (refine AW.draw (id := 13) tab_ok mixed [0, 1, 2, 3, 4, 5, 6, 7, 8, 9, 10] (by kernel_rfl) ?_; conv => whnf)
      | (refine AW.draw (id := 14) tab_ok mixed [0, 1, 2, 3, 4, 5, 6, 7, 8, 9, 10] (by kernel_rfl) ?_; conv => whnf)
      | (refine AW.draw (id := 17) tab_ok mixed [0, 1, 2, 3, 4, 5, 6, 7, 8, 9, 10] (by kernel_rfl) ?_; conv => whnf)
      | (refine AW.draw (id := 20) tab_ok mixed [0, 1, 2, 3, 4, 5, 6, 7, 8, 9, 10] (by kernel_rfl) ?_; conv => whnf)
      | (refine AW.draw (id := 21) tab_ok mixed [0, 1, 2, 3, 4, 5, 6, 7, 8, 9, 10] (by kernel_rfl) ?_; conv => whnf)
      | (refine AW.cond ?_; conv => whnf)
      | (refine AW.skip ?_; conv => whnf)
      | (refine AW.ret ?_; conv => whnf)
      | (refine AW.exit ?_; conv => whnf)
      | (refine (wa _ _ _ _ _).mono ?_; rintro _ _ ⟨rfl, rfl⟩; conv => whnf)
      | (refine And.intro (@rfl Val _) ?_; conv => whnf)
      | (refine And.intro (by decide) ?_; conv => whnf)
      | (refine cs (fun _ => ?_) (fun _ => ?_) <;> conv => whnf)
    exact ⟨rfl, rfl⟩
  by_cases h5 : k = 5
  · subst h5
    have hk1 : ks.length = 1 := by simp [kidsK] at hkl; omega
    obtain ⟨a, rfl⟩ : ∃ a, ks = [a] := by
      match ks, hk1 with
      | [a], _ => exact ⟨a, rfl⟩
    have wa := fun s => within_call s a (ih' a (by simp))
    refine ACall.body tab_ok (ρ := 0) (N := 143) Try.func63 rfl rfl rfl rfl rfl ?_
    repeat' first
      | ((refine mlook_of ?_; conv => whnf))
      | ((refine mput_of ?_; conv => whnf))
      | ((refine ⟨by simp [trows_length], fun row hrow => ?_⟩; simp [Tm.rows] at hrow; subst hrow; conv => whnf))
      | refine AW.seq ?_
      | refine AW.block ?_
      | (refine AW.region tab_ok ?_; conv => whnf)
      | (refine AW.draw (id := 7) tab_ok mixed [0, 1, 2, 3, 4, 5, 6, 7, 8, 9] (by kernel_rfl) ?_; conv => whnf)
      | (refine AW.draw (id := 8) tab_ok mixed [0, 1, 2, 3, 4, 5, 6, 7, 8] (by kernel_rfl) ?_; conv => whnf)
      | (refine AW.draw (id := 10) tab_ok mixed [0, 1, 2, 3, 4, 5, 6, 7, 8, 9, 10] (by kernel_rfl) ?_; conv => whnf)
      | (refine AW.draw (id := 12) tab_ok mixed [0, 1, 2, 3, 4, 5, 6, 7, 8, 9, 10] (by kernel_rfl) ?_; conv => whnf)
      | (refine AW.draw (id := 13) tab_ok mixed [0, 1, 2, 3, 4, 5, 6, 7, 8, 9, 10] (by kernel_rfl) ?_; conv => whnf)
      | (refine AW.draw (id := 14) tab_ok mixed [0, 1, 2, 3, 4, 5, 6, 7, 8, 9, 10] (by kernel_rfl) ?_; conv => whnf)
      | (refine AW.draw (id := 17) tab_ok mixed [0, 1, 2, 3, 4, 5, 6, 7, 8, 9, 10] (by kernel_rfl) ?_; conv => whnf)
      | (refine AW.draw (id := 20) tab_ok mixed [0, 1, 2, 3, 4, 5, 6, 7, 8, 9, 10] (by kernel_rfl) ?_; conv => whnf)
      | (refine AW.draw (id := 21) tab_ok mixed [0, 1, 2, 3, 4, 5, 6, 7, 8, 9, 10] (by kernel_rfl) ?_; conv => whnf)
      | (refine AW.cond ?_; conv => whnf)
      | (refine AW.skip ?_; conv => whnf)
      | (refine AW.ret ?_; conv => whnf)
      | (refine AW.exit ?_; conv => whnf)
      | (refine (wa _ _ _ _ _).mono ?_; rintro _ _ ⟨rfl, rfl⟩; conv => whnf)
      | (refine And.intro (@rfl Val _) ?_; conv => whnf)
      | (refine And.intro (by decide) ?_; conv => whnf)
      | (refine cs (fun _ => ?_) (fun _ => ?_) <;> conv => whnf)
    exact ⟨rfl, rfl⟩
  by_cases h7 : k = 7
  · subst h7
    have hk1 : ks.length = 2 := by simp [kidsK] at hkl; omega
    obtain ⟨a, b, rfl⟩ : ∃ a b, ks = [a, b] := by
      match ks, hk1 with
      | [a, b], _ => exact ⟨a, b, rfl⟩
    have ia := ih' a (by simp)
    have wb := fun s => within_call s b (ih' b (by simp))
    refine ACall.body tab_ok (ρ := 0) (N := 143) Try.func63 rfl rfl rfl rfl rfl ?_
    repeat' first
      | ((refine ⟨by simp [trows_length], fun row hrow => ?_⟩; simp [Tm.rows] at hrow; subst hrow; conv => whnf))
      | refine AW.seq ?_
      | refine AW.block ?_
      | (refine AW.region tab_ok ?_; conv => whnf)
      | (refine AW.draw (id := 7) tab_ok mixed [0, 1, 2, 3, 4, 5, 6, 7, 8, 9] (by kernel_rfl) ?_; conv => whnf)
      | (refine AW.draw (id := 8) tab_ok mixed [0, 1, 2, 3, 4, 5, 6, 7, 8] (by kernel_rfl) ?_; conv => whnf)
      | (refine AW.draw (id := 10) tab_ok mixed [0, 1, 2, 3, 4, 5, 6, 7, 8, 9, 10] (by kernel_rfl) ?_; conv => whnf)
      | (refine AW.draw (id := 12) tab_ok mixed [0, 1, 2, 3, 4, 5, 6, 7, 8, 9, 10] (by kernel_rfl) ?_; conv => whnf)
      | (refine AW.draw (id := 13) tab_ok mixed [0, 1, 2, 3, 4, 5, 6, 7, 8, 9, 10] (by kernel_rfl) ?_; conv => whnf)
      | (refine AW.draw (id := 14) tab_ok mixed [0, 1, 2, 3, 4, 5, 6, 7, 8, 9, 10] (by kernel_rfl) ?_; conv => whnf)
      | (refine AW.draw (id := 17) tab_ok mixed [0, 1, 2, 3, 4, 5, 6, 7, 8, 9, 10] (by kernel_rfl) ?_; conv => whnf)
      | (refine AW.draw (id := 20) tab_ok mixed [0, 1, 2, 3, 4, 5, 6, 7, 8, 9, 10] (by kernel_rfl) ?_; conv => whnf)
      | (refine AW.draw (id := 21) tab_ok mixed [0, 1, 2, 3, 4, 5, 6, 7, 8, 9, 10] (by kernel_rfl) ?_; conv => whnf)
      | (refine AW.cond ?_; conv => whnf)
      | (refine AW.skip ?_; conv => whnf)
      | (refine AW.ret ?_; conv => whnf)
      | (refine AW.exit ?_; conv => whnf)
      | (refine (ia _ _ _ _).mono ?_; rintro _ _ ⟨rfl, rfl⟩; conv => whnf)
      | (refine (wb _ _ _ _ _).mono ?_; rintro _ _ ⟨rfl, rfl⟩; conv => whnf)
      | (refine And.intro (@rfl Val _) ?_; conv => whnf)
      | (refine And.intro (by decide) ?_; conv => whnf)
      | (refine cs (fun _ => ?_) (fun _ => ?_) <;> conv => whnf)
    exact ⟨rfl, rfl⟩
  by_cases h14 : k = 14
  · subst h14
    have hk1 : ks.length = 3 := by simp [kidsK] at hkl; omega
    obtain ⟨a, b, c, rfl⟩ : ∃ a b c, ks = [a, b, c] := by
      match ks, hk1 with
      | [a, b, c], _ => exact ⟨a, b, c, rfl⟩
    have ia := ih' a (by simp)
    have wb := fun s => within_call s b (ih' b (by simp))
    have wc := fun s => within_call s c (ih' c (by simp))
    refine ACall.body tab_ok (ρ := 0) (N := 143) Try.func63 rfl rfl rfl rfl rfl ?_
    repeat' first
      | ((refine ⟨by simp [trows_length], fun row hrow => ?_⟩; simp [Tm.rows] at hrow; subst hrow; conv => whnf))
      | refine AW.seq ?_
      | refine AW.block ?_
      | (refine AW.region tab_ok ?_; conv => whnf)
      | (refine AW.draw (id := 7) tab_ok mixed [0, 1, 2, 3, 4, 5, 6, 7, 8, 9] (by kernel_rfl) ?_; conv => whnf)
      | (refine AW.draw (id := 8) tab_ok mixed [0, 1, 2, 3, 4, 5, 6, 7, 8] (by kernel_rfl) ?_; conv => whnf)
      | (refine AW.draw (id := 10) tab_ok mixed [0, 1, 2, 3, 4, 5, 6, 7, 8, 9, 10] (by kernel_rfl) ?_; conv => whnf)
      | (refine AW.draw (id := 12) tab_ok mixed [0, 1, 2, 3, 4, 5, 6, 7, 8, 9, 10] (by kernel_rfl) ?_; conv => whnf)
      | (refine AW.draw (id := 13) tab_ok mixed [0, 1, 2, 3, 4, 5, 6, 7, 8, 9, 10] (by kernel_rfl) ?_; conv => whnf)
      | (refine AW.draw (id := 14) tab_ok mixed [0, 1, 2, 3, 4, 5, 6, 7, 8, 9, 10] (by kernel_rfl) ?_; conv => whnf)
      | (refine AW.draw (id := 17) tab_ok mixed [0, 1, 2, 3, 4, 5, 6, 7, 8, 9, 10] (by kernel_rfl) ?_; conv => whnf)
      | (refine AW.draw (id := 20) tab_ok mixed [0, 1, 2, 3, 4, 5, 6, 7, 8, 9, 10] (by kernel_rfl) ?_; conv => whnf)
      | (refine AW.draw (id := 21) tab_ok mixed [0, 1, 2, 3, 4, 5, 6, 7, 8, 9, 10] (by kernel_rfl) ?_; conv => whnf)
      | (refine AW.cond ?_; conv => whnf)
      | (refine AW.skip ?_; conv => whnf)
      | (refine AW.ret ?_; conv => whnf)
      | (refine AW.exit ?_; conv => whnf)
      | (refine (ia _ _ _ _).mono ?_; rintro _ _ ⟨rfl, rfl⟩; conv => whnf)
      | (refine (wb _ _ _ _ _).mono ?_; rintro _ _ ⟨rfl, rfl⟩; conv => whnf)
      | (refine (wc _ _ _ _ _).mono ?_; rintro _ _ ⟨rfl, rfl⟩; conv => whnf)
      | (refine And.intro (@rfl Val _) ?_; conv => whnf)
      | (refine And.intro (by decide) ?_; conv => whnf)
      | (refine cs (fun _ => ?_) (fun _ => ?_) <;> conv => whnf)
    exact ⟨rfl, rfl⟩
  have b0 : (k == 0) = false := by simpa using h0
  have b4 : (k == 4) = false := by simpa using h4
  have b5 : (k == 5) = false := by simpa using h5
  have b7 : (k == 7) = false := by simpa using h7
  have b14 : (k == 14) = false := by simpa using h14
  have hw : wsK k name arg = [] := by simp only [wsK, if_neg h4, if_neg h5, if_neg h7, if_neg h14]
  have hf : ∀ m, fterm (.node k name arg num tk tks uk uks label place ks) m = fterms ks [] m := fun m => by simp only [fterm, if_neg h0, hw]
  simp only [hf]
  clear hf hw hkl h0 h4 h5 h7 h14
  refine ACall.body tab_ok (ρ := 0) (N := 143) Try.func63 rfl rfl rfl rfl rfl ?_
  repeat' first
    | ((refine cs (fun h => absurd h (by first | (rw [b0]; decide) | (rw [b4]; decide) | (rw [b5]; decide) | (rw [b7]; decide) | (rw [b14]; decide))) (fun _ => ?_); conv => whnf))
    | refine AW.seq ?_
    | refine AW.block ?_
    | (refine AW.region tab_ok ?_; conv => whnf)
    | (refine AW.draw (id := 7) tab_ok mixed [0, 1, 2, 3, 4, 5, 6, 7, 8, 9] (by kernel_rfl) ?_; conv => whnf)
    | (refine AW.draw (id := 8) tab_ok mixed [0, 1, 2, 3, 4, 5, 6, 7, 8] (by kernel_rfl) ?_; conv => whnf)
    | (refine AW.draw (id := 10) tab_ok mixed [0, 1, 2, 3, 4, 5, 6, 7, 8, 9, 10] (by kernel_rfl) ?_; conv => whnf)
    | (refine AW.draw (id := 12) tab_ok mixed [0, 1, 2, 3, 4, 5, 6, 7, 8, 9, 10] (by kernel_rfl) ?_; conv => whnf)
    | (refine AW.draw (id := 13) tab_ok mixed [0, 1, 2, 3, 4, 5, 6, 7, 8, 9, 10] (by kernel_rfl) ?_; conv => whnf)
    | (refine AW.draw (id := 14) tab_ok mixed [0, 1, 2, 3, 4, 5, 6, 7, 8, 9, 10] (by kernel_rfl) ?_; conv => whnf)
    | (refine AW.draw (id := 17) tab_ok mixed [0, 1, 2, 3, 4, 5, 6, 7, 8, 9, 10] (by kernel_rfl) ?_; conv => whnf)
    | (refine AW.draw (id := 20) tab_ok mixed [0, 1, 2, 3, 4, 5, 6, 7, 8, 9, 10] (by kernel_rfl) ?_; conv => whnf)
    | (refine AW.draw (id := 21) tab_ok mixed [0, 1, 2, 3, 4, 5, 6, 7, 8, 9, 10] (by kernel_rfl) ?_; conv => whnf)
    | (refine AW.cond ?_; conv => whnf)
    | (refine AW.skip ?_; conv => whnf)
    | (refine AW.ret ?_; conv => whnf)
    | (refine AW.exit ?_; conv => whnf)
    | (refine And.intro (@rfl Val _) ?_; conv => whnf)
    | (refine And.intro (by decide) ?_; conv => whnf)
    | (refine cs (fun _ => ?_) (fun _ => ?_) <;> conv => whnf)
  refine AW.loop (ι := FreeI ks) (fun x => ⟨143, [(14, .c (.d (.int .i64 x.i))), (13, .c (.d (.int .i64 (Tm.rows ks).length))), (0, .c (.ptr 0 0)), (1, .c (.d (.rp 0 (Tm.node k name arg num tk tks uk uks label place ks).cells)))],
      [.var [.mp 1, .mp 2], .mp .str (fterms (ks.take x.i) [] ((ck, l), (cf, fl))).1.1 (encL (fterms (ks.take x.i) [] ((ck, l), (cf, fl))).1.2), .mp .str (fterms (ks.take x.i) [] ((ck, l), (cf, fl))).2.1 (encL (fterms (ks.take x.i) [] ((ck, l), (cf, fl))).2.2)], []⟩)
    (fun x => ks.length - x.i) ⟨0, Nat.zero_le _⟩ 3 (fun _ => rfl) (Nat.le_of_ble_eq_true rfl) ⟨⟨rfl, rfl, rfl, rfl, trivial⟩, rfl, rfl, ⟨[], rfl⟩, rfl⟩ (fun x => ?_)
  obtain ⟨i, hi⟩ := x
  repeat' first
    | refine AW.seq ?_
    | refine AW.block ?_
    | (refine AW.region tab_ok ?_; conv => whnf)
    | (refine AW.draw (id := 7) tab_ok mixed [0, 1, 2, 3, 4, 5, 6, 7, 8, 9] (by kernel_rfl) ?_; conv => whnf)
    | (refine AW.draw (id := 8) tab_ok mixed [0, 1, 2, 3, 4, 5, 6, 7, 8] (by kernel_rfl) ?_; conv => whnf)
    | (refine AW.draw (id := 10) tab_ok mixed [0, 1, 2, 3, 4, 5, 6, 7, 8, 9, 10] (by kernel_rfl) ?_; conv => whnf)
    | (refine AW.draw (id := 12) tab_ok mixed [0, 1, 2, 3, 4, 5, 6, 7, 8, 9, 10] (by kernel_rfl) ?_; conv => whnf)
    | (refine AW.draw (id := 13) tab_ok mixed [0, 1, 2, 3, 4, 5, 6, 7, 8, 9, 10] (by kernel_rfl) ?_; conv => whnf)
    | (refine AW.draw (id := 14) tab_ok mixed [0, 1, 2, 3, 4, 5, 6, 7, 8, 9, 10] (by kernel_rfl) ?_; conv => whnf)
    | (refine AW.draw (id := 17) tab_ok mixed [0, 1, 2, 3, 4, 5, 6, 7, 8, 9, 10] (by kernel_rfl) ?_; conv => whnf)
    | (refine AW.draw (id := 20) tab_ok mixed [0, 1, 2, 3, 4, 5, 6, 7, 8, 9, 10] (by kernel_rfl) ?_; conv => whnf)
    | (refine AW.draw (id := 21) tab_ok mixed [0, 1, 2, 3, 4, 5, 6, 7, 8, 9, 10] (by kernel_rfl) ?_; conv => whnf)
    | (refine AW.cond ?_; conv => whnf)
    | (refine AW.skip ?_; conv => whnf)
    | (refine AW.ret ?_; conv => whnf)
    | (refine AW.exit ?_; conv => whnf)
    | (refine And.intro (@rfl Val _) ?_; conv => whnf)
    | (refine And.intro (by decide) ?_; conv => whnf)
    | (refine cs (fun _ => ?_) (fun _ => ?_) <;> conv => whnf)
  · rename_i h1
    simp only [trows_length] at h1 ⊢
    have := of_decide_eq_true h1
    refine ⟨by omega, fun row hrow => ?_⟩
    obtain ⟨t, ht, rfl⟩ := trows_get ks i row (by simpa using hrow)
    have hlt : i < ks.length := (List.getElem?_eq_some_iff.1 ht).1
    have ia := ih' t (List.mem_of_getElem? ht)
    have hs := fterms_take ks i _ ((ck, l), (cf, fl)) ht
    conv => whnf
    repeat' first
      | refine AW.seq ?_
      | refine AW.block ?_
      | (refine AW.region tab_ok ?_; conv => whnf)
      | (refine AW.draw (id := 7) tab_ok mixed [0, 1, 2, 3, 4, 5, 6, 7, 8, 9] (by kernel_rfl) ?_; conv => whnf)
      | (refine AW.draw (id := 8) tab_ok mixed [0, 1, 2, 3, 4, 5, 6, 7, 8] (by kernel_rfl) ?_; conv => whnf)
      | (refine AW.draw (id := 10) tab_ok mixed [0, 1, 2, 3, 4, 5, 6, 7, 8, 9, 10] (by kernel_rfl) ?_; conv => whnf)
      | (refine AW.draw (id := 12) tab_ok mixed [0, 1, 2, 3, 4, 5, 6, 7, 8, 9, 10] (by kernel_rfl) ?_; conv => whnf)
      | (refine AW.draw (id := 13) tab_ok mixed [0, 1, 2, 3, 4, 5, 6, 7, 8, 9, 10] (by kernel_rfl) ?_; conv => whnf)
      | (refine AW.draw (id := 14) tab_ok mixed [0, 1, 2, 3, 4, 5, 6, 7, 8, 9, 10] (by kernel_rfl) ?_; conv => whnf)
      | (refine AW.draw (id := 17) tab_ok mixed [0, 1, 2, 3, 4, 5, 6, 7, 8, 9, 10] (by kernel_rfl) ?_; conv => whnf)
      | (refine AW.draw (id := 20) tab_ok mixed [0, 1, 2, 3, 4, 5, 6, 7, 8, 9, 10] (by kernel_rfl) ?_; conv => whnf)
      | (refine AW.draw (id := 21) tab_ok mixed [0, 1, 2, 3, 4, 5, 6, 7, 8, 9, 10] (by kernel_rfl) ?_; conv => whnf)
      | (refine AW.cond ?_; conv => whnf)
      | (refine AW.skip ?_; conv => whnf)
      | (refine AW.ret ?_; conv => whnf)
      | (refine AW.exit ?_; conv => whnf)
      | (refine (ia _ _ _ _).mono ?_; rintro _ _ ⟨rfl, rfl⟩; conv => whnf)
      | (refine And.intro (@rfl Val _) ?_; conv => whnf)
      | (refine And.intro (by decide) ?_; conv => whnf)
      | (refine cs (fun _ => ?_) (fun _ => ?_) <;> conv => whnf)
    rw [wrap64 (x := (i : Int) + 1) (by omega) (by omega)]
    refine ⟨⟨i + 1, hlt⟩, ⟨⟨rfl, rfl, rfl, rfl, trivial⟩, rfl, rfl, ⟨[], ?_⟩, rfl⟩, show ks.length - (i + 1) < ks.length - i by omega⟩
    simp only [hs]
    rfl
  · rename_i h1
    simp only [trows_length] at h1
    have := of_decide_eq_false h1
    obtain rfl : i = ks.length := by omega
    simp only [List.take_length]
    exact ⟨rfl, rfl⟩
end Go.Proofs.Ytoglfnjankinnaa.E

/- A function of Go's library laid at this translation: its code is the one that the library's contract speaks of. No conditions. -/
namespace Go.Proofs.Ytoglfnjankinnaa.E
open Go.Shelf
def lays190_ren : Go.Shelf.Ren := ⟨fun | 190 => 64 | 125 => 121 | 258 => 120 | 128 => 168 | 129 => 169 | 302 => 159 | 303 => 160 | 304 => 161 | 305 => 162 | 306 => 163 | 307 => 164 | 308 => 165 | 309 => 166 | 310 => 167 | 333 => 179 | 329 => 180 | 330 => 181 | 334 => 182 | 335 => 183 | 336 => 184 | 344 => 189 | n => n, fun | 31 => 55 | 9 => 9 | 3 => 3 | 46 => 126 | 0 => 0 | 51 => 169 | 53 => 171 | 4 => 4 | 183 => 161 | 182 => 160 | 131 => 166 | 5 => 5 | 218 => 177 | 222 => 71 | 228 => 183 | 229 => 184 | n => n, fun n => n⟩
set_option maxRecDepth 100000 in
theorem lays190 : Go.Proofs.Lays.n190 Try.prog lays190_ren where
  mixed := by kernel_rfl
  f125 := Try.func121.trans (congrArg some (by kernel_rfl))
  f128 := Try.func168.trans (congrArg some (by kernel_rfl))
  f129 := Try.func169.trans (congrArg some (by kernel_rfl))
  f190 := Try.func64.trans (congrArg some (by kernel_rfl))
  f258 := Try.func120.trans (congrArg some (by kernel_rfl))
  f302 := Try.func159.trans (congrArg some (by kernel_rfl))
  f303 := Try.func160.trans (congrArg some (by kernel_rfl))
  f304 := Try.func161.trans (congrArg some (by kernel_rfl))
  f305 := Try.func162.trans (congrArg some (by kernel_rfl))
  f306 := Try.func163.trans (congrArg some (by kernel_rfl))
  f307 := Try.func164.trans (congrArg some (by kernel_rfl))
  f308 := Try.func165.trans (congrArg some (by kernel_rfl))
  f309 := Try.func166.trans (congrArg some (by kernel_rfl))
  f310 := Try.func167.trans (congrArg some (by kernel_rfl))
  f329 := Try.func180.trans (congrArg some (by kernel_rfl))
  f330 := Try.func181.trans (congrArg some (by kernel_rfl))
  f333 := Try.func179.trans (congrArg some (by kernel_rfl))
  f334 := Try.func182.trans (congrArg some (by kernel_rfl))
  f335 := Try.func183.trans (congrArg some (by kernel_rfl))
  f336 := Try.func184.trans (congrArg some (by kernel_rfl))
  f344 := Try.func189.trans (congrArg some (by kernel_rfl))
  t0 := Try.underlying0
  a0 := Try.isAgg0
  z0 := Try.sizeOf0
  v0 := Try.zeroValue0
  t3 := Try.underlying3
  a3 := Try.isAgg3
  z3 := Try.sizeOf3
  v3 := Try.zeroValue3
  t4 := Try.underlying4
  a4 := Try.isAgg4
  z4 := Try.sizeOf4
  v4 := Try.zeroValue4
  t5 := Try.underlying5
  a5 := Try.isAgg5
  z5 := Try.sizeOf5
  v5 := Try.zeroValue5
  t9 := Try.underlying9
  a9 := Try.isAgg9
  z9 := Try.sizeOf9
  v9 := Try.zeroValue9
  t31 := Try.underlying55
  a31 := Try.isAgg55
  z31 := Try.sizeOf55
  v31 := Try.zeroValue55
  t46 := Try.underlying126
  a46 := Try.isAgg126
  z46 := Try.sizeOf126
  v46 := Try.zeroValue126
  t51 := Try.underlying169
  a51 := Try.isAgg169
  z51 := Try.sizeOf169
  v51 := Try.zeroValue169
  t53 := Try.underlying171
  a53 := Try.isAgg171
  z53 := Try.sizeOf171
  v53 := Try.zeroValue171
  t131 := Try.underlying166
  a131 := Try.isAgg166
  z131 := Try.sizeOf166
  v131 := Try.zeroValue166
  t182 := Try.underlying160
  a182 := Try.isAgg160
  z182 := Try.sizeOf160
  v182 := Try.zeroValue160
  t183 := Try.underlying161
  a183 := Try.isAgg161
  z183 := Try.sizeOf161
  v183 := Try.zeroValue161
  t218 := Try.underlying177
  a218 := Try.isAgg177
  z218 := Try.sizeOf177
  v218 := Try.zeroValue177
  t222 := Try.underlying71
  a222 := Try.isAgg71
  z222 := Try.sizeOf71
  v222 := Try.zeroValue71
  t228 := Try.underlying183
  a228 := Try.isAgg183
  z228 := Try.sizeOf183
  v228 := Try.zeroValue183
  t229 := Try.underlying184
  a229 := Try.isAgg184
  z229 := Try.sizeOf184
  v229 := Try.zeroValue184
end Go.Proofs.Ytoglfnjankinnaa.E

/- slices.Sort at an own row of strings: the library's contract in the engine's words. No conditions. -/
set_option linter.unusedVariables false
set_option linter.unusedSimpArgs false
namespace Go.Proofs.Ytoglfnjankinnaa.E
open Go Go.Sort Go.Shelf

/-- A list of strings, sorted. -/
def bsort (l : List ByteArray) : List ByteArray := ((l.map (·.data.toList)).mergeSort fun x y => decide (x ≤ y)).map fun x => ⟨x.toArray⟩
theorem bsort_len (l : List ByteArray) : (bsort l).length = l.length := by simp [bsort]
def strs (l : List ByteArray) : List (List DV) := l.map fun s => [.str s]
theorem strs_len (l : List ByteArray) : (strs l).length = l.length := by simp [strs]
set_option maxRecDepth 10000 in
set_option maxHeartbeats 1000000 in
theorem sort_call (e : Nat) (names : List ByteArray) (hn : names.length < 4611686018427387904) :
    ACall Try.prog 64 [.c (.own 0 names.length)] [.row e 1 (strs names)] (fun o σ => o = .ret (.tup []) ∧ σ = [.row e 1 (strs (bsort names))]) where
  out := fun w C vs hI hv => by
    have hl : vs.size = 1 := by have := hv.1; simpa using this
    obtain ⟨u, rfl⟩ : ∃ u, vs = #[u] := by
      match vs, hl with
      | ⟨[u]⟩, _ => exact ⟨u, rfl⟩
    have hx := c_of (hv.2 0 u _ rfl rfl)
    cases hx with
    | own _ _ en he hr hle A c hval =>
    obtain ⟨g1, g2, g3, g4, g5, xs, g6, g7⟩ := hI.ok 0 _ en rfl he
    have hval := hval (by rw [g2, strs_len])
    rw [strs_len] at g6
    rcases g6.2 with ⟨q1, q2⟩ | ⟨g, cap, cur, q1, q0, q3, q4, q5, q6, q7⟩
    · have : names = [] := List.eq_nil_of_length_eq_zero q2
      subst this
      rw [q1] at hval
      cases hval
      have hcon := Any.slices_Sort_string_none lays190 none 0 w
      change Calls Try.prog 64 _ _ _ at hcon
      refine hcon.mono fun e' w' ⟨h1, h2⟩ => ?_
      subst h1; subst h2
      exact ⟨_, _, C, ⟨rfl, by simp [bsort]⟩, hI, .refl _ _ _, _, rfl, .tup _ _ rfl (fun i v x h1 h2 => by simp at h1)⟩
    · rw [q1] at hval
      cases hval
      have hxs : xs = (names.map (·.data.toList)).map encStr := by
        rw [Lib.map_encStr]
        have hxl := g6.1
        refine List.ext_getElem (by simp at hxl ⊢; omega) fun j h1 h2 => ?_
        have hj : j < names.length := by simpa using h2
        obtain ⟨v, p1, p2⟩ := g7 j 0 [.str names[j]] (.str names[j]) (by simp [strs, hj]) rfl
        simp only [Nat.mul_one, Nat.add_zero] at p1
        rw [List.getElem?_eq_getElem h1] at p1
        cases p1
        rw [List.getElem_map]
        generalize xs[j] = v at p2
        cases p2
        rfl
      have hH := holds_of_block (ss := names.map (·.data.toList)) q3 (by rw [← hxs]; simpa using q7)
      have hlt : g < w.heap.size := (Array.getElem?_eq_some_iff.1 q3).1
      have hcon := Any.slices_Sort_string lays190 g 0 c (names.map (·.data.toList)) w hH hlt (by simpa using hn)
      change Calls Try.prog 64 _ _ _ at hcon
      rw [List.length_map] at hcon
      refine hcon.mono fun e' w' ⟨h1, n, os, h2⟩ => ?_
      subst h1; subst h2
      have hgb := grownBy_sorted (w := w) (g := g) (n := n) (os := os) ((names.map (·.data.toList)).mergeSort fun x y => decide (x ≤ y)).toArray
      have hb : en.b = some g := by rw [g3, q1]; rfl
      have hown := ownsRow_sorted (w := w) (base := 0) (n := n) (os := os) (ss := names.map (·.data.toList)) (ts := (names.map (·.data.toList)).mergeSort fun x y => decide (x ≤ y)) (by simp) (Nat.zero_le _) q3 (by simpa using q4) q5 q6
      generalize grow (putRow encStr (Sort.ahead w n) g 0 ((names.map (·.data.toList)).mergeSort fun x y => decide (x ≤ y)).toArray) os = W at hgb hown ⊢
      have hold : ∀ b, b < w.heap.size → en.b ≠ some b → W.heap[b]? = w.heap[b]? := fun b hb' hne => hgb.block b hb' (fun e1 => hne (by rw [hb, e1]))
      obtain ⟨u1, u2⟩ := hI.upd (i := 0) (o := .row e 1 (strs names)) (w' := W) (o' := .row e 1 (strs (bsort names))) (e' := en) rfl he rfl hgb.size (.refl en) hold (fun b' hb' => .inl hb')
        (fun hc => ⟨hr, by rw [g2, strs_len, strs_len, bsort_len], g3, g4, fun row hrow => by
            simp only [strs, List.mem_map] at hrow
            obtain ⟨s, _, rfl⟩ := hrow
            rfl, _, by rw [strs_len, bsort_len, q1]; simpa using hown, fun j i row x hj hi => by
          simp only [strs, List.getElem?_map, bsort] at hj
          cases hs : ((names.map (·.data.toList)).mergeSort fun x y => decide (x ≤ y))[j]? with
          | none => rw [hs] at hj; cases hj
          | some t =>
            rw [hs] at hj
            cases hj
            cases i with
            | succ i => simp at hi
            | zero =>
              cases hi
              exact ⟨encStr t, by simp [hs], .str _⟩⟩)
      exact ⟨_, _, _, ⟨rfl, rfl⟩, u2, Ext.upd (i := 0) (o := .row e 1 (strs names)) hI rfl he rfl hgb.os hgb.tape hgb.output hgb.size u1 hold (fun b' hb' => .inl hb'), _, rfl, .tup _ _ rfl (fun i v x h1 h2 => by simp at h1)⟩
end Go.Proofs.Ytoglfnjankinnaa.E
