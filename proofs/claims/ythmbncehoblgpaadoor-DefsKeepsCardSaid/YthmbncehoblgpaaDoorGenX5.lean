/- Texts, merged: Fr1, Df0, Tm14. No conditions. -/
import Derived.Test.YthmbncehoblgpaaDoorGenX4
import Derived.Test.YthmbncehoblgpaaDoorEngX3
/- Free names: the program's walk over a term, with its maps. No conditions. -/
set_option linter.unusedVariables false
set_option linter.unusedSimpArgs false
namespace Go.Proofs.YthmbncehoblgpaaDoor.E
open Go

/-! ### Maps from names to numbers -/
abbrev TL := List (Nat × ByteArray × Int)
def encL (l : TL) : List (Nat × DV × DV) := l.map fun x => (x.1, .str x.2.1, .int .i64 x.2.2)
def tget (s : ByteArray) : TL → Nat → Option (Nat × Int)
  | [], _ => none
  | (_, k, v) :: l, i => if s = k then some (i, v) else tget s l (i + 1)
def tset (j : Nat) (v : Int) : TL → TL
  | [] => []
  | (c, k, u) :: l => match j with
    | 0 => (c, k, v) :: l
    | j + 1 => (c, k, u) :: tset j v l
theorem mget_enc (s : ByteArray) : ∀ (l : TL) (i : Nat), mget (.str s) (encL l) i = (tget s l i).map fun x => (x.1, DV.int .i64 x.2)
  | [], i => rfl
  | (c, k, v) :: l, i => by
    have ih := mget_enc s l (i + 1)
    simp only [encL, List.map_cons, mget, tget, dvEq, decide_eq_true_eq] at ih ⊢
    by_cases h : s = k
    · rw [if_pos h, if_pos h]; rfl
    · rw [if_neg h, if_neg h, ih]
theorem mset_enc : ∀ (l : TL) (j : Nat) (v : Int), mset j (.int .i64 v) (encL l) = encL (tset j v l)
  | [], j, v => by simp [mset, tset, encL]
  | (c, k, u) :: l, 0, v => rfl
  | (c, k, u) :: l, j + 1, v => by
    have ih := mset_enc l j v
    simp only [encL] at ih
    simp only [encL, List.map_cons, mset, tset, ih]
def tval (s : ByteArray) (l : TL) : Int := match tget s l 0 with
  | some (_, v) => v
  | none => 0
def tput (s : ByteArray) (v : Int) (m : Nat × TL) : Nat × TL := match tget s m.2 0 with
  | some (j, _) => (m.1, tset j v m.2)
  | none => (m.1 + 1, m.2 ++ [(m.1, s, v)])
def tdel (s : ByteArray) (l : TL) : TL := match tget s l 0 with
  | some (j, _) => l.eraseIdx j
  | none => l
theorem mlook_of {s : ByteArray} {l : TL} {X : DV → Prop} (h : X (.int .i64 (tval s l))) : mlook (.str s) (encL l) (.int .i64 0) X := by
  refine ⟨?_⟩
  unfold mlookD
  rw [mget_enc]
  unfold tval at h
  cases hg : tget s l 0 with
  | none => rw [hg] at h; exact h
  | some x => rw [hg] at h; exact h
theorem mput_of {s : ByteArray} {v : Int} {l : TL} {ck : Nat} {X : Nat → List (Nat × DV × DV) → Prop} (h : X (tput s v (ck, l)).1 (encL (tput s v (ck, l)).2)) : mput (.str s) (.int .i64 v) (encL l) ck X := by
  refine ⟨?_⟩
  unfold mputD
  rw [mget_enc]
  unfold tput at h
  cases hg : tget s l 0 with
  | none =>
    rw [hg] at h
    simp only [Option.map_none]
    have : encL l ++ [(ck, DV.str s, DV.int .i64 v)] = encL (l ++ [(ck, s, v)]) := by simp [encL]
    rw [this]; exact h
  | some x =>
    rw [hg] at h
    simp only [Option.map_some]
    rw [mset_enc]; exact h
theorem mdel_of {s : ByteArray} {l : TL} {X : List (Nat × DV × DV) → Prop} (h : X (encL (tdel s l))) : mdel (.str s) (encL l) X := by
  refine ⟨?_⟩
  unfold mdelD
  rw [mget_enc]
  unfold tdel at h
  cases hg : tget s l 0 with
  | none => rw [hg] at h; exact h
  | some x =>
    rw [hg] at h
    simp only [Option.map_some]
    have : (encL l).eraseIdx x.1 = encL (l.eraseIdx x.1) := by simp only [encL, ChangeMaps.map_eraseIdx]
    rw [this]; exact h

attribute [irreducible] tval tput tdel encL
/-! ### What the walk does -/
abbrev FM := (Nat × TL) × (Nat × TL)
def fobj (m : FM) : List AObj := [.var [.mp 1, .mp 2], .mp .str m.1.1 (encL m.1.2), .mp .str m.2.1 (encL m.2.2)]
def finn (s : ByteArray) (m : FM) : FM := (tput s (IntKind.i64.wrap (tval s m.1.2 + 1)) m.1, m.2)
def fdec (s : ByteArray) (m : FM) : FM := (tput s (IntKind.i64.wrap (tval s m.1.2 - 1)) m.1, m.2)
def fout (s : ByteArray) (m : FM) : FM := if tval s (fdec s m).1.2 = 0 then (((fdec s m).1.1, tdel s (fdec s m).1.2), m.2) else fdec s m
def win : List ByteArray → FM → FM
  | [], m => m
  | [s], m => finn s m
  | s :: a :: _, m => finn a (finn s m)
def wout : List ByteArray → FM → FM
  | [], m => m
  | [s], m => fout s m
  | s :: a :: _, m => fdec s (fout a m)
def wsK (k : Int) (name arg : ByteArray) : List (List ByteArray) := if k = 4 then [[name]] else if k = 5 then [[name, arg]] else if k = 7 then [[], [name]] else if k = 14 then [[], [name], [arg]] else []
mutual
def fterm : Tm → FM → FM
  | .node k name arg _ _ _ _ _ _ _ ks, m => if k = 0 then (if tval name m.1.2 = 0 then (m.1, tput name 1 m.2) else m) else fterms ks (wsK k name arg) m
def fterms : List Tm → List (List ByteArray) → FM → FM
  | [], _, m => m
  | t :: l, w, m => fterms l w.tail (wout (w.headD []) (fterm t (win (w.headD []) m)))
end
theorem fterms_take : ∀ (ks : List Tm) (i : Nat) t (m : FM), ks[i]? = some t → fterms (ks.take (i + 1)) [] m = fterm t (fterms (ks.take i) [] m)
  | x :: l, 0, t, m, h => by simp at h; subst h; simp [fterms, win, wout]
  | x :: l, i + 1, t, m, h => by
    simp only [List.getElem?_cons_succ] at h
    have := fterms_take l i t (fterm x m) h
    simp only [List.take_succ_cons, fterms, List.tail_nil, List.headD_nil, win, wout, this]

/-- The contract of the walk over a term. -/
def TermC (t : Tm) : Prop := ∀ (ck : Nat) (l : TL) (cf : Nat) (fl : TL),
  ACall Tryd.prog 56 [.c (.ptr 0 0), .c (.d (.rp 0 t.cells))] [.var [.mp 1, .mp 2], .mp .str ck (encL l), .mp .str cf (encL fl)] (fun o σ => o = .ret (.tup []) ∧ σ = fobj (fterm t ((ck, l), (cf, fl))))
set_option maxRecDepth 10000 in
theorem within_call (s : ByteArray) (t : Tm) (ih : TermC t) (ck : Nat) (l : TL) (cf : Nat) (fl : TL) :
    ACall Tryd.prog 89 [.c (.ptr 0 0), .c (.d (.str s)), .c (.d (.rp 0 t.cells))] [.var [.mp 1, .mp 2], .mp .str ck (encL l), .mp .str cf (encL fl)]
      (fun o σ => o = .ret (.tup []) ∧ σ = fobj (fout s (fterm t (finn s ((ck, l), (cf, fl)))))) := by
  refine ACall.body tab_ok (ρ := 0) (N := 35) Tryd.func89 rfl rfl rfl rfl rfl ?_
  repeat' first | ((refine mlook_of ?_; conv => whnf)) | ((refine mput_of ?_; conv => whnf)) | ((refine mdel_of ?_; conv => whnf)) | refine AW.seq ?_ | refine AW.block ?_ | ((first | refine AW.region tab_ok ?_ | refine AW.cond ?_ | refine AW.skip ?_ | refine AW.ret ?_ | refine AW.exit ?_); conv => whnf) | (refine (ih _ _ _ _).mono ?_; rintro _ _ ⟨rfl, rfl⟩; conv => whnf) | ((first | refine And.intro (@rfl Val _) ?_ | refine And.intro (by decide) ?_ | refine cs (fun _ => ?_) (fun _ => ?_)) <;> conv => whnf)
  · rename_i h
    have h' : tval s (fdec s (fterm t (finn s ((ck, l), (cf, fl))))).1.2 = 0 := eq_of_beq h
    refine ⟨rfl, ?_⟩
    simp only [fout, if_pos h']
    rfl
  · rename_i h
    have h' : ¬ tval s (fdec s (fterm t (finn s ((ck, l), (cf, fl))))).1.2 = 0 := fun e => by
      have := (beq_eq_false_iff_ne.1 h)
      exact this e
    refine ⟨rfl, ?_⟩
    simp only [fout, if_neg h']
    rfl

structure FreeI (ks : List Tm) where
  i : Nat
  hi : i ≤ ks.length
set_option maxRecDepth 10000 in
set_option maxHeartbeats 1000000 in
theorem termF_call (t : Tm) : tmright t = true → tmN t ≤ 8192 → TermC t := by
  induction t using Tm.ind with
  | _ k name arg num tk tks uk uks label place ks ih =>
  intro hr hN ck l cf fl
  have hlen := tmNL_len ks
  simp only [tmN] at hN
  have ih' : ∀ t ∈ ks, TermC t := fun t ht => ih t ht (tmright_kid hr ht) (by have := tmN_mem ks t ht; omega)
  have hl8 : ks.length ≤ 8192 := by omega
  have hkl := tmright_len hr
  clear ih hN hr hlen
  by_cases h0 : k = 0
  · subst h0
    refine ACall.body tab_ok (ρ := 0) (N := 143) Tryd.func56 rfl rfl rfl rfl rfl ?_
    repeat' first | ((refine mlook_of ?_; conv => whnf)) | ((refine mput_of ?_; conv => whnf)) | refine AW.seq ?_ | refine AW.block ?_ | (refine (_root_.id : AW _ _ _ (.region 7 _ true) _ _ → _) ?_; refine AW.draw (id := 7) tab_ok mixed [0, 1, 2, 3, 4, 5, 6, 7, 8, 9] (by kernel_rfl) ?_; conv => whnf) | (refine (_root_.id : AW _ _ _ (.region 8 _ true) _ _ → _) ?_; refine AW.draw (id := 8) tab_ok mixed [0, 1, 2, 3, 4, 5, 6, 7, 8] (by kernel_rfl) ?_; conv => whnf) | (refine (_root_.id : AW _ _ _ (.region 10 _ true) _ _ → _) ?_; refine AW.draw (id := 10) tab_ok mixed [0, 1, 2, 3, 4, 5, 6, 7, 8, 9, 10] (by kernel_rfl) ?_; conv => whnf) | (refine (_root_.id : AW _ _ _ (.region 12 _ true) _ _ → _) ?_; refine AW.draw (id := 12) tab_ok mixed [0, 1, 2, 3, 4, 5, 6, 7, 8, 9, 10] (by kernel_rfl) ?_; conv => whnf) | (refine (_root_.id : AW _ _ _ (.region 13 _ true) _ _ → _) ?_; refine AW.draw (id := 13) tab_ok mixed [0, 1, 2, 3, 4, 5, 6, 7, 8, 9, 10] (by kernel_rfl) ?_; conv => whnf) | (refine (_root_.id : AW _ _ _ (.region 14 _ true) _ _ → _) ?_; refine AW.draw (id := 14) tab_ok mixed [0, 1, 2, 3, 4, 5, 6, 7, 8, 9, 10] (by kernel_rfl) ?_; conv => whnf) | (refine (_root_.id : AW _ _ _ (.region 17 _ true) _ _ → _) ?_; refine AW.draw (id := 17) tab_ok mixed [0, 1, 2, 3, 4, 5, 6, 7, 8, 9, 10] (by kernel_rfl) ?_; conv => whnf) | (refine (_root_.id : AW _ _ _ (.region 20 _ true) _ _ → _) ?_; refine AW.draw (id := 20) tab_ok mixed [0, 1, 2, 3, 4, 5, 6, 7, 8, 9, 10] (by kernel_rfl) ?_; conv => whnf) | (refine (_root_.id : AW _ _ _ (.region 21 _ true) _ _ → _) ?_; refine AW.draw (id := 21) tab_ok mixed [0, 1, 2, 3, 4, 5, 6, 7, 8, 9, 10] (by kernel_rfl) ?_; conv => whnf) | ((first | refine AW.region tab_ok ?_ | refine AW.cond ?_ | refine AW.skip ?_ | refine AW.ret ?_ | refine AW.exit ?_); conv => whnf) | ((first | refine And.intro (@rfl Val _) ?_ | refine And.intro (by decide) ?_ | refine cs (fun _ => ?_) (fun _ => ?_)) <;> conv => whnf)
    · rename_i h
      have h' : tval name l = 0 := eq_of_beq h
      refine ⟨rfl, ?_⟩
      simp only [fterm, if_true, h']
      rfl
    · rename_i h
      have h' : ¬ tval name l = 0 := beq_eq_false_iff_ne.1 h
      refine ⟨rfl, ?_⟩
      simp only [fterm, if_true, if_neg h']
      rfl
  by_cases h4 : k = 4
  · subst h4
    have hk1 : ks.length = 1 := by simp [kidsK] at hkl; omega
    obtain ⟨a, rfl⟩ : ∃ a, ks = [a] := by
      match ks, hk1 with
      | [a], _ => exact ⟨a, rfl⟩
    have wa := fun s => within_call s a (ih' a (by simp))
    refine ACall.body tab_ok (ρ := 0) (N := 143) Tryd.func56 rfl rfl rfl rfl rfl ?_
    repeat' first | ((refine ⟨by simp [trows_length], fun row hrow => ?_⟩; simp [Tm.rows] at hrow; subst hrow; conv => whnf)) | refine AW.seq ?_ | refine AW.block ?_ | (refine (_root_.id : AW _ _ _ (.region 7 _ true) _ _ → _) ?_; refine AW.draw (id := 7) tab_ok mixed [0, 1, 2, 3, 4, 5, 6, 7, 8, 9] (by kernel_rfl) ?_; conv => whnf) | (refine (_root_.id : AW _ _ _ (.region 8 _ true) _ _ → _) ?_; refine AW.draw (id := 8) tab_ok mixed [0, 1, 2, 3, 4, 5, 6, 7, 8] (by kernel_rfl) ?_; conv => whnf) | (refine (_root_.id : AW _ _ _ (.region 10 _ true) _ _ → _) ?_; refine AW.draw (id := 10) tab_ok mixed [0, 1, 2, 3, 4, 5, 6, 7, 8, 9, 10] (by kernel_rfl) ?_; conv => whnf) | (refine (_root_.id : AW _ _ _ (.region 12 _ true) _ _ → _) ?_; refine AW.draw (id := 12) tab_ok mixed [0, 1, 2, 3, 4, 5, 6, 7, 8, 9, 10] (by kernel_rfl) ?_; conv => whnf) | (refine (_root_.id : AW _ _ _ (.region 13 _ true) _ _ → _) ?_; refine AW.draw (id := 13) tab_ok mixed [0, 1, 2, 3, 4, 5, 6, 7, 8, 9, 10] (by kernel_rfl) ?_; conv => whnf) | (refine (_root_.id : AW _ _ _ (.region 14 _ true) _ _ → _) ?_; refine AW.draw (id := 14) tab_ok mixed [0, 1, 2, 3, 4, 5, 6, 7, 8, 9, 10] (by kernel_rfl) ?_; conv => whnf) | (refine (_root_.id : AW _ _ _ (.region 17 _ true) _ _ → _) ?_; refine AW.draw (id := 17) tab_ok mixed [0, 1, 2, 3, 4, 5, 6, 7, 8, 9, 10] (by kernel_rfl) ?_; conv => whnf) | (refine (_root_.id : AW _ _ _ (.region 20 _ true) _ _ → _) ?_; refine AW.draw (id := 20) tab_ok mixed [0, 1, 2, 3, 4, 5, 6, 7, 8, 9, 10] (by kernel_rfl) ?_; conv => whnf) | (refine (_root_.id : AW _ _ _ (.region 21 _ true) _ _ → _) ?_; refine AW.draw (id := 21) tab_ok mixed [0, 1, 2, 3, 4, 5, 6, 7, 8, 9, 10] (by kernel_rfl) ?_; conv => whnf) | ((first | refine AW.region tab_ok ?_ | refine AW.cond ?_ | refine AW.skip ?_ | refine AW.ret ?_ | refine AW.exit ?_); conv => whnf) | (refine (wa _ _ _ _ _).mono ?_; rintro _ _ ⟨rfl, rfl⟩; conv => whnf) | ((first | refine And.intro (@rfl Val _) ?_ | refine And.intro (by decide) ?_ | refine cs (fun _ => ?_) (fun _ => ?_)) <;> conv => whnf)
    exact ⟨rfl, rfl⟩
  by_cases h5 : k = 5
  · subst h5
    have hk1 : ks.length = 1 := by simp [kidsK] at hkl; omega
    obtain ⟨a, rfl⟩ : ∃ a, ks = [a] := by
      match ks, hk1 with
      | [a], _ => exact ⟨a, rfl⟩
    have wa := fun s => within_call s a (ih' a (by simp))
    refine ACall.body tab_ok (ρ := 0) (N := 143) Tryd.func56 rfl rfl rfl rfl rfl ?_
    repeat' first | ((refine mlook_of ?_; conv => whnf)) | ((refine mput_of ?_; conv => whnf)) | ((refine ⟨by simp [trows_length], fun row hrow => ?_⟩; simp [Tm.rows] at hrow; subst hrow; conv => whnf)) | refine AW.seq ?_ | refine AW.block ?_ | (refine (_root_.id : AW _ _ _ (.region 7 _ true) _ _ → _) ?_; refine AW.draw (id := 7) tab_ok mixed [0, 1, 2, 3, 4, 5, 6, 7, 8, 9] (by kernel_rfl) ?_; conv => whnf) | (refine (_root_.id : AW _ _ _ (.region 8 _ true) _ _ → _) ?_; refine AW.draw (id := 8) tab_ok mixed [0, 1, 2, 3, 4, 5, 6, 7, 8] (by kernel_rfl) ?_; conv => whnf) | (refine (_root_.id : AW _ _ _ (.region 10 _ true) _ _ → _) ?_; refine AW.draw (id := 10) tab_ok mixed [0, 1, 2, 3, 4, 5, 6, 7, 8, 9, 10] (by kernel_rfl) ?_; conv => whnf) | (refine (_root_.id : AW _ _ _ (.region 12 _ true) _ _ → _) ?_; refine AW.draw (id := 12) tab_ok mixed [0, 1, 2, 3, 4, 5, 6, 7, 8, 9, 10] (by kernel_rfl) ?_; conv => whnf) | (refine (_root_.id : AW _ _ _ (.region 13 _ true) _ _ → _) ?_; refine AW.draw (id := 13) tab_ok mixed [0, 1, 2, 3, 4, 5, 6, 7, 8, 9, 10] (by kernel_rfl) ?_; conv => whnf) | (refine (_root_.id : AW _ _ _ (.region 14 _ true) _ _ → _) ?_; refine AW.draw (id := 14) tab_ok mixed [0, 1, 2, 3, 4, 5, 6, 7, 8, 9, 10] (by kernel_rfl) ?_; conv => whnf) | (refine (_root_.id : AW _ _ _ (.region 17 _ true) _ _ → _) ?_; refine AW.draw (id := 17) tab_ok mixed [0, 1, 2, 3, 4, 5, 6, 7, 8, 9, 10] (by kernel_rfl) ?_; conv => whnf) | (refine (_root_.id : AW _ _ _ (.region 20 _ true) _ _ → _) ?_; refine AW.draw (id := 20) tab_ok mixed [0, 1, 2, 3, 4, 5, 6, 7, 8, 9, 10] (by kernel_rfl) ?_; conv => whnf) | (refine (_root_.id : AW _ _ _ (.region 21 _ true) _ _ → _) ?_; refine AW.draw (id := 21) tab_ok mixed [0, 1, 2, 3, 4, 5, 6, 7, 8, 9, 10] (by kernel_rfl) ?_; conv => whnf) | ((first | refine AW.region tab_ok ?_ | refine AW.cond ?_ | refine AW.skip ?_ | refine AW.ret ?_ | refine AW.exit ?_); conv => whnf) | (refine (wa _ _ _ _ _).mono ?_; rintro _ _ ⟨rfl, rfl⟩; conv => whnf) | ((first | refine And.intro (@rfl Val _) ?_ | refine And.intro (by decide) ?_ | refine cs (fun _ => ?_) (fun _ => ?_)) <;> conv => whnf)
    exact ⟨rfl, rfl⟩
  by_cases h7 : k = 7
  · subst h7
    have hk1 : ks.length = 2 := by simp [kidsK] at hkl; omega
    obtain ⟨a, b, rfl⟩ : ∃ a b, ks = [a, b] := by
      match ks, hk1 with
      | [a, b], _ => exact ⟨a, b, rfl⟩
    have ia := ih' a (by simp)
    have wb := fun s => within_call s b (ih' b (by simp))
    refine ACall.body tab_ok (ρ := 0) (N := 143) Tryd.func56 rfl rfl rfl rfl rfl ?_
    repeat' first | ((refine ⟨by simp [trows_length], fun row hrow => ?_⟩; simp [Tm.rows] at hrow; subst hrow; conv => whnf)) | refine AW.seq ?_ | refine AW.block ?_ | (refine (_root_.id : AW _ _ _ (.region 7 _ true) _ _ → _) ?_; refine AW.draw (id := 7) tab_ok mixed [0, 1, 2, 3, 4, 5, 6, 7, 8, 9] (by kernel_rfl) ?_; conv => whnf) | (refine (_root_.id : AW _ _ _ (.region 8 _ true) _ _ → _) ?_; refine AW.draw (id := 8) tab_ok mixed [0, 1, 2, 3, 4, 5, 6, 7, 8] (by kernel_rfl) ?_; conv => whnf) | (refine (_root_.id : AW _ _ _ (.region 10 _ true) _ _ → _) ?_; refine AW.draw (id := 10) tab_ok mixed [0, 1, 2, 3, 4, 5, 6, 7, 8, 9, 10] (by kernel_rfl) ?_; conv => whnf) | (refine (_root_.id : AW _ _ _ (.region 12 _ true) _ _ → _) ?_; refine AW.draw (id := 12) tab_ok mixed [0, 1, 2, 3, 4, 5, 6, 7, 8, 9, 10] (by kernel_rfl) ?_; conv => whnf) | (refine (_root_.id : AW _ _ _ (.region 13 _ true) _ _ → _) ?_; refine AW.draw (id := 13) tab_ok mixed [0, 1, 2, 3, 4, 5, 6, 7, 8, 9, 10] (by kernel_rfl) ?_; conv => whnf) | (refine (_root_.id : AW _ _ _ (.region 14 _ true) _ _ → _) ?_; refine AW.draw (id := 14) tab_ok mixed [0, 1, 2, 3, 4, 5, 6, 7, 8, 9, 10] (by kernel_rfl) ?_; conv => whnf) | (refine (_root_.id : AW _ _ _ (.region 17 _ true) _ _ → _) ?_; refine AW.draw (id := 17) tab_ok mixed [0, 1, 2, 3, 4, 5, 6, 7, 8, 9, 10] (by kernel_rfl) ?_; conv => whnf) | (refine (_root_.id : AW _ _ _ (.region 20 _ true) _ _ → _) ?_; refine AW.draw (id := 20) tab_ok mixed [0, 1, 2, 3, 4, 5, 6, 7, 8, 9, 10] (by kernel_rfl) ?_; conv => whnf) | (refine (_root_.id : AW _ _ _ (.region 21 _ true) _ _ → _) ?_; refine AW.draw (id := 21) tab_ok mixed [0, 1, 2, 3, 4, 5, 6, 7, 8, 9, 10] (by kernel_rfl) ?_; conv => whnf) | ((first | refine AW.region tab_ok ?_ | refine AW.cond ?_ | refine AW.skip ?_ | refine AW.ret ?_ | refine AW.exit ?_); conv => whnf) | ((first | refine (ia _ _ _ _).mono ?_ | refine (wb _ _ _ _ _).mono ?_); rintro _ _ ⟨rfl, rfl⟩; conv => whnf) | ((first | refine And.intro (@rfl Val _) ?_ | refine And.intro (by decide) ?_ | refine cs (fun _ => ?_) (fun _ => ?_)) <;> conv => whnf)
    exact ⟨rfl, rfl⟩
  by_cases h14 : k = 14
  · subst h14
    have hk1 : ks.length = 3 := by simp [kidsK] at hkl; omega
    obtain ⟨a, b, c, rfl⟩ : ∃ a b c, ks = [a, b, c] := by
      match ks, hk1 with
      | [a, b, c], _ => exact ⟨a, b, c, rfl⟩
    have ia := ih' a (by simp)
    have wb := fun s => within_call s b (ih' b (by simp))
    have wc := fun s => within_call s c (ih' c (by simp))
    refine ACall.body tab_ok (ρ := 0) (N := 143) Tryd.func56 rfl rfl rfl rfl rfl ?_
    repeat' first | ((refine ⟨by simp [trows_length], fun row hrow => ?_⟩; simp [Tm.rows] at hrow; subst hrow; conv => whnf)) | refine AW.seq ?_ | refine AW.block ?_ | (refine (_root_.id : AW _ _ _ (.region 7 _ true) _ _ → _) ?_; refine AW.draw (id := 7) tab_ok mixed [0, 1, 2, 3, 4, 5, 6, 7, 8, 9] (by kernel_rfl) ?_; conv => whnf) | (refine (_root_.id : AW _ _ _ (.region 8 _ true) _ _ → _) ?_; refine AW.draw (id := 8) tab_ok mixed [0, 1, 2, 3, 4, 5, 6, 7, 8] (by kernel_rfl) ?_; conv => whnf) | (refine (_root_.id : AW _ _ _ (.region 10 _ true) _ _ → _) ?_; refine AW.draw (id := 10) tab_ok mixed [0, 1, 2, 3, 4, 5, 6, 7, 8, 9, 10] (by kernel_rfl) ?_; conv => whnf) | (refine (_root_.id : AW _ _ _ (.region 12 _ true) _ _ → _) ?_; refine AW.draw (id := 12) tab_ok mixed [0, 1, 2, 3, 4, 5, 6, 7, 8, 9, 10] (by kernel_rfl) ?_; conv => whnf) | (refine (_root_.id : AW _ _ _ (.region 13 _ true) _ _ → _) ?_; refine AW.draw (id := 13) tab_ok mixed [0, 1, 2, 3, 4, 5, 6, 7, 8, 9, 10] (by kernel_rfl) ?_; conv => whnf) | (refine (_root_.id : AW _ _ _ (.region 14 _ true) _ _ → _) ?_; refine AW.draw (id := 14) tab_ok mixed [0, 1, 2, 3, 4, 5, 6, 7, 8, 9, 10] (by kernel_rfl) ?_; conv => whnf) | (refine (_root_.id : AW _ _ _ (.region 17 _ true) _ _ → _) ?_; refine AW.draw (id := 17) tab_ok mixed [0, 1, 2, 3, 4, 5, 6, 7, 8, 9, 10] (by kernel_rfl) ?_; conv => whnf) | (refine (_root_.id : AW _ _ _ (.region 20 _ true) _ _ → _) ?_; refine AW.draw (id := 20) tab_ok mixed [0, 1, 2, 3, 4, 5, 6, 7, 8, 9, 10] (by kernel_rfl) ?_; conv => whnf) | (refine (_root_.id : AW _ _ _ (.region 21 _ true) _ _ → _) ?_; refine AW.draw (id := 21) tab_ok mixed [0, 1, 2, 3, 4, 5, 6, 7, 8, 9, 10] (by kernel_rfl) ?_; conv => whnf) | ((first | refine AW.region tab_ok ?_ | refine AW.cond ?_ | refine AW.skip ?_ | refine AW.ret ?_ | refine AW.exit ?_); conv => whnf) | ((first | refine (ia _ _ _ _).mono ?_ | refine (wb _ _ _ _ _).mono ?_ | refine (wc _ _ _ _ _).mono ?_); rintro _ _ ⟨rfl, rfl⟩; conv => whnf) | ((first | refine And.intro (@rfl Val _) ?_ | refine And.intro (by decide) ?_ | refine cs (fun _ => ?_) (fun _ => ?_)) <;> conv => whnf)
    exact ⟨rfl, rfl⟩
  have b0 : (k == 0) = false := by simpa using h0
  have b4 : (k == 4) = false := by simpa using h4
  have b5 : (k == 5) = false := by simpa using h5
  have b7 : (k == 7) = false := by simpa using h7
  have b14 : (k == 14) = false := by simpa using h14
  have hw : wsK k name arg = [] := by simp only [wsK, if_neg h4, if_neg h5, if_neg h7, if_neg h14]
  have hf : ∀ m, fterm (.node k name arg num tk tks uk uks label place ks) m = fterms ks [] m := fun m => by simp only [fterm, if_neg h0, hw]
  simp only [hf]
  clear hf hw hkl h0 h4 h5 h7 h14
  refine ACall.body tab_ok (ρ := 0) (N := 143) Tryd.func56 rfl rfl rfl rfl rfl ?_
  repeat' first | ((refine cs (fun h => absurd h (by first | (rw [b0]; decide) | (rw [b4]; decide) | (rw [b5]; decide) | (rw [b7]; decide) | (rw [b14]; decide))) (fun _ => ?_); conv => whnf)) | refine AW.seq ?_ | refine AW.block ?_ | (refine (_root_.id : AW _ _ _ (.region 7 _ true) _ _ → _) ?_; refine AW.draw (id := 7) tab_ok mixed [0, 1, 2, 3, 4, 5, 6, 7, 8, 9] (by kernel_rfl) ?_; conv => whnf) | (refine (_root_.id : AW _ _ _ (.region 8 _ true) _ _ → _) ?_; refine AW.draw (id := 8) tab_ok mixed [0, 1, 2, 3, 4, 5, 6, 7, 8] (by kernel_rfl) ?_; conv => whnf) | (refine (_root_.id : AW _ _ _ (.region 10 _ true) _ _ → _) ?_; refine AW.draw (id := 10) tab_ok mixed [0, 1, 2, 3, 4, 5, 6, 7, 8, 9, 10] (by kernel_rfl) ?_; conv => whnf) | (refine (_root_.id : AW _ _ _ (.region 12 _ true) _ _ → _) ?_; refine AW.draw (id := 12) tab_ok mixed [0, 1, 2, 3, 4, 5, 6, 7, 8, 9, 10] (by kernel_rfl) ?_; conv => whnf) | (refine (_root_.id : AW _ _ _ (.region 13 _ true) _ _ → _) ?_; refine AW.draw (id := 13) tab_ok mixed [0, 1, 2, 3, 4, 5, 6, 7, 8, 9, 10] (by kernel_rfl) ?_; conv => whnf) | (refine (_root_.id : AW _ _ _ (.region 14 _ true) _ _ → _) ?_; refine AW.draw (id := 14) tab_ok mixed [0, 1, 2, 3, 4, 5, 6, 7, 8, 9, 10] (by kernel_rfl) ?_; conv => whnf) | (refine (_root_.id : AW _ _ _ (.region 17 _ true) _ _ → _) ?_; refine AW.draw (id := 17) tab_ok mixed [0, 1, 2, 3, 4, 5, 6, 7, 8, 9, 10] (by kernel_rfl) ?_; conv => whnf) | (refine (_root_.id : AW _ _ _ (.region 20 _ true) _ _ → _) ?_; refine AW.draw (id := 20) tab_ok mixed [0, 1, 2, 3, 4, 5, 6, 7, 8, 9, 10] (by kernel_rfl) ?_; conv => whnf) | (refine (_root_.id : AW _ _ _ (.region 21 _ true) _ _ → _) ?_; refine AW.draw (id := 21) tab_ok mixed [0, 1, 2, 3, 4, 5, 6, 7, 8, 9, 10] (by kernel_rfl) ?_; conv => whnf) | ((first | refine AW.region tab_ok ?_ | refine AW.cond ?_ | refine AW.skip ?_ | refine AW.ret ?_ | refine AW.exit ?_); conv => whnf) | ((first | refine And.intro (@rfl Val _) ?_ | refine And.intro (by decide) ?_ | refine cs (fun _ => ?_) (fun _ => ?_)) <;> conv => whnf)
  refine AW.loop (ι := FreeI ks) (fun x => ⟨143, [(14, .c (.d (.int .i64 x.i))), (13, .c (.d (.int .i64 (Tm.rows ks).length))), (0, .c (.ptr 0 0)), (1, .c (.d (.rp 0 (Tm.node k name arg num tk tks uk uks label place ks).cells)))],
      [.var [.mp 1, .mp 2], .mp .str (fterms (ks.take x.i) [] ((ck, l), (cf, fl))).1.1 (encL (fterms (ks.take x.i) [] ((ck, l), (cf, fl))).1.2), .mp .str (fterms (ks.take x.i) [] ((ck, l), (cf, fl))).2.1 (encL (fterms (ks.take x.i) [] ((ck, l), (cf, fl))).2.2)], []⟩)
    (fun x => ks.length - x.i) ⟨0, Nat.zero_le _⟩ 3 (fun _ => rfl) (Nat.le_of_ble_eq_true rfl) ⟨⟨rfl, rfl, rfl, rfl, trivial⟩, rfl, rfl, ⟨[], rfl⟩, rfl⟩ (fun x => ?_)
  obtain ⟨i, hi⟩ := x
  repeat' first | refine AW.seq ?_ | refine AW.block ?_ | (refine (_root_.id : AW _ _ _ (.region 7 _ true) _ _ → _) ?_; refine AW.draw (id := 7) tab_ok mixed [0, 1, 2, 3, 4, 5, 6, 7, 8, 9] (by kernel_rfl) ?_; conv => whnf) | (refine (_root_.id : AW _ _ _ (.region 8 _ true) _ _ → _) ?_; refine AW.draw (id := 8) tab_ok mixed [0, 1, 2, 3, 4, 5, 6, 7, 8] (by kernel_rfl) ?_; conv => whnf) | (refine (_root_.id : AW _ _ _ (.region 10 _ true) _ _ → _) ?_; refine AW.draw (id := 10) tab_ok mixed [0, 1, 2, 3, 4, 5, 6, 7, 8, 9, 10] (by kernel_rfl) ?_; conv => whnf) | (refine (_root_.id : AW _ _ _ (.region 12 _ true) _ _ → _) ?_; refine AW.draw (id := 12) tab_ok mixed [0, 1, 2, 3, 4, 5, 6, 7, 8, 9, 10] (by kernel_rfl) ?_; conv => whnf) | (refine (_root_.id : AW _ _ _ (.region 13 _ true) _ _ → _) ?_; refine AW.draw (id := 13) tab_ok mixed [0, 1, 2, 3, 4, 5, 6, 7, 8, 9, 10] (by kernel_rfl) ?_; conv => whnf) | (refine (_root_.id : AW _ _ _ (.region 14 _ true) _ _ → _) ?_; refine AW.draw (id := 14) tab_ok mixed [0, 1, 2, 3, 4, 5, 6, 7, 8, 9, 10] (by kernel_rfl) ?_; conv => whnf) | (refine (_root_.id : AW _ _ _ (.region 17 _ true) _ _ → _) ?_; refine AW.draw (id := 17) tab_ok mixed [0, 1, 2, 3, 4, 5, 6, 7, 8, 9, 10] (by kernel_rfl) ?_; conv => whnf) | (refine (_root_.id : AW _ _ _ (.region 20 _ true) _ _ → _) ?_; refine AW.draw (id := 20) tab_ok mixed [0, 1, 2, 3, 4, 5, 6, 7, 8, 9, 10] (by kernel_rfl) ?_; conv => whnf) | (refine (_root_.id : AW _ _ _ (.region 21 _ true) _ _ → _) ?_; refine AW.draw (id := 21) tab_ok mixed [0, 1, 2, 3, 4, 5, 6, 7, 8, 9, 10] (by kernel_rfl) ?_; conv => whnf) | ((first | refine AW.region tab_ok ?_ | refine AW.cond ?_ | refine AW.skip ?_ | refine AW.ret ?_ | refine AW.exit ?_); conv => whnf) | ((first | refine And.intro (@rfl Val _) ?_ | refine And.intro (by decide) ?_ | refine cs (fun _ => ?_) (fun _ => ?_)) <;> conv => whnf)
  · rename_i h1
    simp only [trows_length] at h1 ⊢
    have := of_decide_eq_true h1
    refine ⟨by omega, fun row hrow => ?_⟩
    obtain ⟨t, ht, rfl⟩ := trows_get ks i row (by simpa using hrow)
    have hlt : i < ks.length := (List.getElem?_eq_some_iff.1 ht).1
    have ia := ih' t (List.mem_of_getElem? ht)
    have hs := fterms_take ks i _ ((ck, l), (cf, fl)) ht
    conv => whnf
    repeat' first | refine AW.seq ?_ | refine AW.block ?_ | (refine (_root_.id : AW _ _ _ (.region 7 _ true) _ _ → _) ?_; refine AW.draw (id := 7) tab_ok mixed [0, 1, 2, 3, 4, 5, 6, 7, 8, 9] (by kernel_rfl) ?_; conv => whnf) | (refine (_root_.id : AW _ _ _ (.region 8 _ true) _ _ → _) ?_; refine AW.draw (id := 8) tab_ok mixed [0, 1, 2, 3, 4, 5, 6, 7, 8] (by kernel_rfl) ?_; conv => whnf) | (refine (_root_.id : AW _ _ _ (.region 10 _ true) _ _ → _) ?_; refine AW.draw (id := 10) tab_ok mixed [0, 1, 2, 3, 4, 5, 6, 7, 8, 9, 10] (by kernel_rfl) ?_; conv => whnf) | (refine (_root_.id : AW _ _ _ (.region 12 _ true) _ _ → _) ?_; refine AW.draw (id := 12) tab_ok mixed [0, 1, 2, 3, 4, 5, 6, 7, 8, 9, 10] (by kernel_rfl) ?_; conv => whnf) | (refine (_root_.id : AW _ _ _ (.region 13 _ true) _ _ → _) ?_; refine AW.draw (id := 13) tab_ok mixed [0, 1, 2, 3, 4, 5, 6, 7, 8, 9, 10] (by kernel_rfl) ?_; conv => whnf) | (refine (_root_.id : AW _ _ _ (.region 14 _ true) _ _ → _) ?_; refine AW.draw (id := 14) tab_ok mixed [0, 1, 2, 3, 4, 5, 6, 7, 8, 9, 10] (by kernel_rfl) ?_; conv => whnf) | (refine (_root_.id : AW _ _ _ (.region 17 _ true) _ _ → _) ?_; refine AW.draw (id := 17) tab_ok mixed [0, 1, 2, 3, 4, 5, 6, 7, 8, 9, 10] (by kernel_rfl) ?_; conv => whnf) | (refine (_root_.id : AW _ _ _ (.region 20 _ true) _ _ → _) ?_; refine AW.draw (id := 20) tab_ok mixed [0, 1, 2, 3, 4, 5, 6, 7, 8, 9, 10] (by kernel_rfl) ?_; conv => whnf) | (refine (_root_.id : AW _ _ _ (.region 21 _ true) _ _ → _) ?_; refine AW.draw (id := 21) tab_ok mixed [0, 1, 2, 3, 4, 5, 6, 7, 8, 9, 10] (by kernel_rfl) ?_; conv => whnf) | ((first | refine AW.region tab_ok ?_ | refine AW.cond ?_ | refine AW.skip ?_ | refine AW.ret ?_ | refine AW.exit ?_); conv => whnf) | (refine (ia _ _ _ _).mono ?_; rintro _ _ ⟨rfl, rfl⟩; conv => whnf) | ((first | refine And.intro (@rfl Val _) ?_ | refine And.intro (by decide) ?_ | refine cs (fun _ => ?_) (fun _ => ?_)) <;> conv => whnf)
    rw [wrap64 (x := (i : Int) + 1) (by omega) (by omega)]
    refine ⟨⟨i + 1, hlt⟩, ⟨⟨rfl, rfl, rfl, rfl, trivial⟩, rfl, rfl, ⟨[], ?_⟩, rfl⟩, show ks.length - (i + 1) < ks.length - i by omega⟩
    simp only [hs]
    rfl
  · rename_i h1
    simp only [trows_length] at h1
    have := of_decide_eq_false h1
    obtain rfl : i = ks.length := by omega
    simp only [List.take_length]
    exact ⟨rfl, rfl⟩
end Go.Proofs.YthmbncehoblgpaaDoor.E

/- Definitions of a program as data; what defs.sound and its document's answer tell of them. No conditions. -/
set_option linter.unusedVariables false
set_option linter.unusedSimpArgs false
namespace Go.Proofs.YthmbncehoblgpaaDoor.E
open Go

structure Df where
  name : ByteArray
  ty : Ty
  tm : Tm
  pl : Int
def Df.cells : Df → List DV
  | ⟨s, .node a bs, .node k name arg num tk tks uk uks label place ks, pl⟩ =>
    [.str s, .int .i8 a, .sl 0 2 (Ty.rows bs), .int .i8 k, .str name, .str arg, .int .i64 num, .int .i8 tk, .sl 0 2 (Ty.rows tks), .int .i8 uk, .sl 0 2 (Ty.rows uks), .int .i64 label, .int .i64 place, .sl 0 11 (Tm.rows ks), .int .i64 pl]
def drows (l : List Df) : List (List DV) := l.map Df.cells
theorem drows_len (l : List Df) : (drows l).length = l.length := by simp [drows]
theorem drows_get {l : List Df} {i : Nat} {row : List DV} (h : (drows l)[i]? = some row) : ∃ d, l[i]? = some d ∧ row = d.cells := by
  simp only [drows, List.getElem?_map, Option.map_eq_some_iff] at h
  obtain ⟨d, h1, h2⟩ := h
  exact ⟨d, h1, h2.symm⟩
def nameAt (l : List Df) (i : Nat) : ByteArray := match l[i]? with
  | some d => d.name
  | none => ⟨#[]⟩

/-! ### The place of a name -/
def nix (s : ByteArray) : Nat → List Df → Int
  | _, [] => 0
  | k, d :: l => if d.name = s then (k : Int) + 1 else nix s (k + 1) l
def hv : Nat → List Df → TL
  | _, [] => []
  | k, d :: l => (k, d.name, (k : Int) + 1) :: hv (k + 1) l
theorem nix_zero {s : ByteArray} : ∀ {l : List Df} {k : Nat}, nix s k l = 0 ↔ ∀ d ∈ l, d.name ≠ s
  | [], k => by simp [nix]
  | d :: l, k => by
    simp only [nix, List.mem_cons, forall_eq_or_imp]
    split
    · rename_i h
      constructor
      · intro h2; omega
      · intro h2; exact absurd h h2.1
    · rename_i h
      rw [nix_zero]
      exact ⟨fun g => ⟨h, g⟩, fun g => g.2⟩
theorem nix_at {s : ByteArray} : ∀ {l : List Df} {k i : Nat} {d : Df}, l[i]? = some d → d.name = s → (∀ (j : Nat) (e : Df), j < i → l[j]? = some e → e.name ≠ s) → nix s k l = k + i + 1
  | [], k, i, d, h, _, _ => by simp at h
  | e :: l, k, 0, d, h, hs, _ => by simp at h; subst h; simp [nix, hs]
  | e :: l, k, i + 1, d, h, hs, hn => by
    have h0 := hn 0 e (by omega) rfl
    simp only [List.getElem?_cons_succ] at h
    simp only [nix, if_neg h0]
    rw [nix_at (k := k + 1) h hs (fun j e' hj he => hn (j + 1) e' (by omega) (by simpa using he))]
    omega
theorem nix_pos {s : ByteArray} : ∀ {l : List Df} {k : Nat}, nix s k l ≠ 0 → ∃ (i : Nat) (d : Df), l[i]? = some d ∧ d.name = s ∧ nix s k l = k + i + 1 ∧ ∀ (j : Nat) (e : Df), j < i → l[j]? = some e → e.name ≠ s
  | [], k, h => by simp [nix] at h
  | d :: l, k, h => by
    simp only [nix] at h ⊢
    split at h
    · rename_i hs
      exact ⟨0, d, rfl, hs, by simp [hs], fun j e hj => by omega⟩
    · rename_i hs
      obtain ⟨i, e, h1, h2, h3, h4⟩ := nix_pos h
      refine ⟨i + 1, e, by simpa using h1, h2, by rw [if_neg hs, h3]; omega, fun j e' hj he => ?_⟩
      cases j with
      | zero => simp at he; subst he; exact hs
      | succ j => exact h4 j e' (by omega) (by simpa using he)
theorem tget_hv (s : ByteArray) : ∀ (l : List Df) (k i : Nat), (tget s (hv k l) i).map (·.2) = if nix s k l = 0 then none else some (nix s k l)
  | [], k, i => by simp [hv, tget, nix]
  | d :: l, k, i => by
    simp only [hv, tget, nix]
    by_cases h : d.name = s
    · have h' : s = d.name := h.symm
      simp [h]
      omega
    · have h' : ¬ s = d.name := fun e => h e.symm
      simp [h, h']
      exact tget_hv s l (k + 1) (i + 1)
theorem tval_hv (s : ByteArray) (l : List Df) (k : Nat) : tval s (hv k l) = nix s k l := by
  have h := tget_hv s l k 0
  unfold tval
  cases hg : tget s (hv k l) 0 with
  | none => rw [hg] at h; simp at h; simp [h]
  | some x =>
    rw [hg] at h
    obtain ⟨j, v⟩ := x
    simp only [Option.map_some] at h
    split at h
    · cases h
    · simpa using h
theorem hv_snoc : ∀ (l : List Df) (k : Nat) (d : Df), hv k (l ++ [d]) = hv k l ++ [(k + l.length, d.name, ((k + l.length : Nat) : Int) + 1)]
  | [], k, d => by simp [hv]
  | e :: l, k, d => by
    simp only [List.cons_append, hv, hv_snoc l (k + 1) d, List.length_cons]
    congr 4
    · omega
    · congr 2; omega
theorem tput_hv {s : ByteArray} {l : List Df} {d : Df} {n : Nat} (hn : n = l.length) (hs : d.name = s) (h : nix s 0 l = 0) (v : Int) (hv' : v = (n : Int) + 1) : tput s v (n, hv 0 l) = (n + 1, hv 0 (l ++ [d])) := by
  have hg := tget_hv s l 0 0
  rw [if_pos h] at hg
  have hg : tget s (hv 0 l) 0 = none := by
    cases hh : tget s (hv 0 l) 0 with
    | none => rfl
    | some x => rw [hh] at hg; simp at hg
  unfold tput
  simp only [hg]
  rw [hv_snoc]
  subst hn; subst hs; subst hv'
  simp

/-! ### sound -/
def badAt (l : List Df) (i : Nat) : Bool := match l[i]? with
  | some d => !nameF d.name || (l.take i).any fun e => decide (e.name = d.name)
  | none => false
def errD (d : Df) : Int := if tmcheck d.tm ≠ 0 then tmcheck d.tm else if tmhas 17 d.tm = true then 30 else tcheck d.ty
def errAt (l : List Df) (i : Nat) : Int := match l[i]? with
  | some d => errD d
  | none => 0
/-- A fault: its number, its place, its word. -/
abbrev Fl := Int × Int × ByteArray
def noB : ByteArray := ⟨#[]⟩
def soundF (l : List Df) (main : ByteArray) : Int × Fl :=
  if l.length > 256 then (0, 3, 0, noB) else
  match (List.range l.length).find? (badAt l) with
  | some i => (0, 230, 0, nameAt l i)
  | none => match (List.range l.length).find? (fun i => decide (errAt l i ≠ 0)) with
    | some i => (0, errAt l i, 0, noB)
    | none => if nix main 0 l = 0 then (0, 5, 0, main) else (nix main 0 l - 1, 0, 0, noB)

def errV (f : Fl) : DV := if f.1 = 0 then .nili else .ifc 51 (.rp 0 [.int .i64 f.1, .int .i64 f.2.1, .str f.2.2])
theorem find_range {p : Nat → Bool} {n i : Nat} (hi : i < n) (hp : p i = true) (h : ∀ j, j < i → p j = false) : (List.range n).find? p = some i :=
  List.find?_range_eq_some.2 ⟨hp, by simpa using hi, fun j hj => by simp [h j hj]⟩
theorem find_range_none {p : Nat → Bool} {n : Nat} (h : ∀ j, j < n → p j = false) : (List.range n).find? p = none :=
  List.find?_range_eq_none.2 fun j hj => by simp [h j hj]
theorem soundF_long {l : List Df} {main : ByteArray} (h : l.length > 256) : soundF l main = (0, 3, 0, noB) := by simp [soundF, h]
theorem soundF_bad {l : List Df} {main : ByteArray} (h : ¬ l.length > 256) {i : Nat} {d : Df} (hd : l[i]? = some d) (hp : badAt l i = true) (hj : ∀ j, j < i → badAt l j = false) : soundF l main = (0, 230, 0, d.name) := by
  simp [soundF, h, find_range (List.getElem?_eq_some_iff.1 hd).1 hp hj, nameAt, hd]
theorem soundF_err {l : List Df} {main : ByteArray} (h : ¬ l.length > 256) (hb : ∀ j, j < l.length → badAt l j = false) {i : Nat} {d : Df} (hd : l[i]? = some d) (hp : errD d ≠ 0) (hj : ∀ j, j < i → errAt l j = 0) : soundF l main = (0, errD d, 0, noB) := by
  have he : errAt l i = errD d := by simp [errAt, hd]
  have := find_range (p := fun i => decide (errAt l i ≠ 0)) (List.getElem?_eq_some_iff.1 hd).1 (by simp [he, hp]) (fun j h => by simp [hj j h])
  simp only [soundF, if_neg h, find_range_none hb, this, he]
theorem soundF_end {l : List Df} {main : ByteArray} (h : ¬ l.length > 256) (hb : ∀ j, j < l.length → badAt l j = false) (hj : ∀ j, j < l.length → errAt l j = 0) : soundF l main = if nix main 0 l = 0 then (0, 5, 0, main) else (nix main 0 l - 1, 0, 0, noB) := by
  have := find_range_none (p := fun i => decide (errAt l i ≠ 0)) (n := l.length) (fun j h => by simp [hj j h])
  simp only [soundF, if_neg h, find_range_none hb, this]
theorem badAt_nix {l : List Df} {i : Nat} {d : Df} (hd : l[i]? = some d) : badAt l i = (!nameF d.name || !decide (nix d.name 0 (l.take i) = 0)) := by
  simp only [badAt, hd]
  congr 1
  rw [Bool.eq_iff_iff]
  simp [nix_zero]
end Go.Proofs.YthmbncehoblgpaaDoor.E

/- Walks: bare of terms in the document's answer; Bare, both. No conditions. -/
set_option linter.unusedVariables false
set_option linter.unusedSimpArgs false
namespace Go.Proofs.YthmbncehoblgpaaDoor.E
open Go

theorem tmcheck_ok {t : Tm} (h : tmcheck t = 0) : tmN t ≤ 8192 ∧ tmright t = true := by
  unfold tmcheck at h
  split at h
  · omega
  · split at h
    · omega
    · split at h
      · rename_i h3; exact ⟨by omega, h3⟩
      · omega
end Go.Proofs.YthmbncehoblgpaaDoor.E
