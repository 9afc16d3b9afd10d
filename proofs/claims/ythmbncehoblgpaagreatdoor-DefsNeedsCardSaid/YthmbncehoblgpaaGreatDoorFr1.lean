/- Free names: the program's walk over a term, with its maps. No conditions. -/
import Derived.Test.YthmbncehoblgpaaGreatDoorTm10
import Derived.Test.YthmbncehoblgpaaGreatDoorEngX3
set_option linter.unusedVariables false
set_option linter.unusedSimpArgs false
namespace Go.Proofs.YthmbncehoblgpaaGreatDoor.E
open Go

/-! ### Maps from names to numbers -/
abbrev TL := List (Nat × ByteArray × Int)
def encL (l : TL) : List (Nat × DV × DV) := l.map fun x => (x.1, .str x.2.1, .int .i64 x.2.2)
def tget (s : ByteArray) : TL → Nat → Option (Nat × Int)
  | [], _ => none
  | (_, k, v) :: l, i => if s = k then some (i, v) else tget s l (i + 1)
def tset (j : Nat) (v : Int) : TL → TL
  | [] => []
  | (c, k, u) :: l => match j with
    | 0 => (c, k, v) :: l
    | j + 1 => (c, k, u) :: tset j v l
theorem mget_enc (s : ByteArray) : ∀ (l : TL) (i : Nat), mget (.str s) (encL l) i = (tget s l i).map fun x => (x.1, DV.int .i64 x.2)
  | [], i => rfl
  | (c, k, v) :: l, i => by
    have ih := mget_enc s l (i + 1)
    simp only [encL, List.map_cons, mget, tget, dvEq, decide_eq_true_eq] at ih ⊢
    by_cases h : s = k
    · rw [if_pos h, if_pos h]; rfl
    · rw [if_neg h, if_neg h, ih]
theorem mset_enc : ∀ (l : TL) (j : Nat) (v : Int), mset j (.int .i64 v) (encL l) = encL (tset j v l)
  | [], j, v => by simp [mset, tset, encL]
  | (c, k, u) :: l, 0, v => rfl
  | (c, k, u) :: l, j + 1, v => by
    have ih := mset_enc l j v
    simp only [encL] at ih
    simp only [encL, List.map_cons, mset, tset, ih]
def tval (s : ByteArray) (l : TL) : Int := match tget s l 0 with
  | some (_, v) => v
  | none => 0
def tput (s : ByteArray) (v : Int) (m : Nat × TL) : Nat × TL := match tget s m.2 0 with
  | some (j, _) => (m.1, tset j v m.2)
  | none => (m.1 + 1, m.2 ++ [(m.1, s, v)])
def tdel (s : ByteArray) (l : TL) : TL := match tget s l 0 with
  | some (j, _) => l.eraseIdx j
  | none => l
theorem mlook_of {s : ByteArray} {l : TL} {X : DV → Prop} (h : X (.int .i64 (tval s l))) : mlook (.str s) (encL l) (.int .i64 0) X := by
  refine ⟨?_⟩
  unfold mlookD
  rw [mget_enc]
  unfold tval at h
  cases hg : tget s l 0 with
  | none => rw [hg] at h; exact h
  | some x => rw [hg] at h; exact h
theorem mput_of {s : ByteArray} {v : Int} {l : TL} {ck : Nat} {X : Nat → List (Nat × DV × DV) → Prop} (h : X (tput s v (ck, l)).1 (encL (tput s v (ck, l)).2)) : mput (.str s) (.int .i64 v) (encL l) ck X := by
  refine ⟨?_⟩
  unfold mputD
  rw [mget_enc]
  unfold tput at h
  cases hg : tget s l 0 with
  | none =>
    rw [hg] at h
    simp only [Option.map_none]
    have : encL l ++ [(ck, DV.str s, DV.int .i64 v)] = encL (l ++ [(ck, s, v)]) := by simp [encL]
    rw [this]; exact h
  | some x =>
    rw [hg] at h
    simp only [Option.map_some]
    rw [mset_enc]; exact h
theorem mdel_of {s : ByteArray} {l : TL} {X : List (Nat × DV × DV) → Prop} (h : X (encL (tdel s l))) : mdel (.str s) (encL l) X := by
  refine ⟨?_⟩
  unfold mdelD
  rw [mget_enc]
  unfold tdel at h
  cases hg : tget s l 0 with
  | none => rw [hg] at h; exact h
  | some x =>
    rw [hg] at h
    simp only [Option.map_some]
    have : (encL l).eraseIdx x.1 = encL (l.eraseIdx x.1) := by simp only [encL, ChangeMaps.map_eraseIdx]
    rw [this]; exact h

attribute [irreducible] tval tput tdel encL
/-! ### What the walk does -/
abbrev FM := (Nat × TL) × (Nat × TL)
def fobj (m : FM) : List AObj := [.var [.mp 1, .mp 2], .mp .str m.1.1 (encL m.1.2), .mp .str m.2.1 (encL m.2.2)]
def finn (s : ByteArray) (m : FM) : FM := (tput s (IntKind.i64.wrap (tval s m.1.2 + 1)) m.1, m.2)
def fdec (s : ByteArray) (m : FM) : FM := (tput s (IntKind.i64.wrap (tval s m.1.2 - 1)) m.1, m.2)
def fout (s : ByteArray) (m : FM) : FM := if tval s (fdec s m).1.2 = 0 then (((fdec s m).1.1, tdel s (fdec s m).1.2), m.2) else fdec s m
def win : List ByteArray → FM → FM
  | [], m => m
  | [s], m => finn s m
  | s :: a :: _, m => finn a (finn s m)
def wout : List ByteArray → FM → FM
  | [], m => m
  | [s], m => fout s m
  | s :: a :: _, m => fdec s (fout a m)
def wsK (k : Int) (name arg : ByteArray) : List (List ByteArray) := if k = 4 then [[name]] else if k = 5 then [[name, arg]] else if k = 7 then [[], [name]] else if k = 14 then [[], [name], [arg]] else []
mutual
def fterm : Tm → FM → FM
  | .node k name arg _ _ _ _ _ _ _ ks, m => if k = 0 then (if tval name m.1.2 = 0 then (m.1, tput name 1 m.2) else m) else fterms ks (wsK k name arg) m
def fterms : List Tm → List (List ByteArray) → FM → FM
  | [], _, m => m
  | t :: l, w, m => fterms l w.tail (wout (w.headD []) (fterm t (win (w.headD []) m)))
end
theorem fterms_take : ∀ (ks : List Tm) (i : Nat) t (m : FM), ks[i]? = some t → fterms (ks.take (i + 1)) [] m = fterm t (fterms (ks.take i) [] m)
  | x :: l, 0, t, m, h => by simp at h; subst h; simp [fterms, win, wout]
  | x :: l, i + 1, t, m, h => by
    simp only [List.getElem?_cons_succ] at h
    have := fterms_take l i t (fterm x m) h
    simp only [List.take_succ_cons, fterms, List.tail_nil, List.headD_nil, win, wout, this]

/-- The contract of the walk over a term. -/
def TermC (t : Tm) : Prop := ∀ (ck : Nat) (l : TL) (cf : Nat) (fl : TL),
  ACall Tryz.prog 58 [.c (.ptr 0 0), .c (.d (.rp 0 t.cells))] [.var [.mp 1, .mp 2], .mp .str ck (encL l), .mp .str cf (encL fl)] (fun o σ => o = .ret (.tup []) ∧ σ = fobj (fterm t ((ck, l), (cf, fl))))
set_option maxRecDepth 10000 in
theorem within_call (s : ByteArray) (t : Tm) (ih : TermC t) (ck : Nat) (l : TL) (cf : Nat) (fl : TL) :
    ACall Tryz.prog 84 [.c (.ptr 0 0), .c (.d (.str s)), .c (.d (.rp 0 t.cells))] [.var [.mp 1, .mp 2], .mp .str ck (encL l), .mp .str cf (encL fl)]
      (fun o σ => o = .ret (.tup []) ∧ σ = fobj (fout s (fterm t (finn s ((ck, l), (cf, fl)))))) := by
  refine ACall.body tab_ok (ρ := 0) (N := 35) Tryz.func84 rfl rfl rfl rfl rfl ?_
  repeat' first | ((refine mlook_of ?_; conv => whnf)) | ((refine mput_of ?_; conv => whnf)) | ((refine mdel_of ?_; conv => whnf)) | refine AW.seq ?_ | refine AW.block ?_ | ((first | refine AW.region tab_ok ?_ | refine AW.cond ?_ | refine AW.skip ?_ | refine AW.ret ?_ | refine AW.exit ?_); conv => whnf) | (refine (ih _ _ _ _).mono ?_; rintro _ _ ⟨rfl, rfl⟩; conv => whnf) | ((first | refine And.intro (@rfl Val _) ?_ | refine And.intro (by decide) ?_ | refine cs (fun _ => ?_) (fun _ => ?_)) <;> conv => whnf)
  · rename_i h
    have h' : tval s (fdec s (fterm t (finn s ((ck, l), (cf, fl))))).1.2 = 0 := eq_of_beq h
    refine ⟨rfl, ?_⟩
    simp only [fout, if_pos h']
    rfl
  · rename_i h
    have h' : ¬ tval s (fdec s (fterm t (finn s ((ck, l), (cf, fl))))).1.2 = 0 := fun e => by
      have := (beq_eq_false_iff_ne.1 h)
      exact this e
    refine ⟨rfl, ?_⟩
    simp only [fout, if_neg h']
    rfl

structure FreeI (ks : List Tm) where
  i : Nat
  hi : i ≤ ks.length
set_option maxRecDepth 10000 in
set_option maxHeartbeats 1000000 in
theorem termF_call (t : Tm) : tmright t = true → tmN t ≤ 8192 → TermC t := by
  induction t using Tm.ind with
  | _ k name arg num tk tks uk uks label place ks ih =>
  intro hr hN ck l cf fl
  have hlen := tmNL_len ks
  simp only [tmN] at hN
  have ih' : ∀ t ∈ ks, TermC t := fun t ht => ih t ht (tmright_kid hr ht) (by have := tmN_mem ks t ht; omega)
  have hl8 : ks.length ≤ 8192 := by omega
  have hkl := tmright_len hr
  clear ih hN hr hlen
  by_cases h0 : k = 0
  · subst h0
    refine ACall.body tab_ok (ρ := 0) (N := 143) Tryz.func58 rfl rfl rfl rfl rfl ?_
    repeat' first | ((refine mlook_of ?_; conv => whnf)) | ((refine mput_of ?_; conv => whnf)) | refine AW.seq ?_ | refine AW.block ?_ | (refine (_root_.id : AW _ _ _ (.region 7 _ true) _ _ → _) ?_; refine AW.draw (id := 7) tab_ok mixed [0, 1, 2, 3, 4, 5, 6, 7, 8, 9] (by kernel_rfl) ?_; conv => whnf) | (refine (_root_.id : AW _ _ _ (.region 8 _ true) _ _ → _) ?_; refine AW.draw (id := 8) tab_ok mixed [0, 1, 2, 3, 4, 5, 6, 7, 8] (by kernel_rfl) ?_; conv => whnf) | (refine (_root_.id : AW _ _ _ (.region 10 _ true) _ _ → _) ?_; refine AW.draw (id := 10) tab_ok mixed [0, 1, 2, 3, 4, 5, 6, 7, 8, 9, 10] (by kernel_rfl) ?_; conv => whnf) | (refine (_root_.id : AW _ _ _ (.region 12 _ true) _ _ → _) ?_; refine AW.draw (id := 12) tab_ok mixed [0, 1, 2, 3, 4, 5, 6, 7, 8, 9, 10] (by kernel_rfl) ?_; conv => whnf) | (refine (_root_.id : AW _ _ _ (.region 13 _ true) _ _ → _) ?_; refine AW.draw (id := 13) tab_ok mixed [0, 1, 2, 3, 4, 5, 6, 7, 8, 9, 10] (by kernel_rfl) ?_; conv => whnf) | (refine (_root_.id : AW _ _ _ (.region 14 _ true) _ _ → _) ?_; refine AW.draw (id := 14) tab_ok mixed [0, 1, 2, 3, 4, 5, 6, 7, 8, 9, 10] (by kernel_rfl) ?_; conv => whnf) | (refine (_root_.id : AW _ _ _ (.region 17 _ true) _ _ → _) ?_; refine AW.draw (id := 17) tab_ok mixed [0, 1, 2, 3, 4, 5, 6, 7, 8, 9, 10] (by kernel_rfl) ?_; conv => whnf) | (refine (_root_.id : AW _ _ _ (.region 20 _ true) _ _ → _) ?_; refine AW.draw (id := 20) tab_ok mixed [0, 1, 2, 3, 4, 5, 6, 7, 8, 9, 10] (by kernel_rfl) ?_; conv => whnf) | (refine (_root_.id : AW _ _ _ (.region 21 _ true) _ _ → _) ?_; refine AW.draw (id := 21) tab_ok mixed [0, 1, 2, 3, 4, 5, 6, 7, 8, 9, 10] (by kernel_rfl) ?_; conv => whnf) | ((first | refine AW.region tab_ok ?_ | refine AW.cond ?_ | refine AW.skip ?_ | refine AW.ret ?_ | refine AW.exit ?_); conv => whnf) | ((first | refine And.intro (@rfl Val _) ?_ | refine And.intro (by decide) ?_ | refine cs (fun _ => ?_) (fun _ => ?_)) <;> conv => whnf)
    · rename_i h
      have h' : tval name l = 0 := eq_of_beq h
      refine ⟨rfl, ?_⟩
      simp only [fterm, if_true, h']
      rfl
    · rename_i h
      have h' : ¬ tval name l = 0 := beq_eq_false_iff_ne.1 h
      refine ⟨rfl, ?_⟩
      simp only [fterm, if_true, if_neg h']
      rfl
  by_cases h4 : k = 4
  · subst h4
    have hk1 : ks.length = 1 := by simp [kidsK] at hkl; omega
    obtain ⟨a, rfl⟩ : ∃ a, ks = [a] := by
      match ks, hk1 with
      | [a], _ => exact ⟨a, rfl⟩
    have wa := fun s => within_call s a (ih' a (by simp))
    refine ACall.body tab_ok (ρ := 0) (N := 143) Tryz.func58 rfl rfl rfl rfl rfl ?_
    repeat' first | ((refine ⟨by simp [trows_length], fun row hrow => ?_⟩; simp [Tm.rows] at hrow; subst hrow; conv => whnf)) | refine AW.seq ?_ | refine AW.block ?_ | (refine (_root_.id : AW _ _ _ (.region 7 _ true) _ _ → _) ?_; refine AW.draw (id := 7) tab_ok mixed [0, 1, 2, 3, 4, 5, 6, 7, 8, 9] (by kernel_rfl) ?_; conv => whnf) | (refine (_root_.id : AW _ _ _ (.region 8 _ true) _ _ → _) ?_; refine AW.draw (id := 8) tab_ok mixed [0, 1, 2, 3, 4, 5, 6, 7, 8] (by kernel_rfl) ?_; conv => whnf) | (refine (_root_.id : AW _ _ _ (.region 10 _ true) _ _ → _) ?_; refine AW.draw (id := 10) tab_ok mixed [0, 1, 2, 3, 4, 5, 6, 7, 8, 9, 10] (by kernel_rfl) ?_; conv => whnf) | (refine (_root_.id : AW _ _ _ (.region 12 _ true) _ _ → _) ?_; refine AW.draw (id := 12) tab_ok mixed [0, 1, 2, 3, 4, 5, 6, 7, 8, 9, 10] (by kernel_rfl) ?_; conv => whnf) | (refine (_root_.id : AW _ _ _ (.region 13 _ true) _ _ → _) ?_; refine AW.draw (id := 13) tab_ok mixed [0, 1, 2, 3, 4, 5, 6, 7, 8, 9, 10] (by kernel_rfl) ?_; conv => whnf) | (refine (_root_.id : AW _ _ _ (.region 14 _ true) _ _ → _) ?_; refine AW.draw (id := 14) tab_ok mixed [0, 1, 2, 3, 4, 5, 6, 7, 8, 9, 10] (by kernel_rfl) ?_; conv => whnf) | (refine (_root_.id : AW _ _ _ (.region 17 _ true) _ _ → _) ?_; refine AW.draw (id := 17) tab_ok mixed [0, 1, 2, 3, 4, 5, 6, 7, 8, 9, 10] (by kernel_rfl) ?_; conv => whnf) | (refine (_root_.id : AW _ _ _ (.region 20 _ true) _ _ → _) ?_; refine AW.draw (id := 20) tab_ok mixed [0, 1, 2, 3, 4, 5, 6, 7, 8, 9, 10] (by kernel_rfl) ?_; conv => whnf) | (refine (_root_.id : AW _ _ _ (.region 21 _ true) _ _ → _) ?_; refine AW.draw (id := 21) tab_ok mixed [0, 1, 2, 3, 4, 5, 6, 7, 8, 9, 10] (by kernel_rfl) ?_; conv => whnf) | ((first | refine AW.region tab_ok ?_ | refine AW.cond ?_ | refine AW.skip ?_ | refine AW.ret ?_ | refine AW.exit ?_); conv => whnf) | (refine (wa _ _ _ _ _).mono ?_; rintro _ _ ⟨rfl, rfl⟩; conv => whnf) | ((first | refine And.intro (@rfl Val _) ?_ | refine And.intro (by decide) ?_ | refine cs (fun _ => ?_) (fun _ => ?_)) <;> conv => whnf)
    exact ⟨rfl, rfl⟩
  by_cases h5 : k = 5
  · subst h5
    have hk1 : ks.length = 1 := by simp [kidsK] at hkl; omega
    obtain ⟨a, rfl⟩ : ∃ a, ks = [a] := by
      match ks, hk1 with
      | [a], _ => exact ⟨a, rfl⟩
    have wa := fun s => within_call s a (ih' a (by simp))
    refine ACall.body tab_ok (ρ := 0) (N := 143) Tryz.func58 rfl rfl rfl rfl rfl ?_
    repeat' first | ((refine mlook_of ?_; conv => whnf)) | ((refine mput_of ?_; conv => whnf)) | ((refine ⟨by simp [trows_length], fun row hrow => ?_⟩; simp [Tm.rows] at hrow; subst hrow; conv => whnf)) | refine AW.seq ?_ | refine AW.block ?_ | (refine (_root_.id : AW _ _ _ (.region 7 _ true) _ _ → _) ?_; refine AW.draw (id := 7) tab_ok mixed [0, 1, 2, 3, 4, 5, 6, 7, 8, 9] (by kernel_rfl) ?_; conv => whnf) | (refine (_root_.id : AW _ _ _ (.region 8 _ true) _ _ → _) ?_; refine AW.draw (id := 8) tab_ok mixed [0, 1, 2, 3, 4, 5, 6, 7, 8] (by kernel_rfl) ?_; conv => whnf) | (refine (_root_.id : AW _ _ _ (.region 10 _ true) _ _ → _) ?_; refine AW.draw (id := 10) tab_ok mixed [0, 1, 2, 3, 4, 5, 6, 7, 8, 9, 10] (by kernel_rfl) ?_; conv => whnf) | (refine (_root_.id : AW _ _ _ (.region 12 _ true) _ _ → _) ?_; refine AW.draw (id := 12) tab_ok mixed [0, 1, 2, 3, 4, 5, 6, 7, 8, 9, 10] (by kernel_rfl) ?_; conv => whnf) | (refine (_root_.id : AW _ _ _ (.region 13 _ true) _ _ → _) ?_; refine AW.draw (id := 13) tab_ok mixed [0, 1, 2, 3, 4, 5, 6, 7, 8, 9, 10] (by kernel_rfl) ?_; conv => whnf) | (refine (_root_.id : AW _ _ _ (.region 14 _ true) _ _ → _) ?_; refine AW.draw (id := 14) tab_ok mixed [0, 1, 2, 3, 4, 5, 6, 7, 8, 9, 10] (by kernel_rfl) ?_; conv => whnf) | (refine (_root_.id : AW _ _ _ (.region 17 _ true) _ _ → _) ?_; refine AW.draw (id := 17) tab_ok mixed [0, 1, 2, 3, 4, 5, 6, 7, 8, 9, 10] (by kernel_rfl) ?_; conv => whnf) | (refine (_root_.id : AW _ _ _ (.region 20 _ true) _ _ → _) ?_; refine AW.draw (id := 20) tab_ok mixed [0, 1, 2, 3, 4, 5, 6, 7, 8, 9, 10] (by kernel_rfl) ?_; conv => whnf) | (refine (_root_.id : AW _ _ _ (.region 21 _ true) _ _ → _) ?_; refine AW.draw (id := 21) tab_ok mixed [0, 1, 2, 3, 4, 5, 6, 7, 8, 9, 10] (by kernel_rfl) ?_; conv => whnf) | ((first | refine AW.region tab_ok ?_ | refine AW.cond ?_ | refine AW.skip ?_ | refine AW.ret ?_ | refine AW.exit ?_); conv => whnf) | (refine (wa _ _ _ _ _).mono ?_; rintro _ _ ⟨rfl, rfl⟩; conv => whnf) | ((first | refine And.intro (@rfl Val _) ?_ | refine And.intro (by decide) ?_ | refine cs (fun _ => ?_) (fun _ => ?_)) <;> conv => whnf)
    exact ⟨rfl, rfl⟩
  by_cases h7 : k = 7
  · subst h7
    have hk1 : ks.length = 2 := by simp [kidsK] at hkl; omega
    obtain ⟨a, b, rfl⟩ : ∃ a b, ks = [a, b] := by
      match ks, hk1 with
      | [a, b], _ => exact ⟨a, b, rfl⟩
    have ia := ih' a (by simp)
    have wb := fun s => within_call s b (ih' b (by simp))
    refine ACall.body tab_ok (ρ := 0) (N := 143) Tryz.func58 rfl rfl rfl rfl rfl ?_
    repeat' first | ((refine ⟨by simp [trows_length], fun row hrow => ?_⟩; simp [Tm.rows] at hrow; subst hrow; conv => whnf)) | refine AW.seq ?_ | refine AW.block ?_ | (refine (_root_.id : AW _ _ _ (.region 7 _ true) _ _ → _) ?_; refine AW.draw (id := 7) tab_ok mixed [0, 1, 2, 3, 4, 5, 6, 7, 8, 9] (by kernel_rfl) ?_; conv => whnf) | (refine (_root_.id : AW _ _ _ (.region 8 _ true) _ _ → _) ?_; refine AW.draw (id := 8) tab_ok mixed [0, 1, 2, 3, 4, 5, 6, 7, 8] (by kernel_rfl) ?_; conv => whnf) | (refine (_root_.id : AW _ _ _ (.region 10 _ true) _ _ → _) ?_; refine AW.draw (id := 10) tab_ok mixed [0, 1, 2, 3, 4, 5, 6, 7, 8, 9, 10] (by kernel_rfl) ?_; conv => whnf) | (refine (_root_.id : AW _ _ _ (.region 12 _ true) _ _ → _) ?_; refine AW.draw (id := 12) tab_ok mixed [0, 1, 2, 3, 4, 5, 6, 7, 8, 9, 10] (by kernel_rfl) ?_; conv => whnf) | (refine (_root_.id : AW _ _ _ (.region 13 _ true) _ _ → _) ?_; refine AW.draw (id := 13) tab_ok mixed [0, 1, 2, 3, 4, 5, 6, 7, 8, 9, 10] (by kernel_rfl) ?_; conv => whnf) | (refine (_root_.id : AW _ _ _ (.region 14 _ true) _ _ → _) ?_; refine AW.draw (id := 14) tab_ok mixed [0, 1, 2, 3, 4, 5, 6, 7, 8, 9, 10] (by kernel_rfl) ?_; conv => whnf) | (refine (_root_.id : AW _ _ _ (.region 17 _ true) _ _ → _) ?_; refine AW.draw (id := 17) tab_ok mixed [0, 1, 2, 3, 4, 5, 6, 7, 8, 9, 10] (by kernel_rfl) ?_; conv => whnf) | (refine (_root_.id : AW _ _ _ (.region 20 _ true) _ _ → _) ?_; refine AW.draw (id := 20) tab_ok mixed [0, 1, 2, 3, 4, 5, 6, 7, 8, 9, 10] (by kernel_rfl) ?_; conv => whnf) | (refine (_root_.id : AW _ _ _ (.region 21 _ true) _ _ → _) ?_; refine AW.draw (id := 21) tab_ok mixed [0, 1, 2, 3, 4, 5, 6, 7, 8, 9, 10] (by kernel_rfl) ?_; conv => whnf) | ((first | refine AW.region tab_ok ?_ | refine AW.cond ?_ | refine AW.skip ?_ | refine AW.ret ?_ | refine AW.exit ?_); conv => whnf) | ((first | refine (ia _ _ _ _).mono ?_ | refine (wb _ _ _ _ _).mono ?_); rintro _ _ ⟨rfl, rfl⟩; conv => whnf) | ((first | refine And.intro (@rfl Val _) ?_ | refine And.intro (by decide) ?_ | refine cs (fun _ => ?_) (fun _ => ?_)) <;> conv => whnf)
    exact ⟨rfl, rfl⟩
  by_cases h14 : k = 14
  · subst h14
    have hk1 : ks.length = 3 := by simp [kidsK] at hkl; omega
    obtain ⟨a, b, c, rfl⟩ : ∃ a b c, ks = [a, b, c] := by
      match ks, hk1 with
      | [a, b, c], _ => exact ⟨a, b, c, rfl⟩
    have ia := ih' a (by simp)
    have wb := fun s => within_call s b (ih' b (by simp))
    have wc := fun s => within_call s c (ih' c (by simp))
    refine ACall.body tab_ok (ρ := 0) (N := 143) Tryz.func58 rfl rfl rfl rfl rfl ?_
    repeat' first | ((refine ⟨by simp [trows_length], fun row hrow => ?_⟩; simp [Tm.rows] at hrow; subst hrow; conv => whnf)) | refine AW.seq ?_ | refine AW.block ?_ | (refine (_root_.id : AW _ _ _ (.region 7 _ true) _ _ → _) ?_; refine AW.draw (id := 7) tab_ok mixed [0, 1, 2, 3, 4, 5, 6, 7, 8, 9] (by kernel_rfl) ?_; conv => whnf) | (refine (_root_.id : AW _ _ _ (.region 8 _ true) _ _ → _) ?_; refine AW.draw (id := 8) tab_ok mixed [0, 1, 2, 3, 4, 5, 6, 7, 8] (by kernel_rfl) ?_; conv => whnf) | (refine (_root_.id : AW _ _ _ (.region 10 _ true) _ _ → _) ?_; refine AW.draw (id := 10) tab_ok mixed [0, 1, 2, 3, 4, 5, 6, 7, 8, 9, 10] (by kernel_rfl) ?_; conv => whnf) | (refine (_root_.id : AW _ _ _ (.region 12 _ true) _ _ → _) ?_; refine AW.draw (id := 12) tab_ok mixed [0, 1, 2, 3, 4, 5, 6, 7, 8, 9, 10] (by kernel_rfl) ?_; conv => whnf) | (refine (_root_.id : AW _ _ _ (.region 13 _ true) _ _ → _) ?_; refine AW.draw (id := 13) tab_ok mixed [0, 1, 2, 3, 4, 5, 6, 7, 8, 9, 10] (by kernel_rfl) ?_; conv => whnf) | (refine (_root_.id : AW _ _ _ (.region 14 _ true) _ _ → _) ?_; refine AW.draw (id := 14) tab_ok mixed [0, 1, 2, 3, 4, 5, 6, 7, 8, 9, 10] (by kernel_rfl) ?_; conv => whnf) | (refine (_root_.id : AW _ _ _ (.region 17 _ true) _ _ → _) ?_; refine AW.draw (id := 17) tab_ok mixed [0, 1, 2, 3, 4, 5, 6, 7, 8, 9, 10] (by kernel_rfl) ?_; conv => whnf) | (refine (_root_.id : AW _ _ _ (.region 20 _ true) _ _ → _) ?_; refine AW.draw (id := 20) tab_ok mixed [0, 1, 2, 3, 4, 5, 6, 7, 8, 9, 10] (by kernel_rfl) ?_; conv => whnf) | (refine (_root_.id : AW _ _ _ (.region 21 _ true) _ _ → _) ?_; refine AW.draw (id := 21) tab_ok mixed [0, 1, 2, 3, 4, 5, 6, 7, 8, 9, 10] (by kernel_rfl) ?_; conv => whnf) | ((first | refine AW.region tab_ok ?_ | refine AW.cond ?_ | refine AW.skip ?_ | refine AW.ret ?_ | refine AW.exit ?_); conv => whnf) | ((first | refine (ia _ _ _ _).mono ?_ | refine (wb _ _ _ _ _).mono ?_ | refine (wc _ _ _ _ _).mono ?_); rintro _ _ ⟨rfl, rfl⟩; conv => whnf) | ((first | refine And.intro (@rfl Val _) ?_ | refine And.intro (by decide) ?_ | refine cs (fun _ => ?_) (fun _ => ?_)) <;> conv => whnf)
    exact ⟨rfl, rfl⟩
  have b0 : (k == 0) = false := by simpa using h0
  have b4 : (k == 4) = false := by simpa using h4
  have b5 : (k == 5) = false := by simpa using h5
  have b7 : (k == 7) = false := by simpa using h7
  have b14 : (k == 14) = false := by simpa using h14
  have hw : wsK k name arg = [] := by simp only [wsK, if_neg h4, if_neg h5, if_neg h7, if_neg h14]
  have hf : ∀ m, fterm (.node k name arg num tk tks uk uks label place ks) m = fterms ks [] m := fun m => by simp only [fterm, if_neg h0, hw]
  simp only [hf]
  clear hf hw hkl h0 h4 h5 h7 h14
  refine ACall.body tab_ok (ρ := 0) (N := 143) Tryz.func58 rfl rfl rfl rfl rfl ?_
  repeat' first | ((refine cs (fun h => absurd h (by first | (rw [b0]; decide) | (rw [b4]; decide) | (rw [b5]; decide) | (rw [b7]; decide) | (rw [b14]; decide))) (fun _ => ?_); conv => whnf)) | refine AW.seq ?_ | refine AW.block ?_ | (refine (_root_.id : AW _ _ _ (.region 7 _ true) _ _ → _) ?_; refine AW.draw (id := 7) tab_ok mixed [0, 1, 2, 3, 4, 5, 6, 7, 8, 9] (by kernel_rfl) ?_; conv => whnf) | (refine (_root_.id : AW _ _ _ (.region 8 _ true) _ _ → _) ?_; refine AW.draw (id := 8) tab_ok mixed [0, 1, 2, 3, 4, 5, 6, 7, 8] (by kernel_rfl) ?_; conv => whnf) | (refine (_root_.id : AW _ _ _ (.region 10 _ true) _ _ → _) ?_; refine AW.draw (id := 10) tab_ok mixed [0, 1, 2, 3, 4, 5, 6, 7, 8, 9, 10] (by kernel_rfl) ?_; conv => whnf) | (refine (_root_.id : AW _ _ _ (.region 12 _ true) _ _ → _) ?_; refine AW.draw (id := 12) tab_ok mixed [0, 1, 2, 3, 4, 5, 6, 7, 8, 9, 10] (by kernel_rfl) ?_; conv => whnf) | (refine (_root_.id : AW _ _ _ (.region 13 _ true) _ _ → _) ?_; refine AW.draw (id := 13) tab_ok mixed [0, 1, 2, 3, 4, 5, 6, 7, 8, 9, 10] (by kernel_rfl) ?_; conv => whnf) | (refine (_root_.id : AW _ _ _ (.region 14 _ true) _ _ → _) ?_; refine AW.draw (id := 14) tab_ok mixed [0, 1, 2, 3, 4, 5, 6, 7, 8, 9, 10] (by kernel_rfl) ?_; conv => whnf) | (refine (_root_.id : AW _ _ _ (.region 17 _ true) _ _ → _) ?_; refine AW.draw (id := 17) tab_ok mixed [0, 1, 2, 3, 4, 5, 6, 7, 8, 9, 10] (by kernel_rfl) ?_; conv => whnf) | (refine (_root_.id : AW _ _ _ (.region 20 _ true) _ _ → _) ?_; refine AW.draw (id := 20) tab_ok mixed [0, 1, 2, 3, 4, 5, 6, 7, 8, 9, 10] (by kernel_rfl) ?_; conv => whnf) | (refine (_root_.id : AW _ _ _ (.region 21 _ true) _ _ → _) ?_; refine AW.draw (id := 21) tab_ok mixed [0, 1, 2, 3, 4, 5, 6, 7, 8, 9, 10] (by kernel_rfl) ?_; conv => whnf) | ((first | refine AW.region tab_ok ?_ | refine AW.cond ?_ | refine AW.skip ?_ | refine AW.ret ?_ | refine AW.exit ?_); conv => whnf) | ((first | refine And.intro (@rfl Val _) ?_ | refine And.intro (by decide) ?_ | refine cs (fun _ => ?_) (fun _ => ?_)) <;> conv => whnf)
  refine AW.loop (ι := FreeI ks) (fun x => ⟨143, [(14, .c (.d (.int .i64 x.i))), (13, .c (.d (.int .i64 (Tm.rows ks).length))), (0, .c (.ptr 0 0)), (1, .c (.d (.rp 0 (Tm.node k name arg num tk tks uk uks label place ks).cells)))],
      [.var [.mp 1, .mp 2], .mp .str (fterms (ks.take x.i) [] ((ck, l), (cf, fl))).1.1 (encL (fterms (ks.take x.i) [] ((ck, l), (cf, fl))).1.2), .mp .str (fterms (ks.take x.i) [] ((ck, l), (cf, fl))).2.1 (encL (fterms (ks.take x.i) [] ((ck, l), (cf, fl))).2.2)], []⟩)
    (fun x => ks.length - x.i) ⟨0, Nat.zero_le _⟩ 3 (fun _ => rfl) (Nat.le_of_ble_eq_true rfl) ⟨⟨rfl, rfl, rfl, rfl, trivial⟩, rfl, rfl, ⟨[], rfl⟩, rfl⟩ (fun x => ?_)
  obtain ⟨i, hi⟩ := x
  repeat' first | refine AW.seq ?_ | refine AW.block ?_ | (refine (_root_.id : AW _ _ _ (.region 7 _ true) _ _ → _) ?_; refine AW.draw (id := 7) tab_ok mixed [0, 1, 2, 3, 4, 5, 6, 7, 8, 9] (by kernel_rfl) ?_; conv => whnf) | (refine (_root_.id : AW _ _ _ (.region 8 _ true) _ _ → _) ?_; refine AW.draw (id := 8) tab_ok mixed [0, 1, 2, 3, 4, 5, 6, 7, 8] (by kernel_rfl) ?_; conv => whnf) | (refine (_root_.id : AW _ _ _ (.region 10 _ true) _ _ → _) ?_; refine AW.draw (id := 10) tab_ok mixed [0, 1, 2, 3, 4, 5, 6, 7, 8, 9, 10] (by kernel_rfl) ?_; conv => whnf) | (refine (_root_.id : AW _ _ _ (.region 12 _ true) _ _ → _) ?_; refine AW.draw (id := 12) tab_ok mixed [0, 1, 2, 3, 4, 5, 6, 7, 8, 9, 10] (by kernel_rfl) ?_; conv => whnf) | (refine (_root_.id : AW _ _ _ (.region 13 _ true) _ _ → _) ?_; refine AW.draw (id := 13) tab_ok mixed [0, 1, 2, 3, 4, 5, 6, 7, 8, 9, 10] (by kernel_rfl) ?_; conv => whnf) | (refine (_root_.id : AW _ _ _ (.region 14 _ true) _ _ → _) ?_; refine AW.draw (id := 14) tab_ok mixed [0, 1, 2, 3, 4, 5, 6, 7, 8, 9, 10] (by kernel_rfl) ?_; conv => whnf) | (refine (_root_.id : AW _ _ _ (.region 17 _ true) _ _ → _) ?_; refine AW.draw (id := 17) tab_ok mixed [0, 1, 2, 3, 4, 5, 6, 7, 8, 9, 10] (by kernel_rfl) ?_; conv => whnf) | (refine (_root_.id : AW _ _ _ (.region 20 _ true) _ _ → _) ?_; refine AW.draw (id := 20) tab_ok mixed [0, 1, 2, 3, 4, 5, 6, 7, 8, 9, 10] (by kernel_rfl) ?_; conv => whnf) | (refine (_root_.id : AW _ _ _ (.region 21 _ true) _ _ → _) ?_; refine AW.draw (id := 21) tab_ok mixed [0, 1, 2, 3, 4, 5, 6, 7, 8, 9, 10] (by kernel_rfl) ?_; conv => whnf) | ((first | refine AW.region tab_ok ?_ | refine AW.cond ?_ | refine AW.skip ?_ | refine AW.ret ?_ | refine AW.exit ?_); conv => whnf) | ((first | refine And.intro (@rfl Val _) ?_ | refine And.intro (by decide) ?_ | refine cs (fun _ => ?_) (fun _ => ?_)) <;> conv => whnf)
  · rename_i h1
    simp only [trows_length] at h1 ⊢
    have := of_decide_eq_true h1
    refine ⟨by omega, fun row hrow => ?_⟩
    obtain ⟨t, ht, rfl⟩ := trows_get ks i row (by simpa using hrow)
    have hlt : i < ks.length := (List.getElem?_eq_some_iff.1 ht).1
    have ia := ih' t (List.mem_of_getElem? ht)
    have hs := fterms_take ks i _ ((ck, l), (cf, fl)) ht
    conv => whnf
    repeat' first | refine AW.seq ?_ | refine AW.block ?_ | (refine (_root_.id : AW _ _ _ (.region 7 _ true) _ _ → _) ?_; refine AW.draw (id := 7) tab_ok mixed [0, 1, 2, 3, 4, 5, 6, 7, 8, 9] (by kernel_rfl) ?_; conv => whnf) | (refine (_root_.id : AW _ _ _ (.region 8 _ true) _ _ → _) ?_; refine AW.draw (id := 8) tab_ok mixed [0, 1, 2, 3, 4, 5, 6, 7, 8] (by kernel_rfl) ?_; conv => whnf) | (refine (_root_.id : AW _ _ _ (.region 10 _ true) _ _ → _) ?_; refine AW.draw (id := 10) tab_ok mixed [0, 1, 2, 3, 4, 5, 6, 7, 8, 9, 10] (by kernel_rfl) ?_; conv => whnf) | (refine (_root_.id : AW _ _ _ (.region 12 _ true) _ _ → _) ?_; refine AW.draw (id := 12) tab_ok mixed [0, 1, 2, 3, 4, 5, 6, 7, 8, 9, 10] (by kernel_rfl) ?_; conv => whnf) | (refine (_root_.id : AW _ _ _ (.region 13 _ true) _ _ → _) ?_; refine AW.draw (id := 13) tab_ok mixed [0, 1, 2, 3, 4, 5, 6, 7, 8, 9, 10] (by kernel_rfl) ?_; conv => whnf) | (refine (_root_.id : AW _ _ _ (.region 14 _ true) _ _ → _) ?_; refine AW.draw (id := 14) tab_ok mixed [0, 1, 2, 3, 4, 5, 6, 7, 8, 9, 10] (by kernel_rfl) ?_; conv => whnf) | (refine (_root_.id : AW _ _ _ (.region 17 _ true) _ _ → _) ?_; refine AW.draw (id := 17) tab_ok mixed [0, 1, 2, 3, 4, 5, 6, 7, 8, 9, 10] (by kernel_rfl) ?_; conv => whnf) | (refine (_root_.id : AW _ _ _ (.region 20 _ true) _ _ → _) ?_; refine AW.draw (id := 20) tab_ok mixed [0, 1, 2, 3, 4, 5, 6, 7, 8, 9, 10] (by kernel_rfl) ?_; conv => whnf) | (refine (_root_.id : AW _ _ _ (.region 21 _ true) _ _ → _) ?_; refine AW.draw (id := 21) tab_ok mixed [0, 1, 2, 3, 4, 5, 6, 7, 8, 9, 10] (by kernel_rfl) ?_; conv => whnf) | ((first | refine AW.region tab_ok ?_ | refine AW.cond ?_ | refine AW.skip ?_ | refine AW.ret ?_ | refine AW.exit ?_); conv => whnf) | (refine (ia _ _ _ _).mono ?_; rintro _ _ ⟨rfl, rfl⟩; conv => whnf) | ((first | refine And.intro (@rfl Val _) ?_ | refine And.intro (by decide) ?_ | refine cs (fun _ => ?_) (fun _ => ?_)) <;> conv => whnf)
    rw [wrap64 (x := (i : Int) + 1) (by omega) (by omega)]
    refine ⟨⟨i + 1, hlt⟩, ⟨⟨rfl, rfl, rfl, rfl, trivial⟩, rfl, rfl, ⟨[], ?_⟩, rfl⟩, show ks.length - (i + 1) < ks.length - i by omega⟩
    simp only [hs]
    rfl
  · rename_i h1
    simp only [trows_length] at h1
    have := of_decide_eq_false h1
    obtain rfl : i = ks.length := by omega
    simp only [List.take_length]
    exact ⟨rfl, rfl⟩
end Go.Proofs.YthmbncehoblgpaaGreatDoor.E
