/- Texts, merged: Bk0, Bk1. No conditions. -/
import Derived.Test.YtmaokphbfjpodaaGreatDoorGenX4
import Derived.Test.YtmaokphbfjpodaaGreatDoorGenX12
/- What is told of a type is read as it was: the words of a type and the reader of types, in plain Lean. No conditions. -/
set_option linter.unusedVariables false
set_option linter.unusedSimpArgs false
namespace Go.Proofs.YtmaokphbfjpodaaGreatDoor.E
open Go

/-- A word without its place. -/
structure Tk where
  kind : Int
  text : ByteArray
  num : Int
def Wd.tk (w : Wd) : Tk := ⟨w.kind, w.text, w.num⟩
def sg (l : List UInt8) : Tk := ⟨4, bw l, 0⟩
def ky (l : List UInt8) : Tk := ⟨3, bw l, 0⟩
/-- The words from a place on. -/
def toksW (l : List Wd) (i : Nat) : List Tk := (l.drop i).map Wd.tk
def hdT (ts : List Tk) (k : Int) (s : ByteArray) : Bool := match ts with
  | x :: _ => decide (x.kind = k) && decide (x.text = s)
  | [] => false
@[simp] theorem hdT_cons (x : Tk) (ts : List Tk) (k : Int) (s : ByteArray) : hdT (x :: ts) k s = (decide (x.kind = k) && decide (x.text = s)) := rfl
@[simp] theorem hdT_nil (k : Int) (s : ByteArray) : hdT [] k s = false := rfl
theorem toksW_cons {l : List Wd} {i : Nat} {x : Tk} {r : List Tk} (h : toksW l i = x :: r) : ∃ w, l[i]? = some w ∧ w.tk = x ∧ i < l.length ∧ toksW l (i + 1) = r := by
  have hi : i < l.length := by
    refine Nat.lt_of_not_le fun hn => ?_
    rw [toksW, List.drop_eq_nil_of_le hn] at h
    cases h
  rw [toksW, List.drop_eq_getElem_cons hi, List.map_cons, List.cons.injEq] at h
  exact ⟨l[i], List.getElem?_eq_getElem hi, h.1, hi, h.2⟩
theorem toksW_lt {l : List Wd} {i : Nat} {x : Tk} {r : List Tk} (h : toksW l i = x :: r) : i < l.length := (toksW_cons h).elim fun _ h => h.2.2.1
theorem toksW_next {l : List Wd} {i : Nat} {x : Tk} {r : List Tk} (h : toksW l i = x :: r) : toksW l (i + 1) = r := (toksW_cons h).elim fun _ h => h.2.2.2
theorem tkW_toks {l : List Wd} {i : Nat} {ts : List Tk} (h : toksW l i = ts) (k : Int) (s : ByteArray) : tkW l i k s = hdT ts k s := by
  cases ts with
  | nil =>
    have : l.length ≤ i := by
      rw [toksW, List.map_eq_nil_iff, List.drop_eq_nil_iff] at h
      exact h
    rw [tkW, List.getElem?_eq_none this]
    rfl
  | cons x r =>
    obtain ⟨w, hw, hx, _, _⟩ := toksW_cons h
    subst hx
    rw [tkW, hw]
    rfl

/-! ### Types -/
def tbrT (least k : Int) (ts : List Tk) : List Tk := if ttight k < least then sg [40] :: (ts ++ [sg [41]]) else ts
def tsignT (k : Int) : Tk := if k = 0 then sg [63] else if k = 1 then ky [105, 110, 116] else if k = 2 then ky [98, 111, 111, 108] else if k = 3 then sg [45, 62] else if k = 4 then sg [42] else sg [43]
def tyJT (k : Int) : List (Int × List Tk) → List Tk
  | [p, q] => tbrT (tleft k) p.1 p.2 ++ tsignT k :: tbrT (tright2 k) q.1 q.2
  | _ => [tsignT k]
mutual
def tyT : Ty → List Tk
  | .node k ks => tyJT k (tyTL ks)
def tyTL : List Ty → List (Int × List Tk)
  | [] => []
  | t :: l => (tyK t, tyT t) :: tyTL l
end
def tyA (least : Int) (t : Ty) : List Tk := tbrT least (tyK t) (tyT t)
/-- A type whose kinds have their parts. -/
inductive TyG : Ty → Prop where
  | leaf (k : Int) (h : k = 0 ∨ k = 1 ∨ k = 2) : TyG (.node k [])
  | two (k : Int) (a b : Ty) (h : k = 3 ∨ k = 4 ∨ k = 5) (ha : TyG a) (hb : TyG b) : TyG (.node k [a, b])
theorem tyG_of (t : Ty) : tright t = true → TyG t := by
  induction t using Ty.ind with
  | _ k ks ih =>
  intro h
  have hl := tright_len h
  have hk : parts k = 0 ∧ (k = 0 ∨ k = 1 ∨ k = 2) ∨ parts k = 2 ∧ (k = 3 ∨ k = 4 ∨ k = 5) := by
    unfold parts at hl ⊢
    repeat' split at hl
    all_goals first | omega | (simp_all; done) | (simp_all; omega)
  rcases hk with ⟨h0, hk⟩ | ⟨h2, hk⟩
  · have : ks = [] := List.eq_nil_of_length_eq_zero (by omega)
    subst this
    exact .leaf k hk
  · obtain ⟨x, y, rfl⟩ := len2' (l := ks) (by omega)
    exact .two k x y hk (ih x (by simp) (tright_kid h (by simp))) (ih y (by simp) (tright_kid h (by simp)))
/-- What is read at the four levels. -/
structure TyRd (t : Ty) (l : List Wd) : Prop where
  atom : ∀ n i rest, toksW l i = tyA 4 t ++ rest → l.length ≤ n + i → ∃ j, tAtom l (tWhole l n) i = .ok t j ∧ i < j ∧ toksW l j = rest
  prod : ∀ n i rest, toksW l i = tyA 3 t ++ rest → l.length ≤ n + i → ∃ m j, tProd l (tWhole l n) i = tLoop l (tAtom l (tWhole l n)) 4 ⟨#[42]⟩ m t j ∧ i < j ∧ l.length + 1 + i ≤ m + j ∧ toksW l j = rest
  sum : ∀ n i rest, toksW l i = tyA 2 t ++ rest → l.length ≤ n + i → hdT rest 4 ⟨#[42]⟩ = false → ∃ m j, tSum l (tWhole l n) i = tLoop l (tProd l (tWhole l n)) 5 ⟨#[43]⟩ m t j ∧ i < j ∧ l.length + 1 + i ≤ m + j ∧ toksW l j = rest
  whole : ∀ n i rest, toksW l i = tyA 1 t ++ rest → l.length < n + i → hdT rest 4 ⟨#[42]⟩ = false → hdT rest 4 ⟨#[43]⟩ = false → hdT rest 4 ⟨#[45, 62]⟩ = false → ∃ j, tWhole l n i = .ok t j ∧ i < j ∧ toksW l j = rest
theorem tLoop_stop {l : List Wd} {part : Nat → PR Ty} {k : Int} {s : ByteArray} {m : Nat} {a : Ty} {i : Nat} (h : tkW l i 4 s = false) : tLoop l part k s m a i = .ok a i := by
  cases m with
  | zero => rfl
  | succ m => rw [tLoop, if_neg (by rw [h]; decide)]
theorem tLoop_go {l : List Wd} {part : Nat → PR Ty} {k : Int} {s : ByteArray} {m : Nat} {a b : Ty} {i j : Nat} (hm : 1 ≤ m) (h : tkW l i 4 s = true) (hb : part (i + 1) = .ok b j) : tLoop l part k s m a i = tLoop l part k s (m - 1) (.node k [a, b]) j := by
  obtain ⟨m, rfl⟩ : ∃ q, m = q + 1 := ⟨m - 1, by omega⟩
  rw [tLoop, if_pos h, hb]
  rfl
/-- From a level to the next one. -/
theorem TyRd.p_of_a {t : Ty} {l : List Wd} (e : tyA 3 t = tyA 4 t) (A : ∀ n i rest, toksW l i = tyA 4 t ++ rest → l.length ≤ n + i → ∃ j, tAtom l (tWhole l n) i = .ok t j ∧ i < j ∧ toksW l j = rest) :
    ∀ n i rest, toksW l i = tyA 3 t ++ rest → l.length ≤ n + i → ∃ m j, tProd l (tWhole l n) i = tLoop l (tAtom l (tWhole l n)) 4 ⟨#[42]⟩ m t j ∧ i < j ∧ l.length + 1 + i ≤ m + j ∧ toksW l j = rest := by
  intro n i rest h hn
  obtain ⟨j, h1, h2, h3⟩ := A n i rest (by rw [← e]; exact h) hn
  exact ⟨l.length + 1, j, by rw [tProd, tLeft, h1]; rfl, h2, by omega, h3⟩
theorem TyRd.s_of_p {t : Ty} {l : List Wd} (e : tyA 2 t = tyA 3 t) (P : ∀ n i rest, toksW l i = tyA 3 t ++ rest → l.length ≤ n + i → ∃ m j, tProd l (tWhole l n) i = tLoop l (tAtom l (tWhole l n)) 4 ⟨#[42]⟩ m t j ∧ i < j ∧ l.length + 1 + i ≤ m + j ∧ toksW l j = rest) :
    ∀ n i rest, toksW l i = tyA 2 t ++ rest → l.length ≤ n + i → hdT rest 4 ⟨#[42]⟩ = false → ∃ m j, tSum l (tWhole l n) i = tLoop l (tProd l (tWhole l n)) 5 ⟨#[43]⟩ m t j ∧ i < j ∧ l.length + 1 + i ≤ m + j ∧ toksW l j = rest := by
  intro n i rest h hn hr
  obtain ⟨m, j, h1, h2, h3, h4⟩ := P n i rest (by rw [← e]; exact h) hn
  rw [tLoop_stop (by rw [tkW_toks h4]; exact hr)] at h1
  exact ⟨l.length + 1, j, by rw [tSum, tLeft, h1]; rfl, h2, by omega, h4⟩
theorem TyRd.w_of_s {t : Ty} {l : List Wd} (e : tyA 1 t = tyA 2 t) (hne : tyA 1 t ≠ []) (S : ∀ n i rest, toksW l i = tyA 2 t ++ rest → l.length ≤ n + i → hdT rest 4 ⟨#[42]⟩ = false → ∃ m j, tSum l (tWhole l n) i = tLoop l (tProd l (tWhole l n)) 5 ⟨#[43]⟩ m t j ∧ i < j ∧ l.length + 1 + i ≤ m + j ∧ toksW l j = rest) :
    ∀ n i rest, toksW l i = tyA 1 t ++ rest → l.length < n + i → hdT rest 4 ⟨#[42]⟩ = false → hdT rest 4 ⟨#[43]⟩ = false → hdT rest 4 ⟨#[45, 62]⟩ = false → ∃ j, tWhole l n i = .ok t j ∧ i < j ∧ toksW l j = rest := by
  intro n i rest h hn r1 r2 r3
  have hi : i < l.length := by
    cases hq : tyA 1 t with
    | nil => exact absurd hq hne
    | cons x r => rw [hq] at h; exact toksW_lt h
  obtain ⟨n, rfl⟩ : ∃ q, n = q + 1 := ⟨n - 1, by omega⟩
  obtain ⟨m, j, h1, h2, h3, h4⟩ := S n i rest (by rw [← e]; exact h) (by omega) r1
  rw [tLoop_stop (by rw [tkW_toks h4]; exact r2)] at h1
  exact ⟨j, by rw [tWhole, h1, bindP_ok, if_neg (by rw [tkW_toks h4, r3]; decide)], h2, h4⟩
/-- In brackets. -/
theorem TyRd.bra {t : Ty} {l : List Wd} (e : tyA 4 t = sg [40] :: (tyA 1 t ++ [sg [41]])) (Wh : ∀ n i rest, toksW l i = tyA 1 t ++ rest → l.length < n + i → hdT rest 4 ⟨#[42]⟩ = false → hdT rest 4 ⟨#[43]⟩ = false → hdT rest 4 ⟨#[45, 62]⟩ = false → ∃ j, tWhole l n i = .ok t j ∧ i < j ∧ toksW l j = rest) :
    ∀ n i rest, toksW l i = tyA 4 t ++ rest → l.length ≤ n + i → ∃ j, tAtom l (tWhole l n) i = .ok t j ∧ i < j ∧ toksW l j = rest := by
  intro n i rest h hn
  rw [e, List.cons_append, List.append_assoc] at h
  have h1 := toksW_next h
  obtain ⟨j, w1, w2, w3⟩ := Wh n (i + 1) (sg [41] :: rest) (by simpa using h1) (by omega) rfl rfl rfl
  have t0 := fun k s => tkW_toks h k s
  refine ⟨j + 1, ?_, by omega, toksW_next w3⟩
  rw [tAtom, if_neg (by rw [t0]; exact Bool.false_ne_true), if_neg (by rw [t0]; exact Bool.false_ne_true), if_neg (by rw [t0]; exact Bool.false_ne_true), if_pos (by rw [t0]; rfl), w1, bindP_ok, if_pos (by rw [tkW_toks w3]; rfl)]
theorem tyA_one (t : Ty) : tyA 1 t = tyT t := by
  unfold tyA tbrT
  rw [if_neg]
  unfold ttight
  repeat' split
  all_goals omega
theorem ty_rd (l : List Wd) (t : Ty) (hg : TyG t) : TyRd t l := by
  induction hg with
  | leaf k hk =>
    have e : ∀ least, least ≤ 4 → tyA least (.node k []) = [tsignT k] := fun least h => by
      have : ttight k = 4 := by unfold ttight; rw [if_neg (by omega), if_neg (by omega), if_neg (by omega)]
      unfold tyA tbrT
      rw [if_neg (by show ¬ ttight k < least; omega)]
      rfl
    have A : ∀ n i rest, toksW l i = tyA 4 (.node k []) ++ rest → l.length ≤ n + i → ∃ j, tAtom l (tWhole l n) i = .ok (.node k []) j ∧ i < j ∧ toksW l j = rest := by
      intro n i rest h hn
      rw [e 4 (by omega)] at h
      have t0 := fun k s => tkW_toks h k s
      refine ⟨i + 1, ?_, by omega, toksW_next h⟩
      rcases hk with rfl | rfl | rfl
      · rw [tAtom, if_pos (by rw [t0]; rfl)]
      · rw [tAtom, if_neg (by rw [t0]; exact Bool.false_ne_true), if_pos (by rw [t0]; rfl)]
      · rw [tAtom, if_neg (by rw [t0]; exact Bool.false_ne_true), if_neg (by rw [t0]; exact Bool.false_ne_true), if_pos (by rw [t0]; rfl)]
    have P := TyRd.p_of_a (by rw [e 3 (by omega), e 4 (by omega)]) A
    have S := TyRd.s_of_p (by rw [e 2 (by omega), e 3 (by omega)]) P
    exact ⟨A, P, S, TyRd.w_of_s (by rw [e 1 (by omega), e 2 (by omega)]) (by rw [e 1 (by omega)]; simp) S⟩
  | two k a b hk ha hb iha ihb =>
    have hT : tyT (.node k [a, b]) = tyA (tleft k) a ++ tsignT k :: tyA (tright2 k) b := rfl
    have e : ∀ least, tyA least (.node k [a, b]) = if ttight k < least then sg [40] :: (tyT (.node k [a, b]) ++ [sg [41]]) else tyT (.node k [a, b]) := fun least => rfl
    have hne : tyA 1 (.node k [a, b]) ≠ [] := by rw [tyA_one, hT]; simp
    rcases hk with rfl | rfl | rfl
    · have Wh : ∀ n i rest, toksW l i = tyA 1 (.node 3 [a, b]) ++ rest → l.length < n + i → hdT rest 4 ⟨#[42]⟩ = false → hdT rest 4 ⟨#[43]⟩ = false → hdT rest 4 ⟨#[45, 62]⟩ = false → ∃ j, tWhole l n i = .ok (.node 3 [a, b]) j ∧ i < j ∧ toksW l j = rest := by
        intro n i rest h hn r1 r2 r3
        rw [tyA_one, hT, List.append_assoc, List.cons_append] at h
        have hi : i < l.length := by
          cases hq : toksW l i with
          | nil => rw [hq] at h; simp at h
          | cons x r => exact toksW_lt hq
        obtain ⟨n, rfl⟩ : ∃ q, n = q + 1 := ⟨n - 1, by omega⟩
        obtain ⟨m, j, a1, a2, a3, a4⟩ := iha.sum n i _ h (by omega) (by rfl)
        rw [tLoop_stop (by rw [tkW_toks a4]; rfl)] at a1
        obtain ⟨j2, b1, b2, b3⟩ := ihb.whole n (j + 1) rest (toksW_next a4) (by omega) r1 r2 r3
        exact ⟨j2, by rw [tWhole, a1, bindP_ok, if_pos (by rw [tkW_toks a4]; rfl), b1]; rfl, by omega, b3⟩
      have A := TyRd.bra (by rw [e, tyA_one]; rfl) Wh
      have P := TyRd.p_of_a (by rw [e, e]; rfl) A
      exact ⟨A, P, TyRd.s_of_p (by rw [e, e]; rfl) P, Wh⟩
    · have P : ∀ n i rest, toksW l i = tyA 3 (.node 4 [a, b]) ++ rest → l.length ≤ n + i → ∃ m j, tProd l (tWhole l n) i = tLoop l (tAtom l (tWhole l n)) 4 ⟨#[42]⟩ m (.node 4 [a, b]) j ∧ i < j ∧ l.length + 1 + i ≤ m + j ∧ toksW l j = rest := by
        intro n i rest h hn
        rw [e, if_neg (by decide), hT, List.append_assoc, List.cons_append] at h
        obtain ⟨m, j, a1, a2, a3, a4⟩ := iha.prod n i _ h hn
        have hj := toksW_lt a4
        obtain ⟨j2, b1, b2, b3⟩ := ihb.atom n (j + 1) rest (toksW_next a4) (by omega)
        exact ⟨m - 1, j2, by rw [a1, tLoop_go (by omega) (by rw [tkW_toks a4]; rfl) b1], by omega, by omega, b3⟩
      have S := TyRd.s_of_p (by rw [e, e]; rfl) P
      have Wh := TyRd.w_of_s (by rw [e, e]; rfl) hne S
      exact ⟨TyRd.bra (by rw [e, tyA_one]; rfl) Wh, P, S, Wh⟩
    · have S : ∀ n i rest, toksW l i = tyA 2 (.node 5 [a, b]) ++ rest → l.length ≤ n + i → hdT rest 4 ⟨#[42]⟩ = false → ∃ m j, tSum l (tWhole l n) i = tLoop l (tProd l (tWhole l n)) 5 ⟨#[43]⟩ m (.node 5 [a, b]) j ∧ i < j ∧ l.length + 1 + i ≤ m + j ∧ toksW l j = rest := by
        intro n i rest h hn r1
        rw [e, if_neg (by decide), hT, List.append_assoc, List.cons_append] at h
        obtain ⟨m, j, a1, a2, a3, a4⟩ := iha.sum n i _ h hn (by rfl)
        have hj := toksW_lt a4
        obtain ⟨m2, j2, b1, b2, b3, b4⟩ := ihb.prod n (j + 1) rest (toksW_next a4) (by omega)
        rw [tLoop_stop (by rw [tkW_toks b4]; exact r1)] at b1
        exact ⟨m - 1, j2, by rw [a1, tLoop_go (by omega) (by rw [tkW_toks a4]; rfl) b1], by omega, by omega, b4⟩
      have Wh := TyRd.w_of_s (by rw [e, e]; rfl) hne S
      have A := TyRd.bra (by rw [e, tyA_one]; rfl) Wh
      exact ⟨A, TyRd.p_of_a (by rw [e, e]; rfl) A, S, Wh⟩
/-- types.Read reads what is told of a type. -/
theorem typ_rd {l : List Wd} {t : Ty} (ht : tcheck t = 0) {i : Nat} {rest : List Tk} (h : toksW l i = tyT t ++ rest) (r1 : hdT rest 4 ⟨#[42]⟩ = false) (r2 : hdT rest 4 ⟨#[43]⟩ = false) (r3 : hdT rest 4 ⟨#[45, 62]⟩ = false) : ∃ j, typP l i = .ok t j ∧ i < j ∧ toksW l j = rest := by
  obtain ⟨j, h1, h2, h3⟩ := (ty_rd l t (tyG_of t (tcheck_right ht))).whole (l.length + 1) i rest (by rw [tyA_one]; exact h) (by omega) r1 r2 r3
  exact ⟨j, by rw [typP, h1, bindP_ok, if_pos ht], h2, h3⟩
end Go.Proofs.YtmaokphbfjpodaaGreatDoor.E

/- The words of a term, and the steps of its reader on them, in plain Lean. No conditions. -/
set_option linter.unusedVariables false
set_option linter.unusedSimpArgs false
namespace Go.Proofs.YtmaokphbfjpodaaGreatDoor.E
open Go

def nmT (s : ByteArray) : Tk := ⟨1, s, 0⟩
def nuT (n : Int) : Tk := ⟨2, digs n, n⟩
def opT (s : ByteArray) : Tk := ⟨4, s, 0⟩
def wbrT (least : Int) (p : Int × List Tk) : List Tk := if p.1 ≥ least then p.2 else sg [40] :: (p.2 ++ [sg [41]])
def watT (l : List (Int × List Tk)) (i : Nat) (least : Int) : List Tk := match l[i]? with
  | some p => wbrT least p
  | none => []
/-- A term's own words. -/
def tmJT (k : Int) (name arg : ByteArray) (num s : Int) (T U : List Tk) (l : List (Int × List Tk)) : List Tk :=
  if k = 0 then [nmT name] else if k = 1 then (if num < 0 then [sg [45], nuT (-num)] else [nuT num]) else if k = 2 then [ky [116, 114, 117, 101]] else if k = 3 then [ky [102, 97, 108, 115, 101]]
  else if k = 4 then sg [92] :: nmT name :: sg [58] :: (T ++ sg [46] :: watT l 0 (-1))
  else if k = 5 then ky [114, 101, 99] :: nmT name :: sg [40] :: nmT arg :: sg [58] :: (T ++ sg [41] :: sg [58] :: (U ++ sg [46] :: watT l 0 (-1)))
  else if k = 6 then watT l 0 5 ++ sg [40] :: (watT l 1 (-1) ++ [sg [41]])
  else if k = 7 then ky [108, 101, 116] :: nmT name :: sg [58] :: (T ++ sg [61] :: (watT l 0 (-1) ++ ky [105, 110] :: watT l 1 (-1)))
  else if k = 8 then ky [105, 102] :: (watT l 0 (-1) ++ ky [116, 104, 101, 110] :: (watT l 1 (-1) ++ ky [101, 108, 115, 101] :: watT l 2 (-1)))
  else if k = 9 then sg [91] :: (watT l 0 (-1) ++ sg [44] :: (watT l 1 (-1) ++ [sg [93]]))
  else if k = 10 then ky [102, 115, 116] :: watT l 0 4 else if k = 11 then ky [115, 110, 100] :: watT l 0 4
  else if k = 12 then ky [105, 110, 108] :: sg [123] :: (T ++ sg [125] :: watT l 0 4) else if k = 13 then ky [105, 110, 114] :: sg [123] :: (T ++ sg [125] :: watT l 0 4)
  else if k = 14 then ky [99, 97, 115, 101] :: (watT l 0 (-1) ++ ky [111, 102] :: nmT name :: sg [46] :: (watT l 1 (-1) ++ sg [124] :: nmT arg :: sg [46] :: watT l 2 (-1)))
  else if k = 15 then watT l 0 (if s = 1 then 2 else s) ++ opT name :: watT l 1 (s + 1)
  else watT l 0 0 ++ sg [58] :: T
mutual
def tmT : Tm → List Tk
  | .node k name arg num tk tks uk uks label place ks => tmJT k name arg num (tmS (.node k name arg num tk tks uk uks label place ks)) (tyT (.node tk tks)) (tyT (.node uk uks)) (tmTL ks)
def tmTL : List Tm → List (Int × List Tk)
  | [] => []
  | t :: l => (tmS t, tmT t) :: tmTL l
end
def tmAT (least : Int) (t : Tm) : List Tk := wbrT least (tmS t, tmT t)
mutual
/-- What counts of a term, without places. -/
def cl : Tm → Tm
  | .node k name arg num tk tks uk uks label place ks =>
    .node k (if nameK k || decide (k = 15) then name else s0) (if argK k then arg else s0) (if k = 1 then num else 0) (if typeK k then tk else 0) (if typeK k then tks else []) (if toK k then uk else 0) (if toK k then uks else []) (if k = 17 then label else 0) 0 (clL ks)
def clL : List Tm → List Tm
  | [] => []
  | t :: l => cl t :: clL l
end

/-! ### Where a term stops -/
def notIn (rest : List Tk) (q : List (List UInt8)) : Prop := ∀ s ∈ q, hdT rest 4 (bw s) = false
def q4 : List (List UInt8) := [[40]]
def q2 : List (List UInt8) := [[40], [42], [47]]
def q1 : List (List UInt8) := [[40], [42], [47], [43], [45]]
def q0 : List (List UInt8) := [[40], [42], [47], [43], [45], [60], [61], [45, 62]]
def qm : List (List UInt8) := [[40], [42], [47], [43], [45], [60], [61], [45, 62], [58]]
theorem notIn.sub {rest : List Tk} {q q' : List (List UInt8)} (h : notIn rest q) (hs : ∀ s ∈ q', s ∈ q) : notIn rest q' := fun s hq => h s (hs s hq)
theorem notIn_tok {x : Tk} {q : List (List UInt8)} (h : (q.all fun s => !(decide (x.kind = 4) && decide (x.text = bw s))) = true) (rest : List Tk) : notIn (x :: rest) q := fun s hs => by
  have := List.all_eq_true.1 h s hs
  rw [hdT_cons]
  revert this
  cases (decide (x.kind = 4) && decide (x.text = bw s)) <;> simp
theorem notIn_op {rest : List Tk} {l : List Wd} {j : Nat} (h : toksW l j = rest) {a b : List UInt8} {q : List (List UInt8)} (hn : notIn rest q) (ha : a ∈ q) (hb : b ∈ q) : isOp l [bw a, bw b] j = false := by
  simp only [isOp, List.any_cons, List.any_nil, tkW_toks h, hn a ha, hn b hb, Bool.or_false]

/-! ### Steps -/
theorem mustP_toks {l : List Wd} {i : Nat} {k : Int} {s : ByteArray} {x : Tk} {r : List Tk} (h : toksW l i = x :: r) (h1 : x.kind = k) (h2 : x.text = s) : mustP l k s i = .ok () (i + 1) := by
  rw [mustP, if_pos]
  rw [tkW_toks h]
  simp [h1, h2]
theorem nameP_toks {l : List Wd} {i : Nat} {s : ByteArray} {r : List Tk} (h : toksW l i = nmT s :: r) : nameP l i = .ok s (i + 1) := by
  obtain ⟨w, hw, hx, _, _⟩ := toksW_cons h
  obtain ⟨wk, wt, wn, wp⟩ := w
  cases hx
  rw [nameP, hw]
  rfl
theorem opLoop_stop {l : List Wd} {part : Nat → PR Tm} {ops : List ByteArray} {m : Nat} {t : Tm} {i : Nat} (h : isOp l ops i = false) : opLoop l part ops m t i = .ok t i := by
  cases m with
  | zero => rfl
  | succ m => rw [opLoop, if_neg (by rw [h]; decide)]
theorem opLoop_go {l : List Wd} {part : Nat → PR Tm} {ops : List ByteArray} {m : Nat} {t u : Tm} {i j : Nat} (hm : 1 ≤ m) (h : isOp l ops i = true) (hb : opP l part t i = .ok u j) : opLoop l part ops m t i = opLoop l part ops (m - 1) u j := by
  obtain ⟨m, rfl⟩ : ∃ q, m = q + 1 := ⟨m - 1, by omega⟩
  rw [opLoop, if_pos h, hb]
  rfl
theorem isLoop_stop {l : List Wd} {m : Nat} {t : Tm} {i : Nat} (h : tkW l i 4 ⟨#[58]⟩ = false) : isLoop l m t i = .ok t i := by
  cases m with
  | zero => rfl
  | succ m => rw [isLoop, if_neg (by rw [h]; decide)]
theorem isLoop_go {l : List Wd} {m : Nat} {t : Tm} {a : Ty} {i j : Nat} (hm : 1 ≤ m) (h : tkW l i 4 ⟨#[58]⟩ = true) (ha : typP l (i + 1) = .ok a j) : isLoop l m t i = isLoop l (m - 1) (tn 16 s0 s0 0 a ty0 (placeW l i) [t]) j := by
  obtain ⟨m, rfl⟩ : ∃ q, m = q + 1 := ⟨m - 1, by omega⟩
  rw [isLoop, if_pos h, ha]
  rfl
theorem appLoop_stop {l : List Wd} {W : Nat → PR Tm} {m : Nat} {t : Tm} {i : Nat} (h : tkW l i 4 ⟨#[40]⟩ = false) : appLoop l W m t i = .ok t i := by
  cases m with
  | zero => rfl
  | succ m => rw [appLoop, if_neg (by rw [h]; decide)]
theorem appLoop_go {l : List Wd} {W : Nat → PR Tm} {m : Nat} {t a : Tm} {i j : Nat} (hm : 1 ≤ m) (h : tkW l i 4 ⟨#[40]⟩ = true) (ha : W (i + 1) = .ok a j) (h2 : mustP l 4 ⟨#[41]⟩ j = .ok () (j + 1)) : appLoop l W m t i = appLoop l W (m - 1) (tn 6 s0 s0 0 ty0 ty0 (placeW l i) [t, a]) (j + 1) := by
  obtain ⟨m, rfl⟩ : ∃ q, m = q + 1 := ⟨m - 1, by omega⟩
  rw [appLoop, if_pos h, ha, bindP_ok, h2]
  rfl

/-! ### How a term begins -/
/-- No sign or key of a binder. -/
def NoB (ts : List Tk) : Prop := hdT ts 4 ⟨#[92]⟩ = false ∧ hdT ts 3 ⟨#[108, 101, 116]⟩ = false ∧ hdT ts 3 ⟨#[105, 102]⟩ = false ∧ hdT ts 3 ⟨#[114, 101, 99]⟩ = false ∧ hdT ts 3 ⟨#[99, 97, 115, 101]⟩ = false
/-- None of a prefix. -/
def NoP (ts : List Tk) : Prop := hdT ts 3 ⟨#[102, 115, 116]⟩ = false ∧ hdT ts 3 ⟨#[115, 110, 100]⟩ = false ∧ hdT ts 3 ⟨#[105, 110, 108]⟩ = false ∧ hdT ts 3 ⟨#[105, 110, 114]⟩ = false ∧ hdT ts 4 ⟨#[45]⟩ = false

/-! ### What is read at the levels -/
def C5 (l : List Wd) (t : Tm) (ts : List Tk) : Prop := (∀ rest, NoP (ts ++ rest)) ∧ ∀ n i rest, toksW l i = ts ++ rest → l.length ≤ n + i → ∃ t' m j, (bindP (pAtom l (pTerm l n) i) fun t j => appLoop l (pTerm l n) (l.length + 1) t j) = appLoop l (pTerm l n) m t' j ∧ cl t' = cl t ∧ i < j ∧ l.length + 1 + i ≤ m + j ∧ toksW l j = rest
def C4 (l : List Wd) (t : Tm) (ts : List Tk) : Prop := ∀ n m i rest, toksW l i = ts ++ rest → l.length ≤ n + i → l.length < m + i → notIn rest q4 → ∃ t' j, pUn l (pTerm l n) m i = .ok t' j ∧ cl t' = cl t ∧ i < j ∧ toksW l j = rest
def C3 (l : List Wd) (t : Tm) (ts : List Tk) : Prop := ∀ n i rest, toksW l i = ts ++ rest → l.length ≤ n + i → notIn rest q4 → ∃ t' m j, pMul l (pTerm l n) i = opLoop l (pU l (pTerm l n)) [⟨#[42]⟩, ⟨#[47]⟩] m t' j ∧ cl t' = cl t ∧ i < j ∧ l.length + 1 + i ≤ m + j ∧ toksW l j = rest
def C2 (l : List Wd) (t : Tm) (ts : List Tk) : Prop := ∀ n i rest, toksW l i = ts ++ rest → l.length ≤ n + i → notIn rest q2 → ∃ t' m j, pSum l (pTerm l n) i = opLoop l (pMul l (pTerm l n)) [⟨#[43]⟩, ⟨#[45]⟩] m t' j ∧ cl t' = cl t ∧ i < j ∧ l.length + 1 + i ≤ m + j ∧ toksW l j = rest
def C1 (l : List Wd) (t : Tm) (ts : List Tk) : Prop := ∀ n i rest, toksW l i = ts ++ rest → l.length ≤ n + i → notIn rest q0 → ∃ t' j, pCmp l (pTerm l n) i = .ok t' j ∧ cl t' = cl t ∧ i < j ∧ toksW l j = rest
def C0 (l : List Wd) (t : Tm) (ts : List Tk) : Prop := (∀ rest, NoB (ts ++ rest)) ∧ ∀ n i rest, toksW l i = ts ++ rest → l.length ≤ n + i → notIn rest q0 → ∃ t' m j, pIs l (pTerm l n) i = isLoop l m t' j ∧ cl t' = cl t ∧ i < j ∧ l.length + 1 + i ≤ m + j ∧ toksW l j = rest
def Cm (l : List Wd) (t : Tm) (ts : List Tk) : Prop := ∀ n i rest, toksW l i = ts ++ rest → l.length < n + i → notIn rest qm → ∃ t' j, pTerm l n i = .ok t' j ∧ cl t' = cl t ∧ i < j ∧ toksW l j = rest
theorem c4_of {l : List Wd} {t : Tm} {ts : List Tk} (h : C5 l t ts) (hne : ts ≠ []) : C4 l t ts := by
  intro n m i rest ht hn hm hr
  have hi : i < l.length := by
    cases ts with
    | nil => exact absurd rfl hne
    | cons x r => exact toksW_lt ht
  obtain ⟨m, rfl⟩ : ∃ q, m = q + 1 := ⟨m - 1, by omega⟩
  obtain ⟨t', m2, j, h1, h2, h3, h4, h5⟩ := h.2 n i rest ht hn
  obtain ⟨p1, p2, p3, p4, p5⟩ := h.1 rest
  rw [appLoop_stop (by rw [tkW_toks h5]; exact hr [40] (by simp [q4]))] at h1
  have tk := fun k s => tkW_toks ht k s
  exact ⟨t', j, by rw [pUn, tk, tk, tk, tk, tk, p1, p2, p3, p4, p5]; exact h1, h2, h3, h5⟩
theorem c3_of {l : List Wd} {t : Tm} {ts : List Tk} (h : C4 l t ts) : C3 l t ts := by
  intro n i rest ht hn hr
  obtain ⟨t', j, h1, h2, h3, h4⟩ := h n (l.length + 1) i rest ht hn (by omega) hr
  exact ⟨t', l.length + 1, j, by rw [pMul, pU, h1]; rfl, h2, h3, by omega, h4⟩
theorem c2_of {l : List Wd} {t : Tm} {ts : List Tk} (h : C3 l t ts) : C2 l t ts := by
  intro n i rest ht hn hr
  obtain ⟨t', m, j, h1, h2, h3, h4, h5⟩ := h n i rest ht hn (hr.sub (by simp [q4, q2]))
  rw [opLoop_stop (ops := [⟨#[42]⟩, ⟨#[47]⟩]) (notIn_op (a := [42]) (b := [47]) h5 hr (by simp [q2]) (by simp [q2]))] at h1
  exact ⟨t', l.length + 1, j, by rw [pSum, h1]; rfl, h2, h3, by omega, h5⟩
theorem c1_of {l : List Wd} {t : Tm} {ts : List Tk} (h : C2 l t ts) : C1 l t ts := by
  intro n i rest ht hn hr
  obtain ⟨t', m, j, h1, h2, h3, h4, h5⟩ := h n i rest ht hn (hr.sub (by simp [q2, q0]))
  rw [opLoop_stop (ops := [⟨#[43]⟩, ⟨#[45]⟩]) (notIn_op (a := [43]) (b := [45]) h5 hr (by simp [q0]) (by simp [q0]))] at h1
  have hop : isOp l [⟨#[60]⟩, ⟨#[61]⟩] j = false := notIn_op (a := [60]) (b := [61]) h5 hr (by simp [q0]) (by simp [q0])
  exact ⟨t', j, by rw [pCmp, h1, bindP_ok, if_neg (by rw [hop]; decide)], h2, h3, h5⟩
theorem c0_of {l : List Wd} {t : Tm} {ts : List Tk} (h : C1 l t ts) (hb : ∀ rest, NoB (ts ++ rest)) : C0 l t ts := by
  refine ⟨hb, ?_⟩
  intro n i rest ht hn hr
  obtain ⟨t', j, h1, h2, h3, h4⟩ := h n i rest ht hn hr
  exact ⟨t', l.length + 1, j, by rw [pIs, h1]; rfl, h2, h3, by omega, h4⟩
theorem cm_of {l : List Wd} {t : Tm} {ts : List Tk} (h : C0 l t ts) (hne : ts ≠ []) : Cm l t ts := by
  intro n i rest ht hn hr
  have hi : i < l.length := by
    cases ts with
    | nil => exact absurd rfl hne
    | cons x r => exact toksW_lt ht
  obtain ⟨n, rfl⟩ : ∃ q, n = q + 1 := ⟨n - 1, by omega⟩
  obtain ⟨t', m, j, h1, h2, h3, h4, h5⟩ := h.2 n i rest ht (by omega) (hr.sub (by simp [q0, qm]))
  obtain ⟨p1, p2, p3, p4, p5⟩ := h.1 rest
  rw [isLoop_stop (by rw [tkW_toks h5]; exact hr [58] (by simp [qm]))] at h1
  have tk := fun k s => tkW_toks ht k s
  exact ⟨t', j, by rw [pTerm, pStep, tk, tk, tk, tk, tk, p1, p2, p3, p4, p5]; exact h1, h2, h3, h5⟩
/-- In brackets. -/
theorem c5_bra {l : List Wd} {t : Tm} {ts : List Tk} (h : Cm l t ts) : C5 l t (sg [40] :: (ts ++ [sg [41]])) := by
  refine ⟨fun rest => ⟨rfl, rfl, rfl, rfl, rfl⟩, ?_⟩
  intro n i rest ht hn
  rw [List.cons_append, List.append_assoc] at ht
  obtain ⟨w, hw, hx, hi, h1⟩ := toksW_cons ht
  obtain ⟨t', j, a1, a2, a3, a4⟩ := h n (i + 1) (sg [41] :: rest) (by simpa using h1) (by omega) (notIn_tok rfl _)
  have tk := fun k s => tkW_toks ht k s
  obtain ⟨wk, wt, wn, wp⟩ := w
  cases hx
  refine ⟨t', l.length + 1, j + 1, ?_, a2, by omega, by omega, toksW_next a4⟩
  have : pAtom l (pTerm l n) i = .ok t' (j + 1) := by
    rw [pAtom, hw]
    simp only
    have m1 : mustP l 4 ⟨#[41]⟩ j = .ok () (j + 1) := mustP_toks a4 rfl rfl
    have e1 : tkW l i 3 ⟨#[116, 114, 117, 101]⟩ = false := by rw [tk]; rfl
    have e2 : tkW l i 3 ⟨#[102, 97, 108, 115, 101]⟩ = false := by rw [tk]; rfl
    have e3 : tkW l i 4 ⟨#[40]⟩ = true := by rw [tk]; rfl
    rw [if_neg (by decide), if_neg (by decide), if_neg (by rw [e1]; decide), if_neg (by rw [e2]; decide), if_pos e3, a1, bindP_ok, m1, bindP_ok]
  rw [this]
  rfl
end Go.Proofs.YtmaokphbfjpodaaGreatDoor.E
