/- Texts, merged: Names, Tm, Tm2. No conditions. -/
import Derived.Test.YtmaokphbfjpodaaGreatDoorGenX2
import Derived.Test.YtmaokphbfjpodaaGreatDoorEngX3
/- Walks: letters, digits, key words. No conditions. -/
set_option linter.unusedVariables false
set_option linter.unusedSimpArgs false
namespace Go.Proofs.YtmaokphbfjpodaaGreatDoor.E
open Go

def letterF (c : Int) : Bool := (decide (65 ≤ c) && decide (c ≤ 90)) || (decide (97 ≤ c) && decide (c ≤ 122)) || decide (c = 95)
def digitF (c : Int) : Bool := decide (48 ≤ c) && decide (c ≤ 57)

theorem outb {x y : Bool} (h : x = y) : Out.ret (oneOf [.c (.d (.bool x))]) = Out.ret (.c (.d (.bool y))) := by rw [h]; rfl

set_option maxRecDepth 10000 in
theorem digit_call (c : Int) : ACall Tryz.prog 66 [.c (.d (.int .u8 c))] [] (fun o σ => o = .ret (.c (.d (.bool (digitF c)))) ∧ σ = []) := by
  refine ACall.body tab_ok (ρ := 0) (N := 9) Tryz.func66 rfl rfl rfl rfl rfl ?_
  repeat' first | refine AW.seq ?_ | refine AW.block ?_ | ((first | refine AW.region tab_ok ?_ | refine AW.cond ?_ | refine AW.skip ?_ | refine AW.ret ?_ | refine AW.exit ?_); conv => whnf) | ((first | refine And.intro (@rfl Val _) ?_ | refine And.intro (by decide) ?_ | refine cs (fun _ => ?_) (fun _ => ?_)) <;> conv => whnf)
  all_goals
    refine ⟨outb ?_, rfl⟩
    rw [Bool.eq_iff_iff]
    simp at *
    simp [digitF]
    omega
set_option maxRecDepth 10000 in
theorem rdigit_call (c : Int) : ACall Tryz.prog 81 [.c (.d (.int .u8 c))] [] (fun o σ => o = .ret (.c (.d (.bool (digitF c)))) ∧ σ = []) := by
  refine ACall.body tab_ok (ρ := 0) (N := 9) Tryz.func81 rfl rfl rfl rfl rfl ?_
  repeat' first | refine AW.seq ?_ | refine AW.block ?_ | ((first | refine AW.region tab_ok ?_ | refine AW.cond ?_ | refine AW.skip ?_ | refine AW.ret ?_ | refine AW.exit ?_); conv => whnf) | ((first | refine And.intro (@rfl Val _) ?_ | refine And.intro (by decide) ?_ | refine cs (fun _ => ?_) (fun _ => ?_)) <;> conv => whnf)
  all_goals
    refine ⟨outb ?_, rfl⟩
    rw [Bool.eq_iff_iff]
    simp at *
    simp [digitF]
    omega
set_option maxRecDepth 10000 in
theorem letter_call (c : Int) : ACall Tryz.prog 61 [.c (.d (.int .u8 c))] [] (fun o σ => o = .ret (.c (.d (.bool (letterF c)))) ∧ σ = []) := by
  refine ACall.body tab_ok (ρ := 0) (N := 21) Tryz.func61 rfl rfl rfl rfl rfl ?_
  repeat' first | refine AW.seq ?_ | refine AW.block ?_ | ((first | refine AW.region tab_ok ?_ | refine AW.cond ?_ | refine AW.skip ?_ | refine AW.ret ?_ | refine AW.exit ?_); conv => whnf) | ((first | refine And.intro (@rfl Val _) ?_ | refine And.intro (by decide) ?_ | refine cs (fun _ => ?_) (fun _ => ?_)) <;> conv => whnf)
  all_goals
    refine ⟨outb ?_, rfl⟩
    rw [Bool.eq_iff_iff]
    simp at *
    simp [letterF]
    omega
set_option maxRecDepth 10000 in
theorem rletter_call (c : Int) : ACall Tryz.prog 78 [.c (.d (.int .u8 c))] [] (fun o σ => o = .ret (.c (.d (.bool (letterF c)))) ∧ σ = []) := by
  refine ACall.body tab_ok (ρ := 0) (N := 21) Tryz.func78 rfl rfl rfl rfl rfl ?_
  repeat' first | refine AW.seq ?_ | refine AW.block ?_ | ((first | refine AW.region tab_ok ?_ | refine AW.cond ?_ | refine AW.skip ?_ | refine AW.ret ?_ | refine AW.exit ?_); conv => whnf) | ((first | refine And.intro (@rfl Val _) ?_ | refine And.intro (by decide) ?_ | refine cs (fun _ => ?_) (fun _ => ?_)) <;> conv => whnf)
  all_goals
    refine ⟨outb ?_, rfl⟩
    rw [Bool.eq_iff_iff]
    simp at *
    simp [letterF]
    omega
def keysF : List ByteArray := [⟨#[108, 101, 116]⟩, ⟨#[105, 110]⟩, ⟨#[105, 102]⟩, ⟨#[116, 104, 101, 110]⟩, ⟨#[101, 108, 115, 101]⟩, ⟨#[114, 101, 99]⟩, ⟨#[99, 97, 115, 101]⟩, ⟨#[111, 102]⟩, ⟨#[102, 115, 116]⟩, ⟨#[115, 110, 100]⟩, ⟨#[105, 110, 108]⟩, ⟨#[105, 110, 114]⟩, ⟨#[116, 114, 117, 101]⟩, ⟨#[102, 97, 108, 115, 101]⟩, ⟨#[105, 110, 116]⟩, ⟨#[98, 111, 111, 108]⟩]
def keyF (s : ByteArray) : Bool := keysF.any (fun k => decide (s = k))
set_option maxRecDepth 10000 in
theorem key_call (s : ByteArray) : ACall Tryz.prog 64 [.c (.d (.str s))] [] (fun o σ => o = .ret (.c (.d (.bool (keyF s)))) ∧ σ = []) := by
  refine ACall.body tab_ok (ρ := 0) (N := 22) Tryz.func64 rfl rfl rfl rfl rfl ?_
  repeat' first | refine AW.seq ?_ | refine AW.block ?_ | ((first | refine AW.region tab_ok ?_ | refine AW.cond ?_ | refine AW.skip ?_ | refine AW.ret ?_ | refine AW.exit ?_); conv => whnf) | ((first | refine And.intro (@rfl Val _) ?_ | refine And.intro (by decide) ?_ | refine cs (fun _ => ?_) (fun _ => ?_)) <;> conv => whnf)
  all_goals
    refine ⟨outb ?_, rfl⟩
    simp at *
    simp [keyF, keysF, *]
set_option maxRecDepth 10000 in
theorem rkey_call (s : ByteArray) : ACall Tryz.prog 80 [.c (.d (.str s))] [] (fun o σ => o = .ret (.c (.d (.bool (keyF s)))) ∧ σ = []) := by
  refine ACall.body tab_ok (ρ := 0) (N := 21) Tryz.func80 rfl rfl rfl rfl rfl ?_
  repeat' first | refine AW.seq ?_ | refine AW.block ?_ | ((first | refine AW.region tab_ok ?_ | refine AW.cond ?_ | refine AW.skip ?_ | refine AW.ret ?_ | refine AW.exit ?_); conv => whnf) | ((first | refine And.intro (@rfl Val _) ?_ | refine And.intro (by decide) ?_ | refine cs (fun _ => ?_) (fun _ => ?_)) <;> conv => whnf)
  all_goals
    refine ⟨outb ?_, rfl⟩
    simp at *
    simp [keyF, keysF, *]

/-! ### names -/
def nbF (c : Int) : Bool := letterF c || digitF c
def bytesF (s : ByteArray) : Nat → Bool
  | 0 => true
  | i + 1 => bytesF s i && nbF (byteAt s i)
def nameF (s : ByteArray) : Bool := !decide (s = ⟨#[]⟩) && decide (s.size ≤ 64) && !keyF s && !digitF (byteAt s 0) && bytesF s s.size
end Go.Proofs.YtmaokphbfjpodaaGreatDoor.E

/- Terms as trees; what the program tells of a kind. No conditions. -/
set_option linter.unusedVariables false
set_option linter.unusedSimpArgs false
namespace Go.Proofs.YtmaokphbfjpodaaGreatDoor.E
open Go

/-- k, name, arg, num, the types (kind, kids), label, place, kids. -/
inductive Tm where
  | node (k : Int) (name arg : ByteArray) (num tk : Int) (tks : List Ty) (uk : Int) (uks : List Ty) (label place : Int) (kids : List Tm)
mutual
def Tm.cells : Tm → List DV
  | .node k name arg num tk tks uk uks label place ks =>
    [.int .i8 k, .str name, .str arg, .int .i64 num, .int .i8 tk, .sl 0 2 (Ty.rows tks), .int .i8 uk, .sl 0 2 (Ty.rows uks), .int .i64 label, .int .i64 place, .sl 0 11 (Tm.rows ks)]
def Tm.rows : List Tm → List (List DV)
  | [] => []
  | t :: l => Tm.cells t :: Tm.rows l
end
/-- A term, as a value. -/
def Tm.val (t : Tm) : Val := .agg (t.cells.map .d)
def Tm.kids : Tm → List Tm
  | .node _ _ _ _ _ _ _ _ _ _ ks => ks
theorem trows_length : ∀ ks, (Tm.rows ks).length = ks.length
  | [] => rfl
  | _ :: l => by simp [Tm.rows, trows_length l]
theorem trows_get : ∀ (ks : List Tm) (i : Nat) row, (Tm.rows ks)[i]? = some row → ∃ t, ks[i]? = some t ∧ row = Tm.cells t
  | [], i, row, h => by simp [Tm.rows] at h
  | t :: l, 0, row, h => by simp [Tm.rows] at h; exact ⟨t, rfl, h.symm⟩
  | t :: l, i + 1, row, h => by simp only [Tm.rows, List.getElem?_cons_succ] at h ⊢; exact trows_get l i row h
/-! ### Kinds -/
def kidsK (k : Int) : Int :=
  if k = 0 ∨ k = 1 ∨ k = 2 ∨ k = 3 then 0 else if k = 4 ∨ k = 5 ∨ k = 10 ∨ k = 11 ∨ k = 12 ∨ k = 13 ∨ k = 16 ∨ k = 17 then 1
  else if k = 6 ∨ k = 7 ∨ k = 9 ∨ k = 15 then 2 else if k = 8 ∨ k = 14 then 3 else -1
def nameK (k : Int) : Bool := decide (k = 0 ∨ k = 4 ∨ k = 5 ∨ k = 7 ∨ k = 14)
def argK (k : Int) : Bool := decide (k = 5 ∨ k = 14)
def typeK (k : Int) : Bool := decide (k = 4 ∨ k = 5 ∨ k = 7 ∨ k = 12 ∨ k = 13 ∨ k = 16 ∨ k = 17)
def toK (k : Int) : Bool := decide (k = 5 ∨ k = 17)
def validK (k : Int) : Bool := decide (0 ≤ k ∧ k ≤ 17)
def shapeK (k : Int) : Val := .agg [.d (.int .i64 (if validK k = true then kidsK k else 0)), .d (.bool (nameK k)), .d (.bool (argK k)), .d (.bool (decide (k = 1))), .d (.bool (typeK k)), .d (.bool (toK k)), .d (.bool (decide (k = 17))), .d (.bool (decide (k = 15)))]
set_option maxRecDepth 10000 in
theorem of_call (k : Int) : ACall Tryz.prog 52 [.c (.d (.int .i8 k))] [] (fun o σ => o = .ret (.tup [shapeK k, .c (.d (.bool (validK k)))]) ∧ σ = []) := by
  refine ACall.body tab_ok (ρ := 0) (N := 50) Tryz.func52 rfl rfl rfl rfl rfl ?_
  repeat' first | refine AW.seq ?_ | refine AW.block ?_ | ((first | refine AW.region tab_ok ?_ | refine AW.cond ?_ | refine AW.skip ?_ | refine AW.ret ?_ | refine AW.exit ?_); conv => whnf) | ((first | refine And.intro (@rfl Val _) ?_ | refine And.intro (by decide) ?_ | refine cs (fun _ => ?_) (fun _ => ?_)) <;> conv => whnf)
  all_goals refine ⟨?_, rfl⟩
  all_goals first
    | (rename_i h; simp at h; subst h; rfl)
    | (simp at *
       have hv : validK k = false := by simp [validK]; omega
       have h1 : nameK k = false := by simp [nameK]; omega
       have h2 : argK k = false := by simp [argK]; omega
       have h3 : typeK k = false := by simp [typeK]; omega
       have h4 : toK k = false := by simp [toK]; omega
       have h5 : decide (k = 1) = false := by simp; omega
       have h6 : decide (k = 17) = false := by simp; omega
       have h7 : decide (k = 15) = false := by simp; omega
       simp only [shapeK, oneOf, hv, h1, h2, h3, h4, h5, h6, h7]
       rfl)
set_option maxRecDepth 10000 in
theorem rhasType_call (k : Int) : ACall Tryz.prog 123 [.c (.d (.int .i8 k))] [] (fun o σ => o = .ret (.c (.d (.bool (typeK k)))) ∧ σ = []) := by
  refine ACall.body tab_ok (ρ := 0) (N := 29) Tryz.func123 rfl rfl rfl rfl rfl ?_
  repeat' first | refine AW.seq ?_ | refine AW.block ?_ | ((first | refine AW.region tab_ok ?_ | refine AW.cond ?_ | refine AW.skip ?_ | refine AW.ret ?_ | refine AW.exit ?_); conv => whnf) | ((first | refine And.intro (@rfl Val _) ?_ | refine And.intro (by decide) ?_ | refine cs (fun _ => ?_) (fun _ => ?_)) <;> conv => whnf)
  all_goals
    refine ⟨outb ?_, rfl⟩
    rw [Bool.eq_iff_iff]
    simp at *
    simp [typeK]
    omega
set_option maxRecDepth 10000 in
theorem rhasTo_call (k : Int) : ACall Tryz.prog 125 [.c (.d (.int .i8 k))] [] (fun o σ => o = .ret (.c (.d (.bool (toK k)))) ∧ σ = []) := by
  refine ACall.body tab_ok (ρ := 0) (N := 9) Tryz.func125 rfl rfl rfl rfl rfl ?_
  repeat' first | refine AW.seq ?_ | refine AW.block ?_ | ((first | refine AW.region tab_ok ?_ | refine AW.cond ?_ | refine AW.skip ?_ | refine AW.ret ?_ | refine AW.exit ?_); conv => whnf) | ((first | refine And.intro (@rfl Val _) ?_ | refine And.intro (by decide) ?_ | refine cs (fun _ => ?_) (fun _ => ?_)) <;> conv => whnf)
  all_goals
    refine ⟨outb ?_, rfl⟩
    rw [Bool.eq_iff_iff]
    simp at *
    simp [toK]
    omega
end Go.Proofs.YtmaokphbfjpodaaGreatDoor.E

/- Walks: terms.count, Nodes. No conditions. -/
set_option linter.unusedVariables false
set_option linter.unusedSimpArgs false
namespace Go.Proofs.YtmaokphbfjpodaaGreatDoor.E
open Go

mutual
def tmN : Tm → Nat
  | .node k _ _ _ tk tks uk uks _ _ ks => 1 + (if typeK k = true then min (nodes (.node tk tks)) 8193 else 0) + (if toK k = true then min (nodes (.node uk uks)) 8193 else 0) + tmNL ks
def tmNL : List Tm → Nat
  | [] => 0
  | t :: l => tmN t + tmNL l
end
theorem tmN_pos (t : Tm) : 0 < tmN t := by cases t; simp only [tmN]; omega
theorem tmNL_take : ∀ (ks : List Tm) (i : Nat) t, ks[i]? = some t → tmNL (ks.take (i + 1)) = tmNL (ks.take i) + tmN t
  | x :: l, 0, t, h => by simp at h; subst h; simp [tmNL]
  | x :: l, i + 1, t, h => by
    simp only [List.getElem?_cons_succ] at h
    have := tmNL_take l i t h
    simp only [List.take_succ_cons, tmNL, this]
    omega
theorem tmNL_le : ∀ (ks : List Tm) (i : Nat), tmNL (ks.take i) ≤ tmNL ks
  | [], i => by simp
  | x :: l, 0 => by simp [tmNL]
  | x :: l, i + 1 => by
    have := tmNL_le l i
    simp only [List.take_succ_cons, tmNL]
    omega
theorem tmNL_len : ∀ (ks : List Tm), ks.length ≤ tmNL ks
  | [] => by simp [tmNL]
  | x :: l => by
    have := tmNL_len l
    have := tmN_pos x
    simp only [List.length_cons, tmNL]
    omega
theorem tmN_mem : ∀ (ks : List Tm) (t : Tm), t ∈ ks → tmN t ≤ tmNL ks
  | x :: l, t, h => by
    simp only [tmNL]
    rcases List.mem_cons.1 h with rfl | h
    · omega
    · have := tmN_mem l t h; omega
theorem Tm.ind {Q : Tm → Prop} (h : ∀ k name arg num tk tks uk uks label place ks, (∀ t ∈ ks, Q t) → Q (.node k name arg num tk tks uk uks label place ks)) : ∀ t, Q t := by
  intro t
  have : ∀ n t, tmN t ≤ n → Q t := by
    intro n
    induction n with
    | zero => intro t ht; have := tmN_pos t; omega
    | succ n ih =>
      rintro ⟨k, name, arg, num, tk, tks, uk, uks, label, place, ks⟩ ht
      refine h k name arg num tk tks uk uks label place ks fun t hm => ih t ?_
      have := tmN_mem ks t hm
      simp only [tmN] at ht
      omega
  exact this _ t (Nat.le_refl _)

def addR (n m : Nat) (o : Out) (σ : List AObj) : Prop :=
  (n + m ≤ 8192 ∧ o = .ret (.tup []) ∧ σ = [.var [.d (.int .i64 (n + m : Nat))]]) ∨ (8192 < n + m ∧ o = .pan (.d (.ifa 114 [])) ∧ ∃ q, σ = [.var [.d (.int .i64 q)]])
set_option maxRecDepth 10000 in
theorem add_call (n m : Nat) (hn : n ≤ 8192) (hm : m ≤ 8193) : ACall Tryz.prog 103 [.c (.ptr 0 0), .c (.d (.int .i64 m))] [.var [.d (.int .i64 n)]] (addR n m) := by
  refine ACall.body tab_ok (ρ := 0) (N := 19) Tryz.func103 rfl rfl rfl rfl rfl ?_
  repeat' first | refine AW.seq ?_ | refine AW.block ?_ | ((first | refine AW.region tab_ok ?_ | refine AW.cond ?_ | refine AW.skip ?_ | refine AW.ret ?_ | refine AW.exit ?_); conv => whnf) | ((first | refine And.intro (@rfl Val _) ?_ | refine And.intro (by decide) ?_ | refine cs (fun _ => ?_) (fun _ => ?_)) <;> conv => whnf)
  · rename_i h
    rw [wrap64 (by omega) (by omega)] at h
    have := of_decide_eq_true h
    exact .inr ⟨by omega, rfl, _, rfl⟩
  · rename_i h
    rw [wrap64 (by omega) (by omega)] at h
    have := of_decide_eq_false h
    refine .inl ⟨by omega, rfl, ?_⟩
    show [AObj.var [AV.d (DV.int .i64 _)]] = _
    rw [wrap64 (by omega) (by omega)]
    rfl

def termR (t : Tm) (n : Nat) (o : Out) (σ : List AObj) : Prop :=
  (n + tmN t ≤ 8192 ∧ o = .ret (.tup []) ∧ σ = [.var [.d (.int .i64 (n + tmN t : Nat))]]) ∨ (8192 < n + tmN t ∧ o = .pan (.d (.ifa 114 [])) ∧ ∃ m, σ = [.var [.d (.int .i64 m)]])
noncomputable def rest75 : Code := match Tryz.f50.body with
  | some (.seq _ (.seq _ (.seq _ (.seq _ c)))) => c
  | _ => .skip
structure TermI (ks : List Tm) (m : Nat) where
  i : Nat
  hi : i ≤ ks.length
  h : m + tmNL (ks.take i) ≤ 8192
set_option maxRecDepth 10000 in
theorem term_rest (k : Int) (name arg : ByteArray) (num tk : Int) (tks : List Ty) (uk : Int) (uks : List Ty) (label place : Int) (ks : List Tm) (n m : Nat) (s0 : Int) (b1 b2 b3 b4 b5 b6 b7 : Bool) (hm : m ≤ 8192) (hnm : n + tmN (.node k name arg num tk tks uk uks label place ks) = m + tmNL ks)
    (ih : ∀ t ∈ ks, ∀ n : Nat, n ≤ 8192 → ACall Tryz.prog 50 [.c (.ptr 0 0), .c (.d (.rp 0 t.cells))] [.var [.d (.int .i64 n)]] (termR t n)) :
    AW Tryz.prog tab 0 rest75 ⟨52, [(0, .c (.ptr 0 0)), (1, .c (.d (.rp 0 (Tm.node k name arg num tk tks uk uks label place ks).cells)))], [.var [.d (.int .i64 m)], .var [.d (.int .i64 s0), .d (.bool b1), .d (.bool b2), .d (.bool b3), .d (.bool b4), .d (.bool b5), .d (.bool b6), .d (.bool b7)]], []⟩
      (afin tab 0 50 [] 1 (termR (.node k name arg num tk tks uk uks label place ks) n)) := by
  repeat' first | refine AW.seq ?_ | refine AW.block ?_ | ((first | refine AW.region tab_ok ?_ | refine AW.cond ?_ | refine AW.skip ?_ | refine AW.ret ?_ | refine AW.exit ?_); conv => whnf) | ((first | refine And.intro (@rfl Val _) ?_ | refine And.intro (by decide) ?_ | refine cs (fun _ => ?_) (fun _ => ?_)) <;> conv => whnf)
  refine AW.loop (ι := TermI ks m) (fun x => ⟨52, [(40, .c (.d (.int .i64 x.i))), (39, .c (.d (.int .i64 (Tm.rows ks).length))), (0, .c (.ptr 0 0)), (1, .c (.d (.rp 0 (Tm.node k name arg num tk tks uk uks label place ks).cells)))],
      [.var [.d (.int .i64 (m + tmNL (ks.take x.i) : Nat))], .var [.d (.int .i64 s0), .d (.bool b1), .d (.bool b2), .d (.bool b3), .d (.bool b4), .d (.bool b5), .d (.bool b6), .d (.bool b7)]], []⟩)
    (fun x => ks.length - x.i) ⟨0, Nat.zero_le _, by simp [tmNL]; omega⟩ 2 (fun _ => rfl) (Nat.le_of_ble_eq_true rfl) ⟨⟨rfl, rfl, rfl, rfl, trivial⟩, rfl, rfl, ⟨[], ?_⟩, rfl⟩ (fun x => ?_)
  · simp [tmNL]
  obtain ⟨i, hi, hj⟩ := x
  repeat' first | refine AW.seq ?_ | refine AW.block ?_ | ((first | refine AW.region tab_ok ?_ | refine AW.cond ?_ | refine AW.skip ?_ | refine AW.ret ?_ | refine AW.exit ?_); conv => whnf) | ((first | refine And.intro (@rfl Val _) ?_ | refine And.intro (by decide) ?_ | refine cs (fun _ => ?_) (fun _ => ?_)) <;> conv => whnf)
  · rename_i h1
    simp only [trows_length] at h1 ⊢
    have := of_decide_eq_true h1
    refine ⟨by omega, fun row hrow => ?_⟩
    obtain ⟨t, ht, rfl⟩ := trows_get ks i row (by simpa using hrow)
    have hlt : i < ks.length := (List.getElem?_eq_some_iff.1 ht).1
    have hmem := List.mem_of_getElem? ht
    have hnt := tmNL_take ks i _ ht
    conv => whnf
    repeat' first | refine AW.seq ?_ | refine AW.block ?_ | ((first | refine AW.region tab_ok ?_ | refine AW.cond ?_ | refine AW.skip ?_ | refine AW.ret ?_ | refine AW.exit ?_); conv => whnf) | ((first | refine And.intro (@rfl Val _) ?_ | refine And.intro (by decide) ?_ | refine cs (fun _ => ?_) (fun _ => ?_)) <;> conv => whnf)
    refine (ih t hmem _ hj).mono ?_
    rintro _ _ (⟨hle, rfl, rfl⟩ | ⟨hgt, rfl, q, rfl⟩)
    · conv => whnf
      repeat' first | refine AW.seq ?_ | refine AW.block ?_ | ((first | refine AW.region tab_ok ?_ | refine AW.cond ?_ | refine AW.skip ?_ | refine AW.ret ?_ | refine AW.exit ?_); conv => whnf) | ((first | refine And.intro (@rfl Val _) ?_ | refine And.intro (by decide) ?_ | refine cs (fun _ => ?_) (fun _ => ?_)) <;> conv => whnf)
      have htl := tmNL_len (ks.take i)
      simp only [List.length_take] at htl
      rw [show m + tmNL (List.take i ks) + tmN t = m + tmNL (List.take (i + 1) ks) by omega, wrap64 (x := (i : Int) + 1) (by omega) (by omega)]
      exact ⟨⟨i + 1, hlt, by omega⟩, ⟨⟨rfl, rfl, rfl, rfl, trivial⟩, rfl, rfl, ⟨[], rfl⟩, rfl⟩, show ks.length - (i + 1) < ks.length - i by omega⟩
    · conv => whnf
      refine .inr ⟨?_, rfl, _, rfl⟩
      have := tmNL_le ks (i + 1)
      omega
  · rename_i h1
    simp only [trows_length] at h1
    have := of_decide_eq_false h1
    obtain rfl : i = ks.length := by omega
    simp only [List.take_length] at hj ⊢
    refine .inl ⟨by omega, rfl, ?_⟩
    show [AObj.var [AV.d (DV.int .i64 _)]] = _
    rw [hnm]
set_option maxRecDepth 10000 in
theorem term_call (t : Tm) : ∀ n : Nat, n ≤ 8192 → ACall Tryz.prog 50 [.c (.ptr 0 0), .c (.d (.rp 0 t.cells))] [.var [.d (.int .i64 n)]] (termR t n) := by
  induction t using Tm.ind with
  | _ k name arg num tk tks uk uks label place ks ih =>
  intro n hn
  refine ACall.body tab_ok (ρ := 0) (N := 52) Tryz.func50 rfl rfl rfl rfl rfl ?_
  refine AW.seq ?_
  refine AW.region tab_ok ?_; conv => whnf
  refine (add_call n 1 hn (by omega)).mono ?_
  rintro _ _ (⟨hle, rfl, rfl⟩ | ⟨hgt, rfl, q, rfl⟩)
  · conv => whnf
    refine AW.seq ?_
    refine AW.region tab_ok ?_; conv => whnf
    refine (of_call k).mono ?_
    rintro _ _ ⟨rfl, rfl⟩
    conv => whnf
    have fin : ∀ (m : Nat), m ≤ 8192 → n + tmN (.node k name arg num tk tks uk uks label place ks) = m + tmNL ks → ∀ env, get env 0 = .c (.ptr 0 0) → get env 1 = .c (.d (.rp 0 (Tm.node k name arg num tk tks uk uks label place ks).cells)) →
        AW Tryz.prog tab 0 rest75 ⟨52, env, [.var [.d (.int .i64 m)], .var [.d (.int .i64 (if validK k = true then kidsK k else 0)), .d (.bool (nameK k)), .d (.bool (argK k)), .d (.bool (decide (k = 1))), .d (.bool (typeK k)), .d (.bool (toK k)), .d (.bool (decide (k = 17))), .d (.bool (decide (k = 15)))]], []⟩ (afin tab 0 50 Tryz.f50.results.toList [AObj.var [AV.d (DV.int .i64 n)]].length (termR (.node k name arg num tk tks uk uks label place ks) n)) := fun m hm hnm env g0 g1 => by
      refine AW.fits ?_ ?_ (term_rest k name arg num tk tks uk uks label place ks n m (if validK k = true then kidsK k else 0) (nameK k) (argK k) (decide (k = 1)) (typeK k) (toK k) (decide (k = 17)) (decide (k = 15)) hm hnm ih)
      · exact ⟨⟨g0, g1, trivial⟩, rfl, rfl, ⟨[], rfl⟩, rfl⟩
      · rfl
    refine AW.seq ?_
    refine AW.seq ?_
    refine AW.region tab_ok ?_; conv => whnf
    refine AW.cond ?_; conv => whnf
    refine cs (fun h1 => ?_) (fun h1 => ?_) <;> conv => whnf
    · refine AW.region tab_ok ?_; conv => whnf
      refine (nodes_call (.node tk tks)).mono ?_
      rintro _ _ ⟨rfl, rfl⟩
      conv => whnf
      refine (add_call (n + 1) (min (nodes (.node tk tks)) 8193) (by omega) (Nat.min_le_right _ _)).mono ?_
      rintro _ _ (⟨hle1, rfl, rfl⟩ | ⟨hgt1, rfl, q, rfl⟩)
      · conv => whnf
        refine AW.seq ?_
        refine AW.seq ?_
        refine AW.region tab_ok ?_; conv => whnf
        refine AW.cond ?_; conv => whnf
        refine cs (fun h2 => ?_) (fun h2 => ?_) <;> conv => whnf
        · refine AW.region tab_ok ?_; conv => whnf
          refine (nodes_call (.node uk uks)).mono ?_
          rintro _ _ ⟨rfl, rfl⟩
          conv => whnf
          refine (add_call (n + 1 + min (nodes (.node tk tks)) 8193) (min (nodes (.node uk uks)) 8193) (by omega) (Nat.min_le_right _ _)).mono ?_
          rintro _ _ (⟨hle2, rfl, rfl⟩ | ⟨hgt2, rfl, q, rfl⟩)
          · conv => whnf
            exact fin _ hle2 (by simp only [tmN, h1, h2]; simp only [if_true, if_false, Bool.false_eq_true]; omega) _ rfl rfl
          · conv => whnf
            refine .inr ⟨?_, rfl, _, rfl⟩
            simp only [tmN, h1, h2]
            simp only [if_true, if_false, Bool.false_eq_true]
            omega
        · refine AW.skip ?_; conv => whnf
          exact fin _ hle1 (by simp only [tmN, h1, h2]; simp only [if_true, if_false, Bool.false_eq_true]; omega) _ rfl rfl
      · conv => whnf
        refine .inr ⟨?_, rfl, _, rfl⟩
        simp only [tmN, h1]
        simp only [if_true]
        omega
    · refine AW.skip ?_; conv => whnf
      refine AW.seq ?_
      refine AW.seq ?_
      refine AW.region tab_ok ?_; conv => whnf
      refine AW.cond ?_; conv => whnf
      refine cs (fun h2 => ?_) (fun h2 => ?_) <;> conv => whnf
      · refine AW.region tab_ok ?_; conv => whnf
        refine (nodes_call (.node uk uks)).mono ?_
        rintro _ _ ⟨rfl, rfl⟩
        conv => whnf
        refine (add_call (n + 1) (min (nodes (.node uk uks)) 8193) (by omega) (Nat.min_le_right _ _)).mono ?_
        rintro _ _ (⟨hle2, rfl, rfl⟩ | ⟨hgt2, rfl, q, rfl⟩)
        · conv => whnf
          exact fin _ hle2 (by simp only [tmN, h1, h2]; simp only [if_true, if_false, Bool.false_eq_true]; omega) _ rfl rfl
        · conv => whnf
          refine .inr ⟨?_, rfl, _, rfl⟩
          simp only [tmN, h1, h2]
          simp only [if_true, if_false, Bool.false_eq_true]
          omega
      · refine AW.skip ?_; conv => whnf
        exact fin _ hle (by simp only [tmN, h1, h2]; simp only [if_true, if_false, Bool.false_eq_true]; omega) _ rfl rfl
  · conv => whnf
    refine .inr ⟨?_, rfl, _, rfl⟩
    simp only [tmN]
    omega

/-! ### terms.Nodes -/
set_option maxRecDepth 10000 in
theorem recover_term (a c : Int) (cs0 : List DV) : ADef Tryz.prog 49 [.ptr 1 0] [.frz 0 cs0, .var [.d (.int .i64 a)], .var [.d (.int .i64 c)]] .ret
    (fun o u σ => o = .ret (.tup []) ∧ u = .ret ∧ σ = [.frz 0 cs0, .var [.d (.int .i64 a)], .var [.d (.int .i64 c)]]) := by
  refine ADef.recoverL tab_ok (ρ := 0) (N := 15) (d := 4) Tryz.func49 rfl rfl rfl rfl rfl rfl rfl rfl rfl rfl rfl ?_
  conv => whnf
  repeat' first | refine AW.seq ?_ | refine AW.block ?_ | ((first | refine AW.region tab_ok ?_ | refine AW.cond ?_ | refine AW.skip ?_ | refine AW.ret ?_ | refine AW.exit ?_); conv => whnf) | ((first | refine And.intro (@rfl Val _) ?_ | refine And.intro (by decide) ?_ | refine cs (fun _ => ?_) (fun _ => ?_)) <;> conv => whnf)
  exact ⟨rfl, rfl, rfl⟩
set_option maxRecDepth 10000 in
theorem recover_big (a c : Int) (cs0 : List DV) : ADef Tryz.prog 49 [.ptr 1 0] [.frz 0 cs0, .var [.d (.int .i64 a)], .var [.d (.int .i64 c)]] (.pan (.d (.ifa 114 [])) false)
    (fun o u σ => o = .ret (.tup []) ∧ u = .pan (.d (.ifa 114 [])) true ∧ σ = [.frz 0 cs0, .var [.d (.int .i64 8193)], .var [.d (.int .i64 c)], .var []]) := by
  refine ADef.recoverL tab_ok (ρ := 0) (N := 15) (d := 4) Tryz.func49 rfl rfl rfl rfl rfl rfl rfl rfl rfl rfl rfl ?_
  conv => whnf
  repeat' first | refine AW.seq ?_ | refine AW.block ?_ | ((first | refine AW.region tab_ok ?_ | refine AW.cond ?_ | refine AW.skip ?_ | refine AW.ret ?_ | refine AW.exit ?_); conv => whnf) | ((first | refine And.intro (@rfl Val _) ?_ | refine And.intro (by decide) ?_ | refine cs (fun _ => ?_) (fun _ => ?_)) <;> conv => whnf)
  exact ⟨rfl, rfl, rfl⟩
set_option maxRecDepth 10000 in
theorem tnodes_call (t : Tm) : ACall Tryz.prog 26 [t.val] [] (fun o σ => o = .ret (.c (.d (.int .i64 (min (tmN t) 8193 : Nat)))) ∧ σ = []) := by
  have cc := term_call t 0 (by omega)
  generalize hN : tmN t = nn
  obtain ⟨k, name, arg, num, tk, tks, uk, uks, label, place, ks⟩ := t
  refine ACall.bodyD tab_ok (ρ := 0) (N := 13) Tryz.func26 rfl rfl rfl rfl rfl ?_
  repeat' first | refine AW.seq ?_ | refine AW.block ?_ | ((first | refine AW.region tab_ok ?_ | refine AW.cond ?_ | refine AW.skip ?_ | refine AW.ret ?_ | refine AW.exit ?_); conv => whnf) | ((first | refine And.intro (@rfl Val _) ?_ | refine And.intro (by decide) ?_ | refine cs (fun _ => ?_) (fun _ => ?_)) <;> conv => whnf)
  refine cc.mono ?_
  rintro _ _ (⟨hle, rfl, rfl⟩ | ⟨hgt, rfl, m, rfl⟩)
  · rw [Nat.zero_add, hN] at *
    conv => whnf
    repeat' first | refine AW.seq ?_ | refine AW.block ?_ | ((first | refine AW.region tab_ok ?_ | refine AW.cond ?_ | refine AW.skip ?_ | refine AW.ret ?_ | refine AW.exit ?_); conv => whnf) | ((first | refine And.intro (@rfl Val _) ?_ | refine And.intro (by decide) ?_ | refine cs (fun _ => ?_) (fun _ => ?_)) <;> conv => whnf)
    refine (recover_term _ _ _).mono ?_
    rintro _ _ _ ⟨rfl, rfl, rfl⟩
    conv => whnf
    refine ⟨?_, rfl⟩
    rw [Nat.min_eq_left (by omega)]
    rfl
  · rw [Nat.zero_add, hN] at *
    conv => whnf
    refine (recover_big _ _ _).mono ?_
    rintro _ _ _ ⟨rfl, rfl, rfl⟩
    conv => whnf
    refine ⟨?_, rfl⟩
    rw [Nat.min_eq_right (by omega)]
    rfl
end Go.Proofs.YtmaokphbfjpodaaGreatDoor.E
