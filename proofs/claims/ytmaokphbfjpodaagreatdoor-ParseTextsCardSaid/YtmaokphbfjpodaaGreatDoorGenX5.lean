/- Texts, merged: Pm0, Pt1, Pt2, Pt3. No conditions. -/
import Derived.Test.YtmaokphbfjpodaaGreatDoorGenX4
import Derived.Test.YtmaokphbfjpodaaGreatDoorEngX3
/- The parser in plain Lean: words, types, terms. No conditions. -/
set_option linter.unusedVariables false
set_option linter.unusedSimpArgs false
namespace Go.Proofs.YtmaokphbfjpodaaGreatDoor.E
open Go

structure Wd where
  kind : Int
  text : ByteArray
  num : Int
  place : Int
def Wd.cells (w : Wd) : List DV := [.int .i8 w.kind, .str w.text, .int .i64 w.num, .int .i64 w.place]
def wrows (l : List Wd) : List (List DV) := l.map Wd.cells
theorem wrows_len (l : List Wd) : (wrows l).length = l.length := by simp [wrows]
/-- What a reader tells: something and where it goes on, or a fault. -/
inductive PR (α : Type) where
  | ok (x : α) (j : Nat)
  | bad (e a : Int) (w : ByteArray)
def bindP {α β : Type} (p : PR α) (f : α → Nat → PR β) : PR β := match p with
  | .ok x j => f x j
  | .bad e a w => .bad e a w
@[simp] theorem bindP_ok {α β : Type} (x : α) (j : Nat) (f : α → Nat → PR β) : bindP (.ok x j) f = f x j := rfl
@[simp] theorem bindP_bad {α β : Type} (e a : Int) (w : ByteArray) (f : α → Nat → PR β) : bindP (.bad e a w) f = .bad e a w := rfl
/-- Place and word of what is wrong at a word. -/
def wrongA (l : List Wd) (i : Nat) : Int × ByteArray := match l[i]? with
  | some w => (w.place, w.text)
  | none => match l.getLast? with
    | some w => (IntKind.i64.wrap (w.place + w.text.size), ⟨#[]⟩)
    | none => (0, ⟨#[]⟩)
def wbad {α : Type} (l : List Wd) (i : Nat) : PR α := .bad 40 (wrongA l i).1 (wrongA l i).2
def tkW (l : List Wd) (i : Nat) (k : Int) (s : ByteArray) : Bool := match l[i]? with
  | some w => decide (w.kind = k) && decide (w.text = s)
  | none => false
def placeW (l : List Wd) (i : Nat) : Int := match l[i]? with
  | some w => w.place
  | none => 0

/-! ### Types -/
def tLoop (l : List Wd) (part : Nat → PR Ty) (k : Int) (s : ByteArray) : Nat → Ty → Nat → PR Ty
  | 0, a, i => .ok a i
  | n + 1, a, i => if tkW l i 4 s then bindP (part (i + 1)) fun b j => tLoop l part k s n (.node k [a, b]) j else .ok a i
def tAtom (l : List Wd) (W : Nat → PR Ty) (i : Nat) : PR Ty :=
  if tkW l i 4 ⟨#[63]⟩ then .ok (.node 0 []) (i + 1) else if tkW l i 3 ⟨#[105, 110, 116]⟩ then .ok (.node 1 []) (i + 1) else if tkW l i 3 ⟨#[98, 111, 111, 108]⟩ then .ok (.node 2 []) (i + 1)
  else if tkW l i 4 ⟨#[40]⟩ then bindP (W (i + 1)) fun a j => if tkW l j 4 ⟨#[41]⟩ then .ok a (j + 1) else wbad l j
  else wbad l i
def tLeft (l : List Wd) (part : Nat → PR Ty) (k : Int) (s : ByteArray) (i : Nat) : PR Ty := bindP (part i) fun a j => tLoop l part k s (l.length + 1) a j
def tProd (l : List Wd) (W : Nat → PR Ty) (i : Nat) : PR Ty := tLeft l (tAtom l W) 4 ⟨#[42]⟩ i
def tSum (l : List Wd) (W : Nat → PR Ty) (i : Nat) : PR Ty := tLeft l (tProd l W) 5 ⟨#[43]⟩ i
def tWhole (l : List Wd) : Nat → Nat → PR Ty
  | 0, i => wbad l i
  | n + 1, i => bindP (tSum l (tWhole l n) i) fun a j => if tkW l j 4 ⟨#[45, 62]⟩ then bindP (tWhole l n (j + 1)) fun b q => .ok (.node 3 [a, b]) q else .ok a j
/-- types.Read. -/
def typP (l : List Wd) (i : Nat) : PR Ty := bindP (tWhole l (l.length + 1) i) fun a j => if tcheck a = 0 then .ok a j else .bad (tcheck a) (placeW l i) ⟨#[]⟩

/-! ### Terms -/
def mustP (l : List Wd) (k : Int) (s : ByteArray) (i : Nat) : PR Unit := if tkW l i k s then .ok () (i + 1) else wbad l i
def nameP (l : List Wd) (i : Nat) : PR ByteArray := match l[i]? with
  | some w => if w.kind = 1 then .ok w.text (i + 1) else wbad l i
  | none => wbad l i
def annP (l : List Wd) (i : Nat) : PR (ByteArray × Ty) := bindP (nameP l i) fun x j => bindP (mustP l 4 ⟨#[58]⟩ j) fun _ j => bindP (typP l j) fun a j => .ok (x, a) j
def tn (k : Int) (name arg : ByteArray) (num : Int) (a b : Ty) (p : Int) (ks : List Tm) : Tm := match a, b with
  | .node tk tks, .node uk uks => .node k name arg num tk tks uk uks 0 p ks
def ty0 : Ty := .node 0 []
def s0 : ByteArray := ⟨#[]⟩
section
variable (l : List Wd) (W : Nat → PR Tm)
def isLoop : Nat → Tm → Nat → PR Tm
  | 0, t, i => .ok t i
  | n + 1, t, i => if tkW l i 4 ⟨#[58]⟩ then bindP (typP l (i + 1)) fun a j => isLoop n (tn 16 s0 s0 0 a ty0 (placeW l i) [t]) j else .ok t i
def isOp (ops : List ByteArray) (i : Nat) : Bool := ops.any fun s => tkW l i 4 s
def textW (i : Nat) : ByteArray := match l[i]? with
  | some w => w.text
  | none => s0
def opP (part : Nat → PR Tm) (t : Tm) (i : Nat) : PR Tm := bindP (part (i + 1)) fun u j => .ok (tn 15 (textW l i) s0 0 ty0 ty0 (placeW l i) [t, u]) j
def opLoop (part : Nat → PR Tm) (ops : List ByteArray) : Nat → Tm → Nat → PR Tm
  | 0, t, i => .ok t i
  | n + 1, t, i => if isOp l ops i then bindP (opP l part t i) fun u j => opLoop part ops n u j else .ok t i
def pAtom (i : Nat) : PR Tm := match l[i]? with
  | none => wbad l i
  | some w =>
    if w.kind = 2 then .ok (tn 1 s0 s0 w.num ty0 ty0 w.place []) (i + 1)
    else if w.kind = 1 then .ok (tn 0 w.text s0 0 ty0 ty0 w.place []) (i + 1)
    else if tkW l i 3 ⟨#[116, 114, 117, 101]⟩ then .ok (tn 2 s0 s0 0 ty0 ty0 w.place []) (i + 1)
    else if tkW l i 3 ⟨#[102, 97, 108, 115, 101]⟩ then .ok (tn 3 s0 s0 0 ty0 ty0 w.place []) (i + 1)
    else if tkW l i 4 ⟨#[40]⟩ then bindP (W (i + 1)) fun t j => bindP (mustP l 4 ⟨#[41]⟩ j) fun _ j => .ok t j
    else if tkW l i 4 ⟨#[91]⟩ then bindP (W (i + 1)) fun a j => bindP (mustP l 4 ⟨#[44]⟩ j) fun _ j => bindP (W j) fun b j => bindP (mustP l 4 ⟨#[93]⟩ j) fun _ j => .ok (tn 9 s0 s0 0 ty0 ty0 w.place [a, b]) j
    else wbad l i
def appLoop : Nat → Tm → Nat → PR Tm
  | 0, t, i => .ok t i
  | n + 1, t, i => if tkW l i 4 ⟨#[40]⟩ then bindP (W (i + 1)) fun a j => bindP (mustP l 4 ⟨#[41]⟩ j) fun _ j => appLoop n (tn 6 s0 s0 0 ty0 ty0 (placeW l i) [t, a]) j else .ok t i
def inP (un : Nat → PR Tm) (k p : Int) (i : Nat) : PR Tm := bindP (mustP l 4 ⟨#[123]⟩ i) fun _ j => bindP (typP l j) fun a j => bindP (mustP l 4 ⟨#[125]⟩ j) fun _ j => bindP (un j) fun t j => .ok (tn k s0 s0 0 a ty0 p [t]) j
def numP (p : Int) (i : Nat) : PR Tm := match l[i]? with
  | some w => if w.kind = 2 then .ok (tn 1 s0 s0 (IntKind.i64.wrap (0 - w.num)) ty0 ty0 p []) (i + 1) else wbad l i
  | none => wbad l i
def pUn : Nat → Nat → PR Tm
  | 0, i => wbad l i
  | m + 1, i =>
    if tkW l i 3 ⟨#[102, 115, 116]⟩ then bindP (pUn m (i + 1)) fun t j => .ok (tn 10 s0 s0 0 ty0 ty0 (placeW l i) [t]) j
    else if tkW l i 3 ⟨#[115, 110, 100]⟩ then bindP (pUn m (i + 1)) fun t j => .ok (tn 11 s0 s0 0 ty0 ty0 (placeW l i) [t]) j
    else if tkW l i 3 ⟨#[105, 110, 108]⟩ then inP l (pUn m) 12 (placeW l i) (i + 1)
    else if tkW l i 3 ⟨#[105, 110, 114]⟩ then inP l (pUn m) 13 (placeW l i) (i + 1)
    else if tkW l i 4 ⟨#[45]⟩ then numP l (placeW l i) (i + 1)
    else bindP (pAtom l W i) fun t j => appLoop l W (l.length + 1) t j
def pU (i : Nat) : PR Tm := pUn l W (l.length + 1) i
def pMul (i : Nat) : PR Tm := bindP (pU l W i) fun t j => opLoop l (pU l W) [⟨#[42]⟩, ⟨#[47]⟩] (l.length + 1) t j
def pSum (i : Nat) : PR Tm := bindP (pMul l W i) fun t j => opLoop l (pMul l W) [⟨#[43]⟩, ⟨#[45]⟩] (l.length + 1) t j
def pCmp (i : Nat) : PR Tm := bindP (pSum l W i) fun t j => if isOp l [⟨#[60]⟩, ⟨#[61]⟩] j then opP l (pSum l W) t j else .ok t j
def pIs (i : Nat) : PR Tm := bindP (pCmp l W i) fun t j => isLoop l (l.length + 1) t j
def branchP (i : Nat) : PR (ByteArray × Tm) := bindP (nameP l i) fun x j => bindP (mustP l 4 ⟨#[46]⟩ j) fun _ j => bindP (W j) fun t j => .ok (x, t) j
def lamP (p : Int) (i : Nat) : PR Tm := bindP (annP l i) fun x j => bindP (mustP l 4 ⟨#[46]⟩ j) fun _ j => bindP (W j) fun t j => .ok (tn 4 x.1 s0 0 x.2 ty0 p [t]) j
def letP (p : Int) (i : Nat) : PR Tm := bindP (annP l i) fun x j => bindP (mustP l 4 ⟨#[61]⟩ j) fun _ j => bindP (W j) fun t j => bindP (mustP l 3 ⟨#[105, 110]⟩ j) fun _ j => bindP (W j) fun u j => .ok (tn 7 x.1 s0 0 x.2 ty0 p [t, u]) j
def ifP (p : Int) (i : Nat) : PR Tm := bindP (W i) fun a j => bindP (mustP l 3 ⟨#[116, 104, 101, 110]⟩ j) fun _ j => bindP (W j) fun b j => bindP (mustP l 3 ⟨#[101, 108, 115, 101]⟩ j) fun _ j => bindP (W j) fun c j => .ok (tn 8 s0 s0 0 ty0 ty0 p [a, b, c]) j
def recP (p : Int) (i : Nat) : PR Tm := bindP (nameP l i) fun f j => bindP (mustP l 4 ⟨#[40]⟩ j) fun _ j => bindP (annP l j) fun x j => bindP (mustP l 4 ⟨#[41]⟩ j) fun _ j => bindP (mustP l 4 ⟨#[58]⟩ j) fun _ j => bindP (typP l j) fun b j => bindP (mustP l 4 ⟨#[46]⟩ j) fun _ j => bindP (W j) fun t j => .ok (tn 5 f x.1 0 x.2 b p [t]) j
def caseP (p : Int) (i : Nat) : PR Tm := bindP (W i) fun a j => bindP (mustP l 3 ⟨#[111, 102]⟩ j) fun _ j => bindP (branchP l W j) fun x j => bindP (mustP l 4 ⟨#[124]⟩ j) fun _ j => bindP (branchP l W j) fun y j => .ok (tn 14 x.1 y.1 0 ty0 ty0 p [a, x.2, y.2]) j
def pStep (i : Nat) : PR Tm :=
  if tkW l i 4 ⟨#[92]⟩ then lamP l W (placeW l i) (i + 1)
  else if tkW l i 3 ⟨#[108, 101, 116]⟩ then letP l W (placeW l i) (i + 1)
  else if tkW l i 3 ⟨#[105, 102]⟩ then ifP l W (placeW l i) (i + 1)
  else if tkW l i 3 ⟨#[114, 101, 99]⟩ then recP l W (placeW l i) (i + 1)
  else if tkW l i 3 ⟨#[99, 97, 115, 101]⟩ then caseP l W (placeW l i) (i + 1)
  else pIs l W i
end
def pTerm (l : List Wd) : Nat → Nat → PR Tm
  | 0, i => wbad l i
  | n + 1, i => pStep l (pTerm l n) i
/-- parse.Words at the first word. -/
def wordsP (l : List Wd) : PR Tm := bindP (pTerm l (l.length + 1) 0) fun t j => if tmN t > 8192 then .bad 32 0 s0 else if tmDepth t > 200 then .bad 31 0 s0 else .ok t j
end Go.Proofs.YtmaokphbfjpodaaGreatDoor.E

/- Walks: types.reader: take, wrong. No conditions. -/
set_option linter.unusedVariables false
set_option linter.unusedSimpArgs false
namespace Go.Proofs.YtmaokphbfjpodaaGreatDoor.E
open Go

def rdObj (l : List Wd) (i : Nat) : List AObj := [.var [.d (.sl 0 4 (wrows l)), .d (.int .i64 i)]]
set_option maxRecDepth 10000 in
set_option maxHeartbeats 1000000 in
theorem ttake_call (l : List Wd) (i : Nat) (k : Int) (s : ByteArray) (hi : i ≤ l.length) (hl : l.length ≤ 1000000) : ACall Tryz.prog 156 [.c (.ptr 0 0), .c (.d (.int .i8 k)), .c (.d (.str s))] (rdObj l i)
    (fun o σ => o = .ret (.c (.d (.bool (tkW l i k s)))) ∧ σ = rdObj l (if tkW l i k s = true then i + 1 else i)) := by
  unfold rdObj
  refine ACall.body tab_ok (ρ := 0) (N := 54) Tryz.func156 rfl rfl rfl rfl rfl ?_
  repeat' first | refine AW.seq ?_ | refine AW.block ?_ | (refine (_root_.id : AW _ _ _ (.region 1 _ true) _ _ → _) ?_; refine AW.draw (id := 1) tab_ok mixed [0, 1, 2, 3, 4, 5, 6, 7, 8, 9, 10, 11, 12, 13, 14, 15, 16, 17, 18, 19, 20, 21, 22, 23, 24, 25, 26, 27, 28, 29, 30, 31, 32, 33, 34, 35, 36, 37, 38, 39] (by kernel_rfl) ?_; conv => whnf) | ((first | refine AW.region tab_ok ?_ | refine AW.cond ?_ | refine AW.skip ?_ | refine AW.ret ?_ | refine AW.exit ?_); conv => whnf) | ((first | refine And.intro (@rfl Val _) ?_ | refine And.intro (by decide) ?_ | refine cs (fun _ => ?_) (fun _ => ?_)) <;> conv => whnf)
  · rename_i h2
    have hlt : i < l.length := by have := of_decide_eq_true h2; rw [wrows_len] at this; omega
    obtain ⟨w, hw⟩ : ∃ w, l[i]? = some w := ⟨_, List.getElem?_eq_getElem hlt⟩
    have hrow : (wrows l)[i]? = some w.cells := by simp [wrows, hw]
    have htk : tkW l i k s = (decide (w.kind = k) && decide (w.text = s)) := by unfold tkW; rw [hw]
    have hbe : (w.kind == k) = decide (w.kind = k) := by by_cases h : w.kind = k <;> simp [h]
    rw [htk]
    refine ⟨⟨by omega, by rw [wrows_len]; omega⟩, fun row hr => ?_⟩
    obtain rfl := Option.some.inj (hrow.symm.trans hr)
    obtain ⟨wk, wt, wn, wp⟩ := w
    conv => whnf
    repeat' first | ((refine And.intro (⟨by omega, by rw [wrows_len]; omega⟩ : (0 : Int) ≤ _ ∧ _) ?_; intro row hr; obtain rfl := Option.some.inj (hrow.symm.trans hr); conv => whnf)) | refine AW.seq ?_ | refine AW.block ?_ | (refine (_root_.id : AW _ _ _ (.region 1 _ true) _ _ → _) ?_; refine AW.draw (id := 1) tab_ok mixed [0, 1, 2, 3, 4, 5, 6, 7, 8, 9, 10, 11, 12, 13, 14, 15, 16, 17, 18, 19, 20, 21, 22, 23, 24, 25, 26, 27, 28, 29, 30, 31, 32, 33, 34, 35, 36, 37, 38, 39] (by kernel_rfl) ?_; conv => whnf) | ((first | refine AW.region tab_ok ?_ | refine AW.cond ?_ | refine AW.skip ?_ | refine AW.ret ?_ | refine AW.exit ?_); conv => whnf) | ((first | refine And.intro (@rfl Val _) ?_ | refine And.intro (by decide) ?_ | refine cs (fun _ => ?_) (fun _ => ?_)) <;> conv => whnf)
    all_goals
      have hwi : IntKind.i64.wrap ((i : Int) + 1) = ((i + 1 : Nat) : Int) := by rw [wrap64 (by omega) (by omega)]; omega
      clear htk hw hrow
      dsimp only at *
      first
        | (rename_i a b
           rw [cond_true, hbe] at a
           rw [cond_true] at b
           rw [a, b, hwi]
           exact ⟨rfl, rfl⟩)
        | (rename_i a b
           rw [cond_true, hbe] at a
           rw [cond_true] at b
           rw [a, b]
           exact ⟨rfl, rfl⟩)
        | (rename_i a
           rw [cond_true, hbe] at a
           rw [a]
           exact ⟨rfl, rfl⟩)
       
  · rename_i h2
    have hlt : ¬ i < l.length := by have := of_decide_eq_false h2; rw [wrows_len] at this; omega
    have htk : tkW l i k s = false := by unfold tkW; rw [List.getElem?_eq_none (by omega)]
    rw [htk]
    exact ⟨rfl, rfl⟩
set_option maxRecDepth 10000 in
set_option maxHeartbeats 1000000 in
theorem twrong_call (l : List Wd) (i : Nat) (hi : i ≤ l.length) (hl : l.length ≤ 1000000) : ACall Tryz.prog 167 [.c (.ptr 0 0)] (rdObj l i)
    (fun o σ => o = .pan (.d (.ifc 58 (.rp 0 [.int .i64 40, .int .i64 (wrongA l i).1, .str (wrongA l i).2]))) ∧ σ = rdObj l i) := by
  unfold rdObj
  refine ACall.body tab_ok (ρ := 0) (N := 76) Tryz.func167 rfl rfl rfl rfl rfl ?_
  repeat' first | refine AW.seq ?_ | refine AW.block ?_ | (refine (_root_.id : AW _ _ _ (.region 1 _ true) _ _ → _) ?_; refine AW.draw (id := 1) tab_ok mixed [0, 1, 2, 3, 4, 5, 6, 7, 8, 9] (by kernel_rfl) ?_; conv => whnf) | (refine (_root_.id : AW _ _ _ (.region 2 _ true) _ _ → _) ?_; refine AW.draw (id := 2) tab_ok mixed [0, 1, 2, 3, 4, 5, 6, 7, 8, 9, 10, 11, 12, 13, 14, 15, 16, 17, 18, 19, 20, 21, 22, 23, 24, 25, 26, 27, 28, 29] (by kernel_rfl) ?_; conv => whnf) | (refine (_root_.id : AW _ _ _ (.region 5 _ true) _ _ → _) ?_; refine AW.draw (id := 5) tab_ok mixed [0, 1, 2, 3, 4, 5, 6, 7, 8, 9, 10, 11, 12, 13, 14, 15, 16, 17, 18, 19, 20, 21, 22, 23] (by kernel_rfl) ?_; conv => whnf) | ((first | refine AW.region tab_ok ?_ | refine AW.cond ?_ | refine AW.skip ?_ | refine AW.ret ?_ | refine AW.exit ?_); conv => whnf) | ((first | refine And.intro (@rfl Val _) ?_ | refine And.intro (by decide) ?_ | refine cs (fun _ => ?_) (fun _ => ?_)) <;> conv => whnf)
  · rename_i h2
    have hlt : i < l.length := by have := of_decide_eq_true h2; rw [wrows_len] at this; omega
    obtain ⟨w, hw⟩ : ∃ w, l[i]? = some w := ⟨_, List.getElem?_eq_getElem hlt⟩
    have hrow : (wrows l)[i]? = some w.cells := by simp [wrows, hw]
    have hwa : wrongA l i = (w.place, w.text) := by unfold wrongA; rw [hw]
    rw [hwa]
    refine ⟨⟨by omega, by rw [wrows_len]; omega⟩, fun row hr => ?_⟩
    obtain rfl := Option.some.inj (hrow.symm.trans hr)
    obtain ⟨wk, wt, wn, wp⟩ := w
    conv => whnf
    repeat' first | ((refine And.intro (⟨by omega, by rw [wrows_len]; omega⟩ : (0 : Int) ≤ _ ∧ _) ?_; intro row hr; obtain rfl := Option.some.inj (hrow.symm.trans hr); conv => whnf)) | refine AW.seq ?_ | refine AW.block ?_ | (refine (_root_.id : AW _ _ _ (.region 1 _ true) _ _ → _) ?_; refine AW.draw (id := 1) tab_ok mixed [0, 1, 2, 3, 4, 5, 6, 7, 8, 9] (by kernel_rfl) ?_; conv => whnf) | (refine (_root_.id : AW _ _ _ (.region 2 _ true) _ _ → _) ?_; refine AW.draw (id := 2) tab_ok mixed [0, 1, 2, 3, 4, 5, 6, 7, 8, 9, 10, 11, 12, 13, 14, 15, 16, 17, 18, 19, 20, 21, 22, 23, 24, 25, 26, 27, 28, 29] (by kernel_rfl) ?_; conv => whnf) | (refine (_root_.id : AW _ _ _ (.region 5 _ true) _ _ → _) ?_; refine AW.draw (id := 5) tab_ok mixed [0, 1, 2, 3, 4, 5, 6, 7, 8, 9, 10, 11, 12, 13, 14, 15, 16, 17, 18, 19, 20, 21, 22, 23] (by kernel_rfl) ?_; conv => whnf) | ((first | refine AW.region tab_ok ?_ | refine AW.cond ?_ | refine AW.skip ?_ | refine AW.ret ?_ | refine AW.exit ?_); conv => whnf) | ((first | refine And.intro (@rfl Val _) ?_ | refine And.intro (by decide) ?_ | refine cs (fun _ => ?_) (fun _ => ?_)) <;> conv => whnf)
    all_goals first | exact ⟨rfl, rfl⟩
  · rename_i h2 h3
    have hlt : ¬ i < l.length := by have := of_decide_eq_false h2; rw [wrows_len] at this; omega
    have hpos : 0 < l.length := by have := of_decide_eq_true h3; rw [wrows_len] at this; omega
    obtain ⟨w, hw⟩ : ∃ w, l[l.length - 1]? = some w := ⟨_, List.getElem?_eq_getElem (by omega)⟩
    have hrow : (wrows l)[l.length - 1]? = some w.cells := by simp [wrows, hw]
    have hix : IntKind.i64.wrap (((wrows l).length : Int) - 1) = ((l.length - 1 : Nat) : Int) := by rw [wrows_len, wrap64 (by omega) (by omega)]; omega
    have hwa : wrongA l i = (IntKind.i64.wrap (w.place + w.text.size), ⟨#[]⟩) := by
      unfold wrongA
      rw [List.getElem?_eq_none (by omega), List.getLast?_eq_getElem?, hw]
    rw [hwa, hix]
    refine ⟨⟨by omega, by rw [wrows_len]; omega⟩, fun row hr => ?_⟩
    obtain rfl := Option.some.inj (hrow.symm.trans hr)
    obtain ⟨wk, wt, wn, wp⟩ := w
    conv => whnf
    repeat' first | ((rw [hix]; refine And.intro (⟨by omega, by rw [wrows_len]; omega⟩ : (0 : Int) ≤ _ ∧ _) ?_; intro row hr; obtain rfl := Option.some.inj (hrow.symm.trans hr); conv => whnf)) | refine AW.seq ?_ | refine AW.block ?_ | (refine (_root_.id : AW _ _ _ (.region 1 _ true) _ _ → _) ?_; refine AW.draw (id := 1) tab_ok mixed [0, 1, 2, 3, 4, 5, 6, 7, 8, 9] (by kernel_rfl) ?_; conv => whnf) | (refine (_root_.id : AW _ _ _ (.region 2 _ true) _ _ → _) ?_; refine AW.draw (id := 2) tab_ok mixed [0, 1, 2, 3, 4, 5, 6, 7, 8, 9, 10, 11, 12, 13, 14, 15, 16, 17, 18, 19, 20, 21, 22, 23, 24, 25, 26, 27, 28, 29] (by kernel_rfl) ?_; conv => whnf) | (refine (_root_.id : AW _ _ _ (.region 5 _ true) _ _ → _) ?_; refine AW.draw (id := 5) tab_ok mixed [0, 1, 2, 3, 4, 5, 6, 7, 8, 9, 10, 11, 12, 13, 14, 15, 16, 17, 18, 19, 20, 21, 22, 23] (by kernel_rfl) ?_; conv => whnf) | ((first | refine AW.region tab_ok ?_ | refine AW.cond ?_ | refine AW.skip ?_ | refine AW.ret ?_ | refine AW.exit ?_); conv => whnf) | ((first | refine And.intro (@rfl Val _) ?_ | refine And.intro (by decide) ?_ | refine cs (fun _ => ?_) (fun _ => ?_)) <;> conv => whnf)
    all_goals first | exact ⟨rfl, rfl⟩
  · rename_i h2 h3
    have hz : l = [] := List.eq_nil_of_length_eq_zero (by have := of_decide_eq_false h3; rw [wrows_len] at this; omega)
    subst hz
    exact ⟨rfl, rfl⟩
end Go.Proofs.YtmaokphbfjpodaaGreatDoor.E

/- Walks: types.reader: atom, left, prod, whole. No conditions. -/
set_option linter.unusedVariables false
set_option linter.unusedSimpArgs false
namespace Go.Proofs.YtmaokphbfjpodaaGreatDoor.E
open Go

def panF (e a : Int) (w : ByteArray) : AV := .d (.ifc 58 (.rp 0 [.int .i64 e, .int .i64 a, .str w]))
/-- What a method of a reader tells: a value, and it went on; or a fault. -/
def prR {α : Type} (l : List Wd) (V : α → Val) (i : Nat) (pr : PR α) (o : Out) (σ : List AObj) : Prop := match pr with
  | .ok a j => o = .ret (V a) ∧ σ = rdObj l j ∧ i < j ∧ j ≤ l.length
  | .bad e x w => o = .pan (panF e x w) ∧ ∃ j, j ≤ l.length ∧ σ = rdObj l j
theorem prR_cases {α : Type} {l : List Wd} {V : α → Val} {i : Nat} {pr : PR α} {o : Out} {σ : List AObj} (h : prR l V i pr o σ) :
    (∃ a j, pr = .ok a j ∧ i < j ∧ j ≤ l.length ∧ o = .ret (V a) ∧ σ = rdObj l j) ∨ (∃ e x w j, pr = .bad e x w ∧ j ≤ l.length ∧ o = .pan (panF e x w) ∧ σ = rdObj l j) := by
  cases pr with
  | ok a j => obtain ⟨h1, h2, h3, h4⟩ := h; exact .inl ⟨a, j, rfl, h3, h4, h1, h2⟩
  | bad e x w => obtain ⟨h1, j, h2, h3⟩ := h; exact .inr ⟨e, x, w, j, rfl, h2, h1, h3⟩
theorem tkW_lt {l : List Wd} {i : Nat} {k : Int} {s : ByteArray} (h : tkW l i k s = true) : i < l.length := by
  unfold tkW at h
  cases hg : l[i]? with
  | none => rw [hg] at h; cases h
  | some w => exact (List.getElem?_eq_some_iff.1 hg).1
theorem ttake_split (l : List Wd) (i : Nat) (k : Int) (s : ByteArray) (hi : i ≤ l.length) (hl : l.length ≤ 1000000) : ACall Tryz.prog 156 [.c (.ptr 0 0), .c (.d (.int .i8 k)), .c (.d (.str s))] (rdObj l i)
    (fun o σ => (tkW l i k s = true ∧ i < l.length ∧ o = .ret (.c (.d (.bool true))) ∧ σ = rdObj l (i + 1)) ∨ (tkW l i k s = false ∧ o = .ret (.c (.d (.bool false))) ∧ σ = rdObj l i)) := by
  refine (ttake_call l i k s hi hl).mono ?_
  rintro o σ ⟨h1, h2⟩
  cases h : tkW l i k s with
  | true => rw [h] at h1 h2; exact .inl ⟨rfl, tkW_lt h, h1, h2⟩
  | false => rw [h] at h1 h2; exact .inr ⟨rfl, h1, h2⟩
def WholeC (l : List Wd) (n : Nat) : Prop := ∀ i, i ≤ l.length → l.length - i < n → ACall Tryz.prog 141 [.c (.ptr 0 0)] (rdObj l i) (prR l Ty.val i (tWhole l n i))
set_option maxRecDepth 10000 in
set_option maxHeartbeats 1000000 in
theorem tatom_call (l : List Wd) (n : Nat) (hW : WholeC l n) (i : Nat) (hi : i ≤ l.length) (hn : l.length - i < n + 1) (hl : l.length ≤ 1000000) :
    ACall Tryz.prog 163 [.c (.ptr 0 0)] (rdObj l i) (prR l Ty.val i (tAtom l (tWhole l n) i)) := by
  have T := fun j hj k s => ttake_split l j k s hj hl
  have X := fun j hj => twrong_call l j hj hl
  unfold WholeC at hW
  simp only [rdObj] at T X hW ⊢
  refine ACall.body tab_ok (ρ := 0) (N := 30) Tryz.func163 rfl rfl rfl rfl rfl ?_
  repeat' first | ((refine (T _ (by omega) _ _).mono ?_; rintro _ _ (⟨ht, hlt, rfl, rfl⟩ | ⟨ht, rfl, rfl⟩) <;> conv => whnf)) | ((refine (X _ (by omega)).mono ?_; rintro _ _ ⟨rfl, rfl⟩; conv => whnf)) | ((refine (hW _ (by omega) (by omega)).mono ?_; intro o σ hh; rcases prR_cases hh with ⟨⟨k, ks⟩, j, hp, hj1, hj2, rfl, rfl⟩ | ⟨e, x, w, j, hp, hj2, rfl, rfl⟩ <;> conv => whnf)) | refine AW.seq ?_ | refine AW.block ?_ | ((first | refine AW.region tab_ok ?_ | refine AW.cond ?_ | refine AW.skip ?_ | refine AW.ret ?_ | refine AW.exit ?_); conv => whnf) | ((first | refine And.intro (@rfl Val _) ?_ | refine And.intro (by decide) ?_ | refine cs (fun _ => ?_) (fun _ => ?_)) <;> conv => whnf)
  all_goals
    clear T X hW
    try clear hh
    simp only [tAtom, *, if_true, if_false, bindP_ok, bindP_bad, Bool.false_eq_true, wbad]
    first
      | exact ⟨rfl, rfl, by omega, by omega⟩
      | exact ⟨rfl, _, by assumption, rfl⟩
     
structure LfI (l : List Wd) (part : Nat → PR Ty) (k : Int) (s : ByteArray) (i : Nat) where
  a : Ty
  j : Nat
  m : Nat
  h1 : i < j
  h2 : j ≤ l.length
  h3 : l.length - j < m
  h : tLeft l part k s i = tLoop l part k s m a j
set_option maxRecDepth 10000 in
set_option maxHeartbeats 1000000 in
theorem tleft_call (l : List Wd) (n q : Nat) (hq : q = 163 ∨ q = 155) (part : Nat → PR Ty) (hP : ∀ i, i ≤ l.length → l.length - i < n → ACall Tryz.prog q [.c (.ptr 0 0)] (rdObj l i) (prR l Ty.val i (part i))) (k : Int) (s : ByteArray) (i : Nat) (hi : i ≤ l.length) (hn : l.length - i < n) (hl : l.length ≤ 1000000) :
    ACall Tryz.prog 154 [.c (.ptr 0 0), .c (.d (.int .i8 k)), .c (.d (.str s)), .c (.fn q [.ptr 0 0] [])] (rdObj l i) (prR l Ty.val i (tLeft l part k s i)) := by
  have T := fun j hj k s => ttake_split l j k s hj hl
  simp only [rdObj] at T hP ⊢
  rcases hq with rfl | rfl
  all_goals refine ACall.body tab_ok (ρ := 0) (N := 22) Tryz.func154 rfl rfl rfl rfl rfl ?_
  all_goals
    repeat' first | ((refine (hP _ (by omega) (by omega)).mono ?_; intro o σ hh; rcases prR_cases hh with ⟨⟨ak, aks⟩, j, hp, hj1, hj2, rfl, rfl⟩ | ⟨e, x, w, j, hp, hj2, rfl, rfl⟩ <;> conv => whnf)) | refine AW.seq ?_ | refine AW.block ?_ | (refine (_root_.id : AW _ _ _ (.region 3 _ true) _ _ → _) ?_; refine AW.draw (id := 3) tab_ok mixed [0, 1, 2, 3, 4, 5, 6] (by kernel_rfl) ?_; conv => whnf) | ((first | refine AW.region tab_ok ?_ | refine AW.cond ?_ | refine AW.skip ?_ | refine AW.ret ?_ | refine AW.exit ?_); conv => whnf) | ((first | refine And.intro (@rfl Val _) ?_ | refine And.intro (by decide) ?_ | refine cs (fun _ => ?_) (fun _ => ?_)) <;> conv => whnf)
  all_goals first
    | (simp only [tLeft, hp, bindP_bad]; exact ⟨rfl, _, hj2, rfl⟩)
    | skip
  all_goals
    refine AW.loop (ι := LfI l part k s i) (fun x => ⟨22, [(9, .c (.ptr 2 0)), (8, .c (.ptr 1 0)), (3, .c (.fn _ [.ptr 0 0] [])), (2, .c (.d (.str s))), (1, .c (.d (.int .i8 k))), (0, .c (.ptr 0 0))], [.var [.d (.sl 0 4 (wrows l)), .d (.int .i64 x.j)], .var [.d (.int .i8 0), .d .nils], .var (x.a.cells.map .d)], []⟩)
      (fun x => l.length - x.j) ⟨.node ak aks, j, l.length + 1, hj1, hj2, by omega, by simp only [tLeft, hp, bindP_ok]⟩ 3 (fun _ => rfl) (Nat.le_of_ble_eq_true rfl) ⟨⟨rfl, rfl, rfl, rfl, rfl, rfl, trivial⟩, rfl, rfl, ⟨[], rfl⟩, rfl⟩ (fun x => ?_)
    clear hh hp
    obtain ⟨⟨ak, aks⟩, j, m, h1, h2, h3, hx⟩ := x
    obtain ⟨m, rfl⟩ : ∃ q, m = q + 1 := ⟨m - 1, by omega⟩
    dsimp only
    simp only [Ty.cells, List.map_cons, List.map_nil]
    repeat' first | ((refine (T _ (by omega) _ _).mono ?_; rintro _ _ (⟨ht, hlt, rfl, rfl⟩ | ⟨ht, rfl, rfl⟩) <;> conv => whnf)) | ((refine (hP _ (by omega) (by omega)).mono ?_; intro o σ hh; rcases prR_cases hh with ⟨⟨bk, bks⟩, j2, hp, hj3, hj4, rfl, rfl⟩ | ⟨e, x, w, j2, hp, hj4, rfl, rfl⟩ <;> conv => whnf)) | refine AW.seq ?_ | refine AW.block ?_ | (refine (_root_.id : AW _ _ _ (.region 3 _ true) _ _ → _) ?_; refine AW.draw (id := 3) tab_ok mixed [0, 1, 2, 3, 4, 5, 6] (by kernel_rfl) ?_; conv => whnf) | ((first | refine AW.region tab_ok ?_ | refine AW.cond ?_ | refine AW.skip ?_ | refine AW.ret ?_ | refine AW.exit ?_); conv => whnf) | ((first | refine And.intro (@rfl Val _) ?_ | refine And.intro (by decide) ?_ | refine cs (fun _ => ?_) (fun _ => ?_)) <;> conv => whnf)
  all_goals first
    | (rw [hx, tLoop, if_neg (by simp [*])]; exact ⟨rfl, rfl, by omega, by omega⟩)
    | (rw [hx, tLoop, if_pos (by assumption)]; simp only [*, bindP_bad]; exact ⟨rfl, _, by assumption, rfl⟩)
    | (refine ⟨⟨.node k [.node ak aks, .node bk bks], j2, m, by omega, by omega, by omega, by rw [hx, tLoop, if_pos (by assumption)]; simp only [*, bindP_ok]⟩, ⟨⟨rfl, rfl, rfl, rfl, rfl, rfl, trivial⟩, rfl, rfl, ⟨[], rfl⟩, rfl⟩, ?_⟩; show l.length - j2 < l.length - j; omega)
   
set_option maxRecDepth 10000 in
set_option maxHeartbeats 1000000 in
theorem tprod_call (l : List Wd) (n : Nat) (hW : WholeC l n) (i : Nat) (hi : i ≤ l.length) (hn : l.length - i < n + 1) (hl : l.length ≤ 1000000) :
    ACall Tryz.prog 155 [.c (.ptr 0 0)] (rdObj l i) (prR l Ty.val i (tProd l (tWhole l n) i)) := by
  have X := fun j hj hn => tleft_call l (n + 1) 163 (.inl rfl) (tAtom l (tWhole l n)) (fun i hi hn => tatom_call l n hW i hi hn hl) 4 ⟨#[42]⟩ j hj hn hl
  unfold tProd
  simp only [rdObj] at X ⊢
  refine ACall.body tab_ok (ρ := 0) (N := 7) Tryz.func155 rfl rfl rfl rfl rfl ?_
  repeat' first | ((refine (X _ (by omega) (by omega)).mono ?_; intro o σ hh; rcases prR_cases hh with ⟨⟨ak, aks⟩, j, hp, hj1, hj2, rfl, rfl⟩ | ⟨e, x, w, j, hp, hj2, rfl, rfl⟩ <;> conv => whnf)) | refine AW.seq ?_ | refine AW.block ?_ | ((first | refine AW.region tab_ok ?_ | refine AW.cond ?_ | refine AW.skip ?_ | refine AW.ret ?_ | refine AW.exit ?_); conv => whnf) | ((first | refine And.intro (@rfl Val _) ?_ | refine And.intro (by decide) ?_ | refine cs (fun _ => ?_) (fun _ => ?_)) <;> conv => whnf)
  all_goals first
    | (clear X; simp only [*]; (refine ⟨rfl, rfl, ?_, ?_⟩ <;> first | trivial | omega))
    | (clear X; simp only [*]; exact ⟨rfl, _, by assumption, rfl⟩)
   
set_option maxRecDepth 10000 in
set_option maxHeartbeats 1000000 in
theorem twhole_call (l : List Wd) (hl : l.length ≤ 1000000) : ∀ n, WholeC l n
  | 0, i, hi, hn => absurd hn (Nat.not_lt_zero _)
  | n + 1, i, hi, hn => by
    have ih := twhole_call l hl n
    have T := fun j hj k s => ttake_split l j k s hj hl
    have X := fun j hj hn => tleft_call l (n + 1) 155 (.inr rfl) (tProd l (tWhole l n)) (fun i hi hn => tprod_call l n ih i hi hn hl) 5 ⟨#[43]⟩ j hj hn hl
    unfold WholeC at ih
    simp only [rdObj] at X T ih ⊢
    refine ACall.body tab_ok (ρ := 0) (N := 16) Tryz.func141 rfl rfl rfl rfl rfl ?_
    repeat' first | ((refine (T _ (by omega) _ _).mono ?_; rintro _ _ (⟨ht, hlt, rfl, rfl⟩ | ⟨ht, rfl, rfl⟩) <;> conv => whnf)) | ((refine (X _ (by omega) (by omega)).mono ?_; intro o σ hh; rcases prR_cases hh with ⟨⟨ak, aks⟩, j, hp, hj1, hj2, rfl, rfl⟩ | ⟨e, x, w, j, hp, hj2, rfl, rfl⟩ <;> conv => whnf)) | ((refine (ih _ (by omega) (by omega)).mono ?_; intro o σ hh; rcases prR_cases hh with ⟨⟨ak, aks⟩, j, hp, hj1, hj2, rfl, rfl⟩ | ⟨e, x, w, j, hp, hj2, rfl, rfl⟩ <;> conv => whnf)) | refine AW.seq ?_ | refine AW.block ?_ | (refine (_root_.id : AW _ _ _ (.region 3 _ true) _ _ → _) ?_; refine AW.draw (id := 3) tab_ok mixed [0, 1, 2, 3, 4, 5] (by kernel_rfl) ?_; conv => whnf) | ((first | refine AW.region tab_ok ?_ | refine AW.cond ?_ | refine AW.skip ?_ | refine AW.ret ?_ | refine AW.exit ?_); conv => whnf) | ((first | refine And.intro (@rfl Val _) ?_ | refine And.intro (by decide) ?_ | refine cs (fun _ => ?_) (fun _ => ?_)) <;> conv => whnf)
    all_goals
      clear T X ih
      try clear hh
      simp only [tWhole, tSum, *, if_true, if_false, bindP_ok, bindP_bad, Bool.false_eq_true]
      first
        | (refine ⟨rfl, rfl, ?_, ?_⟩ <;> first | trivial | omega)
        | exact ⟨rfl, _, by assumption, rfl⟩
       
end Go.Proofs.YtmaokphbfjpodaaGreatDoor.E

/- Walks: types.Read. No conditions. -/
set_option linter.unusedVariables false
set_option linter.unusedSimpArgs false
namespace Go.Proofs.YtmaokphbfjpodaaGreatDoor.E
open Go

def faultI (e a : Int) (w : ByteArray) : DV := .ifc 58 (.rp 0 [.int .i64 e, .int .i64 a, .str w])
/-- What types.Read tells. -/
def readR (l : List Wd) (i : Nat) (o : Out) (σ : List AObj) : Prop :=
  (∃ a j, typP l i = .ok a j ∧ i < j ∧ j ≤ l.length ∧ o = .ret (.tup [a.val, .c (.d (.int .i64 j)), .c (.d .nili)]) ∧ σ = []) ∨
  (∃ e x w, typP l i = .bad e x w ∧ o = .ret (.tup [ty0.val, .c (.d (.int .i64 0)), .c (.d (faultI e x w))]) ∧ σ = [])
set_option maxRecDepth 10000 in
theorem recover_none (k : Int) (d : DV) (a : Int) (c : DV) (y : List (List DV)) (z : Int) : ADef Tryz.prog 140 [.ptr 0 0, .ptr 1 0, .ptr 2 0] (.var [.d (.int .i8 k), .d d] :: .var [.d (.int .i64 a)] :: .var [.d c] :: [.var [.d (.sl 0 4 y), .d (.int .i64 z)]]) .ret
    (fun o u σ => o = .ret (.tup []) ∧ u = .ret ∧ σ = (.var [.d (.int .i8 k), .d d] :: .var [.d (.int .i64 a)] :: .var [.d c] :: [.var [.d (.sl 0 4 y), .d (.int .i64 z)]])) := by
  refine ADef.recover tab_ok (ρ := 0) (N := 15) (d := 6) Tryz.func140 rfl rfl rfl rfl rfl rfl rfl rfl rfl ?_
  repeat' first | refine AW.seq ?_ | refine AW.block ?_ | ((first | refine AW.region tab_ok ?_ | refine AW.cond ?_ | refine AW.skip ?_ | refine AW.ret ?_ | refine AW.exit ?_); conv => whnf) | ((first | refine And.intro (@rfl Val _) ?_ | refine And.intro (by decide) ?_ | refine cs (fun _ => ?_) (fun _ => ?_)) <;> conv => whnf)
  all_goals first | exact ⟨rfl, rfl, rfl⟩
set_option maxRecDepth 10000 in
theorem recover_some (k : Int) (d : DV) (a : Int) (c : DV) (y : List (List DV)) (z : Int) (e p : Int) (w : ByteArray) : ADef Tryz.prog 140 [.ptr 0 0, .ptr 1 0, .ptr 2 0] (.var [.d (.int .i8 k), .d d] :: .var [.d (.int .i64 a)] :: .var [.d c] :: [.var [.d (.sl 0 4 y), .d (.int .i64 z)]]) (.pan (panF e p w) false)
    (fun o u σ => o = .ret (.tup []) ∧ u = .pan (panF e p w) true ∧ σ = (.var [.d (.int .i8 0), .d .nils] :: .var [.d (.int .i64 0)] :: .var [.ifc 58 (.d (.rp 0 [.int .i64 e, .int .i64 p, .str w]))] :: [.var [.d (.sl 0 4 y), .d (.int .i64 z)]])) := by
  refine ADef.recover tab_ok (ρ := 0) (N := 15) (d := 6) Tryz.func140 rfl rfl rfl rfl rfl rfl rfl rfl rfl ?_
  repeat' first | refine AW.seq ?_ | refine AW.block ?_ | ((first | refine AW.region tab_ok ?_ | refine AW.cond ?_ | refine AW.skip ?_ | refine AW.ret ?_ | refine AW.exit ?_); conv => whnf) | ((first | refine And.intro (@rfl Val _) ?_ | refine And.intro (by decide) ?_ | refine cs (fun _ => ?_) (fun _ => ?_)) <;> conv => whnf)
  all_goals first | exact ⟨rfl, rfl, rfl⟩
set_option maxRecDepth 10000 in
theorem recover_own (k : Int) (d : DV) (a : Int) (c : DV) (y : List (List DV)) (z : Int) (e p : Int) (w : ByteArray) : ADef Tryz.prog 140 [.ptr 0 0, .ptr 1 0, .ptr 2 0] [.var [.d (.int .i8 k), .d d], .var [.d (.int .i64 a)], .var [.d c], .var [.d (.sl 0 4 y), .d (.int .i64 z)], .var [.d (.int .i64 e), .d (.int .i64 p), .d (.str w)]] (.pan (.ifc 58 (.ptr 4 0)) false)
    (fun o u σ => o = .ret (.tup []) ∧ u = .pan (.ifc 58 (.ptr 4 0)) true ∧ σ = [.var [.d (.int .i8 0), .d .nils], .var [.d (.int .i64 0)], .var [.ifc 58 (.ptr 4 0)], .var [.d (.sl 0 4 y), .d (.int .i64 z)], .var [.d (.int .i64 e), .d (.int .i64 p), .d (.str w)]]) := by
  refine ADef.recover tab_ok (ρ := 0) (N := 15) (d := 6) Tryz.func140 rfl rfl rfl rfl rfl rfl rfl rfl rfl ?_
  repeat' first | refine AW.seq ?_ | refine AW.block ?_ | ((first | refine AW.region tab_ok ?_ | refine AW.cond ?_ | refine AW.skip ?_ | refine AW.ret ?_ | refine AW.exit ?_); conv => whnf) | ((first | refine And.intro (@rfl Val _) ?_ | refine And.intro (by decide) ?_ | refine cs (fun _ => ?_) (fun _ => ?_)) <;> conv => whnf)
  all_goals first | exact ⟨rfl, rfl, rfl⟩
set_option maxRecDepth 10000 in
set_option maxHeartbeats 1000000 in
theorem read_call (l : List Wd) (i : Nat) (hi : i ≤ l.length) (hl : l.length ≤ 1000000) :
    ACall Tryz.prog 116 [.c (.d (.sl 0 4 (wrows l))), .c (.d (.int .i64 i))] [] (readR l i) := by
  have hm : max (0 : Int) (min (i : Int) ((wrows l).length : Int)) = i := by rw [wrows_len]; omega
  have X : ACall Tryz.prog 141 [.c (.ptr 0 0)] [.var [.d (.sl 0 4 (wrows l)), .d (.int .i64 (max 0 (min (i : Int) ((wrows l).length : Int))))]] (prR l Ty.val i (tWhole l (l.length + 1) i)) := by
    rw [hm]
    exact twhole_call l hl (l.length + 1) i hi (by omega)
  refine ACall.bodyD tab_ok (ρ := 0) (N := 43) Tryz.func116 rfl rfl rfl rfl rfl ?_
  repeat' first | ((refine X.mono ?_; intro o σ hh; rcases prR_cases hh with ⟨⟨ak, aks⟩, j, hp, hj1, hj2, rfl, rfl⟩ | ⟨e, x, w, j, hp, hj2, rfl, rfl⟩ <;> conv => whnf)) | refine AW.seq ?_ | refine AW.block ?_ | (refine (_root_.id : AW _ _ _ (.region 8 _ true) _ _ → _) ?_; refine AW.draw (id := 8) tab_ok mixed [0, 1, 2, 3, 4, 5, 6, 7] (by kernel_rfl) ?_; conv => whnf) | ((first | refine AW.region tab_ok ?_ | refine AW.cond ?_ | refine AW.skip ?_ | refine AW.ret ?_ | refine AW.exit ?_); conv => whnf) | (refine (check_call (.node ak aks)).mono ?_; rintro _ _ ⟨rfl, rfl⟩; conv => whnf) | ((first | refine And.intro (@rfl Val _) ?_ | refine And.intro (by decide) ?_ | refine cs (fun _ => ?_) (fun _ => ?_)) <;> conv => whnf)
  · have hlt : i < l.length := by omega
    obtain ⟨w, hw⟩ : ∃ w, l[i]? = some w := ⟨_, List.getElem?_eq_getElem hlt⟩
    have hrow : (wrows l)[i]? = some w.cells := by simp [wrows, hw]
    refine ⟨⟨by omega, by rw [hm, wrows_len]; omega⟩, fun row hr => ?_⟩
    rw [hm] at hr
    obtain rfl := Option.some.inj (hrow.symm.trans hr)
    obtain ⟨wk, wt, wn, wp⟩ := w
    conv => whnf
    have hpw : placeW l i = wp := by unfold placeW; rw [hw]
    repeat' first | refine AW.seq ?_ | refine AW.block ?_ | (refine (_root_.id : AW _ _ _ (.region 8 _ true) _ _ → _) ?_; refine AW.draw (id := 8) tab_ok mixed [0, 1, 2, 3, 4, 5, 6, 7] (by kernel_rfl) ?_; conv => whnf) | ((first | refine AW.region tab_ok ?_ | refine AW.cond ?_ | refine AW.skip ?_ | refine AW.ret ?_ | refine AW.exit ?_); conv => whnf) | ((first | refine And.intro (@rfl Val _) ?_ | refine And.intro (by decide) ?_ | refine cs (fun _ => ?_) (fun _ => ?_)) <;> conv => whnf)
    refine (recover_own _ _ _ _ _ _ _ _ _).mono ?_
    rintro _ _ _ ⟨rfl, rfl, rfl⟩
    conv => whnf
    have hc : ¬ tcheck (.node ak aks) = 0 := by simp_all
    first | exact .inr ⟨_, _, _, by rw [typP, hp, bindP_ok, if_neg hc, hpw], rfl, rfl⟩
  · refine (recover_none ..).mono ?_
    rintro _ _ _ ⟨rfl, rfl, rfl⟩
    conv => whnf
    have hc : tcheck (.node ak aks) = 0 := by simp_all
    first | exact .inl ⟨.node ak aks, j, by rw [typP, hp, bindP_ok, if_pos hc], hj1, hj2, rfl, rfl⟩
  · refine (recover_some ..).mono ?_
    rintro _ _ _ ⟨rfl, rfl, rfl⟩
    conv => whnf
    first | exact .inr ⟨_, _, _, by rw [typP, hp, bindP_bad], rfl, rfl⟩
end Go.Proofs.YtmaokphbfjpodaaGreatDoor.E
