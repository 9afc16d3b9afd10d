/- The engine, part 3: the table of types, and what single operations do to data. No conditions. -/
import Derived.Test.YtdhkopangbgehaaEng2
set_option linter.unusedVariables false
set_option linter.unusedSimpArgs false
namespace Go.Proofs.Ytdhkopangbgehaa.E
open Go

/-! ### Types -/
inductive TK where
  | other | bool | int (k : IntKind) | str | ptr | sl (e : TypeId) | arr (n : Nat) (e : TypeId) | map (k e : TypeId) | strct | fn | ifc

structure TI where
  k : TK
  sz : Nat
  bytes : Nat
  zero : List DV
  flds : List (Nat × Nat)
  nrm : List (Option Nat)

/-- How a value is handed over: as data (with the widths of its slices' elements), or as it is. -/
inductive PM where
  | fz (n : List (Option Nat))
  | ref

structure Tab where
  ti : Nat → Option TI
  fok : Nat → Bool
  prm : Nat → List PM
  rsl : Nat → List PM

def TI.agg (i : TI) : Bool := match i.k with | .strct | .arr _ _ => true | _ => false

def isZ : DV → Value → Bool
  | .int k n, .int k' n' => k == k' && n == n'
  | .bool b, .bool b' => b == b'
  | .str s, .string s' => decide (s = s')
  | .nils, .slice none 0 0 => true
  | .nilp, .pointer none => true
  | .nilf, .nilFunc => true
  | .nili, .nilIface => true
  | _, _ => false

theorem isZ_rep {w : World} {rg : Nat → Option Nat} {x : DV} {v : Value} (h : isZ x v = true) : RepD w rg v x := by
  cases x <;> cases v <;> (try (simp [isZ] at h; done))
  · simp only [isZ, Bool.and_eq_true, beq_iff_eq] at h; obtain ⟨rfl, rfl⟩ := h; exact .int _ _
  · simp only [isZ, beq_iff_eq] at h; subst h; exact .bool _
  · simp only [isZ, decide_eq_true_eq] at h; subst h; exact .str _
  · unfold isZ at h
    split at h <;> first | (cases h; done) | skip
    all_goals simp_all
    exact .nils
  · unfold isZ at h
    split at h <;> first | (cases h; done) | skip
    all_goals simp_all
    exact .nilp
  · exact .nilf
  · exact .nili

def allZ : List DV → List Value → Bool
  | [], [] => true
  | x :: xs, v :: vs => isZ x v && allZ xs vs
  | _, _ => false

theorem allZ_rep {w : World} {C : Cz} : ∀ {xs : List DV} {vs : List Value}, allZ xs vs = true → RepL w C vs (xs.map .d)
  | [], [], _ => ⟨rfl, fun i v a h => by simp at h⟩
  | x :: xs, v :: vs, h => by
    simp only [allZ, Bool.and_eq_true] at h
    have ih := allZ_rep (w := w) (C := C) h.2
    refine ⟨by have := ih.1; simp at this ⊢; exact this, fun i u a h1 h2 => ?_⟩
    cases i with
    | zero => simp at h1 h2; subst h1; subst h2; exact .d _ _ (isZ_rep h.1)
    | succ i => simp at h1 h2; exact ih.2 i u a h1 (by simpa using h2)
  | [], _ :: _, h => by cases h
  | _ :: _, [], h => by cases h

def kindOk : TK → TypeDesc → Bool
  | .other, _ => true
  | .bool, .bool => true
  | .int k, .int k' => k == k'
  | .str, .string => true
  | .ptr, .pointer _ => true
  | .sl e, .slice e' => e == e'
  | .arr n e, .array n' e' => n == n' && e == e'
  | .map k e, .map k' e' => k == k' && e == e'
  | .strct, .struct _ => true
  | .fn, .func _ _ _ => true
  | .ifc, .interface _ => true
  | _, _ => false

def fldsOk (P : Program) (fs : Array Field) : Nat → List (Nat × Nat) → Bool
  | _, [] => true
  | f, (off, ty) :: r => (match fs[f]? with
      | some fd => fd.offset == off && fd.type == ty && (match P.info? ty with | some i => i.size != 0 | none => false)
      | none => false) && fldsOk P fs (f + 1) r

def tiCheck (P : Program) (t : Nat) (i : TI) : Bool :=
  match P.info? t, P.underlying t with
  | some info, some d => kindOk i.k d && info.size == i.sz && info.bytes == i.bytes &&
      (match i.k, d with | .strct, .struct fs => fldsOk P fs 0 i.flds && i.flds.length == fs.size | .other, .struct _ => false | .other, .array _ _ => false | _, _ => true) &&
      (match info.zero with | some z => allZ i.zero z.cells.toList && (z.cells.size == i.sz) && ((match z with | .agg _ => true | _ => false) == i.agg) | none => false)
  | _, _ => false

structure TIOk (P : Program) (t : Nat) (i : TI) : Prop where
  h : tiCheck P t i = true

structure TabOk (P : Program) (T : Tab) : Prop where
  ti : ∀ t i, T.ti t = some i → tiCheck P t i = true
  fok : ∀ f, T.fok f = true → ∀ args w, (callFunc f args).run P w = .ok (.enter f args) w

theorem ti_parts {P : Program} {t : Nat} {i : TI} (h : tiCheck P t i = true) : ∃ info d z, P.info? t = some info ∧ P.underlying t = some d ∧ kindOk i.k d = true ∧ info.size = i.sz ∧
    info.bytes = i.bytes ∧ (∀ fs, i.k = .strct → d = .struct fs → fldsOk P fs 0 i.flds = true ∧ i.flds.length = fs.size) ∧ info.zero = some z ∧ allZ i.zero z.cells.toList = true ∧ z.cells.size = i.sz ∧ d.isRow = i.agg ∧
    (i.agg = true ↔ ∃ arr, z = .agg arr) := by
  unfold tiCheck at h
  split at h
  · rename_i info d h1 h2
    simp only [Bool.and_eq_true, beq_iff_eq, bne_iff_ne] at h
    obtain ⟨⟨⟨⟨hk, hs⟩, hb⟩, hf⟩, hz⟩ := h
    split at hz
    · rename_i z hz1
      simp only [Bool.and_eq_true, beq_iff_eq] at hz
      obtain ⟨⟨hz2, hz3⟩, hz4⟩ := hz
      refine ⟨info, d, z, h1, h2, hk, hs, hb, fun fs e1 e2 => by subst e2; rw [e1] at hf; simpa using hf, hz1, hz2, hz3, ?_, ?_⟩
      · cases hik : i.k <;> cases d <;> simp_all [kindOk, TI.agg, TypeDesc.isRow]
      · rw [← hz4]
        cases z <;> simp
    · cases hz
  · cases h

theorem fldsOk_get {P : Program} {fs : Array Field} : ∀ (l : List (Nat × Nat)) (k : Nat), fldsOk P fs k l = true → ∀ (j off ty : Nat), l[j]? = some (off, ty) →
    ∃ fd i, fs[k + j]? = some fd ∧ fd.offset = off ∧ fd.type = ty ∧ P.info? ty = some i ∧ i.size ≠ 0
  | [], _, _, _, _, _, h => by simp at h
  | (o, y) :: r, k, h, j, off, ty, hj => by
    simp only [fldsOk, Bool.and_eq_true] at h
    cases j with
    | zero =>
      simp at hj
      obtain ⟨rfl, rfl⟩ := hj
      obtain ⟨h, -⟩ := h
      split at h
      · rename_i fd hfd
        simp only [Bool.and_eq_true, beq_iff_eq] at h
        obtain ⟨⟨h1, h2⟩, h3⟩ := h
        split at h3
        · rename_i i hi
          exact ⟨fd, i, by simpa using hfd, h1, h2, hi, by simpa using h3⟩
        · cases h3
      · cases h
    | succ j =>
      have := fldsOk_get r (k + 1) h.2 j off ty (by simpa using hj)
      rw [show k + 1 + j = k + (j + 1) by omega] at this
      exact this

/-! ### Operands -/
def cval : Value → Val
  | .int k n => .c (.d (.int k n))
  | .bool b => .c (.d (.bool b))
  | .string s => .c (.d (.str s))
  | .slice none 0 0 => .c (.d .nils)
  | .nilIface => .c (.d .nili)
  | .nilFunc => .c (.d .nilf)
  | .pointer none => .c (.d .nilp)
  | _ => .junk

theorem cval_rep {w : World} {C : Cz} (v : Value) : RepV w C v (cval v) := by
  unfold cval
  split
  · exact .c _ _ (.d _ _ (.int _ _))
  · exact .c _ _ (.d _ _ (.bool _))
  · exact .c _ _ (.d _ _ (.str _))
  · exact .c _ _ (.d _ _ .nils)
  · exact .c _ _ (.d _ _ .nili)
  · exact .c _ _ (.d _ _ .nilf)
  · exact .c _ _ (.d _ _ .nilp)
  · exact .junk _

def ev (env : List (Nat × Val)) : Operand → Val
  | .tmp t => get env t
  | .const v => cval v
  | .global _ => .junk
  | .func f => .c (.fn f [] [])

theorem ev_rep {w : World} {C : Cz} {a : Act} {S : St} (h : EnvOk w C a S) (x : Operand) : RepV w C (a.eval x) (ev S.env x) := by
  cases x with
  | tmp t => exact h.env t
  | const v => exact cval_rep v
  | global g => exact .junk _
  | func f => exact .c _ _ (.fn f #[] #[] [] [] (fun _ => default) (fun _ => default) rfl rfl (fun i hi => by simp at hi) (fun i hi => by simp at hi) (fun i x h => by simp at h) (fun i x h => by simp at h))

def Val.cells : Val → Option (List AV)
  | .c a => some [a]
  | .agg cs => some cs
  | _ => none

theorem RepL.one {w : World} {C : Cz} {v : Value} {a : AV} (h : RepA w C v a) : RepL w C [v] [a] :=
  ⟨rfl, fun i u b h1 h2 => by
    cases i with
    | zero => simp at h1 h2; subst h1; subst h2; exact h
    | succ i => simp at h1⟩

theorem cells_of_one {v : Value} (h : v.oneCell' = true) : v.cells = #[v] := by cases v <;> first | rfl | cases h

theorem cells_rep {w : World} {C : Cz} {v : Value} {x : Val} {cs : List AV} (h : RepV w C v x) (hx : x.cells = some cs) : RepL w C v.cells.toList cs := by
  cases h with
  | c _ a h =>
    simp [Val.cells] at hx; subst hx
    rw [cells_of_one h.oneCell]; exact RepL.one h
  | agg arr cells h => simp [Val.cells] at hx; subst hx; exact h
  | tup arr vs hs h => cases hx
  | junk v => cases hx

theorem RepL.oneCell {w : World} {C : Cz} {vs : List Value} {as : List AV} (h : RepL w C vs as) : ∀ v ∈ vs, v.oneCell' = true := by
  intro v hv
  obtain ⟨i, hi⟩ := List.getElem?_of_mem hv
  have hlt : i < as.length := by rw [← h.1]; exact (List.getElem?_eq_some_iff.1 hi).1
  exact (h.2 i v _ hi (List.getElem?_eq_getElem hlt)).oneCell

end Go.Proofs.Ytdhkopangbgehaa.E
