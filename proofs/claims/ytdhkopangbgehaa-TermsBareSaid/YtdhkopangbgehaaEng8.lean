/- The engine, part 8: arithmetic, tests, interfaces, strings, appends. No conditions. -/
import Derived.Test.YtdhkopangbgehaaEng7
set_option linter.unusedVariables false
set_option linter.unusedSimpArgs false
namespace Go.Proofs.Ytdhkopangbgehaa.E
open Go

section
variable {P : Program} {T : Tab} (HT : TabOk P T)

def ikEq : IntKind → IntKind → Bool
  | .i8, .i8 | .i16, .i16 | .i32, .i32 | .i64, .i64 | .u8, .u8 | .u16, .u16 | .u32, .u32 | .u64, .u64 => true
  | _, _ => false
theorem ikEq_eq {a b : IntKind} (h : ikEq a b = true) : a = b := by cases a <;> cases b <;> first | rfl | cases h

def iBin (op : BinOp) (k : IntKind) (a b : Int) (K : Val → Prop) : Prop :=
  match op with
  | .add => K (.c (.d (.int k (k.wrap (a + b)))))
  | .sub => K (.c (.d (.int k (k.wrap (a - b)))))
  | .mul => K (.c (.d (.int k (k.wrap (a * b)))))
  | .quo => b ≠ 0 ∧ K (.c (.d (.int k (k.wrap (a.tdiv b)))))
  | .rem => b ≠ 0 ∧ K (.c (.d (.int k (a.tmod b))))
  | .eql => K (.c (.d (.bool (a == b))))
  | .neq => K (.c (.d (.bool (a != b))))
  | .lss => K (.c (.d (.bool (decide (a < b)))))
  | .leq => K (.c (.d (.bool (decide (a ≤ b)))))
  | .gtr => K (.c (.d (.bool (decide (a > b)))))
  | .geq => K (.c (.d (.bool (decide (a ≥ b)))))
  | _ => False

def sBin (op : BinOp) (a b : ByteArray) (K : Val → Prop) : Prop :=
  match op with
  | .add => a.size + b.size ≤ 9223372036854775807 ∧ K (.c (.d (.str (a ++ b))))
  | .eql => K (.c (.d (.bool (decide (a = b)))))
  | .neq => K (.c (.d (.bool (!decide (a = b)))))
  | .lss => K (.c (.d (.bool (Op.bytesLess a.toList b.toList))))
  | .gtr => K (.c (.d (.bool (!(Op.bytesLess a.toList b.toList || decide (a = b))))))
  | .leq => K (.c (.d (.bool (Op.bytesLess a.toList b.toList || decide (a = b)))))
  | .geq => K (.c (.d (.bool (!Op.bytesLess a.toList b.toList))))
  | _ => False

/-- Nothing, something: of what may be held against nil. -/
def nilOf : Val → Option Bool
  | .c (.d .nils) | .c (.d .nilp) | .c (.d .nili) | .c (.d .nilf) => some true
  | .c (.ptr _ _) | .c (.rowp _ _ _) | .c (.d (.rp _ _)) | .c (.d (.ifc _ _)) | .c (.d (.ifa _ _)) | .c (.ifc _ _) | .c (.ifa _ _) | .c (.fn _ _ _) => some false
  | .c (.d (.sl _ _ (_ :: _))) => some false
  | _ => none

def isNilConst : Val → TK → Bool
  | .c (.d .nils), .sl _ => true
  | .c (.d .nilp), .ptr => true
  | .c (.d .nili), .ifc => true
  | .c (.d .nilf), .fn => true
  | _, _ => false

def fitsK : Val → TK → Bool
  | .c (.d .nils), .sl _ | .c (.d (.sl _ _ _)), .sl _ => true
  | .c (.d .nilp), .ptr | .c (.ptr _ _), .ptr | .c (.rowp _ _ _), .ptr | .c (.d (.rp _ _)), .ptr => true
  | .c (.d .nili), .ifc | .c (.d (.ifc _ _)), .ifc | .c (.d (.ifa _ _)), .ifc | .c (.ifc _ _), .ifc | .c (.ifa _ _), .ifc => true
  | .c (.d .nilf), .fn | .c (.fn _ _ _), .fn => true
  | _, _ => false

/-- x is held against nil (y). -/
def nBin (op : BinOp) (tk : TK) (x : Val) (cst : Bool) (K : Val → Prop) : Prop :=
  bif cst && fitsK x tk then (match nilOf x with
    | some b => match op with
      | .eql => K (.c (.d (.bool b)))
      | .neq => K (.c (.d (.bool (!b))))
      | _ => False
    | none => False) else False

def aBin (T : Tab) (op : BinOp) (t : Nat) (x y : Val) (cst : Bool) (K : Val → Prop) : Prop :=
  match x, y with
  | .c (.d (.int k a)), .c (.d (.int k' b)) => bif ikEq k k' then iBin op k a b K else False
  | .c (.d (.str a)), .c (.d (.str b)) => sBin op a b K
  | .c (.d (.bool a)), .c (.d (.bool b)) => match T.ti t with
    | some i => match i.k, op with
      | .bool, .eql => K (.c (.d (.bool (a == b))))
      | .bool, .neq => K (.c (.d (.bool (!(a == b)))))
      | _, _ => False
    | none => False
  | x, y => match T.ti t with
    | some i => bif isNilConst y i.k then nBin op i.k x cst K else False
    | none => False

theorem toList_eq (a b : ByteArray) : (a.toList == b.toList) = decide (a = b) := by
  by_cases h : a = b
  · subst h; simp
  · rw [decide_eq_false h]
    rw [beq_eq_false_iff_ne]
    intro e
    rw [Lib.toList_data, Lib.toList_data] at e
    apply h
    cases a; cases b
    simp at e
    exact congrArg ByteArray.mk (by simpa using e)

theorem run_iBin {k : IntKind} {a b : Int} {op : BinOp} {t : Nat} {w : World} {C : Cz} {K : Val → Prop} (hk : iBin op k a b K) :
    ∃ v x, (binOp op t (.int k a) (.int k b)).run P w = .ok v w ∧ K x ∧ RepV w C v x := by
  unfold iBin at hk
  split at hk
  case h_4 => obtain ⟨h0, hk⟩ := hk; exact ⟨_, _, by simp [binOp, Op.intDiv, h0], hk, .c _ _ (.d _ _ (.int _ _))⟩
  case h_5 => obtain ⟨h0, hk⟩ := hk; exact ⟨_, _, by simp [binOp, Op.intDiv, h0], hk, .c _ _ (.d _ _ (.int _ _))⟩
  case h_1 => exact ⟨_, _, by simp [binOp, Op.intArith], hk, .c _ _ (.d _ _ (.int _ _))⟩
  case h_2 => exact ⟨_, _, by simp [binOp, Op.intArith], hk, .c _ _ (.d _ _ (.int _ _))⟩
  case h_3 => exact ⟨_, _, by simp [binOp, Op.intArith], hk, .c _ _ (.d _ _ (.int _ _))⟩
  case h_12 => exact hk.elim
  all_goals exact ⟨_, _, by simp [binOp, Op.intCmp], hk, .c _ _ (.d _ _ (.bool _))⟩

theorem run_sBin {a b : ByteArray} {op : BinOp} {t : Nat} {w : World} {C : Cz} {K : Val → Prop} (hk : sBin op a b K) :
    ∃ v x, (binOp op t (.string a) (.string b)).run P w = .ok v w ∧ K x ∧ RepV w C v x := by
  unfold sBin at hk
  split at hk
  case h_1 =>
    obtain ⟨h0, hk⟩ := hk
    have : ¬ (IntKind.i64.max : Int) < ((a.size + b.size : Nat) : Int) := by
      have : (IntKind.i64.max : Int) = 9223372036854775807 := by decide
      rw [this]; omega
    refine ⟨.string (a ++ b), _, ?_, hk, .c _ _ (.d _ _ (.str _))⟩
    simp only [binOp, Op.stringOp]
    rw [if_neg this]; rfl
  case h_8 => exact hk.elim
  all_goals exact ⟨_, _, by simp only [binOp, Op.stringOp, toList_eq]; rfl, hk, .c _ _ (.d _ _ (.bool _))⟩

theorem eq_sl {t e : Nat} (h2 : P.underlying t = some (.slice e)) (w : World) (n : Nat) (A : Option Addr) (m c : Nat) : (Op.equalIn (n + 1) t (.slice A m c) (.slice none 0 0)).run P w = .ok A.isNone w := by
  unfold Op.equalIn
  simp only [Sem.run_bind, run_underlying h2 w, Result.andThen_ok]
  cases A <;> rfl
theorem eq_ptr {t e : Nat} (h2 : P.underlying t = some (.pointer e)) (w : World) (n : Nat) (A : Option Addr) : (Op.equalIn (n + 1) t (.pointer A) (.pointer none)).run P w = .ok A.isNone w := by
  unfold Op.equalIn
  simp only [Sem.run_bind, run_underlying h2 w, Result.andThen_ok]
  cases A <;> rfl
theorem eq_if0 {t : Nat} {ms} (h2 : P.underlying t = some (.interface ms)) (w : World) (n : Nat) : (Op.equalIn (n + 1) t .nilIface .nilIface).run P w = .ok true w := by
  unfold Op.equalIn
  simp only [Sem.run_bind, run_underlying h2 w, Result.andThen_ok]
  rfl
theorem eq_if1 {t : Nat} {ms} (h2 : P.underlying t = some (.interface ms)) (w : World) (n : Nat) (q : TypeId) (v : Value) : (Op.equalIn (n + 1) t (.iface q v) .nilIface).run P w = .ok false w := by
  unfold Op.equalIn
  simp only [Sem.run_bind, run_underlying h2 w, Result.andThen_ok]
  rfl
theorem eq_fn0 {t : Nat} {p r} {va : Bool} (h2 : P.underlying t = some (.func p r va)) (w : World) (n : Nat) : (Op.equalIn (n + 1) t .nilFunc .nilFunc).run P w = .ok true w := by
  unfold Op.equalIn
  simp only [Sem.run_bind, run_underlying h2 w, Result.andThen_ok]
  rfl
theorem eq_fn1 {t : Nat} {p r} {va : Bool} (h2 : P.underlying t = some (.func p r va)) (w : World) (n : Nat) (f : Fn) (x y : Array Value) : (Op.equalIn (n + 1) t (.func f x y) .nilFunc).run P w = .ok false w := by
  unfold Op.equalIn
  simp only [Sem.run_bind, run_underlying h2 w, Result.andThen_ok]
  rfl
theorem eq_bool {t : Nat} (h2 : P.underlying t = some .bool) (w : World) (n : Nat) (a b : Bool) : (Op.equalIn (n + 1) t (.bool a) (.bool b)).run P w = .ok (a == b) w := by
  unfold Op.equalIn
  simp only [Sem.run_bind, run_underlying h2 w, Result.andThen_ok]
  rfl

theorem c_of {w : World} {C : Cz} {v : Value} {a : AV} (h : RepV w C v (.c a)) : RepA w C v a := by
  cases h with
  | c _ _ h => exact h

theorem run_equal_nil {t : Nat} {i : TI} {d : TypeDesc} (h2 : P.underlying t = some d) (h3 : kindOk i.k d = true) {w : World} {C : Cz} {u v : Value} {x y : Val} (hx : RepV w C u x) (hy : RepV w C v y)
    (hf : fitsK x i.k = true) (hc : isNilConst y i.k = true) {b : Bool} (hn : nilOf x = some b) (n : Nat) : (Op.equalIn (n + 1) t u v).run P w = .ok b w := by
  unfold isNilConst at hc
  split at hc
  case h_5 => cases hc
  case h_1 e hik =>
    rw [hik] at h3 hf
    have := kind_sl h3
    subst this
    have hd := repA_d (c_of hy)
    cases hd
    unfold fitsK at hf
    split at hf <;> first | (cases hf; done) | skip
    all_goals (try (rename_i hh; cases hh; done))
    · have hd := repA_d (c_of hx)
      cases hd
      cases hn
      exact eq_sl h2 w n none 0 0
    · rename_i rows' _ _
      have hd := repA_d (c_of hx)
      cases hd with
      | sl0 => simp [nilOf] at hn
      | sl r sz b o m c _ cs e fz vs hr hh hm hc hsz hcell hrep =>
        cases rows' with
        | nil => simp [nilOf] at hn
        | cons r rs =>
          cases hn
          exact eq_sl h2 w n _ _ _
  case h_2 hik =>
    rw [hik] at h3 hf
    obtain ⟨e, rfl⟩ : ∃ e, d = .pointer e := by cases d <;> first | (cases h3; done) | exact ⟨_, rfl⟩
    have hd := repA_d (c_of hy)
    cases hd
    unfold fitsK at hf
    split at hf <;> first | (cases hf; done) | skip
    all_goals (try (rename_i hh; cases hh; done))
    · have hd := repA_d (c_of hx)
      cases hd; cases hn; exact eq_ptr h2 w n none
    · have hd := c_of hx
      cases hd; cases hn; exact eq_ptr h2 w n (some _)
    · have hd := c_of hx
      cases hd; cases hn; exact eq_ptr h2 w n (some _)
    · have hd := repA_d (c_of hx)
      cases hd; cases hn; exact eq_ptr h2 w n (some _)
  case h_3 hik =>
    rw [hik] at h3 hf
    obtain ⟨e, rfl⟩ : ∃ e, d = .interface e := by cases d <;> first | (cases h3; done) | exact ⟨_, rfl⟩
    have hd := repA_d (c_of hy)
    cases hd
    unfold fitsK at hf
    split at hf <;> first | (cases hf; done) | skip
    all_goals (try (rename_i hh; cases hh; done))
    · have hd := repA_d (c_of hx)
      cases hd; cases hn; exact eq_if0 h2 w n
    · have hd := repA_d (c_of hx)
      cases hd; cases hn; exact eq_if1 h2 w n _ _
    · have hd := repA_d (c_of hx)
      cases hd; cases hn; exact eq_if1 h2 w n _ _
    · have hd := c_of hx
      cases hd; cases hn; exact eq_if1 h2 w n _ _
    · have hd := c_of hx
      cases hd; cases hn; exact eq_if1 h2 w n _ _
  case h_4 hik =>
    rw [hik] at h3 hf
    obtain ⟨p, r, va, rfl⟩ : ∃ p r va, d = .func p r va := by cases d <;> first | (cases h3; done) | exact ⟨_, _, _, rfl⟩
    have hd := repA_d (c_of hy)
    cases hd
    unfold fitsK at hf
    split at hf <;> first | (cases hf; done) | skip
    all_goals (try (rename_i hh; cases hh; done))
    · have hd := repA_d (c_of hx)
      cases hd; cases hn; exact eq_fn0 h2 w n
    · have hd := c_of hx
      cases hd; cases hn; exact eq_fn1 h2 w n _ _ _

def isC : Operand → Bool
  | .const _ => true
  | _ => false

theorem guard_not (op : BinOp) (t : Nat) (X Y : Operand) (a b : Value) (w : World) (h1 : ¬ (a = .nilIface ∧ b = .nilIface)) (h2 : ¬ ∃ x y, a = .agg x ∧ b = .agg y) : (eqGuard op t X Y a b).run P w = .ok () w := by
  unfold eqGuard
  cases op <;> first
    | rfl
    | (cases a <;> cases b <;> first | (exact absurd ⟨rfl, rfl⟩ h1) | (exact absurd ⟨_, _, rfl, rfl⟩ h2) | rfl)

theorem guard_nil (op : BinOp) (t : Nat) (X Y : Operand) (w : World) (h : (isC X || isC Y) = true) : (eqGuard op t X Y .nilIface .nilIface).run P w = .ok () w := by
  unfold eqGuard
  cases X <;> cases Y <;> simp [isC] at h <;> cases op <;> rfl

include HT in
theorem ok_bin {w : World} {C : Cz} {σ : List AObj} (hI : Inv w C σ) {op : BinOp} {t : Nat} {X Y : Operand} {u v : Value} {x y : Val} (hx : RepV w C u x) (hy : RepV w C v y) {K : Val → List AObj → Prop}
    (hk : aBin T op t x y (isC X || isC Y) (fun z => K z σ)) : OK1 P (do eqGuard op t X Y u v; binOp op t u v) w C σ K := by
  have fin : ∀ (hg : (eqGuard op t X Y u v).run P w = .ok () w) (h : ∃ r z, (binOp op t u v).run P w = .ok r w ∧ K z σ ∧ RepV w C r z), OK1 P (do eqGuard op t X Y u v; binOp op t u v) w C σ K := by
    rintro hg ⟨r, z, h1, h2, h3⟩
    exact OK1.same hI (by rw [Sem.run_bind, hg]; exact h1) h2 h3
  unfold aBin at hk
  split at hk
  · rename_i k a k' b
    cases hn : ikEq k k' with
    | false => rw [hn] at hk; exact hk.elim
    | true =>
    rw [hn] at hk
    have := ikEq_eq hn
    subst this
    have h1 := int_of hx
    have h2 := int_of hy
    subst h1; subst h2
    exact fin (guard_not _ _ _ _ _ _ _ (by simp) (by simp)) (run_iBin hk)
  · have h1 := str_of hx
    have h2 := str_of hy
    subst h1; subst h2
    exact fin (guard_not _ _ _ _ _ _ _ (by simp) (by simp)) (run_sBin hk)
  · rename_i a b
    have e1 := bool_of hx
    have e2 := bool_of hy
    subst e1; subst e2
    split at hk
    · rename_i i hi
      obtain ⟨info, d, z, h1, h2, h3, h4, h6, h7, h8, h9, h10, h11, h12⟩ := ti_parts (HT.ti t i hi)
      split at hk
      · rename_i hik
        rw [hik] at h3
        obtain rfl : d = .bool := by cases d <;> first | (cases h3; done) | rfl
        refine fin (guard_not _ _ _ _ _ _ _ (by simp) (by simp)) ⟨.bool (a == b), _, ?_, hk, .c _ _ (.d _ _ (.bool _))⟩
        have := eq_bool h2 w 9999 a b
        simp only [binOp, Sem.run_bind]
        show (((Op.equalIn (9999 + 1) t (.bool a) (.bool b)).run P w).andThen _) = _
        rw [this]; rfl
      · rename_i hik
        rw [hik] at h3
        obtain rfl : d = .bool := by cases d <;> first | (cases h3; done) | rfl
        refine fin (guard_not _ _ _ _ _ _ _ (by simp) (by simp)) ⟨.bool (!(a == b)), _, ?_, hk, .c _ _ (.d _ _ (.bool _))⟩
        have := eq_bool h2 w 9999 a b
        simp only [binOp, Sem.run_bind]
        show (((Op.equalIn (9999 + 1) t (.bool a) (.bool b)).run P w).andThen _) = _
        rw [this]; rfl
      · exact hk.elim
    · exact hk.elim
  · split at hk
    · rename_i i hi
      obtain ⟨info, d, z, h1, h2, h3, h4, h6, h7, h8, h9, h10, h11, h12⟩ := ti_parts (HT.ti t i hi)
      cases hn : isNilConst y i.k with
      | false => rw [hn] at hk; exact hk.elim
      | true =>
      rw [hn] at hk
      simp only [cond_true] at hk
      unfold nBin at hk
      cases hc : (isC X || isC Y) && fitsK x i.k with
      | false => rw [hc] at hk; exact hk.elim
      | true =>
      rw [hc] at hk
      simp only [cond_true] at hk
      simp only [Bool.and_eq_true] at hc
      obtain ⟨hc, hf⟩ := hc
      split at hk
      · rename_i b hb
        have heq := run_equal_nil h2 h3 hx hy hf hn hb 9999
        have hyv : v = .slice none 0 0 ∨ v = .pointer none ∨ v = .nilIface ∨ v = .nilFunc := by
          unfold isNilConst at hn
          split at hn
          case h_5 => cases hn
          all_goals
            have hd := repA_d (c_of hy)
            cases hd
            simp
        have hg : (eqGuard op t X Y u v).run P w = .ok () w := by
          by_cases hu : u = .nilIface ∧ v = .nilIface
          · obtain ⟨rfl, rfl⟩ := hu
            exact guard_nil op t X Y w hc
          · exact guard_not _ _ _ _ _ _ _ hu (by rintro ⟨p, q, _, rfl⟩; simp at hyv)
        have hbe : (binOp .eql t u v) = (do pure (.bool (← Op.equal t u v))) := by
          rcases hyv with rfl | rfl | rfl | rfl <;> cases u <;> rfl
        have hbn : (binOp .neq t u v) = (do pure (.bool (!(← Op.equal t u v)))) := by
          rcases hyv with rfl | rfl | rfl | rfl <;> cases u <;> rfl
        split at hk
        · refine fin hg ⟨.bool b, _, ?_, hk, .c _ _ (.d _ _ (.bool _))⟩
          rw [hbe, Sem.run_bind]
          show (((Op.equalIn (9999 + 1) t u v).run P w).andThen _) = _
          rw [heq]; rfl
        · refine fin hg ⟨.bool (!b), _, ?_, hk, .c _ _ (.d _ _ (.bool _))⟩
          rw [hbn, Sem.run_bind]
          show (((Op.equalIn (9999 + 1) t u v).run P w).andThen _) = _
          rw [heq]; rfl
        · exact hk.elim
      · exact hk.elim
    · exact hk.elim

end
end Go.Proofs.Ytdhkopangbgehaa.E
