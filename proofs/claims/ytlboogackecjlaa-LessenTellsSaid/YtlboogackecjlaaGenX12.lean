/- Texts, merged: Rw1, Cp1. No conditions. -/
import Derived.Test.YtlboogackecjlaaGenX11
import Derived.Test.YtlboogackecjlaaEngX3
/- Types and terms under other tags. No conditions. -/
set_option linter.unusedVariables false
set_option linter.unusedSimpArgs false
namespace Go.Proofs.Ytlboogackecjlaa.E
open Go

inductive RtC (c : Nat) : List DV → List DV → Prop where
  | nil : RtC c [] []
  | cons {x y : DV} {l m : List DV} (h : Rt c x y) (t : RtC c l m) : RtC c (x :: l) (y :: m)
inductive RtR (c : Nat) : List (List DV) → List (List DV) → Prop where
  | nil : RtR c [] []
  | cons {x y : List DV} {l m : List (List DV)} (h : RtC c x y) (t : RtR c l m) : RtR c (x :: l) (y :: m)
theorem RtC.get {c : Nat} {l m : List DV} (h : RtC c l m) : l.length = m.length ∧ ∀ (i : Nat) x y, l[i]? = some x → m[i]? = some y → Rt c x y := by
  induction h with
  | nil => exact ⟨rfl, fun i x y h => by simp at h⟩
  | cons h t ih => exact ⟨by simp [ih.1], fun i x y hx hy => by
      cases i with
      | zero => simp at hx hy; subst hx; subst hy; exact h
      | succ i => exact ih.2 i x y (by simpa using hx) (by simpa using hy)⟩
theorem RtR.get {c : Nat} {l m : List (List DV)} (h : RtR c l m) : l.length = m.length ∧ ∀ (j : Nat) x y, l[j]? = some x → m[j]? = some y → RtC c x y := by
  induction h with
  | nil => exact ⟨rfl, fun i x y h => by simp at h⟩
  | cons h t ih => exact ⟨by simp [ih.1], fun i x y hx hy => by
      cases i with
      | zero => simp at hx hy; subst hx; subst hy; exact h
      | succ i => exact ih.2 i x y (by simpa using hx) (by simpa using hy)⟩
theorem RtR.sl {c r sz : Nat} {l m : List (List DV)} (h : RtR c l m) : Rt c (.sl r sz l) (.sl c sz m) :=
  .sl r sz l m h.get.1 (fun j x y hx hy => (h.get.2 j x y hx hy).get.1) (fun j i x y u v hx hy hu hv => (h.get.2 j x y hx hy).get.2 i u v hu hv)
theorem RtC.rp {c r : Nat} {l m : List DV} (h : RtC c l m) : Rt c (.rp r l) (.rp c m) := .rp r l m h.get.1 h.get.2
theorem RtC.agg {c : Nat} {l m : List DV} (h : RtC c l m) : RtV c (.agg (l.map .d)) (.agg (m.map .d)) := .agg l m h.get.1 h.get.2
theorem RtC.append {c : Nat} {l m l' m' : List DV} (h : RtC c l m) (g : RtC c l' m') : RtC c (l ++ l') (m ++ m') := by
  induction h with
  | nil => exact g
  | cons h t ih => exact .cons h ih
theorem RtV.bool {c : Nat} (b : Bool) : RtV c (.c (.d (.bool b))) (.c (.d (.bool b))) := .c _ _ (.bool b)
theorem RtV.int {c : Nat} (k : IntKind) (n : Int) : RtV c (.c (.d (.int k n))) (.c (.d (.int k n))) := .c _ _ (.int k n)
theorem RtV.str {c : Nat} (s : ByteArray) : RtV c (.c (.d (.str s))) (.c (.d (.str s))) := .c _ _ (.str s)
inductive RtVL (c : Nat) : List Val → List Val → Prop where
  | nil : RtVL c [] []
  | cons {x y : Val} {l m : List Val} (h : RtV c x y) (t : RtVL c l m) : RtVL c (x :: l) (y :: m)
theorem RtVL.tup {c : Nat} {l m : List Val} (h : RtVL c l m) : RtV c (.tup l) (.tup m) := by
  have : l.length = m.length ∧ ∀ (i : Nat) x y, l[i]? = some x → m[i]? = some y → RtV c x y := by
    induction h with
    | nil => exact ⟨rfl, fun i x y h => by simp at h⟩
    | cons h t ih => exact ⟨by simp [ih.1], fun i x y hx hy => by
        cases i with
        | zero => simp at hx hy; subst hx; subst hy; exact h
        | succ i => exact ih.2 i x y (by simpa using hx) (by simpa using hy)⟩
  exact .tup l m this.1 this.2

mutual
def Ty.cellsR (r : Nat) : Ty → List DV
  | .node k ks => [.int .i8 k, .sl r 2 (Ty.rowsR r ks)]
def Ty.rowsR (r : Nat) : List Ty → List (List DV)
  | [] => []
  | t :: l => Ty.cellsR r t :: Ty.rowsR r l
end
def Ty.valR (r : Nat) (t : Ty) : Val := .agg ((t.cellsR r).map .d)
mutual
/-- A term's cells: p for its types, q for its kids. -/
def Tm.cellsR (p q : Nat) : Tm → List DV
  | .node k name arg num tk tks uk uks label place ks => [.int .i8 k, .str name, .str arg, .int .i64 num, .int .i8 tk, .sl p 2 (Ty.rowsR p tks), .int .i8 uk, .sl p 2 (Ty.rowsR p uks), .int .i64 label, .int .i64 place, .sl q 11 (Tm.rowsR p q ks)]
def Tm.rowsR (p q : Nat) : List Tm → List (List DV)
  | [] => []
  | t :: l => Tm.cellsR p q t :: Tm.rowsR p q l
end
def Tm.valR (p q : Nat) (t : Tm) : Val := .agg ((t.cellsR p q).map .d)
theorem tyrowsR_len (r : Nat) : ∀ l : List Ty, (Ty.rowsR r l).length = l.length
  | [] => rfl
  | t :: l => by simp [Ty.rowsR, tyrowsR_len r l]
theorem tyrowsR_get (r : Nat) : ∀ (l : List Ty) (i : Nat) row, (Ty.rowsR r l)[i]? = some row → ∃ t, l[i]? = some t ∧ row = t.cellsR r
  | [], i, row, h => by simp [Ty.rowsR] at h
  | t :: l, 0, row, h => by simp [Ty.rowsR] at h; exact ⟨t, rfl, h.symm⟩
  | t :: l, i + 1, row, h => by
    simp only [Ty.rowsR, List.getElem?_cons_succ] at h ⊢
    exact tyrowsR_get r l i row h
theorem tyrowsR_map (r : Nat) : ∀ l : List Ty, Ty.rowsR r l = l.map (Ty.cellsR r)
  | [] => rfl
  | t :: l => by rw [Ty.rowsR, tyrowsR_map r l]; rfl
theorem tmrowsR_len (p q : Nat) : ∀ l : List Tm, (Tm.rowsR p q l).length = l.length
  | [] => rfl
  | t :: l => by simp [Tm.rowsR, tmrowsR_len p q l]
theorem tmrowsR_get (p q : Nat) : ∀ (l : List Tm) (i : Nat) row, (Tm.rowsR p q l)[i]? = some row → ∃ t, l[i]? = some t ∧ row = t.cellsR p q
  | [], i, row, h => by simp [Tm.rowsR] at h
  | t :: l, 0, row, h => by simp [Tm.rowsR] at h; exact ⟨t, rfl, h.symm⟩
  | t :: l, i + 1, row, h => by
    simp only [Tm.rowsR, List.getElem?_cons_succ] at h ⊢
    exact tmrowsR_get p q l i row h
theorem tmrowsR_map (p q : Nat) : ∀ l : List Tm, Tm.rowsR p q l = l.map (Tm.cellsR p q)
  | [] => rfl
  | t :: l => by rw [Tm.rowsR, tmrowsR_map p q l]; rfl
mutual
theorem ty_R0 : (t : Ty) → t.cellsR 0 = t.cells
  | .node k ks => by rw [Ty.cellsR, tys_R0 ks]; rfl
theorem tys_R0 : (l : List Ty) → Ty.rowsR 0 l = Ty.rows l
  | [] => rfl
  | t :: l => by rw [Ty.rowsR, Ty.rows, ty_R0 t, tys_R0 l]
end
mutual
theorem tm_R0 : (t : Tm) → t.cellsR 0 0 = t.cells
  | .node k name arg num tk tks uk uks label place ks => by rw [Tm.cellsR, tys_R0, tys_R0, tms_R0 ks]; rfl
theorem tms_R0 : (l : List Tm) → Tm.rowsR 0 0 l = Tm.rows l
  | [] => rfl
  | t :: l => by rw [Tm.rowsR, Tm.rows, tm_R0 t, tms_R0 l]
end
mutual
theorem ty_rt (r c : Nat) : (t : Ty) → RtC c (t.cellsR r) (t.cellsR c)
  | .node k ks => by rw [Ty.cellsR, Ty.cellsR]; exact .cons (.int _ _) (.cons (tys_rt r c ks).sl .nil)
theorem tys_rt (r c : Nat) : (l : List Ty) → RtR c (Ty.rowsR r l) (Ty.rowsR c l)
  | [] => by rw [Ty.rowsR, Ty.rowsR]; exact .nil
  | t :: l => by rw [Ty.rowsR, Ty.rowsR]; exact .cons (ty_rt r c t) (tys_rt r c l)
end
mutual
theorem tm_rt (p q c : Nat) : (t : Tm) → RtC c (t.cellsR p q) (t.cellsR c c)
  | .node k name arg num tk tks uk uks label place ks => by
    rw [Tm.cellsR, Tm.cellsR]
    exact .cons (.int _ _) (.cons (.str _) (.cons (.str _) (.cons (.int _ _) (.cons (.int _ _) (.cons (tys_rt p c tks).sl (.cons (.int _ _) (.cons (tys_rt p c uks).sl (.cons (.int _ _) (.cons (.int _ _) (.cons (tms_rt p q c ks).sl .nil))))))))))
theorem tms_rt (p q c : Nat) : (l : List Tm) → RtR c (Tm.rowsR p q l) (Tm.rowsR c c l)
  | [] => by rw [Tm.rowsR, Tm.rowsR]; exact .nil
  | t :: l => by rw [Tm.rowsR, Tm.rowsR]; exact .cons (tm_rt p q c t) (tms_rt p q c l)
end
theorem tm_rtV (p q c : Nat) (t : Tm) : RtV c (t.valR p q) (t.valR c c) := (tm_rt p q c t).agg
theorem tm_V0 (t : Tm) : t.valR 0 0 = t.val := by rw [Tm.valR, tm_R0]; rfl

/-! ### From read only to written over -/
theorem th_rows {c : Bool} : ∀ {rows rows' : List (List DV)}, rows.length = rows'.length → (∀ (j : Nat) row row', rows[j]? = some row → rows'[j]? = some row' → row.length = row'.length ∧ ∀ (i : Nat) x y, row[i]? = some x → row'[i]? = some y → Th x y) → Th (.sl (if c then 4 else 1) (wsz c) rows) (.wsl c rows') := fun hl h =>
  .w c _ _ hl (fun j row row' h1 h2 => (h j row row' h1 h2).1) (fun j i row row' x y h1 h2 h3 h4 => (h j row row' h1 h2).2 i x y h3 h4)
theorem th_int (k : IntKind) (n : Int) : Th (.int k n) (.int k n) := .keep0 _ (.int k n)
theorem th_str (s : ByteArray) : Th (.str s) (.str s) := .keep0 _ (.str s)
def ThCells (l m : List DV) : Prop := l.length = m.length ∧ ∀ (i : Nat) x y, l[i]? = some x → m[i]? = some y → Th x y
theorem ThCells.nil : ThCells [] [] := ⟨rfl, fun i x y h => by simp at h⟩
theorem ThCells.cons {x y : DV} {l m : List DV} (h : Th x y) (t : ThCells l m) : ThCells (x :: l) (y :: m) := ⟨by simp [t.1], fun i u v hu hv => by
  cases i with
  | zero => simp at hu hv; subst hu; subst hv; exact h
  | succ i => exact t.2 i u v (by simpa using hu) (by simpa using hv)⟩
mutual
theorem ty_th : (t : Ty) → ThCells (t.cellsR 1) t.cellsW
  | .node k ks => by
    rw [Ty.cellsR, Ty.cellsW]
    exact .cons (th_int _ _) (.cons (th_rows (c := false) (by rw [tyrowsR_len, tyrowsW_len]) (tys_th ks)) .nil)
theorem tys_th : (l : List Ty) → ∀ (j : Nat) row row', (Ty.rowsR 1 l)[j]? = some row → (Ty.rowsW l)[j]? = some row' → ThCells row row'
  | [] => fun j row row' h => by rw [Ty.rowsR] at h; simp at h
  | t :: l => fun j row row' h h' => by
    rw [Ty.rowsR] at h
    rw [Ty.rowsW] at h'
    match j with
    | 0 => simp at h h'; subst h; subst h'; exact ty_th t
    | j + 1 => exact tys_th l j row row' (by simpa using h) (by simpa using h')
end
mutual
theorem tm_th : (t : Tm) → ThCells (t.cellsR 1 4) t.cellsW
  | .node k name arg num tk tks uk uks label place ks => by
    rw [Tm.cellsR, Tm.cellsW]
    exact .cons (th_int _ _) (.cons (th_str _) (.cons (th_str _) (.cons (th_int _ _) (.cons (th_int _ _) (.cons (th_rows (c := false) (by rw [tyrowsR_len, tyrowsW_len]) (tys_th tks)) (.cons (th_int _ _) (.cons (th_rows (c := false) (by rw [tyrowsR_len, tyrowsW_len]) (tys_th uks))
      (.cons (th_int _ _) (.cons (th_int _ _) (.cons (th_rows (c := true) (by rw [tmrowsR_len, tmrowsW_len]) (tms_th ks)) .nil))))))))))
theorem tms_th : (l : List Tm) → ∀ (j : Nat) row row', (Tm.rowsR 1 4 l)[j]? = some row → (Tm.rowsW l)[j]? = some row' → ThCells row row'
  | [] => fun j row row' h => by rw [Tm.rowsR] at h; simp at h
  | t :: l => fun j row row' h h' => by
    rw [Tm.rowsR] at h
    rw [Tm.rowsW] at h'
    match j with
    | 0 => simp at h h'; subst h; subst h'; exact tm_th t
    | j + 1 => exact tms_th l j row row' (by simpa using h) (by simpa using h')
end
end Go.Proofs.Ytlboogackecjlaa.E

/- Copies of types and terms, in blocks of their own. No conditions. -/
set_option linter.unusedVariables false
set_option linter.unusedSimpArgs false
namespace Go.Proofs.Ytlboogackecjlaa.E
open Go
def oTCp1_38_3 : OT := (.op 0 (.op 1 (.op 2 (.op 3 (.op 4 (.op 5 (.alt (.op 6 (.op 7 (.op 8 (.op 9 .nil)))) (.op 8 (.op 6 (.op 7 (.op 9 .nil)))))))))))

theorem tyrowsR_app (r : Nat) (l : List Ty) (t : Ty) : Ty.rowsR r (l ++ [t]) = Ty.rowsR r l ++ [t.cellsR r] := by rw [tyrowsR_map, tyrowsR_map, List.map_append]; rfl
theorem tmrowsR_app (p q : Nat) (l : List Tm) (t : Tm) : Tm.rowsR p q (l ++ [t]) = Tm.rowsR p q l ++ [t.cellsR p q] := by rw [tmrowsR_map, tmrowsR_map, List.map_append]; rfl
set_option maxRecDepth 10000 in
set_option maxHeartbeats 1000000 in
theorem copiedTy_call (a : Ty) : TyOk a → ACall Try.prog 38 [a.val] [] (fun o σ => o = .ret (a.valR 1) ∧ σ = []) := by
  induction a using Ty.ind with
  | _ k ks ih =>
  rintro (⟨hlen, hks⟩)
  by_cases h0 : ks = []
  · subst h0
    refine ACall.body tab_ok (ρ := 1) (N := 39) Try.func38 rfl rfl rfl rfl rfl ?_
    repeat' first | refine AW.seq ?_ | refine AW.block ?_ | (refine (id : AW _ _ _ (.region 3 _ true) _ _ → _) ?_; refine AW.drawT (id := 3) tab_ok mixed [0, 1, 2, 3, 4, 5, 6, 7, 8, 9] oTCp1_38_3 (by kernel_rfl) ?_; conv => whnf) | (refine (id : AW _ _ _ (.region 7 _ true) _ _ → _) ?_; refine AW.draw (id := 7) tab_ok mixed [0, 1, 2, 3, 4, 5, 6, 7, 8, 9, 10, 11] (by kernel_rfl) ?_; conv => whnf) | (refine Fork.mk ?_ ?_ <;> conv => whnf) | ((first | refine AW.region tab_ok ?_ | refine AW.cond ?_ | refine AW.skip ?_ | refine AW.ret ?_ | refine AW.exit ?_); conv => whnf) | ((first | refine And.intro (@rfl Val _) ?_ | refine And.intro (by decide) ?_ | refine cs (fun _ => ?_) (fun _ => ?_)) <;> conv => whnf)
    all_goals exact ⟨rfl, rfl⟩
  have hpos : 0 < ks.length := List.length_pos_iff.2 h0
  have hw : IntKind.i64.wrap (((Ty.rows ks).length : Int) + 1) = (ks.length : Int) + 1 := by rw [rows_length, wrap64 (by omega) (by omega)]
  refine ACall.body tab_ok (ρ := 1) (N := 39) Try.func38 rfl rfl rfl rfl rfl ?_
  repeat' first | ((refine Or.inl ?_; refine FitsX.mk ⟨?_, rfl, rfl, ⟨[], rfl⟩, rfl⟩ rfl; repeat' (first | exact rfl | exact trivial | refine ⟨rfl, ?_⟩); done)) | ((refine Or.inr ?_; refine FitsX.mk ⟨?_, rfl, rfl, ⟨[], rfl⟩, rfl⟩ rfl; repeat' (first | exact rfl | exact trivial | refine ⟨rfl, ?_⟩); done)) | ((refine (id : AW _ _ _ (.seq (.region 3 _ true) _) _ _ → _) ?_; refine AW.cut2 ⟨39, [(1, .c (.ptr 0 0)), (2, .c (.ptr 1 0)), (3, .c (.ptr 3 0))], [.var [.d (.int .i8 k), .d (.sl 0 2 (Ty.rows ks))], .var [.d (.int .i8 0), .d .nils], .row 25 2 ([]), .var [.d (.int .i8 k), .own 2 0]], []⟩ ⟨39, [(1, .c (.ptr 0 0)), (2, .c (.ptr 1 0)), (3, .c (.ptr 2 0))], [.var [.d (.int .i8 k), .d (.sl 0 2 (Ty.rows ks))], .var [.d (.int .i8 0), .d .nils], .var [.d (.int .i8 k), .own 3 0], .row 25 2 ([])], []⟩ ?_ ?_ ?_; rotate_left; rotate_left)) | ((refine And.intro ⟨by decide, by rw [hw]; omega, by rw [hw]; show (32:Int) * _ ≤ _; omega, by rw [hw]; omega⟩ ?_; conv => whnf)) | refine AW.seq ?_ | refine AW.block ?_ | (refine (id : AW _ _ _ (.region 3 _ true) _ _ → _) ?_; refine AW.drawT (id := 3) tab_ok mixed [0, 1, 2, 3, 4, 5, 6, 7, 8, 9] oTCp1_38_3 (by kernel_rfl) ?_; conv => whnf) | (refine (id : AW _ _ _ (.region 7 _ true) _ _ → _) ?_; refine AW.draw (id := 7) tab_ok mixed [0, 1, 2, 3, 4, 5, 6, 7, 8, 9, 10, 11] (by kernel_rfl) ?_; conv => whnf) | (refine Fork.mk ?_ ?_ <;> conv => whnf) | ((first | refine AW.region tab_ok ?_ | refine AW.cond ?_ | refine AW.skip ?_ | refine AW.ret ?_ | refine AW.exit ?_); conv => whnf) | ((first | refine And.intro (@rfl Val _) ?_ | refine And.intro (by decide) ?_ | refine cs (fun _ => ?_) (fun _ => ?_)) <;> conv => whnf)
  all_goals try exact trivial
  · rename_i g
    exfalso
    rw [rows_length] at g
    have g : ((ks.length : Nat) : Int) = 0 := by simpa using g
    omega
  · skip
    refine AW.loop (ι := IdxI ks) (fun x => ⟨39, [(4, .c (.d (.int .i64 x.i))), (1, .c (.ptr 0 0)), (2, .c (.ptr 1 0)), (3, .c (.ptr 2 0))], [.var [.d (.int .i8 k), .d (.sl 0 2 (Ty.rows ks))], .var [.d (.int .i8 0), .d .nils], .var [.d (.int .i8 k), .own 3 (Ty.rowsR 1 (ks.take x.i)).length], .row 25 2 (Ty.rowsR 1 (ks.take x.i))], []⟩)
      (fun x => ks.length - x.i) ⟨0, Nat.zero_le _⟩ 4 (fun _ => rfl) (Nat.le_of_ble_eq_true rfl) ⟨⟨rfl, rfl, rfl, rfl, trivial⟩, rfl, rfl, ⟨[], rfl⟩, rfl⟩ (fun x => ?_)
    obtain ⟨i, hi⟩ := x
    repeat' first | refine AW.seq ?_ | refine AW.block ?_ | (refine (id : AW _ _ _ (.region 3 _ true) _ _ → _) ?_; refine AW.drawT (id := 3) tab_ok mixed [0, 1, 2, 3, 4, 5, 6, 7, 8, 9] oTCp1_38_3 (by kernel_rfl) ?_; conv => whnf) | (refine (id : AW _ _ _ (.region 7 _ true) _ _ → _) ?_; refine AW.draw (id := 7) tab_ok mixed [0, 1, 2, 3, 4, 5, 6, 7, 8, 9, 10, 11] (by kernel_rfl) ?_; conv => whnf) | (refine Fork.mk ?_ ?_ <;> conv => whnf) | ((first | refine AW.region tab_ok ?_ | refine AW.cond ?_ | refine AW.skip ?_ | refine AW.ret ?_ | refine AW.exit ?_); conv => whnf) | ((first | refine And.intro (@rfl Val _) ?_ | refine And.intro (by decide) ?_ | refine cs (fun _ => ?_) (fun _ => ?_)) <;> conv => whnf)
    · rename_i h1
      simp only [rows_length] at h1
      have h1 := of_decide_eq_true h1
      try simp only at h1
      have hlt : i < ks.length := by omega
      obtain ⟨x, ht⟩ : ∃ x, ks[i]? = some x := ⟨_, List.getElem?_eq_getElem hlt⟩
      have f1 : (0 : Int) ≤ (i : Int) ∧ (i : Int) < ((Ty.rows ks).length : Nat) := by rw [rows_length]; omega
      have e1 : ∀ row, (Ty.rows ks)[((i : Nat) : Int).toNat]? = some row → x.cells = row := fun row h => by
        obtain ⟨y, hy, rfl⟩ := rows_get ks i row (by simpa using h)
        rw [ht] at hy; cases hy; rfl
      have hm := List.mem_of_getElem? ht
      have hc := ih x hm (hks x hm)
      have hmt : ks.take (i + 1) = ks.take i ++ [x] := by rw [List.take_add_one, ht]; rfl
      obtain ⟨km, kms⟩ := x
      have hb : bnd ((Ty.rowsR 1 (ks.take i)).length + 1) 32 := by simp only [bnd, tyrowsR_len, List.length_take]; omega
      have e : Ty.rowsR 1 (ks.take i) ++ [[.int .i8 km, .sl 1 2 (Ty.rowsR 1 kms)]] = Ty.rowsR 1 (ks.take (i + 1)) := by
        rw [hmt, tyrowsR_app]; rfl
      have el : (Ty.rowsR 1 (ks.take i)).length + [[DV.int .i8 km, .sl 1 2 (Ty.rowsR 1 kms)]].length = (Ty.rowsR 1 (ks.take (i + 1))).length := by
        rw [← List.length_append, e]
      refine ⟨f1, fun row hrow => ?_⟩
      obtain rfl := e1 row hrow
      conv => whnf
      repeat' first | ((refine And.intro f1 fun row hrow => ?_; obtain rfl := e1 row hrow; conv => whnf)) | ((refine And.intro ⟨rfl, hb⟩ ?_; conv => whnf)) | refine AW.seq ?_ | refine AW.block ?_ | (refine (id : AW _ _ _ (.region 3 _ true) _ _ → _) ?_; refine AW.drawT (id := 3) tab_ok mixed [0, 1, 2, 3, 4, 5, 6, 7, 8, 9] oTCp1_38_3 (by kernel_rfl) ?_; conv => whnf) | (refine (id : AW _ _ _ (.region 7 _ true) _ _ → _) ?_; refine AW.draw (id := 7) tab_ok mixed [0, 1, 2, 3, 4, 5, 6, 7, 8, 9, 10, 11] (by kernel_rfl) ?_; conv => whnf) | (refine Fork.mk ?_ ?_ <;> conv => whnf) | ((first | refine AW.region tab_ok ?_ | refine AW.cond ?_ | refine AW.skip ?_ | refine AW.ret ?_ | refine AW.exit ?_); conv => whnf) | (refine (hc).mono ?_; rintro _ _ ⟨rfl, rfl⟩; conv => whnf) | ((first | refine And.intro (@rfl Val _) ?_ | refine And.intro (by decide) ?_ | refine cs (fun _ => ?_) (fun _ => ?_)) <;> conv => whnf)
      rw [el, e, wrap64 (x := (i : Int) + 1) (by omega) (by omega)]
      exact ⟨⟨i + 1, hlt⟩, ⟨⟨rfl, rfl, rfl, rfl, trivial⟩, rfl, rfl, ⟨[], rfl⟩, rfl⟩, show ks.length - (i + 1) < ks.length - i by omega⟩
    · rename_i h1
      simp only [rows_length] at h1
      have h1 := of_decide_eq_false h1
      try simp only at h1
      obtain rfl : i = ks.length := by omega
      have e : ks.take ks.length = ks := List.take_of_length_le (by omega)
      simp only [e]
      first | refine ⟨trivial, ?_⟩ | refine ⟨rfl, ?_⟩ | skip
      conv => whnf
      first | exact ⟨rfl, rfl⟩ | exact ⟨rfl, trivial⟩ | (simp; rfl)
  · skip
    refine AW.loop (ι := IdxI ks) (fun x => ⟨39, [(4, .c (.d (.int .i64 x.i))), (1, .c (.ptr 0 0)), (2, .c (.ptr 1 0)), (3, .c (.ptr 3 0))], [.var [.d (.int .i8 k), .d (.sl 0 2 (Ty.rows ks))], .var [.d (.int .i8 0), .d .nils], .row 25 2 (Ty.rowsR 1 (ks.take x.i)), .var [.d (.int .i8 k), .own 2 (Ty.rowsR 1 (ks.take x.i)).length]], []⟩)
      (fun x => ks.length - x.i) ⟨0, Nat.zero_le _⟩ 4 (fun _ => rfl) (Nat.le_of_ble_eq_true rfl) ⟨⟨rfl, rfl, rfl, rfl, trivial⟩, rfl, rfl, ⟨[], rfl⟩, rfl⟩ (fun x => ?_)
    obtain ⟨i, hi⟩ := x
    repeat' first | refine AW.seq ?_ | refine AW.block ?_ | (refine (id : AW _ _ _ (.region 3 _ true) _ _ → _) ?_; refine AW.drawT (id := 3) tab_ok mixed [0, 1, 2, 3, 4, 5, 6, 7, 8, 9] oTCp1_38_3 (by kernel_rfl) ?_; conv => whnf) | (refine (id : AW _ _ _ (.region 7 _ true) _ _ → _) ?_; refine AW.draw (id := 7) tab_ok mixed [0, 1, 2, 3, 4, 5, 6, 7, 8, 9, 10, 11] (by kernel_rfl) ?_; conv => whnf) | (refine Fork.mk ?_ ?_ <;> conv => whnf) | ((first | refine AW.region tab_ok ?_ | refine AW.cond ?_ | refine AW.skip ?_ | refine AW.ret ?_ | refine AW.exit ?_); conv => whnf) | ((first | refine And.intro (@rfl Val _) ?_ | refine And.intro (by decide) ?_ | refine cs (fun _ => ?_) (fun _ => ?_)) <;> conv => whnf)
    · rename_i h1
      simp only [rows_length] at h1
      have h1 := of_decide_eq_true h1
      try simp only at h1
      have hlt : i < ks.length := by omega
      obtain ⟨x, ht⟩ : ∃ x, ks[i]? = some x := ⟨_, List.getElem?_eq_getElem hlt⟩
      have f1 : (0 : Int) ≤ (i : Int) ∧ (i : Int) < ((Ty.rows ks).length : Nat) := by rw [rows_length]; omega
      have e1 : ∀ row, (Ty.rows ks)[((i : Nat) : Int).toNat]? = some row → x.cells = row := fun row h => by
        obtain ⟨y, hy, rfl⟩ := rows_get ks i row (by simpa using h)
        rw [ht] at hy; cases hy; rfl
      have hm := List.mem_of_getElem? ht
      have hc := ih x hm (hks x hm)
      have hmt : ks.take (i + 1) = ks.take i ++ [x] := by rw [List.take_add_one, ht]; rfl
      obtain ⟨km, kms⟩ := x
      have hb : bnd ((Ty.rowsR 1 (ks.take i)).length + 1) 32 := by simp only [bnd, tyrowsR_len, List.length_take]; omega
      have e : Ty.rowsR 1 (ks.take i) ++ [[.int .i8 km, .sl 1 2 (Ty.rowsR 1 kms)]] = Ty.rowsR 1 (ks.take (i + 1)) := by
        rw [hmt, tyrowsR_app]; rfl
      have el : (Ty.rowsR 1 (ks.take i)).length + [[DV.int .i8 km, .sl 1 2 (Ty.rowsR 1 kms)]].length = (Ty.rowsR 1 (ks.take (i + 1))).length := by
        rw [← List.length_append, e]
      refine ⟨f1, fun row hrow => ?_⟩
      obtain rfl := e1 row hrow
      conv => whnf
      repeat' first | ((refine And.intro f1 fun row hrow => ?_; obtain rfl := e1 row hrow; conv => whnf)) | ((refine And.intro ⟨rfl, hb⟩ ?_; conv => whnf)) | refine AW.seq ?_ | refine AW.block ?_ | (refine (id : AW _ _ _ (.region 3 _ true) _ _ → _) ?_; refine AW.drawT (id := 3) tab_ok mixed [0, 1, 2, 3, 4, 5, 6, 7, 8, 9] oTCp1_38_3 (by kernel_rfl) ?_; conv => whnf) | (refine (id : AW _ _ _ (.region 7 _ true) _ _ → _) ?_; refine AW.draw (id := 7) tab_ok mixed [0, 1, 2, 3, 4, 5, 6, 7, 8, 9, 10, 11] (by kernel_rfl) ?_; conv => whnf) | (refine Fork.mk ?_ ?_ <;> conv => whnf) | ((first | refine AW.region tab_ok ?_ | refine AW.cond ?_ | refine AW.skip ?_ | refine AW.ret ?_ | refine AW.exit ?_); conv => whnf) | (refine (hc).mono ?_; rintro _ _ ⟨rfl, rfl⟩; conv => whnf) | ((first | refine And.intro (@rfl Val _) ?_ | refine And.intro (by decide) ?_ | refine cs (fun _ => ?_) (fun _ => ?_)) <;> conv => whnf)
      rw [el, e, wrap64 (x := (i : Int) + 1) (by omega) (by omega)]
      exact ⟨⟨i + 1, hlt⟩, ⟨⟨rfl, rfl, rfl, rfl, trivial⟩, rfl, rfl, ⟨[], rfl⟩, rfl⟩, show ks.length - (i + 1) < ks.length - i by omega⟩
    · rename_i h1
      simp only [rows_length] at h1
      have h1 := of_decide_eq_false h1
      try simp only at h1
      obtain rfl : i = ks.length := by omega
      have e : ks.take ks.length = ks := List.take_of_length_le (by omega)
      simp only [e]
      first | refine ⟨trivial, ?_⟩ | refine ⟨rfl, ?_⟩ | skip
      conv => whnf
      first | exact ⟨rfl, rfl⟩ | exact ⟨rfl, trivial⟩ | (simp; rfl)
set_option maxRecDepth 10000 in
set_option maxHeartbeats 1000000 in
theorem copiedTm_call (t : Tm) : TmOk t → ACall Try.prog 15 [t.val] [] (fun o σ => o = .ret (t.valR 1 4) ∧ σ = []) := by
  induction t using Tm.ind with
  | _ k name arg num tk tks uk uks label place ks ih =>
  rintro (⟨hT, hU, hlen, hks⟩)
  have c1 := copiedTy_call _ hT
  have c2 := copiedTy_call _ hU
  refine ACall.body tab_ok (ρ := 4) (N := 34) Try.func15 rfl rfl rfl rfl rfl ?_
  repeat' first | refine AW.seq ?_ | refine AW.block ?_ | (refine (id : AW _ _ _ (.region 8 _ true) _ _ → _) ?_; refine AW.draw (id := 8) tab_ok mixed [0, 1, 2, 3, 4, 5, 6, 7, 8, 9, 10, 11] (by kernel_rfl) ?_; conv => whnf) | ((first | refine AW.region tab_ok ?_ | refine AW.cond ?_ | refine AW.skip ?_ | refine AW.ret ?_ | refine AW.exit ?_); conv => whnf) | ((first | refine (c1).mono ?_ | refine (c2).mono ?_); rintro _ _ ⟨rfl, rfl⟩; conv => whnf) | ((first | refine And.intro (@rfl Val _) ?_ | refine And.intro (by decide) ?_ | refine cs (fun _ => ?_) (fun _ => ?_)) <;> conv => whnf)
  refine AW.ghost 28 11 2 10 (by decide) rfl rfl ?_
  refine AW.loop (ι := IdxI ks) (fun x => ⟨34, [(4, .c (.d (.int .i64 x.i))), (1, .c (.ptr 0 0)), (2, .c (.ptr 1 0)), (3, .c (.ptr 2 0))], [.var ((Tm.node k name arg num tk tks uk uks label place ks).cells.map .d), .var [.d (.int .i8 0), .d (.str ⟨#[]⟩), .d (.str ⟨#[]⟩), .d (.int .i64 0), .d (.int .i8 0), .d .nils, .d (.int .i8 0), .d .nils, .d (.int .i64 0), .d (.int .i64 0), .d .nils], .var [.d (.int .i8 k), .d (.str name), .d (.str arg), .d (.int .i64 num), .d (.int .i8 tk), .d (.sl 1 2 (Ty.rowsR 1 tks)), .d (.int .i8 uk), .d (.sl 1 2 (Ty.rowsR 1 uks)), .d (.int .i64 label), .d (.int .i64 place), .own 3 (Tm.rowsR 1 4 (ks.take x.i)).length], .row 28 11 (Tm.rowsR 1 4 (ks.take x.i))], []⟩)
    (fun x => ks.length - x.i) ⟨0, Nat.zero_le _⟩ 4 (fun _ => rfl) (Nat.le_of_ble_eq_true rfl) ⟨⟨rfl, rfl, rfl, rfl, trivial⟩, rfl, rfl, ⟨[], rfl⟩, rfl⟩ (fun x => ?_)
  obtain ⟨i, hi⟩ := x
  repeat' first | refine AW.seq ?_ | refine AW.block ?_ | (refine (id : AW _ _ _ (.region 8 _ true) _ _ → _) ?_; refine AW.draw (id := 8) tab_ok mixed [0, 1, 2, 3, 4, 5, 6, 7, 8, 9, 10, 11] (by kernel_rfl) ?_; conv => whnf) | ((first | refine AW.region tab_ok ?_ | refine AW.cond ?_ | refine AW.skip ?_ | refine AW.ret ?_ | refine AW.exit ?_); conv => whnf) | ((first | refine And.intro (@rfl Val _) ?_ | refine And.intro (by decide) ?_ | refine cs (fun _ => ?_) (fun _ => ?_)) <;> conv => whnf)
  · rename_i h1
    simp only [trows_length] at h1
    have h1 := of_decide_eq_true h1
    try simp only at h1
    have hlt : i < ks.length := by omega
    obtain ⟨x, ht⟩ : ∃ x, ks[i]? = some x := ⟨_, List.getElem?_eq_getElem hlt⟩
    have f1 : (0 : Int) ≤ (i : Int) ∧ (i : Int) < ((Tm.rows ks).length : Nat) := by rw [trows_length]; omega
    have e1 : ∀ row, (Tm.rows ks)[((i : Nat) : Int).toNat]? = some row → x.cells = row := fun row h => by
      obtain ⟨y, hy, rfl⟩ := trows_get ks i row (by simpa using h)
      rw [ht] at hy; cases hy; rfl
    have hm := List.mem_of_getElem? ht
    have hc := ih x hm (hks x hm)
    have hmt : ks.take (i + 1) = ks.take i ++ [x] := by rw [List.take_add_one, ht]; rfl
    have e : Tm.rowsR 1 4 (ks.take i) ++ [x.cellsR 1 4] = Tm.rowsR 1 4 (ks.take (i + 1)) := by rw [hmt, tmrowsR_app]
    have el : (Tm.rowsR 1 4 (ks.take i)).length + [x.cellsR 1 4].length = (Tm.rowsR 1 4 (ks.take (i + 1))).length := by rw [← List.length_append, e]
    have hb : bnd ((Tm.rowsR 1 4 (ks.take i)).length + 1) 152 := by simp only [bnd, tmrowsR_len, List.length_take]; omega
    obtain ⟨kx, namex, argx, numx, tkx, tksx, ukx, uksx, labelx, placex, ksx⟩ := x
    refine ⟨f1, fun row hrow => ?_⟩
    obtain rfl := e1 row hrow
    conv => whnf
    repeat' first | ((refine And.intro f1 fun row hrow => ?_; obtain rfl := e1 row hrow; conv => whnf)) | ((refine And.intro ⟨rfl, hb⟩ ?_; conv => whnf)) | refine AW.seq ?_ | refine AW.block ?_ | (refine (id : AW _ _ _ (.region 8 _ true) _ _ → _) ?_; refine AW.draw (id := 8) tab_ok mixed [0, 1, 2, 3, 4, 5, 6, 7, 8, 9, 10, 11] (by kernel_rfl) ?_; conv => whnf) | ((first | refine AW.region tab_ok ?_ | refine AW.cond ?_ | refine AW.skip ?_ | refine AW.ret ?_ | refine AW.exit ?_); conv => whnf) | (refine (hc).mono ?_; rintro _ _ ⟨rfl, rfl⟩; conv => whnf) | ((first | refine And.intro (@rfl Val _) ?_ | refine And.intro (by decide) ?_ | refine cs (fun _ => ?_) (fun _ => ?_)) <;> conv => whnf)
    rw [show (Tm.rowsR 1 4 (ks.take i)).length + [[DV.int .i8 kx, .str namex, .str argx, .int .i64 numx, .int .i8 tkx, .sl 1 2 (Ty.rowsR 1 tksx), .int .i8 ukx, .sl 1 2 (Ty.rowsR 1 uksx), .int .i64 labelx, .int .i64 placex, .sl 4 11 (Tm.rowsR 1 4 ksx)]].length = _ from el, show Tm.rowsR 1 4 (ks.take i) ++ [[DV.int .i8 kx, .str namex, .str argx, .int .i64 numx, .int .i8 tkx, .sl 1 2 (Ty.rowsR 1 tksx), .int .i8 ukx, .sl 1 2 (Ty.rowsR 1 uksx), .int .i64 labelx, .int .i64 placex, .sl 4 11 (Tm.rowsR 1 4 ksx)]] = _ from e, wrap64 (x := (i : Int) + 1) (by omega) (by omega)]
    exact ⟨⟨i + 1, hlt⟩, ⟨⟨rfl, rfl, rfl, rfl, trivial⟩, rfl, rfl, ⟨[], rfl⟩, rfl⟩, show ks.length - (i + 1) < ks.length - i by omega⟩
  · rename_i h1
    simp only [trows_length] at h1
    have h1 := of_decide_eq_false h1
    try simp only at h1
    obtain rfl : i = ks.length := by omega
    have e : ks.take ks.length = ks := List.take_of_length_le (by omega)
    simp only [e]
    first | refine ⟨trivial, ?_⟩ | refine ⟨rfl, ?_⟩ | skip
    conv => whnf
    first | exact ⟨rfl, rfl⟩ | exact ⟨rfl, trivial⟩ | (simp; rfl)
end Go.Proofs.Ytlboogackecjlaa.E
