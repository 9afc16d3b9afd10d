/- Texts, merged: Pu3, Pu4. No conditions. -/
import Derived.Test.YtoglfnjankinnaaGenX19
/- A value put for a name: copies of types, of terms. No conditions. -/
set_option linter.unusedVariables false
set_option linter.unusedSimpArgs false
namespace Go.Proofs.Ytoglfnjankinnaa.E
open Go

theorem rows_map' : ∀ ks : List Ty, Ty.rows ks = ks.map Ty.cells
  | [] => rfl
  | t :: l => by simp [Ty.rows, rows_map' l]
/-- Rows of types that the machine can hold. -/
inductive TyOk : Ty → Prop where
  | node {k ks} (h1 : ks.length * 32 ≤ 140737488355328) (h2 : ∀ t ∈ ks, TyOk t) : TyOk (.node k ks)
set_option maxRecDepth 10000 in
theorem rkind_call (a : Ty) : TyOk a → ACall Try.prog 132 [a.val] [] (fun o σ => o = .ret a.val ∧ σ = []) := by
  induction a using Ty.ind with
  | _ k ks ih =>
  rintro (⟨hle, ha⟩)
  refine ACall.body tab_ok (ρ := 0) (N := 25) Try.func132 rfl rfl rfl rfl rfl ?_
  repeat' first
    | refine AW.seq ?_
    | refine AW.block ?_
    | (refine AW.region tab_ok ?_; conv => whnf)
    | (refine AW.draw (id := 5) tab_ok mixed [0, 1, 2, 3, 4, 5, 6, 7] (by kernel_rfl) ?_; conv => whnf)
    | (refine AW.cond ?_; conv => whnf)
    | (refine AW.skip ?_; conv => whnf)
    | (refine AW.ret ?_; conv => whnf)
    | (refine AW.exit ?_; conv => whnf)
    | (refine And.intro (@rfl Val _) ?_; conv => whnf)
    | (refine And.intro (by decide) ?_; conv => whnf)
    | (refine cs (fun _ => ?_) (fun _ => ?_) <;> conv => whnf)
  refine AW.ghost 25 2 2 1 (by decide) rfl rfl ?_
  refine AW.loop (ι := UpTo ks) (fun x => ⟨25, [(12, .c (.d (.int .i64 x.i))), (11, .c (.d (.int .i64 (Ty.rows ks).length))), (10, .c (.d (.sl 0 2 (Ty.rows ks)))), (2, .c (.ptr 1 0)), (3, .c (.ptr 2 0))],
      [.var [.d (.int .i8 k), .d (.sl 0 2 (Ty.rows ks))], .var [.d (.int .i8 0), .d .nils], .var [.d (.int .i8 k), .own 3 (Ty.rows (ks.take x.i)).length], .row 25 2 (Ty.rows (ks.take x.i))], []⟩)
    (fun x => ks.length - x.i) ⟨0, Nat.zero_le _⟩ 4 (fun _ => rfl) (Nat.le_of_ble_eq_true rfl) ⟨⟨rfl, rfl, rfl, rfl, rfl, trivial⟩, rfl, rfl, ⟨[], rfl⟩, rfl⟩ (fun x => ?_)
  obtain ⟨i, hi⟩ := x
  repeat' first
    | refine AW.seq ?_
    | refine AW.block ?_
    | (refine AW.region tab_ok ?_; conv => whnf)
    | (refine AW.draw (id := 5) tab_ok mixed [0, 1, 2, 3, 4, 5, 6, 7] (by kernel_rfl) ?_; conv => whnf)
    | (refine AW.cond ?_; conv => whnf)
    | (refine AW.skip ?_; conv => whnf)
    | (refine AW.ret ?_; conv => whnf)
    | (refine AW.exit ?_; conv => whnf)
    | (refine And.intro (@rfl Val _) ?_; conv => whnf)
    | (refine And.intro (by decide) ?_; conv => whnf)
    | (refine cs (fun _ => ?_) (fun _ => ?_) <;> conv => whnf)
  · rename_i h1
    simp only [rows_length] at h1
    have := of_decide_eq_true h1
    refine ⟨by simp only [rows_length]; omega, fun row hrow => ?_⟩
    obtain ⟨x, ht, rfl⟩ := rows_get ks i row (by simpa using hrow)
    have hlt : i < ks.length := (List.getElem?_eq_some_iff.1 ht).1
    have hm := List.mem_of_getElem? ht
    have hc := ih x hm (ha x hm)
    have hmt : ks.take (i + 1) = ks.take i ++ [x] := by
      rw [List.take_add_one, ht]; rfl
    obtain ⟨km, kms⟩ := x
    conv => whnf
    repeat' first
      | refine AW.seq ?_
      | refine AW.block ?_
      | (refine AW.region tab_ok ?_; conv => whnf)
      | (refine AW.draw (id := 5) tab_ok mixed [0, 1, 2, 3, 4, 5, 6, 7] (by kernel_rfl) ?_; conv => whnf)
      | (refine AW.cond ?_; conv => whnf)
      | (refine AW.skip ?_; conv => whnf)
      | (refine AW.ret ?_; conv => whnf)
      | (refine AW.exit ?_; conv => whnf)
      | (refine (hc).mono ?_; rintro _ _ ⟨rfl, rfl⟩; conv => whnf)
      | (refine And.intro (@rfl Val _) ?_; conv => whnf)
      | (refine And.intro (by decide) ?_; conv => whnf)
      | (refine cs (fun _ => ?_) (fun _ => ?_) <;> conv => whnf)
    refine ⟨⟨rfl, ?_, ?_⟩, ?_⟩
    · simp only [rows_length, List.length_take, List.length_cons, List.length_nil]
      omega
    · simp only [rows_length, List.length_take, List.length_cons, List.length_nil]
      omega
    conv => whnf
    repeat' first
      | refine AW.seq ?_
      | refine AW.block ?_
      | (refine AW.region tab_ok ?_; conv => whnf)
      | (refine AW.draw (id := 5) tab_ok mixed [0, 1, 2, 3, 4, 5, 6, 7] (by kernel_rfl) ?_; conv => whnf)
      | (refine AW.cond ?_; conv => whnf)
      | (refine AW.skip ?_; conv => whnf)
      | (refine AW.ret ?_; conv => whnf)
      | (refine AW.exit ?_; conv => whnf)
      | (refine And.intro (@rfl Val _) ?_; conv => whnf)
      | (refine And.intro (by decide) ?_; conv => whnf)
      | (refine cs (fun _ => ?_) (fun _ => ?_) <;> conv => whnf)
    have e : Ty.rows (ks.take i) ++ [[.int .i8 km, .sl 0 2 (Ty.rows kms)]] = Ty.rows (ks.take (i + 1)) := by
      rw [hmt, rows_map' (ks.take i), rows_map' (ks.take i ++ _), List.map_append]; rfl
    have el : (Ty.rows (ks.take i)).length + [[DV.int .i8 km, .sl 0 2 (Ty.rows kms)]].length = (Ty.rows (ks.take (i + 1))).length := by
      rw [← List.length_append, e]
    rw [el, e, wrap64 (x := (i : Int) + 1) (by omega) (by omega)]
    exact ⟨⟨i + 1, hlt⟩, ⟨⟨rfl, rfl, rfl, rfl, rfl, trivial⟩, rfl, rfl, ⟨[_], rfl⟩, rfl⟩, show ks.length - (i + 1) < ks.length - i by omega⟩
  · rename_i h1
    simp only [rows_length] at h1
    have := of_decide_eq_false h1
    obtain rfl : i = ks.length := by omega
    have e : ks.take ks.length = ks := List.take_of_length_le (by omega)
    simp only [e]
    first | refine ⟨trivial, ?_⟩ | refine ⟨rfl, ?_⟩ | skip
    conv => whnf
    first | exact ⟨rfl, rfl⟩ | exact ⟨rfl, trivial⟩ | (simp; rfl)
/-- A term whose types are bounded, in all its parts, those that do not count too. -/
inductive Fine2 : Tm → Prop where
  | node {k name arg num tk tks uk uks label place ks} (h1 : TyOk (.node tk tks)) (h2 : TyOk (.node uk uks)) (h3 : ks.length ≤ 8192) (h4 : ∀ t ∈ ks, Fine2 t) : Fine2 (.node k name arg num tk tks uk uks label place ks)
set_option maxRecDepth 10000 in
theorem copied_call (t : Tm) : Fine2 t → ACall Try.prog 77 [t.val] [] (fun o σ => o = .ret t.val ∧ σ = []) := by
  induction t using Tm.ind with
  | _ k nm arg num tk tks uk uks label place ks ih =>
  rintro (⟨h1, h2, h3, h4⟩)
  have c1 := rkind_call _ h1
  have c2 := rkind_call _ h2
  refine ACall.body tab_ok (ρ := 0) (N := 32) Try.func77 rfl rfl rfl rfl rfl ?_
  repeat' first
    | refine AW.seq ?_
    | refine AW.block ?_
    | (refine AW.region tab_ok ?_; conv => whnf)
    | (refine AW.draw (id := 1) tab_ok mixed [0, 1, 3, 4, 2, 6, 5, 7, 8, 9] (by kernel_rfl) ?_; conv => whnf)
    | (refine AW.draw (id := 7) tab_ok mixed [0, 1, 2, 3, 4, 5, 6, 7] (by kernel_rfl) ?_; conv => whnf)
    | (refine AW.cond ?_; conv => whnf)
    | (refine AW.skip ?_; conv => whnf)
    | (refine AW.ret ?_; conv => whnf)
    | (refine AW.exit ?_; conv => whnf)
    | (refine (c1).mono ?_; rintro _ _ ⟨rfl, rfl⟩; conv => whnf)
    | (refine (c2).mono ?_; rintro _ _ ⟨rfl, rfl⟩; conv => whnf)
    | (refine And.intro (@rfl Val _) ?_; conv => whnf)
    | (refine And.intro (by decide) ?_; conv => whnf)
    | (refine cs (fun _ => ?_) (fun _ => ?_) <;> conv => whnf)
  refine AW.ghost 28 11 0 10 (by decide) rfl rfl ?_
  refine AW.loop (ι := UpN ks.length) (fun x => ⟨32, [(19, .c (.d (.int .i64 x.i))), (18, .c (.d (.int .i64 (Tm.rows ks).length))), (17, .c (.d (.sl 0 11 (Tm.rows ks)))), (1, .c (.ptr 0 0)), (2, .c (.ptr 1 0))],
      [.var [.d (.int .i8 k), .d (.str nm), .d (.str arg), .d (.int .i64 num), .d (.int .i8 tk), .d (.sl 0 2 (Ty.rows tks)), .d (.int .i8 uk), .d (.sl 0 2 (Ty.rows uks)), .d (.int .i64 label), .d (.int .i64 place), .own 2 (Tm.rows (ks.take x.i)).length],
       .var [.d (.int .i8 0), .d (.str ⟨#[]⟩), .d (.str ⟨#[]⟩), .d (.int .i64 0), .d (.int .i8 0), .d .nils, .d (.int .i8 0), .d .nils, .d (.int .i64 0), .d (.int .i64 0), .d .nils],
       .row 28 11 (Tm.rows (ks.take x.i))], []⟩)
    (fun x => ks.length - x.i) ⟨0, Nat.zero_le _⟩ 3 (fun _ => rfl) (Nat.le_of_ble_eq_true rfl) ⟨⟨rfl, rfl, rfl, rfl, rfl, trivial⟩, rfl, rfl, ⟨[], rfl⟩, rfl⟩ (fun x => ?_)
  obtain ⟨i, hi⟩ := x
  repeat' first
    | refine AW.seq ?_
    | refine AW.block ?_
    | (refine AW.region tab_ok ?_; conv => whnf)
    | (refine AW.draw (id := 1) tab_ok mixed [0, 1, 3, 4, 2, 6, 5, 7, 8, 9] (by kernel_rfl) ?_; conv => whnf)
    | (refine AW.draw (id := 7) tab_ok mixed [0, 1, 2, 3, 4, 5, 6, 7] (by kernel_rfl) ?_; conv => whnf)
    | (refine AW.cond ?_; conv => whnf)
    | (refine AW.skip ?_; conv => whnf)
    | (refine AW.ret ?_; conv => whnf)
    | (refine AW.exit ?_; conv => whnf)
    | (refine And.intro (@rfl Val _) ?_; conv => whnf)
    | (refine And.intro (by decide) ?_; conv => whnf)
    | (refine cs (fun _ => ?_) (fun _ => ?_) <;> conv => whnf)
  · rename_i g1
    simp only [trows_length] at g1
    have g1 := of_decide_eq_true g1
    have hlt : i < ks.length := by omega
    refine ⟨by simp only [trows_length]; omega, fun row hrow => ?_⟩
    obtain ⟨x, ht, rfl⟩ := trows_get ks i row (by simpa using hrow)
    have hm := List.mem_of_getElem? ht
    have hc := ih x hm (h4 x hm)
    have hmt : ks.take (i + 1) = ks.take i ++ [x] := by
      rw [List.take_add_one, ht]; rfl
    have e : Tm.rows (ks.take i) ++ [x.cells] = Tm.rows (ks.take (i + 1)) := by
      rw [hmt, trows_map (ks.take i), trows_map (ks.take i ++ _), List.map_append]; rfl
    have el : (Tm.rows (ks.take i)).length + [x.cells].length = (Tm.rows (ks.take (i + 1))).length := by
      rw [← List.length_append, e]
    clear hmt ht hrow hm
    obtain ⟨kx, namex, argx, numx, tkx, tksx, ukx, uksx, labelx, placex, ksx⟩ := x
    conv => whnf
    repeat' first
      | refine AW.seq ?_
      | refine AW.block ?_
      | (refine AW.region tab_ok ?_; conv => whnf)
      | (refine AW.draw (id := 1) tab_ok mixed [0, 1, 3, 4, 2, 6, 5, 7, 8, 9] (by kernel_rfl) ?_; conv => whnf)
      | (refine AW.draw (id := 7) tab_ok mixed [0, 1, 2, 3, 4, 5, 6, 7] (by kernel_rfl) ?_; conv => whnf)
      | (refine AW.cond ?_; conv => whnf)
      | (refine AW.skip ?_; conv => whnf)
      | (refine AW.ret ?_; conv => whnf)
      | (refine AW.exit ?_; conv => whnf)
      | (refine (hc).mono ?_; rintro _ _ ⟨rfl, rfl⟩; conv => whnf)
      | (refine And.intro (@rfl Val _) ?_; conv => whnf)
      | (refine And.intro (by decide) ?_; conv => whnf)
      | (refine cs (fun _ => ?_) (fun _ => ?_) <;> conv => whnf)
    refine ⟨⟨rfl, ?_, ?_⟩, ?_⟩
    · simp only [trows_length, List.length_take, List.length_cons, List.length_nil]
      omega
    · simp only [trows_length, List.length_take, List.length_cons, List.length_nil]
      omega
    conv => whnf
    repeat' first
      | refine AW.seq ?_
      | refine AW.block ?_
      | (refine AW.region tab_ok ?_; conv => whnf)
      | (refine AW.draw (id := 1) tab_ok mixed [0, 1, 3, 4, 2, 6, 5, 7, 8, 9] (by kernel_rfl) ?_; conv => whnf)
      | (refine AW.draw (id := 7) tab_ok mixed [0, 1, 2, 3, 4, 5, 6, 7] (by kernel_rfl) ?_; conv => whnf)
      | (refine AW.cond ?_; conv => whnf)
      | (refine AW.skip ?_; conv => whnf)
      | (refine AW.ret ?_; conv => whnf)
      | (refine AW.exit ?_; conv => whnf)
      | (refine And.intro (@rfl Val _) ?_; conv => whnf)
      | (refine And.intro (by decide) ?_; conv => whnf)
      | (refine cs (fun _ => ?_) (fun _ => ?_) <;> conv => whnf)
    simp only [Tm.cells] at e el
    rw [el, e, wrap64 (x := (i : Int) + 1) (by omega) (by omega)]
    exact ⟨⟨i + 1, hlt⟩, ⟨⟨rfl, rfl, rfl, rfl, rfl, trivial⟩, rfl, rfl, ⟨[_], rfl⟩, rfl⟩, show ks.length - (i + 1) < ks.length - i by omega⟩
  · rename_i g1
    simp only [trows_length] at g1
    have g1 := of_decide_eq_false g1
    obtain rfl : i = ks.length := by omega
    have e : ks.take ks.length = ks := List.take_of_length_le (by omega)
    simp only [e]
    first | refine ⟨trivial, ?_⟩ | refine ⟨rfl, ?_⟩ | skip
    conv => whnf
    first | exact ⟨rfl, rfl⟩ | exact ⟨rfl, trivial⟩ | (simp; rfl)
/-- Rows of terms that the machine can hold. -/
inductive TmOk : Tm → Prop where
  | node {k name arg num tk tks uk uks label place ks} (h1 : TyOk (.node tk tks)) (h2 : TyOk (.node uk uks)) (h3 : ks.length * 152 ≤ 140737488355328) (h4 : ∀ t ∈ ks, TmOk t) : TmOk (.node k name arg num tk tks uk uks label place ks)
theorem fine2_of (t : Tm) : TmOk t → tmright t = true → Fine2 t := by
  induction t using Tm.ind with
  | _ k name arg num tk tks uk uks label place ks ih =>
  rintro (⟨h1, h2, h3, h4⟩) hr
  have hl := tmright_len hr
  have hk := kidsK_le k
  exact .node h1 h2 (by omega) fun x hx => ih x hx (h4 x hx) (tmright_kid hr hx)
end Go.Proofs.Ytoglfnjankinnaa.E

/- A value put for a name: the program's walk. No conditions. -/
set_option linter.unusedVariables false
set_option linter.unusedSimpArgs false
namespace Go.Proofs.Ytoglfnjankinnaa.E
open Go

mutual
/-- Is there a place where something is put? -/
def tmhit (name : ByteArray) : Tm → Bool
  | .node k nm arg _ _ _ _ _ _ _ ks => if k = 0 then decide (nm = name) else tmhits name k nm arg 0 ks
def tmhits (name : ByteArray) (k : Int) (nm arg : ByteArray) : Nat → List Tm → Bool
  | _, [] => false
  | i, t :: l => (!hidF k nm arg i name && tmhit name t) || tmhits name k nm arg (i + 1) l
end
theorem tmhits_iff (name : ByteArray) (k : Int) (nm arg : ByteArray) : ∀ (l : List Tm) (s : Nat), tmhits name k nm arg s l = true ↔ ∃ (j : Nat) (x : Tm), l[j]? = some x ∧ hidF k nm arg ((s + j : Nat) : Int) name = false ∧ tmhit name x = true
  | [], s => by simp [tmhits]
  | t :: l, s => by
    simp only [tmhits, Bool.or_eq_true, Bool.and_eq_true, Bool.not_eq_true', tmhits_iff name k nm arg l (s + 1)]
    constructor
    · rintro (⟨h1, h2⟩ | ⟨j, x, h1, h2, h3⟩)
      · exact ⟨0, t, rfl, h1, h2⟩
      · exact ⟨j + 1, x, by simpa using h1, by rw [show s + (j + 1) = s + 1 + j by omega]; exact h2, h3⟩
    · rintro ⟨j, x, h1, h2, h3⟩
      cases j with
      | zero => simp at h1; subst h1; exact .inl ⟨h2, h3⟩
      | succ j => exact .inr ⟨j, x, by simpa using h1, by rw [show s + 1 + j = s + (j + 1) by omega]; exact h2, h3⟩
theorem tmput_not (name : ByteArray) (v : Tm) (t : Tm) : tmhit name t = false → tmput name v t = t := by
  induction t using Tm.ind with
  | _ k nm arg num tk tks uk uks label place ks ih =>
  intro h
  simp only [tmhit] at h
  simp only [tmput]
  split
  · rename_i h0
    rw [if_pos h0] at h
    rw [if_neg (of_decide_eq_false h)]
  · rename_i h0
    rw [if_neg h0] at h
    have : tmputs name v k nm arg 0 ks = ks := by
      refine List.ext_getElem? fun j => ?_
      rw [tmputs_get]
      cases hx : ks[j]? with
      | none => rfl
      | some x =>
        simp only [Option.map_some, Option.some.injEq]
        split
        · rfl
        · rename_i hh
          refine ih x (List.mem_of_getElem? hx) ?_
          cases hq : tmhit name x with
          | false => rfl
          | true => exact absurd ((tmhits_iff name k nm arg ks 0).2 ⟨j, x, hx, by simpa using hh, hq⟩) (by simp [h])
    rw [this]
inductive PutI (name : ByteArray) (k : Int) (nm arg : ByteArray) (ks : List Tm) where
  | a (i : Nat) (hi : i ≤ ks.length) (h : ∀ (j : Nat) x, j < i → ks[j]? = some x → hidF k nm arg j name = true ∨ tmhit name x = false)
  | b (i : Nat) (hi : i ≤ ks.length) (h : tmhits name k nm arg 0 ks = true) (q : Tm)
def PutI.at {name : ByteArray} {k : Int} {nm arg : ByteArray} {ks : List Tm} : PutI name k nm arg ks → Nat
  | .a i _ _ => i
  | .b i _ _ _ => i
theorem putTo_same (name : ByteArray) (v : Tm) (k : Int) (nm arg : ByteArray) (ks : List Tm) : ∀ (i : Nat), i ≤ ks.length → (∀ (j : Nat) x, j < i → ks[j]? = some x → hidF k nm arg j name = true ∨ tmhit name x = false) → putTo name v k nm arg ks i = ks
  | 0, _, _ => putTo_zero _ _ _ _ _ _
  | i + 1, hi, h => by
    obtain ⟨y, hy⟩ : ∃ y, ks[i]? = some y := ⟨_, List.getElem?_eq_getElem (by omega)⟩
    rw [putTo_hid name v k nm arg ks i y hy]
    · exact putTo_same name v k nm arg ks i (by omega) (fun j x hj hx => h j x (by omega) hx)
    · rcases h i y (by omega) hy with e | e
      · rw [e]; rfl
      · rw [tmput_not name v y e]; split <;> rfl
def putSt (name : ByteArray) (vc : List DV) (v : Tm) (k : Int) (nm arg : ByteArray) (num tk : Int) (tks : List Ty) (uk : Int) (uks : List Ty) (label place : Int) (ks : List Tm) : PutI name k nm arg ks → St
  | .a i _ _ => ⟨63, [(28, .c (.d (.int .i64 i))), (27, .c (.d (.int .i64 (Tm.rows ks).length))), (6, .c (.d .nils)), (0, .c (.d (.rp 0 (.str name :: vc)))), (3, .c (.ptr 0 0)), (4, .c (.ptr 1 0))],
      [.var ((Tm.node k nm arg num tk tks uk uks label place ks).cells.map .d), .var [.d (.int .i8 0), .d (.str ⟨#[]⟩), .d (.str ⟨#[]⟩), .d (.int .i64 0), .d (.int .i8 0), .d .nils, .d (.int .i8 0), .d .nils, .d (.int .i64 0), .d (.int .i64 0), .d .nils]], []⟩
  | .b i _ _ (.node ky ny gy uy tky tsy uky usy ly py ksy) => ⟨63, [(28, .c (.d (.int .i64 i))), (27, .c (.d (.int .i64 (Tm.rows ks).length))), (6, .c (.own 3 (Tm.rows (putTo name v k nm arg ks i)).length)), (0, .c (.d (.rp 0 (.str name :: vc)))), (3, .c (.ptr 0 0)), (4, .c (.ptr 1 0))],
      [.var ((Tm.node k nm arg num tk tks uk uks label place ks).cells.map .d), .var [.d (.int .i8 0), .d (.str ⟨#[]⟩), .d (.str ⟨#[]⟩), .d (.int .i64 0), .d (.int .i8 0), .d .nils, .d (.int .i8 0), .d .nils, .d (.int .i64 0), .d (.int .i64 0), .d .nils], .var ((Tm.node ky ny gy uy tky tsy uky usy ly py ksy).cells.map .d), .row 28 11 (Tm.rows (putTo name v k nm arg ks i))], []⟩
set_option maxRecDepth 10000 in
theorem into_call (name : ByteArray) (v : Tm) (t : Tm) : tmN t ≤ 8192 → ACall Try.prog 131 [.c (.d (.rp 0 (.str name :: v.cells))), t.val] [] (fun o σ => o = .ret (.tup [(tmput name v t).val, .c (.d (.bool (tmhit name t)))]) ∧ σ = []) := by
  induction t using Tm.ind with
  | _ k nm arg num tk tks uk uks label place ks ih =>
  intro hN
  have hlen := tmNL_len ks
  simp only [tmN] at hN
  have ih' : ∀ t ∈ ks, ACall Try.prog 131 [.c (.d (.rp 0 (.str name :: v.cells))), t.val] [] (fun o σ => o = .ret (.tup [(tmput name v t).val, .c (.d (.bool (tmhit name t)))]) ∧ σ = []) := fun t ht => ih t ht (by have := tmN_mem ks t ht; omega)
  have hl8 : ks.length ≤ 8192 := by omega
  clear ih hN hlen
  have hide := fun (i : Int) => hidden_call k nm arg num tk tks uk uks label place ks name v.cells i
  by_cases h0 : k = 0
  · subst h0
    simp only [tmput, tmhit, if_true]
    clear ih' hide
    obtain ⟨kx, nx, gx, ux, tkx, tsx, ukx, usx, lx, px, ksx⟩ := v
    refine ACall.body tab_ok (ρ := 0) (N := 63) Try.func131 rfl rfl rfl rfl rfl ?_
    repeat' first
      | refine AW.seq ?_
      | refine AW.block ?_
      | (refine AW.region tab_ok ?_; conv => whnf)
      | (refine AW.draw (id := 2) tab_ok mixed [0, 1, 2, 3, 4, 5, 6] (by kernel_rfl) ?_; conv => whnf)
      | (refine AW.cond ?_; conv => whnf)
      | (refine AW.skip ?_; conv => whnf)
      | (refine AW.ret ?_; conv => whnf)
      | (refine AW.exit ?_; conv => whnf)
      | (refine And.intro (@rfl Val _) ?_; conv => whnf)
      | (refine And.intro (by decide) ?_; conv => whnf)
      | (refine cs (fun _ => ?_) (fun _ => ?_) <;> conv => whnf)
    · rename_i h
      rw [if_pos (of_decide_eq_true h), h]
      exact ⟨rfl, rfl⟩
    · rename_i h
      rw [if_neg (of_decide_eq_false h), h]
      exact ⟨rfl, rfl⟩
  have b0 : (k == 0) = false := by simpa using h0
  simp only [tmput, tmhit, if_neg h0]
  rw [← putTo_all]
  refine ACall.body tab_ok (ρ := 0) (N := 63) Try.func131 rfl rfl rfl rfl rfl ?_
  repeat' first
    | ((refine cs (fun h => absurd h (by rw [b0]; decide)) (fun _ => ?_); conv => whnf))
    | refine AW.seq ?_
    | refine AW.block ?_
    | (refine AW.region tab_ok ?_; conv => whnf)
    | (refine AW.draw (id := 2) tab_ok mixed [0, 1, 2, 3, 4, 5, 6] (by kernel_rfl) ?_; conv => whnf)
    | (refine AW.cond ?_; conv => whnf)
    | (refine AW.skip ?_; conv => whnf)
    | (refine AW.ret ?_; conv => whnf)
    | (refine AW.exit ?_; conv => whnf)
    | (refine And.intro (@rfl Val _) ?_; conv => whnf)
    | (refine And.intro (by decide) ?_; conv => whnf)
    | (refine cs (fun _ => ?_) (fun _ => ?_) <;> conv => whnf)
  refine AW.loop' (ι := PutI name k nm arg ks) (putSt name v.cells v k nm arg num tk tks uk uks label place ks) (fun x => ks.length - x.at) (.a 0 (Nat.zero_le _) (fun j x hj => by omega)) (fun x => by cases x with | a => exact Nat.le_of_ble_eq_true rfl | b i hi h q => cases q; exact Nat.le_of_ble_eq_true rfl) ⟨⟨rfl, rfl, rfl, rfl, rfl, rfl, trivial⟩, rfl, rfl, ⟨[], rfl⟩, rfl⟩ (fun x => ?_)
  cases x with
  | a i hi h =>
    unfold putSt
    repeat' first
      | refine AW.seq ?_
      | refine AW.block ?_
      | (refine AW.region tab_ok ?_; conv => whnf)
      | (refine AW.draw (id := 2) tab_ok mixed [0, 1, 2, 3, 4, 5, 6] (by kernel_rfl) ?_; conv => whnf)
      | (refine AW.cond ?_; conv => whnf)
      | (refine AW.skip ?_; conv => whnf)
      | (refine AW.ret ?_; conv => whnf)
      | (refine AW.exit ?_; conv => whnf)
      | (refine (hide _).mono ?_; rintro _ _ ⟨rfl, rfl⟩; conv => whnf)
      | (refine And.intro (@rfl Val _) ?_; conv => whnf)
      | (refine And.intro (by decide) ?_; conv => whnf)
      | (refine cs (fun _ => ?_) (fun _ => ?_) <;> conv => whnf)
    · rename_i h1 h2
      have h1 : (i : Int) < ((Tm.rows ks).length : Nat) := of_decide_eq_true h1
      rw [trows_length] at h1
      rw [wrap64 (x := (i : Int) + 1) (by omega) (by omega)]
      exact ⟨.a (i + 1) (by omega) (fun j x hj hx => by
        by_cases e : j = i
        · subst e; exact .inl h2
        · exact h j x (by omega) hx), ⟨⟨rfl, rfl, rfl, rfl, rfl, rfl, trivial⟩, rfl, rfl, ⟨[], rfl⟩, rfl⟩, show ks.length - (i + 1) < ks.length - i by omega⟩
    · rename_i h1 h2
      have h1 : (i : Int) < ((Tm.rows ks).length : Nat) := of_decide_eq_true h1
      refine ⟨⟨by omega, h1⟩, fun row hrow => ?_⟩
      rw [trows_length] at h1
      obtain ⟨y, hy, rfl⟩ := trows_get ks i row (by simpa using hrow)
      have hlt : i < ks.length := by omega
      have ic := ih' y (List.mem_of_getElem? hy)
      have hnx := putTo_next name v k nm arg ks i y hy
      rw [h2, putTo_same name v k nm arg ks i hi h] at hnx
      simp only [Bool.false_eq_true, if_false] at hnx
      cases hq : tmhit name y with
      | false =>
        rw [hq, tmput_not name v y hq] at ic
        clear hnx hrow
        have hy' := hy
        clear hy
        obtain ⟨ky, ny, gy, uy, tky, tsy, uky, usy, ly, py, ksy⟩ := y
        conv => whnf
        repeat' first
          | refine AW.seq ?_
          | refine AW.block ?_
          | (refine AW.region tab_ok ?_; conv => whnf)
          | (refine AW.draw (id := 2) tab_ok mixed [0, 1, 2, 3, 4, 5, 6] (by kernel_rfl) ?_; conv => whnf)
          | (refine AW.cond ?_; conv => whnf)
          | (refine AW.skip ?_; conv => whnf)
          | (refine AW.ret ?_; conv => whnf)
          | (refine AW.exit ?_; conv => whnf)
          | (refine (ic).mono ?_; rintro _ _ ⟨rfl, rfl⟩; conv => whnf)
          | (refine And.intro (@rfl Val _) ?_; conv => whnf)
          | (refine And.intro (by decide) ?_; conv => whnf)
          | (refine cs (fun _ => ?_) (fun _ => ?_) <;> conv => whnf)
        rw [wrap64 (x := (i : Int) + 1) (by omega) (by omega)]
        exact ⟨.a (i + 1) (by omega) (fun j x hj hx => by
          by_cases e : j = i
          · subst e; rw [hy'] at hx; cases hx; exact .inr hq
          · exact h j x (by omega) hx), ⟨⟨rfl, rfl, rfl, rfl, rfl, rfl, trivial⟩, rfl, rfl, ⟨[_], rfl⟩, rfl⟩, show ks.length - (i + 1) < ks.length - i by omega⟩
      | true =>
        rw [hq] at ic
        have hhit : tmhits name k nm arg 0 ks = true := (tmhits_iff name k nm arg ks 0).2 ⟨i, y, hy, by simpa using h2, hq⟩
        generalize hz : tmput name v y = z at *
        clear hrow hz hq hy
        obtain ⟨ky, ny, gy, uy, tky, tsy, uky, usy, ly, py, ksy⟩ := y
        obtain ⟨kz, nz, gz, uz, tkz, tsz, ukz, usz, lz, pz, ksz⟩ := z
        conv => whnf
        repeat' first
          | ((show AW _ _ _ (Code.region 13 _ _) _ _; refine AW.ghostE 28 11 6 (by decide) rfl ?_; refine AW.region tab_ok ?_; conv => whnf))
          | refine AW.seq ?_
          | refine AW.block ?_
          | (refine AW.region tab_ok ?_; conv => whnf)
          | (refine AW.draw (id := 2) tab_ok mixed [0, 1, 2, 3, 4, 5, 6] (by kernel_rfl) ?_; conv => whnf)
          | (refine AW.cond ?_; conv => whnf)
          | (refine AW.skip ?_; conv => whnf)
          | (refine AW.ret ?_; conv => whnf)
          | (refine AW.exit ?_; conv => whnf)
          | (refine (ic).mono ?_; rintro _ _ ⟨rfl, rfl⟩; conv => whnf)
          | (refine And.intro (@rfl Val _) ?_; conv => whnf)
          | (refine And.intro (by decide) ?_; conv => whnf)
          | (refine cs (fun _ => ?_) (fun _ => ?_) <;> conv => whnf)
        refine ⟨⟨rfl, ?_, ?_⟩, ?_⟩
        · simp only [trows_length, List.length_nil]; omega
        · simp only [trows_length, List.length_nil]; omega
        conv => whnf
        repeat' first
          | refine AW.seq ?_
          | refine AW.block ?_
          | (refine AW.region tab_ok ?_; conv => whnf)
          | (refine AW.draw (id := 2) tab_ok mixed [0, 1, 2, 3, 4, 5, 6] (by kernel_rfl) ?_; conv => whnf)
          | (refine AW.cond ?_; conv => whnf)
          | (refine AW.skip ?_; conv => whnf)
          | (refine AW.ret ?_; conv => whnf)
          | (refine AW.exit ?_; conv => whnf)
          | (refine And.intro (@rfl Val _) ?_; conv => whnf)
          | (refine And.intro (by decide) ?_; conv => whnf)
          | (refine cs (fun _ => ?_) (fun _ => ?_) <;> conv => whnf)
        have el : ([] : List (List DV)).length + (Tm.rows ks).length = ([] ++ Tm.rows ks).length := by rw [List.length_append]
        refine ⟨⟨el, by omega, (show ((i : Nat) : Int) < (([] ++ Tm.rows ks).length : Nat) by rw [List.nil_append, trows_length]; omega)⟩, ?_⟩
        conv => whnf
        repeat' first
          | refine AW.seq ?_
          | refine AW.block ?_
          | (refine AW.region tab_ok ?_; conv => whnf)
          | (refine AW.draw (id := 2) tab_ok mixed [0, 1, 2, 3, 4, 5, 6] (by kernel_rfl) ?_; conv => whnf)
          | (refine AW.cond ?_; conv => whnf)
          | (refine AW.skip ?_; conv => whnf)
          | (refine AW.ret ?_; conv => whnf)
          | (refine AW.exit ?_; conv => whnf)
          | (refine And.intro (@rfl Val _) ?_; conv => whnf)
          | (refine And.intro (by decide) ?_; conv => whnf)
          | (refine cs (fun _ => ?_) (fun _ => ?_) <;> conv => whnf)
        refine ⟨⟨el, (show ((i : Nat) : Int).toNat < ([] ++ Tm.rows ks).length by rw [List.nil_append, trows_length]; omega)⟩, ?_⟩
        conv => whnf
        repeat' first
          | refine AW.seq ?_
          | refine AW.block ?_
          | (refine AW.region tab_ok ?_; conv => whnf)
          | (refine AW.draw (id := 2) tab_ok mixed [0, 1, 2, 3, 4, 5, 6] (by kernel_rfl) ?_; conv => whnf)
          | (refine AW.cond ?_; conv => whnf)
          | (refine AW.skip ?_; conv => whnf)
          | (refine AW.ret ?_; conv => whnf)
          | (refine AW.exit ?_; conv => whnf)
          | (refine And.intro (@rfl Val _) ?_; conv => whnf)
          | (refine And.intro (by decide) ?_; conv => whnf)
          | (refine cs (fun _ => ?_) (fun _ => ?_) <;> conv => whnf)
        have er : ([] ++ Tm.rows ks).set ((i : Nat) : Int).toNat (Tm.node kz nz gz uz tkz tsz ukz usz lz pz ksz).cells = Tm.rows (putTo name v k nm arg ks (i + 1)) := by
          rw [hnx, trows_map, trows_map, List.map_set]; rfl
        have er2 : ([] : List (List DV)).length + (Tm.rows ks).length = (Tm.rows (putTo name v k nm arg ks (i + 1))).length := by simp [trows_length, putTo_len]
        simp only [Tm.cells] at er
        rw [er, er2, wrap64 (x := (i : Int) + 1) (by omega) (by omega)]
        exact ⟨.b (i + 1) (by omega) hhit (Tm.node kz nz gz uz tkz tsz ukz usz lz pz ksz), ⟨⟨rfl, rfl, rfl, rfl, rfl, rfl, trivial⟩, rfl, rfl, ⟨[], rfl⟩, rfl⟩, show ks.length - (i + 1) < ks.length - i by omega⟩
    · rename_i h1
      have h1 : ¬ (i : Int) < ((Tm.rows ks).length : Nat) := of_decide_eq_false h1
      rw [trows_length] at h1
      obtain rfl : i = ks.length := by omega
      rw [putTo_same name v k nm arg ks ks.length hi h]
      have : tmhits name k nm arg 0 ks = false := by
        cases hq : tmhits name k nm arg 0 ks with
        | false => rfl
        | true =>
          obtain ⟨j, x, g1, g2, g3⟩ := (tmhits_iff name k nm arg ks 0).1 hq
          rcases h j x (List.getElem?_eq_some_iff.1 g1).1 g1 with e | e
          · rw [Nat.zero_add, e] at g2; cases g2
          · rw [e] at g3; cases g3
      rw [this]
      exact ⟨rfl, rfl⟩
  | b i hi h q =>
    obtain ⟨kq, nq, gq, uq, tkq, tsq, ukq, usq, lq, pq, ksq⟩ := q
    unfold putSt
    repeat' first
      | refine AW.seq ?_
      | refine AW.block ?_
      | (refine AW.region tab_ok ?_; conv => whnf)
      | (refine AW.draw (id := 2) tab_ok mixed [0, 1, 2, 3, 4, 5, 6] (by kernel_rfl) ?_; conv => whnf)
      | (refine AW.cond ?_; conv => whnf)
      | (refine AW.skip ?_; conv => whnf)
      | (refine AW.ret ?_; conv => whnf)
      | (refine AW.exit ?_; conv => whnf)
      | (refine (hide _).mono ?_; rintro _ _ ⟨rfl, rfl⟩; conv => whnf)
      | (refine And.intro (@rfl Val _) ?_; conv => whnf)
      | (refine And.intro (by decide) ?_; conv => whnf)
      | (refine cs (fun _ => ?_) (fun _ => ?_) <;> conv => whnf)
    · rename_i h1 h2
      have h1 : (i : Int) < ((Tm.rows ks).length : Nat) := of_decide_eq_true h1
      rw [trows_length] at h1
      obtain ⟨y, hy⟩ : ∃ y, ks[i]? = some y := ⟨_, List.getElem?_eq_getElem (by omega)⟩
      have hs := putTo_hid name v k nm arg ks i y hy (by rw [h2]; rfl)
      rw [wrap64 (x := (i : Int) + 1) (by omega) (by omega), ← hs]
      exact ⟨.b (i + 1) (by omega) h (Tm.node kq nq gq uq tkq tsq ukq usq lq pq ksq), ⟨⟨rfl, rfl, rfl, rfl, rfl, rfl, trivial⟩, rfl, rfl, ⟨[], rfl⟩, rfl⟩, show ks.length - (i + 1) < ks.length - i by omega⟩
    · rename_i h1 h2
      have h1 : (i : Int) < ((Tm.rows ks).length : Nat) := of_decide_eq_true h1
      refine ⟨⟨by omega, h1⟩, fun row hrow => ?_⟩
      rw [trows_length] at h1
      obtain ⟨y, hy, rfl⟩ := trows_get ks i row (by simpa using hrow)
      have hlt : i < ks.length := by omega
      have ic := ih' y (List.mem_of_getElem? hy)
      have hnx := putTo_next name v k nm arg ks i y hy
      rw [h2] at hnx
      simp only [Bool.false_eq_true, if_false] at hnx
      cases hq : tmhit name y with
      | false =>
        have hs := putTo_hid name v k nm arg ks i y hy (by rw [h2, tmput_not name v y hq]; rfl)
        rw [hq, tmput_not name v y hq] at ic
        clear hnx hrow hy
        obtain ⟨ky, ny, gy, uy, tky, tsy, uky, usy, ly, py, ksy⟩ := y
        conv => whnf
        repeat' first
          | refine AW.seq ?_
          | refine AW.block ?_
          | (refine AW.region tab_ok ?_; conv => whnf)
          | (refine AW.draw (id := 2) tab_ok mixed [0, 1, 2, 3, 4, 5, 6] (by kernel_rfl) ?_; conv => whnf)
          | (refine AW.cond ?_; conv => whnf)
          | (refine AW.skip ?_; conv => whnf)
          | (refine AW.ret ?_; conv => whnf)
          | (refine AW.exit ?_; conv => whnf)
          | (refine (ic).mono ?_; rintro _ _ ⟨rfl, rfl⟩; conv => whnf)
          | (refine And.intro (@rfl Val _) ?_; conv => whnf)
          | (refine And.intro (by decide) ?_; conv => whnf)
          | (refine cs (fun _ => ?_) (fun _ => ?_) <;> conv => whnf)
        rw [wrap64 (x := (i : Int) + 1) (by omega) (by omega), ← hs]
        exact ⟨.b (i + 1) (by omega) h (Tm.node kq nq gq uq tkq tsq ukq usq lq pq ksq), ⟨⟨rfl, rfl, rfl, rfl, rfl, rfl, trivial⟩, rfl, rfl, ⟨[_], rfl⟩, rfl⟩, show ks.length - (i + 1) < ks.length - i by omega⟩
      | true =>
        rw [hq] at ic
        generalize hz : tmput name v y = z at *
        clear hrow hz hq hy
        obtain ⟨ky, ny, gy, uy, tky, tsy, uky, usy, ly, py, ksy⟩ := y
        obtain ⟨kz, nz, gz, uz, tkz, tsz, ukz, usz, lz, pz, ksz⟩ := z
        have hpl : (Tm.rows (putTo name v k nm arg ks i)).length = ks.length := by rw [trows_length, putTo_len]
        conv => whnf
        repeat' first
          | refine AW.seq ?_
          | refine AW.block ?_
          | (refine AW.region tab_ok ?_; conv => whnf)
          | (refine AW.draw (id := 2) tab_ok mixed [0, 1, 2, 3, 4, 5, 6] (by kernel_rfl) ?_; conv => whnf)
          | (refine AW.cond ?_; conv => whnf)
          | (refine AW.skip ?_; conv => whnf)
          | (refine AW.ret ?_; conv => whnf)
          | (refine AW.exit ?_; conv => whnf)
          | (refine (ic).mono ?_; rintro _ _ ⟨rfl, rfl⟩; conv => whnf)
          | (refine And.intro (@rfl Val _) ?_; conv => whnf)
          | (refine And.intro (by decide) ?_; conv => whnf)
          | (refine cs (fun _ => ?_) (fun _ => ?_) <;> conv => whnf)
        refine ⟨⟨rfl, by omega⟩, ?_⟩
        conv => whnf
        repeat' first
          | refine AW.seq ?_
          | refine AW.block ?_
          | (refine AW.region tab_ok ?_; conv => whnf)
          | (refine AW.draw (id := 2) tab_ok mixed [0, 1, 2, 3, 4, 5, 6] (by kernel_rfl) ?_; conv => whnf)
          | (refine AW.cond ?_; conv => whnf)
          | (refine AW.skip ?_; conv => whnf)
          | (refine AW.ret ?_; conv => whnf)
          | (refine AW.exit ?_; conv => whnf)
          | (refine (ic).mono ?_; rintro _ _ ⟨rfl, rfl⟩; conv => whnf)
          | (refine And.intro (@rfl Val _) ?_; conv => whnf)
          | (refine And.intro (by decide) ?_; conv => whnf)
          | (refine cs (fun _ => ?_) (fun _ => ?_) <;> conv => whnf)
        refine ⟨⟨rfl, by omega, (show ((i : Nat) : Int) < ((Tm.rows (putTo name v k nm arg ks i)).length : Nat) by omega)⟩, ?_⟩
        conv => whnf
        repeat' first
          | refine AW.seq ?_
          | refine AW.block ?_
          | (refine AW.region tab_ok ?_; conv => whnf)
          | (refine AW.draw (id := 2) tab_ok mixed [0, 1, 2, 3, 4, 5, 6] (by kernel_rfl) ?_; conv => whnf)
          | (refine AW.cond ?_; conv => whnf)
          | (refine AW.skip ?_; conv => whnf)
          | (refine AW.ret ?_; conv => whnf)
          | (refine AW.exit ?_; conv => whnf)
          | (refine And.intro (@rfl Val _) ?_; conv => whnf)
          | (refine And.intro (by decide) ?_; conv => whnf)
          | (refine cs (fun _ => ?_) (fun _ => ?_) <;> conv => whnf)
        refine ⟨⟨rfl, (show ((i : Nat) : Int).toNat < (Tm.rows (putTo name v k nm arg ks i)).length by omega)⟩, ?_⟩
        conv => whnf
        repeat' first
          | refine AW.seq ?_
          | refine AW.block ?_
          | (refine AW.region tab_ok ?_; conv => whnf)
          | (refine AW.draw (id := 2) tab_ok mixed [0, 1, 2, 3, 4, 5, 6] (by kernel_rfl) ?_; conv => whnf)
          | (refine AW.cond ?_; conv => whnf)
          | (refine AW.skip ?_; conv => whnf)
          | (refine AW.ret ?_; conv => whnf)
          | (refine AW.exit ?_; conv => whnf)
          | (refine And.intro (@rfl Val _) ?_; conv => whnf)
          | (refine And.intro (by decide) ?_; conv => whnf)
          | (refine cs (fun _ => ?_) (fun _ => ?_) <;> conv => whnf)
        have er : (Tm.rows (putTo name v k nm arg ks i)).set ((i : Nat) : Int).toNat (Tm.node kz nz gz uz tkz tsz ukz usz lz pz ksz).cells = Tm.rows (putTo name v k nm arg ks (i + 1)) := by
          rw [hnx, trows_map, trows_map, List.map_set]; rfl
        have er2 : (Tm.rows (putTo name v k nm arg ks i)).length = (Tm.rows (putTo name v k nm arg ks (i + 1))).length := by simp [trows_length, putTo_len]
        simp only [Tm.cells] at er
        rw [er, er2, wrap64 (x := (i : Int) + 1) (by omega) (by omega)]
        exact ⟨.b (i + 1) (by omega) h (Tm.node kq nq gq uq tkq tsq ukq usq lq pq ksq), ⟨⟨rfl, rfl, rfl, rfl, rfl, rfl, trivial⟩, rfl, rfl, ⟨[_], rfl⟩, rfl⟩, show ks.length - (i + 1) < ks.length - i by omega⟩
    · rename_i h1
      have h1 : ¬ (i : Int) < ((Tm.rows ks).length : Nat) := of_decide_eq_false h1
      rw [trows_length] at h1
      obtain rfl : i = ks.length := by omega
      have hpos : 0 < ks.length := by
        obtain ⟨j, x, g1, _, _⟩ := (tmhits_iff name k nm arg ks 0).1 h
        have := (List.getElem?_eq_some_iff.1 g1).1
        omega
      have hpl : (Tm.rows (putTo name v k nm arg ks ks.length)).length = ks.length := by rw [trows_length, putTo_len]
      rw [h]
      refine ⟨⟨rfl, by omega⟩, ?_⟩
      conv => whnf
      repeat' first
        | refine AW.seq ?_
        | refine AW.block ?_
        | (refine AW.region tab_ok ?_; conv => whnf)
        | (refine AW.draw (id := 2) tab_ok mixed [0, 1, 2, 3, 4, 5, 6] (by kernel_rfl) ?_; conv => whnf)
        | (refine AW.cond ?_; conv => whnf)
        | (refine AW.skip ?_; conv => whnf)
        | (refine AW.ret ?_; conv => whnf)
        | (refine AW.exit ?_; conv => whnf)
        | (refine And.intro (@rfl Val _) ?_; conv => whnf)
        | (refine And.intro (by decide) ?_; conv => whnf)
        | (refine cs (fun _ => ?_) (fun _ => ?_) <;> conv => whnf)
      refine ⟨rfl, ?_⟩
      conv => whnf
      exact ⟨rfl, rfl⟩
end Go.Proofs.Ytoglfnjankinnaa.E
