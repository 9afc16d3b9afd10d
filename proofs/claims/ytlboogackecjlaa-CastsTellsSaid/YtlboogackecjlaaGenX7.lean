/- Texts, merged: TyOpen, Cs1, Tm13, Tm14. No conditions. -/
import Derived.Test.YtlboogackecjlaaGenX2
import Derived.Deep.Slices
import Derived.WideKeyArgs
import Derived.ChangeArms
import Derived.ChangeOld
import Derived.Below
import Derived.Test.YtlboogackecjlaaGenX6
/- From a row's reading of an argument to a tree. No conditions. -/
set_option linter.unusedVariables false
set_option linter.unusedSimpArgs false
namespace Go.Proofs.Ytlboogackecjlaa.E
open Go Go.RowKit

/-- All that was there is one region. -/
def rgAll (w : World) : Nat → Option Nat := fun b => if b < w.heap.size then some 0 else none
def czAll (w : World) : Cz := ⟨[], rgAll w⟩
theorem inv_all (w : World) : Inv w (czAll w) [] :=
  ⟨rfl, fun i o e h => by simp at h, fun i o e b h => by simp at h, fun i j o p e f b h => by simp at h, fun b r h => by
    simp only [czAll, rgAll] at h
    split at h
    · assumption
    · cases h⟩

theorem cell_parts {w : World} {a : Addr} {v : Value} (h : w.cell? a = some v) : a.spot = none ∧ ∃ cs e fz, w.heap[a.block]? = some (.cells cs e fz) ∧ cs[a.off]? = some v := by
  have hs := World.cell?_spot h
  refine ⟨hs, ?_⟩
  unfold World.cell? at h
  split at h
  · rename_i cs e fz hh
    exact ⟨cs, e, fz, hh, by simpa [hs] using h⟩
  · cases h

noncomputable def fld (t i : Nat) : Field := match Try.prog.underlying t with
  | some (.struct fs) => fs.getD i default
  | _ => default
theorem u30 : Try.prog.underlying 25 = some (.struct #[fld 25 0, fld 25 1]) := by kernel_rfl
theorem f30_0 : (fld 25 0).type = 22 ∧ (fld 25 0).offset = 0 := ⟨by kernel_rfl, by kernel_rfl⟩
theorem f30_1 : (fld 25 1).type = 23 ∧ (fld 25 1).offset = 1 := ⟨by kernel_rfl, by kernel_rfl⟩
theorem u28 : Try.prog.underlying 23 = some (.slice 25) := by kernel_rfl
theorem u27 : Try.prog.underlying 22 = some (.int .i8) := by kernel_rfl
theorem c30 : Try.prog.cellsOf 25 = 2 := by kernel_rfl
theorem c28 : Try.prog.cellsOf 23 = 1 := by kernel_rfl
theorem c27 : Try.prog.cellsOf 22 = 1 := by kernel_rfl

/-- The cells of a value stand for the data. -/
def Stand (w : World) (cs : List Value) (xs : List DV) : Prop := cs.length = xs.length ∧ ∀ (i : Nat) v x, cs[i]? = some v → xs[i]? = some x → RepD w (rgAll w) v x

section
variable {H : Type} {enc : TypeId × Value → H} {w : World} {base : Nat} {spare : Nat → Bool} {held : Bool}

theorem list_of {α : Type} {Q : Nat → α → Prop} : ∀ n, (∀ i, i < n → ∃ x, Q i x) → ∃ xs : List α, xs.length = n ∧ ∀ (i : Nat) x, xs[i]? = some x → Q i x
  | 0, _ => ⟨[], rfl, fun i x h => by simp at h⟩
  | n + 1, h => by
    obtain ⟨xs, h1, h2⟩ := list_of n (fun i hi => h i (by omega))
    obtain ⟨x, hx⟩ := h n (by omega)
    refine ⟨xs ++ [x], by simp [h1], fun i y hy => ?_⟩
    by_cases hi : i < n
    · rw [List.getElem?_append_left (by omega)] at hy
      exact h2 i y hy
    · rw [List.getElem?_append_right (by omega)] at hy
      cases he : i - xs.length with
      | zero =>
        rw [he] at hy
        simp at hy
        subst hy
        obtain rfl : i = n := by omega
        exact hx
      | succ k => rw [he] at hy; simp at hy

theorem add_none (b o k : Nat) : (⟨b, o, none⟩ : Addr).add k = ⟨b, o + k, none⟩ := by
  unfold Addr.add
  split
  · rename_i h; subst h; rfl
  · rfl

/-- A slice, from its elements. -/
theorem stand_slice {α : Type} (sz : Nat) (hsz : 0 < sz) (f : α → List DV) (hf : ∀ x, (f x).length = sz) {a : Addr} {len cap : Nat} (hlc : len ≤ cap) (h : ∀ i, i < len → ∃ x cs, w.cells? base (a.add (i * sz)) sz = some cs ∧ Stand w cs (f x)) :
    ∃ xs : List α, xs.length = len ∧ RepD w (rgAll w) (.slice (some a) len cap) (.sl 0 sz (xs.map f)) := by
  obtain ⟨xs, hx1, hx2⟩ := list_of len h
  refine ⟨xs, hx1, ?_⟩
  cases xs with
  | nil =>
    simp at hx1
    subst hx1
    exact .sl0 (some a) 0 sz cap
  | cons x0 xr =>
    obtain ⟨cs0, g1, g2⟩ := hx2 0 x0 rfl
    obtain ⟨_, g3, g4⟩ := World.cells?_some g1
    have hc0 := g4 0 hsz
    rw [List.getElem?_eq_getElem (by omega)] at hc0
    obtain ⟨k1, cs, e, fz, k2, k3⟩ := cell_parts hc0
    obtain ⟨b, o, spot⟩ := a
    have hspot : spot = none := by simpa [Addr.add] using k1
    subst hspot
    simp only [Nat.zero_mul, add_none, Nat.add_zero] at k2
    have hlt : b < w.heap.size := by
      rcases Nat.lt_or_ge b w.heap.size with h | h
      · exact h
      · rw [Array.getElem?_eq_none h] at k2; cases k2
    have hcell : ∀ (j i : Nat) x, (x0 :: xr)[j]? = some x → i < sz → ∃ v, cs[o + j * sz + i]? = some v ∧ ∀ y, (f x)[i]? = some y → RepD w (rgAll w) v y := fun j i x hj hi => by
      obtain ⟨cs', q1, q2, q3⟩ := hx2 j x hj
      obtain ⟨_, q4, q5⟩ := World.cells?_some q1
      have q6 := q5 i hi
      rw [List.getElem?_eq_getElem (by omega)] at q6
      obtain ⟨_, cs2, e2, fz2, r2, r3⟩ := cell_parts q6
      simp only [add_none] at r2 r3
      rw [k2] at r2
      cases r2
      exact ⟨_, r3, fun y hy => q3 i _ y (List.getElem?_eq_getElem (by omega)) hy⟩
    refine .sl 0 sz b o len cap _ cs e fz (fun j i => (cs[o + j * sz + i]?).getD undef) ⟨⟨0, by simp [rgAll, hlt], rfl, .inl rfl⟩, fun h => by rcases h with h | h <;> cases h⟩ k2 (by simpa using hx1.symm) hlc (fun row hr => ?_) (fun j i hj hi => ?_) (fun j i row y hj hi => ?_)
    · obtain ⟨x, _, rfl⟩ := List.mem_map.1 hr
      exact hf x
    · obtain ⟨v, hv, _⟩ := hcell j i _ (List.getElem?_eq_getElem (by omega)) hi
      rw [hv]; rfl
    · rw [List.getElem?_map] at hj
      cases hjx : (x0 :: xr)[j]? with
      | none => rw [hjx] at hj; cases hj
      | some x =>
        rw [hjx] at hj
        cases hj
        have hil : i < sz := by
          have := (List.getElem?_eq_some_iff.1 hi).1
          rw [hf] at this; exact this
        obtain ⟨v, hv, hr⟩ := hcell j i x hjx hil
        show RepD w (rgAll w) ((cs[o + j * sz + i]?).getD undef) y
        rw [hv]
        exact hr y hi

theorem rows_map : ∀ ks : List Ty, Ty.rows ks = ks.map Ty.cells
  | [] => rfl
  | t :: l => by simp [Ty.rows, rows_map l]
theorem cells_len (t : Ty) : t.cells.length = 2 := by cases t; rfl

end

/-- What was there is as it was. -/
theorem below_same {w w' : World} (h : Below w.heap.size w w') {p : MemPlace} (hp : p.block < w.heap.size) : w.sameAt w' p := by
  cases p with
  | cell b off =>
    show w'.cell? _ = w.cell? _
    unfold World.cell?
    rw [h.block b hp]
  | map b => exact h.block b hp
end Go.Proofs.Ytlboogackecjlaa.E

/- Walks: LikeType, LikeTerm of a thing and itself; casts.whole, high, height. No conditions. -/
set_option linter.unusedVariables false
set_option linter.unusedSimpArgs false
namespace Go.Proofs.Ytlboogackecjlaa.E
open Go

/-! ### casts.whole -/
set_option maxRecDepth 10000 in
theorem cwhole_call (a : Ty) : nodes a ≤ 8192 → ACall Try.prog 43 [a.val] [] (fun o σ => o = .ret a.val ∧ σ = []) := by
  induction a using Ty.ind with
  | _ k ks ih =>
  intro ha
  have hle := nodes_len ha
  refine ACall.body tab_ok (ρ := 0) (N := 25) Try.func43 rfl rfl rfl rfl rfl ?_
  repeat' first | refine AW.seq ?_ | refine AW.block ?_ | (refine (id : AW _ _ _ (.region 5 _ true) _ _ → _) ?_; refine AW.draw (id := 5) tab_ok mixed [0, 1, 2, 3, 4, 5, 6, 7] (by kernel_rfl) ?_; conv => whnf) | ((first | refine AW.region tab_ok ?_ | refine AW.cond ?_ | refine AW.skip ?_ | refine AW.ret ?_ | refine AW.exit ?_); conv => whnf) | ((first | refine And.intro (@rfl Val _) ?_ | refine And.intro (by decide) ?_ | refine cs (fun _ => ?_) (fun _ => ?_)) <;> conv => whnf)
  refine AW.ghost 25 2 2 1 (by decide) rfl rfl ?_
  refine AW.loop (ι := UpTo ks) (fun x => ⟨25, [(12, .c (.d (.int .i64 x.i))), (11, .c (.d (.int .i64 (Ty.rows ks).length))), (10, .c (.d (.sl 0 2 (Ty.rows ks)))), (2, .c (.ptr 1 0)), (3, .c (.ptr 2 0))],
      [.var [.d (.int .i8 k), .d (.sl 0 2 (Ty.rows ks))], .var [.d (.int .i8 0), .d .nils], .var [.d (.int .i8 k), .own 3 (Ty.rows (ks.take x.i)).length], .row 25 2 (Ty.rows (ks.take x.i))], []⟩)
    (fun x => ks.length - x.i) ⟨0, Nat.zero_le _⟩ 4 (fun _ => rfl) (Nat.le_of_ble_eq_true rfl) ⟨⟨rfl, rfl, rfl, rfl, rfl, trivial⟩, rfl, rfl, ⟨[], rfl⟩, rfl⟩ (fun x => ?_)
  obtain ⟨i, hi⟩ := x
  repeat' first | refine AW.seq ?_ | refine AW.block ?_ | (refine (id : AW _ _ _ (.region 5 _ true) _ _ → _) ?_; refine AW.draw (id := 5) tab_ok mixed [0, 1, 2, 3, 4, 5, 6, 7] (by kernel_rfl) ?_; conv => whnf) | ((first | refine AW.region tab_ok ?_ | refine AW.cond ?_ | refine AW.skip ?_ | refine AW.ret ?_ | refine AW.exit ?_); conv => whnf) | ((first | refine And.intro (@rfl Val _) ?_ | refine And.intro (by decide) ?_ | refine cs (fun _ => ?_) (fun _ => ?_)) <;> conv => whnf)
  · rename_i h1
    simp only [rows_length] at h1
    have := of_decide_eq_true h1
    refine ⟨by simp only [rows_length]; omega, fun row hrow => ?_⟩
    obtain ⟨x, ht, rfl⟩ := rows_get ks i row (by simpa using hrow)
    have hlt : i < ks.length := (List.getElem?_eq_some_iff.1 ht).1
    have hm := List.mem_of_getElem? ht
    have hc := ih x hm (nodes_kid ha hm)
    have hmt : ks.take (i + 1) = ks.take i ++ [x] := by
      rw [List.take_add_one, ht]; rfl
    obtain ⟨km, kms⟩ := x
    conv => whnf
    repeat' first | refine AW.seq ?_ | refine AW.block ?_ | (refine (id : AW _ _ _ (.region 5 _ true) _ _ → _) ?_; refine AW.draw (id := 5) tab_ok mixed [0, 1, 2, 3, 4, 5, 6, 7] (by kernel_rfl) ?_; conv => whnf) | ((first | refine AW.region tab_ok ?_ | refine AW.cond ?_ | refine AW.skip ?_ | refine AW.ret ?_ | refine AW.exit ?_); conv => whnf) | (refine (hc).mono ?_; rintro _ _ ⟨rfl, rfl⟩; conv => whnf) | ((first | refine And.intro (@rfl Val _) ?_ | refine And.intro (by decide) ?_ | refine cs (fun _ => ?_) (fun _ => ?_)) <;> conv => whnf)
    refine ⟨⟨rfl, ?_, ?_⟩, ?_⟩
    · simp only [rows_length, List.length_take, List.length_cons, List.length_nil]
      omega
    · simp only [rows_length, List.length_take, List.length_cons, List.length_nil]
      omega
    conv => whnf
    repeat' first | refine AW.seq ?_ | refine AW.block ?_ | (refine (id : AW _ _ _ (.region 5 _ true) _ _ → _) ?_; refine AW.draw (id := 5) tab_ok mixed [0, 1, 2, 3, 4, 5, 6, 7] (by kernel_rfl) ?_; conv => whnf) | ((first | refine AW.region tab_ok ?_ | refine AW.cond ?_ | refine AW.skip ?_ | refine AW.ret ?_ | refine AW.exit ?_); conv => whnf) | ((first | refine And.intro (@rfl Val _) ?_ | refine And.intro (by decide) ?_ | refine cs (fun _ => ?_) (fun _ => ?_)) <;> conv => whnf)
    have e : Ty.rows (ks.take i) ++ [[.int .i8 km, .sl 0 2 (Ty.rows kms)]] = Ty.rows (ks.take (i + 1)) := by
      rw [hmt, rows_map (ks.take i), rows_map (ks.take i ++ _), List.map_append]; rfl
    have el : (Ty.rows (ks.take i)).length + [[DV.int .i8 km, .sl 0 2 (Ty.rows kms)]].length = (Ty.rows (ks.take (i + 1))).length := by
      rw [← List.length_append, e]
    rw [el, e, wrap64 (x := (i : Int) + 1) (by omega) (by omega)]
    exact ⟨⟨i + 1, hlt⟩, ⟨⟨rfl, rfl, rfl, rfl, rfl, trivial⟩, rfl, rfl, ⟨[_], rfl⟩, rfl⟩, show ks.length - (i + 1) < ks.length - i by omega⟩
  · rename_i h1
    simp only [rows_length] at h1
    have := of_decide_eq_false h1
    obtain rfl : i = ks.length := by omega
    have e : ks.take ks.length = ks := List.take_of_length_le (by omega)
    simp only [e]
    first | refine ⟨trivial, ?_⟩ | refine ⟨rfl, ?_⟩ | skip
    conv => whnf
    first | exact ⟨rfl, rfl⟩ | exact ⟨rfl, trivial⟩ | (simp; rfl)
/-! ### high, height -/
mutual
def tyH : Ty → Nat
  | .node _ ks => 1 + tyHL ks
def tyHL : List Ty → Nat
  | [] => 0
  | t :: l => max (tyH t) (tyHL l)
end
theorem tyHL_take : ∀ (ks : List Ty) (i : Nat) t, ks[i]? = some t → tyHL (ks.take (i + 1)) = max (tyHL (ks.take i)) (tyH t)
  | x :: l, 0, t, h => by simp at h; subst h; simp [tyHL]
  | x :: l, i + 1, t, h => by
    simp only [List.getElem?_cons_succ] at h
    have := tyHL_take l i t h
    simp only [List.take_succ_cons, tyHL, this]
    omega
theorem tyH_le (t : Ty) : tyH t ≤ nodes t := by
  induction t using Ty.ind with
  | _ k ks ih =>
  have : ∀ l : List Ty, (∀ t ∈ l, tyH t ≤ nodes t) → tyHL l ≤ nodesL l := fun l => by
    induction l with
    | nil => intro _; simp [tyHL]
    | cons x l ihl =>
      intro h
      have h1 := h x (by simp)
      have h2 := ihl fun t ht => h t (by simp [ht])
      simp only [tyHL, nodesL]
      omega
  have := this ks ih
  simp only [tyH, nodes]
  omega
theorem tyHL_le (l : List Ty) : tyHL l ≤ nodesL l := by
  have := tyH_le (.node 0 l)
  simp only [tyH, nodes] at this
  omega
set_option maxRecDepth 10000 in
theorem high_call : ∀ (n : Nat) (ks : List Ty), nodesL ks ≤ n → n ≤ 16384 → ACall Try.prog 79 [.c (.d (.sl 0 2 (Ty.rows ks)))] [] (fun o σ => o = .ret (.c (.d (.int .i64 (tyHL ks)))) ∧ σ = []) := by
  intro n
  induction n using Nat.strongRecOn with
  | _ n ih =>
  intro ks hN hn
  have hlen := nodesL_len ks
  refine ACall.body tab_ok (ρ := 0) (N := 20) Try.func79 rfl rfl rfl rfl rfl ?_
  repeat' first | refine AW.seq ?_ | refine AW.block ?_ | ((first | refine AW.region tab_ok ?_ | refine AW.cond ?_ | refine AW.skip ?_ | refine AW.ret ?_ | refine AW.exit ?_); conv => whnf) | ((first | refine And.intro (@rfl Val _) ?_ | refine And.intro (by decide) ?_ | refine cs (fun _ => ?_) (fun _ => ?_)) <;> conv => whnf)
  refine AW.loop (ι := UpTo ks) (fun x => ⟨20, [(8, .c (.d (.int .i64 x.i))), (7, .c (.d (.int .i64 (Ty.rows ks).length))), (6, .c (.d (.sl 0 2 (Ty.rows ks)))), (3, .c (.d (.int .i64 (tyHL (ks.take x.i)))))], [], []⟩)
    (fun x => ks.length - x.i) ⟨0, Nat.zero_le _⟩ 0 (fun _ => rfl) (Nat.le_of_ble_eq_true rfl) ⟨⟨rfl, rfl, rfl, rfl, trivial⟩, rfl, rfl, ⟨[], rfl⟩, rfl⟩ (fun x => ?_)
  obtain ⟨i, hi⟩ := x
  repeat' first | refine AW.seq ?_ | refine AW.block ?_ | ((first | refine AW.region tab_ok ?_ | refine AW.cond ?_ | refine AW.skip ?_ | refine AW.ret ?_ | refine AW.exit ?_); conv => whnf) | ((first | refine And.intro (@rfl Val _) ?_ | refine And.intro (by decide) ?_ | refine cs (fun _ => ?_) (fun _ => ?_)) <;> conv => whnf)
  · rename_i h1
    simp only [rows_length] at h1
    have := of_decide_eq_true h1
    refine ⟨by simp only [rows_length]; omega, fun row hrow => ?_⟩
    obtain ⟨⟨km, kms⟩, ht, rfl⟩ := rows_get ks i row (by simpa using hrow)
    have hlt : i < ks.length := (List.getElem?_eq_some_iff.1 ht).1
    have hm := List.mem_of_getElem? ht
    have hnm := nodes_mem ks _ hm
    have h1 := tyHL_le kms
    simp only [nodes] at hnm
    have hc := ih (nodesL kms) (by omega) kms (Nat.le_refl _) (by omega)
    have hn := tyHL_take ks i _ ht
    simp only [tyH] at hn
    conv => whnf
    repeat' first | refine AW.seq ?_ | refine AW.block ?_ | ((first | refine AW.region tab_ok ?_ | refine AW.cond ?_ | refine AW.skip ?_ | refine AW.ret ?_ | refine AW.exit ?_); conv => whnf) | (refine (hc).mono ?_; rintro _ _ ⟨rfl, rfl⟩; conv => whnf) | ((first | refine And.intro (@rfl Val _) ?_ | refine And.intro (by decide) ?_ | refine cs (fun _ => ?_) (fun _ => ?_)) <;> conv => whnf)
    rw [wrap64 (x := (i : Int) + 1) (by omega) (by omega), wrap64 (x := (1 : Int) + (tyHL kms : Int)) (by omega) (by omega), show max ((tyHL (List.take i ks) : Nat) : Int) ((1 : Int) + (tyHL kms : Int)) = (tyHL (List.take (i + 1) ks) : Nat) by rw [hn]; omega]
    exact ⟨⟨i + 1, hlt⟩, ⟨⟨rfl, rfl, rfl, rfl, trivial⟩, rfl, rfl, ⟨[_], rfl⟩, rfl⟩, show ks.length - (i + 1) < ks.length - i by omega⟩
  · rename_i h1
    simp only [rows_length] at h1
    have := of_decide_eq_false h1
    obtain rfl : i = ks.length := by omega
    simp only [List.take_length]
    first | exact ⟨rfl, rfl⟩ | exact ⟨rfl, trivial⟩
mutual
def tmH : Tm → Nat
  | .node k name arg num tk tks uk uks label place ks => max (max (if typeK k then tyH (.node tk tks) else 0) (if toK k then tyH (.node uk uks) else 0)) (tmHL ks)
def tmHL : List Tm → Nat
  | [] => 0
  | t :: l => max (tmH t) (tmHL l)
end
theorem tmHL_take : ∀ (ks : List Tm) (i : Nat) t, ks[i]? = some t → tmHL (ks.take (i + 1)) = max (tmHL (ks.take i)) (tmH t)
  | x :: l, 0, t, h => by simp at h; subst h; simp [tmHL]
  | x :: l, i + 1, t, h => by
    simp only [List.getElem?_cons_succ] at h
    have := tmHL_take l i t h
    simp only [List.take_succ_cons, tmHL, this]
    omega
noncomputable def rest110 : Code := match Try.f51.body with
  | some (.seq _ (.seq _ (.seq _ c))) => c
  | _ => .skip
set_option maxRecDepth 10000 in
theorem height_rest (k : Int) (name arg : ByteArray) (num tk : Int) (tks : List Ty) (uk : Int) (uks : List Ty) (label place : Int) (ks : List Tm) (d0 : Nat) (hd : d0 ≤ 16384) (hlen : ks.length ≤ 8192)
    (ih : ∀ t ∈ ks, ACall Try.prog 51 [.c (.d (.rp 0 t.cells))] [] (fun o σ => o = .ret (.c (.d (.int .i64 (tmH t)))) ∧ σ = [])) :
    AW Try.prog tab 0 rest110 ⟨53, [(0, .c (.d (.rp 0 (Tm.node k name arg num tk tks uk uks label place ks).cells))), (3, .c (.d (.int .i64 d0)))], [], []⟩
      (afin tab 0 51 [.tmp 2] 0 (fun o σ => o = .ret (.c (.d (.int .i64 (max d0 (tmHL ks) : Nat)))) ∧ σ = [])) := by
  repeat' first | refine AW.seq ?_ | refine AW.block ?_ | (refine (id : AW _ _ _ (.region 11 _ true) _ _ → _) ?_; refine AW.draw (id := 11) tab_ok mixed [0, 1, 2, 3, 4, 5, 6, 7, 8, 9, 10] (by kernel_rfl) ?_; conv => whnf) | ((first | refine AW.region tab_ok ?_ | refine AW.cond ?_ | refine AW.skip ?_ | refine AW.ret ?_ | refine AW.exit ?_); conv => whnf) | ((first | refine And.intro (@rfl Val _) ?_ | refine And.intro (by decide) ?_ | refine cs (fun _ => ?_) (fun _ => ?_)) <;> conv => whnf)
  refine AW.loop (ι := UpToT ks) (fun x => ⟨53, [(39, .c (.d (.int .i64 x.i))), (38, .c (.d (.int .i64 (Tm.rows ks).length))), (0, .c (.d (.rp 0 (Tm.node k name arg num tk tks uk uks label place ks).cells))), (3, .c (.d (.int .i64 (max d0 (tmHL (ks.take x.i)) : Nat))))], [], []⟩)
    (fun x => ks.length - x.i) ⟨0, Nat.zero_le _⟩ 0 (fun _ => rfl) (Nat.le_of_ble_eq_true rfl) ⟨⟨rfl, rfl, rfl, ?_, trivial⟩, rfl, rfl, ⟨[], rfl⟩, rfl⟩ (fun x => ?_)
  · show Val.c (.d (.int .i64 _)) = Val.c (.d (.int .i64 _))
    simp [tmHL]
  obtain ⟨i, hi⟩ := x
  repeat' first | refine AW.seq ?_ | refine AW.block ?_ | (refine (id : AW _ _ _ (.region 11 _ true) _ _ → _) ?_; refine AW.draw (id := 11) tab_ok mixed [0, 1, 2, 3, 4, 5, 6, 7, 8, 9, 10] (by kernel_rfl) ?_; conv => whnf) | ((first | refine AW.region tab_ok ?_ | refine AW.cond ?_ | refine AW.skip ?_ | refine AW.ret ?_ | refine AW.exit ?_); conv => whnf) | ((first | refine And.intro (@rfl Val _) ?_ | refine And.intro (by decide) ?_ | refine cs (fun _ => ?_) (fun _ => ?_)) <;> conv => whnf)
  · rename_i h1
    simp only [trows_length] at h1
    have := of_decide_eq_true h1
    refine ⟨by simp only [trows_length]; omega, fun row hrow => ?_⟩
    obtain ⟨t, ht, rfl⟩ := trows_get ks i row (by simpa using hrow)
    have hlt : i < ks.length := (List.getElem?_eq_some_iff.1 ht).1
    have hm := List.mem_of_getElem? ht
    have hc := ih t hm
    have hn := tmHL_take ks i _ ht
    conv => whnf
    repeat' first | refine AW.seq ?_ | refine AW.block ?_ | (refine (id : AW _ _ _ (.region 11 _ true) _ _ → _) ?_; refine AW.draw (id := 11) tab_ok mixed [0, 1, 2, 3, 4, 5, 6, 7, 8, 9, 10] (by kernel_rfl) ?_; conv => whnf) | ((first | refine AW.region tab_ok ?_ | refine AW.cond ?_ | refine AW.skip ?_ | refine AW.ret ?_ | refine AW.exit ?_); conv => whnf) | (refine (hc).mono ?_; rintro _ _ ⟨rfl, rfl⟩; conv => whnf) | ((first | refine And.intro (@rfl Val _) ?_ | refine And.intro (by decide) ?_ | refine cs (fun _ => ?_) (fun _ => ?_)) <;> conv => whnf)
    rw [wrap64 (x := (i : Int) + 1) (by omega) (by omega), show max ((max d0 (tmHL (List.take i ks)) : Nat) : Int) (tmH t : Int) = (max d0 (tmHL (List.take (i + 1) ks)) : Nat) by rw [hn]; omega]
    exact ⟨⟨i + 1, hlt⟩, ⟨⟨rfl, rfl, rfl, rfl, trivial⟩, rfl, rfl, ⟨[], rfl⟩, rfl⟩, show ks.length - (i + 1) < ks.length - i by omega⟩
  · rename_i h1
    simp only [trows_length] at h1
    have := of_decide_eq_false h1
    obtain rfl : i = ks.length := by omega
    simp only [List.take_length]
    first | exact ⟨rfl, rfl⟩ | exact ⟨rfl, trivial⟩
set_option maxRecDepth 10000 in
set_option maxHeartbeats 4000000 in
theorem height_call (t : Tm) : tmN t ≤ 8192 → tmright t = true → ACall Try.prog 51 [.c (.d (.rp 0 t.cells))] [] (fun o σ => o = .ret (.c (.d (.int .i64 (tmH t)))) ∧ σ = []) := by
  induction t using Tm.ind with
  | _ k name arg num tk tks uk uks label place ks ih =>
  intro hN ha
  have hlen := tmNL_len ks
  simp only [tmN] at hN
  have ih' : ∀ t ∈ ks, ACall Try.prog 51 [.c (.d (.rp 0 t.cells))] [] (fun o σ => o = .ret (.c (.d (.int .i64 (tmH t)))) ∧ σ = []) := fun t ht => ih t ht (by have := tmN_mem ks t ht; omega) (tmright_kid ha ht)
  have hv := tmright_valid ha
  have n1 : typeK k = true → nodes (.node tk tks) ≤ 8192 := fun h => by rw [if_pos h] at hN; omega
  have n2 : toK k = true → nodes (.node uk uks) ≤ 8192 := fun h => by rw [if_pos h] at hN; omega
  have fin : ∀ d0 : Nat, max (if typeK k then tyH (.node tk tks) else 0) (if toK k then tyH (.node uk uks) else 0) = d0 → ∀ env, get env 0 = .c (.d (.rp 0 (Tm.node k name arg num tk tks uk uks label place ks).cells)) → get env 3 = .c (.d (.int .i64 d0)) →
      AW Try.prog tab 0 rest110 ⟨53, env, [], []⟩ (afin tab 0 51 Try.f51.results.toList ([] : List AObj).length (fun o σ => o = .ret (.c (.d (.int .i64 (tmH (.node k name arg num tk tks uk uks label place ks))))) ∧ σ = [])) := fun d0 hd env g0 g3 => by
    have e : tmH (.node k name arg num tk tks uk uks label place ks) = max d0 (tmHL ks) := by simp only [tmH, hd]
    have hd0 : d0 ≤ 16384 := by
      have h1 := tyH_le (.node tk tks)
      have h2 := tyH_le (.node uk uks)
      subst hd
      split <;> split <;> rename_i q1 q2 <;> (try have := n1 q1) <;> (try have := n2 q2) <;> omega
    rw [e]
    refine AW.fits ?_ ?_ (height_rest k name arg num tk tks uk uks label place ks d0 hd0 (by omega) ih')
    · exact ⟨⟨g0, g3, trivial⟩, rfl, rfl, ⟨[], rfl⟩, rfl⟩
    · rfl
  have w1 : typeK k = true → ACall Try.prog 79 [.c (.d (.sl 0 2 (Ty.rows [.node tk tks])))] [] (fun o σ => o = .ret (.c (.d (.int .i64 (tyHL [.node tk tks])))) ∧ σ = []) := fun h => high_call _ _ (Nat.le_refl _) (by have := n1 h; simp only [nodesL]; omega)
  have w2 : typeK k = true → toK k = true → ACall Try.prog 79 [.c (.d (.sl 0 2 (Ty.rows [.node tk tks, .node uk uks])))] [] (fun o σ => o = .ret (.c (.d (.int .i64 (tyHL [.node tk tks, .node uk uks])))) ∧ σ = []) := fun h h2 => high_call _ _ (Nat.le_refl _) (by have := n1 h; have := n2 h2; simp only [nodesL]; omega)
  have e1 : tyHL [.node tk tks] = tyH (.node tk tks) := by simp [tyHL]
  have e2 : tyHL [.node tk tks, .node uk uks] = max (tyH (.node tk tks)) (tyH (.node uk uks)) := by simp [tyHL]
  rw [e1] at w1
  rw [e2] at w2
  clear ih ih' hN hlen ha n1 n2 e1 e2
  rcases kinds k hv with rfl | rfl | rfl | rfl | rfl | rfl | rfl | rfl | rfl | rfl | rfl | rfl | rfl | rfl | rfl | rfl | rfl | rfl
  all_goals
    refine ACall.body tab_ok (ρ := 0) (N := 53) Try.func51 rfl rfl rfl rfl rfl ?_
    repeat' first | (refine fin _ ?_ _ rfl rfl) | refine AW.seq ?_ | refine AW.block ?_ | (refine (id : AW _ _ _ (.region 11 _ true) _ _ → _) ?_; refine AW.draw (id := 11) tab_ok mixed [0, 1, 2, 3, 4, 5, 6, 7, 8, 9, 10] (by kernel_rfl) ?_; conv => whnf) | ((first | refine AW.region tab_ok ?_ | refine AW.cond ?_ | refine AW.skip ?_ | refine AW.ret ?_ | refine AW.exit ?_); conv => whnf) | ((first | refine (w1 rfl).mono ?_ | refine (w2 rfl rfl).mono ?_); rintro _ _ ⟨rfl, rfl⟩; conv => whnf) | ((first | refine And.intro (@rfl Val _) ?_ | refine And.intro (by decide) ?_ | refine cs (fun _ => ?_) (fun _ => ?_)) <;> conv => whnf)
  all_goals clear fin w1 w2 hv
  all_goals first | (simp [typeK, toK]; done) | (simp [typeK, toK]; omega) | trace_state
def tmHeight (t : Tm) : Nat := if tmcheck t = 0 then tmH t else 0
set_option maxRecDepth 10000 in
theorem Height_call (t : Tm) : ACall Try.prog 22 [t.val] [] (fun o σ => o = .ret (.c (.d (.int .i64 (tmHeight t)))) ∧ σ = []) := by
  have c1 := tmCheck_call t
  have c2 : tmcheck t = 0 → ACall Try.prog 51 [.c (.d (.rp 0 t.cells))] [] (fun o σ => o = .ret (.c (.d (.int .i64 (tmHeight t)))) ∧ σ = []) := fun h => by
    rw [show tmHeight t = tmH t by simp [tmHeight, h]]
    have : tmN t ≤ 8192 := by
      unfold tmcheck at h
      split at h
      · omega
      · omega
    exact height_call t this (tmcheck_right h)
  have e3 : tmcheck t ≠ 0 → tmHeight t = 0 := fun h => by simp [tmHeight, h]
  generalize tmcheck t = cc at *
  generalize tmHeight t = m at *
  obtain ⟨k, name, arg, num, tk, tks, uk, uks, label, place, ks⟩ := t
  refine ACall.body tab_ok (ρ := 0) (N := 7) Try.func22 rfl rfl rfl rfl rfl ?_
  repeat' first | refine AW.seq ?_ | refine AW.block ?_ | ((first | refine AW.region tab_ok ?_ | refine AW.cond ?_ | refine AW.skip ?_ | refine AW.ret ?_ | refine AW.exit ?_); conv => whnf) | (refine (c1).mono ?_; rintro _ _ ⟨rfl, rfl⟩; conv => whnf) | ((first | refine And.intro (@rfl Val _) ?_ | refine And.intro (by decide) ?_ | refine cs (fun _ => ?_) (fun _ => ?_)) <;> conv => whnf)
  · rename_i h
    rw [e3 (by simpa using h)]
    first | exact ⟨rfl, rfl⟩ | exact ⟨rfl, trivial⟩
  · rename_i h
    have c2 := c2 (by simpa using h)
    refine c2.mono ?_
    rintro _ _ ⟨rfl, rfl⟩
    conv => whnf
    repeat' first | refine AW.seq ?_ | refine AW.block ?_ | ((first | refine AW.region tab_ok ?_ | refine AW.cond ?_ | refine AW.skip ?_ | refine AW.ret ?_ | refine AW.exit ?_); conv => whnf) | ((first | refine And.intro (@rfl Val _) ?_ | refine And.intro (by decide) ?_ | refine cs (fun _ => ?_) (fun _ => ?_)) <;> conv => whnf)
    first | exact ⟨rfl, rfl⟩ | exact ⟨rfl, trivial⟩
end Go.Proofs.Ytlboogackecjlaa.E

/- Walks: bare of terms, both. No conditions. -/
set_option linter.unusedVariables false
set_option linter.unusedSimpArgs false
namespace Go.Proofs.Ytlboogackecjlaa.E
open Go

end Go.Proofs.Ytlboogackecjlaa.E

/- Walks: bare of terms in the document's answer; Bare, both. No conditions. -/
set_option linter.unusedVariables false
set_option linter.unusedSimpArgs false
namespace Go.Proofs.Ytlboogackecjlaa.E
open Go

end Go.Proofs.Ytlboogackecjlaa.E
