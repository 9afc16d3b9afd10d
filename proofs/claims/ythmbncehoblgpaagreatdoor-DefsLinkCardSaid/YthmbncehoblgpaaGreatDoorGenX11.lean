/- Texts, merged: Fr5, Fr6. No conditions. -/
import Derived.Test.YthmbncehoblgpaaGreatDoorFr4
import Derived.Lib.Strings
/- Free names in the document's answer: Free, sorted in place. No conditions. -/
set_option linter.unusedVariables false
set_option linter.unusedSimpArgs false
namespace Go.Proofs.YthmbncehoblgpaaGreatDoor.E
open Go

theorem bless_iff : ∀ (x y : List UInt8), Op.bytesLess x y = true ↔ x < y
  | [], [] => by simp [Op.bytesLess]
  | _ :: _, [] => by simp [Op.bytesLess]
  | [], _ :: _ => by simp [Op.bytesLess]
  | a :: x, b :: y => by
    simp only [Op.bytesLess, Bool.or_eq_true, Bool.and_eq_true, decide_eq_true_eq, beq_iff_eq, bless_iff x y, List.cons_lt_cons_iff]
theorem bless_le {a b : ByteArray} (h : Op.bytesLess a.toList b.toList = true) : bytesLe a b := by
  rw [Lib.toList_data, Lib.toList_data, bless_iff] at h
  exact List.le_of_lt h
theorem bless_not {a b : ByteArray} (h : Op.bytesLess a.toList b.toList = false) : bytesLe b a := by
  have : ¬ Op.bytesLess a.toList b.toList = true := by simp [h]
  rw [Lib.toList_data, Lib.toList_data, bless_iff] at this
  exact List.not_lt.1 this

/-- A row: an element by number. -/
def at' (X : List ByteArray) (a : Nat) : ByteArray := X.getD a ⟨#[]⟩
theorem at_get {X : List ByteArray} {a : Nat} {s : ByteArray} (h : X[a]? = some s) : at' X a = s := by simp [at', h]
def swap (X : List ByteArray) (j : Nat) : List ByteArray := (X.set j (at' X (j - 1))).set (j - 1) (at' X j)
theorem swap_len (X : List ByteArray) (j : Nat) : (swap X j).length = X.length := by simp [swap]
theorem swap_at {X : List ByteArray} {j : Nat} (hj : 0 < j) (hl : j < X.length) (a : Nat) : at' (swap X j) a = if a = j - 1 then at' X j else if a = j then at' X (j - 1) else at' X a := by
  unfold swap at'
  rw [List.getD_eq_getElem?_getD, List.getElem?_set]
  by_cases h1 : a = j - 1
  · subst h1
    rw [if_pos rfl, if_pos rfl, if_pos (by simp; omega)]; rfl
  · rw [if_neg (fun e => h1 e.symm), if_neg h1, List.getElem?_set]
    by_cases h2 : a = j
    · subst h2
      rw [if_pos rfl, if_pos rfl, if_pos hl]; rfl
    · rw [if_neg (fun e => h2 e.symm), if_neg h2]; simp
theorem swap_perm {X : List ByteArray} {j : Nat} (hj : 0 < j) (hl : j < X.length) : (swap X j).Perm X := by
  obtain ⟨i, rfl⟩ : ∃ i, j = i + 1 := ⟨j - 1, by omega⟩
  have key : ∀ (X : List ByteArray) (i : Nat), i + 1 < X.length → (swap X (i + 1)).Perm X := by
    intro X
    induction X with
    | nil => intro i h; simp at h
    | cons x X ih =>
      intro i h
      cases i with
      | zero =>
        match X, h with
        | y :: Y, _ => simpa [swap, at'] using List.Perm.swap x y Y
      | succ i =>
        have := ih i (by simpa using h)
        have e : swap (x :: X) (i + 1 + 1) = x :: swap X (i + 1) := by
          simp [swap, at']
        rw [e]
        exact List.Perm.cons x this
  exact key X i hl

structure SortO (L : List ByteArray) where
  X : List ByteArray
  i : Nat
  p : X.Perm L
  h1 : 1 ≤ i
  hi : i ≤ L.length ∨ i = 1
  srt : ∀ a b, a < b → b < i → bytesLe (at' X a) (at' X b)
structure SortI (L : List ByteArray) (i : Nat) where
  X : List ByteArray
  j : Nat
  p : X.Perm L
  hj : j ≤ i
  srt : ∀ a b, a < b → b ≤ i → b ≠ j → bytesLe (at' X a) (at' X b)
theorem le_trans' {a b c : ByteArray} (h : bytesLe a b) (g : bytesLe b c) : bytesLe a c := List.le_trans h g
def SortI.next {L : List ByteArray} {i : Nat} (x : SortI L i) (hi : i < L.length) (h0 : 0 < x.j) (h : bytesLe (at' x.X x.j) (at' x.X (x.j - 1))) : SortI L i where
  X := swap x.X x.j
  j := x.j - 1
  p := (swap_perm h0 (by rw [x.p.length_eq]; have := x.hj; omega)).trans x.p
  hj := by have := x.hj; omega
  srt := fun a b hab hb hne => by
    have hj := x.hj
    have hl : x.j < x.X.length := by rw [x.p.length_eq]; omega
    rw [swap_at h0 hl, swap_at h0 hl, if_neg hne]
    by_cases e1 : b = x.j
    · rw [if_pos e1]
      by_cases e2 : a = x.j - 1
      · rw [if_pos e2]; exact h
      · rw [if_neg e2, if_neg (by omega)]; exact x.srt a (x.j - 1) (by omega) (by omega) (by omega)
    · rw [if_neg e1]
      by_cases e2 : a = x.j - 1
      · rw [if_pos e2]; exact x.srt x.j b (by omega) hb e1
      · by_cases e3 : a = x.j
        · rw [if_neg e2, if_pos e3]; exact x.srt (x.j - 1) b (by omega) hb e1
        · rw [if_neg e2, if_neg e3]; exact x.srt a b hab hb e1
theorem SortI.done {L : List ByteArray} {i : Nat} (x : SortI L i) (h : x.j = 0 ∨ bytesLe (at' x.X (x.j - 1)) (at' x.X x.j)) : ∀ a b, a < b → b < i + 1 → bytesLe (at' x.X a) (at' x.X b) := fun a b hab hb => by
  by_cases e : b = x.j
  · rcases h with h | h
    · omega
    · rw [e]
      by_cases e2 : a = x.j - 1
      · rw [e2]; exact h
      · exact le_trans' (x.srt a (x.j - 1) (by omega) (by have := x.hj; omega) (by omega)) h
  · exact x.srt a b hab (by omega) e
theorem sorted_is {L X : List ByteArray} (p : X.Perm L) (h : ∀ a b, a < b → b < L.length → bytesLe (at' X a) (at' X b)) : X = bsort L := by
  refine sorted_unique ?_ (bsort_sorted L) (p.trans (bsort_perm L).symm)
  rw [List.pairwise_iff_getElem]
  intro a b ha hb hab
  have := h a b hab (by rw [← p.length_eq]; exact hb)
  simpa [at', ha, hb] using this
def rfreeS (t : Tm) : List ByteArray := if tmcheck t = 0 then bsort (rfree t [] []) else []
set_option maxRecDepth 10000 in
theorem rFree_call (t : Tm) : ACall Tryz.prog 37 [t.val] [] (fun o σ => o = .ret (.c (.d (.sl 0 1 (strs (rfreeS t))))) ∧ σ = []) := by
  have c1 := rtmCheck_call t
  have c2 : tmcheck t = 0 → ACall Tryz.prog 67 [t.val, .c (.d (.sl 0 1 [])), .c (.d .nils)] [] (fun o σ => o = .ret (.c (.own 0 (strs (rfree t [] [])).length)) ∧ σ = [.row 9 1 (strs (rfree t [] []))]) := fun h => by
    have h2 := (tmcheck_ok h).1
    exact ACall.ghost (ys := [t.val, .c (.d (.sl 0 1 (strs []))), .c (.own 0 (strs []).length)]) 9 1 (by decide) ⟨.inl rfl, .inl rfl, .inr ⟨rfl, rfl⟩, trivial⟩ (rfree_call t (tmcheck_ok h).2 h2 [] [] (by simp; omega) (by simp; omega))
  have hN : tmcheck t = 0 → (rfree t [] []).length ≤ 8192 := fun h => by
    have h1 := rfree_len t [] []
    have h2 := (tmcheck_ok h).1
    simp only [List.length_nil] at h1; omega
  unfold rfreeS
  generalize tmcheck t = cc at *
  generalize rfree t [] [] = L at *
  obtain ⟨k, name, arg, num, tk, tks, uk, uks, label, place, ks⟩ := t
  refine ACall.body tab_ok (ρ := 0) (N := 53) Tryz.func37 rfl rfl rfl rfl rfl ?_
  repeat' first | refine AW.seq ?_ | refine AW.block ?_ | (refine (_root_.id : AW _ _ _ (.region 8 _ true) _ _ → _) ?_; refine AW.draw (id := 8) tab_ok mixed [0, 1, 2, 3, 4, 5, 6, 7, 8, 9, 10, 11, 12, 13] (by kernel_rfl) ?_; conv => whnf) | ((first | refine AW.region tab_ok ?_ | refine AW.cond ?_ | refine AW.skip ?_ | refine AW.ret ?_ | refine AW.exit ?_); conv => whnf) | (refine (c1).mono ?_; rintro _ _ ⟨rfl, rfl⟩; conv => whnf) | ((first | refine And.intro (@rfl Val _) ?_ | refine And.intro (by decide) ?_ | refine cs (fun _ => ?_) (fun _ => ?_)) <;> conv => whnf)
  · rename_i h
    rw [if_neg (by simpa using h)]
    exact ⟨rfl, rfl⟩
  · rename_i h
    rw [if_pos (by simpa using h)]
    have c2 := c2 (by simpa using h)
    have hN := hN (by simpa using h)
    clear h c1
    repeat' first | refine AW.seq ?_ | refine AW.block ?_ | (refine (_root_.id : AW _ _ _ (.region 8 _ true) _ _ → _) ?_; refine AW.draw (id := 8) tab_ok mixed [0, 1, 2, 3, 4, 5, 6, 7, 8, 9, 10, 11, 12, 13] (by kernel_rfl) ?_; conv => whnf) | ((first | refine AW.region tab_ok ?_ | refine AW.cond ?_ | refine AW.skip ?_ | refine AW.ret ?_ | refine AW.exit ?_); conv => whnf) | (refine (c2).mono ?_; rintro _ _ ⟨rfl, rfl⟩; conv => whnf) | ((first | refine And.intro (@rfl Val _) ?_ | refine And.intro (by decide) ?_ | refine cs (fun _ => ?_) (fun _ => ?_)) <;> conv => whnf)
    refine AW.loop (ι := SortO L) (fun x => ⟨53, [(4, .c (.d (.int .i64 x.i))), (3, .c (.own 1 (strs x.X).length))],
        [.var [.d (.int .i8 k), .d (.str name), .d (.str arg), .d (.int .i64 num), .d (.int .i8 tk), .d (.sl 0 2 (Ty.rows tks)), .d (.int .i8 uk), .d (.sl 0 2 (Ty.rows uks)), .d (.int .i64 label), .d (.int .i64 place), .d (.sl 0 11 (Tm.rows ks))], .row 9 1 (strs x.X)], []⟩)
      (fun x => L.length - x.i) ⟨L, 1, .refl L, Nat.le_refl 1, .inr rfl, fun a b h1 h2 => by omega⟩ 2 (fun _ => rfl) (Nat.le_of_ble_eq_true rfl) ⟨⟨rfl, rfl, trivial⟩, rfl, rfl, ⟨[], rfl⟩, rfl⟩ (fun x => ?_)
    obtain ⟨X, i, p, h1, hi, srt⟩ := x
    have hlX := p.length_eq
    repeat' first | refine AW.seq ?_ | refine AW.block ?_ | (refine (_root_.id : AW _ _ _ (.region 8 _ true) _ _ → _) ?_; refine AW.draw (id := 8) tab_ok mixed [0, 1, 2, 3, 4, 5, 6, 7, 8, 9, 10, 11, 12, 13] (by kernel_rfl) ?_; conv => whnf) | ((first | refine AW.region tab_ok ?_ | refine AW.cond ?_ | refine AW.skip ?_ | refine AW.ret ?_ | refine AW.exit ?_); conv => whnf) | ((first | refine And.intro (@rfl Val _) ?_ | refine And.intro (by decide) ?_ | refine cs (fun _ => ?_) (fun _ => ?_)) <;> conv => whnf)
    · rename_i hc
      simp only [strs_len] at hc
      have hc := of_decide_eq_true hc
      have hlt : i < L.length := by omega
      refine AW.loop (ι := SortI L i) (fun x => ⟨53, [(5, .c (.d (.int .i64 x.j))), (4, .c (.d (.int .i64 i))), (3, .c (.own 1 (strs x.X).length))],
          [.var [.d (.int .i8 k), .d (.str name), .d (.str arg), .d (.int .i64 num), .d (.int .i8 tk), .d (.sl 0 2 (Ty.rows tks)), .d (.int .i8 uk), .d (.sl 0 2 (Ty.rows uks)), .d (.int .i64 label), .d (.int .i64 place), .d (.sl 0 11 (Tm.rows ks))], .row 9 1 (strs x.X)], []⟩)
        (fun x => x.j) ⟨X, i, p, Nat.le_refl i, fun a b h1 h2 h3 => srt a b h1 (by omega)⟩ 2 (fun _ => rfl) (Nat.le_of_ble_eq_true rfl) ⟨⟨rfl, rfl, rfl, trivial⟩, rfl, rfl, ⟨[], rfl⟩, rfl⟩ (fun x => ?_)
      repeat' first | refine AW.seq ?_ | refine AW.block ?_ | (refine (_root_.id : AW _ _ _ (.region 8 _ true) _ _ → _) ?_; refine AW.draw (id := 8) tab_ok mixed [0, 1, 2, 3, 4, 5, 6, 7, 8, 9, 10, 11, 12, 13] (by kernel_rfl) ?_; conv => whnf) | ((first | refine AW.region tab_ok ?_ | refine AW.cond ?_ | refine AW.skip ?_ | refine AW.ret ?_ | refine AW.exit ?_); conv => whnf) | ((first | refine And.intro (@rfl Val _) ?_ | refine And.intro (by decide) ?_ | refine cs (fun _ => ?_) (fun _ => ?_)) <;> conv => whnf)
      · rename_i hj0
        have hj0 : 0 < x.j := by have := of_decide_eq_true hj0; omega
        have hlx := x.p.length_eq
        have hji := x.hj
        have hwj : IntKind.i64.wrap ((x.j : Int) - 1) = ((x.j - 1 : Nat) : Int) := by rw [wrap64 (by omega) (by omega)]; omega
        refine ⟨⟨rfl, by omega, by simp only [strs_len]; omega⟩, ?_⟩
        conv => whnf
        repeat' first | refine AW.seq ?_ | refine AW.block ?_ | (refine (_root_.id : AW _ _ _ (.region 8 _ true) _ _ → _) ?_; refine AW.draw (id := 8) tab_ok mixed [0, 1, 2, 3, 4, 5, 6, 7, 8, 9, 10, 11, 12, 13] (by kernel_rfl) ?_; conv => whnf) | ((first | refine AW.region tab_ok ?_ | refine AW.cond ?_ | refine AW.skip ?_ | refine AW.ret ?_ | refine AW.exit ?_); conv => whnf) | ((first | refine And.intro (@rfl Val _) ?_ | refine And.intro (by decide) ?_ | refine cs (fun _ => ?_) (fun _ => ?_)) <;> conv => whnf)
        refine ⟨⟨rfl, by simp only [strs_len]; omega⟩, fun row hrow => ?_⟩
        obtain ⟨s1, hs1, rfl⟩ := strs_get (by simpa using hrow)
        conv => whnf
        repeat' first | refine AW.seq ?_ | refine AW.block ?_ | (refine (_root_.id : AW _ _ _ (.region 8 _ true) _ _ → _) ?_; refine AW.draw (id := 8) tab_ok mixed [0, 1, 2, 3, 4, 5, 6, 7, 8, 9, 10, 11, 12, 13] (by kernel_rfl) ?_; conv => whnf) | ((first | refine AW.region tab_ok ?_ | refine AW.cond ?_ | refine AW.skip ?_ | refine AW.ret ?_ | refine AW.exit ?_); conv => whnf) | ((first | refine And.intro (@rfl Val _) ?_ | refine And.intro (by decide) ?_ | refine cs (fun _ => ?_) (fun _ => ?_)) <;> conv => whnf)
        rw [hwj]
        refine ⟨⟨rfl, by omega, by simp only [strs_len]; omega⟩, ?_⟩
        conv => whnf
        repeat' first | refine AW.seq ?_ | refine AW.block ?_ | (refine (_root_.id : AW _ _ _ (.region 8 _ true) _ _ → _) ?_; refine AW.draw (id := 8) tab_ok mixed [0, 1, 2, 3, 4, 5, 6, 7, 8, 9, 10, 11, 12, 13] (by kernel_rfl) ?_; conv => whnf) | ((first | refine AW.region tab_ok ?_ | refine AW.cond ?_ | refine AW.skip ?_ | refine AW.ret ?_ | refine AW.exit ?_); conv => whnf) | ((first | refine And.intro (@rfl Val _) ?_ | refine And.intro (by decide) ?_ | refine cs (fun _ => ?_) (fun _ => ?_)) <;> conv => whnf)
        refine ⟨⟨rfl, by simp only [strs_len]; omega⟩, fun row hrow => ?_⟩
        obtain ⟨s2, hs2, rfl⟩ := strs_get (by simpa using hrow)
        have a1 := at_get hs1
        have a2 := at_get hs2
        conv => whnf
        repeat' first | refine AW.seq ?_ | refine AW.block ?_ | (refine (_root_.id : AW _ _ _ (.region 8 _ true) _ _ → _) ?_; refine AW.draw (id := 8) tab_ok mixed [0, 1, 2, 3, 4, 5, 6, 7, 8, 9, 10, 11, 12, 13] (by kernel_rfl) ?_; conv => whnf) | ((first | refine AW.region tab_ok ?_ | refine AW.cond ?_ | refine AW.skip ?_ | refine AW.ret ?_ | refine AW.exit ?_); conv => whnf) | ((first | refine And.intro (@rfl Val _) ?_ | refine And.intro (by decide) ?_ | refine cs (fun _ => ?_) (fun _ => ?_)) <;> conv => whnf)
        · rename_i hb
          have hle : bytesLe (at' x.X x.j) (at' x.X (x.j - 1)) := by rw [a1, a2]; exact bless_le (by simpa using hb)
          refine ⟨⟨rfl, by omega, by simp only [strs_len]; omega⟩, ?_⟩
          conv => whnf
          repeat' first | refine AW.seq ?_ | refine AW.block ?_ | (refine (_root_.id : AW _ _ _ (.region 8 _ true) _ _ → _) ?_; refine AW.draw (id := 8) tab_ok mixed [0, 1, 2, 3, 4, 5, 6, 7, 8, 9, 10, 11, 12, 13] (by kernel_rfl) ?_; conv => whnf) | ((first | refine AW.region tab_ok ?_ | refine AW.cond ?_ | refine AW.skip ?_ | refine AW.ret ?_ | refine AW.exit ?_); conv => whnf) | ((first | refine And.intro (@rfl Val _) ?_ | refine And.intro (by decide) ?_ | refine cs (fun _ => ?_) (fun _ => ?_)) <;> conv => whnf)
          refine ⟨⟨rfl, by simp only [strs_len]; omega⟩, fun row hrow => ?_⟩
          obtain ⟨s3, hs3, rfl⟩ := strs_get (by simpa using hrow)
          obtain rfl : s1 = s3 := by rw [hs1] at hs3; exact Option.some.inj hs3
          conv => whnf
          repeat' first | refine AW.seq ?_ | refine AW.block ?_ | (refine (_root_.id : AW _ _ _ (.region 8 _ true) _ _ → _) ?_; refine AW.draw (id := 8) tab_ok mixed [0, 1, 2, 3, 4, 5, 6, 7, 8, 9, 10, 11, 12, 13] (by kernel_rfl) ?_; conv => whnf) | ((first | refine AW.region tab_ok ?_ | refine AW.cond ?_ | refine AW.skip ?_ | refine AW.ret ?_ | refine AW.exit ?_); conv => whnf) | ((first | refine And.intro (@rfl Val _) ?_ | refine And.intro (by decide) ?_ | refine cs (fun _ => ?_) (fun _ => ?_)) <;> conv => whnf)
          rw [hwj]
          refine ⟨⟨rfl, by omega, by simp only [strs_len]; omega⟩, ?_⟩
          conv => whnf
          repeat' first | refine AW.seq ?_ | refine AW.block ?_ | (refine (_root_.id : AW _ _ _ (.region 8 _ true) _ _ → _) ?_; refine AW.draw (id := 8) tab_ok mixed [0, 1, 2, 3, 4, 5, 6, 7, 8, 9, 10, 11, 12, 13] (by kernel_rfl) ?_; conv => whnf) | ((first | refine AW.region tab_ok ?_ | refine AW.cond ?_ | refine AW.skip ?_ | refine AW.ret ?_ | refine AW.exit ?_); conv => whnf) | ((first | refine And.intro (@rfl Val _) ?_ | refine And.intro (by decide) ?_ | refine cs (fun _ => ?_) (fun _ => ?_)) <;> conv => whnf)
          refine ⟨⟨rfl, by simp only [strs_len]; omega⟩, fun row hrow => ?_⟩
          obtain ⟨s4, hs4, rfl⟩ := strs_get (by simpa using hrow)
          obtain rfl : s2 = s4 := by rw [hs2] at hs4; exact Option.some.inj hs4
          conv => whnf
          repeat' first | refine AW.seq ?_ | refine AW.block ?_ | (refine (_root_.id : AW _ _ _ (.region 8 _ true) _ _ → _) ?_; refine AW.draw (id := 8) tab_ok mixed [0, 1, 2, 3, 4, 5, 6, 7, 8, 9, 10, 11, 12, 13] (by kernel_rfl) ?_; conv => whnf) | ((first | refine AW.region tab_ok ?_ | refine AW.cond ?_ | refine AW.skip ?_ | refine AW.ret ?_ | refine AW.exit ?_); conv => whnf) | ((first | refine And.intro (@rfl Val _) ?_ | refine And.intro (by decide) ?_ | refine cs (fun _ => ?_) (fun _ => ?_)) <;> conv => whnf)
          refine ⟨⟨rfl, by omega, by simp only [strs_len]; omega⟩, ?_⟩
          conv => whnf
          repeat' first | refine AW.seq ?_ | refine AW.block ?_ | (refine (_root_.id : AW _ _ _ (.region 8 _ true) _ _ → _) ?_; refine AW.draw (id := 8) tab_ok mixed [0, 1, 2, 3, 4, 5, 6, 7, 8, 9, 10, 11, 12, 13] (by kernel_rfl) ?_; conv => whnf) | ((first | refine AW.region tab_ok ?_ | refine AW.cond ?_ | refine AW.skip ?_ | refine AW.ret ?_ | refine AW.exit ?_); conv => whnf) | ((first | refine And.intro (@rfl Val _) ?_ | refine And.intro (by decide) ?_ | refine cs (fun _ => ?_) (fun _ => ?_)) <;> conv => whnf)
          refine ⟨⟨rfl, by simp only [strs_len]; omega⟩, ?_⟩
          conv => whnf
          repeat' first | refine AW.seq ?_ | refine AW.block ?_ | (refine (_root_.id : AW _ _ _ (.region 8 _ true) _ _ → _) ?_; refine AW.draw (id := 8) tab_ok mixed [0, 1, 2, 3, 4, 5, 6, 7, 8, 9, 10, 11, 12, 13] (by kernel_rfl) ?_; conv => whnf) | ((first | refine AW.region tab_ok ?_ | refine AW.cond ?_ | refine AW.skip ?_ | refine AW.ret ?_ | refine AW.exit ?_); conv => whnf) | ((first | refine And.intro (@rfl Val _) ?_ | refine And.intro (by decide) ?_ | refine cs (fun _ => ?_) (fun _ => ?_)) <;> conv => whnf)
          rw [hwj]
          have e1 : (strs x.X).length = ((strs x.X).set ((x.j : Int)).toNat [.str s2]).length := by simp
          refine ⟨⟨e1, by omega, by simp only [List.length_set, strs_len]; omega⟩, ?_⟩
          conv => whnf
          repeat' first | refine AW.seq ?_ | refine AW.block ?_ | (refine (_root_.id : AW _ _ _ (.region 8 _ true) _ _ → _) ?_; refine AW.draw (id := 8) tab_ok mixed [0, 1, 2, 3, 4, 5, 6, 7, 8, 9, 10, 11, 12, 13] (by kernel_rfl) ?_; conv => whnf) | ((first | refine AW.region tab_ok ?_ | refine AW.cond ?_ | refine AW.skip ?_ | refine AW.ret ?_ | refine AW.exit ?_); conv => whnf) | ((first | refine And.intro (@rfl Val _) ?_ | refine And.intro (by decide) ?_ | refine cs (fun _ => ?_) (fun _ => ?_)) <;> conv => whnf)
          refine ⟨⟨e1, by simp only [List.length_set, strs_len]; omega⟩, ?_⟩
          conv => whnf
          repeat' first | refine AW.seq ?_ | refine AW.block ?_ | (refine (_root_.id : AW _ _ _ (.region 8 _ true) _ _ → _) ?_; refine AW.draw (id := 8) tab_ok mixed [0, 1, 2, 3, 4, 5, 6, 7, 8, 9, 10, 11, 12, 13] (by kernel_rfl) ?_; conv => whnf) | ((first | refine AW.region tab_ok ?_ | refine AW.cond ?_ | refine AW.skip ?_ | refine AW.ret ?_ | refine AW.exit ?_); conv => whnf) | ((first | refine And.intro (@rfl Val _) ?_ | refine And.intro (by decide) ?_ | refine cs (fun _ => ?_) (fun _ => ?_)) <;> conv => whnf)
          have e2 : ((strs x.X).set ((x.j : Int)).toNat [.str s2]).set (((x.j - 1 : Nat) : Int)).toNat [.str s1] = strs (swap x.X x.j) := by
            simp [strs, swap, a1, a2]
          have e3 : (strs x.X).length = (strs (swap x.X x.j)).length := by simp only [strs_len, swap_len]
          rw [hwj, e2, e3]
          exact ⟨x.next hlt hj0 hle, ⟨⟨rfl, rfl, rfl, trivial⟩, rfl, rfl, ⟨[], rfl⟩, rfl⟩, show x.j - 1 < x.j by omega⟩
        · rename_i hb
          have hle : bytesLe (at' x.X (x.j - 1)) (at' x.X x.j) := by rw [a1, a2]; exact bless_not (by simpa using hb)
          rw [wrap64 (x := (i : Int) + 1) (by omega) (by omega)]
          refine ⟨⟨x.X, i + 1, x.p, by omega, .inl (by omega), x.done (.inr hle)⟩, ⟨⟨rfl, rfl, trivial⟩, rfl, rfl, ⟨[], rfl⟩, rfl⟩, show L.length - (i + 1) < L.length - i by omega⟩
      · rename_i hj0
        have hj0 : x.j = 0 := by have := of_decide_eq_false hj0; omega
        rw [wrap64 (x := (i : Int) + 1) (by omega) (by omega)]
        refine ⟨⟨x.X, i + 1, x.p, by omega, .inl (by omega), x.done (.inl hj0)⟩, ⟨⟨rfl, rfl, trivial⟩, rfl, rfl, ⟨[], rfl⟩, rfl⟩, show L.length - (i + 1) < L.length - i by omega⟩
    · rename_i hc
      simp only [strs_len] at hc
      have hc := of_decide_eq_false hc
      have e : X = bsort L := sorted_is p (fun a b h2 h3 => srt a b h2 (by omega))
      rw [← e]
      refine ⟨rfl, ?_⟩
      conv => whnf
      exact ⟨rfl, rfl⟩
end Go.Proofs.YthmbncehoblgpaaGreatDoor.E

/- Free names: both answers are the same; the law. No conditions. -/
set_option linter.unusedVariables false
set_option linter.unusedSimpArgs false
namespace Go.Proofs.YthmbncehoblgpaaGreatDoor.E
open Go

/-! ### Maps as functions -/
def tv (s : ByteArray) : TL → Option Int
  | [] => none
  | (_, k, v) :: l => if s = k then some v else tv s l
theorem tget_tv (s : ByteArray) : ∀ (l : TL) (i : Nat), (tget s l i).map (·.2) = tv s l
  | [], i => rfl
  | (c, k, v) :: l, i => by
    simp only [tget, tv]
    split
    · rfl
    · exact tget_tv s l (i + 1)
theorem tval_tv (s : ByteArray) (l : TL) : tval s l = (tv s l).getD 0 := by
  rw [← tget_tv s l 0]
  unfold tval
  cases tget s l 0 <;> rfl
theorem tv_none {s : ByteArray} : ∀ {l : TL}, tv s l = none ↔ s ∉ l.map (·.2.1)
  | [] => by simp [tv]
  | (c, k, v) :: l => by
    simp only [tv, List.map_cons, List.mem_cons, not_or]
    split
    · rename_i e; simp [e]
    · rename_i e; rw [tv_none (l := l)]; exact ⟨fun h => ⟨e, h⟩, fun h => h.2⟩
theorem tv_app (s : ByteArray) (x : Nat × ByteArray × Int) : ∀ l : TL, tv s (l ++ [x]) = (tv s l).or (if s = x.2.1 then some x.2.2 else none)
  | [] => by obtain ⟨c, k, v⟩ := x; simp [tv]
  | (c, k, v) :: l => by
    simp only [List.cons_append, tv]
    split
    · rfl
    · exact tv_app s x l
theorem tv_tset (s s' : ByteArray) (v : Int) : ∀ (l : TL) (i k : Nat) (u : Int), tget s l i = some (i + k, u) → tv s' (tset k v l) = if s' = s then some v else tv s' l
  | [], i, k, u, h => by simp [tget] at h
  | (c, q, w) :: l, i, k, u, h => by
    simp only [tget] at h
    split at h
    · rename_i e
      simp only [Option.some.injEq, Prod.mk.injEq] at h
      obtain rfl : k = 0 := by omega
      subst e
      simp only [tset, tv]
      split <;> rfl
    · rename_i e
      obtain ⟨n, hn, _⟩ := tget_some h
      obtain rfl : k = n + 1 := by omega
      simp only [tset, tv]
      have ih := tv_tset s s' v l (i + 1) n u (by rw [h]; congr 2 <;> omega)
      split
      · rename_i e2
        subst e2
        rw [if_neg (fun e3 => e e3.symm)]
      · exact ih
theorem tv_erase (s s' : ByteArray) : ∀ (l : TL) (i k : Nat) (u : Int), (l.map (·.2.1)).Nodup → tget s l i = some (i + k, u) → tv s' (l.eraseIdx k) = if s' = s then none else tv s' l
  | [], i, k, u, _, h => by simp [tget] at h
  | (c, q, w) :: l, i, k, u, hn, h => by
    simp only [List.map_cons, List.nodup_cons] at hn
    simp only [tget] at h
    split at h
    · rename_i e
      simp only [Option.some.injEq, Prod.mk.injEq] at h
      obtain rfl : k = 0 := by omega
      subst e
      simp only [List.eraseIdx_zero, List.tail_cons, tv]
      split
      · rename_i e2; subst e2; exact tv_none.2 hn.1
      · rfl
    · rename_i e
      obtain ⟨n, hn', _⟩ := tget_some h
      obtain rfl : k = n + 1 := by omega
      simp only [List.eraseIdx_cons_succ, tv]
      have ih := tv_erase s s' l (i + 1) n u hn.2 (by rw [h]; congr 2 <;> omega)
      split
      · rename_i e2
        subst e2
        rw [if_neg (fun e3 => e e3.symm)]
      · exact ih
theorem tv_tput (s s' : ByteArray) (v : Int) (m : Nat × TL) : tv s' (tput s v m).2 = if s' = s then some v else tv s' m.2 := by
  unfold tput
  cases hg : tget s m.2 0 with
  | some x =>
    obtain ⟨j, u⟩ := x
    exact tv_tset s s' v m.2 0 j u (by simpa using hg)
  | none =>
    have hn : tv s m.2 = none := by rw [← tget_tv s m.2 0, hg]; rfl
    simp only [tv_app]
    split
    · rename_i e; subst e; rw [hn]; rfl
    · simp
theorem tv_tdel (s s' : ByteArray) {l : TL} (hn : (l.map (·.2.1)).Nodup) : tv s' (tdel s l) = if s' = s then none else tv s' l := by
  unfold tdel
  cases hg : tget s l 0 with
  | some x =>
    obtain ⟨j, u⟩ := x
    exact tv_erase s s' l 0 j u hn (by simpa using hg)
  | none =>
    have hn : tv s l = none := by rw [← tget_tv s l 0, hg]; rfl
    show tv s' l = _
    by_cases e : s' = s
    · subst e; rw [if_pos rfl]; exact hn
    · rw [if_neg e]
theorem tval_tput (s s' : ByteArray) (v : Int) (m : Nat × TL) : tval s' (tput s v m).2 = if s' = s then v else tval s' m.2 := by
  rw [tval_tv, tv_tput, tval_tv]; split <;> rfl
theorem tval_tdel (s s' : ByteArray) {l : TL} (hn : (l.map (·.2.1)).Nodup) : tval s' (tdel s l) = if s' = s then 0 else tval s' l := by
  rw [tval_tv, tv_tdel s s' hn, tval_tv]; split <;> rfl
theorem keys_tput (s s' : ByteArray) (v : Int) (m : Nat × TL) : s' ∈ (tput s v m).2.map (·.2.1) ↔ s' ∈ m.2.map (·.2.1) ∨ s' = s := by
  have h := tv_tput s s' v m
  have h1 := tv_none (s := s') (l := (tput s v m).2)
  have h2 := tv_none (s := s') (l := m.2)
  rw [h] at h1
  by_cases e : s' = s
  · rw [if_pos e] at h1
    simp only [reduceCtorEq, false_iff, Classical.not_not] at h1
    exact ⟨fun _ => .inr e, fun _ => h1⟩
  · rw [if_neg e, h2] at h1
    constructor
    · intro hm; exact .inl (Classical.not_not.1 fun hc => h1.1 hc hm)
    · rintro (hm | hm)
      · exact Classical.not_not.1 fun hc => h1.2 hc hm
      · exact absurd hm e

/-! ### Both walks -/
def cnt (s : ByteArray) (b : List ByteArray) : Nat := b.countP fun t => decide (t = s)
theorem cnt_app (s a : ByteArray) (b : List ByteArray) : cnt s (b ++ [a]) = cnt s b + if a = s then 1 else 0 := by
  unfold cnt
  rw [List.countP_append, List.countP_singleton]
  by_cases h : a = s <;> simp [h]
theorem cnt_len (s : ByteArray) (b : List ByteArray) : cnt s b ≤ b.length := List.countP_le_length
theorem cnt_pos {s : ByteArray} {b : List ByteArray} : 0 < cnt s b ↔ s ∈ b := by
  unfold cnt
  rw [List.countP_pos_iff]
  exact ⟨fun ⟨t, h, e⟩ => of_decide_eq_true e ▸ h, fun h => ⟨s, h, decide_eq_true rfl⟩⟩
structure Rel (m : FM) (b l : List ByteArray) : Prop where
  wf : WfF m
  bnd : ∀ s, tval s m.1.2 = (cnt s b : Int)
  fre : ∀ s, s ∈ m.2.2.map (·.2.1) ↔ s ∈ l
  nd : l.Nodup
theorem Rel.inn {m : FM} {b l : List ByteArray} (h : Rel m b l) (s : ByteArray) (hb : b.length ≤ 1000000) : Rel (finn s m) (b ++ [s]) l :=
  ⟨⟨tput_wf h.wf.1, h.wf.2⟩, fun s' => by
    have hc := cnt_len s b
    simp only [finn, tval_tput, cnt_app, h.bnd]
    rw [wrap64 (by omega) (by omega)]
    by_cases e : s' = s
    · subst e; simp
    · rw [if_neg e, if_neg (fun e2 => e e2.symm)]; simp, h.fre, h.nd⟩
theorem Rel.dec {m : FM} {b l : List ByteArray} {s : ByteArray} (h : Rel m (b ++ [s]) l) (hb : b.length ≤ 1000000) : Rel (fdec s m) b l :=
  ⟨⟨tput_wf h.wf.1, h.wf.2⟩, fun s' => by
    have hc := cnt_len s b
    have h1 := h.bnd s
    have h2 := h.bnd s'
    rw [cnt_app] at h1 h2
    rw [if_pos rfl] at h1
    simp only [fdec, tval_tput, h1]
    rw [wrap64 (by omega) (by omega)]
    by_cases e : s' = s
    · subst e; simp
    · rw [if_neg e, h2, if_neg (fun e2 => e e2.symm)]; simp, h.fre, h.nd⟩
theorem Rel.out {m : FM} {b l : List ByteArray} {s : ByteArray} (h : Rel m (b ++ [s]) l) (hb : b.length ≤ 1000000) : Rel (fout s m) b l := by
  have hd := h.dec hb
  unfold fout
  split
  · rename_i h0
    refine ⟨⟨tdel_wf hd.wf.1, hd.wf.2⟩, fun s' => ?_, hd.fre, hd.nd⟩
    simp only [tval_tdel s s' hd.wf.1.keys]
    split
    · rename_i e; subst e; rw [← hd.bnd s']; exact h0.symm
    · exact hd.bnd s'
  · exact hd
theorem Rel.win {m : FM} {b l : List ByteArray} (h : Rel m b l) (w : List ByteArray) (hw : w.length ≤ 2) (hb : b.length ≤ 900000) : Rel (E.win w m) (b ++ w) l := by
  match w, hw with
  | [], _ => simpa [E.win] using h
  | [s], _ => exact h.inn s (by omega)
  | [s, a], _ =>
    have := (h.inn s (by omega)).inn a (by simp; omega)
    simpa [E.win] using this
theorem Rel.wout {m : FM} {b l : List ByteArray} (w : List ByteArray) (hw : w.length ≤ 2) (hb : b.length ≤ 900000) (h : Rel m (b ++ w) l) : Rel (E.wout w m) b l := by
  match w, hw with
  | [], _ => simpa [E.wout] using h
  | [s], _ => exact h.out (by omega)
  | [s, a], _ =>
    have h' : Rel m ((b ++ [s]) ++ [a]) l := by simpa using h
    exact (h'.out (by simp; omega)).dec (by omega)
theorem wsK_len (k : Int) (name arg : ByteArray) : ∀ w ∈ wsK k name arg, w.length ≤ 2 := by
  intro w hw
  unfold wsK at hw
  split at hw
  · simp at hw; subst hw; simp
  · split at hw
    · simp at hw; subst hw; simp
    · split at hw
      · simp at hw; rcases hw with rfl | rfl <;> simp
      · split at hw
        · simp at hw; rcases hw with rfl | rfl | rfl <;> simp
        · simp at hw
theorem rel_term (t : Tm) : ∀ (m : FM) (b l : List ByteArray), b.length + 2 * tmN t ≤ 900000 → Rel m b l → Rel (fterm t m) b (rfree t b l) := by
  induction t using Tm.ind with
  | _ k name arg num tk tks uk uks label place ks ih =>
  intro m b l hb h
  simp only [fterm, rfree]
  simp only [tmN] at hb
  split
  · have hv := h.bnd name
    by_cases e : inF b name = true
    · rw [if_pos e]
      have : 0 < cnt name b := cnt_pos.2 (inF_iff.1 e)
      rw [if_neg (by omega)]
      exact h
    · rw [if_neg e]
      have hz : ¬ 0 < cnt name b := fun hm => e (inF_iff.2 (cnt_pos.1 hm))
      rw [if_pos (by omega)]
      by_cases e2 : inF l name = true
      · rw [if_pos e2]
        refine ⟨⟨h.wf.1, tput_wf h.wf.2⟩, h.bnd, fun s => ?_, h.nd⟩
        rw [keys_tput, h.fre]
        exact ⟨fun hm => hm.elim id fun e3 => e3 ▸ inF_iff.1 e2, .inl⟩
      · rw [if_neg e2]
        refine ⟨⟨h.wf.1, tput_wf h.wf.2⟩, h.bnd, fun s => ?_, ?_⟩
        · rw [keys_tput, h.fre]; simp
        · exact List.nodup_append.2 ⟨h.nd, by simp, fun a ha c hc e3 => e2 (inF_iff.2 (by simp at hc; rw [← hc, ← e3]; exact ha))⟩
  · have : ∀ (ks : List Tm), (∀ t ∈ ks, ∀ (m : FM) (b l : List ByteArray), b.length + 2 * tmN t ≤ 900000 → Rel m b l → Rel (fterm t m) b (rfree t b l)) → ∀ (w : List (List ByteArray)), (∀ x ∈ w, x.length ≤ 2) → ∀ (m : FM) (b l : List ByteArray), b.length + 2 + 2 * tmNL ks ≤ 900000 → Rel m b l → Rel (fterms ks w m) b (rfrees ks w b l) := by
      intro ks
      induction ks with
      | nil => intro _ w _ m b l _ h; exact h
      | cons t ts il =>
        intro hk w hw m b l hb h
        simp only [tmNL] at hb
        simp only [fterms, rfrees]
        have hh : (w.headD []).length ≤ 2 := by
          cases w with
          | nil => simp
          | cons x w => exact hw x (by simp)
        refine il (fun t ht => hk t (List.mem_cons_of_mem _ ht)) w.tail (fun x hx => hw x (List.mem_of_mem_tail hx)) _ b _ (by omega) ?_
        refine Rel.wout _ hh (by omega) ?_
        exact hk t (by simp) _ (b ++ w.headD []) l (by simp only [List.length_append]; omega) (h.win _ hh (by omega))
    exact this ks (fun t ht => ih t ht) _ (wsK_len k name arg) m b l (by omega) h
theorem free_same (t : Tm) : freeS t = rfreeS t := by
  unfold freeS rfreeS
  split
  · rename_i hc
    have hN := (tmcheck_ok hc).1
    have h := rel_term t ((0, []), (0, [])) [] [] (by simp; omega) ⟨⟨⟨by simp, by simp, by simp⟩, ⟨by simp, by simp, by simp⟩⟩, fun s => by rw [tval_tv]; rfl, by simp, by simp⟩
    refine bsort_of_perm ((List.perm_ext_iff_of_nodup h.wf.2.keys h.nd).2 h.fre)
  · rfl

/-! ### The law -/
end Go.Proofs.YthmbncehoblgpaaGreatDoor.E
