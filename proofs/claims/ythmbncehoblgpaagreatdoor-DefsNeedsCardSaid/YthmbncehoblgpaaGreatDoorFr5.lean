/- Free names in the document's answer: Free, sorted in place. No conditions. -/
import Derived.Test.YthmbncehoblgpaaGreatDoorFr4
import Derived.Lib.Strings
set_option linter.unusedVariables false
set_option linter.unusedSimpArgs false
namespace Go.Proofs.YthmbncehoblgpaaGreatDoor.E
open Go

theorem bless_iff : ∀ (x y : List UInt8), Op.bytesLess x y = true ↔ x < y
  | [], [] => by simp [Op.bytesLess]
  | _ :: _, [] => by simp [Op.bytesLess]
  | [], _ :: _ => by simp [Op.bytesLess]
  | a :: x, b :: y => by
    simp only [Op.bytesLess, Bool.or_eq_true, Bool.and_eq_true, decide_eq_true_eq, beq_iff_eq, bless_iff x y, List.cons_lt_cons_iff]
theorem bless_le {a b : ByteArray} (h : Op.bytesLess a.toList b.toList = true) : bytesLe a b := by
  rw [Lib.toList_data, Lib.toList_data, bless_iff] at h
  exact List.le_of_lt h
theorem bless_not {a b : ByteArray} (h : Op.bytesLess a.toList b.toList = false) : bytesLe b a := by
  have : ¬ Op.bytesLess a.toList b.toList = true := by simp [h]
  rw [Lib.toList_data, Lib.toList_data, bless_iff] at this
  exact List.not_lt.1 this

/-- A row: an element by number. -/
def at' (X : List ByteArray) (a : Nat) : ByteArray := X.getD a ⟨#[]⟩
theorem at_get {X : List ByteArray} {a : Nat} {s : ByteArray} (h : X[a]? = some s) : at' X a = s := by simp [at', h]
def swap (X : List ByteArray) (j : Nat) : List ByteArray := (X.set j (at' X (j - 1))).set (j - 1) (at' X j)
theorem swap_len (X : List ByteArray) (j : Nat) : (swap X j).length = X.length := by simp [swap]
theorem swap_at {X : List ByteArray} {j : Nat} (hj : 0 < j) (hl : j < X.length) (a : Nat) : at' (swap X j) a = if a = j - 1 then at' X j else if a = j then at' X (j - 1) else at' X a := by
  unfold swap at'
  rw [List.getD_eq_getElem?_getD, List.getElem?_set]
  by_cases h1 : a = j - 1
  · subst h1
    rw [if_pos rfl, if_pos rfl, if_pos (by simp; omega)]; rfl
  · rw [if_neg (fun e => h1 e.symm), if_neg h1, List.getElem?_set]
    by_cases h2 : a = j
    · subst h2
      rw [if_pos rfl, if_pos rfl, if_pos hl]; rfl
    · rw [if_neg (fun e => h2 e.symm), if_neg h2]; simp
theorem swap_perm {X : List ByteArray} {j : Nat} (hj : 0 < j) (hl : j < X.length) : (swap X j).Perm X := by
  obtain ⟨i, rfl⟩ : ∃ i, j = i + 1 := ⟨j - 1, by omega⟩
  have key : ∀ (X : List ByteArray) (i : Nat), i + 1 < X.length → (swap X (i + 1)).Perm X := by
    intro X
    induction X with
    | nil => intro i h; simp at h
    | cons x X ih =>
      intro i h
      cases i with
      | zero =>
        match X, h with
        | y :: Y, _ => simpa [swap, at'] using List.Perm.swap x y Y
      | succ i =>
        have := ih i (by simpa using h)
        have e : swap (x :: X) (i + 1 + 1) = x :: swap X (i + 1) := by
          simp [swap, at']
        rw [e]
        exact List.Perm.cons x this
  exact key X i hl

structure SortO (L : List ByteArray) where
  X : List ByteArray
  i : Nat
  p : X.Perm L
  h1 : 1 ≤ i
  hi : i ≤ L.length ∨ i = 1
  srt : ∀ a b, a < b → b < i → bytesLe (at' X a) (at' X b)
structure SortI (L : List ByteArray) (i : Nat) where
  X : List ByteArray
  j : Nat
  p : X.Perm L
  hj : j ≤ i
  srt : ∀ a b, a < b → b ≤ i → b ≠ j → bytesLe (at' X a) (at' X b)
theorem le_trans' {a b c : ByteArray} (h : bytesLe a b) (g : bytesLe b c) : bytesLe a c := List.le_trans h g
def SortI.next {L : List ByteArray} {i : Nat} (x : SortI L i) (hi : i < L.length) (h0 : 0 < x.j) (h : bytesLe (at' x.X x.j) (at' x.X (x.j - 1))) : SortI L i where
  X := swap x.X x.j
  j := x.j - 1
  p := (swap_perm h0 (by rw [x.p.length_eq]; have := x.hj; omega)).trans x.p
  hj := by have := x.hj; omega
  srt := fun a b hab hb hne => by
    have hj := x.hj
    have hl : x.j < x.X.length := by rw [x.p.length_eq]; omega
    rw [swap_at h0 hl, swap_at h0 hl, if_neg hne]
    by_cases e1 : b = x.j
    · rw [if_pos e1]
      by_cases e2 : a = x.j - 1
      · rw [if_pos e2]; exact h
      · rw [if_neg e2, if_neg (by omega)]; exact x.srt a (x.j - 1) (by omega) (by omega) (by omega)
    · rw [if_neg e1]
      by_cases e2 : a = x.j - 1
      · rw [if_pos e2]; exact x.srt x.j b (by omega) hb e1
      · by_cases e3 : a = x.j
        · rw [if_neg e2, if_pos e3]; exact x.srt (x.j - 1) b (by omega) hb e1
        · rw [if_neg e2, if_neg e3]; exact x.srt a b hab hb e1
theorem SortI.done {L : List ByteArray} {i : Nat} (x : SortI L i) (h : x.j = 0 ∨ bytesLe (at' x.X (x.j - 1)) (at' x.X x.j)) : ∀ a b, a < b → b < i + 1 → bytesLe (at' x.X a) (at' x.X b) := fun a b hab hb => by
  by_cases e : b = x.j
  · rcases h with h | h
    · omega
    · rw [e]
      by_cases e2 : a = x.j - 1
      · rw [e2]; exact h
      · exact le_trans' (x.srt a (x.j - 1) (by omega) (by have := x.hj; omega) (by omega)) h
  · exact x.srt a b hab (by omega) e
theorem sorted_is {L X : List ByteArray} (p : X.Perm L) (h : ∀ a b, a < b → b < L.length → bytesLe (at' X a) (at' X b)) : X = bsort L := by
  refine sorted_unique ?_ (bsort_sorted L) (p.trans (bsort_perm L).symm)
  rw [List.pairwise_iff_getElem]
  intro a b ha hb hab
  have := h a b hab (by rw [← p.length_eq]; exact hb)
  simpa [at', ha, hb] using this
def rfreeS (t : Tm) : List ByteArray := if tmcheck t = 0 then bsort (rfree t [] []) else []
set_option maxRecDepth 10000 in
theorem rFree_call (t : Tm) : ACall Tryz.prog 37 [t.val] [] (fun o σ => o = .ret (.c (.d (.sl 0 1 (strs (rfreeS t))))) ∧ σ = []) := by
  have c1 := rtmCheck_call t
  have c2 : tmcheck t = 0 → ACall Tryz.prog 67 [t.val, .c (.d (.sl 0 1 [])), .c (.d .nils)] [] (fun o σ => o = .ret (.c (.own 0 (strs (rfree t [] [])).length)) ∧ σ = [.row 9 1 (strs (rfree t [] []))]) := fun h => by
    have h2 := (tmcheck_ok h).1
    exact ACall.ghost (ys := [t.val, .c (.d (.sl 0 1 (strs []))), .c (.own 0 (strs []).length)]) 9 1 (by decide) ⟨.inl rfl, .inl rfl, .inr ⟨rfl, rfl⟩, trivial⟩ (rfree_call t (tmcheck_ok h).2 h2 [] [] (by simp; omega) (by simp; omega))
  have hN : tmcheck t = 0 → (rfree t [] []).length ≤ 8192 := fun h => by
    have h1 := rfree_len t [] []
    have h2 := (tmcheck_ok h).1
    simp only [List.length_nil] at h1; omega
  unfold rfreeS
  generalize tmcheck t = cc at *
  generalize rfree t [] [] = L at *
  obtain ⟨k, name, arg, num, tk, tks, uk, uks, label, place, ks⟩ := t
  refine ACall.body tab_ok (ρ := 0) (N := 53) Tryz.func37 rfl rfl rfl rfl rfl ?_
  repeat' first | refine AW.seq ?_ | refine AW.block ?_ | (refine (_root_.id : AW _ _ _ (.region 8 _ true) _ _ → _) ?_; refine AW.draw (id := 8) tab_ok mixed [0, 1, 2, 3, 4, 5, 6, 7, 8, 9, 10, 11, 12, 13] (by kernel_rfl) ?_; conv => whnf) | ((first | refine AW.region tab_ok ?_ | refine AW.cond ?_ | refine AW.skip ?_ | refine AW.ret ?_ | refine AW.exit ?_); conv => whnf) | (refine (c1).mono ?_; rintro _ _ ⟨rfl, rfl⟩; conv => whnf) | ((first | refine And.intro (@rfl Val _) ?_ | refine And.intro (by decide) ?_ | refine cs (fun _ => ?_) (fun _ => ?_)) <;> conv => whnf)
  · rename_i h
    rw [if_neg (by simpa using h)]
    exact ⟨rfl, rfl⟩
  · rename_i h
    rw [if_pos (by simpa using h)]
    have c2 := c2 (by simpa using h)
    have hN := hN (by simpa using h)
    clear h c1
    repeat' first | refine AW.seq ?_ | refine AW.block ?_ | (refine (_root_.id : AW _ _ _ (.region 8 _ true) _ _ → _) ?_; refine AW.draw (id := 8) tab_ok mixed [0, 1, 2, 3, 4, 5, 6, 7, 8, 9, 10, 11, 12, 13] (by kernel_rfl) ?_; conv => whnf) | ((first | refine AW.region tab_ok ?_ | refine AW.cond ?_ | refine AW.skip ?_ | refine AW.ret ?_ | refine AW.exit ?_); conv => whnf) | (refine (c2).mono ?_; rintro _ _ ⟨rfl, rfl⟩; conv => whnf) | ((first | refine And.intro (@rfl Val _) ?_ | refine And.intro (by decide) ?_ | refine cs (fun _ => ?_) (fun _ => ?_)) <;> conv => whnf)
    refine AW.loop (ι := SortO L) (fun x => ⟨53, [(4, .c (.d (.int .i64 x.i))), (3, .c (.own 1 (strs x.X).length))],
        [.var [.d (.int .i8 k), .d (.str name), .d (.str arg), .d (.int .i64 num), .d (.int .i8 tk), .d (.sl 0 2 (Ty.rows tks)), .d (.int .i8 uk), .d (.sl 0 2 (Ty.rows uks)), .d (.int .i64 label), .d (.int .i64 place), .d (.sl 0 11 (Tm.rows ks))], .row 9 1 (strs x.X)], []⟩)
      (fun x => L.length - x.i) ⟨L, 1, .refl L, Nat.le_refl 1, .inr rfl, fun a b h1 h2 => by omega⟩ 2 (fun _ => rfl) (Nat.le_of_ble_eq_true rfl) ⟨⟨rfl, rfl, trivial⟩, rfl, rfl, ⟨[], rfl⟩, rfl⟩ (fun x => ?_)
    obtain ⟨X, i, p, h1, hi, srt⟩ := x
    have hlX := p.length_eq
    repeat' first | refine AW.seq ?_ | refine AW.block ?_ | (refine (_root_.id : AW _ _ _ (.region 8 _ true) _ _ → _) ?_; refine AW.draw (id := 8) tab_ok mixed [0, 1, 2, 3, 4, 5, 6, 7, 8, 9, 10, 11, 12, 13] (by kernel_rfl) ?_; conv => whnf) | ((first | refine AW.region tab_ok ?_ | refine AW.cond ?_ | refine AW.skip ?_ | refine AW.ret ?_ | refine AW.exit ?_); conv => whnf) | ((first | refine And.intro (@rfl Val _) ?_ | refine And.intro (by decide) ?_ | refine cs (fun _ => ?_) (fun _ => ?_)) <;> conv => whnf)
    · rename_i hc
      simp only [strs_len] at hc
      have hc := of_decide_eq_true hc
      have hlt : i < L.length := by omega
      refine AW.loop (ι := SortI L i) (fun x => ⟨53, [(5, .c (.d (.int .i64 x.j))), (4, .c (.d (.int .i64 i))), (3, .c (.own 1 (strs x.X).length))],
          [.var [.d (.int .i8 k), .d (.str name), .d (.str arg), .d (.int .i64 num), .d (.int .i8 tk), .d (.sl 0 2 (Ty.rows tks)), .d (.int .i8 uk), .d (.sl 0 2 (Ty.rows uks)), .d (.int .i64 label), .d (.int .i64 place), .d (.sl 0 11 (Tm.rows ks))], .row 9 1 (strs x.X)], []⟩)
        (fun x => x.j) ⟨X, i, p, Nat.le_refl i, fun a b h1 h2 h3 => srt a b h1 (by omega)⟩ 2 (fun _ => rfl) (Nat.le_of_ble_eq_true rfl) ⟨⟨rfl, rfl, rfl, trivial⟩, rfl, rfl, ⟨[], rfl⟩, rfl⟩ (fun x => ?_)
      repeat' first | refine AW.seq ?_ | refine AW.block ?_ | (refine (_root_.id : AW _ _ _ (.region 8 _ true) _ _ → _) ?_; refine AW.draw (id := 8) tab_ok mixed [0, 1, 2, 3, 4, 5, 6, 7, 8, 9, 10, 11, 12, 13] (by kernel_rfl) ?_; conv => whnf) | ((first | refine AW.region tab_ok ?_ | refine AW.cond ?_ | refine AW.skip ?_ | refine AW.ret ?_ | refine AW.exit ?_); conv => whnf) | ((first | refine And.intro (@rfl Val _) ?_ | refine And.intro (by decide) ?_ | refine cs (fun _ => ?_) (fun _ => ?_)) <;> conv => whnf)
      · rename_i hj0
        have hj0 : 0 < x.j := by have := of_decide_eq_true hj0; omega
        have hlx := x.p.length_eq
        have hji := x.hj
        have hwj : IntKind.i64.wrap ((x.j : Int) - 1) = ((x.j - 1 : Nat) : Int) := by rw [wrap64 (by omega) (by omega)]; omega
        refine ⟨⟨rfl, by omega, by simp only [strs_len]; omega⟩, ?_⟩
        conv => whnf
        repeat' first | refine AW.seq ?_ | refine AW.block ?_ | (refine (_root_.id : AW _ _ _ (.region 8 _ true) _ _ → _) ?_; refine AW.draw (id := 8) tab_ok mixed [0, 1, 2, 3, 4, 5, 6, 7, 8, 9, 10, 11, 12, 13] (by kernel_rfl) ?_; conv => whnf) | ((first | refine AW.region tab_ok ?_ | refine AW.cond ?_ | refine AW.skip ?_ | refine AW.ret ?_ | refine AW.exit ?_); conv => whnf) | ((first | refine And.intro (@rfl Val _) ?_ | refine And.intro (by decide) ?_ | refine cs (fun _ => ?_) (fun _ => ?_)) <;> conv => whnf)
        refine ⟨⟨rfl, by simp only [strs_len]; omega⟩, fun row hrow => ?_⟩
        obtain ⟨s1, hs1, rfl⟩ := strs_get (by simpa using hrow)
        conv => whnf
        repeat' first | refine AW.seq ?_ | refine AW.block ?_ | (refine (_root_.id : AW _ _ _ (.region 8 _ true) _ _ → _) ?_; refine AW.draw (id := 8) tab_ok mixed [0, 1, 2, 3, 4, 5, 6, 7, 8, 9, 10, 11, 12, 13] (by kernel_rfl) ?_; conv => whnf) | ((first | refine AW.region tab_ok ?_ | refine AW.cond ?_ | refine AW.skip ?_ | refine AW.ret ?_ | refine AW.exit ?_); conv => whnf) | ((first | refine And.intro (@rfl Val _) ?_ | refine And.intro (by decide) ?_ | refine cs (fun _ => ?_) (fun _ => ?_)) <;> conv => whnf)
        rw [hwj]
        refine ⟨⟨rfl, by omega, by simp only [strs_len]; omega⟩, ?_⟩
        conv => whnf
        repeat' first | refine AW.seq ?_ | refine AW.block ?_ | (refine (_root_.id : AW _ _ _ (.region 8 _ true) _ _ → _) ?_; refine AW.draw (id := 8) tab_ok mixed [0, 1, 2, 3, 4, 5, 6, 7, 8, 9, 10, 11, 12, 13] (by kernel_rfl) ?_; conv => whnf) | ((first | refine AW.region tab_ok ?_ | refine AW.cond ?_ | refine AW.skip ?_ | refine AW.ret ?_ | refine AW.exit ?_); conv => whnf) | ((first | refine And.intro (@rfl Val _) ?_ | refine And.intro (by decide) ?_ | refine cs (fun _ => ?_) (fun _ => ?_)) <;> conv => whnf)
        refine ⟨⟨rfl, by simp only [strs_len]; omega⟩, fun row hrow => ?_⟩
        obtain ⟨s2, hs2, rfl⟩ := strs_get (by simpa using hrow)
        have a1 := at_get hs1
        have a2 := at_get hs2
        conv => whnf
        repeat' first | refine AW.seq ?_ | refine AW.block ?_ | (refine (_root_.id : AW _ _ _ (.region 8 _ true) _ _ → _) ?_; refine AW.draw (id := 8) tab_ok mixed [0, 1, 2, 3, 4, 5, 6, 7, 8, 9, 10, 11, 12, 13] (by kernel_rfl) ?_; conv => whnf) | ((first | refine AW.region tab_ok ?_ | refine AW.cond ?_ | refine AW.skip ?_ | refine AW.ret ?_ | refine AW.exit ?_); conv => whnf) | ((first | refine And.intro (@rfl Val _) ?_ | refine And.intro (by decide) ?_ | refine cs (fun _ => ?_) (fun _ => ?_)) <;> conv => whnf)
        · rename_i hb
          have hle : bytesLe (at' x.X x.j) (at' x.X (x.j - 1)) := by rw [a1, a2]; exact bless_le (by simpa using hb)
          refine ⟨⟨rfl, by omega, by simp only [strs_len]; omega⟩, ?_⟩
          conv => whnf
          repeat' first | refine AW.seq ?_ | refine AW.block ?_ | (refine (_root_.id : AW _ _ _ (.region 8 _ true) _ _ → _) ?_; refine AW.draw (id := 8) tab_ok mixed [0, 1, 2, 3, 4, 5, 6, 7, 8, 9, 10, 11, 12, 13] (by kernel_rfl) ?_; conv => whnf) | ((first | refine AW.region tab_ok ?_ | refine AW.cond ?_ | refine AW.skip ?_ | refine AW.ret ?_ | refine AW.exit ?_); conv => whnf) | ((first | refine And.intro (@rfl Val _) ?_ | refine And.intro (by decide) ?_ | refine cs (fun _ => ?_) (fun _ => ?_)) <;> conv => whnf)
          refine ⟨⟨rfl, by simp only [strs_len]; omega⟩, fun row hrow => ?_⟩
          obtain ⟨s3, hs3, rfl⟩ := strs_get (by simpa using hrow)
          obtain rfl : s1 = s3 := by rw [hs1] at hs3; exact Option.some.inj hs3
          conv => whnf
          repeat' first | refine AW.seq ?_ | refine AW.block ?_ | (refine (_root_.id : AW _ _ _ (.region 8 _ true) _ _ → _) ?_; refine AW.draw (id := 8) tab_ok mixed [0, 1, 2, 3, 4, 5, 6, 7, 8, 9, 10, 11, 12, 13] (by kernel_rfl) ?_; conv => whnf) | ((first | refine AW.region tab_ok ?_ | refine AW.cond ?_ | refine AW.skip ?_ | refine AW.ret ?_ | refine AW.exit ?_); conv => whnf) | ((first | refine And.intro (@rfl Val _) ?_ | refine And.intro (by decide) ?_ | refine cs (fun _ => ?_) (fun _ => ?_)) <;> conv => whnf)
          rw [hwj]
          refine ⟨⟨rfl, by omega, by simp only [strs_len]; omega⟩, ?_⟩
          conv => whnf
          repeat' first | refine AW.seq ?_ | refine AW.block ?_ | (refine (_root_.id : AW _ _ _ (.region 8 _ true) _ _ → _) ?_; refine AW.draw (id := 8) tab_ok mixed [0, 1, 2, 3, 4, 5, 6, 7, 8, 9, 10, 11, 12, 13] (by kernel_rfl) ?_; conv => whnf) | ((first | refine AW.region tab_ok ?_ | refine AW.cond ?_ | refine AW.skip ?_ | refine AW.ret ?_ | refine AW.exit ?_); conv => whnf) | ((first | refine And.intro (@rfl Val _) ?_ | refine And.intro (by decide) ?_ | refine cs (fun _ => ?_) (fun _ => ?_)) <;> conv => whnf)
          refine ⟨⟨rfl, by simp only [strs_len]; omega⟩, fun row hrow => ?_⟩
          obtain ⟨s4, hs4, rfl⟩ := strs_get (by simpa using hrow)
          obtain rfl : s2 = s4 := by rw [hs2] at hs4; exact Option.some.inj hs4
          conv => whnf
          repeat' first | refine AW.seq ?_ | refine AW.block ?_ | (refine (_root_.id : AW _ _ _ (.region 8 _ true) _ _ → _) ?_; refine AW.draw (id := 8) tab_ok mixed [0, 1, 2, 3, 4, 5, 6, 7, 8, 9, 10, 11, 12, 13] (by kernel_rfl) ?_; conv => whnf) | ((first | refine AW.region tab_ok ?_ | refine AW.cond ?_ | refine AW.skip ?_ | refine AW.ret ?_ | refine AW.exit ?_); conv => whnf) | ((first | refine And.intro (@rfl Val _) ?_ | refine And.intro (by decide) ?_ | refine cs (fun _ => ?_) (fun _ => ?_)) <;> conv => whnf)
          refine ⟨⟨rfl, by omega, by simp only [strs_len]; omega⟩, ?_⟩
          conv => whnf
          repeat' first | refine AW.seq ?_ | refine AW.block ?_ | (refine (_root_.id : AW _ _ _ (.region 8 _ true) _ _ → _) ?_; refine AW.draw (id := 8) tab_ok mixed [0, 1, 2, 3, 4, 5, 6, 7, 8, 9, 10, 11, 12, 13] (by kernel_rfl) ?_; conv => whnf) | ((first | refine AW.region tab_ok ?_ | refine AW.cond ?_ | refine AW.skip ?_ | refine AW.ret ?_ | refine AW.exit ?_); conv => whnf) | ((first | refine And.intro (@rfl Val _) ?_ | refine And.intro (by decide) ?_ | refine cs (fun _ => ?_) (fun _ => ?_)) <;> conv => whnf)
          refine ⟨⟨rfl, by simp only [strs_len]; omega⟩, ?_⟩
          conv => whnf
          repeat' first | refine AW.seq ?_ | refine AW.block ?_ | (refine (_root_.id : AW _ _ _ (.region 8 _ true) _ _ → _) ?_; refine AW.draw (id := 8) tab_ok mixed [0, 1, 2, 3, 4, 5, 6, 7, 8, 9, 10, 11, 12, 13] (by kernel_rfl) ?_; conv => whnf) | ((first | refine AW.region tab_ok ?_ | refine AW.cond ?_ | refine AW.skip ?_ | refine AW.ret ?_ | refine AW.exit ?_); conv => whnf) | ((first | refine And.intro (@rfl Val _) ?_ | refine And.intro (by decide) ?_ | refine cs (fun _ => ?_) (fun _ => ?_)) <;> conv => whnf)
          rw [hwj]
          have e1 : (strs x.X).length = ((strs x.X).set ((x.j : Int)).toNat [.str s2]).length := by simp
          refine ⟨⟨e1, by omega, by simp only [List.length_set, strs_len]; omega⟩, ?_⟩
          conv => whnf
          repeat' first | refine AW.seq ?_ | refine AW.block ?_ | (refine (_root_.id : AW _ _ _ (.region 8 _ true) _ _ → _) ?_; refine AW.draw (id := 8) tab_ok mixed [0, 1, 2, 3, 4, 5, 6, 7, 8, 9, 10, 11, 12, 13] (by kernel_rfl) ?_; conv => whnf) | ((first | refine AW.region tab_ok ?_ | refine AW.cond ?_ | refine AW.skip ?_ | refine AW.ret ?_ | refine AW.exit ?_); conv => whnf) | ((first | refine And.intro (@rfl Val _) ?_ | refine And.intro (by decide) ?_ | refine cs (fun _ => ?_) (fun _ => ?_)) <;> conv => whnf)
          refine ⟨⟨e1, by simp only [List.length_set, strs_len]; omega⟩, ?_⟩
          conv => whnf
          repeat' first | refine AW.seq ?_ | refine AW.block ?_ | (refine (_root_.id : AW _ _ _ (.region 8 _ true) _ _ → _) ?_; refine AW.draw (id := 8) tab_ok mixed [0, 1, 2, 3, 4, 5, 6, 7, 8, 9, 10, 11, 12, 13] (by kernel_rfl) ?_; conv => whnf) | ((first | refine AW.region tab_ok ?_ | refine AW.cond ?_ | refine AW.skip ?_ | refine AW.ret ?_ | refine AW.exit ?_); conv => whnf) | ((first | refine And.intro (@rfl Val _) ?_ | refine And.intro (by decide) ?_ | refine cs (fun _ => ?_) (fun _ => ?_)) <;> conv => whnf)
          have e2 : ((strs x.X).set ((x.j : Int)).toNat [.str s2]).set (((x.j - 1 : Nat) : Int)).toNat [.str s1] = strs (swap x.X x.j) := by
            simp [strs, swap, a1, a2]
          have e3 : (strs x.X).length = (strs (swap x.X x.j)).length := by simp only [strs_len, swap_len]
          rw [hwj, e2, e3]
          exact ⟨x.next hlt hj0 hle, ⟨⟨rfl, rfl, rfl, trivial⟩, rfl, rfl, ⟨[], rfl⟩, rfl⟩, show x.j - 1 < x.j by omega⟩
        · rename_i hb
          have hle : bytesLe (at' x.X (x.j - 1)) (at' x.X x.j) := by rw [a1, a2]; exact bless_not (by simpa using hb)
          rw [wrap64 (x := (i : Int) + 1) (by omega) (by omega)]
          refine ⟨⟨x.X, i + 1, x.p, by omega, .inl (by omega), x.done (.inr hle)⟩, ⟨⟨rfl, rfl, trivial⟩, rfl, rfl, ⟨[], rfl⟩, rfl⟩, show L.length - (i + 1) < L.length - i by omega⟩
      · rename_i hj0
        have hj0 : x.j = 0 := by have := of_decide_eq_false hj0; omega
        rw [wrap64 (x := (i : Int) + 1) (by omega) (by omega)]
        refine ⟨⟨x.X, i + 1, x.p, by omega, .inl (by omega), x.done (.inl hj0)⟩, ⟨⟨rfl, rfl, trivial⟩, rfl, rfl, ⟨[], rfl⟩, rfl⟩, show L.length - (i + 1) < L.length - i by omega⟩
    · rename_i hc
      simp only [strs_len] at hc
      have hc := of_decide_eq_false hc
      have e : X = bsort L := sorted_is p (fun a b h2 h3 => srt a b h2 (by omega))
      rw [← e]
      refine ⟨rfl, ?_⟩
      conv => whnf
      exact ⟨rfl, rfl⟩
end Go.Proofs.YthmbncehoblgpaaGreatDoor.E
