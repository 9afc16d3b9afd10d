/- Texts, merged: St11, St12, St13A. No conditions. -/
import Derived.Test.YthmbncehoblgpaaDoorGenX8
/- The document's text of a term: strength, digits, types. No conditions. -/
set_option linter.unusedVariables false
set_option linter.unusedSimpArgs false
namespace Go.Proofs.YthmbncehoblgpaaDoor.E
open Go

theorem enc_digit {d : Nat} (h : d < 10) : Utf8.encode (48 + (d : Int)) = bw [UInt8.ofNat (48 + d)] := by
  have : d = 0 ∨ d = 1 ∨ d = 2 ∨ d = 3 ∨ d = 4 ∨ d = 5 ∨ d = 6 ∨ d = 7 ∨ d = 8 ∨ d = 9 := by omega
  rcases this with rfl | rfl | rfl | rfl | rfl | rfl | rfl | rfl | rfl | rfl <;> decide +kernel
structure DgI (n : Nat) where
  m : Nat
  s : List UInt8
  hm : m ≤ n
  h : Lib.decDigits n = Lib.decDigits m ++ s
theorem dg_len {n : Nat} (hn : n ≤ 9223372036854775807) (x : DgI n) : x.s.length ≤ 20 := by
  have h1 := congrArg List.length x.h
  rw [List.length_append, Lib.decDigits_length, Lib.decDigits_length] at h1
  have := Lib.nDigits_le20 n (by omega)
  omega
set_option maxRecDepth 10000 in
theorem digits_call (n : Nat) (hn : n ≤ 9223372036854775807) : ACall Tryd.prog 82 [.c (.d (.int .i64 n))] [] (fun o σ => o = .ret (.c (.d (.str (digs n)))) ∧ σ = []) := by
  rw [show digs n = bw (Lib.decDigits n) by unfold digs Lib.itoa; rw [if_neg (by omega)]; rfl]
  refine ACall.body tab_ok (ρ := 0) (N := 21) Tryd.func82 rfl rfl rfl rfl rfl ?_
  repeat' first | refine AW.seq ?_ | refine AW.block ?_ | ((first | refine AW.region tab_ok ?_ | refine AW.cond ?_ | refine AW.skip ?_ | refine AW.ret ?_ | refine AW.exit ?_); conv => whnf) | ((first | refine And.intro (@rfl Val _) ?_ | refine And.intro (by decide) ?_ | refine cs (fun _ => ?_) (fun _ => ?_)) <;> conv => whnf)
  refine AW.loop (ι := DgI n) (fun x => ⟨21, [(0, .c (.d (.int .i64 x.m))), (3, .c (.d (.str (bw x.s))))], [], []⟩)
    (fun x => x.m) ⟨n, [], Nat.le_refl _, by simp⟩ 0 (fun _ => rfl) (Nat.le_of_ble_eq_true rfl) ⟨⟨rfl, rfl, trivial⟩, rfl, rfl, ⟨[], rfl⟩, rfl⟩ (fun x => ?_)
  have hl := dg_len hn x
  obtain ⟨m, s, hm, h⟩ := x
  repeat' first | refine AW.seq ?_ | refine AW.block ?_ | ((first | refine AW.region tab_ok ?_ | refine AW.cond ?_ | refine AW.skip ?_ | refine AW.ret ?_ | refine AW.exit ?_); conv => whnf) | ((first | refine And.intro (@rfl Val _) ?_ | refine And.intro (by decide) ?_ | refine cs (fun _ => ?_) (fun _ => ?_)) <;> conv => whnf)
  · rename_i h2
    have hm9 : 9 < m := by have := of_decide_eq_true h2; simp only at this; omega
    have e1 : Utf8.encode (IntKind.i32.wrap (IntKind.i64.wrap (48 + (m : Int).tmod 10))) = bw [UInt8.ofNat (48 + m % 10)] := by
      have ht : (m : Int).tmod 10 = ((m % 10 : Nat) : Int) := by rw [Int.tmod_eq_emod_of_nonneg (by omega)]; omega
      rw [ht, wrap64 (by omega) (by omega)]
      have : IntKind.i32.wrap (48 + ((m % 10 : Nat) : Int)) = 48 + ((m % 10 : Nat) : Int) := by
        have hd : m % 10 < 10 := Nat.mod_lt _ (by decide)
        generalize m % 10 = d at hd
        have : d = 0 ∨ d = 1 ∨ d = 2 ∨ d = 3 ∨ d = 4 ∨ d = 5 ∨ d = 6 ∨ d = 7 ∨ d = 8 ∨ d = 9 := by omega
        rcases this with rfl | rfl | rfl | rfl | rfl | rfl | rfl | rfl | rfl | rfl <;> decide
      rw [this, enc_digit (Nat.mod_lt _ (by decide))]
    have e2 : IntKind.i64.wrap ((m : Int).tdiv 10) = ((m / 10 : Nat) : Int) := by
      have ht : (m : Int).tdiv 10 = ((m / 10 : Nat) : Int) := by rw [Int.tdiv_eq_ediv_of_nonneg (by omega)]; omega
      rw [ht, wrap64 (by omega) (by omega)]
    dsimp only at hl ⊢
    rw [e1]
    refine And.intro (by simp only [bw_size, List.length_cons, List.length_nil]; omega) ?_
    conv => whnf
    repeat' first | refine AW.seq ?_ | refine AW.block ?_ | ((first | refine AW.region tab_ok ?_ | refine AW.cond ?_ | refine AW.skip ?_ | refine AW.ret ?_ | refine AW.exit ?_); conv => whnf) | ((first | refine And.intro (@rfl Val _) ?_ | refine And.intro (by decide) ?_ | refine cs (fun _ => ?_) (fun _ => ?_)) <;> conv => whnf)
    rw [e2]
    have hd : Lib.decDigits n = Lib.decDigits (m / 10) ++ (UInt8.ofNat (48 + m % 10) :: s) := by
      rw [h, Lib.decDigits, dif_neg (by omega), List.append_assoc]
      rfl
    refine ⟨⟨m / 10, UInt8.ofNat (48 + m % 10) :: s, by omega, hd⟩, ⟨⟨rfl, ?_, trivial⟩, rfl, rfl, ⟨[], rfl⟩, rfl⟩, show m / 10 < m by omega⟩
    rw [bw_app]
    rfl
  · rename_i h2
    have hm9 : m < 10 := by have := of_decide_eq_false h2; simp only at this; omega
    have e1 : Utf8.encode (IntKind.i32.wrap (IntKind.i64.wrap (48 + (m : Int)))) = bw [UInt8.ofNat (48 + m)] := by
      rw [wrap64 (by omega) (by omega)]
      have : IntKind.i32.wrap (48 + (m : Int)) = 48 + (m : Int) := by
        have : m = 0 ∨ m = 1 ∨ m = 2 ∨ m = 3 ∨ m = 4 ∨ m = 5 ∨ m = 6 ∨ m = 7 ∨ m = 8 ∨ m = 9 := by omega
        rcases this with rfl | rfl | rfl | rfl | rfl | rfl | rfl | rfl | rfl | rfl <;> decide
      rw [this, enc_digit hm9]
    dsimp only at hl ⊢
    rw [e1]
    refine And.intro (by simp only [bw_size, List.length_cons, List.length_nil]; omega) ?_
    conv => whnf
    repeat' first | refine AW.seq ?_ | refine AW.block ?_ | ((first | refine AW.region tab_ok ?_ | refine AW.cond ?_ | refine AW.skip ?_ | refine AW.ret ?_ | refine AW.exit ?_); conv => whnf) | ((first | refine And.intro (@rfl Val _) ?_ | refine And.intro (by decide) ?_ | refine cs (fun _ => ?_) (fun _ => ?_)) <;> conv => whnf)
    rw [h, Lib.decDigits_one hm9, ← bw_app]
    exact ⟨rfl, rfl⟩

set_option maxRecDepth 10000 in
theorem rText_call (t : Ty) : ACall Tryd.prog 103 [t.val] [] (fun o σ => o = .ret (.tup [.c (.d (.str (if tcheck t = 0 then bw (tyO t) else bw []))), .c (.d (.int .i64 (tcheck t)))]) ∧ σ = []) := by
  have c1 := rcheck_call t
  by_cases h : tcheck t = 0
  · rw [if_pos h]
    rw [h] at c1 ⊢
    have hn := tcheck_nodes h
    have hl := tyW_len 0 t
    have c2 := rtext_call t (tcheck_right h) 0 (by omega)
    rw [tyW0] at c2
    obtain ⟨k, ks⟩ := t
    refine ACall.body tab_ok (ρ := 0) (N := 12) Tryd.func103 rfl rfl rfl rfl rfl ?_
    repeat' first | refine AW.seq ?_ | refine AW.block ?_ | ((first | refine AW.region tab_ok ?_ | refine AW.cond ?_ | refine AW.skip ?_ | refine AW.ret ?_ | refine AW.exit ?_); conv => whnf) | ((first | refine (c1).mono ?_ | refine (c2).mono ?_); rintro _ _ ⟨rfl, rfl⟩; conv => whnf) | ((first | refine And.intro (@rfl Val _) ?_ | refine And.intro (by decide) ?_ | refine cs (fun _ => ?_) (fun _ => ?_)) <;> conv => whnf)
    exact ⟨rfl, rfl⟩
  · rw [if_neg h]
    generalize tcheck t = e at *
    obtain ⟨k, ks⟩ := t
    refine ACall.body tab_ok (ρ := 0) (N := 12) Tryd.func103 rfl rfl rfl rfl rfl ?_
    repeat' first | refine AW.seq ?_ | refine AW.block ?_ | ((first | refine AW.region tab_ok ?_ | refine AW.cond ?_ | refine AW.skip ?_ | refine AW.ret ?_ | refine AW.exit ?_); conv => whnf) | (refine (c1).mono ?_; rintro _ _ ⟨rfl, rfl⟩; conv => whnf) | ((first | refine And.intro (@rfl Val _) ?_ | refine And.intro (by decide) ?_ | refine cs (fun _ => ?_) (fun _ => ?_)) <;> conv => whnf)
    all_goals first | exact ⟨rfl, rfl⟩ | (rename_i h3; exact absurd (by simpa using h3) h)
set_option maxRecDepth 10000 in
theorem rkind05_call (t : Ty) (h : tcheck t = 0) : ACall Tryd.prog 83 [t.val] [] (fun o σ => o = .ret (.c (.d (.str (bw (tyO t))))) ∧ σ = []) := by
  have c1 := rText_call t
  rw [if_pos h, h] at c1
  generalize bw (tyO t) = s at *
  obtain ⟨k, ks⟩ := t
  refine ACall.body tab_ok (ρ := 0) (N := 13) Tryd.func83 rfl rfl rfl rfl rfl ?_
  repeat' first | refine AW.seq ?_ | refine AW.block ?_ | ((first | refine AW.region tab_ok ?_ | refine AW.cond ?_ | refine AW.skip ?_ | refine AW.ret ?_ | refine AW.exit ?_); conv => whnf) | (refine (c1).mono ?_; rintro _ _ ⟨rfl, rfl⟩; conv => whnf) | ((first | refine And.intro (@rfl Val _) ?_ | refine And.intro (by decide) ?_ | refine cs (fun _ => ?_) (fun _ => ?_)) <;> conv => whnf)
  exact ⟨rfl, rfl⟩
theorem rS15 {name arg num tk tks uk uks label place ks} (h : tmright (.node 15 name arg num tk tks uk uks label place ks) = true) : tmS (.node 15 name arg num tk tks uk uks label place ks) = if (decide (name = ⟨#[42]⟩) || decide (name = ⟨#[47]⟩)) = true then 3 else if (decide (name = ⟨#[43]⟩) || decide (name = ⟨#[45]⟩)) = true then 2 else 1 := by
  rw [tmS15]
  simp only [tmright, ownRight, Bool.and_eq_true, Bool.or_eq_true, Bool.not_eq_true', decide_eq_false_iff_not] at h
  rcases h.1.2 with e | e
  · exact absurd trivial e
  simp only [opF, opsF, List.any_cons, List.any_nil, Bool.or_false, Bool.or_eq_true, decide_eq_true_eq] at e
  rcases e with rfl | rfl | rfl | rfl | rfl | rfl <;> decide
set_option maxRecDepth 10000 in
theorem rstrength05_call (t : Tm) (ht : tmright t = true) (hc : tmBad t = false) : ACall Tryd.prog 48 [t.val] [] (fun o σ => o = .ret (.c (.d (.int .i64 (tmS t)))) ∧ σ = []) := by
  obtain ⟨k, name, arg, num, tk, tks, uk, uks, label, place, ks⟩ := t
  have hv := tmright_valid ht
  have h17 := (tmBad_own hc).1
  rcases kinds k hv with rfl | rfl | rfl | rfl | rfl | rfl | rfl | rfl | rfl | rfl | rfl | rfl | rfl | rfl | rfl | rfl | rfl | rfl
  all_goals first
    | exact absurd rfl h17
    | skip
      refine ACall.body tab_ok (ρ := 0) (N := 33) Tryd.func48 rfl rfl rfl rfl rfl ?_
      repeat' first | refine AW.seq ?_ | refine AW.block ?_ | ((first | refine AW.region tab_ok ?_ | refine AW.cond ?_ | refine AW.skip ?_ | refine AW.ret ?_ | refine AW.exit ?_); conv => whnf) | ((first | refine And.intro (@rfl Val _) ?_ | refine And.intro (by decide) ?_ | refine cs (fun _ => ?_) (fun _ => ?_)) <;> conv => whnf)
      all_goals first
        | exact ⟨rfl, rfl⟩
        | (refine ⟨?_, rfl⟩; simp_all [oneOf, tmS]; done)
        | (refine ⟨?_, rfl⟩; rename_i h1; rw [rS15 ht]; simp only [*, Bool.or_true, Bool.true_or, Bool.or_false, Bool.false_eq_true, if_false, if_true, oneOf]; done)
       
end Go.Proofs.YthmbncehoblgpaaDoor.E

/- What the document's walks say; joins. No conditions. -/
set_option linter.unusedVariables false
set_option linter.unusedSimpArgs false
namespace Go.Proofs.YthmbncehoblgpaaDoor.E
open Go

theorem bw_list (l : List UInt8) : (bw l).data.toList = l := rfl
theorem ba_app (a b : ByteArray) : (a ++ b).data.toList = a.data.toList ++ b.data.toList := by simp
theorem ba_eq {a : ByteArray} {l : List UInt8} (h : a.data.toList = l) : a = bw l := by
  apply ByteArray.ext
  show a.data = l.toArray
  rw [← h]
theorem joinW_one (w : ByteArray) : joinW [w] = w.data.toList := Lib.join_one _ _
theorem joinTail_cons (sep x : List UInt8) (r : List (List UInt8)) : Lib.joinTail sep (x :: r) = sep ++ Lib.join (x :: r) sep := by
  rw [Lib.join_cons]
  simp [Lib.joinTail]
theorem joinW_cons (w : ByteArray) {l : List ByteArray} (h : l ≠ []) : joinW (w :: l) = w.data.toList ++ 32 :: joinW l := by
  cases l with
  | nil => exact absurd rfl h
  | cons x r =>
    unfold joinW
    rw [List.map_cons, Lib.join_cons, List.map_cons, joinTail_cons]
    rfl
theorem joinW_app : ∀ {l m : List ByteArray}, l ≠ [] → m ≠ [] → joinW (l ++ m) = joinW l ++ 32 :: joinW m
  | [], _, h, _ => absurd rfl h
  | [w], m, _, h => by rw [List.singleton_append, joinW_cons w h, joinW_one]
  | w :: x :: l, m, _, h => by
    rw [List.cons_append, joinW_cons w (by simp), joinW_app (l := x :: l) (by simp) h, joinW_cons w (by simp)]
    simp
theorem tmW_ne (t : Tm) (hr : tmright t = true) (hb : tmBad t = false) : tmW t ≠ [] := by
  obtain ⟨k, name, arg, num, tk, tks, uk, uks, label, place, ks⟩ := t
  have hv := tmright_valid hr
  have h17 := (tmBad_own hb).1
  rcases kinds k hv with rfl | rfl | rfl | rfl | rfl | rfl | rfl | rfl | rfl | rfl | rfl | rfl | rfl | rfl | rfl | rfl | rfl | rfl
  all_goals first
    | exact absurd rfl h17
    | (simp [tmW, tmJ]; done)
    | (by_cases h : num < 0 <;> simp [tmW, tmJ, h])
theorem tmA_ne (least : Int) (t : Tm) (hr : tmright t = true) (hb : tmBad t = false) : tmA least t ≠ [] := by
  have := tmW_ne t hr hb
  unfold tmA wbr
  split
  · exact this
  · simp
def RAtC (t : Tm) : Prop := (∀ least, tmA least t ≠ []) ∧ ∀ (least : Int), wsum (tmA least t) ≤ 1000000000 →
  ACall Tryd.prog 24 [t.val, .c (.d (.int .i64 least))] [] (fun o σ => o = .ret (.c (.d (.str (bw (joinW (tmA least t)))))) ∧ σ = [])
def RWordsC (f : Nat) (t : Tm) : Prop := wsum (tmW t) ≤ 1000000000 →
  ACall Tryd.prog f [t.val] [] (fun o σ => o = .ret (.c (.d (.str (bw (joinW (tmW t)))))) ∧ σ = [])
end Go.Proofs.YthmbncehoblgpaaDoor.E

/- Walks: the document's words, by kinds (printed by mk44.py). No conditions. -/
set_option linter.unusedVariables false
set_option linter.unusedSimpArgs false
namespace Go.Proofs.YthmbncehoblgpaaDoor.E
open Go

set_option maxRecDepth 10000 in
set_option maxHeartbeats 2000000 in
theorem rwords_0 (name arg : ByteArray) (num : Int) (tk : Int) (tks : List Ty) (uk : Int) (uks : List Ty) (label place : Int)  (ht : tmright (Tm.node 0 name arg num tk tks uk uks label place []) = true)  : RWordsC 49 (Tm.node 0 name arg num tk tks uk uks label place []) := by
  intro hb
  have hW : tmW (Tm.node 0 name arg num tk tks uk uks label place []) = [name] := rfl
  rw [hW] at hb ⊢
  clear hW
  simp only [wsum_app, wsum_cons, wsum_nil, bw_size, List.length_cons, List.length_nil] at hb
  refine ACall.body tab_ok (ρ := 0) (N := 232) Tryd.func49 rfl rfl rfl rfl rfl ?_
  repeat' first | ((refine And.intro (by simp only [ByteArray.size_append, bw_size, bwl, List.length_cons, List.length_nil]; omega : (_ : Nat) ≤ 9223372036854775807) ?_; conv => whnf)) | ((refine And.intro (⟨by decide, by first | decide | (simp [Tm.rows]; done) | (simp [Tm.rows]; decide)⟩ : _ ∧ _) ?_; conv => whnf)) | ((intro row hrow; obtain rfl := Option.some.inj hrow; conv => whnf)) | refine AW.seq ?_ | refine AW.block ?_ | (refine (_root_.id : AW _ _ _ (.region 13 _ true) _ _ → _) ?_; refine AW.draw (id := 13) tab_ok mixed [0, 1, 2, 3, 4, 5, 9, 10, 11, 12, 6, 7, 8, 13, 14, 15] (by kernel_rfl) ?_; conv => whnf) | (refine (_root_.id : AW _ _ _ (.region 15 _ true) _ _ → _) ?_; refine AW.draw (id := 15) tab_ok mixed [0, 1, 2, 3, 4, 5, 6, 7, 8, 9, 13, 14, 18, 19, 20, 21, 10, 11, 12, 15, 16, 17, 22, 23, 24] (by kernel_rfl) ?_; conv => whnf) | (refine (_root_.id : AW _ _ _ (.region 17 _ true) _ _ → _) ?_; refine AW.draw (id := 17) tab_ok mixed [0, 1, 2, 3, 6, 7, 8, 9, 4, 5, 10, 11, 12, 13] (by kernel_rfl) ?_; conv => whnf) | (refine (_root_.id : AW _ _ _ (.region 19 _ true) _ _ → _) ?_; refine AW.draw (id := 19) tab_ok mixed [0, 1, 2, 3, 4, 5, 9, 10, 11, 12, 16, 17, 18, 19, 6, 7, 8, 13, 14, 15, 20, 21, 22] (by kernel_rfl) ?_; conv => whnf) | (refine (_root_.id : AW _ _ _ (.region 21 _ true) _ _ → _) ?_; refine AW.draw (id := 21) tab_ok mixed [0, 1, 2, 3, 7, 8, 9, 10, 14, 15, 16, 17, 4, 5, 6, 11, 12, 13, 18, 19, 20] (by kernel_rfl) ?_; conv => whnf) | (refine (_root_.id : AW _ _ _ (.region 23 _ true) _ _ → _) ?_; refine AW.draw (id := 23) tab_ok mixed [0, 1, 2, 3, 7, 8, 9, 10, 4, 5, 6, 11, 12, 13, 14] (by kernel_rfl) ?_; conv => whnf) | (refine (_root_.id : AW _ _ _ (.region 29 _ true) _ _ → _) ?_; refine AW.draw (id := 29) tab_ok mixed [0, 1, 5, 6, 7, 8, 2, 3, 4, 9, 10, 11] (by kernel_rfl) ?_; conv => whnf) | (refine (_root_.id : AW _ _ _ (.region 31 _ true) _ _ → _) ?_; refine AW.draw (id := 31) tab_ok mixed [0, 1, 5, 6, 7, 8, 2, 3, 4, 9, 10, 11] (by kernel_rfl) ?_; conv => whnf) | (refine (_root_.id : AW _ _ _ (.region 33 _ true) _ _ → _) ?_; refine AW.draw (id := 33) tab_ok mixed [0, 1, 2, 3, 7, 8, 11, 12, 13, 14, 18, 19, 22, 23, 24, 25, 4, 5, 6, 9, 10, 15, 16, 17, 20, 21, 26, 27, 28] (by kernel_rfl) ?_; conv => whnf) | (refine (_root_.id : AW _ _ _ (.region 35 _ true) _ _ → _) ?_; refine AW.draw (id := 35) tab_ok mixed [0, 1, 2, 3, 6, 7, 4, 5, 8, 9, 10] (by kernel_rfl) ?_; conv => whnf) | ((first | refine AW.region tab_ok ?_ | refine AW.cond ?_ | refine AW.skip ?_ | refine AW.ret ?_ | refine AW.exit ?_); conv => whnf) | ((first | refine And.intro (@rfl Val _) ?_ | refine And.intro (by decide) ?_ | refine cs (fun _ => ?_) (fun _ => ?_)) <;> conv => whnf)
  all_goals first | exact ⟨rfl, rfl⟩ | (refine ⟨retS (ba_eq ?_), rfl⟩; simp [ba_app, bw_list, joinW_cons, joinW_app, joinW_one]; done)
set_option maxRecDepth 10000 in
set_option maxHeartbeats 2000000 in
theorem rwords_2 (name arg : ByteArray) (num : Int) (tk : Int) (tks : List Ty) (uk : Int) (uks : List Ty) (label place : Int)  (ht : tmright (Tm.node 2 name arg num tk tks uk uks label place []) = true)  : RWordsC 49 (Tm.node 2 name arg num tk tks uk uks label place []) := by
  intro hb
  have hW : tmW (Tm.node 2 name arg num tk tks uk uks label place []) = [bw [116, 114, 117, 101]] := rfl
  rw [hW] at hb ⊢
  clear hW
  simp only [wsum_app, wsum_cons, wsum_nil, bw_size, List.length_cons, List.length_nil] at hb
  refine ACall.body tab_ok (ρ := 0) (N := 232) Tryd.func49 rfl rfl rfl rfl rfl ?_
  repeat' first | ((refine And.intro (by simp only [ByteArray.size_append, bw_size, bwl, List.length_cons, List.length_nil]; omega : (_ : Nat) ≤ 9223372036854775807) ?_; conv => whnf)) | ((refine And.intro (⟨by decide, by first | decide | (simp [Tm.rows]; done) | (simp [Tm.rows]; decide)⟩ : _ ∧ _) ?_; conv => whnf)) | ((intro row hrow; obtain rfl := Option.some.inj hrow; conv => whnf)) | refine AW.seq ?_ | refine AW.block ?_ | (refine (_root_.id : AW _ _ _ (.region 13 _ true) _ _ → _) ?_; refine AW.draw (id := 13) tab_ok mixed [0, 1, 2, 3, 4, 5, 9, 10, 11, 12, 6, 7, 8, 13, 14, 15] (by kernel_rfl) ?_; conv => whnf) | (refine (_root_.id : AW _ _ _ (.region 15 _ true) _ _ → _) ?_; refine AW.draw (id := 15) tab_ok mixed [0, 1, 2, 3, 4, 5, 6, 7, 8, 9, 13, 14, 18, 19, 20, 21, 10, 11, 12, 15, 16, 17, 22, 23, 24] (by kernel_rfl) ?_; conv => whnf) | (refine (_root_.id : AW _ _ _ (.region 17 _ true) _ _ → _) ?_; refine AW.draw (id := 17) tab_ok mixed [0, 1, 2, 3, 6, 7, 8, 9, 4, 5, 10, 11, 12, 13] (by kernel_rfl) ?_; conv => whnf) | (refine (_root_.id : AW _ _ _ (.region 19 _ true) _ _ → _) ?_; refine AW.draw (id := 19) tab_ok mixed [0, 1, 2, 3, 4, 5, 9, 10, 11, 12, 16, 17, 18, 19, 6, 7, 8, 13, 14, 15, 20, 21, 22] (by kernel_rfl) ?_; conv => whnf) | (refine (_root_.id : AW _ _ _ (.region 21 _ true) _ _ → _) ?_; refine AW.draw (id := 21) tab_ok mixed [0, 1, 2, 3, 7, 8, 9, 10, 14, 15, 16, 17, 4, 5, 6, 11, 12, 13, 18, 19, 20] (by kernel_rfl) ?_; conv => whnf) | (refine (_root_.id : AW _ _ _ (.region 23 _ true) _ _ → _) ?_; refine AW.draw (id := 23) tab_ok mixed [0, 1, 2, 3, 7, 8, 9, 10, 4, 5, 6, 11, 12, 13, 14] (by kernel_rfl) ?_; conv => whnf) | (refine (_root_.id : AW _ _ _ (.region 29 _ true) _ _ → _) ?_; refine AW.draw (id := 29) tab_ok mixed [0, 1, 5, 6, 7, 8, 2, 3, 4, 9, 10, 11] (by kernel_rfl) ?_; conv => whnf) | (refine (_root_.id : AW _ _ _ (.region 31 _ true) _ _ → _) ?_; refine AW.draw (id := 31) tab_ok mixed [0, 1, 5, 6, 7, 8, 2, 3, 4, 9, 10, 11] (by kernel_rfl) ?_; conv => whnf) | (refine (_root_.id : AW _ _ _ (.region 33 _ true) _ _ → _) ?_; refine AW.draw (id := 33) tab_ok mixed [0, 1, 2, 3, 7, 8, 11, 12, 13, 14, 18, 19, 22, 23, 24, 25, 4, 5, 6, 9, 10, 15, 16, 17, 20, 21, 26, 27, 28] (by kernel_rfl) ?_; conv => whnf) | (refine (_root_.id : AW _ _ _ (.region 35 _ true) _ _ → _) ?_; refine AW.draw (id := 35) tab_ok mixed [0, 1, 2, 3, 6, 7, 4, 5, 8, 9, 10] (by kernel_rfl) ?_; conv => whnf) | ((first | refine AW.region tab_ok ?_ | refine AW.cond ?_ | refine AW.skip ?_ | refine AW.ret ?_ | refine AW.exit ?_); conv => whnf) | ((first | refine And.intro (@rfl Val _) ?_ | refine And.intro (by decide) ?_ | refine cs (fun _ => ?_) (fun _ => ?_)) <;> conv => whnf)
  all_goals first | exact ⟨rfl, rfl⟩ | (refine ⟨retS (ba_eq ?_), rfl⟩; simp [ba_app, bw_list, joinW_cons, joinW_app, joinW_one]; done)
set_option maxRecDepth 10000 in
set_option maxHeartbeats 2000000 in
theorem rwords_3 (name arg : ByteArray) (num : Int) (tk : Int) (tks : List Ty) (uk : Int) (uks : List Ty) (label place : Int)  (ht : tmright (Tm.node 3 name arg num tk tks uk uks label place []) = true)  : RWordsC 49 (Tm.node 3 name arg num tk tks uk uks label place []) := by
  intro hb
  have hW : tmW (Tm.node 3 name arg num tk tks uk uks label place []) = [bw [102, 97, 108, 115, 101]] := rfl
  rw [hW] at hb ⊢
  clear hW
  simp only [wsum_app, wsum_cons, wsum_nil, bw_size, List.length_cons, List.length_nil] at hb
  refine ACall.body tab_ok (ρ := 0) (N := 232) Tryd.func49 rfl rfl rfl rfl rfl ?_
  repeat' first | ((refine And.intro (by simp only [ByteArray.size_append, bw_size, bwl, List.length_cons, List.length_nil]; omega : (_ : Nat) ≤ 9223372036854775807) ?_; conv => whnf)) | ((refine And.intro (⟨by decide, by first | decide | (simp [Tm.rows]; done) | (simp [Tm.rows]; decide)⟩ : _ ∧ _) ?_; conv => whnf)) | ((intro row hrow; obtain rfl := Option.some.inj hrow; conv => whnf)) | refine AW.seq ?_ | refine AW.block ?_ | (refine (_root_.id : AW _ _ _ (.region 13 _ true) _ _ → _) ?_; refine AW.draw (id := 13) tab_ok mixed [0, 1, 2, 3, 4, 5, 9, 10, 11, 12, 6, 7, 8, 13, 14, 15] (by kernel_rfl) ?_; conv => whnf) | (refine (_root_.id : AW _ _ _ (.region 15 _ true) _ _ → _) ?_; refine AW.draw (id := 15) tab_ok mixed [0, 1, 2, 3, 4, 5, 6, 7, 8, 9, 13, 14, 18, 19, 20, 21, 10, 11, 12, 15, 16, 17, 22, 23, 24] (by kernel_rfl) ?_; conv => whnf) | (refine (_root_.id : AW _ _ _ (.region 17 _ true) _ _ → _) ?_; refine AW.draw (id := 17) tab_ok mixed [0, 1, 2, 3, 6, 7, 8, 9, 4, 5, 10, 11, 12, 13] (by kernel_rfl) ?_; conv => whnf) | (refine (_root_.id : AW _ _ _ (.region 19 _ true) _ _ → _) ?_; refine AW.draw (id := 19) tab_ok mixed [0, 1, 2, 3, 4, 5, 9, 10, 11, 12, 16, 17, 18, 19, 6, 7, 8, 13, 14, 15, 20, 21, 22] (by kernel_rfl) ?_; conv => whnf) | (refine (_root_.id : AW _ _ _ (.region 21 _ true) _ _ → _) ?_; refine AW.draw (id := 21) tab_ok mixed [0, 1, 2, 3, 7, 8, 9, 10, 14, 15, 16, 17, 4, 5, 6, 11, 12, 13, 18, 19, 20] (by kernel_rfl) ?_; conv => whnf) | (refine (_root_.id : AW _ _ _ (.region 23 _ true) _ _ → _) ?_; refine AW.draw (id := 23) tab_ok mixed [0, 1, 2, 3, 7, 8, 9, 10, 4, 5, 6, 11, 12, 13, 14] (by kernel_rfl) ?_; conv => whnf) | (refine (_root_.id : AW _ _ _ (.region 29 _ true) _ _ → _) ?_; refine AW.draw (id := 29) tab_ok mixed [0, 1, 5, 6, 7, 8, 2, 3, 4, 9, 10, 11] (by kernel_rfl) ?_; conv => whnf) | (refine (_root_.id : AW _ _ _ (.region 31 _ true) _ _ → _) ?_; refine AW.draw (id := 31) tab_ok mixed [0, 1, 5, 6, 7, 8, 2, 3, 4, 9, 10, 11] (by kernel_rfl) ?_; conv => whnf) | (refine (_root_.id : AW _ _ _ (.region 33 _ true) _ _ → _) ?_; refine AW.draw (id := 33) tab_ok mixed [0, 1, 2, 3, 7, 8, 11, 12, 13, 14, 18, 19, 22, 23, 24, 25, 4, 5, 6, 9, 10, 15, 16, 17, 20, 21, 26, 27, 28] (by kernel_rfl) ?_; conv => whnf) | (refine (_root_.id : AW _ _ _ (.region 35 _ true) _ _ → _) ?_; refine AW.draw (id := 35) tab_ok mixed [0, 1, 2, 3, 6, 7, 4, 5, 8, 9, 10] (by kernel_rfl) ?_; conv => whnf) | ((first | refine AW.region tab_ok ?_ | refine AW.cond ?_ | refine AW.skip ?_ | refine AW.ret ?_ | refine AW.exit ?_); conv => whnf) | ((first | refine And.intro (@rfl Val _) ?_ | refine And.intro (by decide) ?_ | refine cs (fun _ => ?_) (fun _ => ?_)) <;> conv => whnf)
  all_goals first | exact ⟨rfl, rfl⟩ | (refine ⟨retS (ba_eq ?_), rfl⟩; simp [ba_app, bw_list, joinW_cons, joinW_app, joinW_one]; done)
set_option maxRecDepth 10000 in
set_option maxHeartbeats 2000000 in
theorem rwords_6 (name arg : ByteArray) (num : Int) (tk : Int) (tks : List Ty) (uk : Int) (uks : List Ty) (label place : Int) (x y : Tm) (ht : tmright (Tm.node 6 name arg num tk tks uk uks label place [x, y]) = true) (cx : RAtC x) (cy : RAtC y) : RWordsC 49 (Tm.node 6 name arg num tk tks uk uks label place [x, y]) := by
  intro hb
  have hW : tmW (Tm.node 6 name arg num tk tks uk uks label place [x, y]) = tmA 5 x ++ [bw [40]] ++ tmA (-1) y ++ [bw [41]] := rfl
  rw [hW] at hb ⊢
  clear hW
  simp only [wsum_app, wsum_cons, wsum_nil, bw_size, List.length_cons, List.length_nil] at hb
  have dx := cx.2 5 (by omega)
  have hx := cx.1 5
  have ex := joinW_le (tmA 5 x)
  generalize tmA 5 x = sx at hb dx hx ex ⊢
  clear cx
  have dy := cy.2 (-1) (by omega)
  have hy := cy.1 (-1)
  have ey := joinW_le (tmA (-1) y)
  generalize tmA (-1) y = sy at hb dy hy ey ⊢
  clear cy
  obtain ⟨x0, x1, x2, x3, x4, x5, x6, x7, x8, x9, x10⟩ := x
  obtain ⟨y0, y1, y2, y3, y4, y5, y6, y7, y8, y9, y10⟩ := y
  refine ACall.body tab_ok (ρ := 0) (N := 232) Tryd.func49 rfl rfl rfl rfl rfl ?_
  repeat' first | ((refine And.intro (by simp only [ByteArray.size_append, bw_size, bwl, List.length_cons, List.length_nil]; omega : (_ : Nat) ≤ 9223372036854775807) ?_; conv => whnf)) | ((refine And.intro (⟨by decide, by first | decide | (simp [Tm.rows]; done) | (simp [Tm.rows]; decide)⟩ : _ ∧ _) ?_; conv => whnf)) | ((intro row hrow; obtain rfl := Option.some.inj hrow; conv => whnf)) | refine AW.seq ?_ | refine AW.block ?_ | (refine (_root_.id : AW _ _ _ (.region 13 _ true) _ _ → _) ?_; refine AW.draw (id := 13) tab_ok mixed [0, 1, 2, 3, 4, 5, 9, 10, 11, 12, 6, 7, 8, 13, 14, 15] (by kernel_rfl) ?_; conv => whnf) | (refine (_root_.id : AW _ _ _ (.region 15 _ true) _ _ → _) ?_; refine AW.draw (id := 15) tab_ok mixed [0, 1, 2, 3, 4, 5, 6, 7, 8, 9, 13, 14, 18, 19, 20, 21, 10, 11, 12, 15, 16, 17, 22, 23, 24] (by kernel_rfl) ?_; conv => whnf) | (refine (_root_.id : AW _ _ _ (.region 17 _ true) _ _ → _) ?_; refine AW.draw (id := 17) tab_ok mixed [0, 1, 2, 3, 6, 7, 8, 9, 4, 5, 10, 11, 12, 13] (by kernel_rfl) ?_; conv => whnf) | (refine (_root_.id : AW _ _ _ (.region 19 _ true) _ _ → _) ?_; refine AW.draw (id := 19) tab_ok mixed [0, 1, 2, 3, 4, 5, 9, 10, 11, 12, 16, 17, 18, 19, 6, 7, 8, 13, 14, 15, 20, 21, 22] (by kernel_rfl) ?_; conv => whnf) | (refine (_root_.id : AW _ _ _ (.region 21 _ true) _ _ → _) ?_; refine AW.draw (id := 21) tab_ok mixed [0, 1, 2, 3, 7, 8, 9, 10, 14, 15, 16, 17, 4, 5, 6, 11, 12, 13, 18, 19, 20] (by kernel_rfl) ?_; conv => whnf) | (refine (_root_.id : AW _ _ _ (.region 23 _ true) _ _ → _) ?_; refine AW.draw (id := 23) tab_ok mixed [0, 1, 2, 3, 7, 8, 9, 10, 4, 5, 6, 11, 12, 13, 14] (by kernel_rfl) ?_; conv => whnf) | (refine (_root_.id : AW _ _ _ (.region 29 _ true) _ _ → _) ?_; refine AW.draw (id := 29) tab_ok mixed [0, 1, 5, 6, 7, 8, 2, 3, 4, 9, 10, 11] (by kernel_rfl) ?_; conv => whnf) | (refine (_root_.id : AW _ _ _ (.region 31 _ true) _ _ → _) ?_; refine AW.draw (id := 31) tab_ok mixed [0, 1, 5, 6, 7, 8, 2, 3, 4, 9, 10, 11] (by kernel_rfl) ?_; conv => whnf) | (refine (_root_.id : AW _ _ _ (.region 33 _ true) _ _ → _) ?_; refine AW.draw (id := 33) tab_ok mixed [0, 1, 2, 3, 7, 8, 11, 12, 13, 14, 18, 19, 22, 23, 24, 25, 4, 5, 6, 9, 10, 15, 16, 17, 20, 21, 26, 27, 28] (by kernel_rfl) ?_; conv => whnf) | (refine (_root_.id : AW _ _ _ (.region 35 _ true) _ _ → _) ?_; refine AW.draw (id := 35) tab_ok mixed [0, 1, 2, 3, 6, 7, 4, 5, 8, 9, 10] (by kernel_rfl) ?_; conv => whnf) | ((first | refine AW.region tab_ok ?_ | refine AW.cond ?_ | refine AW.skip ?_ | refine AW.ret ?_ | refine AW.exit ?_); conv => whnf) | ((first | refine (dx).mono ?_ | refine (dy).mono ?_); rintro _ _ ⟨rfl, rfl⟩; conv => whnf) | ((first | refine And.intro (@rfl Val _) ?_ | refine And.intro (by decide) ?_ | refine cs (fun _ => ?_) (fun _ => ?_)) <;> conv => whnf)
  all_goals first | exact ⟨rfl, rfl⟩ | (refine ⟨retS (ba_eq ?_), rfl⟩; simp [ba_app, bw_list, joinW_cons, joinW_app, joinW_one, hx, hy]; done)
set_option maxRecDepth 10000 in
set_option maxHeartbeats 2000000 in
theorem rwords_9 (name arg : ByteArray) (num : Int) (tk : Int) (tks : List Ty) (uk : Int) (uks : List Ty) (label place : Int) (x y : Tm) (ht : tmright (Tm.node 9 name arg num tk tks uk uks label place [x, y]) = true) (cx : RAtC x) (cy : RAtC y) : RWordsC 49 (Tm.node 9 name arg num tk tks uk uks label place [x, y]) := by
  intro hb
  have hW : tmW (Tm.node 9 name arg num tk tks uk uks label place [x, y]) = [bw [91]] ++ tmA (-1) x ++ [bw [44]] ++ tmA (-1) y ++ [bw [93]] := rfl
  rw [hW] at hb ⊢
  clear hW
  simp only [wsum_app, wsum_cons, wsum_nil, bw_size, List.length_cons, List.length_nil] at hb
  have dx := cx.2 (-1) (by omega)
  have hx := cx.1 (-1)
  have ex := joinW_le (tmA (-1) x)
  generalize tmA (-1) x = sx at hb dx hx ex ⊢
  clear cx
  have dy := cy.2 (-1) (by omega)
  have hy := cy.1 (-1)
  have ey := joinW_le (tmA (-1) y)
  generalize tmA (-1) y = sy at hb dy hy ey ⊢
  clear cy
  obtain ⟨x0, x1, x2, x3, x4, x5, x6, x7, x8, x9, x10⟩ := x
  obtain ⟨y0, y1, y2, y3, y4, y5, y6, y7, y8, y9, y10⟩ := y
  refine ACall.body tab_ok (ρ := 0) (N := 232) Tryd.func49 rfl rfl rfl rfl rfl ?_
  repeat' first | ((refine And.intro (by simp only [ByteArray.size_append, bw_size, bwl, List.length_cons, List.length_nil]; omega : (_ : Nat) ≤ 9223372036854775807) ?_; conv => whnf)) | ((refine And.intro (⟨by decide, by first | decide | (simp [Tm.rows]; done) | (simp [Tm.rows]; decide)⟩ : _ ∧ _) ?_; conv => whnf)) | ((intro row hrow; obtain rfl := Option.some.inj hrow; conv => whnf)) | refine AW.seq ?_ | refine AW.block ?_ | (refine (_root_.id : AW _ _ _ (.region 13 _ true) _ _ → _) ?_; refine AW.draw (id := 13) tab_ok mixed [0, 1, 2, 3, 4, 5, 9, 10, 11, 12, 6, 7, 8, 13, 14, 15] (by kernel_rfl) ?_; conv => whnf) | (refine (_root_.id : AW _ _ _ (.region 15 _ true) _ _ → _) ?_; refine AW.draw (id := 15) tab_ok mixed [0, 1, 2, 3, 4, 5, 6, 7, 8, 9, 13, 14, 18, 19, 20, 21, 10, 11, 12, 15, 16, 17, 22, 23, 24] (by kernel_rfl) ?_; conv => whnf) | (refine (_root_.id : AW _ _ _ (.region 17 _ true) _ _ → _) ?_; refine AW.draw (id := 17) tab_ok mixed [0, 1, 2, 3, 6, 7, 8, 9, 4, 5, 10, 11, 12, 13] (by kernel_rfl) ?_; conv => whnf) | (refine (_root_.id : AW _ _ _ (.region 19 _ true) _ _ → _) ?_; refine AW.draw (id := 19) tab_ok mixed [0, 1, 2, 3, 4, 5, 9, 10, 11, 12, 16, 17, 18, 19, 6, 7, 8, 13, 14, 15, 20, 21, 22] (by kernel_rfl) ?_; conv => whnf) | (refine (_root_.id : AW _ _ _ (.region 21 _ true) _ _ → _) ?_; refine AW.draw (id := 21) tab_ok mixed [0, 1, 2, 3, 7, 8, 9, 10, 14, 15, 16, 17, 4, 5, 6, 11, 12, 13, 18, 19, 20] (by kernel_rfl) ?_; conv => whnf) | (refine (_root_.id : AW _ _ _ (.region 23 _ true) _ _ → _) ?_; refine AW.draw (id := 23) tab_ok mixed [0, 1, 2, 3, 7, 8, 9, 10, 4, 5, 6, 11, 12, 13, 14] (by kernel_rfl) ?_; conv => whnf) | (refine (_root_.id : AW _ _ _ (.region 29 _ true) _ _ → _) ?_; refine AW.draw (id := 29) tab_ok mixed [0, 1, 5, 6, 7, 8, 2, 3, 4, 9, 10, 11] (by kernel_rfl) ?_; conv => whnf) | (refine (_root_.id : AW _ _ _ (.region 31 _ true) _ _ → _) ?_; refine AW.draw (id := 31) tab_ok mixed [0, 1, 5, 6, 7, 8, 2, 3, 4, 9, 10, 11] (by kernel_rfl) ?_; conv => whnf) | (refine (_root_.id : AW _ _ _ (.region 33 _ true) _ _ → _) ?_; refine AW.draw (id := 33) tab_ok mixed [0, 1, 2, 3, 7, 8, 11, 12, 13, 14, 18, 19, 22, 23, 24, 25, 4, 5, 6, 9, 10, 15, 16, 17, 20, 21, 26, 27, 28] (by kernel_rfl) ?_; conv => whnf) | (refine (_root_.id : AW _ _ _ (.region 35 _ true) _ _ → _) ?_; refine AW.draw (id := 35) tab_ok mixed [0, 1, 2, 3, 6, 7, 4, 5, 8, 9, 10] (by kernel_rfl) ?_; conv => whnf) | ((first | refine AW.region tab_ok ?_ | refine AW.cond ?_ | refine AW.skip ?_ | refine AW.ret ?_ | refine AW.exit ?_); conv => whnf) | ((first | refine (dx).mono ?_ | refine (dy).mono ?_); rintro _ _ ⟨rfl, rfl⟩; conv => whnf) | ((first | refine And.intro (@rfl Val _) ?_ | refine And.intro (by decide) ?_ | refine cs (fun _ => ?_) (fun _ => ?_)) <;> conv => whnf)
  all_goals first | exact ⟨rfl, rfl⟩ | (refine ⟨retS (ba_eq ?_), rfl⟩; simp [ba_app, bw_list, joinW_cons, joinW_app, joinW_one, hx, hy]; done)
set_option maxRecDepth 10000 in
set_option maxHeartbeats 2000000 in
theorem rwords_16 (name arg : ByteArray) (num : Int) (tk : Int) (tks : List Ty) (uk : Int) (uks : List Ty) (label place : Int) (x : Tm) (ht : tmright (Tm.node 16 name arg num tk tks uk uks label place [x]) = true) (cx : RAtC x) : RWordsC 49 (Tm.node 16 name arg num tk tks uk uks label place [x]) := by
  intro hb
  have hW : tmW (Tm.node 16 name arg num tk tks uk uks label place [x]) = tmA 0 x ++ [bw [58]] ++ [bw (tyO (.node tk tks))] := rfl
  rw [hW] at hb ⊢
  clear hW
  simp only [wsum_app, wsum_cons, wsum_nil, bw_size, List.length_cons, List.length_nil] at hb
  have dx := cx.2 0 (by omega)
  have hx := cx.1 0
  have ex := joinW_le (tmA 0 x)
  generalize tmA 0 x = sx at hb dx hx ex ⊢
  clear cx
  have dtk := rkind05_call (.node tk tks) ((tmright_own ht).1 rfl)
  have etk := bw_size (tyO (.node tk tks))
  generalize bw (tyO (.node tk tks)) = stk at hb dtk etk ⊢
  obtain ⟨x0, x1, x2, x3, x4, x5, x6, x7, x8, x9, x10⟩ := x
  refine ACall.body tab_ok (ρ := 0) (N := 232) Tryd.func49 rfl rfl rfl rfl rfl ?_
  repeat' first | ((refine And.intro (by simp only [ByteArray.size_append, bw_size, bwl, List.length_cons, List.length_nil]; omega : (_ : Nat) ≤ 9223372036854775807) ?_; conv => whnf)) | ((refine And.intro (⟨by decide, by first | decide | (simp [Tm.rows]; done) | (simp [Tm.rows]; decide)⟩ : _ ∧ _) ?_; conv => whnf)) | ((intro row hrow; obtain rfl := Option.some.inj hrow; conv => whnf)) | refine AW.seq ?_ | refine AW.block ?_ | (refine (_root_.id : AW _ _ _ (.region 13 _ true) _ _ → _) ?_; refine AW.draw (id := 13) tab_ok mixed [0, 1, 2, 3, 4, 5, 9, 10, 11, 12, 6, 7, 8, 13, 14, 15] (by kernel_rfl) ?_; conv => whnf) | (refine (_root_.id : AW _ _ _ (.region 15 _ true) _ _ → _) ?_; refine AW.draw (id := 15) tab_ok mixed [0, 1, 2, 3, 4, 5, 6, 7, 8, 9, 13, 14, 18, 19, 20, 21, 10, 11, 12, 15, 16, 17, 22, 23, 24] (by kernel_rfl) ?_; conv => whnf) | (refine (_root_.id : AW _ _ _ (.region 17 _ true) _ _ → _) ?_; refine AW.draw (id := 17) tab_ok mixed [0, 1, 2, 3, 6, 7, 8, 9, 4, 5, 10, 11, 12, 13] (by kernel_rfl) ?_; conv => whnf) | (refine (_root_.id : AW _ _ _ (.region 19 _ true) _ _ → _) ?_; refine AW.draw (id := 19) tab_ok mixed [0, 1, 2, 3, 4, 5, 9, 10, 11, 12, 16, 17, 18, 19, 6, 7, 8, 13, 14, 15, 20, 21, 22] (by kernel_rfl) ?_; conv => whnf) | (refine (_root_.id : AW _ _ _ (.region 21 _ true) _ _ → _) ?_; refine AW.draw (id := 21) tab_ok mixed [0, 1, 2, 3, 7, 8, 9, 10, 14, 15, 16, 17, 4, 5, 6, 11, 12, 13, 18, 19, 20] (by kernel_rfl) ?_; conv => whnf) | (refine (_root_.id : AW _ _ _ (.region 23 _ true) _ _ → _) ?_; refine AW.draw (id := 23) tab_ok mixed [0, 1, 2, 3, 7, 8, 9, 10, 4, 5, 6, 11, 12, 13, 14] (by kernel_rfl) ?_; conv => whnf) | (refine (_root_.id : AW _ _ _ (.region 29 _ true) _ _ → _) ?_; refine AW.draw (id := 29) tab_ok mixed [0, 1, 5, 6, 7, 8, 2, 3, 4, 9, 10, 11] (by kernel_rfl) ?_; conv => whnf) | (refine (_root_.id : AW _ _ _ (.region 31 _ true) _ _ → _) ?_; refine AW.draw (id := 31) tab_ok mixed [0, 1, 5, 6, 7, 8, 2, 3, 4, 9, 10, 11] (by kernel_rfl) ?_; conv => whnf) | (refine (_root_.id : AW _ _ _ (.region 33 _ true) _ _ → _) ?_; refine AW.draw (id := 33) tab_ok mixed [0, 1, 2, 3, 7, 8, 11, 12, 13, 14, 18, 19, 22, 23, 24, 25, 4, 5, 6, 9, 10, 15, 16, 17, 20, 21, 26, 27, 28] (by kernel_rfl) ?_; conv => whnf) | (refine (_root_.id : AW _ _ _ (.region 35 _ true) _ _ → _) ?_; refine AW.draw (id := 35) tab_ok mixed [0, 1, 2, 3, 6, 7, 4, 5, 8, 9, 10] (by kernel_rfl) ?_; conv => whnf) | ((first | refine AW.region tab_ok ?_ | refine AW.cond ?_ | refine AW.skip ?_ | refine AW.ret ?_ | refine AW.exit ?_); conv => whnf) | ((first | refine (dx).mono ?_ | refine (dtk).mono ?_); rintro _ _ ⟨rfl, rfl⟩; conv => whnf) | ((first | refine And.intro (@rfl Val _) ?_ | refine And.intro (by decide) ?_ | refine cs (fun _ => ?_) (fun _ => ?_)) <;> conv => whnf)
  all_goals first | exact ⟨rfl, rfl⟩ | (refine ⟨retS (ba_eq ?_), rfl⟩; simp [ba_app, bw_list, joinW_cons, joinW_app, joinW_one, hx]; done)
end Go.Proofs.YthmbncehoblgpaaDoor.E
