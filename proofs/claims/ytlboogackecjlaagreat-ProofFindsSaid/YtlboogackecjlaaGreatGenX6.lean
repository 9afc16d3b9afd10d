/- Texts, merged: Ty8, Ty9, Tm12, Tm13, Tm14. No conditions. -/
import Derived.Test.YtlboogackecjlaaGreatGenX5
import Derived.Test.YtlboogackecjlaaGreatEngX3
/- Walks: meet of both. No conditions. -/
set_option linter.unusedVariables false
set_option linter.unusedSimpArgs false
namespace Go.Proofs.YtlboogackecjlaaGreat.E
open Go

mutual
def meetF : Ty → Ty → Ty
  | .node k ks, .node k' ks' => if k = 0 then .node k' ks' else if k' = 0 then .node k ks else .node k (meetL ks ks')
def meetL : List Ty → List Ty → List Ty
  | [], _ => []
  | x :: xs, y :: ys => meetF x y :: meetL xs ys
  | _ :: _, [] => []
end
theorem meetL_self : ∀ (ks : List Ty), (∀ t ∈ ks, meetF t t = t) → meetL ks ks = ks
  | [], _ => rfl
  | t :: l, h => by
    simp only [meetL]
    rw [h t (by simp), meetL_self l (fun x hx => h x (by simp [hx]))]
theorem meet_self (a : Ty) : meetF a a = a := by
  induction a using Ty.ind with
  | _ k ks ih =>
  simp only [meetF]
  rw [meetL_self ks ih]
  split
  · rfl
  · rfl
theorem meetL_len : ∀ (ks ks' : List Ty), ks.length = ks'.length → (meetL ks ks').length = ks.length
  | [], _, _ => rfl
  | x :: xs, y :: ys, h => by simp only [meetL, List.length_cons]; rw [meetL_len xs ys (by simpa using h)]
theorem meetL_take : ∀ (ks ks' : List Ty) (i : Nat) x y, ks[i]? = some x → ks'[i]? = some y → (meetL ks ks').take (i + 1) = (meetL ks ks').take i ++ [meetF x y]
  | a :: l, b :: l', 0, x, y, h, h' => by simp at h h'; subst h; subst h'; simp [meetL]
  | a :: l, b :: l', i + 1, x, y, h, h' => by
    simp only [List.getElem?_cons_succ] at h h'
    have := meetL_take l l' i x y h h'
    simp only [meetL, List.take_succ_cons, this, List.cons_append]
  | [], _, _, _, _, h, _ => by simp at h
  | _ :: _, [], _, _, _, _, h' => by simp at h'
theorem rows_map8 : ∀ ks : List Ty, Ty.rows ks = ks.map Ty.cells
  | [] => rfl
  | t :: l => by simp [Ty.rows, rows_map8 l]
theorem agreeK {k k' : Int} {ks ks' : List Ty} (h : agreeF (.node k ks) (.node k' ks') = true) (h1 : k ≠ 0) (h2 : k' ≠ 0) : k = k' ∧ agreeL ks ks' = true := by
  simpa [agreeF, h1, h2] using h

set_option maxRecDepth 10000 in
theorem rmeet_call (a : Ty) : ∀ b, tright a = true → tright b = true → agreeF a b = true → ACall Tryz.prog 123 [a.val, b.val] [] (fun o σ => o = .ret (meetF a b).val ∧ σ = []) := by
  induction a using Ty.ind with
  | _ k ks ih =>
  rintro ⟨k', ks'⟩ ha hb hg
  refine ACall.body tab_ok (ρ := 0) (N := 41) Tryz.func123 rfl rfl rfl rfl rfl ?_
  repeat' first | refine AW.seq ?_ | refine AW.block ?_ | (refine (id : AW _ _ _ (.region 5 _ true) _ _ → _) ?_; refine AW.draw (id := 5) tab_ok mixed [0, 1, 2, 3, 4, 5, 6, 7, 8, 9, 11, 12, 13, 14, 15, 16, 17, 18, 10, 19, 20, 21, 22] (by kernel_rfl) ?_; conv => whnf) | ((first | refine AW.region tab_ok ?_ | refine AW.cond ?_ | refine AW.skip ?_ | refine AW.ret ?_ | refine AW.exit ?_); conv => whnf) | ((first | refine And.intro (@rfl Val _) ?_ | refine And.intro (by decide) ?_ | refine cs (fun _ => ?_) (fun _ => ?_)) <;> conv => whnf)
  · rename_i h
    refine ⟨?_, rfl⟩
    simp at h
    simp only [oneOf, meetF]
    rw [if_pos h]
    rfl
  · rename_i h0 h
    refine ⟨?_, rfl⟩
    simp at h h0
    simp only [oneOf, meetF]
    rw [if_neg h0, if_pos h]
    rfl
  · rename_i h0 h1 h
    refine ⟨?_, rfl⟩
    simp [rows_length] at h h0 h1
    subst h
    obtain ⟨rfl, _⟩ := agreeK hg h0 h1
    simp only [oneOf, meetF, meetL]
    rw [if_neg h0, if_neg h1]
    rfl
  · rename_i h0 h1 h
    simp [rows_length] at h h0 h1
    obtain ⟨rfl, hl⟩ := agreeK hg h0 h1
    have e := right_eq_len ha hb
    have hall := (agreeL_all ks ks' e).1 hl
    have hp := tright_len ha
    have h2 : ks.length = 2 := by
      have hle := parts_le k
      have : ks.length ≠ 0 := fun hh => h (List.eq_nil_of_length_eq_zero hh)
      unfold parts at hp
      split at hp
      · omega
      · split at hp <;> omega
    obtain ⟨x0, x1, rfl⟩ : ∃ x0 x1, ks = [x0, x1] := by
      match ks, h2 with
      | [x0, x1], _ => exact ⟨x0, x1, rfl⟩
    obtain ⟨y0, y1, rfl⟩ : ∃ x0 x1, ks' = [x0, x1] := by
      match ks', e with
      | [x0, x1], _ => exact ⟨x0, x1, rfl⟩
    have c0 := ih x0 (by simp) y0 (tright_kid ha (by simp)) (tright_kid hb (by simp)) (hall 0 x0 y0 rfl rfl)
    have c1 := ih x1 (by simp) y1 (tright_kid ha (by simp)) (tright_kid hb (by simp)) (hall 1 x1 y1 rfl rfl)
    have em : meetF (.node k [x0, x1]) (.node k [y0, y1]) = .node k [meetF x0 y0, meetF x1 y1] := by
      simp only [meetF, meetL]
      rw [if_neg h0, if_neg h0]
    rw [em]
    generalize meetF x0 y0 = m0 at c0
    generalize meetF x1 y1 = m1 at c1
    obtain ⟨kx0, kxs0⟩ := x0
    obtain ⟨kx1, kxs1⟩ := x1
    obtain ⟨ky0, kys0⟩ := y0
    obtain ⟨ky1, kys1⟩ := y1
    obtain ⟨km0, kms0⟩ := m0
    obtain ⟨km1, kms1⟩ := m1
    refine ⟨by simp [Ty.rows], fun row hrow => ?_⟩
    obtain rfl : row = Ty.cells (.node kx0 kxs0) := by simpa [Ty.rows] using hrow.symm
    conv => whnf
    repeat' first | refine AW.seq ?_ | refine AW.block ?_ | (refine (id : AW _ _ _ (.region 5 _ true) _ _ → _) ?_; refine AW.draw (id := 5) tab_ok mixed [0, 1, 2, 3, 4, 5, 6, 7, 8, 9, 11, 12, 13, 14, 15, 16, 17, 18, 10, 19, 20, 21, 22] (by kernel_rfl) ?_; conv => whnf) | ((first | refine AW.region tab_ok ?_ | refine AW.cond ?_ | refine AW.skip ?_ | refine AW.ret ?_ | refine AW.exit ?_); conv => whnf) | ((first | refine And.intro (@rfl Val _) ?_ | refine And.intro (by decide) ?_ | refine cs (fun _ => ?_) (fun _ => ?_)) <;> conv => whnf)
    refine ⟨by simp [Ty.rows], fun row hrow => ?_⟩
    obtain rfl : row = Ty.cells (.node ky0 kys0) := by simpa [Ty.rows] using hrow.symm
    conv => whnf
    repeat' first | refine AW.seq ?_ | refine AW.block ?_ | (refine (id : AW _ _ _ (.region 5 _ true) _ _ → _) ?_; refine AW.draw (id := 5) tab_ok mixed [0, 1, 2, 3, 4, 5, 6, 7, 8, 9, 11, 12, 13, 14, 15, 16, 17, 18, 10, 19, 20, 21, 22] (by kernel_rfl) ?_; conv => whnf) | ((first | refine AW.region tab_ok ?_ | refine AW.cond ?_ | refine AW.skip ?_ | refine AW.ret ?_ | refine AW.exit ?_); conv => whnf) | ((first | refine And.intro (@rfl Val _) ?_ | refine And.intro (by decide) ?_ | refine cs (fun _ => ?_) (fun _ => ?_)) <;> conv => whnf)
    refine ⟨by simp [Ty.rows], fun row hrow => ?_⟩
    obtain rfl : row = Ty.cells (.node kx1 kxs1) := by simpa [Ty.rows] using hrow.symm
    conv => whnf
    repeat' first | refine AW.seq ?_ | refine AW.block ?_ | (refine (id : AW _ _ _ (.region 5 _ true) _ _ → _) ?_; refine AW.draw (id := 5) tab_ok mixed [0, 1, 2, 3, 4, 5, 6, 7, 8, 9, 11, 12, 13, 14, 15, 16, 17, 18, 10, 19, 20, 21, 22] (by kernel_rfl) ?_; conv => whnf) | ((first | refine AW.region tab_ok ?_ | refine AW.cond ?_ | refine AW.skip ?_ | refine AW.ret ?_ | refine AW.exit ?_); conv => whnf) | ((first | refine And.intro (@rfl Val _) ?_ | refine And.intro (by decide) ?_ | refine cs (fun _ => ?_) (fun _ => ?_)) <;> conv => whnf)
    refine ⟨by simp [Ty.rows], fun row hrow => ?_⟩
    obtain rfl : row = Ty.cells (.node ky1 kys1) := by simpa [Ty.rows] using hrow.symm
    conv => whnf
    repeat' first | refine AW.seq ?_ | refine AW.block ?_ | (refine (id : AW _ _ _ (.region 5 _ true) _ _ → _) ?_; refine AW.draw (id := 5) tab_ok mixed [0, 1, 2, 3, 4, 5, 6, 7, 8, 9, 11, 12, 13, 14, 15, 16, 17, 18, 10, 19, 20, 21, 22] (by kernel_rfl) ?_; conv => whnf) | ((first | refine AW.region tab_ok ?_ | refine AW.cond ?_ | refine AW.skip ?_ | refine AW.ret ?_ | refine AW.exit ?_); conv => whnf) | ((first | refine (c0).mono ?_ | refine (c1).mono ?_); rintro _ _ ⟨rfl, rfl⟩; conv => whnf) | ((first | refine And.intro (@rfl Val _) ?_ | refine And.intro (by decide) ?_ | refine cs (fun _ => ?_) (fun _ => ?_)) <;> conv => whnf)
    all_goals exact ⟨rfl, rfl⟩
theorem agree_val {a b : Ty} (h : agreeS a b = true) : tright a = true ∧ tright b = true ∧ agreeF a b = true := by
  simp [agreeS] at h
  exact ⟨tcheck_right h.1.1, tcheck_right h.1.2, h.2⟩
def MeetS (a b : Ty) : Ty := if agreeS a b = true then meetF a b else .node 0 []
set_option maxRecDepth 10000 in
theorem rMeet_call (a b : Ty) : ACall Tryz.prog 114 [a.val, b.val] [] (fun o σ => o = .ret (.tup [(MeetS a b).val, .c (.d (.bool (agreeS a b)))]) ∧ σ = []) := by
  obtain ⟨k, ks⟩ := a
  obtain ⟨k', ks'⟩ := b
  refine ACall.body tab_ok (ρ := 0) (N := 24) Tryz.func114 rfl rfl rfl rfl rfl ?_
  repeat' first | refine AW.seq ?_ | refine AW.block ?_ | ((first | refine AW.region tab_ok ?_ | refine AW.cond ?_ | refine AW.skip ?_ | refine AW.ret ?_ | refine AW.exit ?_); conv => whnf) | ((first | refine (rcheck_call (.node k ks)).mono ?_ | refine (rcheck_call (.node k' ks')).mono ?_ | refine (rAgree_call (.node k ks) (.node k' ks')).mono ?_); rintro _ _ ⟨rfl, rfl⟩; conv => whnf) | ((first | refine And.intro (@rfl Val _) ?_ | refine And.intro (by decide) ?_ | refine cs (fun _ => ?_) (fun _ => ?_)) <;> conv => whnf)
  · rename_i h
    have : agreeS (.node k ks) (.node k' ks') = false := by simp at h; simp [agreeS, h]
    refine ⟨?_, rfl⟩
    simp only [oneOf, MeetS, this]
    rfl
  · rename_i h0 h
    have : agreeS (.node k ks) (.node k' ks') = false := by simp at h; simp [agreeS, h]
    refine ⟨?_, rfl⟩
    simp only [oneOf, MeetS, this]
    rfl
  · rename_i h0 h1 h
    have : agreeS (.node k ks) (.node k' ks') = false := by simpa using h
    refine ⟨?_, rfl⟩
    simp only [oneOf, MeetS, this]
    rfl
  · rename_i h0 h1 h
    have hg : agreeS (.node k ks) (.node k' ks') = true := by simpa using h
    obtain ⟨q1, q2, q3⟩ := agree_val hg
    have em : MeetS (.node k ks) (.node k' ks') = meetF (.node k ks) (.node k' ks') := by simp [MeetS, hg]
    rw [em]
    have cc := rmeet_call (.node k ks) (.node k' ks') q1 q2 q3
    generalize meetF (.node k ks) (.node k' ks') = m at cc
    obtain ⟨km, kms⟩ := m
    refine cc.mono ?_
    rintro _ _ ⟨rfl, rfl⟩
    conv => whnf
    repeat' first | refine AW.seq ?_ | refine AW.block ?_ | ((first | refine AW.region tab_ok ?_ | refine AW.cond ?_ | refine AW.skip ?_ | refine AW.ret ?_ | refine AW.exit ?_); conv => whnf) | ((first | refine And.intro (@rfl Val _) ?_ | refine And.intro (by decide) ?_ | refine cs (fun _ => ?_) (fun _ => ?_)) <;> conv => whnf)
    refine ⟨?_, rfl⟩
    simp only [oneOf, hg]
    rfl

/-! ### order.meet -/
noncomputable def rest66 : Code := match Tryz.f78.body with
  | some (.seq _ (.seq _ (.seq _ c))) => c
  | _ => .skip
set_option maxRecDepth 10000 in
theorem meet_rest (k : Int) (ks ks' ms : List Ty) (hkk : ks.length = ks'.length) (hlen : ks.length ≤ 2) (hms : ms.length = ks.length)
    (hk : ∀ (i : Nat) x y, ks[i]? = some x → ks'[i]? = some y → ∃ m, ms[i]? = some m ∧ ACall Tryz.prog 78 [.c (.d (.rp 0 x.cells)), .c (.d (.rp 0 y.cells))] [] (fun o σ => o = .ret m.val ∧ σ = [])) :
    AW Tryz.prog tab 0 rest66 ⟨52, [(0, .c (.d (.rp 0 (Ty.node k ks).cells))), (1, .c (.d (.rp 0 (Ty.node k ks').cells))), (4, .c (.ptr 0 0))], [.var [.d (.int .i8 0), .d .nils]], []⟩
      (afin tab 0 78 [.cell 4 25] 0 (fun o σ => o = .ret (Ty.node k ms).val ∧ σ = [])) := by
  repeat' first | refine AW.seq ?_ | refine AW.block ?_ | (refine (id : AW _ _ _ (.region 9 _ true) _ _ → _) ?_; refine AW.draw (id := 9) tab_ok mixed [0, 1, 2, 3, 4, 5, 6, 7, 8, 9, 10, 11, 12, 13, 14, 15, 16, 17, 18] (by kernel_rfl) ?_; conv => whnf) | ((first | refine AW.region tab_ok ?_ | refine AW.cond ?_ | refine AW.skip ?_ | refine AW.ret ?_ | refine AW.exit ?_); conv => whnf) | ((first | refine And.intro (@rfl Val _) ?_ | refine And.intro (by decide) ?_ | refine cs (fun _ => ?_) (fun _ => ?_)) <;> conv => whnf)
  refine AW.ghost 25 2 1 1 (by decide) rfl rfl ?_
  refine AW.loop (ι := UpTo ks) (fun x => ⟨52, [(29, .c (.d (.int .i64 x.i))), (28, .c (.d (.int .i64 (Ty.rows ks).length))), (0, .c (.d (.rp 0 (Ty.node k ks).cells))), (1, .c (.d (.rp 0 (Ty.node k ks').cells))), (4, .c (.ptr 0 0)), (5, .c (.ptr 1 0))],
      [.var [.d (.int .i8 0), .d .nils], .var [.d (.int .i8 k), .own 2 (Ty.rows (ms.take x.i)).length], .row 25 2 (Ty.rows (ms.take x.i))], []⟩)
    (fun x => ks.length - x.i) ⟨0, Nat.zero_le _⟩ 3 (fun _ => rfl) (Nat.le_of_ble_eq_true rfl) ⟨⟨rfl, rfl, rfl, rfl, rfl, rfl, trivial⟩, rfl, rfl, ⟨[], rfl⟩, rfl⟩ (fun x => ?_)
  obtain ⟨i, hi⟩ := x
  repeat' first | refine AW.seq ?_ | refine AW.block ?_ | (refine (id : AW _ _ _ (.region 9 _ true) _ _ → _) ?_; refine AW.draw (id := 9) tab_ok mixed [0, 1, 2, 3, 4, 5, 6, 7, 8, 9, 10, 11, 12, 13, 14, 15, 16, 17, 18] (by kernel_rfl) ?_; conv => whnf) | ((first | refine AW.region tab_ok ?_ | refine AW.cond ?_ | refine AW.skip ?_ | refine AW.ret ?_ | refine AW.exit ?_); conv => whnf) | ((first | refine And.intro (@rfl Val _) ?_ | refine And.intro (by decide) ?_ | refine cs (fun _ => ?_) (fun _ => ?_)) <;> conv => whnf)
  · rename_i h1
    simp only [rows_length] at h1 ⊢
    have := of_decide_eq_true h1
    refine ⟨by omega, fun row hrow => ?_⟩
    obtain ⟨x, ht, rfl⟩ := rows_get ks i row (by simpa using hrow)
    have hlt : i < ks.length := (List.getElem?_eq_some_iff.1 ht).1
    conv => whnf
    repeat' first | refine AW.seq ?_ | refine AW.block ?_ | (refine (id : AW _ _ _ (.region 9 _ true) _ _ → _) ?_; refine AW.draw (id := 9) tab_ok mixed [0, 1, 2, 3, 4, 5, 6, 7, 8, 9, 10, 11, 12, 13, 14, 15, 16, 17, 18] (by kernel_rfl) ?_; conv => whnf) | ((first | refine AW.region tab_ok ?_ | refine AW.cond ?_ | refine AW.skip ?_ | refine AW.ret ?_ | refine AW.exit ?_); conv => whnf) | ((first | refine And.intro (@rfl Val _) ?_ | refine And.intro (by decide) ?_ | refine cs (fun _ => ?_) (fun _ => ?_)) <;> conv => whnf)
    simp only [rows_length]
    refine ⟨by omega, fun row hrow => ?_⟩
    obtain ⟨y, hu, rfl⟩ := rows_get ks' i row (by simpa using hrow)
    conv => whnf
    obtain ⟨m, hm, hc⟩ := hk i x y ht hu
    have hmt : ms.take (i + 1) = ms.take i ++ [m] := by
      rw [List.take_add_one, hm]; rfl
    obtain ⟨km, kms⟩ := m
    repeat' first | refine AW.seq ?_ | refine AW.block ?_ | (refine (id : AW _ _ _ (.region 9 _ true) _ _ → _) ?_; refine AW.draw (id := 9) tab_ok mixed [0, 1, 2, 3, 4, 5, 6, 7, 8, 9, 10, 11, 12, 13, 14, 15, 16, 17, 18] (by kernel_rfl) ?_; conv => whnf) | ((first | refine AW.region tab_ok ?_ | refine AW.cond ?_ | refine AW.skip ?_ | refine AW.ret ?_ | refine AW.exit ?_); conv => whnf) | (refine (hc).mono ?_; rintro _ _ ⟨rfl, rfl⟩; conv => whnf) | ((first | refine And.intro (@rfl Val _) ?_ | refine And.intro (by decide) ?_ | refine cs (fun _ => ?_) (fun _ => ?_)) <;> conv => whnf)
    refine ⟨⟨(rows_length _).symm, ?_, ?_⟩, ?_⟩
    · simp only [rows_length, List.length_take, List.length_cons, List.length_nil]
      omega
    · simp only [rows_length, List.length_take, List.length_cons, List.length_nil]
      omega
    conv => whnf
    repeat' first | refine AW.seq ?_ | refine AW.block ?_ | (refine (id : AW _ _ _ (.region 9 _ true) _ _ → _) ?_; refine AW.draw (id := 9) tab_ok mixed [0, 1, 2, 3, 4, 5, 6, 7, 8, 9, 10, 11, 12, 13, 14, 15, 16, 17, 18] (by kernel_rfl) ?_; conv => whnf) | ((first | refine AW.region tab_ok ?_ | refine AW.cond ?_ | refine AW.skip ?_ | refine AW.ret ?_ | refine AW.exit ?_); conv => whnf) | ((first | refine And.intro (@rfl Val _) ?_ | refine And.intro (by decide) ?_ | refine cs (fun _ => ?_) (fun _ => ?_)) <;> conv => whnf)
    have e : Ty.rows (ms.take i) ++ [[.int .i8 km, .sl 0 2 (Ty.rows kms)]] = Ty.rows (ms.take (i + 1)) := by
      rw [hmt, rows_map8 (ms.take i), rows_map8 (ms.take i ++ _), List.map_append]; rfl
    have el : (Ty.rows (ms.take i)).length + [[DV.int .i8 km, .sl 0 2 (Ty.rows kms)]].length = (ms.take (i + 1)).length := by
      rw [← List.length_append, e, rows_length]
    rw [el, e, wrap64 (x := (i : Int) + 1) (by omega) (by omega)]
    exact ⟨⟨i + 1, hlt⟩, ⟨⟨rfl, rfl, rfl, rfl, rfl, rfl, trivial⟩, rfl, rfl, ⟨[], rfl⟩, rfl⟩, show ks.length - (i + 1) < ks.length - i by omega⟩
  · rename_i h1
    simp only [rows_length] at h1
    have := of_decide_eq_false h1
    obtain rfl : i = ks.length := by omega
    have e : ms.take ks.length = ms := List.take_of_length_le (by omega)
    simp only [e]
    first | refine ⟨trivial, ?_⟩ | refine ⟨rfl, ?_⟩
    conv => whnf
    first | exact ⟨rfl, rfl⟩ | exact ⟨rfl, trivial⟩ | (simp; rfl)
theorem agree_self (a : Ty) : agreeF a a = true := by
  induction a using Ty.ind with
  | _ k ks ih =>
  have : agreeL ks ks = true := (agreeL_all ks ks rfl).2 fun j x y hx hy => by
    rw [hx] at hy
    cases hy
    exact ih x (List.mem_of_getElem? hx)
  simp [agreeF, this]
set_option maxRecDepth 10000 in
theorem meet_call : ∀ (n : Nat) (a b : Ty), nodes a ≤ n → nodes b ≤ n → tright a = true → tright b = true → agreeF a b = true →
    ACall Tryz.prog 78 [.c (.d (.rp 0 a.cells)), .c (.d (.rp 0 b.cells))] [] (fun o σ => o = .ret (meetF a b).val ∧ σ = []) := by
  intro n
  induction n with
  | zero => intro a b h1; have := nodes_pos a; omega
  | succ n ih =>
  rintro ⟨k, ks⟩ ⟨k', ks'⟩ hna hnb ha hb hg
  have self : ∀ (k : Int) (ks : List Ty), nodes (.node k ks) ≤ n + 1 → tright (.node k ks) = true → ∀ (i : Nat) x y, ks[i]? = some x → ks[i]? = some y → ∃ m, ks[i]? = some m ∧ ACall Tryz.prog 78 [.c (.d (.rp 0 x.cells)), .c (.d (.rp 0 y.cells))] [] (fun o σ => o = .ret m.val ∧ σ = []) := by
    intro k ks hn hr i x y hx hy
    rw [hx] at hy
    cases hy
    have hm := List.mem_of_getElem? hx
    have hle := nodes_mem ks x hm
    simp only [nodes] at hn
    have ag : agreeF x x = true := by
      exact agree_self x
    have := ih x x (by omega) (by omega) (tright_kid hr hm) (tright_kid hr hm) ag
    rw [meet_self] at this
    exact ⟨x, hx, this⟩
  have two : ∀ {k : Int} {ks : List Ty}, tright (.node k ks) = true → ks.length ≤ 2 := fun {k ks} h => by
    have := tright_len h
    have := parts_le k
    omega
  refine ACall.body tab_ok (ρ := 0) (N := 52) Tryz.func78 rfl rfl rfl rfl rfl ?_
  refine AW.seq ?_
  refine AW.region tab_ok ?_; conv => whnf
  refine AW.seq ?_
  refine AW.seq ?_
  refine AW.region tab_ok ?_; conv => whnf
  refine AW.cond ?_; conv => whnf
  have fin : ∀ (k1 : Int) (ks1 ks1' ms : List Ty) (env : List (Nat × Val)), ks1.length = ks1'.length → ks1.length ≤ 2 → ms.length = ks1.length →
      (∀ (i : Nat) x y, ks1[i]? = some x → ks1'[i]? = some y → ∃ m, ms[i]? = some m ∧ ACall Tryz.prog 78 [.c (.d (.rp 0 x.cells)), .c (.d (.rp 0 y.cells))] [] (fun o σ => o = .ret m.val ∧ σ = [])) →
      meetF (.node k ks) (.node k' ks') = .node k1 ms → get env 0 = .c (.d (.rp 0 (Ty.node k1 ks1).cells)) → get env 1 = .c (.d (.rp 0 (Ty.node k1 ks1').cells)) → get env 4 = .c (.ptr 0 0) →
      AW Tryz.prog tab 0 rest66 ⟨52, env, [.var [.d (.int .i8 0), .d .nils]], []⟩ (afin tab 0 78 Tryz.f78.results.toList ([] : List AObj).length (fun o σ => o = .ret (meetF (.node k ks) (.node k' ks')).val ∧ σ = [])) :=
    fun k1 ks1 ks1' ms env h1 h2 h3 h4 h5 g0 g1 g4 => by
      rw [h5]
      refine AW.fits ?_ ?_ (meet_rest k1 ks1 ks1' ms h1 h2 h3 h4)
      · exact ⟨⟨g0, g1, g4, trivial⟩, rfl, rfl, ⟨[], rfl⟩, rfl⟩
      · rfl
  refine cs (fun h0 => ?_) (fun h0 => ?_)
  · have e0 : k = 0 := by simpa using h0
    refine AW.region tab_ok ?_; conv => whnf
    refine AW.seq ?_
    refine AW.seq ?_
    refine AW.region tab_ok ?_; conv => whnf
    refine AW.cond ?_; conv => whnf
    refine cs (fun h1 => ?_) (fun h1 => ?_)
    · refine AW.region tab_ok ?_; conv => whnf
      exact fin k' ks' ks' ks' _ rfl (two hb) rfl (self k' ks' hnb hb) (by simp [meetF, e0]) rfl rfl rfl
    · refine AW.skip ?_; conv => whnf
      exact fin k' ks' ks' ks' _ rfl (two hb) rfl (self k' ks' hnb hb) (by simp [meetF, e0]) rfl rfl rfl
  · have e0 : k ≠ 0 := by simpa using h0
    refine AW.skip ?_; conv => whnf
    refine AW.seq ?_
    refine AW.seq ?_
    refine AW.region tab_ok ?_; conv => whnf
    refine AW.cond ?_; conv => whnf
    refine cs (fun h1 => ?_) (fun h1 => ?_)
    · have e1 : k' = 0 := by simpa using h1
      refine AW.region tab_ok ?_; conv => whnf
      exact fin k ks ks ks _ rfl (two ha) rfl (self k ks hna ha) (by simp [meetF, e0, e1]) rfl rfl rfl
    · have e1 : k' ≠ 0 := by simpa using h1
      obtain ⟨rfl, hl⟩ := agreeK hg e0 e1
      have e := right_eq_len ha hb
      have hall := (agreeL_all ks ks' e).1 hl
      refine AW.skip ?_; conv => whnf
      refine fin k ks ks' (meetL ks ks') _ e (two ha) (meetL_len ks ks' e) (fun i x y hx hy => ?_) (by simp [meetF, e0]) rfl rfl rfl
      have hm := List.mem_of_getElem? hx
      have hm' := List.mem_of_getElem? hy
      have l1 := nodes_mem ks x hm
      have l2 := nodes_mem ks' y hm'
      simp only [nodes] at hna hnb
      refine ⟨meetF x y, ?_, ih x y (by omega) (by omega) (tright_kid ha hm) (tright_kid hb hm') (hall i x y hx hy)⟩
      have ht := meetL_take ks ks' i x y hx hy
      have hlt := (List.getElem?_eq_some_iff.1 hx).1
      have hml := meetL_len ks ks' e
      have : ((meetL ks ks').take (i + 1))[i]? = some (meetF x y) := by
        rw [ht, List.getElem?_append_right (by simp [hml]; omega)]
        simp [hml, Nat.min_eq_left (Nat.le_of_lt hlt)]
      rw [List.getElem?_take] at this
      simpa using this
end Go.Proofs.YtlboogackecjlaaGreat.E

/- Walks: Meet, kind, met; the law OrderMeet. No conditions. -/
set_option linter.unusedVariables false
set_option linter.unusedSimpArgs false
namespace Go.Proofs.YtlboogackecjlaaGreat.E
open Go

theorem meet_right (a : Ty) : ∀ b, tright a = true → tright b = true → agreeF a b = true → tright (meetF a b) = true := by
  induction a using Ty.ind with
  | _ k ks ih =>
  rintro ⟨k', ks'⟩ ha hb hg
  simp only [meetF]
  split
  · exact hb
  · rename_i e0
    split
    · exact ha
    · rename_i e1
      obtain ⟨rfl, hl⟩ := agreeK hg e0 e1
      have e := right_eq_len ha hb
      have hall := (agreeL_all ks ks' e).1 hl
      have hp := tright_len ha
      have hml := meetL_len ks ks' e
      have : trights (meetL ks ks') = true := (trights_all _).2 fun t ht => by
        obtain ⟨i, hi, rfl⟩ := List.getElem_of_mem ht
        obtain ⟨x, hx⟩ : ∃ x, ks[i]? = some x := ⟨_, List.getElem?_eq_getElem (by omega)⟩
        obtain ⟨y, hy⟩ := get_both e hx
        have hm := meetL_take ks ks' i x y hx hy
        have hlt := (List.getElem?_eq_some_iff.1 hx).1
        have h2 : ((meetL ks ks').take (i + 1))[i]? = some (meetF x y) := by
          rw [hm, List.getElem?_append_right (by simp [hml]; omega)]
          simp [hml, Nat.min_eq_left (Nat.le_of_lt hlt)]
        rw [List.getElem?_take] at h2
        have h3 : (meetL ks ks')[i]? = some (meetF x y) := by simpa using h2
        rw [List.getElem?_eq_getElem hi] at h3
        rw [Option.some.inj h3]
        exact ih x (List.mem_of_getElem? hx) y (tright_kid ha (List.mem_of_getElem? hx)) (tright_kid hb (List.mem_of_getElem? hy)) (hall i x y hx hy)
      simp only [tright, this, Bool.and_true, decide_eq_true_eq, hml]
      exact hp
theorem Meet_right (a b : Ty) : tright (MeetS a b) = true := by
  unfold MeetS
  split
  · rename_i h
    obtain ⟨q1, q2, q3⟩ := agree_val h
    exact meet_right a b q1 q2 q3
  · simp [tright, trights, parts]

set_option maxRecDepth 10000 in
theorem Meet_call (a b : Ty) : ACall Tryz.prog 49 [a.val, b.val] [] (fun o σ => o = .ret (.tup [(MeetS a b).val, .c (.d (.bool (agreeS a b)))]) ∧ σ = []) := by
  obtain ⟨k, ks⟩ := a
  obtain ⟨k', ks'⟩ := b
  refine ACall.body tab_ok (ρ := 0) (N := 12) Tryz.func49 rfl rfl rfl rfl rfl ?_
  repeat' first | refine AW.seq ?_ | refine AW.block ?_ | ((first | refine AW.region tab_ok ?_ | refine AW.cond ?_ | refine AW.skip ?_ | refine AW.ret ?_ | refine AW.exit ?_); conv => whnf) | (refine (Agree_call (.node k ks) (.node k' ks')).mono ?_; rintro _ _ ⟨rfl, rfl⟩; conv => whnf) | ((first | refine And.intro (@rfl Val _) ?_ | refine And.intro (by decide) ?_ | refine cs (fun _ => ?_) (fun _ => ?_)) <;> conv => whnf)
  · rename_i h
    have : agreeS (.node k ks) (.node k' ks') = false := by simpa using h
    refine ⟨?_, rfl⟩
    simp only [oneOf, MeetS, this]
    rfl
  · rename_i h
    have hg : agreeS (.node k ks) (.node k' ks') = true := by simpa using h
    obtain ⟨q1, q2, q3⟩ := agree_val hg
    have em : MeetS (.node k ks) (.node k' ks') = meetF (.node k ks) (.node k' ks') := by simp [MeetS, hg]
    rw [em]
    have cc := meet_call (max (nodes (.node k ks)) (nodes (.node k' ks'))) (.node k ks) (.node k' ks') (Nat.le_max_left _ _) (Nat.le_max_right _ _) q1 q2 q3
    generalize meetF (.node k ks) (.node k' ks') = m at cc
    obtain ⟨km, kms⟩ := m
    refine cc.mono ?_
    rintro _ _ ⟨rfl, rfl⟩
    conv => whnf
    repeat' first | refine AW.seq ?_ | refine AW.block ?_ | ((first | refine AW.region tab_ok ?_ | refine AW.cond ?_ | refine AW.skip ?_ | refine AW.ret ?_ | refine AW.exit ?_); conv => whnf) | ((first | refine And.intro (@rfl Val _) ?_ | refine And.intro (by decide) ?_ | refine cs (fun _ => ?_) (fun _ => ?_)) <;> conv => whnf)
    refine ⟨?_, rfl⟩
    simp only [oneOf, hg]
    rfl

/-! ### kind, of a type and itself -/
end Go.Proofs.YtlboogackecjlaaGreat.E

/- Walks: kind, Whole of a thing and itself; whole. No conditions. -/
set_option linter.unusedVariables false
set_option linter.unusedSimpArgs false
namespace Go.Proofs.YtlboogackecjlaaGreat.E
open Go

/-! ### whole -/
end Go.Proofs.YtlboogackecjlaaGreat.E

/- Walks: bare of terms, both. No conditions. -/
set_option linter.unusedVariables false
set_option linter.unusedSimpArgs false
namespace Go.Proofs.YtlboogackecjlaaGreat.E
open Go

end Go.Proofs.YtlboogackecjlaaGreat.E

/- Walks: bare of terms in the document's answer; Bare, both. No conditions. -/
set_option linter.unusedVariables false
set_option linter.unusedSimpArgs false
namespace Go.Proofs.YtlboogackecjlaaGreat.E
open Go

theorem tmcheck_ok {t : Tm} (h : tmcheck t = 0) : tmN t ≤ 8192 ∧ tmright t = true := by
  unfold tmcheck at h
  split at h
  · omega
  · split at h
    · omega
    · split at h
      · rename_i h3; exact ⟨by omega, h3⟩
      · omega
end Go.Proofs.YtlboogackecjlaaGreat.E
