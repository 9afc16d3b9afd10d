/- Walks: right, Depth, Check, of both; less of both. No conditions. -/
import Derived.Test.YthmbncehoblgpaaGreatDoorTy3
set_option linter.unusedVariables false
set_option linter.unusedSimpArgs false
namespace Go.Proofs.YthmbncehoblgpaaGreatDoor.E
open Go

/-! ### right -/
structure RightI (ks : List Ty) where
  i : Nat
  hi : i ≤ ks.length
  h : ∀ j, j < i → ∀ t, ks[j]? = some t → tright t = true

set_option maxRecDepth 10000 in
theorem right_call (t : Ty) : nodes t ≤ 8192 → ACall Tryz.prog 54 [t.val] [] (fun o σ => o = .ret (.c (.d (.bool (tright t)))) ∧ σ = []) := by
  induction t using Ty.ind with
  | _ k ks ih =>
  intro hN
  have hlen := nodesL_len ks
  simp only [nodes] at hN
  refine ACall.body tab_ok (ρ := 0) (N := 23) Tryz.func54 rfl rfl rfl rfl rfl ?_
  repeat' first | refine AW.seq ?_ | refine AW.block ?_ | (refine (_root_.id : AW _ _ _ (.region 1 _ true) _ _ → _) ?_; refine AW.draw (id := 1) tab_ok mixed [0, 1, 3, 4, 5, 2, 6] (by kernel_rfl) ?_; conv => whnf) | ((first | refine AW.region tab_ok ?_ | refine AW.cond ?_ | refine AW.skip ?_ | refine AW.ret ?_ | refine AW.exit ?_); conv => whnf) | (refine (parts_call _).mono ?_; rintro _ _ ⟨rfl, rfl⟩; conv => whnf) | ((first | refine And.intro (@rfl Val _) ?_ | refine And.intro (by decide) ?_ | refine cs (fun _ => ?_) (fun _ => ?_)) <;> conv => whnf)
  · rename_i h
    refine ⟨?_, rfl⟩
    simp only [rows_length, bne_iff_ne, ne_eq] at h
    simp [oneOf, tright, h]
  · rename_i h
    refine AW.loop (ι := RightI ks) (fun x => ⟨23, [(15, .c (.d (.int .i64 x.i))), (14, .c (.d (.int .i64 (Ty.rows ks).length))), (13, .c (.d (.sl 0 2 (Ty.rows ks))))], [.var [.d (.int .i8 k), .d (.sl 0 2 (Ty.rows ks))]], []⟩)
      (fun x => ks.length - x.i) ⟨0, Nat.zero_le _, fun j h => by omega⟩ 1 (fun _ => rfl) (Nat.le_of_ble_eq_true rfl) ⟨⟨rfl, rfl, rfl, trivial⟩, rfl, rfl, ⟨[], rfl⟩, rfl⟩ (fun x => ?_)
    obtain ⟨i, hi, hj⟩ := x
    repeat' first | refine AW.seq ?_ | refine AW.block ?_ | (refine (_root_.id : AW _ _ _ (.region 1 _ true) _ _ → _) ?_; refine AW.draw (id := 1) tab_ok mixed [0, 1, 3, 4, 5, 2, 6] (by kernel_rfl) ?_; conv => whnf) | ((first | refine AW.region tab_ok ?_ | refine AW.cond ?_ | refine AW.skip ?_ | refine AW.ret ?_ | refine AW.exit ?_); conv => whnf) | ((first | refine And.intro (@rfl Val _) ?_ | refine And.intro (by decide) ?_ | refine cs (fun _ => ?_) (fun _ => ?_)) <;> conv => whnf)
    · rename_i h1
      simp only [rows_length] at h1 ⊢
      have := of_decide_eq_true h1
      refine ⟨by omega, fun row hrow => ?_⟩
      obtain ⟨⟨k', ks'⟩, ht, rfl⟩ := rows_get ks i row (by simpa using hrow)
      have hlt : i < ks.length := (List.getElem?_eq_some_iff.1 ht).1
      have hm := List.mem_of_getElem? ht
      conv => whnf
      repeat' first | refine AW.seq ?_ | refine AW.block ?_ | (refine (_root_.id : AW _ _ _ (.region 1 _ true) _ _ → _) ?_; refine AW.draw (id := 1) tab_ok mixed [0, 1, 3, 4, 5, 2, 6] (by kernel_rfl) ?_; conv => whnf) | ((first | refine AW.region tab_ok ?_ | refine AW.cond ?_ | refine AW.skip ?_ | refine AW.ret ?_ | refine AW.exit ?_); conv => whnf) | (refine (ih _ hm (by have := nodes_mem ks _ hm; omega)).mono ?_; rintro _ _ ⟨rfl, rfl⟩; conv => whnf) | ((first | refine And.intro (@rfl Val _) ?_ | refine And.intro (by decide) ?_ | refine cs (fun _ => ?_) (fun _ => ?_)) <;> conv => whnf)
      · rename_i h2
        refine ⟨?_, rfl⟩
        have h2 : tright (Ty.node k' ks') = false := by simpa using h2
        have : trights ks = false := by
          cases hc : trights ks with
          | false => rfl
          | true => rw [(trights_all ks).1 hc _ hm] at h2; cases h2
        simp [oneOf, tright, this]
      · rename_i h2
        have h2 : tright (Ty.node k' ks') = true := by simpa using h2
        rw [wrap64 (x := (i : Int) + 1) (by omega) (by omega)]
        refine ⟨⟨i + 1, hlt, fun j h t hjt => ?_⟩, ⟨⟨rfl, rfl, rfl, trivial⟩, rfl, rfl, ⟨[_], rfl⟩, rfl⟩, show ks.length - (i + 1) < ks.length - i by omega⟩
        by_cases e : j = i
        · subst e; rw [ht] at hjt; cases hjt; exact h2
        · exact hj j (by omega) t hjt
    · rename_i h1
      simp only [rows_length] at h1
      have := of_decide_eq_false h1
      obtain rfl : i = ks.length := by omega
      refine ⟨?_, rfl⟩
      have hp : parts k = ks.length := by simpa [rows_length] using h
      have : trights ks = true := (trights_all ks).2 fun t ht => by
        obtain ⟨j, hj1, hj2⟩ := List.getElem_of_mem ht
        exact hj j hj1 t (by rw [List.getElem?_eq_getElem hj1, hj2])
      simp [oneOf, tright, this, hp]
set_option maxRecDepth 10000 in
theorem rright_call (t : Ty) : nodes t ≤ 8192 → ACall Tryz.prog 66 [t.val] [] (fun o σ => o = .ret (.c (.d (.bool (tright t)))) ∧ σ = []) := by
  induction t using Ty.ind with
  | _ k ks ih =>
  intro hN
  have hlen := nodesL_len ks
  simp only [nodes] at hN
  refine ACall.body tab_ok (ρ := 0) (N := 27) Tryz.func66 rfl rfl rfl rfl rfl ?_
  repeat' first | refine AW.seq ?_ | refine AW.block ?_ | (refine (_root_.id : AW _ _ _ (.region 1 _ true) _ _ → _) ?_; refine AW.draw (id := 1) tab_ok mixed [0, 1, 3, 4, 5, 2, 6] (by kernel_rfl) ?_; conv => whnf) | ((first | refine AW.region tab_ok ?_ | refine AW.cond ?_ | refine AW.skip ?_ | refine AW.ret ?_ | refine AW.exit ?_); conv => whnf) | (refine (kids_call _).mono ?_; rintro _ _ ⟨rfl, rfl⟩; conv => whnf) | ((first | refine And.intro (@rfl Val _) ?_ | refine And.intro (by decide) ?_ | refine cs (fun _ => ?_) (fun _ => ?_)) <;> conv => whnf)
  · rename_i h
    refine ⟨?_, rfl⟩
    simp only [rows_length, bne_iff_ne, ne_eq] at h
    simp [oneOf, tright, h]
  · rename_i h
    refine AW.loop (ι := RightI ks) (fun x => ⟨27, [(3, .c (.d (.int .i64 x.i))), (1, .c (.ptr 0 0))], [.var [.d (.int .i8 k), .d (.sl 0 2 (Ty.rows ks))]], []⟩)
      (fun x => ks.length - x.i) ⟨0, Nat.zero_le _, fun j h => by omega⟩ 1 (fun _ => rfl) (Nat.le_of_ble_eq_true rfl) ⟨⟨rfl, rfl, trivial⟩, rfl, rfl, ⟨[], rfl⟩, rfl⟩ (fun x => ?_)
    obtain ⟨i, hi, hj⟩ := x
    repeat' first | refine AW.seq ?_ | refine AW.block ?_ | (refine (_root_.id : AW _ _ _ (.region 1 _ true) _ _ → _) ?_; refine AW.draw (id := 1) tab_ok mixed [0, 1, 3, 4, 5, 2, 6] (by kernel_rfl) ?_; conv => whnf) | ((first | refine AW.region tab_ok ?_ | refine AW.cond ?_ | refine AW.skip ?_ | refine AW.ret ?_ | refine AW.exit ?_); conv => whnf) | ((first | refine And.intro (@rfl Val _) ?_ | refine And.intro (by decide) ?_ | refine cs (fun _ => ?_) (fun _ => ?_)) <;> conv => whnf)
    · rename_i h1
      simp only [rows_length] at h1 ⊢
      have := of_decide_eq_true h1
      refine ⟨by omega, fun row hrow => ?_⟩
      obtain ⟨⟨k', ks'⟩, ht, rfl⟩ := rows_get ks i row (by simpa using hrow)
      have hlt : i < ks.length := (List.getElem?_eq_some_iff.1 ht).1
      have hm := List.mem_of_getElem? ht
      conv => whnf
      repeat' first | refine AW.seq ?_ | refine AW.block ?_ | (refine (_root_.id : AW _ _ _ (.region 1 _ true) _ _ → _) ?_; refine AW.draw (id := 1) tab_ok mixed [0, 1, 3, 4, 5, 2, 6] (by kernel_rfl) ?_; conv => whnf) | ((first | refine AW.region tab_ok ?_ | refine AW.cond ?_ | refine AW.skip ?_ | refine AW.ret ?_ | refine AW.exit ?_); conv => whnf) | (refine (ih _ hm (by have := nodes_mem ks _ hm; omega)).mono ?_; rintro _ _ ⟨rfl, rfl⟩; conv => whnf) | ((first | refine And.intro (@rfl Val _) ?_ | refine And.intro (by decide) ?_ | refine cs (fun _ => ?_) (fun _ => ?_)) <;> conv => whnf)
      · rename_i h2
        refine ⟨?_, rfl⟩
        have h2 : tright (Ty.node k' ks') = false := by simpa using h2
        have : trights ks = false := by
          cases hc : trights ks with
          | false => rfl
          | true => rw [(trights_all ks).1 hc _ hm] at h2; cases h2
        simp [oneOf, tright, this]
      · rename_i h2
        have h2 : tright (Ty.node k' ks') = true := by simpa using h2
        rw [wrap64 (x := (i : Int) + 1) (by omega) (by omega)]
        refine ⟨⟨i + 1, hlt, fun j h t hjt => ?_⟩, ⟨⟨rfl, rfl, trivial⟩, rfl, rfl, ⟨[], rfl⟩, rfl⟩, show ks.length - (i + 1) < ks.length - i by omega⟩
        by_cases e : j = i
        · subst e; rw [ht] at hjt; cases hjt; exact h2
        · exact hj j (by omega) t hjt
    · rename_i h1
      simp only [rows_length] at h1
      have := of_decide_eq_false h1
      obtain rfl : i = ks.length := by omega
      refine ⟨?_, rfl⟩
      have hp : parts k = ks.length := by simpa [rows_length] using h
      have : trights ks = true := (trights_all ks).2 fun t ht => by
        obtain ⟨j, hj1, hj2⟩ := List.getElem_of_mem ht
        exact hj j hj1 t (by rw [List.getElem?_eq_getElem hj1, hj2])
      simp [oneOf, tright, this, hp]

/-! ### Nodes, Depth, Check -/
set_option maxRecDepth 10000 in
theorem rnodes_call (t : Ty) : ACall Tryz.prog 64 [t.val] [] (fun o σ => o = .ret (.c (.d (.int .i64 (min (nodes t) 8193 : Nat)))) ∧ σ = []) := by
  obtain ⟨k, ks⟩ := t
  refine ACall.body tab_ok (ρ := 0) (N := 6) Tryz.func64 rfl rfl rfl rfl rfl ?_
  repeat' first | refine AW.seq ?_ | refine AW.block ?_ | ((first | refine AW.region tab_ok ?_ | refine AW.cond ?_ | refine AW.skip ?_ | refine AW.ret ?_ | refine AW.exit ?_); conv => whnf) | (refine (rcount_call (.node k ks) 0 (by omega)).mono ?_; rintro _ _ ⟨rfl, rfl⟩; conv => whnf) | ((first | refine And.intro (@rfl Val _) ?_ | refine And.intro (by decide) ?_ | refine cs (fun _ => ?_) (fun _ => ?_)) <;> conv => whnf)
  refine ⟨?_, rfl⟩
  simp only [oneOf, Nat.zero_add]
  rw [show min ((min (nodes (Ty.node k ks)) 8193 : Nat) : Int) 8193 = (min (nodes (Ty.node k ks)) 8193 : Nat) by omega]
def tdepth (t : Ty) : Nat := if nodes t > 8192 then 201 else deepF t 201
set_option maxRecDepth 10000 in
theorem depth_call (t : Ty) : ACall Tryz.prog 53 [t.val] [] (fun o σ => o = .ret (.c (.d (.int .i64 (tdepth t)))) ∧ σ = []) := by
  obtain ⟨k, ks⟩ := t
  refine ACall.body tab_ok (ρ := 0) (N := 8) Tryz.func53 rfl rfl rfl rfl rfl ?_
  repeat' first | refine AW.seq ?_ | refine AW.block ?_ | ((first | refine AW.region tab_ok ?_ | refine AW.cond ?_ | refine AW.skip ?_ | refine AW.ret ?_ | refine AW.exit ?_); conv => whnf) | (refine (nodes_call (.node k ks)).mono ?_; rintro _ _ ⟨rfl, rfl⟩; conv => whnf) | ((first | refine And.intro (@rfl Val _) ?_ | refine And.intro (by decide) ?_ | refine cs (fun _ => ?_) (fun _ => ?_)) <;> conv => whnf)
  · rename_i h
    have := of_decide_eq_true h
    refine ⟨?_, rfl⟩
    simp only [oneOf, tdepth]
    rw [if_pos (by omega)]
    rfl
  · rename_i h
    have := of_decide_eq_false h
    refine (deep_call (.node k ks) (by omega) 201 (by omega)).mono ?_
    rintro _ _ ⟨rfl, rfl⟩
    conv => whnf
    repeat' first | refine AW.seq ?_ | refine AW.block ?_ | ((first | refine AW.region tab_ok ?_ | refine AW.cond ?_ | refine AW.skip ?_ | refine AW.ret ?_ | refine AW.exit ?_); conv => whnf) | ((first | refine And.intro (@rfl Val _) ?_ | refine And.intro (by decide) ?_ | refine cs (fun _ => ?_) (fun _ => ?_)) <;> conv => whnf)
    refine ⟨?_, rfl⟩
    simp only [oneOf, tdepth]
    rw [if_neg (by omega)]
set_option maxRecDepth 10000 in
theorem rdepth_call (t : Ty) : ACall Tryz.prog 65 [t.val] [] (fun o σ => o = .ret (.c (.d (.int .i64 (tdepth t)))) ∧ σ = []) := by
  obtain ⟨k, ks⟩ := t
  refine ACall.body tab_ok (ρ := 0) (N := 8) Tryz.func65 rfl rfl rfl rfl rfl ?_
  repeat' first | refine AW.seq ?_ | refine AW.block ?_ | ((first | refine AW.region tab_ok ?_ | refine AW.cond ?_ | refine AW.skip ?_ | refine AW.ret ?_ | refine AW.exit ?_); conv => whnf) | (refine (rnodes_call (.node k ks)).mono ?_; rintro _ _ ⟨rfl, rfl⟩; conv => whnf) | ((first | refine And.intro (@rfl Val _) ?_ | refine And.intro (by decide) ?_ | refine cs (fun _ => ?_) (fun _ => ?_)) <;> conv => whnf)
  · rename_i h
    have := of_decide_eq_true h
    refine ⟨?_, rfl⟩
    simp only [oneOf, tdepth]
    rw [if_pos (by omega)]
    rfl
  · rename_i h
    have := of_decide_eq_false h
    refine (rdeep_call (.node k ks) (by omega) 201 (by omega)).mono ?_
    rintro _ _ ⟨rfl, rfl⟩
    conv => whnf
    repeat' first | refine AW.seq ?_ | refine AW.block ?_ | ((first | refine AW.region tab_ok ?_ | refine AW.cond ?_ | refine AW.skip ?_ | refine AW.ret ?_ | refine AW.exit ?_); conv => whnf) | ((first | refine And.intro (@rfl Val _) ?_ | refine And.intro (by decide) ?_ | refine cs (fun _ => ?_) (fun _ => ?_)) <;> conv => whnf)
    refine ⟨?_, rfl⟩
    simp only [oneOf, tdepth]
    rw [if_neg (by omega)]
set_option maxRecDepth 10000 in
theorem check_call (t : Ty) : ACall Tryz.prog 27 [t.val] [] (fun o σ => o = .ret (.c (.d (.int .i64 (tcheck t)))) ∧ σ = []) := by
  obtain ⟨k, ks⟩ := t
  refine ACall.body tab_ok (ρ := 0) (N := 15) Tryz.func27 rfl rfl rfl rfl rfl ?_
  repeat' first | refine AW.seq ?_ | refine AW.block ?_ | ((first | refine AW.region tab_ok ?_ | refine AW.cond ?_ | refine AW.skip ?_ | refine AW.ret ?_ | refine AW.exit ?_); conv => whnf) | ((first | refine (nodes_call (.node k ks)).mono ?_ | refine (depth_call (.node k ks)).mono ?_); rintro _ _ ⟨rfl, rfl⟩; conv => whnf) | ((first | refine And.intro (@rfl Val _) ?_ | refine And.intro (by decide) ?_ | refine cs (fun _ => ?_) (fun _ => ?_)) <;> conv => whnf)
  · rename_i h
    have := of_decide_eq_true h
    refine ⟨?_, rfl⟩
    simp only [oneOf, tcheck]
    rw [if_pos (by omega)]
  · rename_i h1 h2
    have := of_decide_eq_false h1
    have h2 := of_decide_eq_true h2
    refine ⟨?_, rfl⟩
    simp only [tdepth] at h2
    rw [if_neg (by omega)] at h2
    simp only [oneOf, tcheck]
    rw [if_neg (by omega), if_pos (by omega)]
  · rename_i h1 h2
    have := of_decide_eq_false h1
    have h2 := of_decide_eq_false h2
    simp only [tdepth] at h2
    rw [if_neg (by omega)] at h2
    refine (right_call (.node k ks) (by omega)).mono ?_
    rintro _ _ ⟨rfl, rfl⟩
    conv => whnf
    repeat' first | refine AW.seq ?_ | refine AW.block ?_ | ((first | refine AW.region tab_ok ?_ | refine AW.cond ?_ | refine AW.skip ?_ | refine AW.ret ?_ | refine AW.exit ?_); conv => whnf) | ((first | refine And.intro (@rfl Val _) ?_ | refine And.intro (by decide) ?_ | refine cs (fun _ => ?_) (fun _ => ?_)) <;> conv => whnf)
    all_goals
      rename_i h3
      refine ⟨?_, rfl⟩
      simp only [oneOf, tcheck]
      rw [if_neg (by omega), if_neg (by omega)]
      simp at h3
      simp [h3]
set_option maxRecDepth 10000 in
theorem rcheck_call (t : Ty) : ACall Tryz.prog 36 [t.val] [] (fun o σ => o = .ret (.c (.d (.int .i64 (tcheck t)))) ∧ σ = []) := by
  obtain ⟨k, ks⟩ := t
  refine ACall.body tab_ok (ρ := 0) (N := 14) Tryz.func36 rfl rfl rfl rfl rfl ?_
  repeat' first | refine AW.seq ?_ | refine AW.block ?_ | ((first | refine AW.region tab_ok ?_ | refine AW.cond ?_ | refine AW.skip ?_ | refine AW.ret ?_ | refine AW.exit ?_); conv => whnf) | ((first | refine (rnodes_call (.node k ks)).mono ?_ | refine (rdepth_call (.node k ks)).mono ?_); rintro _ _ ⟨rfl, rfl⟩; conv => whnf) | ((first | refine And.intro (@rfl Val _) ?_ | refine And.intro (by decide) ?_ | refine cs (fun _ => ?_) (fun _ => ?_)) <;> conv => whnf)
  · rename_i h
    have := of_decide_eq_true h
    refine ⟨?_, rfl⟩
    simp only [oneOf, tcheck]
    rw [if_pos (by omega)]
  · rename_i h1 h2
    have := of_decide_eq_false h1
    have h2 := of_decide_eq_true h2
    refine ⟨?_, rfl⟩
    simp only [tdepth] at h2
    rw [if_neg (by omega)] at h2
    simp only [oneOf, tcheck]
    rw [if_neg (by omega), if_pos (by omega)]
  · rename_i h1 h2
    have := of_decide_eq_false h1
    have h2 := of_decide_eq_false h2
    simp only [tdepth] at h2
    rw [if_neg (by omega)] at h2
    refine (rright_call (.node k ks) (by omega)).mono ?_
    rintro _ _ ⟨rfl, rfl⟩
    conv => whnf
    repeat' first | refine AW.seq ?_ | refine AW.block ?_ | ((first | refine AW.region tab_ok ?_ | refine AW.cond ?_ | refine AW.skip ?_ | refine AW.ret ?_ | refine AW.exit ?_); conv => whnf) | ((first | refine And.intro (@rfl Val _) ?_ | refine And.intro (by decide) ?_ | refine cs (fun _ => ?_) (fun _ => ?_)) <;> conv => whnf)
    all_goals
      rename_i h3
      refine ⟨?_, rfl⟩
      simp only [oneOf, tcheck]
      rw [if_neg (by omega), if_neg (by omega)]
      simp at h3
      simp [h3]
end Go.Proofs.YthmbncehoblgpaaGreatDoor.E
