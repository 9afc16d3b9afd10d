/- Walks: order.each, Has. No conditions. -/
import Derived.Test.YthmbncehoblgpaaGreatDoorTm11
import Derived.Test.YthmbncehoblgpaaGreatDoorTm12
import Derived.Test.YthmbncehoblgpaaGreatDoorTm13
set_option linter.unusedVariables false
set_option linter.unusedSimpArgs false
namespace Go.Proofs.YthmbncehoblgpaaGreatDoor.E
open Go

/-! ### Has -/
mutual
def tmhas (q : Int) : Tm → Bool
  | .node k name arg num tk tks uk uks label place ks => decide (k = q) || tmhass q ks
def tmhass (q : Int) : List Tm → Bool
  | [] => false
  | t :: l => tmhas q t || tmhass q l
end
theorem tmhass_take (q : Int) : ∀ (ks : List Tm) (i : Nat) t, ks[i]? = some t → tmhass q (ks.take (i + 1)) = (tmhass q (ks.take i) || tmhas q t)
  | x :: l, 0, t, h => by simp at h; subst h; simp [tmhass]
  | x :: l, i + 1, t, h => by
    simp only [List.getElem?_cons_succ] at h
    have := tmhass_take q l i t h
    simp only [List.take_succ_cons, tmhass, this, Bool.or_assoc]
theorem tmhass_mem (q : Int) : ∀ (ks : List Tm) (t : Tm), t ∈ ks → tmhas q t = true → tmhass q ks = true
  | x :: l, t, hm, h => by
    simp only [tmhass, Bool.or_eq_true]
    rcases List.mem_cons.1 hm with rfl | hm
    · exact .inl h
    · exact .inr (tmhass_mem q l t hm h)
structure TmHasI (q : Int) (ks : List Tm) where
  i : Nat
  hi : i ≤ ks.length
  h : tmhass q (ks.take i) = false
set_option maxRecDepth 10000 in
theorem rhas_call (q : Int) (t : Tm) : tmN t ≤ 8192 → ACall Tryz.prog 63 [t.val, .c (.d (.int .i8 q))] [] (fun o σ => o = .ret (.c (.d (.bool (tmhas q t)))) ∧ σ = []) := by
  induction t using Tm.ind with
  | _ k name arg num tk tks uk uks label place ks ih =>
  intro hN
  have hlen := tmNL_len ks
  simp only [tmN] at hN
  have ih' : ∀ t ∈ ks, ACall Tryz.prog 63 [t.val, .c (.d (.int .i8 q))] [] (fun o σ => o = .ret (.c (.d (.bool (tmhas q t)))) ∧ σ = []) := fun t ht => ih t ht (by have := tmN_mem ks t ht; omega)
  have e : tmhas q (.node k name arg num tk tks uk uks label place ks) = (decide (k = q) || tmhass q ks) := rfl
  rw [e]
  refine ACall.body tab_ok (ρ := 0) (N := 24) Tryz.func63 rfl rfl rfl rfl rfl ?_
  repeat' first | refine AW.seq ?_ | refine AW.block ?_ | ((first | refine AW.region tab_ok ?_ | refine AW.cond ?_ | refine AW.skip ?_ | refine AW.ret ?_ | refine AW.exit ?_); conv => whnf) | ((first | refine And.intro (@rfl Val _) ?_ | refine And.intro (by decide) ?_ | refine cs (fun _ => ?_) (fun _ => ?_)) <;> conv => whnf)
  · rename_i h
    have h : k = q := by simpa using h
    exact ⟨outb (by simp [h]), rfl⟩
  · rename_i h
    have h : k ≠ q := by simpa using h
    rw [show decide (k = q) = false by simp [h], Bool.false_or]
    refine AW.loop (ι := TmHasI q ks) (fun x => ⟨24, [(5, .c (.d (.int .i64 x.i))), (2, .c (.ptr 0 0)), (1, .c (.d (.int .i8 q)))], [.var [.d (.int .i8 k), .d (.str name), .d (.str arg), .d (.int .i64 num), .d (.int .i8 tk), .d (.sl 0 2 (Ty.rows tks)), .d (.int .i8 uk), .d (.sl 0 2 (Ty.rows uks)), .d (.int .i64 label), .d (.int .i64 place), .d (.sl 0 11 (Tm.rows ks))]], []⟩)
      (fun x => ks.length - x.i) ⟨0, Nat.zero_le _, rfl⟩ 1 (fun _ => rfl) (Nat.le_of_ble_eq_true rfl) ⟨⟨rfl, rfl, rfl, trivial⟩, rfl, rfl, ⟨[], rfl⟩, rfl⟩ (fun x => ?_)
    obtain ⟨i, hi, hj⟩ := x
    repeat' first | refine AW.seq ?_ | refine AW.block ?_ | ((first | refine AW.region tab_ok ?_ | refine AW.cond ?_ | refine AW.skip ?_ | refine AW.ret ?_ | refine AW.exit ?_); conv => whnf) | ((first | refine And.intro (@rfl Val _) ?_ | refine And.intro (by decide) ?_ | refine cs (fun _ => ?_) (fun _ => ?_)) <;> conv => whnf)
    · rename_i h2
      simp only [trows_length] at h2 ⊢
      have := of_decide_eq_true h2
      refine ⟨by omega, fun row hrow => ?_⟩
      obtain ⟨⟨kx, namex, argx, numx, tkx, tksx, ukx, uksx, labelx, placex, ksx⟩, ht, rfl⟩ := trows_get ks i row (by simpa using hrow)
      have hlt : i < ks.length := (List.getElem?_eq_some_iff.1 ht).1
      have hmem := List.mem_of_getElem? ht
      have hc := ih' _ hmem
      have hn := tmhass_take q ks i _ ht
      have hf := tmhass_mem q ks _ hmem
      generalize tmhas q (Tm.node kx namex argx numx tkx tksx ukx uksx labelx placex ksx) = b at hc hn hf
      conv => whnf
      repeat' first | refine AW.seq ?_ | refine AW.block ?_ | ((first | refine AW.region tab_ok ?_ | refine AW.cond ?_ | refine AW.skip ?_ | refine AW.ret ?_ | refine AW.exit ?_); conv => whnf) | (refine (hc).mono ?_; rintro _ _ ⟨rfl, rfl⟩; conv => whnf) | ((first | refine And.intro (@rfl Val _) ?_ | refine And.intro (by decide) ?_ | refine cs (fun _ => ?_) (fun _ => ?_)) <;> conv => whnf)
      · rename_i h3
        exact ⟨outb (hf h3).symm, rfl⟩
      · rename_i h3
        rw [wrap64 (x := (i : Int) + 1) (by omega) (by omega)]
        exact ⟨⟨i + 1, hlt, by rw [hn, hj, h3]; rfl⟩, ⟨⟨rfl, rfl, rfl, trivial⟩, rfl, rfl, ⟨[], rfl⟩, rfl⟩, show ks.length - (i + 1) < ks.length - i by omega⟩
    · rename_i h2
      simp only [trows_length] at h2
      have := of_decide_eq_false h2
      obtain rfl : i = ks.length := by omega
      simp only [List.take_length] at hj
      exact ⟨outb hj.symm, rfl⟩
/-! ### each -/
end Go.Proofs.YthmbncehoblgpaaGreatDoor.E
