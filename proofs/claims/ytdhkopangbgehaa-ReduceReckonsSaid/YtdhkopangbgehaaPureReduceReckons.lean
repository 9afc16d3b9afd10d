/- The laws of reduce.Do on numbers hold at every two numbers: sums and products go both ways, a difference takes a sum back, a quotient leaves a rest that is smaller than the divisor and has the dividend's sign. No conditions. -/
import Derived.Test.YtdhkopangbgehaaPReduceReckonsx1
set_option linter.unusedVariables false
namespace Go.Proofs.Ytdhkopangbgehaa.Pure
open Go.RowKit Go.Proofs.Ytdhkopangbgehaa.PReduceReckons Go.Proofs.YtdhkopangbgehaaW.PrintWords Go.Proofs.YtdhkopangbgehaaW.PrintLast

theorem do_plus (a b : Int) : reduce_Do.f (⟨#[43]⟩ : ByteArray) a b = some (wrap64 (a + b), false, false, 0) := by
  unfold reduce_Do.f; rw [if_pos (by simp)]
theorem do_minus (a b : Int) : reduce_Do.f (⟨#[45]⟩ : ByteArray) a b = some (wrap64 (a - b), false, false, 0) := by
  unfold reduce_Do.f; rw [if_neg (by simp), if_pos (by simp)]
theorem do_times (a b : Int) : reduce_Do.f (⟨#[42]⟩ : ByteArray) a b = some (wrap64 (a * b), false, false, 0) := by
  unfold reduce_Do.f; rw [if_neg (by simp), if_neg (by simp), if_pos (by simp)]
theorem do_over (a b : Int) : reduce_Do.f (⟨#[47]⟩ : ByteArray) a b = if b = 0 then some (0, false, false, 182) else some (wrap64 (Int.tdiv a b), false, false, 0) := by
  unfold reduce_Do.f; rw [if_neg (by simp), if_neg (by simp), if_neg (by simp), if_pos (by simp)]

theorem back (a b : Int) (ha : -9223372036854775808 ≤ a ∧ a ≤ 9223372036854775807) : wrap64 (wrap64 (a + b) - b) = a := by
  unfold wrap64; omega

theorem tdiv_abs (a b : Int) (hb : b ≠ 0) : (Int.tdiv a b).natAbs ≤ a.natAbs := by
  rw [Int.natAbs_tdiv]; exact Nat.div_le_self _ _

theorem rest_is (a b : Int) (ha : -9223372036854775808 ≤ a ∧ a ≤ 9223372036854775807) (hb : -9223372036854775808 ≤ b ∧ b ≤ 9223372036854775807) (h0 : b ≠ 0) :
    wrap64 (a - wrap64 (wrap64 (Int.tdiv a b) * b)) = Int.tmod a b := by
  have hd := Int.mul_tdiv_add_tmod a b
  have hn := tdiv_abs a b h0
  have hm : (Int.tmod a b).natAbs < b.natAbs := by
    rw [Int.natAbs_tmod]; exact Nat.mod_lt _ (by omega)
  have hp : (b * Int.tdiv a b).natAbs ≤ a.natAbs := by
    rw [Int.natAbs_mul, Int.natAbs_tdiv]; exact Nat.mul_div_le _ _
  rw [Int.mul_comm] at hd hp
  by_cases e : Int.tdiv a b = 9223372036854775808
  · rw [e] at hd hp ⊢
    have hb1 : b = -1 := by omega
    subst hb1
    have e1 : wrap64 9223372036854775808 = -9223372036854775808 := by unfold wrap64; decide
    have e2 : wrap64 (-9223372036854775808 * -1) = -9223372036854775808 := by unfold wrap64; decide
    rw [e1, e2]
    unfold wrap64
    omega
  · have e1 : wrap64 (Int.tdiv a b) = Int.tdiv a b := by unfold wrap64; omega
    rw [e1]
    generalize Int.tdiv a b * b = p at *
    unfold wrap64
    omega

theorem tmod_sign (a b : Int) : (0 ≤ a → 0 ≤ Int.tmod a b) ∧ (a ≤ 0 → Int.tmod a b ≤ 0) := by
  refine ⟨fun h => Int.tmod_nonneg b h, fun h => ?_⟩
  have := Int.tmod_nonneg b (a := -a) (by omega)
  rw [Int.neg_tmod] at this
  omega

theorem ReduceReckons : lychgatelaw17_ReduceReckons.Pure := by
  intro a b wa wb
  have ha : -9223372036854775808 ≤ a ∧ a ≤ 9223372036854775807 := by
    simp [Lit.wf, IntKind.min, IntKind.max, IntKind.signed, IntKind.bits] at wa; omega
  have hb : -9223372036854775808 ≤ b ∧ b ≤ 9223372036854775807 := by
    simp [Lit.wf, IntKind.min, IntKind.max, IntKind.signed, IntKind.bits] at wb; omega
  refine ⟨1, ?_⟩
  unfold lychgatelaw17_ReduceReckons.f
  rw [do_plus, do_plus, do_times, do_times, do_over, Int.add_comm b a, Int.mul_comm b a]
  simp only [Option.bind_some]
  by_cases h0 : b = 0
  · subst h0
    simp [lychgatelaw17_ReduceReckons.j0, do_minus]
    simpa using back a 0 ha
  · have hr := rest_is a b ha hb h0
    have hs := tmod_sign a b
    have hm : (Int.tmod a b).natAbs < b.natAbs := by
      rw [Int.natAbs_tmod]; exact Nat.mod_lt _ (by omega)
    have hk := back a b ha
    rw [if_neg h0]
    simp only [Option.bind_some, if_true]
    have e : (((0 : Int) == 182) != (b == 0)) = false := by simp [h0]
    rw [e]
    simp only [lychgatelaw17_ReduceReckons.j0]
    rw [do_minus, if_neg (by decide)]
    simp only [Option.bind_some]
    rw [if_neg h0, if_pos hk, hr]
    generalize Int.tmod a b = r at *
    by_cases hr0 : r = 0
    · rw [if_pos hr0]
    · rw [if_neg hr0, if_pos (by rw [beq_iff_eq, decide_eq_decide]; omega)]
      by_cases hmin : b = -9223372036854775808
      · subst hmin
        have e : wrap64 (- -9223372036854775808) = -9223372036854775808 := by unfold wrap64; decide
        rw [e, if_pos (by omega), if_neg (by omega), if_pos (by omega), if_pos rfl]
      · have e : wrap64 (-b) = -b := by unfold wrap64; omega
        rw [e]
        by_cases hp : 0 < b
        · rw [if_pos (by omega), if_pos (by omega)]
        · rw [if_neg (by omega), if_pos (by omega), if_pos (by omega), if_neg (by omega), if_neg hmin, decide_eq_true (by omega)]

end Go.Proofs.Ytdhkopangbgehaa.Pure
