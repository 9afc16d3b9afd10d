/- The row LessenTells. -/
import Derived.Test.YtlboogackecjlaaRows
import Derived.Test.YtlboogackecjlaaGenX15
import Derived.Test.YtlboogackecjlaaOpenI
namespace Go.Proofs.Ytlboogackecjlaa.lessenTells
open Go.ChangeShapes Go.WideShapes Go.ChangeAt Go.RowKit Go.Proofs.Ytlboogackecjlaa.E
set_option linter.unusedVariables false
theorem own : ownKnob Try.prog.godebug = none := by kernel_rfl
set_option maxRecDepth 100000 in
theorem lifted (os : Os) (started : os.Started) (H : Type) (enc : TypeId × Value → H) :
    ReturnsInHanded {} Try.checked os 3 .any (Rows.lessenTellsSpec.pre6 enc Try.prog Try.f3 Rows.lessenTellsRow.domain false) (Rows.lessenTellsSpec.post enc Try.prog Try.f3 false true false false) := by
  refine returnsInHanded_of_change_sized (C := Try.checked) own started (by kernel_rfl) Try.func3
    (ChangeSpec.witness6 (enc := enc) (C := Try.checked) false ⟨#[], #[.agg #[.int .i8 0, .string ⟨#[]⟩, .string ⟨#[]⟩, .int .i64 0, .int .i8 0, .slice none 0 0, .int .i8 0, .slice none 0 0, .int .i64 0, .int .i64 0, .slice none 0 0], .slice none 0 0], []⟩ 8 (by kernel_rfl) (by kernel_rfl) (by kernel_rfl) (by kernel_rfl)) ?_
  intro W base args ds gs before hval0 hW hcnd hsz0 _
  have hW' := hW
  have hval : ∀ (j : Nat) t v, Try.f3.params[j]? = some t → args[j]? = some v → Value.okWide Try.prog W .any base t v := hval0
  obtain ⟨p, q, hA0, hV, rfl, hfz, hnd⟩ := hW
  have hA : DataW.TrodAll enc Try.prog W 0 (fun _ => true) true [28, 29] args.toList ds p := hA0
  obtain ⟨v0, vs0, d0, ds0, p0, q0, hargs, rfl, rfl, h0, r0⟩ := trodAll_cons hA
  obtain ⟨v1, vs1, d1, ds1, p1, q1, rfl, rfl, rfl, h1, r1⟩ := trodAll_cons r0
  obtain ⟨rfl, rfl, rfl⟩ := trodAll_nil r1
  obtain rfl : args = #[v0, v1] := by cases args; simp_all
  obtain ⟨rfl, rfl⟩ := trodVars_none hV
  obtain ⟨n0, g0⟩ := h0
  obtain ⟨a0, b0, c0⟩ := open_tmS n0 _ _ g0 (weights_part hsz0 (j := 0) rfl rfl)
  have l0 := DataW.trod_lt n0 _ _ _ g0
  obtain ⟨A1, L1, C1, rfl⟩ := Go.WideShapes.okWide_slice u_ints (hval 1 29 v1 rfl rfl)
  obtain ⟨n1, g1⟩ := h1
  obtain ⟨a1, b1⟩ := open_intsL n1 _ _ g1
  have l1 := DataW.trod_lt n1 _ _ _ g1
  clear hA0 hval0 hsz0 hval
  refine (law_true (law_LessenTells a0 a1 c0) (rep2 (tm_val b0) (.c _ _ (.d _ _ b1)))).mono fun e W' ⟨he, bel⟩ => ?_
  subst he
  exact ⟨_, rfl, _, _, _, [], _, [], hW', trodAll_mk1 (shut_bool Try.underlying4 _),
    (trodAll_cons_mk (WideElems.Trod_stays (by kernel_rfl) (by kernel_rfl) (of_decide_eq_true (by kernel_rfl)) ⟨n0, g0⟩ (fun p hp => below_same bel (l0 p hp)) (fun p hp => by simpa using l0 p hp)) (trodAll_cons_mk (WideElems.Trod_stays (by kernel_rfl) (by kernel_rfl) (of_decide_eq_true (by kernel_rfl)) ⟨n1, g1⟩ (fun p hp => below_same bel (l1 p hp)) (fun p hp => by simpa using l1 p hp)) trodAll_mk0)), rfl, bel.frame _, fun h => by cases h⟩
theorem over : Rows.lessenTellsRow.holds Try.pinned (OpenSpec.ofChange Rows.lessenTellsSpec) :=
  OpenClaim.holds_of_wide 3 Try.f3 rfl rfl rfl rfl rfl rfl rfl ⟨rfl, rfl, rfl, rfl, rfl⟩ rfl rfl rfl rfl rfl (by kernel_rfl) Try.func3 (by kernel_rfl)
    (of_decide_eq_true (by kernel_rfl)) (by unfold Func.isWrapper; first | (rw [if_pos (by decide +kernel)]; kernel_rfl) | (rw [if_neg (by decide +kernel)]; exact ⟨rfl, rfl⟩))
    (fun os started H enc _ => lifted os started H enc)
theorem proved : Rows.LessenTellsSaid := over
#print axioms proved
end Go.Proofs.Ytlboogackecjlaa.lessenTells
namespace Go.Proofs.Ytlboogackecjlaa
/-- The row, under a short name, for the claim. -/
theorem lessenTells_holds : Rows.LessenTellsSaid := lessenTells.proved
end Go.Proofs.Ytlboogackecjlaa
