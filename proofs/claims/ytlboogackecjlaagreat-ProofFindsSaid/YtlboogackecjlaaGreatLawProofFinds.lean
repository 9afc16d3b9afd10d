/- The row ProofFinds. -/
import Derived.Test.YtlboogackecjlaaGreatRows
import Derived.Test.YtlboogackecjlaaGreatGenX25
namespace Go.Proofs.YtlboogackecjlaaGreat.proofFinds
open Go.ChangeShapes Go.WideShapes Go.ChangeAt Go.RowKit Go.Proofs.YtlboogackecjlaaGreat.E
set_option linter.unusedVariables false
theorem own : ownKnob Tryz.prog.godebug = none := by kernel_rfl
set_option maxRecDepth 100000 in
theorem lifted (os : Os) (started : os.Started) (H : Type) (enc : TypeId × Value → H) :
    ReturnsInHanded {} Tryz.checked os 4 .any (Rows.proofFindsSpec.pre6 enc Tryz.prog Tryz.f4 Rows.proofFindsRow.domain false) (Rows.proofFindsSpec.post enc Tryz.prog Tryz.f4 false true false false) := by
  refine returnsInHanded_of_change_sized (C := Tryz.checked) own started (by kernel_rfl) Tryz.func4
    (ChangeSpec.witness6 (enc := enc) (C := Tryz.checked) false ⟨#[], #[.agg #[.int .i8 0, .string ⟨#[]⟩, .string ⟨#[]⟩, .int .i64 0, .int .i8 0, .slice none 0 0, .int .i8 0, .slice none 0 0, .int .i64 0, .int .i64 0, .slice none 0 0]], []⟩ 8 (by kernel_rfl) (by kernel_rfl) (by kernel_rfl) (by kernel_rfl)) ?_
  intro W base args ds gs before hval0 hW hcnd hsz0 _
  have hW' := hW
  have hval : ∀ (j : Nat) t v, Tryz.f4.params[j]? = some t → args[j]? = some v → Value.okWide Tryz.prog W .any base t v := hval0
  obtain ⟨p, q, hA0, hV, rfl, hfz, hnd⟩ := hW
  have hA : DataW.TrodAll enc Tryz.prog W 0 (fun _ => true) true [31] args.toList ds p := hA0
  obtain ⟨v0, vs0, d0, ds0, p0, q0, hargs, rfl, rfl, h0, r0⟩ := trodAll_cons hA
  obtain ⟨rfl, rfl, rfl⟩ := trodAll_nil r0
  obtain rfl : args = #[v0] := by cases args; simp_all
  obtain ⟨rfl, rfl⟩ := trodVars_none hV
  obtain ⟨n0, g0⟩ := h0
  obtain ⟨a0, b0, c0⟩ := open_tmS n0 _ _ g0 (weights_part hsz0 (j := 0) rfl rfl)
  have l0 := DataW.trod_lt n0 _ _ _ g0
  clear hA0 hval0 hsz0 hval
  refine (law_true (law_ProofFinds a0 c0) (rep1 (tm_val b0))).mono fun e W' ⟨he, bel⟩ => ?_
  subst he
  exact ⟨_, rfl, _, _, _, [], _, [], hW', trodAll_mk1 (shut_bool Tryz.underlying4 _),
    (trodAll_cons_mk (WideElems.Trod_stays (by kernel_rfl) (by kernel_rfl) (of_decide_eq_true (by kernel_rfl)) ⟨n0, g0⟩ (fun p hp => below_same bel (l0 p hp)) (fun p hp => by simpa using l0 p hp)) trodAll_mk0), rfl, bel.frame _, fun h => by cases h⟩
theorem over : Rows.proofFindsRow.holds Tryz.pinned (OpenSpec.ofChange Rows.proofFindsSpec) :=
  OpenClaim.holds_of_wide 4 Tryz.f4 rfl rfl rfl rfl rfl rfl rfl ⟨rfl, rfl, rfl, rfl, rfl⟩ rfl rfl rfl rfl rfl (by kernel_rfl) Tryz.func4 (by kernel_rfl)
    (of_decide_eq_true (by kernel_rfl)) (by unfold Func.isWrapper; first | (rw [if_pos (by decide +kernel)]; kernel_rfl) | (rw [if_neg (by decide +kernel)]; exact ⟨rfl, rfl⟩))
    (fun os started H enc _ => lifted os started H enc)
theorem proved : Rows.ProofFindsSaid := over
#print axioms proved
end Go.Proofs.YtlboogackecjlaaGreat.proofFinds
namespace Go.Proofs.YtlboogackecjlaaGreat
/-- The row, under a short name, for the claim. -/
theorem proofFinds_holds : Rows.ProofFindsSaid := proofFinds.proved
end Go.Proofs.YtlboogackecjlaaGreat
