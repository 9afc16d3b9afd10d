/- The row OrderLess. -/
import Derived.Test.YtdhkopangbgehaaRows
import Derived.Test.YtdhkopangbgehaaTy5
import Derived.Test.YtdhkopangbgehaaTyOpen
import Derived.WalkKit
import Derived.ProofKit
import Derived.OpenShut
import Derived.ChangeOld
import Derived.Below
import Derived.SizedLaws
import Derived.WideKeyArgs
namespace Go.Proofs.Ytdhkopangbgehaa.E
open Go Go.RowKit

theorem ty_val {w : World} {v : Value} {t : Ty} (h : Stand w v.cells.toList t.cells) : RepV w (czAll w) v t.val := by
  have hl := h.1
  rw [cells_len] at hl
  have key : ∀ arr : Array Value, Stand w arr.toList t.cells → RepV w (czAll w) (.agg arr) t.val := fun arr h =>
    .agg _ _ (RepL.ofD (C := czAll w) h.1 h.2)
  cases v <;> first | exact key _ h | (simp [Value.cells] at hl)

theorem rep2 {w : World} {C : Cz} {u v : Value} {x y : Val} (h : RepV w C u x) (g : RepV w C v y) : RepVs w C #[u, v].toList [x, y] := .cons h (.cons g ⟨rfl, fun i v x h => by simp at h⟩)
theorem rep1 {w : World} {C : Cz} {u : Value} {x : Val} (h : RepV w C u x) : RepVs w C #[u].toList [x] := .cons h ⟨rfl, fun i v x h => by simp at h⟩
theorem rep3 {w : World} {C : Cz} {u v z : Value} {x y q : Val} (h : RepV w C u x) (g : RepV w C v y) (k : RepV w C z q) : RepVs w C #[u, v, z].toList [x, y, q] := .cons h (.cons g (.cons k ⟨rfl, fun i v x h => by simp at h⟩))

/-- A law that is true: as a call. -/
theorem law_true {P : Program} {f : FuncId} {args : List Val} (h : ACall P f args [] (fun o σ => o = .ret (.c (.d (.bool true))) ∧ σ = [])) {w : World} {vs : Array Value} (hv : RepVs w (czAll w) vs.toList args) :
    Calls P f vs w fun e w' => e = .returned (.bool true) ∧ Below w.heap.size w w' :=
  (h.out w (czAll w) vs (inv_all w) hv).mono fun e w' ⟨o, σ', C', ⟨ho, hs⟩, hI, hX, hO⟩ => by
    subst ho; subst hs
    obtain ⟨v, rfl, hr⟩ := hO
    have := bool_of hr
    subst this
    exact ⟨rfl, hX.os, hX.tape, hX.output, hX.size, fun k hk => hX.frame k hk (fun ⟨i, o, e, h, _⟩ => by simp at h)⟩
end Go.Proofs.Ytdhkopangbgehaa.E

namespace Go.Proofs.Ytdhkopangbgehaa.orderLess
open Go.ChangeShapes Go.WideShapes Go.ChangeAt Go.RowKit Go.Proofs.Ytdhkopangbgehaa.E
set_option linter.unusedVariables false
theorem own : ownKnob Try.prog.godebug = none := by kernel_rfl
set_option maxRecDepth 100000 in
theorem lifted (os : Os) (started : os.Started) (H : Type) (enc : TypeId × Value → H) :
    ReturnsInHanded {} Try.checked os 5 .any (Rows.orderLessSpec.pre6 enc Try.prog Try.f5 Rows.orderLessRow.domain false) (Rows.orderLessSpec.post enc Try.prog Try.f5 false true false false) := by
  refine returnsInHanded_of_change_sized (C := Try.checked) own started (by kernel_rfl) Try.func5
    (ChangeSpec.witness6 (enc := enc) (C := Try.checked) false ⟨#[], #[.agg #[.int .i8 0, .slice none 0 0], .agg #[.int .i8 0, .slice none 0 0]], []⟩ 8 (by kernel_rfl) (by kernel_rfl) (by kernel_rfl) (by kernel_rfl)) ?_
  intro W base args ds gs before hval0 hW hcnd hsz0 _
  have hW' := hW
  obtain ⟨p, q, hA0, hV, rfl, hfz, hnd⟩ := hW
  have hA : DataW.TrodAll enc Try.prog W 0 (fun _ => true) true [30, 30] args.toList ds p := hA0
  obtain ⟨v0, vs0, d0, ds0, p0, q0, hargs, rfl, rfl, h0, r0⟩ := trodAll_cons hA
  obtain ⟨v1, vs1, d1, ds1, p1, q1, rfl, rfl, rfl, h1, r1⟩ := trodAll_cons r0
  obtain ⟨rfl, rfl, rfl⟩ := trodAll_nil r1
  obtain rfl : args = #[v0, v1] := by cases args; simp_all
  obtain ⟨rfl, rfl⟩ := trodVars_none hV
  obtain ⟨n0, g0⟩ := h0
  obtain ⟨n1, g1⟩ := h1
  obtain ⟨a, ha⟩ := open_ty n0 _ _ g0
  obtain ⟨b, hb⟩ := open_ty n1 _ _ g1
  clear hA0 hval0 hsz0
  refine (law_true (law_OrderLess a b) (rep2 (ty_val ha) (ty_val hb))).mono fun e W' ⟨he, bel⟩ => ?_
  subst he
  have l0 := DataW.trod_lt n0 _ _ _ g0
  have l1 := DataW.trod_lt n1 _ _ _ g1
  exact ⟨_, rfl, _, _, _, [], _, [], hW', trodAll_mk1 (shut_bool Try.underlying4 _),
    (trodAll_cons_mk (WideElems.Trod_stays (by kernel_rfl) (by kernel_rfl) (of_decide_eq_true (by kernel_rfl)) ⟨n0, g0⟩ (fun p hp => below_same bel (l0 p hp)) (fun p hp => by simpa using l0 p hp))
      (trodAll_cons_mk (WideElems.Trod_stays (by kernel_rfl) (by kernel_rfl) (of_decide_eq_true (by kernel_rfl)) ⟨n1, g1⟩ (fun p hp => below_same bel (l1 p hp)) (fun p hp => by simpa using l1 p hp)) trodAll_mk0)), rfl, bel.frame _, fun h => by cases h⟩
theorem over : Rows.orderLessRow.holds Try.pinned (OpenSpec.ofChange Rows.orderLessSpec) :=
  OpenClaim.holds_of_wide 5 Try.f5 rfl rfl rfl rfl rfl rfl rfl ⟨rfl, rfl, rfl, rfl, rfl⟩ rfl rfl rfl rfl rfl (by kernel_rfl) Try.func5 (by kernel_rfl)
    (of_decide_eq_true (by kernel_rfl)) (by unfold Func.isWrapper; first | (rw [if_pos (by decide +kernel)]; kernel_rfl) | (rw [if_neg (by decide +kernel)]; exact ⟨rfl, rfl⟩))
    (fun os started H enc _ => lifted os started H enc)
theorem proved : Rows.OrderLessSaid := over
#print axioms proved
end Go.Proofs.Ytdhkopangbgehaa.orderLess
namespace Go.Proofs.Ytdhkopangbgehaa
/-- The row, under a short name, for the claim. -/
theorem orderLess_holds : Rows.OrderLessSaid := orderLess.proved
end Go.Proofs.Ytdhkopangbgehaa
