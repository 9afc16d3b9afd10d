/- reduce.Do answers as the document's Do does, for every operator and every two numbers: both functions come to the same cases. No conditions. -/
import Derived.Test.YtdhkopangbgehaaPReduceDox1
namespace Go.Proofs.Ytdhkopangbgehaa.Pure
open Go.RowKit Go.Proofs.Ytdhkopangbgehaa.PReduceDo Go.Proofs.YtdhkopangbgehaaW.PrintWords Go.Proofs.YtdhkopangbgehaaW.PrintLast

theorem do_some (s : ByteArray) (a b : Int) : ∃ r, reduce_Do.f s a b = some r := by
  unfold reduce_Do.f
  repeat' split
  all_goals exact ⟨_, rfl⟩

theorem ReduceDo : lychgatelaw17_ReduceDo.Pure := by
  intro s a b _ _ _
  obtain ⟨r, hr⟩ := do_some s a b
  have hs : lychgateref17_Do.f s a b = some r := hr
  unfold lychgatelaw17_ReduceDo.f
  rw [hr, hs]
  simp

end Go.Proofs.Ytdhkopangbgehaa.Pure
