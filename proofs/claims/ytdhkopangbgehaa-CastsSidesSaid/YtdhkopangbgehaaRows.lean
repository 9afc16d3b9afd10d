/-
  NARROWER THAN 'FOR EVERY INPUT', by the rows' own cells (each row's printed sentence says how): OrderLess: loops · OrderMeet: loops · OrderGoes: loops · TermsCheck: loops · TermsSame: loops · TermsBare: loops · LessenTells: loops · OrderTerms: loops · CastsTells: loops · CastsSides: loops.
  DERIVED. THE GIVEN ROWS OF THIS SEAT. 12 by the template 'for every input the law returns true; each argument reads behind the call as it read before'; 0 by the template 'total and deterministic' (their statements: YtdhkopangbgehaaTotals.lean).
  GIVEN WITH THE SEED: the statements are not yours to turn. If you find one false, say at which input.
  Laid BY PROGRAM, IN A SANDBOX (cutbox-rows.mjs): the forced cells as the released guide's own fill.sh prints them over the translation 5b22c87077de1f3e… (all of the seat's roots in one cut). By AI agents, Wed Nov 11 2026. No macro, syntax, notation, axiom, sorry.
-/
import Derived.Test.YtdhkopangbgehaaChecked
import GoSem.Claim
import GoSem.ClaimJoined
import GoSem.ClaimMapViews
import Derived.JoinedTies
import Derived.KernelRfl
namespace Go.Proofs.Ytdhkopangbgehaa
/- THE CELL 'sum', in the pinned program and in every row, IS THE sha256 OF THE DUMP (.gsa) THAT YtdhkopangbgehaaProg.lean LOADS. Nothing in Lean hashes anything: it is a label: what it is worth is what the hold of that sum in a sandbox is worth. -/
noncomputable def Try.pinned : Pinned := { name := "ytdhkopangbgehaa", sum := "5b22c87077de1f3e0f29df940a0385c8489c8b7d53bfe7cd5b21f712626b9719", checked := Try.checked }
namespace Rows
def none {H : Type} : Left H := { results := [], args := [] }

/-- 'lychgatelaw17.ReduceDo': WHATEVER THE INPUT: true; the input reads as it did. -/
def reduceDoSpec : ChangeSpec := { name := "reduceDo", fn := fun _ => fun
  | [d1, d2, d3] => { results := [.lit (.bool true)], args := [d1, d2, d3] }
  | _ => none }
def reduceDoRow : OpenClaim := { program := "ytdhkopangbgehaa", sum := "5b22c87077de1f3e0f29df940a0385c8489c8b7d53bfe7cd5b21f712626b9719", func := "lychgate/lychgatelaw17.ReduceDo", spec := "reduceDo", apart := false }
def ReduceDoSaid : Prop := reduceDoRow.holds Try.pinned (OpenSpec.ofChange reduceDoSpec)

/-- ITS FALSE NEIGHBOUR: 'it returns false'. Refute it at one input. -/
def reduceDoWrong : ChangeSpec := { name := "reduceDo", fn := fun _ => fun
  | [d1, d2, d3] => { results := [.lit (.bool false)], args := [d1, d2, d3] }
  | _ => none }
def ReduceDoWrongFalsely : Prop := reduceDoRow.holds Try.pinned (OpenSpec.ofChange reduceDoWrong)

/-- 'lychgatelaw17.ReduceReckons': WHATEVER THE INPUT: true; the input reads as it did. -/
def reduceReckonsSpec : ChangeSpec := { name := "reduceReckons", fn := fun _ => fun
  | [d1, d2] => { results := [.lit (.bool true)], args := [d1, d2] }
  | _ => none }
def reduceReckonsRow : OpenClaim := { program := "ytdhkopangbgehaa", sum := "5b22c87077de1f3e0f29df940a0385c8489c8b7d53bfe7cd5b21f712626b9719", func := "lychgate/lychgatelaw17.ReduceReckons", spec := "reduceReckons", apart := false }
def ReduceReckonsSaid : Prop := reduceReckonsRow.holds Try.pinned (OpenSpec.ofChange reduceReckonsSpec)

/-- ITS FALSE NEIGHBOUR: 'it returns false'. Refute it at one input. -/
def reduceReckonsWrong : ChangeSpec := { name := "reduceReckons", fn := fun _ => fun
  | [d1, d2] => { results := [.lit (.bool false)], args := [d1, d2] }
  | _ => none }
def ReduceReckonsWrongFalsely : Prop := reduceReckonsRow.holds Try.pinned (OpenSpec.ofChange reduceReckonsWrong)

/-- 'lychgatelaw07.OrderLess': WHATEVER THE INPUT: true; the input reads as it did. -/
def orderLessSpec : ChangeSpec := { name := "orderLess", fn := fun _ => fun
  | [d1, d2] => { results := [.lit (.bool true)], args := [d1, d2] }
  | _ => none }
def orderLessRow : OpenClaim := { program := "ytdhkopangbgehaa", sum := "5b22c87077de1f3e0f29df940a0385c8489c8b7d53bfe7cd5b21f712626b9719", func := "lychgate/lychgatelaw07.OrderLess", spec := "orderLess", unfollowed := true, recurses := true, loops := true, apart := false }
def OrderLessSaid : Prop := orderLessRow.holds Try.pinned (OpenSpec.ofChange orderLessSpec)

/-- ITS FALSE NEIGHBOUR: 'it returns false'. Refute it at one input. -/
def orderLessWrong : ChangeSpec := { name := "orderLess", fn := fun _ => fun
  | [d1, d2] => { results := [.lit (.bool false)], args := [d1, d2] }
  | _ => none }
def OrderLessWrongFalsely : Prop := orderLessRow.holds Try.pinned (OpenSpec.ofChange orderLessWrong)

/-- 'lychgatelaw07.OrderMeet': WHATEVER THE INPUT: true; the input reads as it did. -/
def orderMeetSpec : ChangeSpec := { name := "orderMeet", fn := fun _ => fun
  | [d1, d2] => { results := [.lit (.bool true)], args := [d1, d2] }
  | _ => none }
def orderMeetRow : OpenClaim := { program := "ytdhkopangbgehaa", sum := "5b22c87077de1f3e0f29df940a0385c8489c8b7d53bfe7cd5b21f712626b9719", func := "lychgate/lychgatelaw07.OrderMeet", spec := "orderMeet", unfollowed := true, recurses := true, loops := true, apart := false }
def OrderMeetSaid : Prop := orderMeetRow.holds Try.pinned (OpenSpec.ofChange orderMeetSpec)

/-- ITS FALSE NEIGHBOUR: 'it returns false'. Refute it at one input. -/
def orderMeetWrong : ChangeSpec := { name := "orderMeet", fn := fun _ => fun
  | [d1, d2] => { results := [.lit (.bool false)], args := [d1, d2] }
  | _ => none }
def OrderMeetWrongFalsely : Prop := orderMeetRow.holds Try.pinned (OpenSpec.ofChange orderMeetWrong)

/-- 'lychgatelaw07.OrderGoes': WHATEVER THE INPUT: true; the input reads as it did. -/
def orderGoesSpec : ChangeSpec := { name := "orderGoes", fn := fun _ => fun
  | [d1, d2, d3] => { results := [.lit (.bool true)], args := [d1, d2, d3] }
  | _ => none }
def orderGoesRow : OpenClaim := { program := "ytdhkopangbgehaa", sum := "5b22c87077de1f3e0f29df940a0385c8489c8b7d53bfe7cd5b21f712626b9719", func := "lychgate/lychgatelaw07.OrderGoes", spec := "orderGoes", unfollowed := true, recurses := true, loops := true, apart := false }
def OrderGoesSaid : Prop := orderGoesRow.holds Try.pinned (OpenSpec.ofChange orderGoesSpec)

/-- ITS FALSE NEIGHBOUR: 'it returns false'. Refute it at one input. -/
def orderGoesWrong : ChangeSpec := { name := "orderGoes", fn := fun _ => fun
  | [d1, d2, d3] => { results := [.lit (.bool false)], args := [d1, d2, d3] }
  | _ => none }
def OrderGoesWrongFalsely : Prop := orderGoesRow.holds Try.pinned (OpenSpec.ofChange orderGoesWrong)

/-- 'lychgatelaw03.TermsCheck': WHATEVER THE INPUT: true; the input reads as it did. -/
def termsCheckSpec : ChangeSpec := { name := "termsCheck", fn := fun _ => fun
  | [d] => { results := [.lit (.bool true)], args := [d] }
  | _ => none }
def termsCheckRow : OpenClaim := { program := "ytdhkopangbgehaa", sum := "5b22c87077de1f3e0f29df940a0385c8489c8b7d53bfe7cd5b21f712626b9719", func := "lychgate/lychgatelaw03.TermsCheck", spec := "termsCheck", unfollowed := true, recurses := true, loops := true, apart := false }
def TermsCheckSaid : Prop := termsCheckRow.holds Try.pinned (OpenSpec.ofChange termsCheckSpec)

/-- ITS FALSE NEIGHBOUR: 'it returns false'. Refute it at one input. -/
def termsCheckWrong : ChangeSpec := { name := "termsCheck", fn := fun _ => fun
  | [d] => { results := [.lit (.bool false)], args := [d] }
  | _ => none }
def TermsCheckWrongFalsely : Prop := termsCheckRow.holds Try.pinned (OpenSpec.ofChange termsCheckWrong)

/-- 'lychgatelaw03.TermsSame': WHATEVER THE INPUT: true; the input reads as it did. -/
def termsSameSpec : ChangeSpec := { name := "termsSame", fn := fun _ => fun
  | [d1, d2] => { results := [.lit (.bool true)], args := [d1, d2] }
  | _ => none }
def termsSameRow : OpenClaim := { program := "ytdhkopangbgehaa", sum := "5b22c87077de1f3e0f29df940a0385c8489c8b7d53bfe7cd5b21f712626b9719", func := "lychgate/lychgatelaw03.TermsSame", spec := "termsSame", unfollowed := true, recurses := true, loops := true, apart := false }
def TermsSameSaid : Prop := termsSameRow.holds Try.pinned (OpenSpec.ofChange termsSameSpec)

/-- ITS FALSE NEIGHBOUR: 'it returns false'. Refute it at one input. -/
def termsSameWrong : ChangeSpec := { name := "termsSame", fn := fun _ => fun
  | [d1, d2] => { results := [.lit (.bool false)], args := [d1, d2] }
  | _ => none }
def TermsSameWrongFalsely : Prop := termsSameRow.holds Try.pinned (OpenSpec.ofChange termsSameWrong)

/-- 'lychgatelaw03.TermsBare': WHATEVER THE INPUT: true; the input reads as it did. -/
def termsBareSpec : ChangeSpec := { name := "termsBare", fn := fun _ => fun
  | [d] => { results := [.lit (.bool true)], args := [d] }
  | _ => none }
def termsBareRow : OpenClaim := { program := "ytdhkopangbgehaa", sum := "5b22c87077de1f3e0f29df940a0385c8489c8b7d53bfe7cd5b21f712626b9719", func := "lychgate/lychgatelaw03.TermsBare", spec := "termsBare", unfollowed := true, recurses := true, loops := true, apart := false }
def TermsBareSaid : Prop := termsBareRow.holds Try.pinned (OpenSpec.ofChange termsBareSpec)

/-- ITS FALSE NEIGHBOUR: 'it returns false'. Refute it at one input. -/
def termsBareWrong : ChangeSpec := { name := "termsBare", fn := fun _ => fun
  | [d] => { results := [.lit (.bool false)], args := [d] }
  | _ => none }
def TermsBareWrongFalsely : Prop := termsBareRow.holds Try.pinned (OpenSpec.ofChange termsBareWrong)

/-- 'lychgatelaw22.LessenTells': WHATEVER THE INPUT: true; the input reads as it did. -/
def lessenTellsSpec : ChangeSpec := { name := "lessenTells", fn := fun _ => fun
  | [d1, d2] => { results := [.lit (.bool true)], args := [d1, d2] }
  | _ => none }
def lessenTellsRow : OpenClaim := { program := "ytdhkopangbgehaa", sum := "5b22c87077de1f3e0f29df940a0385c8489c8b7d53bfe7cd5b21f712626b9719", func := "lychgate/lychgatelaw22.LessenTells", spec := "lessenTells", unfollowed := true, recurses := true, loops := true, apart := false }
def LessenTellsSaid : Prop := lessenTellsRow.holds Try.pinned (OpenSpec.ofChange lessenTellsSpec)

/-- ITS FALSE NEIGHBOUR: 'it returns false'. Refute it at one input. -/
def lessenTellsWrong : ChangeSpec := { name := "lessenTells", fn := fun _ => fun
  | [d1, d2] => { results := [.lit (.bool false)], args := [d1, d2] }
  | _ => none }
def LessenTellsWrongFalsely : Prop := lessenTellsRow.holds Try.pinned (OpenSpec.ofChange lessenTellsWrong)

/-- 'lychgatelaw07.OrderTerms': WHATEVER THE INPUT: true; the input reads as it did. -/
def orderTermsSpec : ChangeSpec := { name := "orderTerms", fn := fun _ => fun
  | [d1, d2] => { results := [.lit (.bool true)], args := [d1, d2] }
  | _ => none }
def orderTermsRow : OpenClaim := { program := "ytdhkopangbgehaa", sum := "5b22c87077de1f3e0f29df940a0385c8489c8b7d53bfe7cd5b21f712626b9719", func := "lychgate/lychgatelaw07.OrderTerms", spec := "orderTerms", unfollowed := true, recurses := true, loops := true, apart := false }
def OrderTermsSaid : Prop := orderTermsRow.holds Try.pinned (OpenSpec.ofChange orderTermsSpec)

/-- ITS FALSE NEIGHBOUR: 'it returns false'. Refute it at one input. -/
def orderTermsWrong : ChangeSpec := { name := "orderTerms", fn := fun _ => fun
  | [d1, d2] => { results := [.lit (.bool false)], args := [d1, d2] }
  | _ => none }
def OrderTermsWrongFalsely : Prop := orderTermsRow.holds Try.pinned (OpenSpec.ofChange orderTermsWrong)

/-- 'lychgatelaw14.CastsTells': WHATEVER THE INPUT: true; the input reads as it did. -/
def castsTellsSpec : ChangeSpec := { name := "castsTells", fn := fun _ => fun
  | [d1, d2] => { results := [.lit (.bool true)], args := [d1, d2] }
  | _ => none }
def castsTellsRow : OpenClaim := { program := "ytdhkopangbgehaa", sum := "5b22c87077de1f3e0f29df940a0385c8489c8b7d53bfe7cd5b21f712626b9719", func := "lychgate/lychgatelaw14.CastsTells", spec := "castsTells", unfollowed := true, recurses := true, loops := true, apart := false }
def CastsTellsSaid : Prop := castsTellsRow.holds Try.pinned (OpenSpec.ofChange castsTellsSpec)

/-- ITS FALSE NEIGHBOUR: 'it returns false'. Refute it at one input. -/
def castsTellsWrong : ChangeSpec := { name := "castsTells", fn := fun _ => fun
  | [d1, d2] => { results := [.lit (.bool false)], args := [d1, d2] }
  | _ => none }
def CastsTellsWrongFalsely : Prop := castsTellsRow.holds Try.pinned (OpenSpec.ofChange castsTellsWrong)

/-- 'lychgatelaw14.CastsSides': WHATEVER THE INPUT: true; the input reads as it did. -/
def castsSidesSpec : ChangeSpec := { name := "castsSides", fn := fun _ => fun
  | [d1, d2] => { results := [.lit (.bool true)], args := [d1, d2] }
  | _ => none }
def castsSidesRow : OpenClaim := { program := "ytdhkopangbgehaa", sum := "5b22c87077de1f3e0f29df940a0385c8489c8b7d53bfe7cd5b21f712626b9719", func := "lychgate/lychgatelaw14.CastsSides", spec := "castsSides", unfollowed := true, recurses := true, loops := true, apart := false }
def CastsSidesSaid : Prop := castsSidesRow.holds Try.pinned (OpenSpec.ofChange castsSidesSpec)

/-- ITS FALSE NEIGHBOUR: 'it returns false'. Refute it at one input. -/
def castsSidesWrong : ChangeSpec := { name := "castsSides", fn := fun _ => fun
  | [d1, d2] => { results := [.lit (.bool false)], args := [d1, d2] }
  | _ => none }
def CastsSidesWrongFalsely : Prop := castsSidesRow.holds Try.pinned (OpenSpec.ofChange castsSidesWrong)

/- THE SECOND FORM. 'bulk': how many values and letters a reading holds, each counted each time it is reached (what is shared counts as often as it is met; a slice's spare places count too). A statement '..UptoSaid' is the law's where the arguments, and the package variables that the reading takes, are together of bulk at most 1048576: NARROWER than '..Said'. Prove '..Said' where nothing that the law and all that it calls make is longer than what came in: it says more and counts as full. Else prove '..UptoSaid'. A law counts once. -/
mutual
def uptoBulk {H : Type} : DataW H → Nat
  | .lit (.string bytes) => bytes.length + 1
  | .lit _ => 1
  | .nil => 1
  | .ptr d => uptoBulk d + 1
  | .slice elems spare => uptoBulkAll elems + uptoBulkAll spare + 1
  | .agg parts => uptoBulkAll parts + 1
  | .iface _ d => uptoBulk d + 1
  | .map entries => uptoBulkEntries entries + 1
  | .held _ => 1
def uptoBulkAll {H : Type} : List (DataW H) → Nat
  | [] => 0
  | d :: r => uptoBulk d + uptoBulkAll r
def uptoBulkEntries {H : Type} : List (Lit × DataW H) → Nat
  | [] => 0
  | x :: r => uptoBulkEntry x + uptoBulkEntries r
def uptoBulkEntry {H : Type} : Lit × DataW H → Nat
  | (.string bytes, d) => bytes.length + uptoBulk d + 1
  | (_, d) => uptoBulk d + 1
 end
def uptoSmall : (H : Type) → List (DataW H) → Bool := fun _ ds => decide (uptoBulkAll ds ≤ 1048576)
def OpenSpec.upto (s : _root_.Go.ChangeSpec) : _root_.Go.OpenSpec := { _root_.Go.OpenSpec.ofChange s with cond := some uptoSmall }

/-- 'lychgatelaw17.ReduceDo', WHERE WHAT IT READS IS OF BULK AT MOST 1048576: true; the input reads as it did. -/
def reduceDoUptoRow : OpenClaim := { program := "ytdhkopangbgehaa", sum := "5b22c87077de1f3e0f29df940a0385c8489c8b7d53bfe7cd5b21f712626b9719", func := "lychgate/lychgatelaw17.ReduceDo", spec := "reduceDo", apart := false, narrowed := true }
def ReduceDoUptoSaid : Prop := reduceDoUptoRow.holds Try.pinned (OpenSpec.upto reduceDoSpec)

/-- 'lychgatelaw17.ReduceReckons', WHERE WHAT IT READS IS OF BULK AT MOST 1048576: true; the input reads as it did. -/
def reduceReckonsUptoRow : OpenClaim := { program := "ytdhkopangbgehaa", sum := "5b22c87077de1f3e0f29df940a0385c8489c8b7d53bfe7cd5b21f712626b9719", func := "lychgate/lychgatelaw17.ReduceReckons", spec := "reduceReckons", apart := false, narrowed := true }
def ReduceReckonsUptoSaid : Prop := reduceReckonsUptoRow.holds Try.pinned (OpenSpec.upto reduceReckonsSpec)

/-- 'lychgatelaw07.OrderLess', WHERE WHAT IT READS IS OF BULK AT MOST 1048576: true; the input reads as it did. -/
def orderLessUptoRow : OpenClaim := { program := "ytdhkopangbgehaa", sum := "5b22c87077de1f3e0f29df940a0385c8489c8b7d53bfe7cd5b21f712626b9719", func := "lychgate/lychgatelaw07.OrderLess", spec := "orderLess", unfollowed := true, recurses := true, loops := true, apart := false, narrowed := true }
def OrderLessUptoSaid : Prop := orderLessUptoRow.holds Try.pinned (OpenSpec.upto orderLessSpec)

/-- 'lychgatelaw07.OrderMeet', WHERE WHAT IT READS IS OF BULK AT MOST 1048576: true; the input reads as it did. -/
def orderMeetUptoRow : OpenClaim := { program := "ytdhkopangbgehaa", sum := "5b22c87077de1f3e0f29df940a0385c8489c8b7d53bfe7cd5b21f712626b9719", func := "lychgate/lychgatelaw07.OrderMeet", spec := "orderMeet", unfollowed := true, recurses := true, loops := true, apart := false, narrowed := true }
def OrderMeetUptoSaid : Prop := orderMeetUptoRow.holds Try.pinned (OpenSpec.upto orderMeetSpec)

/-- 'lychgatelaw07.OrderGoes', WHERE WHAT IT READS IS OF BULK AT MOST 1048576: true; the input reads as it did. -/
def orderGoesUptoRow : OpenClaim := { program := "ytdhkopangbgehaa", sum := "5b22c87077de1f3e0f29df940a0385c8489c8b7d53bfe7cd5b21f712626b9719", func := "lychgate/lychgatelaw07.OrderGoes", spec := "orderGoes", unfollowed := true, recurses := true, loops := true, apart := false, narrowed := true }
def OrderGoesUptoSaid : Prop := orderGoesUptoRow.holds Try.pinned (OpenSpec.upto orderGoesSpec)

/-- 'lychgatelaw03.TermsCheck', WHERE WHAT IT READS IS OF BULK AT MOST 1048576: true; the input reads as it did. -/
def termsCheckUptoRow : OpenClaim := { program := "ytdhkopangbgehaa", sum := "5b22c87077de1f3e0f29df940a0385c8489c8b7d53bfe7cd5b21f712626b9719", func := "lychgate/lychgatelaw03.TermsCheck", spec := "termsCheck", unfollowed := true, recurses := true, loops := true, apart := false, narrowed := true }
def TermsCheckUptoSaid : Prop := termsCheckUptoRow.holds Try.pinned (OpenSpec.upto termsCheckSpec)

/-- 'lychgatelaw03.TermsSame', WHERE WHAT IT READS IS OF BULK AT MOST 1048576: true; the input reads as it did. -/
def termsSameUptoRow : OpenClaim := { program := "ytdhkopangbgehaa", sum := "5b22c87077de1f3e0f29df940a0385c8489c8b7d53bfe7cd5b21f712626b9719", func := "lychgate/lychgatelaw03.TermsSame", spec := "termsSame", unfollowed := true, recurses := true, loops := true, apart := false, narrowed := true }
def TermsSameUptoSaid : Prop := termsSameUptoRow.holds Try.pinned (OpenSpec.upto termsSameSpec)

/-- 'lychgatelaw03.TermsBare', WHERE WHAT IT READS IS OF BULK AT MOST 1048576: true; the input reads as it did. -/
def termsBareUptoRow : OpenClaim := { program := "ytdhkopangbgehaa", sum := "5b22c87077de1f3e0f29df940a0385c8489c8b7d53bfe7cd5b21f712626b9719", func := "lychgate/lychgatelaw03.TermsBare", spec := "termsBare", unfollowed := true, recurses := true, loops := true, apart := false, narrowed := true }
def TermsBareUptoSaid : Prop := termsBareUptoRow.holds Try.pinned (OpenSpec.upto termsBareSpec)

/-- 'lychgatelaw22.LessenTells', WHERE WHAT IT READS IS OF BULK AT MOST 1048576: true; the input reads as it did. -/
def lessenTellsUptoRow : OpenClaim := { program := "ytdhkopangbgehaa", sum := "5b22c87077de1f3e0f29df940a0385c8489c8b7d53bfe7cd5b21f712626b9719", func := "lychgate/lychgatelaw22.LessenTells", spec := "lessenTells", unfollowed := true, recurses := true, loops := true, apart := false, narrowed := true }
def LessenTellsUptoSaid : Prop := lessenTellsUptoRow.holds Try.pinned (OpenSpec.upto lessenTellsSpec)

/-- 'lychgatelaw07.OrderTerms', WHERE WHAT IT READS IS OF BULK AT MOST 1048576: true; the input reads as it did. -/
def orderTermsUptoRow : OpenClaim := { program := "ytdhkopangbgehaa", sum := "5b22c87077de1f3e0f29df940a0385c8489c8b7d53bfe7cd5b21f712626b9719", func := "lychgate/lychgatelaw07.OrderTerms", spec := "orderTerms", unfollowed := true, recurses := true, loops := true, apart := false, narrowed := true }
def OrderTermsUptoSaid : Prop := orderTermsUptoRow.holds Try.pinned (OpenSpec.upto orderTermsSpec)

/-- 'lychgatelaw14.CastsTells', WHERE WHAT IT READS IS OF BULK AT MOST 1048576: true; the input reads as it did. -/
def castsTellsUptoRow : OpenClaim := { program := "ytdhkopangbgehaa", sum := "5b22c87077de1f3e0f29df940a0385c8489c8b7d53bfe7cd5b21f712626b9719", func := "lychgate/lychgatelaw14.CastsTells", spec := "castsTells", unfollowed := true, recurses := true, loops := true, apart := false, narrowed := true }
def CastsTellsUptoSaid : Prop := castsTellsUptoRow.holds Try.pinned (OpenSpec.upto castsTellsSpec)

/-- 'lychgatelaw14.CastsSides', WHERE WHAT IT READS IS OF BULK AT MOST 1048576: true; the input reads as it did. -/
def castsSidesUptoRow : OpenClaim := { program := "ytdhkopangbgehaa", sum := "5b22c87077de1f3e0f29df940a0385c8489c8b7d53bfe7cd5b21f712626b9719", func := "lychgate/lychgatelaw14.CastsSides", spec := "castsSides", unfollowed := true, recurses := true, loops := true, apart := false, narrowed := true }
def CastsSidesUptoSaid : Prop := castsSidesUptoRow.holds Try.pinned (OpenSpec.upto castsSidesSpec)

end Rows
end Go.Proofs.Ytdhkopangbgehaa
