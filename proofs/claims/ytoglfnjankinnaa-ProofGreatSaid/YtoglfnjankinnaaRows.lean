/-
  NARROWER THAN 'FOR EVERY INPUT', by the rows' own cells (each row's printed sentence says how): CastsWrapped: loops · LessenMore: loops · TermsFree: loops · TermsOnce: loops · ReducePut: loops.
  DERIVED. THE GIVEN ROWS OF THIS SEAT. 7 by the template 'for every input the law returns true; each argument reads behind the call as it read before'; 0 by the template 'total and deterministic' (their statements: YtoglfnjankinnaaTotals.lean).
  GIVEN WITH THE SEED: the statements are not yours to turn. If you find one false, say at which input.
  Laid BY PROGRAM, IN A SANDBOX (cutbox-rows.mjs): the forced cells as the released guide's own fill.sh prints them over the translation e21c42816181c41d… (all of the seat's roots in one cut). By AI agents, Wed Nov 11 2026. No macro, syntax, notation, axiom, sorry.
-/
import Derived.Test.YtoglfnjankinnaaChecked
import GoSem.Claim
import GoSem.ClaimJoined
import GoSem.ClaimMapViews
import Derived.JoinedTies
import Derived.KernelRfl
namespace Go.Proofs.Ytoglfnjankinnaa
/- THE CELL 'sum', in the pinned program and in every row, IS THE sha256 OF THE DUMP (.gsa) THAT YtoglfnjankinnaaProg.lean LOADS. Nothing in Lean hashes anything: it is a label: what it is worth is what the hold of that sum in a sandbox is worth. -/
noncomputable def Try.pinned : Pinned := { name := "ytoglfnjankinnaa", sum := "e21c42816181c41d9e37aa968bb9d00562626961a24074953892102380b82f3d", checked := Try.checked }
namespace Rows
def none {H : Type} : Left H := { results := [], args := [] }

/-- 'lychgatelaw14.CastsWrapped': WHATEVER THE INPUT: true; the input reads as it did. -/
def castsWrappedSpec : ChangeSpec := { name := "castsWrapped", fn := fun _ => fun
  | [d1, d2, d3, d4] => { results := [.lit (.bool true)], args := [d1, d2, d3, d4] }
  | _ => none }
def castsWrappedRow : OpenClaim := { program := "ytoglfnjankinnaa", sum := "e21c42816181c41d9e37aa968bb9d00562626961a24074953892102380b82f3d", func := "lychgate/lychgatelaw14.CastsWrapped", spec := "castsWrapped", unfollowed := true, recurses := true, loops := true, apart := false }
def CastsWrappedSaid : Prop := castsWrappedRow.holds Try.pinned (OpenSpec.ofChange castsWrappedSpec)

/-- ITS FALSE NEIGHBOUR: 'it returns false'. Refute it at one input. -/
def castsWrappedWrong : ChangeSpec := { name := "castsWrapped", fn := fun _ => fun
  | [d1, d2, d3, d4] => { results := [.lit (.bool false)], args := [d1, d2, d3, d4] }
  | _ => none }
def CastsWrappedWrongFalsely : Prop := castsWrappedRow.holds Try.pinned (OpenSpec.ofChange castsWrappedWrong)

/-- 'lychgatelaw22.LessenMore': WHATEVER THE INPUT: true; the input reads as it did. -/
def lessenMoreSpec : ChangeSpec := { name := "lessenMore", fn := fun _ => fun
  | [d1, d2, d3] => { results := [.lit (.bool true)], args := [d1, d2, d3] }
  | _ => none }
def lessenMoreRow : OpenClaim := { program := "ytoglfnjankinnaa", sum := "e21c42816181c41d9e37aa968bb9d00562626961a24074953892102380b82f3d", func := "lychgate/lychgatelaw22.LessenMore", spec := "lessenMore", unfollowed := true, recurses := true, loops := true, apart := false }
def LessenMoreSaid : Prop := lessenMoreRow.holds Try.pinned (OpenSpec.ofChange lessenMoreSpec)

/-- ITS FALSE NEIGHBOUR: 'it returns false'. Refute it at one input. -/
def lessenMoreWrong : ChangeSpec := { name := "lessenMore", fn := fun _ => fun
  | [d1, d2, d3] => { results := [.lit (.bool false)], args := [d1, d2, d3] }
  | _ => none }
def LessenMoreWrongFalsely : Prop := lessenMoreRow.holds Try.pinned (OpenSpec.ofChange lessenMoreWrong)

/-- 'lychgatelaw10.ProofGreat': WHATEVER THE INPUT: true; the input reads as it did. -/
def proofGreatSpec : ChangeSpec := { name := "proofGreat", fn := fun _ => fun
  | [] => { results := [.lit (.bool true)], args := [] }
  | _ => none }
def proofGreatRow : OpenClaim := { program := "ytoglfnjankinnaa", sum := "e21c42816181c41d9e37aa968bb9d00562626961a24074953892102380b82f3d", func := "lychgate/lychgatelaw10.ProofGreat", spec := "proofGreat", unfollowed := true, recurses := true, apart := false }
def ProofGreatSaid : Prop := proofGreatRow.holds Try.pinned (OpenSpec.ofChange proofGreatSpec)

/-- ITS FALSE NEIGHBOUR: 'it returns false'. Refute it at one input. -/
def proofGreatWrong : ChangeSpec := { name := "proofGreat", fn := fun _ => fun
  | [] => { results := [.lit (.bool false)], args := [] }
  | _ => none }
def ProofGreatWrongFalsely : Prop := proofGreatRow.holds Try.pinned (OpenSpec.ofChange proofGreatWrong)

/-- 'lychgatelaw03.TermsFree': WHATEVER THE INPUT: true; the input reads as it did. -/
def termsFreeSpec : ChangeSpec := { name := "termsFree", fn := fun _ => fun
  | [d] => { results := [.lit (.bool true)], args := [d] }
  | _ => none }
def termsFreeRow : OpenClaim := { program := "ytoglfnjankinnaa", sum := "e21c42816181c41d9e37aa968bb9d00562626961a24074953892102380b82f3d", func := "lychgate/lychgatelaw03.TermsFree", spec := "termsFree", unfollowed := true, recurses := true, loops := true, apart := false }
def TermsFreeSaid : Prop := termsFreeRow.holds Try.pinned (OpenSpec.ofChange termsFreeSpec)

/-- ITS FALSE NEIGHBOUR: 'it returns false'. Refute it at one input. -/
def termsFreeWrong : ChangeSpec := { name := "termsFree", fn := fun _ => fun
  | [d] => { results := [.lit (.bool false)], args := [d] }
  | _ => none }
def TermsFreeWrongFalsely : Prop := termsFreeRow.holds Try.pinned (OpenSpec.ofChange termsFreeWrong)

/-- 'lychgatelaw03.TermsKnown': WHATEVER THE INPUT: true; the input reads as it did. -/
def termsKnownSpec : ChangeSpec := { name := "termsKnown", fn := fun _ => fun
  | [] => { results := [.lit (.bool true)], args := [] }
  | _ => none }
def termsKnownRow : OpenClaim := { program := "ytoglfnjankinnaa", sum := "e21c42816181c41d9e37aa968bb9d00562626961a24074953892102380b82f3d", func := "lychgate/lychgatelaw03.TermsKnown", spec := "termsKnown", unfollowed := true, recurses := true, apart := false }
def TermsKnownSaid : Prop := termsKnownRow.holds Try.pinned (OpenSpec.ofChange termsKnownSpec)

/-- ITS FALSE NEIGHBOUR: 'it returns false'. Refute it at one input. -/
def termsKnownWrong : ChangeSpec := { name := "termsKnown", fn := fun _ => fun
  | [] => { results := [.lit (.bool false)], args := [] }
  | _ => none }
def TermsKnownWrongFalsely : Prop := termsKnownRow.holds Try.pinned (OpenSpec.ofChange termsKnownWrong)

/-- 'lychgatelaw03.TermsOnce': WHATEVER THE INPUT: true; the input reads as it did. -/
def termsOnceSpec : ChangeSpec := { name := "termsOnce", fn := fun _ => fun
  | [d] => { results := [.lit (.bool true)], args := [d] }
  | _ => none }
def termsOnceRow : OpenClaim := { program := "ytoglfnjankinnaa", sum := "e21c42816181c41d9e37aa968bb9d00562626961a24074953892102380b82f3d", func := "lychgate/lychgatelaw03.TermsOnce", spec := "termsOnce", unfollowed := true, recurses := true, loops := true, apart := false }
def TermsOnceSaid : Prop := termsOnceRow.holds Try.pinned (OpenSpec.ofChange termsOnceSpec)

/-- ITS FALSE NEIGHBOUR: 'it returns false'. Refute it at one input. -/
def termsOnceWrong : ChangeSpec := { name := "termsOnce", fn := fun _ => fun
  | [d] => { results := [.lit (.bool false)], args := [d] }
  | _ => none }
def TermsOnceWrongFalsely : Prop := termsOnceRow.holds Try.pinned (OpenSpec.ofChange termsOnceWrong)

/-- 'lychgatelaw17.ReducePut': WHATEVER THE INPUT: true; the input reads as it did. -/
def reducePutSpec : ChangeSpec := { name := "reducePut", fn := fun _ => fun
  | [d1, d2, d3] => { results := [.lit (.bool true)], args := [d1, d2, d3] }
  | _ => none }
def reducePutRow : OpenClaim := { program := "ytoglfnjankinnaa", sum := "e21c42816181c41d9e37aa968bb9d00562626961a24074953892102380b82f3d", func := "lychgate/lychgatelaw17.ReducePut", spec := "reducePut", unfollowed := true, recurses := true, loops := true, apart := false }
def ReducePutSaid : Prop := reducePutRow.holds Try.pinned (OpenSpec.ofChange reducePutSpec)

/-- ITS FALSE NEIGHBOUR: 'it returns false'. Refute it at one input. -/
def reducePutWrong : ChangeSpec := { name := "reducePut", fn := fun _ => fun
  | [d1, d2, d3] => { results := [.lit (.bool false)], args := [d1, d2, d3] }
  | _ => none }
def ReducePutWrongFalsely : Prop := reducePutRow.holds Try.pinned (OpenSpec.ofChange reducePutWrong)

/- THE SECOND FORM. 'bulk': how many values and letters a reading holds, each counted each time it is reached (what is shared counts as often as it is met; a slice's spare places count too). A statement '..UptoSaid' is the law's where the arguments, and the package variables that the reading takes, are together of bulk at most 1048576: NARROWER than '..Said'. Prove '..Said' where nothing that the law and all that it calls make is longer than what came in: it says more and counts as full. Else prove '..UptoSaid'. A law counts once. -/
mutual
def uptoBulk {H : Type} : DataW H → Nat
  | .lit (.string bytes) => bytes.length + 1
  | .lit _ => 1
  | .nil => 1
  | .ptr d => uptoBulk d + 1
  | .slice elems spare => uptoBulkAll elems + uptoBulkAll spare + 1
  | .agg parts => uptoBulkAll parts + 1
  | .iface _ d => uptoBulk d + 1
  | .map entries => uptoBulkEntries entries + 1
  | .held _ => 1
def uptoBulkAll {H : Type} : List (DataW H) → Nat
  | [] => 0
  | d :: r => uptoBulk d + uptoBulkAll r
def uptoBulkEntries {H : Type} : List (Lit × DataW H) → Nat
  | [] => 0
  | x :: r => uptoBulkEntry x + uptoBulkEntries r
def uptoBulkEntry {H : Type} : Lit × DataW H → Nat
  | (.string bytes, d) => bytes.length + uptoBulk d + 1
  | (_, d) => uptoBulk d + 1
 end
def uptoSmall : (H : Type) → List (DataW H) → Bool := fun _ ds => decide (uptoBulkAll ds ≤ 1048576)
def OpenSpec.upto (s : _root_.Go.ChangeSpec) : _root_.Go.OpenSpec := { _root_.Go.OpenSpec.ofChange s with cond := some uptoSmall }

/-- 'lychgatelaw14.CastsWrapped', WHERE WHAT IT READS IS OF BULK AT MOST 1048576: true; the input reads as it did. -/
def castsWrappedUptoRow : OpenClaim := { program := "ytoglfnjankinnaa", sum := "e21c42816181c41d9e37aa968bb9d00562626961a24074953892102380b82f3d", func := "lychgate/lychgatelaw14.CastsWrapped", spec := "castsWrapped", unfollowed := true, recurses := true, loops := true, apart := false, narrowed := true }
def CastsWrappedUptoSaid : Prop := castsWrappedUptoRow.holds Try.pinned (OpenSpec.upto castsWrappedSpec)

/-- 'lychgatelaw22.LessenMore', WHERE WHAT IT READS IS OF BULK AT MOST 1048576: true; the input reads as it did. -/
def lessenMoreUptoRow : OpenClaim := { program := "ytoglfnjankinnaa", sum := "e21c42816181c41d9e37aa968bb9d00562626961a24074953892102380b82f3d", func := "lychgate/lychgatelaw22.LessenMore", spec := "lessenMore", unfollowed := true, recurses := true, loops := true, apart := false, narrowed := true }
def LessenMoreUptoSaid : Prop := lessenMoreUptoRow.holds Try.pinned (OpenSpec.upto lessenMoreSpec)

/-- 'lychgatelaw10.ProofGreat', WHERE WHAT IT READS IS OF BULK AT MOST 1048576: true; the input reads as it did. -/
def proofGreatUptoRow : OpenClaim := { program := "ytoglfnjankinnaa", sum := "e21c42816181c41d9e37aa968bb9d00562626961a24074953892102380b82f3d", func := "lychgate/lychgatelaw10.ProofGreat", spec := "proofGreat", unfollowed := true, recurses := true, apart := false, narrowed := true }
def ProofGreatUptoSaid : Prop := proofGreatUptoRow.holds Try.pinned (OpenSpec.upto proofGreatSpec)

/-- 'lychgatelaw03.TermsFree', WHERE WHAT IT READS IS OF BULK AT MOST 1048576: true; the input reads as it did. -/
def termsFreeUptoRow : OpenClaim := { program := "ytoglfnjankinnaa", sum := "e21c42816181c41d9e37aa968bb9d00562626961a24074953892102380b82f3d", func := "lychgate/lychgatelaw03.TermsFree", spec := "termsFree", unfollowed := true, recurses := true, loops := true, apart := false, narrowed := true }
def TermsFreeUptoSaid : Prop := termsFreeUptoRow.holds Try.pinned (OpenSpec.upto termsFreeSpec)

/-- 'lychgatelaw03.TermsKnown', WHERE WHAT IT READS IS OF BULK AT MOST 1048576: true; the input reads as it did. -/
def termsKnownUptoRow : OpenClaim := { program := "ytoglfnjankinnaa", sum := "e21c42816181c41d9e37aa968bb9d00562626961a24074953892102380b82f3d", func := "lychgate/lychgatelaw03.TermsKnown", spec := "termsKnown", unfollowed := true, recurses := true, apart := false, narrowed := true }
def TermsKnownUptoSaid : Prop := termsKnownUptoRow.holds Try.pinned (OpenSpec.upto termsKnownSpec)

/-- 'lychgatelaw03.TermsOnce', WHERE WHAT IT READS IS OF BULK AT MOST 1048576: true; the input reads as it did. -/
def termsOnceUptoRow : OpenClaim := { program := "ytoglfnjankinnaa", sum := "e21c42816181c41d9e37aa968bb9d00562626961a24074953892102380b82f3d", func := "lychgate/lychgatelaw03.TermsOnce", spec := "termsOnce", unfollowed := true, recurses := true, loops := true, apart := false, narrowed := true }
def TermsOnceUptoSaid : Prop := termsOnceUptoRow.holds Try.pinned (OpenSpec.upto termsOnceSpec)

/-- 'lychgatelaw17.ReducePut', WHERE WHAT IT READS IS OF BULK AT MOST 1048576: true; the input reads as it did. -/
def reducePutUptoRow : OpenClaim := { program := "ytoglfnjankinnaa", sum := "e21c42816181c41d9e37aa968bb9d00562626961a24074953892102380b82f3d", func := "lychgate/lychgatelaw17.ReducePut", spec := "reducePut", unfollowed := true, recurses := true, loops := true, apart := false, narrowed := true }
def ReducePutUptoSaid : Prop := reducePutUptoRow.holds Try.pinned (OpenSpec.upto reducePutSpec)

end Rows
end Go.Proofs.Ytoglfnjankinnaa
