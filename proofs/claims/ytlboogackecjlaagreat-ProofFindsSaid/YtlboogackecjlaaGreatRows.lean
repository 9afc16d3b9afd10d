/-
  NARROWER THAN 'FOR EVERY INPUT', by the rows' own cells (each row's printed sentence says how): ProofProves: loops · ProofFinds: loops.
  DERIVED. THE GIVEN ROWS OF THIS SEAT. 2 by the template 'for every input the law returns true; each argument reads behind the call as it read before'; 0 by the template 'total and deterministic' (their statements: YtlboogackecjlaaGreatTotals.lean).
  GIVEN WITH THE SEED: the statements are not yours to turn. If you find one false, say at which input.
  Laid BY PROGRAM, IN A SANDBOX (cutbox-rows.mjs): the forced cells as the released guide's own fill.sh prints them over the translation cc35b19b2cae5f46… (all of the seat's roots in one cut). By AI agents, Wed Nov 11 2026. No macro, syntax, notation, axiom, sorry.
-/
import Derived.Test.YtlboogackecjlaaGreatChecked
import GoSem.Claim
import GoSem.ClaimJoined
import GoSem.ClaimMapViews
import Derived.JoinedTies
import Derived.KernelRfl
namespace Go.Proofs.YtlboogackecjlaaGreat
/- THE CELL 'sum', in the pinned program and in every row, IS THE sha256 OF THE DUMP (.gsa) THAT YtlboogackecjlaaGreatProg.lean LOADS. Nothing in Lean hashes anything: it is a label: what it is worth is what the hold of that sum in a sandbox is worth. -/
noncomputable def Tryz.pinned : Pinned := { name := "ytlboogackecjlaagreat", sum := "cc35b19b2cae5f46c1f231633a5c915700280200d743abe7a51c8a5926e41a3e", checked := Tryz.checked }
namespace Rows
def none {H : Type} : Left H := { results := [], args := [] }

/-- 'lychgatelaw10.ProofProves': WHATEVER THE INPUT: true; the input reads as it did. -/
def proofProvesSpec : ChangeSpec := { name := "proofProves", fn := fun _ => fun
  | [d1, d2] => { results := [.lit (.bool true)], args := [d1, d2] }
  | _ => none }
def proofProvesRow : OpenClaim := { program := "ytlboogackecjlaagreat", sum := "cc35b19b2cae5f46c1f231633a5c915700280200d743abe7a51c8a5926e41a3e", func := "lychgate/lychgatelaw10.ProofProves", spec := "proofProves", unfollowed := true, recurses := true, loops := true, apart := false }
def ProofProvesSaid : Prop := proofProvesRow.holds Tryz.pinned (OpenSpec.ofChange proofProvesSpec)

/-- ITS FALSE NEIGHBOUR: 'it returns false'. Refute it at one input. -/
def proofProvesWrong : ChangeSpec := { name := "proofProves", fn := fun _ => fun
  | [d1, d2] => { results := [.lit (.bool false)], args := [d1, d2] }
  | _ => none }
def ProofProvesWrongFalsely : Prop := proofProvesRow.holds Tryz.pinned (OpenSpec.ofChange proofProvesWrong)

/-- 'lychgatelaw10.ProofFinds': WHATEVER THE INPUT: true; the input reads as it did. -/
def proofFindsSpec : ChangeSpec := { name := "proofFinds", fn := fun _ => fun
  | [d] => { results := [.lit (.bool true)], args := [d] }
  | _ => none }
def proofFindsRow : OpenClaim := { program := "ytlboogackecjlaagreat", sum := "cc35b19b2cae5f46c1f231633a5c915700280200d743abe7a51c8a5926e41a3e", func := "lychgate/lychgatelaw10.ProofFinds", spec := "proofFinds", unfollowed := true, recurses := true, loops := true, apart := false }
def ProofFindsSaid : Prop := proofFindsRow.holds Tryz.pinned (OpenSpec.ofChange proofFindsSpec)

/-- ITS FALSE NEIGHBOUR: 'it returns false'. Refute it at one input. -/
def proofFindsWrong : ChangeSpec := { name := "proofFinds", fn := fun _ => fun
  | [d] => { results := [.lit (.bool false)], args := [d] }
  | _ => none }
def ProofFindsWrongFalsely : Prop := proofFindsRow.holds Tryz.pinned (OpenSpec.ofChange proofFindsWrong)

/- THE SECOND FORM. 'bulk': how many values and letters a reading holds, each counted each time it is reached (what is shared counts as often as it is met; a slice's spare places count too). A statement '..UptoSaid' is the law's where the arguments, and the package variables that the reading takes, are together of bulk at most 1048576: NARROWER than '..Said'. Prove '..Said' where nothing that the law and all that it calls make is longer than what came in: it says more and counts as full. Else prove '..UptoSaid'. A law counts once. -/
mutual
def uptoBulk {H : Type} : DataW H → Nat
  | .lit (.string bytes) => bytes.length + 1
  | .lit _ => 1
  | .nil => 1
  | .ptr d => uptoBulk d + 1
  | .slice elems spare => uptoBulkAll elems + uptoBulkAll spare + 1
  | .agg parts => uptoBulkAll parts + 1
  | .iface _ d => uptoBulk d + 1
  | .map entries => uptoBulkEntries entries + 1
  | .held _ => 1
def uptoBulkAll {H : Type} : List (DataW H) → Nat
  | [] => 0
  | d :: r => uptoBulk d + uptoBulkAll r
def uptoBulkEntries {H : Type} : List (Lit × DataW H) → Nat
  | [] => 0
  | x :: r => uptoBulkEntry x + uptoBulkEntries r
def uptoBulkEntry {H : Type} : Lit × DataW H → Nat
  | (.string bytes, d) => bytes.length + uptoBulk d + 1
  | (_, d) => uptoBulk d + 1
 end
def uptoSmall : (H : Type) → List (DataW H) → Bool := fun _ ds => decide (uptoBulkAll ds ≤ 1048576)
def OpenSpec.upto (s : _root_.Go.ChangeSpec) : _root_.Go.OpenSpec := { _root_.Go.OpenSpec.ofChange s with cond := some uptoSmall }

/-- 'lychgatelaw10.ProofProves', WHERE WHAT IT READS IS OF BULK AT MOST 1048576: true; the input reads as it did. -/
def proofProvesUptoRow : OpenClaim := { program := "ytlboogackecjlaagreat", sum := "cc35b19b2cae5f46c1f231633a5c915700280200d743abe7a51c8a5926e41a3e", func := "lychgate/lychgatelaw10.ProofProves", spec := "proofProves", unfollowed := true, recurses := true, loops := true, apart := false, narrowed := true }
def ProofProvesUptoSaid : Prop := proofProvesUptoRow.holds Tryz.pinned (OpenSpec.upto proofProvesSpec)

/-- 'lychgatelaw10.ProofFinds', WHERE WHAT IT READS IS OF BULK AT MOST 1048576: true; the input reads as it did. -/
def proofFindsUptoRow : OpenClaim := { program := "ytlboogackecjlaagreat", sum := "cc35b19b2cae5f46c1f231633a5c915700280200d743abe7a51c8a5926e41a3e", func := "lychgate/lychgatelaw10.ProofFinds", spec := "proofFinds", unfollowed := true, recurses := true, loops := true, apart := false, narrowed := true }
def ProofFindsUptoSaid : Prop := proofFindsUptoRow.holds Tryz.pinned (OpenSpec.upto proofFindsSpec)

end Rows
end Go.Proofs.YtlboogackecjlaaGreat
