/-
  No cell of these rows narrows 'for every input' (looked for: loops, veiled, ifaces, maps, wideKeys, modest, calm, conditions, laid).
  DERIVED. THE GIVEN ROWS OF THIS SEAT. 3 by the template 'for every input the law returns true; each argument reads behind the call as it read before'; 0 by the template 'total and deterministic' (their statements: YtkjcocjkcjmafaaTotals.lean).
  GIVEN WITH THE SEED: the statements are not yours to turn. If you find one false, say at which input.
  Laid BY PROGRAM, IN A SANDBOX (cutbox-rows.mjs): the forced cells as the released guide's own fill.sh prints them over the translation 321c09190c9c03a2… (all of the seat's roots in one cut). By AI agents, Wed Nov 11 2026. No macro, syntax, notation, axiom, sorry.
-/
import Derived.Test.YtkjcocjkcjmafaaChecked
import GoSem.Claim
import GoSem.ClaimJoined
import GoSem.ClaimMapViews
import Derived.JoinedTies
import Derived.KernelRfl
namespace Go.Proofs.Ytkjcocjkcjmafaa
/- THE CELL 'sum', in the pinned program and in every row, IS THE sha256 OF THE DUMP (.gsa) THAT YtkjcocjkcjmafaaProg.lean LOADS. Nothing in Lean hashes anything: it is a label: what it is worth is what the hold of that sum in a sandbox is worth. -/
noncomputable def Try.pinned : Pinned := { name := "ytkjcocjkcjmafaa", sum := "321c09190c9c03a204901895369c8d9be89b8049bcb1cdac0396eb5d652bd21c", checked := Try.checked }
namespace Rows
def none {H : Type} : Left H := { results := [], args := [] }

/-- 'steelyardlaw18.ClauseReduce': WHATEVER THE INPUT: true; the input reads as it did. -/
def clauseReduceSpec : ChangeSpec := { name := "clauseReduce", fn := fun _ => fun
  | [d1, d2, d3, d4, d5] => { results := [.lit (.bool true)], args := [d1, d2, d3, d4, d5] }
  | _ => none }
def clauseReduceRow : OpenClaim := { program := "ytkjcocjkcjmafaa", sum := "321c09190c9c03a204901895369c8d9be89b8049bcb1cdac0396eb5d652bd21c", func := "steelyard/steelyardlaw18.ClauseReduce", spec := "clauseReduce", unfollowed := true, recurses := true, apart := false }
def ClauseReduceSaid : Prop := clauseReduceRow.holds Try.pinned (OpenSpec.ofChange clauseReduceSpec)

/-- ITS FALSE NEIGHBOUR: 'it returns false'. Refute it at one input. -/
def clauseReduceWrong : ChangeSpec := { name := "clauseReduce", fn := fun _ => fun
  | [d1, d2, d3, d4, d5] => { results := [.lit (.bool false)], args := [d1, d2, d3, d4, d5] }
  | _ => none }
def ClauseReduceWrongFalsely : Prop := clauseReduceRow.holds Try.pinned (OpenSpec.ofChange clauseReduceWrong)

/-- 'steelyardlaw19.LearnTold': WHATEVER THE INPUT: true; the input reads as it did. -/
def learnToldSpec : ChangeSpec := { name := "learnTold", fn := fun _ => fun
  | [d1, d2] => { results := [.lit (.bool true)], args := [d1, d2] }
  | _ => none }
def learnToldRow : OpenClaim := { program := "ytkjcocjkcjmafaa", sum := "321c09190c9c03a204901895369c8d9be89b8049bcb1cdac0396eb5d652bd21c", func := "steelyard/steelyardlaw19.LearnTold", spec := "learnTold", unfollowed := true, recurses := true, apart := false }
def LearnToldSaid : Prop := learnToldRow.holds Try.pinned (OpenSpec.ofChange learnToldSpec)

/-- ITS FALSE NEIGHBOUR: 'it returns false'. Refute it at one input. -/
def learnToldWrong : ChangeSpec := { name := "learnTold", fn := fun _ => fun
  | [d1, d2] => { results := [.lit (.bool false)], args := [d1, d2] }
  | _ => none }
def LearnToldWrongFalsely : Prop := learnToldRow.holds Try.pinned (OpenSpec.ofChange learnToldWrong)

/-- 'steelyardlaw19.LearnFollows': WHATEVER THE INPUT: true; the input reads as it did. -/
def learnFollowsSpec : ChangeSpec := { name := "learnFollows", fn := fun _ => fun
  | [d1, d2, d3] => { results := [.lit (.bool true)], args := [d1, d2, d3] }
  | _ => none }
def learnFollowsRow : OpenClaim := { program := "ytkjcocjkcjmafaa", sum := "321c09190c9c03a204901895369c8d9be89b8049bcb1cdac0396eb5d652bd21c", func := "steelyard/steelyardlaw19.LearnFollows", spec := "learnFollows", unfollowed := true, recurses := true, apart := false }
def LearnFollowsSaid : Prop := learnFollowsRow.holds Try.pinned (OpenSpec.ofChange learnFollowsSpec)

/-- ITS FALSE NEIGHBOUR: 'it returns false'. Refute it at one input. -/
def learnFollowsWrong : ChangeSpec := { name := "learnFollows", fn := fun _ => fun
  | [d1, d2, d3] => { results := [.lit (.bool false)], args := [d1, d2, d3] }
  | _ => none }
def LearnFollowsWrongFalsely : Prop := learnFollowsRow.holds Try.pinned (OpenSpec.ofChange learnFollowsWrong)

/- THE SECOND FORM. 'bulk': how many values and letters a reading holds, each counted each time it is reached (what is shared counts as often as it is met; a slice's spare places count too). A statement '..UptoSaid' is the law's where the arguments, and the package variables that the reading takes, are together of bulk at most 1048576: NARROWER than '..Said'. Prove '..Said' where nothing that the law and all that it calls make is longer than what came in: it says more and counts as full. Else prove '..UptoSaid'. A law counts once. -/
mutual
def uptoBulk {H : Type} : DataW H → Nat
  | .lit (.string bytes) => bytes.length + 1
  | .lit _ => 1
  | .nil => 1
  | .ptr d => uptoBulk d + 1
  | .slice elems spare => uptoBulkAll elems + uptoBulkAll spare + 1
  | .agg parts => uptoBulkAll parts + 1
  | .iface _ d => uptoBulk d + 1
  | .map entries => uptoBulkEntries entries + 1
  | .held _ => 1
def uptoBulkAll {H : Type} : List (DataW H) → Nat
  | [] => 0
  | d :: r => uptoBulk d + uptoBulkAll r
def uptoBulkEntries {H : Type} : List (Lit × DataW H) → Nat
  | [] => 0
  | x :: r => uptoBulkEntry x + uptoBulkEntries r
def uptoBulkEntry {H : Type} : Lit × DataW H → Nat
  | (.string bytes, d) => bytes.length + uptoBulk d + 1
  | (_, d) => uptoBulk d + 1
 end
def uptoSmall : (H : Type) → List (DataW H) → Bool := fun _ ds => decide (uptoBulkAll ds ≤ 1048576)
def OpenSpec.upto (s : _root_.Go.ChangeSpec) : _root_.Go.OpenSpec := { _root_.Go.OpenSpec.ofChange s with cond := some uptoSmall }

/-- 'steelyardlaw18.ClauseReduce', WHERE WHAT IT READS IS OF BULK AT MOST 1048576: true; the input reads as it did. -/
def clauseReduceUptoRow : OpenClaim := { program := "ytkjcocjkcjmafaa", sum := "321c09190c9c03a204901895369c8d9be89b8049bcb1cdac0396eb5d652bd21c", func := "steelyard/steelyardlaw18.ClauseReduce", spec := "clauseReduce", unfollowed := true, recurses := true, apart := false, narrowed := true }
def ClauseReduceUptoSaid : Prop := clauseReduceUptoRow.holds Try.pinned (OpenSpec.upto clauseReduceSpec)

/-- 'steelyardlaw19.LearnTold', WHERE WHAT IT READS IS OF BULK AT MOST 1048576: true; the input reads as it did. -/
def learnToldUptoRow : OpenClaim := { program := "ytkjcocjkcjmafaa", sum := "321c09190c9c03a204901895369c8d9be89b8049bcb1cdac0396eb5d652bd21c", func := "steelyard/steelyardlaw19.LearnTold", spec := "learnTold", unfollowed := true, recurses := true, apart := false, narrowed := true }
def LearnToldUptoSaid : Prop := learnToldUptoRow.holds Try.pinned (OpenSpec.upto learnToldSpec)

/-- 'steelyardlaw19.LearnFollows', WHERE WHAT IT READS IS OF BULK AT MOST 1048576: true; the input reads as it did. -/
def learnFollowsUptoRow : OpenClaim := { program := "ytkjcocjkcjmafaa", sum := "321c09190c9c03a204901895369c8d9be89b8049bcb1cdac0396eb5d652bd21c", func := "steelyard/steelyardlaw19.LearnFollows", spec := "learnFollows", unfollowed := true, recurses := true, apart := false, narrowed := true }
def LearnFollowsUptoSaid : Prop := learnFollowsUptoRow.holds Try.pinned (OpenSpec.upto learnFollowsSpec)

end Rows
end Go.Proofs.Ytkjcocjkcjmafaa
