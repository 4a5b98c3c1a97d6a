/-
  NARROWER THAN 'FOR EVERY INPUT', by the rows' own cells (each row's printed sentence says how): PackTakes: laid · PackCut: laid · PackPuts: laid · TermGrows: laid · TermBeginnings: laid.
  DERIVED. THE GIVEN ROWS OF THIS SEAT. 5 by the template 'for every input the law returns true; each argument reads behind the call as it read before'; 0 by the template 'total and deterministic' (their statements: YtafkahjfbiamlaaDoorTotals.lean).
  GIVEN WITH THE SEED: the statements are not yours to turn. If you find one false, say at which input.
  Laid BY PROGRAM, IN A SANDBOX (cutbox-rows.mjs): the forced cells as the released guide's own fill.sh prints them over the translation ccc4e1d48b344924… (all of the seat's roots in one cut). By AI agents, Wed Nov 11 2026. No macro, syntax, notation, axiom, sorry.
-/
import Derived.Test.YtafkahjfbiamlaaDoorChecked
import GoSem.Claim
import GoSem.ClaimJoined
import GoSem.ClaimMapViews
import Derived.JoinedTies
import Derived.KernelRfl
namespace Go.Proofs.YtafkahjfbiamlaaDoor
/- THE CELL 'sum', in the pinned program and in every row, IS THE sha256 OF THE DUMP (.gsa) THAT YtafkahjfbiamlaaDoorProg.lean LOADS. Nothing in Lean hashes anything: it is a label: what it is worth is what the hold of that sum in a sandbox is worth. -/
noncomputable def Tryd.pinned : Pinned := { name := "ytafkahjfbiamlaadoor", sum := "ccc4e1d48b34492446ae2566e4f8e36a1c3d9a4a2154287118e06b3aef7421dc", checked := Tryd.checked }
namespace Rows
def none {H : Type} : Left H := { results := [], args := [] }

/- WHAT THE LISTED PACKAGE-LEVEL VARIABLES READ AS WHEN THE CALL BEGINS. Each datum BY PROGRAM (the guide's laid-datum.mjs) off the statement by which the dump's own 'gosem.cut.vars' lays the variable. In a bare row this is a premise. The card (YtafkahjfbiamlaaDoorCards.lean) ties it to the program's text. -/
def laid_math_bits_deBruijn32tab {H : Type} : DataW H := .agg [.lit (.int .u8 0), .lit (.int .u8 1), .lit (.int .u8 28), .lit (.int .u8 2), .lit (.int .u8 29), .lit (.int .u8 14), .lit (.int .u8 24), .lit (.int .u8 3), .lit (.int .u8 30), .lit (.int .u8 22), .lit (.int .u8 20), .lit (.int .u8 15), .lit (.int .u8 25), .lit (.int .u8 17), .lit (.int .u8 4), .lit (.int .u8 8), .lit (.int .u8 31), .lit (.int .u8 27), .lit (.int .u8 13), .lit (.int .u8 23), .lit (.int .u8 21), .lit (.int .u8 19), .lit (.int .u8 16), .lit (.int .u8 7), .lit (.int .u8 26), .lit (.int .u8 12), .lit (.int .u8 18), .lit (.int .u8 6), .lit (.int .u8 11), .lit (.int .u8 5), .lit (.int .u8 10), .lit (.int .u8 9)]

/-- 'steelyardlaw04.PackTakes': WHATEVER THE INPUT: true; the input reads as it did. -/
def packTakesSpec : ChangeSpec := { name := "packTakes", fn := fun _ => fun
  | [d1, d2] => { results := [.lit (.bool true)], args := [d1, d2] }
  | _ => none }
def packTakesRow : OpenClaim := { program := "ytafkahjfbiamlaadoor", sum := "ccc4e1d48b34492446ae2566e4f8e36a1c3d9a4a2154287118e06b3aef7421dc", func := "steelyard/steelyardlaw04.PackTakes", spec := "packTakes", unfollowed := true, recurses := true, named := ["math/bits.deBruijn32tab"], apart := false, laid := [("math/bits.deBruijn32tab", laid_math_bits_deBruijn32tab)] }
def PackTakesSaid : Prop := packTakesRow.holds Tryd.pinned (OpenSpec.ofChange packTakesSpec)

/-- ITS FALSE NEIGHBOUR: 'it returns false'. Refute it at one input. -/
def packTakesWrong : ChangeSpec := { name := "packTakes", fn := fun _ => fun
  | [d1, d2] => { results := [.lit (.bool false)], args := [d1, d2] }
  | _ => none }
def PackTakesWrongFalsely : Prop := packTakesRow.holds Tryd.pinned (OpenSpec.ofChange packTakesWrong)

/-- 'steelyardlaw04.PackCut': WHATEVER THE INPUT: true; the input reads as it did. -/
def packCutSpec : ChangeSpec := { name := "packCut", fn := fun _ => fun
  | [d1, d2] => { results := [.lit (.bool true)], args := [d1, d2] }
  | _ => none }
def packCutRow : OpenClaim := { program := "ytafkahjfbiamlaadoor", sum := "ccc4e1d48b34492446ae2566e4f8e36a1c3d9a4a2154287118e06b3aef7421dc", func := "steelyard/steelyardlaw04.PackCut", spec := "packCut", unfollowed := true, recurses := true, named := ["math/bits.deBruijn32tab"], apart := false, laid := [("math/bits.deBruijn32tab", laid_math_bits_deBruijn32tab)] }
def PackCutSaid : Prop := packCutRow.holds Tryd.pinned (OpenSpec.ofChange packCutSpec)

/-- ITS FALSE NEIGHBOUR: 'it returns false'. Refute it at one input. -/
def packCutWrong : ChangeSpec := { name := "packCut", fn := fun _ => fun
  | [d1, d2] => { results := [.lit (.bool false)], args := [d1, d2] }
  | _ => none }
def PackCutWrongFalsely : Prop := packCutRow.holds Tryd.pinned (OpenSpec.ofChange packCutWrong)

/-- 'steelyardlaw04.PackPuts': WHATEVER THE INPUT: true; the input reads as it did. -/
def packPutsSpec : ChangeSpec := { name := "packPuts", fn := fun _ => fun
  | [d] => { results := [.lit (.bool true)], args := [d] }
  | _ => none }
def packPutsRow : OpenClaim := { program := "ytafkahjfbiamlaadoor", sum := "ccc4e1d48b34492446ae2566e4f8e36a1c3d9a4a2154287118e06b3aef7421dc", func := "steelyard/steelyardlaw04.PackPuts", spec := "packPuts", unfollowed := true, recurses := true, named := ["math/bits.deBruijn32tab"], apart := false, laid := [("math/bits.deBruijn32tab", laid_math_bits_deBruijn32tab)] }
def PackPutsSaid : Prop := packPutsRow.holds Tryd.pinned (OpenSpec.ofChange packPutsSpec)

/-- ITS FALSE NEIGHBOUR: 'it returns false'. Refute it at one input. -/
def packPutsWrong : ChangeSpec := { name := "packPuts", fn := fun _ => fun
  | [d] => { results := [.lit (.bool false)], args := [d] }
  | _ => none }
def PackPutsWrongFalsely : Prop := packPutsRow.holds Tryd.pinned (OpenSpec.ofChange packPutsWrong)

/-- 'steelyardlaw09.TermGrows': WHATEVER THE INPUT: true; the input reads as it did. -/
def termGrowsSpec : ChangeSpec := { name := "termGrows", fn := fun _ => fun
  | [d1, d2, d3] => { results := [.lit (.bool true)], args := [d1, d2, d3] }
  | _ => none }
def termGrowsRow : OpenClaim := { program := "ytafkahjfbiamlaadoor", sum := "ccc4e1d48b34492446ae2566e4f8e36a1c3d9a4a2154287118e06b3aef7421dc", func := "steelyard/steelyardlaw09.TermGrows", spec := "termGrows", unfollowed := true, recurses := true, named := ["math/bits.deBruijn32tab"], apart := false, laid := [("math/bits.deBruijn32tab", laid_math_bits_deBruijn32tab)] }
def TermGrowsSaid : Prop := termGrowsRow.holds Tryd.pinned (OpenSpec.ofChange termGrowsSpec)

/-- ITS FALSE NEIGHBOUR: 'it returns false'. Refute it at one input. -/
def termGrowsWrong : ChangeSpec := { name := "termGrows", fn := fun _ => fun
  | [d1, d2, d3] => { results := [.lit (.bool false)], args := [d1, d2, d3] }
  | _ => none }
def TermGrowsWrongFalsely : Prop := termGrowsRow.holds Tryd.pinned (OpenSpec.ofChange termGrowsWrong)

/-- 'steelyardlaw09.TermBeginnings': WHATEVER THE INPUT: true; the input reads as it did. -/
def termBeginningsSpec : ChangeSpec := { name := "termBeginnings", fn := fun _ => fun
  | [d1, d2, d3, d4] => { results := [.lit (.bool true)], args := [d1, d2, d3, d4] }
  | _ => none }
def termBeginningsRow : OpenClaim := { program := "ytafkahjfbiamlaadoor", sum := "ccc4e1d48b34492446ae2566e4f8e36a1c3d9a4a2154287118e06b3aef7421dc", func := "steelyard/steelyardlaw09.TermBeginnings", spec := "termBeginnings", unfollowed := true, recurses := true, named := ["math/bits.deBruijn32tab"], apart := false, laid := [("math/bits.deBruijn32tab", laid_math_bits_deBruijn32tab)] }
def TermBeginningsSaid : Prop := termBeginningsRow.holds Tryd.pinned (OpenSpec.ofChange termBeginningsSpec)

/-- ITS FALSE NEIGHBOUR: 'it returns false'. Refute it at one input. -/
def termBeginningsWrong : ChangeSpec := { name := "termBeginnings", fn := fun _ => fun
  | [d1, d2, d3, d4] => { results := [.lit (.bool false)], args := [d1, d2, d3, d4] }
  | _ => none }
def TermBeginningsWrongFalsely : Prop := termBeginningsRow.holds Tryd.pinned (OpenSpec.ofChange termBeginningsWrong)

/- THE SECOND FORM. 'bulk': how many values and letters a reading holds, each counted each time it is reached (what is shared counts as often as it is met; a slice's spare places count too). A statement '..UptoSaid' is the law's where the arguments, and the package variables that the reading takes, are together of bulk at most 1048576: NARROWER than '..Said'. Prove '..Said' where nothing that the law and all that it calls make is longer than what came in: it says more and counts as full. Else prove '..UptoSaid'. A law counts once. -/
mutual
def uptoBulk {H : Type} : DataW H → Nat
  | .lit (.string bytes) => bytes.length + 1
  | .lit _ => 1
  | .nil => 1
  | .ptr d => uptoBulk d + 1
  | .slice elems spare => uptoBulkAll elems + uptoBulkAll spare + 1
  | .agg parts => uptoBulkAll parts + 1
  | .iface _ d => uptoBulk d + 1
  | .map entries => uptoBulkEntries entries + 1
  | .held _ => 1
def uptoBulkAll {H : Type} : List (DataW H) → Nat
  | [] => 0
  | d :: r => uptoBulk d + uptoBulkAll r
def uptoBulkEntries {H : Type} : List (Lit × DataW H) → Nat
  | [] => 0
  | x :: r => uptoBulkEntry x + uptoBulkEntries r
def uptoBulkEntry {H : Type} : Lit × DataW H → Nat
  | (.string bytes, d) => bytes.length + uptoBulk d + 1
  | (_, d) => uptoBulk d + 1
 end
def uptoSmall : (H : Type) → List (DataW H) → Bool := fun _ ds => decide (uptoBulkAll ds ≤ 1048576)
def OpenSpec.upto (s : _root_.Go.ChangeSpec) : _root_.Go.OpenSpec := { _root_.Go.OpenSpec.ofChange s with cond := some uptoSmall }

/-- 'steelyardlaw04.PackTakes', WHERE WHAT IT READS IS OF BULK AT MOST 1048576: true; the input reads as it did. -/
def packTakesUptoRow : OpenClaim := { program := "ytafkahjfbiamlaadoor", sum := "ccc4e1d48b34492446ae2566e4f8e36a1c3d9a4a2154287118e06b3aef7421dc", func := "steelyard/steelyardlaw04.PackTakes", spec := "packTakes", unfollowed := true, recurses := true, named := ["math/bits.deBruijn32tab"], apart := false, laid := [("math/bits.deBruijn32tab", laid_math_bits_deBruijn32tab)], narrowed := true }
def PackTakesUptoSaid : Prop := packTakesUptoRow.holds Tryd.pinned (OpenSpec.upto packTakesSpec)

/-- 'steelyardlaw04.PackCut', WHERE WHAT IT READS IS OF BULK AT MOST 1048576: true; the input reads as it did. -/
def packCutUptoRow : OpenClaim := { program := "ytafkahjfbiamlaadoor", sum := "ccc4e1d48b34492446ae2566e4f8e36a1c3d9a4a2154287118e06b3aef7421dc", func := "steelyard/steelyardlaw04.PackCut", spec := "packCut", unfollowed := true, recurses := true, named := ["math/bits.deBruijn32tab"], apart := false, laid := [("math/bits.deBruijn32tab", laid_math_bits_deBruijn32tab)], narrowed := true }
def PackCutUptoSaid : Prop := packCutUptoRow.holds Tryd.pinned (OpenSpec.upto packCutSpec)

/-- 'steelyardlaw04.PackPuts', WHERE WHAT IT READS IS OF BULK AT MOST 1048576: true; the input reads as it did. -/
def packPutsUptoRow : OpenClaim := { program := "ytafkahjfbiamlaadoor", sum := "ccc4e1d48b34492446ae2566e4f8e36a1c3d9a4a2154287118e06b3aef7421dc", func := "steelyard/steelyardlaw04.PackPuts", spec := "packPuts", unfollowed := true, recurses := true, named := ["math/bits.deBruijn32tab"], apart := false, laid := [("math/bits.deBruijn32tab", laid_math_bits_deBruijn32tab)], narrowed := true }
def PackPutsUptoSaid : Prop := packPutsUptoRow.holds Tryd.pinned (OpenSpec.upto packPutsSpec)

/-- 'steelyardlaw09.TermGrows', WHERE WHAT IT READS IS OF BULK AT MOST 1048576: true; the input reads as it did. -/
def termGrowsUptoRow : OpenClaim := { program := "ytafkahjfbiamlaadoor", sum := "ccc4e1d48b34492446ae2566e4f8e36a1c3d9a4a2154287118e06b3aef7421dc", func := "steelyard/steelyardlaw09.TermGrows", spec := "termGrows", unfollowed := true, recurses := true, named := ["math/bits.deBruijn32tab"], apart := false, laid := [("math/bits.deBruijn32tab", laid_math_bits_deBruijn32tab)], narrowed := true }
def TermGrowsUptoSaid : Prop := termGrowsUptoRow.holds Tryd.pinned (OpenSpec.upto termGrowsSpec)

/-- 'steelyardlaw09.TermBeginnings', WHERE WHAT IT READS IS OF BULK AT MOST 1048576: true; the input reads as it did. -/
def termBeginningsUptoRow : OpenClaim := { program := "ytafkahjfbiamlaadoor", sum := "ccc4e1d48b34492446ae2566e4f8e36a1c3d9a4a2154287118e06b3aef7421dc", func := "steelyard/steelyardlaw09.TermBeginnings", spec := "termBeginnings", unfollowed := true, recurses := true, named := ["math/bits.deBruijn32tab"], apart := false, laid := [("math/bits.deBruijn32tab", laid_math_bits_deBruijn32tab)], narrowed := true }
def TermBeginningsUptoSaid : Prop := termBeginningsUptoRow.holds Tryd.pinned (OpenSpec.upto termBeginningsSpec)

end Rows
end Go.Proofs.YtafkahjfbiamlaaDoor
