/-
  NARROWER THAN 'FOR EVERY INPUT', by the rows' own cells (each row's printed sentence says how): NatRules: laid · NatTold: laid · NatOver: laid · DeltaTold: laid · DeltaRules: laid · DeltaSmall: laid · RatioReads: laid · RatioMakes: laid · RatioOver: laid · RatioRules: laid.
  DERIVED. THE GIVEN ROWS OF THIS SEAT. 10 by the template 'for every input the law returns true; each argument reads behind the call as it read before'; 0 by the template 'total and deterministic' (their statements: YtdcdidecehbplaaDoorTotals.lean).
  GIVEN WITH THE SEED: the statements are not yours to turn. If you find one false, say at which input.
  Laid BY PROGRAM, IN A SANDBOX (cutbox-rows.mjs): the forced cells as the released guide's own fill.sh prints them over the translation 53241b7b28ed0531… (all of the seat's roots in one cut). By AI agents, Wed Nov 11 2026. No macro, syntax, notation, axiom, sorry.
-/
import Derived.Test.YtdcdidecehbplaaDoorChecked
import GoSem.Claim
import GoSem.ClaimJoined
import GoSem.ClaimMapViews
import Derived.JoinedTies
import Derived.KernelRfl
namespace Go.Proofs.YtdcdidecehbplaaDoor
/- THE CELL 'sum', in the pinned program and in every row, IS THE sha256 OF THE DUMP (.gsa) THAT YtdcdidecehbplaaDoorProg.lean LOADS. Nothing in Lean hashes anything: it is a label: what it is worth is what the hold of that sum in a sandbox is worth. -/
noncomputable def Tryd.pinned : Pinned := { name := "ytdcdidecehbplaadoor", sum := "53241b7b28ed05319d3df0a6e6c030a2a9d5264048300d160591a5e5525739ce", checked := Tryd.checked }
namespace Rows
def none {H : Type} : Left H := { results := [], args := [] }

/- WHAT THE LISTED PACKAGE-LEVEL VARIABLES READ AS WHEN THE CALL BEGINS. Each datum BY PROGRAM (the guide's laid-datum.mjs) off the statement by which the dump's own 'gosem.cut.vars' lays the variable. In a bare row this is a premise. The card (YtdcdidecehbplaaDoorCards.lean) ties it to the program's text. -/
def laid_math_bits_deBruijn32tab {H : Type} : DataW H := .agg [.lit (.int .u8 0), .lit (.int .u8 1), .lit (.int .u8 28), .lit (.int .u8 2), .lit (.int .u8 29), .lit (.int .u8 14), .lit (.int .u8 24), .lit (.int .u8 3), .lit (.int .u8 30), .lit (.int .u8 22), .lit (.int .u8 20), .lit (.int .u8 15), .lit (.int .u8 25), .lit (.int .u8 17), .lit (.int .u8 4), .lit (.int .u8 8), .lit (.int .u8 31), .lit (.int .u8 27), .lit (.int .u8 13), .lit (.int .u8 23), .lit (.int .u8 21), .lit (.int .u8 19), .lit (.int .u8 16), .lit (.int .u8 7), .lit (.int .u8 26), .lit (.int .u8 12), .lit (.int .u8 18), .lit (.int .u8 6), .lit (.int .u8 11), .lit (.int .u8 5), .lit (.int .u8 10), .lit (.int .u8 9)]

/-- 'steelyardlaw01.NatRules': WHATEVER THE INPUT: true; the input reads as it did. -/
def natRulesSpec : ChangeSpec := { name := "natRules", fn := fun _ => fun
  | [d1, d2, d3] => { results := [.lit (.bool true)], args := [d1, d2, d3] }
  | _ => none }
def natRulesRow : OpenClaim := { program := "ytdcdidecehbplaadoor", sum := "53241b7b28ed05319d3df0a6e6c030a2a9d5264048300d160591a5e5525739ce", func := "steelyard/steelyardlaw01.NatRules", spec := "natRules", unfollowed := true, recurses := true, named := ["math/bits.deBruijn32tab"], apart := false, laid := [("math/bits.deBruijn32tab", laid_math_bits_deBruijn32tab)] }
def NatRulesSaid : Prop := natRulesRow.holds Tryd.pinned (OpenSpec.ofChange natRulesSpec)

/-- ITS FALSE NEIGHBOUR: 'it returns false'. Refute it at one input. -/
def natRulesWrong : ChangeSpec := { name := "natRules", fn := fun _ => fun
  | [d1, d2, d3] => { results := [.lit (.bool false)], args := [d1, d2, d3] }
  | _ => none }
def NatRulesWrongFalsely : Prop := natRulesRow.holds Tryd.pinned (OpenSpec.ofChange natRulesWrong)

/-- 'steelyardlaw01.NatTold': WHATEVER THE INPUT: true; the input reads as it did. -/
def natToldSpec : ChangeSpec := { name := "natTold", fn := fun _ => fun
  | [d1, d2, d3] => { results := [.lit (.bool true)], args := [d1, d2, d3] }
  | _ => none }
def natToldRow : OpenClaim := { program := "ytdcdidecehbplaadoor", sum := "53241b7b28ed05319d3df0a6e6c030a2a9d5264048300d160591a5e5525739ce", func := "steelyard/steelyardlaw01.NatTold", spec := "natTold", named := ["math/bits.deBruijn32tab"], apart := false, laid := [("math/bits.deBruijn32tab", laid_math_bits_deBruijn32tab)] }
def NatToldSaid : Prop := natToldRow.holds Tryd.pinned (OpenSpec.ofChange natToldSpec)

/-- ITS FALSE NEIGHBOUR: 'it returns false'. Refute it at one input. -/
def natToldWrong : ChangeSpec := { name := "natTold", fn := fun _ => fun
  | [d1, d2, d3] => { results := [.lit (.bool false)], args := [d1, d2, d3] }
  | _ => none }
def NatToldWrongFalsely : Prop := natToldRow.holds Tryd.pinned (OpenSpec.ofChange natToldWrong)

/-- 'steelyardlaw01.NatOver': WHATEVER THE INPUT: true; the input reads as it did. -/
def natOverSpec : ChangeSpec := { name := "natOver", fn := fun _ => fun
  | [d1, d2, d3] => { results := [.lit (.bool true)], args := [d1, d2, d3] }
  | _ => none }
def natOverRow : OpenClaim := { program := "ytdcdidecehbplaadoor", sum := "53241b7b28ed05319d3df0a6e6c030a2a9d5264048300d160591a5e5525739ce", func := "steelyard/steelyardlaw01.NatOver", spec := "natOver", named := ["math/bits.deBruijn32tab"], apart := false, laid := [("math/bits.deBruijn32tab", laid_math_bits_deBruijn32tab)] }
def NatOverSaid : Prop := natOverRow.holds Tryd.pinned (OpenSpec.ofChange natOverSpec)

/-- ITS FALSE NEIGHBOUR: 'it returns false'. Refute it at one input. -/
def natOverWrong : ChangeSpec := { name := "natOver", fn := fun _ => fun
  | [d1, d2, d3] => { results := [.lit (.bool false)], args := [d1, d2, d3] }
  | _ => none }
def NatOverWrongFalsely : Prop := natOverRow.holds Tryd.pinned (OpenSpec.ofChange natOverWrong)

/-- 'steelyardlaw03.DeltaTold': WHATEVER THE INPUT: true; the input reads as it did. -/
def deltaToldSpec : ChangeSpec := { name := "deltaTold", fn := fun _ => fun
  | [d1, d2, d3, d4] => { results := [.lit (.bool true)], args := [d1, d2, d3, d4] }
  | _ => none }
def deltaToldRow : OpenClaim := { program := "ytdcdidecehbplaadoor", sum := "53241b7b28ed05319d3df0a6e6c030a2a9d5264048300d160591a5e5525739ce", func := "steelyard/steelyardlaw03.DeltaTold", spec := "deltaTold", unfollowed := true, recurses := true, named := ["math/bits.deBruijn32tab"], apart := false, laid := [("math/bits.deBruijn32tab", laid_math_bits_deBruijn32tab)] }
def DeltaToldSaid : Prop := deltaToldRow.holds Tryd.pinned (OpenSpec.ofChange deltaToldSpec)

/-- ITS FALSE NEIGHBOUR: 'it returns false'. Refute it at one input. -/
def deltaToldWrong : ChangeSpec := { name := "deltaTold", fn := fun _ => fun
  | [d1, d2, d3, d4] => { results := [.lit (.bool false)], args := [d1, d2, d3, d4] }
  | _ => none }
def DeltaToldWrongFalsely : Prop := deltaToldRow.holds Tryd.pinned (OpenSpec.ofChange deltaToldWrong)

/-- 'steelyardlaw03.DeltaRules': WHATEVER THE INPUT: true; the input reads as it did. -/
def deltaRulesSpec : ChangeSpec := { name := "deltaRules", fn := fun _ => fun
  | [d1, d2, d3, d4] => { results := [.lit (.bool true)], args := [d1, d2, d3, d4] }
  | _ => none }
def deltaRulesRow : OpenClaim := { program := "ytdcdidecehbplaadoor", sum := "53241b7b28ed05319d3df0a6e6c030a2a9d5264048300d160591a5e5525739ce", func := "steelyard/steelyardlaw03.DeltaRules", spec := "deltaRules", unfollowed := true, recurses := true, named := ["math/bits.deBruijn32tab"], apart := false, laid := [("math/bits.deBruijn32tab", laid_math_bits_deBruijn32tab)] }
def DeltaRulesSaid : Prop := deltaRulesRow.holds Tryd.pinned (OpenSpec.ofChange deltaRulesSpec)

/-- ITS FALSE NEIGHBOUR: 'it returns false'. Refute it at one input. -/
def deltaRulesWrong : ChangeSpec := { name := "deltaRules", fn := fun _ => fun
  | [d1, d2, d3, d4] => { results := [.lit (.bool false)], args := [d1, d2, d3, d4] }
  | _ => none }
def DeltaRulesWrongFalsely : Prop := deltaRulesRow.holds Tryd.pinned (OpenSpec.ofChange deltaRulesWrong)

/-- 'steelyardlaw03.DeltaSmall': WHATEVER THE INPUT: true; the input reads as it did. -/
def deltaSmallSpec : ChangeSpec := { name := "deltaSmall", fn := fun _ => fun
  | [d1, d2] => { results := [.lit (.bool true)], args := [d1, d2] }
  | _ => none }
def deltaSmallRow : OpenClaim := { program := "ytdcdidecehbplaadoor", sum := "53241b7b28ed05319d3df0a6e6c030a2a9d5264048300d160591a5e5525739ce", func := "steelyard/steelyardlaw03.DeltaSmall", spec := "deltaSmall", unfollowed := true, recurses := true, named := ["math/bits.deBruijn32tab"], apart := false, laid := [("math/bits.deBruijn32tab", laid_math_bits_deBruijn32tab)] }
def DeltaSmallSaid : Prop := deltaSmallRow.holds Tryd.pinned (OpenSpec.ofChange deltaSmallSpec)

/-- ITS FALSE NEIGHBOUR: 'it returns false'. Refute it at one input. -/
def deltaSmallWrong : ChangeSpec := { name := "deltaSmall", fn := fun _ => fun
  | [d1, d2] => { results := [.lit (.bool false)], args := [d1, d2] }
  | _ => none }
def DeltaSmallWrongFalsely : Prop := deltaSmallRow.holds Tryd.pinned (OpenSpec.ofChange deltaSmallWrong)

/-- 'steelyardlaw02.RatioReads': WHATEVER THE INPUT: true; the input reads as it did. -/
def ratioReadsSpec : ChangeSpec := { name := "ratioReads", fn := fun _ => fun
  | [d1, d2] => { results := [.lit (.bool true)], args := [d1, d2] }
  | _ => none }
def ratioReadsRow : OpenClaim := { program := "ytdcdidecehbplaadoor", sum := "53241b7b28ed05319d3df0a6e6c030a2a9d5264048300d160591a5e5525739ce", func := "steelyard/steelyardlaw02.RatioReads", spec := "ratioReads", inPlace := ["internal/bytealg.IndexByteString", "internal/bytealg.IndexString", "internal/abi.NoEscape", "internal/bytealg.MakeNoZero"], named := ["internal/bytealg.MaxLen", "math/bits.deBruijn32tab"], apart := false, laid := [("math/bits.deBruijn32tab", laid_math_bits_deBruijn32tab)] }
def RatioReadsSaid : Prop := ratioReadsRow.holds Tryd.pinned (OpenSpec.ofChange ratioReadsSpec)

/-- ITS FALSE NEIGHBOUR: 'it returns false'. Refute it at one input. -/
def ratioReadsWrong : ChangeSpec := { name := "ratioReads", fn := fun _ => fun
  | [d1, d2] => { results := [.lit (.bool false)], args := [d1, d2] }
  | _ => none }
def RatioReadsWrongFalsely : Prop := ratioReadsRow.holds Tryd.pinned (OpenSpec.ofChange ratioReadsWrong)

/-- 'steelyardlaw02.RatioMakes': WHATEVER THE INPUT: true; the input reads as it did. -/
def ratioMakesSpec : ChangeSpec := { name := "ratioMakes", fn := fun _ => fun
  | [d1, d2, d3, d4, d5, d6] => { results := [.lit (.bool true)], args := [d1, d2, d3, d4, d5, d6] }
  | _ => none }
def ratioMakesRow : OpenClaim := { program := "ytdcdidecehbplaadoor", sum := "53241b7b28ed05319d3df0a6e6c030a2a9d5264048300d160591a5e5525739ce", func := "steelyard/steelyardlaw02.RatioMakes", spec := "ratioMakes", inPlace := ["internal/bytealg.IndexByteString", "internal/bytealg.IndexString", "internal/abi.NoEscape", "internal/bytealg.MakeNoZero"], unfollowed := true, recurses := true, named := ["internal/bytealg.MaxLen", "math/bits.deBruijn32tab"], apart := false, laid := [("math/bits.deBruijn32tab", laid_math_bits_deBruijn32tab)] }
def RatioMakesSaid : Prop := ratioMakesRow.holds Tryd.pinned (OpenSpec.ofChange ratioMakesSpec)

/-- ITS FALSE NEIGHBOUR: 'it returns false'. Refute it at one input. -/
def ratioMakesWrong : ChangeSpec := { name := "ratioMakes", fn := fun _ => fun
  | [d1, d2, d3, d4, d5, d6] => { results := [.lit (.bool false)], args := [d1, d2, d3, d4, d5, d6] }
  | _ => none }
def RatioMakesWrongFalsely : Prop := ratioMakesRow.holds Tryd.pinned (OpenSpec.ofChange ratioMakesWrong)

/-- 'steelyardlaw02.RatioOver': WHATEVER THE INPUT: true; the input reads as it did. -/
def ratioOverSpec : ChangeSpec := { name := "ratioOver", fn := fun _ => fun
  | [d1, d2, d3] => { results := [.lit (.bool true)], args := [d1, d2, d3] }
  | _ => none }
def ratioOverRow : OpenClaim := { program := "ytdcdidecehbplaadoor", sum := "53241b7b28ed05319d3df0a6e6c030a2a9d5264048300d160591a5e5525739ce", func := "steelyard/steelyardlaw02.RatioOver", spec := "ratioOver", inPlace := ["internal/bytealg.IndexByteString", "internal/bytealg.IndexString", "internal/abi.NoEscape", "internal/bytealg.MakeNoZero"], unfollowed := true, recurses := true, named := ["internal/bytealg.MaxLen", "math/bits.deBruijn32tab"], apart := false, laid := [("math/bits.deBruijn32tab", laid_math_bits_deBruijn32tab)] }
def RatioOverSaid : Prop := ratioOverRow.holds Tryd.pinned (OpenSpec.ofChange ratioOverSpec)

/-- ITS FALSE NEIGHBOUR: 'it returns false'. Refute it at one input. -/
def ratioOverWrong : ChangeSpec := { name := "ratioOver", fn := fun _ => fun
  | [d1, d2, d3] => { results := [.lit (.bool false)], args := [d1, d2, d3] }
  | _ => none }
def RatioOverWrongFalsely : Prop := ratioOverRow.holds Tryd.pinned (OpenSpec.ofChange ratioOverWrong)

/-- 'steelyardlaw02.RatioRules': WHATEVER THE INPUT: true; the input reads as it did. -/
def ratioRulesSpec : ChangeSpec := { name := "ratioRules", fn := fun _ => fun
  | [d1, d2, d3] => { results := [.lit (.bool true)], args := [d1, d2, d3] }
  | _ => none }
def ratioRulesRow : OpenClaim := { program := "ytdcdidecehbplaadoor", sum := "53241b7b28ed05319d3df0a6e6c030a2a9d5264048300d160591a5e5525739ce", func := "steelyard/steelyardlaw02.RatioRules", spec := "ratioRules", inPlace := ["internal/bytealg.IndexByteString", "internal/bytealg.IndexString", "internal/abi.NoEscape", "internal/bytealg.MakeNoZero"], unfollowed := true, recurses := true, named := ["internal/bytealg.MaxLen", "math/bits.deBruijn32tab"], apart := false, laid := [("math/bits.deBruijn32tab", laid_math_bits_deBruijn32tab)] }
def RatioRulesSaid : Prop := ratioRulesRow.holds Tryd.pinned (OpenSpec.ofChange ratioRulesSpec)

/-- ITS FALSE NEIGHBOUR: 'it returns false'. Refute it at one input. -/
def ratioRulesWrong : ChangeSpec := { name := "ratioRules", fn := fun _ => fun
  | [d1, d2, d3] => { results := [.lit (.bool false)], args := [d1, d2, d3] }
  | _ => none }
def RatioRulesWrongFalsely : Prop := ratioRulesRow.holds Tryd.pinned (OpenSpec.ofChange ratioRulesWrong)

/- THE SECOND FORM. 'bulk': how many values and letters a reading holds, each counted each time it is reached (what is shared counts as often as it is met; a slice's spare places count too). A statement '..UptoSaid' is the law's where the arguments, and the package variables that the reading takes, are together of bulk at most 1048576: NARROWER than '..Said'. Prove '..Said' where nothing that the law and all that it calls make is longer than what came in: it says more and counts as full. Else prove '..UptoSaid'. A law counts once. -/
mutual
def uptoBulk {H : Type} : DataW H → Nat
  | .lit (.string bytes) => bytes.length + 1
  | .lit _ => 1
  | .nil => 1
  | .ptr d => uptoBulk d + 1
  | .slice elems spare => uptoBulkAll elems + uptoBulkAll spare + 1
  | .agg parts => uptoBulkAll parts + 1
  | .iface _ d => uptoBulk d + 1
  | .map entries => uptoBulkEntries entries + 1
  | .held _ => 1
def uptoBulkAll {H : Type} : List (DataW H) → Nat
  | [] => 0
  | d :: r => uptoBulk d + uptoBulkAll r
def uptoBulkEntries {H : Type} : List (Lit × DataW H) → Nat
  | [] => 0
  | x :: r => uptoBulkEntry x + uptoBulkEntries r
def uptoBulkEntry {H : Type} : Lit × DataW H → Nat
  | (.string bytes, d) => bytes.length + uptoBulk d + 1
  | (_, d) => uptoBulk d + 1
 end
def uptoSmall : (H : Type) → List (DataW H) → Bool := fun _ ds => decide (uptoBulkAll ds ≤ 1048576)
def OpenSpec.upto (s : _root_.Go.ChangeSpec) : _root_.Go.OpenSpec := { _root_.Go.OpenSpec.ofChange s with cond := some uptoSmall }

/-- 'steelyardlaw01.NatRules', WHERE WHAT IT READS IS OF BULK AT MOST 1048576: true; the input reads as it did. -/
def natRulesUptoRow : OpenClaim := { program := "ytdcdidecehbplaadoor", sum := "53241b7b28ed05319d3df0a6e6c030a2a9d5264048300d160591a5e5525739ce", func := "steelyard/steelyardlaw01.NatRules", spec := "natRules", unfollowed := true, recurses := true, named := ["math/bits.deBruijn32tab"], apart := false, laid := [("math/bits.deBruijn32tab", laid_math_bits_deBruijn32tab)], narrowed := true }
def NatRulesUptoSaid : Prop := natRulesUptoRow.holds Tryd.pinned (OpenSpec.upto natRulesSpec)

/-- 'steelyardlaw01.NatTold', WHERE WHAT IT READS IS OF BULK AT MOST 1048576: true; the input reads as it did. -/
def natToldUptoRow : OpenClaim := { program := "ytdcdidecehbplaadoor", sum := "53241b7b28ed05319d3df0a6e6c030a2a9d5264048300d160591a5e5525739ce", func := "steelyard/steelyardlaw01.NatTold", spec := "natTold", named := ["math/bits.deBruijn32tab"], apart := false, laid := [("math/bits.deBruijn32tab", laid_math_bits_deBruijn32tab)], narrowed := true }
def NatToldUptoSaid : Prop := natToldUptoRow.holds Tryd.pinned (OpenSpec.upto natToldSpec)

/-- 'steelyardlaw01.NatOver', WHERE WHAT IT READS IS OF BULK AT MOST 1048576: true; the input reads as it did. -/
def natOverUptoRow : OpenClaim := { program := "ytdcdidecehbplaadoor", sum := "53241b7b28ed05319d3df0a6e6c030a2a9d5264048300d160591a5e5525739ce", func := "steelyard/steelyardlaw01.NatOver", spec := "natOver", named := ["math/bits.deBruijn32tab"], apart := false, laid := [("math/bits.deBruijn32tab", laid_math_bits_deBruijn32tab)], narrowed := true }
def NatOverUptoSaid : Prop := natOverUptoRow.holds Tryd.pinned (OpenSpec.upto natOverSpec)

/-- 'steelyardlaw03.DeltaTold', WHERE WHAT IT READS IS OF BULK AT MOST 1048576: true; the input reads as it did. -/
def deltaToldUptoRow : OpenClaim := { program := "ytdcdidecehbplaadoor", sum := "53241b7b28ed05319d3df0a6e6c030a2a9d5264048300d160591a5e5525739ce", func := "steelyard/steelyardlaw03.DeltaTold", spec := "deltaTold", unfollowed := true, recurses := true, named := ["math/bits.deBruijn32tab"], apart := false, laid := [("math/bits.deBruijn32tab", laid_math_bits_deBruijn32tab)], narrowed := true }
def DeltaToldUptoSaid : Prop := deltaToldUptoRow.holds Tryd.pinned (OpenSpec.upto deltaToldSpec)

/-- 'steelyardlaw03.DeltaRules', WHERE WHAT IT READS IS OF BULK AT MOST 1048576: true; the input reads as it did. -/
def deltaRulesUptoRow : OpenClaim := { program := "ytdcdidecehbplaadoor", sum := "53241b7b28ed05319d3df0a6e6c030a2a9d5264048300d160591a5e5525739ce", func := "steelyard/steelyardlaw03.DeltaRules", spec := "deltaRules", unfollowed := true, recurses := true, named := ["math/bits.deBruijn32tab"], apart := false, laid := [("math/bits.deBruijn32tab", laid_math_bits_deBruijn32tab)], narrowed := true }
def DeltaRulesUptoSaid : Prop := deltaRulesUptoRow.holds Tryd.pinned (OpenSpec.upto deltaRulesSpec)

/-- 'steelyardlaw03.DeltaSmall', WHERE WHAT IT READS IS OF BULK AT MOST 1048576: true; the input reads as it did. -/
def deltaSmallUptoRow : OpenClaim := { program := "ytdcdidecehbplaadoor", sum := "53241b7b28ed05319d3df0a6e6c030a2a9d5264048300d160591a5e5525739ce", func := "steelyard/steelyardlaw03.DeltaSmall", spec := "deltaSmall", unfollowed := true, recurses := true, named := ["math/bits.deBruijn32tab"], apart := false, laid := [("math/bits.deBruijn32tab", laid_math_bits_deBruijn32tab)], narrowed := true }
def DeltaSmallUptoSaid : Prop := deltaSmallUptoRow.holds Tryd.pinned (OpenSpec.upto deltaSmallSpec)

/-- 'steelyardlaw02.RatioReads', WHERE WHAT IT READS IS OF BULK AT MOST 1048576: true; the input reads as it did. -/
def ratioReadsUptoRow : OpenClaim := { program := "ytdcdidecehbplaadoor", sum := "53241b7b28ed05319d3df0a6e6c030a2a9d5264048300d160591a5e5525739ce", func := "steelyard/steelyardlaw02.RatioReads", spec := "ratioReads", inPlace := ["internal/bytealg.IndexByteString", "internal/bytealg.IndexString", "internal/abi.NoEscape", "internal/bytealg.MakeNoZero"], named := ["internal/bytealg.MaxLen", "math/bits.deBruijn32tab"], apart := false, laid := [("math/bits.deBruijn32tab", laid_math_bits_deBruijn32tab)], narrowed := true }
def RatioReadsUptoSaid : Prop := ratioReadsUptoRow.holds Tryd.pinned (OpenSpec.upto ratioReadsSpec)

/-- 'steelyardlaw02.RatioMakes', WHERE WHAT IT READS IS OF BULK AT MOST 1048576: true; the input reads as it did. -/
def ratioMakesUptoRow : OpenClaim := { program := "ytdcdidecehbplaadoor", sum := "53241b7b28ed05319d3df0a6e6c030a2a9d5264048300d160591a5e5525739ce", func := "steelyard/steelyardlaw02.RatioMakes", spec := "ratioMakes", inPlace := ["internal/bytealg.IndexByteString", "internal/bytealg.IndexString", "internal/abi.NoEscape", "internal/bytealg.MakeNoZero"], unfollowed := true, recurses := true, named := ["internal/bytealg.MaxLen", "math/bits.deBruijn32tab"], apart := false, laid := [("math/bits.deBruijn32tab", laid_math_bits_deBruijn32tab)], narrowed := true }
def RatioMakesUptoSaid : Prop := ratioMakesUptoRow.holds Tryd.pinned (OpenSpec.upto ratioMakesSpec)

/-- 'steelyardlaw02.RatioOver', WHERE WHAT IT READS IS OF BULK AT MOST 1048576: true; the input reads as it did. -/
def ratioOverUptoRow : OpenClaim := { program := "ytdcdidecehbplaadoor", sum := "53241b7b28ed05319d3df0a6e6c030a2a9d5264048300d160591a5e5525739ce", func := "steelyard/steelyardlaw02.RatioOver", spec := "ratioOver", inPlace := ["internal/bytealg.IndexByteString", "internal/bytealg.IndexString", "internal/abi.NoEscape", "internal/bytealg.MakeNoZero"], unfollowed := true, recurses := true, named := ["internal/bytealg.MaxLen", "math/bits.deBruijn32tab"], apart := false, laid := [("math/bits.deBruijn32tab", laid_math_bits_deBruijn32tab)], narrowed := true }
def RatioOverUptoSaid : Prop := ratioOverUptoRow.holds Tryd.pinned (OpenSpec.upto ratioOverSpec)

/-- 'steelyardlaw02.RatioRules', WHERE WHAT IT READS IS OF BULK AT MOST 1048576: true; the input reads as it did. -/
def ratioRulesUptoRow : OpenClaim := { program := "ytdcdidecehbplaadoor", sum := "53241b7b28ed05319d3df0a6e6c030a2a9d5264048300d160591a5e5525739ce", func := "steelyard/steelyardlaw02.RatioRules", spec := "ratioRules", inPlace := ["internal/bytealg.IndexByteString", "internal/bytealg.IndexString", "internal/abi.NoEscape", "internal/bytealg.MakeNoZero"], unfollowed := true, recurses := true, named := ["internal/bytealg.MaxLen", "math/bits.deBruijn32tab"], apart := false, laid := [("math/bits.deBruijn32tab", laid_math_bits_deBruijn32tab)], narrowed := true }
def RatioRulesUptoSaid : Prop := ratioRulesUptoRow.holds Tryd.pinned (OpenSpec.upto ratioRulesSpec)

end Rows
end Go.Proofs.YtdcdidecehbplaaDoor
