/-
  No cell of these rows narrows 'for every input' (looked for: loops, veiled, ifaces, maps, wideKeys, modest, calm, conditions, laid).
  DERIVED. THE GIVEN ROWS OF THIS SEAT. 14 by the template 'for every input the law returns true; each argument reads behind the call as it read before'; 0 by the template 'total and deterministic' (their statements: YtnncnbplnapodaaRRRTotals.lean).
  GIVEN WITH THE SEED: the statements are not yours to turn. If you find one false, say at which input.
  Laid BY PROGRAM, IN A SANDBOX (cutbox-rows.mjs): the forced cells as the released guide's own fill.sh prints them over the translation a20eaa44c9e67ad4… (all of the seat's roots in one cut). By AI agents, Wed Nov 11 2026. No macro, syntax, notation, axiom, sorry.
-/
import Derived.Test.YtnncnbplnapodaaRRRChecked
import GoSem.Claim
import GoSem.ClaimJoined
import GoSem.ClaimMapViews
import Derived.JoinedTies
import Derived.KernelRfl
namespace Go.Proofs.YtnncnbplnapodaaRRR
/- THE CELL 'sum', in the pinned program and in every row, IS THE sha256 OF THE DUMP (.gsa) THAT YtnncnbplnapodaaRRRProg.lean LOADS. Nothing in Lean hashes anything: it is a label: what it is worth is what the hold of that sum in a sandbox is worth. -/
noncomputable def Try.pinned : Pinned := { name := "ytnncnbplnapodaarrr", sum := "a20eaa44c9e67ad4e062c7ad4c0fd239504bcf28a48b1e25743c84e4ec155137", checked := Try.checked }
namespace Rows
def none {H : Type} : Left H := { results := [], args := [] }

/-- 'sandglasslaw01.LimbsSums': WHATEVER THE INPUT: true; the input reads as it did. -/
def limbsSumsSpec : ChangeSpec := { name := "limbsSums", fn := fun _ => fun
  | [d1, d2] => { results := [.lit (.bool true)], args := [d1, d2] }
  | _ => none }
def limbsSumsRow : OpenClaim := { program := "ytnncnbplnapodaarrr", sum := "a20eaa44c9e67ad4e062c7ad4c0fd239504bcf28a48b1e25743c84e4ec155137", func := "sandglass/sandglasslaw01.LimbsSums", spec := "limbsSums", inPlace := ["math/bits.Add64", "math/bits.Sub64"], apart := false }
def LimbsSumsSaid : Prop := limbsSumsRow.holds Try.pinned (OpenSpec.ofChange limbsSumsSpec)

/-- ITS FALSE NEIGHBOUR: 'it returns false'. Refute it at one input. -/
def limbsSumsWrong : ChangeSpec := { name := "limbsSums", fn := fun _ => fun
  | [d1, d2] => { results := [.lit (.bool false)], args := [d1, d2] }
  | _ => none }
def LimbsSumsWrongFalsely : Prop := limbsSumsRow.holds Try.pinned (OpenSpec.ofChange limbsSumsWrong)

/-- 'sandglasslaw01.LimbsProducts': WHATEVER THE INPUT: true; the input reads as it did. -/
def limbsProductsSpec : ChangeSpec := { name := "limbsProducts", fn := fun _ => fun
  | [d1, d2] => { results := [.lit (.bool true)], args := [d1, d2] }
  | _ => none }
def limbsProductsRow : OpenClaim := { program := "ytnncnbplnapodaarrr", sum := "a20eaa44c9e67ad4e062c7ad4c0fd239504bcf28a48b1e25743c84e4ec155137", func := "sandglass/sandglasslaw01.LimbsProducts", spec := "limbsProducts", inPlace := ["math/bits.Add64", "math/bits.Sub64"], apart := false }
def LimbsProductsSaid : Prop := limbsProductsRow.holds Try.pinned (OpenSpec.ofChange limbsProductsSpec)

/-- ITS FALSE NEIGHBOUR: 'it returns false'. Refute it at one input. -/
def limbsProductsWrong : ChangeSpec := { name := "limbsProducts", fn := fun _ => fun
  | [d1, d2] => { results := [.lit (.bool false)], args := [d1, d2] }
  | _ => none }
def LimbsProductsWrongFalsely : Prop := limbsProductsRow.holds Try.pinned (OpenSpec.ofChange limbsProductsWrong)

/-- 'sandglasslaw01.LimbsBytes': WHATEVER THE INPUT: true; the input reads as it did. -/
def limbsBytesSpec : ChangeSpec := { name := "limbsBytes", fn := fun _ => fun
  | [d1, d2, d3] => { results := [.lit (.bool true)], args := [d1, d2, d3] }
  | _ => none }
def limbsBytesRow : OpenClaim := { program := "ytnncnbplnapodaarrr", sum := "a20eaa44c9e67ad4e062c7ad4c0fd239504bcf28a48b1e25743c84e4ec155137", func := "sandglass/sandglasslaw01.LimbsBytes", spec := "limbsBytes", inPlace := ["math/bits.Add64", "math/bits.Sub64"], apart := false }
def LimbsBytesSaid : Prop := limbsBytesRow.holds Try.pinned (OpenSpec.ofChange limbsBytesSpec)

/-- ITS FALSE NEIGHBOUR: 'it returns false'. Refute it at one input. -/
def limbsBytesWrong : ChangeSpec := { name := "limbsBytes", fn := fun _ => fun
  | [d1, d2, d3] => { results := [.lit (.bool false)], args := [d1, d2, d3] }
  | _ => none }
def LimbsBytesWrongFalsely : Prop := limbsBytesRow.holds Try.pinned (OpenSpec.ofChange limbsBytesWrong)

/-- 'sandglasslaw01.LimbsBack': WHATEVER THE INPUT: true; the input reads as it did. -/
def limbsBackSpec : ChangeSpec := { name := "limbsBack", fn := fun _ => fun
  | [d1, d2] => { results := [.lit (.bool true)], args := [d1, d2] }
  | _ => none }
def limbsBackRow : OpenClaim := { program := "ytnncnbplnapodaarrr", sum := "a20eaa44c9e67ad4e062c7ad4c0fd239504bcf28a48b1e25743c84e4ec155137", func := "sandglass/sandglasslaw01.LimbsBack", spec := "limbsBack", inPlace := ["math/bits.Add64", "math/bits.Sub64"], apart := false }
def LimbsBackSaid : Prop := limbsBackRow.holds Try.pinned (OpenSpec.ofChange limbsBackSpec)

/-- ITS FALSE NEIGHBOUR: 'it returns false'. Refute it at one input. -/
def limbsBackWrong : ChangeSpec := { name := "limbsBack", fn := fun _ => fun
  | [d1, d2] => { results := [.lit (.bool false)], args := [d1, d2] }
  | _ => none }
def LimbsBackWrongFalsely : Prop := limbsBackRow.holds Try.pinned (OpenSpec.ofChange limbsBackWrong)

/-- 'sandglasslaw01.LimbsParts': WHATEVER THE INPUT: true; the input reads as it did. -/
def limbsPartsSpec : ChangeSpec := { name := "limbsParts", fn := fun _ => fun
  | [d1, d2, d3] => { results := [.lit (.bool true)], args := [d1, d2, d3] }
  | _ => none }
def limbsPartsRow : OpenClaim := { program := "ytnncnbplnapodaarrr", sum := "a20eaa44c9e67ad4e062c7ad4c0fd239504bcf28a48b1e25743c84e4ec155137", func := "sandglass/sandglasslaw01.LimbsParts", spec := "limbsParts", inPlace := ["math/bits.Add64", "math/bits.Sub64"], apart := false }
def LimbsPartsSaid : Prop := limbsPartsRow.holds Try.pinned (OpenSpec.ofChange limbsPartsSpec)

/-- ITS FALSE NEIGHBOUR: 'it returns false'. Refute it at one input. -/
def limbsPartsWrong : ChangeSpec := { name := "limbsParts", fn := fun _ => fun
  | [d1, d2, d3] => { results := [.lit (.bool false)], args := [d1, d2, d3] }
  | _ => none }
def LimbsPartsWrongFalsely : Prop := limbsPartsRow.holds Try.pinned (OpenSpec.ofChange limbsPartsWrong)

/-- 'sandglasslaw03.ScalarProducts': WHATEVER THE INPUT: true; the input reads as it did. -/
def scalarProductsSpec : ChangeSpec := { name := "scalarProducts", fn := fun _ => fun
  | [d1, d2] => { results := [.lit (.bool true)], args := [d1, d2] }
  | _ => none }
def scalarProductsRow : OpenClaim := { program := "ytnncnbplnapodaarrr", sum := "a20eaa44c9e67ad4e062c7ad4c0fd239504bcf28a48b1e25743c84e4ec155137", func := "sandglass/sandglasslaw03.ScalarProducts", spec := "scalarProducts", inPlace := ["math/bits.Add64", "math/bits.Sub64"], apart := false }
def ScalarProductsSaid : Prop := scalarProductsRow.holds Try.pinned (OpenSpec.ofChange scalarProductsSpec)

/-- ITS FALSE NEIGHBOUR: 'it returns false'. Refute it at one input. -/
def scalarProductsWrong : ChangeSpec := { name := "scalarProducts", fn := fun _ => fun
  | [d1, d2] => { results := [.lit (.bool false)], args := [d1, d2] }
  | _ => none }
def ScalarProductsWrongFalsely : Prop := scalarProductsRow.holds Try.pinned (OpenSpec.ofChange scalarProductsWrong)

/-- 'sandglasslaw03.ScalarInverses': WHATEVER THE INPUT: true; the input reads as it did. -/
def scalarInversesSpec : ChangeSpec := { name := "scalarInverses", fn := fun _ => fun
  | [d] => { results := [.lit (.bool true)], args := [d] }
  | _ => none }
def scalarInversesRow : OpenClaim := { program := "ytnncnbplnapodaarrr", sum := "a20eaa44c9e67ad4e062c7ad4c0fd239504bcf28a48b1e25743c84e4ec155137", func := "sandglass/sandglasslaw03.ScalarInverses", spec := "scalarInverses", inPlace := ["math/bits.Sub64", "math/bits.Add64"], apart := false }
def ScalarInversesSaid : Prop := scalarInversesRow.holds Try.pinned (OpenSpec.ofChange scalarInversesSpec)

/-- ITS FALSE NEIGHBOUR: 'it returns false'. Refute it at one input. -/
def scalarInversesWrong : ChangeSpec := { name := "scalarInverses", fn := fun _ => fun
  | [d] => { results := [.lit (.bool false)], args := [d] }
  | _ => none }
def ScalarInversesWrongFalsely : Prop := scalarInversesRow.holds Try.pinned (OpenSpec.ofChange scalarInversesWrong)

/-- 'sandglasslaw03.ScalarWides': WHATEVER THE INPUT: true; the input reads as it did. -/
def scalarWidesSpec : ChangeSpec := { name := "scalarWides", fn := fun _ => fun
  | [d] => { results := [.lit (.bool true)], args := [d] }
  | _ => none }
def scalarWidesRow : OpenClaim := { program := "ytnncnbplnapodaarrr", sum := "a20eaa44c9e67ad4e062c7ad4c0fd239504bcf28a48b1e25743c84e4ec155137", func := "sandglass/sandglasslaw03.ScalarWides", spec := "scalarWides", inPlace := ["math/bits.Add64", "math/bits.Sub64"], apart := false }
def ScalarWidesSaid : Prop := scalarWidesRow.holds Try.pinned (OpenSpec.ofChange scalarWidesSpec)

/-- ITS FALSE NEIGHBOUR: 'it returns false'. Refute it at one input. -/
def scalarWidesWrong : ChangeSpec := { name := "scalarWides", fn := fun _ => fun
  | [d] => { results := [.lit (.bool false)], args := [d] }
  | _ => none }
def ScalarWidesWrongFalsely : Prop := scalarWidesRow.holds Try.pinned (OpenSpec.ofChange scalarWidesWrong)

/-- 'sandglasslaw03.ScalarHalves': WHATEVER THE INPUT: true; the input reads as it did. -/
def scalarHalvesSpec : ChangeSpec := { name := "scalarHalves", fn := fun _ => fun
  | [d1, d2] => { results := [.lit (.bool true)], args := [d1, d2] }
  | _ => none }
def scalarHalvesRow : OpenClaim := { program := "ytnncnbplnapodaarrr", sum := "a20eaa44c9e67ad4e062c7ad4c0fd239504bcf28a48b1e25743c84e4ec155137", func := "sandglass/sandglasslaw03.ScalarHalves", spec := "scalarHalves", inPlace := ["math/bits.Add64", "math/bits.Sub64"], apart := false }
def ScalarHalvesSaid : Prop := scalarHalvesRow.holds Try.pinned (OpenSpec.ofChange scalarHalvesSpec)

/-- ITS FALSE NEIGHBOUR: 'it returns false'. Refute it at one input. -/
def scalarHalvesWrong : ChangeSpec := { name := "scalarHalves", fn := fun _ => fun
  | [d1, d2] => { results := [.lit (.bool false)], args := [d1, d2] }
  | _ => none }
def ScalarHalvesWrongFalsely : Prop := scalarHalvesRow.holds Try.pinned (OpenSpec.ofChange scalarHalvesWrong)

/-- 'sandglasslaw03.ScalarSums': WHATEVER THE INPUT: true; the input reads as it did. -/
def scalarSumsSpec : ChangeSpec := { name := "scalarSums", fn := fun _ => fun
  | [d1, d2] => { results := [.lit (.bool true)], args := [d1, d2] }
  | _ => none }
def scalarSumsRow : OpenClaim := { program := "ytnncnbplnapodaarrr", sum := "a20eaa44c9e67ad4e062c7ad4c0fd239504bcf28a48b1e25743c84e4ec155137", func := "sandglass/sandglasslaw03.ScalarSums", spec := "scalarSums", inPlace := ["math/bits.Sub64", "math/bits.Add64"], apart := false }
def ScalarSumsSaid : Prop := scalarSumsRow.holds Try.pinned (OpenSpec.ofChange scalarSumsSpec)

/-- ITS FALSE NEIGHBOUR: 'it returns false'. Refute it at one input. -/
def scalarSumsWrong : ChangeSpec := { name := "scalarSums", fn := fun _ => fun
  | [d1, d2] => { results := [.lit (.bool false)], args := [d1, d2] }
  | _ => none }
def ScalarSumsWrongFalsely : Prop := scalarSumsRow.holds Try.pinned (OpenSpec.ofChange scalarSumsWrong)

/-- 'sandglasslaw03.ScalarRing': WHATEVER THE INPUT: true; the input reads as it did. -/
def scalarRingSpec : ChangeSpec := { name := "scalarRing", fn := fun _ => fun
  | [d1, d2, d3] => { results := [.lit (.bool true)], args := [d1, d2, d3] }
  | _ => none }
def scalarRingRow : OpenClaim := { program := "ytnncnbplnapodaarrr", sum := "a20eaa44c9e67ad4e062c7ad4c0fd239504bcf28a48b1e25743c84e4ec155137", func := "sandglass/sandglasslaw03.ScalarRing", spec := "scalarRing", inPlace := ["math/bits.Sub64", "math/bits.Add64"], apart := false }
def ScalarRingSaid : Prop := scalarRingRow.holds Try.pinned (OpenSpec.ofChange scalarRingSpec)

/-- ITS FALSE NEIGHBOUR: 'it returns false'. Refute it at one input. -/
def scalarRingWrong : ChangeSpec := { name := "scalarRing", fn := fun _ => fun
  | [d1, d2, d3] => { results := [.lit (.bool false)], args := [d1, d2, d3] }
  | _ => none }
def ScalarRingWrongFalsely : Prop := scalarRingRow.holds Try.pinned (OpenSpec.ofChange scalarRingWrong)

/-- 'sandglasslaw02.FieldSums': WHATEVER THE INPUT: true; the input reads as it did. -/
def fieldSumsSpec : ChangeSpec := { name := "fieldSums", fn := fun _ => fun
  | [d1, d2] => { results := [.lit (.bool true)], args := [d1, d2] }
  | _ => none }
def fieldSumsRow : OpenClaim := { program := "ytnncnbplnapodaarrr", sum := "a20eaa44c9e67ad4e062c7ad4c0fd239504bcf28a48b1e25743c84e4ec155137", func := "sandglass/sandglasslaw02.FieldSums", spec := "fieldSums", inPlace := ["math/bits.Sub64", "math/bits.Add64"], apart := false }
def FieldSumsSaid : Prop := fieldSumsRow.holds Try.pinned (OpenSpec.ofChange fieldSumsSpec)

/-- ITS FALSE NEIGHBOUR: 'it returns false'. Refute it at one input. -/
def fieldSumsWrong : ChangeSpec := { name := "fieldSums", fn := fun _ => fun
  | [d1, d2] => { results := [.lit (.bool false)], args := [d1, d2] }
  | _ => none }
def FieldSumsWrongFalsely : Prop := fieldSumsRow.holds Try.pinned (OpenSpec.ofChange fieldSumsWrong)

/-- 'sandglasslaw02.FieldRing': WHATEVER THE INPUT: true; the input reads as it did. -/
def fieldRingSpec : ChangeSpec := { name := "fieldRing", fn := fun _ => fun
  | [d1, d2, d3] => { results := [.lit (.bool true)], args := [d1, d2, d3] }
  | _ => none }
def fieldRingRow : OpenClaim := { program := "ytnncnbplnapodaarrr", sum := "a20eaa44c9e67ad4e062c7ad4c0fd239504bcf28a48b1e25743c84e4ec155137", func := "sandglass/sandglasslaw02.FieldRing", spec := "fieldRing", inPlace := ["math/bits.Sub64", "math/bits.Add64"], apart := false }
def FieldRingSaid : Prop := fieldRingRow.holds Try.pinned (OpenSpec.ofChange fieldRingSpec)

/-- ITS FALSE NEIGHBOUR: 'it returns false'. Refute it at one input. -/
def fieldRingWrong : ChangeSpec := { name := "fieldRing", fn := fun _ => fun
  | [d1, d2, d3] => { results := [.lit (.bool false)], args := [d1, d2, d3] }
  | _ => none }
def FieldRingWrongFalsely : Prop := fieldRingRow.holds Try.pinned (OpenSpec.ofChange fieldRingWrong)

/-- 'sandglasslaw02.FieldSquares': WHATEVER THE INPUT: true; the input reads as it did. -/
def fieldSquaresSpec : ChangeSpec := { name := "fieldSquares", fn := fun _ => fun
  | [d] => { results := [.lit (.bool true)], args := [d] }
  | _ => none }
def fieldSquaresRow : OpenClaim := { program := "ytnncnbplnapodaarrr", sum := "a20eaa44c9e67ad4e062c7ad4c0fd239504bcf28a48b1e25743c84e4ec155137", func := "sandglass/sandglasslaw02.FieldSquares", spec := "fieldSquares", inPlace := ["math/bits.Add64", "math/bits.Sub64"], apart := false }
def FieldSquaresSaid : Prop := fieldSquaresRow.holds Try.pinned (OpenSpec.ofChange fieldSquaresSpec)

/-- ITS FALSE NEIGHBOUR: 'it returns false'. Refute it at one input. -/
def fieldSquaresWrong : ChangeSpec := { name := "fieldSquares", fn := fun _ => fun
  | [d] => { results := [.lit (.bool false)], args := [d] }
  | _ => none }
def FieldSquaresWrongFalsely : Prop := fieldSquaresRow.holds Try.pinned (OpenSpec.ofChange fieldSquaresWrong)

/- THE SECOND FORM. 'bulk': how many values and letters a reading holds, each counted each time it is reached (what is shared counts as often as it is met; a slice's spare places count too). A statement '..UptoSaid' is the law's where the arguments, and the package variables that the reading takes, are together of bulk at most 1048576: NARROWER than '..Said'. Prove '..Said' where nothing that the law and all that it calls make is longer than what came in: it says more and counts as full. Else prove '..UptoSaid'. A law counts once. -/
mutual
def uptoBulk {H : Type} : DataW H → Nat
  | .lit (.string bytes) => bytes.length + 1
  | .lit _ => 1
  | .nil => 1
  | .ptr d => uptoBulk d + 1
  | .slice elems spare => uptoBulkAll elems + uptoBulkAll spare + 1
  | .agg parts => uptoBulkAll parts + 1
  | .iface _ d => uptoBulk d + 1
  | .map entries => uptoBulkEntries entries + 1
  | .held _ => 1
def uptoBulkAll {H : Type} : List (DataW H) → Nat
  | [] => 0
  | d :: r => uptoBulk d + uptoBulkAll r
def uptoBulkEntries {H : Type} : List (Lit × DataW H) → Nat
  | [] => 0
  | x :: r => uptoBulkEntry x + uptoBulkEntries r
def uptoBulkEntry {H : Type} : Lit × DataW H → Nat
  | (.string bytes, d) => bytes.length + uptoBulk d + 1
  | (_, d) => uptoBulk d + 1
 end
def uptoSmall : (H : Type) → List (DataW H) → Bool := fun _ ds => decide (uptoBulkAll ds ≤ 1048576)
def OpenSpec.upto (s : _root_.Go.ChangeSpec) : _root_.Go.OpenSpec := { _root_.Go.OpenSpec.ofChange s with cond := some uptoSmall }

/-- 'sandglasslaw01.LimbsSums', WHERE WHAT IT READS IS OF BULK AT MOST 1048576: true; the input reads as it did. -/
def limbsSumsUptoRow : OpenClaim := { program := "ytnncnbplnapodaarrr", sum := "a20eaa44c9e67ad4e062c7ad4c0fd239504bcf28a48b1e25743c84e4ec155137", func := "sandglass/sandglasslaw01.LimbsSums", spec := "limbsSums", inPlace := ["math/bits.Add64", "math/bits.Sub64"], apart := false, narrowed := true }
def LimbsSumsUptoSaid : Prop := limbsSumsUptoRow.holds Try.pinned (OpenSpec.upto limbsSumsSpec)

/-- 'sandglasslaw01.LimbsProducts', WHERE WHAT IT READS IS OF BULK AT MOST 1048576: true; the input reads as it did. -/
def limbsProductsUptoRow : OpenClaim := { program := "ytnncnbplnapodaarrr", sum := "a20eaa44c9e67ad4e062c7ad4c0fd239504bcf28a48b1e25743c84e4ec155137", func := "sandglass/sandglasslaw01.LimbsProducts", spec := "limbsProducts", inPlace := ["math/bits.Add64", "math/bits.Sub64"], apart := false, narrowed := true }
def LimbsProductsUptoSaid : Prop := limbsProductsUptoRow.holds Try.pinned (OpenSpec.upto limbsProductsSpec)

/-- 'sandglasslaw01.LimbsBytes', WHERE WHAT IT READS IS OF BULK AT MOST 1048576: true; the input reads as it did. -/
def limbsBytesUptoRow : OpenClaim := { program := "ytnncnbplnapodaarrr", sum := "a20eaa44c9e67ad4e062c7ad4c0fd239504bcf28a48b1e25743c84e4ec155137", func := "sandglass/sandglasslaw01.LimbsBytes", spec := "limbsBytes", inPlace := ["math/bits.Add64", "math/bits.Sub64"], apart := false, narrowed := true }
def LimbsBytesUptoSaid : Prop := limbsBytesUptoRow.holds Try.pinned (OpenSpec.upto limbsBytesSpec)

/-- 'sandglasslaw01.LimbsBack', WHERE WHAT IT READS IS OF BULK AT MOST 1048576: true; the input reads as it did. -/
def limbsBackUptoRow : OpenClaim := { program := "ytnncnbplnapodaarrr", sum := "a20eaa44c9e67ad4e062c7ad4c0fd239504bcf28a48b1e25743c84e4ec155137", func := "sandglass/sandglasslaw01.LimbsBack", spec := "limbsBack", inPlace := ["math/bits.Add64", "math/bits.Sub64"], apart := false, narrowed := true }
def LimbsBackUptoSaid : Prop := limbsBackUptoRow.holds Try.pinned (OpenSpec.upto limbsBackSpec)

/-- 'sandglasslaw01.LimbsParts', WHERE WHAT IT READS IS OF BULK AT MOST 1048576: true; the input reads as it did. -/
def limbsPartsUptoRow : OpenClaim := { program := "ytnncnbplnapodaarrr", sum := "a20eaa44c9e67ad4e062c7ad4c0fd239504bcf28a48b1e25743c84e4ec155137", func := "sandglass/sandglasslaw01.LimbsParts", spec := "limbsParts", inPlace := ["math/bits.Add64", "math/bits.Sub64"], apart := false, narrowed := true }
def LimbsPartsUptoSaid : Prop := limbsPartsUptoRow.holds Try.pinned (OpenSpec.upto limbsPartsSpec)

/-- 'sandglasslaw03.ScalarProducts', WHERE WHAT IT READS IS OF BULK AT MOST 1048576: true; the input reads as it did. -/
def scalarProductsUptoRow : OpenClaim := { program := "ytnncnbplnapodaarrr", sum := "a20eaa44c9e67ad4e062c7ad4c0fd239504bcf28a48b1e25743c84e4ec155137", func := "sandglass/sandglasslaw03.ScalarProducts", spec := "scalarProducts", inPlace := ["math/bits.Add64", "math/bits.Sub64"], apart := false, narrowed := true }
def ScalarProductsUptoSaid : Prop := scalarProductsUptoRow.holds Try.pinned (OpenSpec.upto scalarProductsSpec)

/-- 'sandglasslaw03.ScalarInverses', WHERE WHAT IT READS IS OF BULK AT MOST 1048576: true; the input reads as it did. -/
def scalarInversesUptoRow : OpenClaim := { program := "ytnncnbplnapodaarrr", sum := "a20eaa44c9e67ad4e062c7ad4c0fd239504bcf28a48b1e25743c84e4ec155137", func := "sandglass/sandglasslaw03.ScalarInverses", spec := "scalarInverses", inPlace := ["math/bits.Sub64", "math/bits.Add64"], apart := false, narrowed := true }
def ScalarInversesUptoSaid : Prop := scalarInversesUptoRow.holds Try.pinned (OpenSpec.upto scalarInversesSpec)

/-- 'sandglasslaw03.ScalarWides', WHERE WHAT IT READS IS OF BULK AT MOST 1048576: true; the input reads as it did. -/
def scalarWidesUptoRow : OpenClaim := { program := "ytnncnbplnapodaarrr", sum := "a20eaa44c9e67ad4e062c7ad4c0fd239504bcf28a48b1e25743c84e4ec155137", func := "sandglass/sandglasslaw03.ScalarWides", spec := "scalarWides", inPlace := ["math/bits.Add64", "math/bits.Sub64"], apart := false, narrowed := true }
def ScalarWidesUptoSaid : Prop := scalarWidesUptoRow.holds Try.pinned (OpenSpec.upto scalarWidesSpec)

/-- 'sandglasslaw03.ScalarHalves', WHERE WHAT IT READS IS OF BULK AT MOST 1048576: true; the input reads as it did. -/
def scalarHalvesUptoRow : OpenClaim := { program := "ytnncnbplnapodaarrr", sum := "a20eaa44c9e67ad4e062c7ad4c0fd239504bcf28a48b1e25743c84e4ec155137", func := "sandglass/sandglasslaw03.ScalarHalves", spec := "scalarHalves", inPlace := ["math/bits.Add64", "math/bits.Sub64"], apart := false, narrowed := true }
def ScalarHalvesUptoSaid : Prop := scalarHalvesUptoRow.holds Try.pinned (OpenSpec.upto scalarHalvesSpec)

/-- 'sandglasslaw03.ScalarSums', WHERE WHAT IT READS IS OF BULK AT MOST 1048576: true; the input reads as it did. -/
def scalarSumsUptoRow : OpenClaim := { program := "ytnncnbplnapodaarrr", sum := "a20eaa44c9e67ad4e062c7ad4c0fd239504bcf28a48b1e25743c84e4ec155137", func := "sandglass/sandglasslaw03.ScalarSums", spec := "scalarSums", inPlace := ["math/bits.Sub64", "math/bits.Add64"], apart := false, narrowed := true }
def ScalarSumsUptoSaid : Prop := scalarSumsUptoRow.holds Try.pinned (OpenSpec.upto scalarSumsSpec)

/-- 'sandglasslaw03.ScalarRing', WHERE WHAT IT READS IS OF BULK AT MOST 1048576: true; the input reads as it did. -/
def scalarRingUptoRow : OpenClaim := { program := "ytnncnbplnapodaarrr", sum := "a20eaa44c9e67ad4e062c7ad4c0fd239504bcf28a48b1e25743c84e4ec155137", func := "sandglass/sandglasslaw03.ScalarRing", spec := "scalarRing", inPlace := ["math/bits.Sub64", "math/bits.Add64"], apart := false, narrowed := true }
def ScalarRingUptoSaid : Prop := scalarRingUptoRow.holds Try.pinned (OpenSpec.upto scalarRingSpec)

/-- 'sandglasslaw02.FieldSums', WHERE WHAT IT READS IS OF BULK AT MOST 1048576: true; the input reads as it did. -/
def fieldSumsUptoRow : OpenClaim := { program := "ytnncnbplnapodaarrr", sum := "a20eaa44c9e67ad4e062c7ad4c0fd239504bcf28a48b1e25743c84e4ec155137", func := "sandglass/sandglasslaw02.FieldSums", spec := "fieldSums", inPlace := ["math/bits.Sub64", "math/bits.Add64"], apart := false, narrowed := true }
def FieldSumsUptoSaid : Prop := fieldSumsUptoRow.holds Try.pinned (OpenSpec.upto fieldSumsSpec)

/-- 'sandglasslaw02.FieldRing', WHERE WHAT IT READS IS OF BULK AT MOST 1048576: true; the input reads as it did. -/
def fieldRingUptoRow : OpenClaim := { program := "ytnncnbplnapodaarrr", sum := "a20eaa44c9e67ad4e062c7ad4c0fd239504bcf28a48b1e25743c84e4ec155137", func := "sandglass/sandglasslaw02.FieldRing", spec := "fieldRing", inPlace := ["math/bits.Sub64", "math/bits.Add64"], apart := false, narrowed := true }
def FieldRingUptoSaid : Prop := fieldRingUptoRow.holds Try.pinned (OpenSpec.upto fieldRingSpec)

/-- 'sandglasslaw02.FieldSquares', WHERE WHAT IT READS IS OF BULK AT MOST 1048576: true; the input reads as it did. -/
def fieldSquaresUptoRow : OpenClaim := { program := "ytnncnbplnapodaarrr", sum := "a20eaa44c9e67ad4e062c7ad4c0fd239504bcf28a48b1e25743c84e4ec155137", func := "sandglass/sandglasslaw02.FieldSquares", spec := "fieldSquares", inPlace := ["math/bits.Add64", "math/bits.Sub64"], apart := false, narrowed := true }
def FieldSquaresUptoSaid : Prop := fieldSquaresUptoRow.holds Try.pinned (OpenSpec.upto fieldSquaresSpec)

end Rows
end Go.Proofs.YtnncnbplnapodaaRRR
