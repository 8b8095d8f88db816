/-
  No cell of these rows narrows 'for every input' (looked for: loops, veiled, ifaces, maps, wideKeys, modest, calm, conditions, laid).
  DERIVED. THE GIVEN ROWS OF THIS SEAT. 9 by the template 'for every input the law returns true; each argument reads behind the call as it read before'; 0 by the template 'total and deterministic' (their statements: YtnhobbdijdbbeaaTotals.lean).
  GIVEN WITH THE SEED: the statements are not yours to turn. If you find one false, say at which input.
  Laid BY PROGRAM, IN A SANDBOX (cutbox-rows.mjs): the forced cells as the released guide's own fill.sh prints them over the translation 04b7d3780a4fc296… (all of the seat's roots in one cut). By AI agents, Wed Nov 11 2026. No macro, syntax, notation, axiom, sorry.
-/
import Derived.Test.YtnhobbdijdbbeaaChecked
import GoSem.Claim
import GoSem.ClaimJoined
import GoSem.ClaimMapViews
import Derived.JoinedTies
import Derived.KernelRfl
namespace Go.Proofs.Ytnhobbdijdbbeaa
/- THE CELL 'sum', in the pinned program and in every row, IS THE sha256 OF THE DUMP (.gsa) THAT YtnhobbdijdbbeaaProg.lean LOADS. Nothing in Lean hashes anything: it is a label: what it is worth is what the hold of that sum in a sandbox is worth. -/
noncomputable def Try.pinned : Pinned := { name := "ytnhobbdijdbbeaa", sum := "04b7d3780a4fc2964ba632222688f9038796b1dc5075af23ca94240737b7e6d8", checked := Try.checked }
namespace Rows
def none {H : Type} : Left H := { results := [], args := [] }

/-- 'sandglasslaw13.ShamirEvals': WHATEVER THE INPUT: true; the input reads as it did. -/
def shamirEvalsSpec : ChangeSpec := { name := "shamirEvals", fn := fun _ => fun
  | [d1, d2, d3] => { results := [.lit (.bool true)], args := [d1, d2, d3] }
  | _ => none }
def shamirEvalsRow : OpenClaim := { program := "ytnhobbdijdbbeaa", sum := "04b7d3780a4fc2964ba632222688f9038796b1dc5075af23ca94240737b7e6d8", func := "sandglass/sandglasslaw13.ShamirEvals", spec := "shamirEvals", inPlace := ["math/bits.Add64", "math/bits.Sub64"], unfollowed := true, recurses := true, apart := false }
def ShamirEvalsSaid : Prop := shamirEvalsRow.holds Try.pinned (OpenSpec.ofChange shamirEvalsSpec)

/-- ITS FALSE NEIGHBOUR: 'it returns false'. Refute it at one input. -/
def shamirEvalsWrong : ChangeSpec := { name := "shamirEvals", fn := fun _ => fun
  | [d1, d2, d3] => { results := [.lit (.bool false)], args := [d1, d2, d3] }
  | _ => none }
def ShamirEvalsWrongFalsely : Prop := shamirEvalsRow.holds Try.pinned (OpenSpec.ofChange shamirEvalsWrong)

/-- 'sandglasslaw13.ShamirWeights': WHATEVER THE INPUT: true; the input reads as it did. -/
def shamirWeightsSpec : ChangeSpec := { name := "shamirWeights", fn := fun _ => fun
  | [d] => { results := [.lit (.bool true)], args := [d] }
  | _ => none }
def shamirWeightsRow : OpenClaim := { program := "ytnhobbdijdbbeaa", sum := "04b7d3780a4fc2964ba632222688f9038796b1dc5075af23ca94240737b7e6d8", func := "sandglass/sandglasslaw13.ShamirWeights", spec := "shamirWeights", inPlace := ["math/bits.Add64", "math/bits.Sub64"], unfollowed := true, recurses := true, apart := false }
def ShamirWeightsSaid : Prop := shamirWeightsRow.holds Try.pinned (OpenSpec.ofChange shamirWeightsSpec)

/-- ITS FALSE NEIGHBOUR: 'it returns false'. Refute it at one input. -/
def shamirWeightsWrong : ChangeSpec := { name := "shamirWeights", fn := fun _ => fun
  | [d] => { results := [.lit (.bool false)], args := [d] }
  | _ => none }
def ShamirWeightsWrongFalsely : Prop := shamirWeightsRow.holds Try.pinned (OpenSpec.ofChange shamirWeightsWrong)

/-- 'sandglasslaw13.ShamirJoins': WHATEVER THE INPUT: true; the input reads as it did. -/
def shamirJoinsSpec : ChangeSpec := { name := "shamirJoins", fn := fun _ => fun
  | [d] => { results := [.lit (.bool true)], args := [d] }
  | _ => none }
def shamirJoinsRow : OpenClaim := { program := "ytnhobbdijdbbeaa", sum := "04b7d3780a4fc2964ba632222688f9038796b1dc5075af23ca94240737b7e6d8", func := "sandglass/sandglasslaw13.ShamirJoins", spec := "shamirJoins", inPlace := ["math/bits.Add64", "math/bits.Sub64"], unfollowed := true, recurses := true, apart := false }
def ShamirJoinsSaid : Prop := shamirJoinsRow.holds Try.pinned (OpenSpec.ofChange shamirJoinsSpec)

/-- ITS FALSE NEIGHBOUR: 'it returns false'. Refute it at one input. -/
def shamirJoinsWrong : ChangeSpec := { name := "shamirJoins", fn := fun _ => fun
  | [d] => { results := [.lit (.bool false)], args := [d] }
  | _ => none }
def ShamirJoinsWrongFalsely : Prop := shamirJoinsRow.holds Try.pinned (OpenSpec.ofChange shamirJoinsWrong)

/-- 'sandglasslaw13.ShamirBack': WHATEVER THE INPUT: true; the input reads as it did. -/
def shamirBackSpec : ChangeSpec := { name := "shamirBack", fn := fun _ => fun
  | [d1, d2] => { results := [.lit (.bool true)], args := [d1, d2] }
  | _ => none }
def shamirBackRow : OpenClaim := { program := "ytnhobbdijdbbeaa", sum := "04b7d3780a4fc2964ba632222688f9038796b1dc5075af23ca94240737b7e6d8", func := "sandglass/sandglasslaw13.ShamirBack", spec := "shamirBack", inPlace := ["math/bits.Add64", "math/bits.Sub64"], unfollowed := true, recurses := true, apart := false }
def ShamirBackSaid : Prop := shamirBackRow.holds Try.pinned (OpenSpec.ofChange shamirBackSpec)

/-- ITS FALSE NEIGHBOUR: 'it returns false'. Refute it at one input. -/
def shamirBackWrong : ChangeSpec := { name := "shamirBack", fn := fun _ => fun
  | [d1, d2] => { results := [.lit (.bool false)], args := [d1, d2] }
  | _ => none }
def ShamirBackWrongFalsely : Prop := shamirBackRow.holds Try.pinned (OpenSpec.ofChange shamirBackWrong)

/-- 'sandglasslaw13.ShamirHides': WHATEVER THE INPUT: true; the input reads as it did. -/
def shamirHidesSpec : ChangeSpec := { name := "shamirHides", fn := fun _ => fun
  | [d1, d2] => { results := [.lit (.bool true)], args := [d1, d2] }
  | _ => none }
def shamirHidesRow : OpenClaim := { program := "ytnhobbdijdbbeaa", sum := "04b7d3780a4fc2964ba632222688f9038796b1dc5075af23ca94240737b7e6d8", func := "sandglass/sandglasslaw13.ShamirHides", spec := "shamirHides", inPlace := ["math/bits.Add64", "math/bits.Sub64"], unfollowed := true, recurses := true, apart := false }
def ShamirHidesSaid : Prop := shamirHidesRow.holds Try.pinned (OpenSpec.ofChange shamirHidesSpec)

/-- ITS FALSE NEIGHBOUR: 'it returns false'. Refute it at one input. -/
def shamirHidesWrong : ChangeSpec := { name := "shamirHides", fn := fun _ => fun
  | [d1, d2] => { results := [.lit (.bool false)], args := [d1, d2] }
  | _ => none }
def ShamirHidesWrongFalsely : Prop := shamirHidesRow.holds Try.pinned (OpenSpec.ofChange shamirHidesWrong)

/-- 'sandglasslaw48.EmitDone': WHATEVER THE INPUT: true; the input reads as it did. -/
def emitDoneSpec : ChangeSpec := { name := "emitDone", fn := fun _ => fun
  | [d1, d2, d3] => { results := [.lit (.bool true)], args := [d1, d2, d3] }
  | _ => none }
def emitDoneRow : OpenClaim := { program := "ytnhobbdijdbbeaa", sum := "04b7d3780a4fc2964ba632222688f9038796b1dc5075af23ca94240737b7e6d8", func := "sandglass/sandglasslaw48.EmitDone", spec := "emitDone", inPlace := ["slices.overlaps[*sandglass/emit.row]"], unfollowed := true, recurses := true, apart := false }
def EmitDoneSaid : Prop := emitDoneRow.holds Try.pinned (OpenSpec.ofChange emitDoneSpec)

/-- ITS FALSE NEIGHBOUR: 'it returns false'. Refute it at one input. -/
def emitDoneWrong : ChangeSpec := { name := "emitDone", fn := fun _ => fun
  | [d1, d2, d3] => { results := [.lit (.bool false)], args := [d1, d2, d3] }
  | _ => none }
def EmitDoneWrongFalsely : Prop := emitDoneRow.holds Try.pinned (OpenSpec.ofChange emitDoneWrong)

/-- 'sandglasslaw48.EmitAll': WHATEVER THE INPUT: true; the input reads as it did. -/
def emitAllSpec : ChangeSpec := { name := "emitAll", fn := fun _ => fun
  | [d1, d2, d3] => { results := [.lit (.bool true)], args := [d1, d2, d3] }
  | _ => none }
def emitAllRow : OpenClaim := { program := "ytnhobbdijdbbeaa", sum := "04b7d3780a4fc2964ba632222688f9038796b1dc5075af23ca94240737b7e6d8", func := "sandglass/sandglasslaw48.EmitAll", spec := "emitAll", inPlace := ["slices.overlaps[*sandglass/emit.row]"], unfollowed := true, recurses := true, apart := false }
def EmitAllSaid : Prop := emitAllRow.holds Try.pinned (OpenSpec.ofChange emitAllSpec)

/-- ITS FALSE NEIGHBOUR: 'it returns false'. Refute it at one input. -/
def emitAllWrong : ChangeSpec := { name := "emitAll", fn := fun _ => fun
  | [d1, d2, d3] => { results := [.lit (.bool false)], args := [d1, d2, d3] }
  | _ => none }
def EmitAllWrongFalsely : Prop := emitAllRow.holds Try.pinned (OpenSpec.ofChange emitAllWrong)

/-- 'sandglasslaw48.EmitCrash': WHATEVER THE INPUT: true; the input reads as it did. -/
def emitCrashSpec : ChangeSpec := { name := "emitCrash", fn := fun _ => fun
  | [d1, d2, d3] => { results := [.lit (.bool true)], args := [d1, d2, d3] }
  | _ => none }
def emitCrashRow : OpenClaim := { program := "ytnhobbdijdbbeaa", sum := "04b7d3780a4fc2964ba632222688f9038796b1dc5075af23ca94240737b7e6d8", func := "sandglass/sandglasslaw48.EmitCrash", spec := "emitCrash", inPlace := ["slices.overlaps[*sandglass/emit.row]"], unfollowed := true, recurses := true, apart := false }
def EmitCrashSaid : Prop := emitCrashRow.holds Try.pinned (OpenSpec.ofChange emitCrashSpec)

/-- ITS FALSE NEIGHBOUR: 'it returns false'. Refute it at one input. -/
def emitCrashWrong : ChangeSpec := { name := "emitCrash", fn := fun _ => fun
  | [d1, d2, d3] => { results := [.lit (.bool false)], args := [d1, d2, d3] }
  | _ => none }
def EmitCrashWrongFalsely : Prop := emitCrashRow.holds Try.pinned (OpenSpec.ofChange emitCrashWrong)

/-- 'sandglasslaw48.EmitNone': WHATEVER THE INPUT: true; the input reads as it did. -/
def emitNoneSpec : ChangeSpec := { name := "emitNone", fn := fun _ => fun
  | [d] => { results := [.lit (.bool true)], args := [d] }
  | _ => none }
def emitNoneRow : OpenClaim := { program := "ytnhobbdijdbbeaa", sum := "04b7d3780a4fc2964ba632222688f9038796b1dc5075af23ca94240737b7e6d8", func := "sandglass/sandglasslaw48.EmitNone", spec := "emitNone", inPlace := ["slices.overlaps[*sandglass/emit.row]"], unfollowed := true, recurses := true, apart := false }
def EmitNoneSaid : Prop := emitNoneRow.holds Try.pinned (OpenSpec.ofChange emitNoneSpec)

/-- ITS FALSE NEIGHBOUR: 'it returns false'. Refute it at one input. -/
def emitNoneWrong : ChangeSpec := { name := "emitNone", fn := fun _ => fun
  | [d] => { results := [.lit (.bool false)], args := [d] }
  | _ => none }
def EmitNoneWrongFalsely : Prop := emitNoneRow.holds Try.pinned (OpenSpec.ofChange emitNoneWrong)

/- THE SECOND FORM. 'bulk': how many values and letters a reading holds, each counted each time it is reached (what is shared counts as often as it is met; a slice's spare places count too). A statement '..UptoSaid' is the law's where the arguments, and the package variables that the reading takes, are together of bulk at most 1048576: NARROWER than '..Said'. Prove '..Said' where nothing that the law and all that it calls make is longer than what came in: it says more and counts as full. Else prove '..UptoSaid'. A law counts once. -/
mutual
def uptoBulk {H : Type} : DataW H → Nat
  | .lit (.string bytes) => bytes.length + 1
  | .lit _ => 1
  | .nil => 1
  | .ptr d => uptoBulk d + 1
  | .slice elems spare => uptoBulkAll elems + uptoBulkAll spare + 1
  | .agg parts => uptoBulkAll parts + 1
  | .iface _ d => uptoBulk d + 1
  | .map entries => uptoBulkEntries entries + 1
  | .held _ => 1
def uptoBulkAll {H : Type} : List (DataW H) → Nat
  | [] => 0
  | d :: r => uptoBulk d + uptoBulkAll r
def uptoBulkEntries {H : Type} : List (Lit × DataW H) → Nat
  | [] => 0
  | x :: r => uptoBulkEntry x + uptoBulkEntries r
def uptoBulkEntry {H : Type} : Lit × DataW H → Nat
  | (.string bytes, d) => bytes.length + uptoBulk d + 1
  | (_, d) => uptoBulk d + 1
 end
def uptoSmall : (H : Type) → List (DataW H) → Bool := fun _ ds => decide (uptoBulkAll ds ≤ 1048576)
def OpenSpec.upto (s : _root_.Go.ChangeSpec) : _root_.Go.OpenSpec := { _root_.Go.OpenSpec.ofChange s with cond := some uptoSmall }

/-- 'sandglasslaw13.ShamirEvals', WHERE WHAT IT READS IS OF BULK AT MOST 1048576: true; the input reads as it did. -/
def shamirEvalsUptoRow : OpenClaim := { program := "ytnhobbdijdbbeaa", sum := "04b7d3780a4fc2964ba632222688f9038796b1dc5075af23ca94240737b7e6d8", func := "sandglass/sandglasslaw13.ShamirEvals", spec := "shamirEvals", inPlace := ["math/bits.Add64", "math/bits.Sub64"], unfollowed := true, recurses := true, apart := false, narrowed := true }
def ShamirEvalsUptoSaid : Prop := shamirEvalsUptoRow.holds Try.pinned (OpenSpec.upto shamirEvalsSpec)

/-- 'sandglasslaw13.ShamirWeights', WHERE WHAT IT READS IS OF BULK AT MOST 1048576: true; the input reads as it did. -/
def shamirWeightsUptoRow : OpenClaim := { program := "ytnhobbdijdbbeaa", sum := "04b7d3780a4fc2964ba632222688f9038796b1dc5075af23ca94240737b7e6d8", func := "sandglass/sandglasslaw13.ShamirWeights", spec := "shamirWeights", inPlace := ["math/bits.Add64", "math/bits.Sub64"], unfollowed := true, recurses := true, apart := false, narrowed := true }
def ShamirWeightsUptoSaid : Prop := shamirWeightsUptoRow.holds Try.pinned (OpenSpec.upto shamirWeightsSpec)

/-- 'sandglasslaw13.ShamirJoins', WHERE WHAT IT READS IS OF BULK AT MOST 1048576: true; the input reads as it did. -/
def shamirJoinsUptoRow : OpenClaim := { program := "ytnhobbdijdbbeaa", sum := "04b7d3780a4fc2964ba632222688f9038796b1dc5075af23ca94240737b7e6d8", func := "sandglass/sandglasslaw13.ShamirJoins", spec := "shamirJoins", inPlace := ["math/bits.Add64", "math/bits.Sub64"], unfollowed := true, recurses := true, apart := false, narrowed := true }
def ShamirJoinsUptoSaid : Prop := shamirJoinsUptoRow.holds Try.pinned (OpenSpec.upto shamirJoinsSpec)

/-- 'sandglasslaw13.ShamirBack', WHERE WHAT IT READS IS OF BULK AT MOST 1048576: true; the input reads as it did. -/
def shamirBackUptoRow : OpenClaim := { program := "ytnhobbdijdbbeaa", sum := "04b7d3780a4fc2964ba632222688f9038796b1dc5075af23ca94240737b7e6d8", func := "sandglass/sandglasslaw13.ShamirBack", spec := "shamirBack", inPlace := ["math/bits.Add64", "math/bits.Sub64"], unfollowed := true, recurses := true, apart := false, narrowed := true }
def ShamirBackUptoSaid : Prop := shamirBackUptoRow.holds Try.pinned (OpenSpec.upto shamirBackSpec)

/-- 'sandglasslaw13.ShamirHides', WHERE WHAT IT READS IS OF BULK AT MOST 1048576: true; the input reads as it did. -/
def shamirHidesUptoRow : OpenClaim := { program := "ytnhobbdijdbbeaa", sum := "04b7d3780a4fc2964ba632222688f9038796b1dc5075af23ca94240737b7e6d8", func := "sandglass/sandglasslaw13.ShamirHides", spec := "shamirHides", inPlace := ["math/bits.Add64", "math/bits.Sub64"], unfollowed := true, recurses := true, apart := false, narrowed := true }
def ShamirHidesUptoSaid : Prop := shamirHidesUptoRow.holds Try.pinned (OpenSpec.upto shamirHidesSpec)

/-- 'sandglasslaw48.EmitDone', WHERE WHAT IT READS IS OF BULK AT MOST 1048576: true; the input reads as it did. -/
def emitDoneUptoRow : OpenClaim := { program := "ytnhobbdijdbbeaa", sum := "04b7d3780a4fc2964ba632222688f9038796b1dc5075af23ca94240737b7e6d8", func := "sandglass/sandglasslaw48.EmitDone", spec := "emitDone", inPlace := ["slices.overlaps[*sandglass/emit.row]"], unfollowed := true, recurses := true, apart := false, narrowed := true }
def EmitDoneUptoSaid : Prop := emitDoneUptoRow.holds Try.pinned (OpenSpec.upto emitDoneSpec)

/-- 'sandglasslaw48.EmitAll', WHERE WHAT IT READS IS OF BULK AT MOST 1048576: true; the input reads as it did. -/
def emitAllUptoRow : OpenClaim := { program := "ytnhobbdijdbbeaa", sum := "04b7d3780a4fc2964ba632222688f9038796b1dc5075af23ca94240737b7e6d8", func := "sandglass/sandglasslaw48.EmitAll", spec := "emitAll", inPlace := ["slices.overlaps[*sandglass/emit.row]"], unfollowed := true, recurses := true, apart := false, narrowed := true }
def EmitAllUptoSaid : Prop := emitAllUptoRow.holds Try.pinned (OpenSpec.upto emitAllSpec)

/-- 'sandglasslaw48.EmitCrash', WHERE WHAT IT READS IS OF BULK AT MOST 1048576: true; the input reads as it did. -/
def emitCrashUptoRow : OpenClaim := { program := "ytnhobbdijdbbeaa", sum := "04b7d3780a4fc2964ba632222688f9038796b1dc5075af23ca94240737b7e6d8", func := "sandglass/sandglasslaw48.EmitCrash", spec := "emitCrash", inPlace := ["slices.overlaps[*sandglass/emit.row]"], unfollowed := true, recurses := true, apart := false, narrowed := true }
def EmitCrashUptoSaid : Prop := emitCrashUptoRow.holds Try.pinned (OpenSpec.upto emitCrashSpec)

/-- 'sandglasslaw48.EmitNone', WHERE WHAT IT READS IS OF BULK AT MOST 1048576: true; the input reads as it did. -/
def emitNoneUptoRow : OpenClaim := { program := "ytnhobbdijdbbeaa", sum := "04b7d3780a4fc2964ba632222688f9038796b1dc5075af23ca94240737b7e6d8", func := "sandglass/sandglasslaw48.EmitNone", spec := "emitNone", inPlace := ["slices.overlaps[*sandglass/emit.row]"], unfollowed := true, recurses := true, apart := false, narrowed := true }
def EmitNoneUptoSaid : Prop := emitNoneUptoRow.holds Try.pinned (OpenSpec.upto emitNoneSpec)

end Rows
end Go.Proofs.Ytnhobbdijdbbeaa
