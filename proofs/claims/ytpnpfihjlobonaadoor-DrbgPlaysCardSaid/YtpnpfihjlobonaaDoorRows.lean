/-
  NARROWER THAN 'FOR EVERY INPUT', by the rows' own cells (each row's printed sentence says how): HmacMacs: laid · HmacExpands: laid · HmacZeros: laid · HmacShorter: laid · DrbgAlike: laid · DrbgScalars: laid · DrbgShorter: laid · DrbgPlays: laid · DrbgNone: laid.
  DERIVED. THE GIVEN ROWS OF THIS SEAT. 9 by the template 'for every input the law returns true; each argument reads behind the call as it read before'; 0 by the template 'total and deterministic' (their statements: YtpnpfihjlobonaaDoorTotals.lean).
  GIVEN WITH THE SEED: the statements are not yours to turn. If you find one false, say at which input.
  Laid BY PROGRAM, IN A SANDBOX (cutbox-rows.mjs): the forced cells as the released guide's own fill.sh prints them over the translation 42912deed426f571… (all of the seat's roots in one cut). By AI agents, Wed Nov 11 2026. No macro, syntax, notation, axiom, sorry.
-/
import Derived.Test.YtpnpfihjlobonaaDoorChecked
import GoSem.Claim
import GoSem.ClaimJoined
import GoSem.ClaimMapViews
import Derived.JoinedTies
import Derived.KernelRfl
namespace Go.Proofs.YtpnpfihjlobonaaDoor
/- THE CELL 'sum', in the pinned program and in every row, IS THE sha256 OF THE DUMP (.gsa) THAT YtpnpfihjlobonaaDoorProg.lean LOADS. Nothing in Lean hashes anything: it is a label: what it is worth is what the hold of that sum in a sandbox is worth. -/
noncomputable def Tryd.pinned : Pinned := { name := "ytpnpfihjlobonaadoor", sum := "42912deed426f57186abf2c5392d98641ce90e5fdd9049ae664d3398cb10d192", checked := Tryd.checked }
namespace Rows
def none {H : Type} : Left H := { results := [], args := [] }

/- WHAT THE LISTED PACKAGE-LEVEL VARIABLES READ AS WHEN THE CALL BEGINS. Each datum BY PROGRAM (the guide's laid-datum.mjs) off the statement by which the dump's own 'gosem.cut.vars' lays the variable. In a bare row this is a premise. The card (YtpnpfihjlobonaaDoorCards.lean) ties it to the program's text. -/
def laid_sandglass_sha_first {H : Type} : DataW H := .agg [.lit (.int .u32 1779033703), .lit (.int .u32 3144134277), .lit (.int .u32 1013904242), .lit (.int .u32 2773480762), .lit (.int .u32 1359893119), .lit (.int .u32 2600822924), .lit (.int .u32 528734635), .lit (.int .u32 1541459225)]
def laid_sandglass_sha_rounds {H : Type} : DataW H := .agg [.lit (.int .u32 1116352408), .lit (.int .u32 1899447441), .lit (.int .u32 3049323471), .lit (.int .u32 3921009573), .lit (.int .u32 961987163), .lit (.int .u32 1508970993), .lit (.int .u32 2453635748), .lit (.int .u32 2870763221), .lit (.int .u32 3624381080), .lit (.int .u32 310598401), .lit (.int .u32 607225278), .lit (.int .u32 1426881987), .lit (.int .u32 1925078388), .lit (.int .u32 2162078206), .lit (.int .u32 2614888103), .lit (.int .u32 3248222580), .lit (.int .u32 3835390401), .lit (.int .u32 4022224774), .lit (.int .u32 264347078), .lit (.int .u32 604807628), .lit (.int .u32 770255983), .lit (.int .u32 1249150122), .lit (.int .u32 1555081692), .lit (.int .u32 1996064986), .lit (.int .u32 2554220882), .lit (.int .u32 2821834349), .lit (.int .u32 2952996808), .lit (.int .u32 3210313671), .lit (.int .u32 3336571891), .lit (.int .u32 3584528711), .lit (.int .u32 113926993), .lit (.int .u32 338241895), .lit (.int .u32 666307205), .lit (.int .u32 773529912), .lit (.int .u32 1294757372), .lit (.int .u32 1396182291), .lit (.int .u32 1695183700), .lit (.int .u32 1986661051), .lit (.int .u32 2177026350), .lit (.int .u32 2456956037), .lit (.int .u32 2730485921), .lit (.int .u32 2820302411), .lit (.int .u32 3259730800), .lit (.int .u32 3345764771), .lit (.int .u32 3516065817), .lit (.int .u32 3600352804), .lit (.int .u32 4094571909), .lit (.int .u32 275423344), .lit (.int .u32 430227734), .lit (.int .u32 506948616), .lit (.int .u32 659060556), .lit (.int .u32 883997877), .lit (.int .u32 958139571), .lit (.int .u32 1322822218), .lit (.int .u32 1537002063), .lit (.int .u32 1747873779), .lit (.int .u32 1955562222), .lit (.int .u32 2024104815), .lit (.int .u32 2227730452), .lit (.int .u32 2361852424), .lit (.int .u32 2428436474), .lit (.int .u32 2756734187), .lit (.int .u32 3204031479), .lit (.int .u32 3329325298)]

/-- 'sandglasslaw08.HmacMacs': WHATEVER THE INPUT: true; the input reads as it did. -/
def hmacMacsSpec : ChangeSpec := { name := "hmacMacs", fn := fun _ => fun
  | [d1, d2] => { results := [.lit (.bool true)], args := [d1, d2] }
  | _ => none }
def hmacMacsRow : OpenClaim := { program := "ytpnpfihjlobonaadoor", sum := "42912deed426f57186abf2c5392d98641ce90e5fdd9049ae664d3398cb10d192", func := "sandglass/sandglasslaw08.HmacMacs", spec := "hmacMacs", named := ["sandglass/sha.first", "sandglass/sha.rounds"], apart := false, laid := [("sandglass/sha.first", laid_sandglass_sha_first), ("sandglass/sha.rounds", laid_sandglass_sha_rounds)] }
def HmacMacsSaid : Prop := hmacMacsRow.holds Tryd.pinned (OpenSpec.ofChange hmacMacsSpec)

/-- ITS FALSE NEIGHBOUR: 'it returns false'. Refute it at one input. -/
def hmacMacsWrong : ChangeSpec := { name := "hmacMacs", fn := fun _ => fun
  | [d1, d2] => { results := [.lit (.bool false)], args := [d1, d2] }
  | _ => none }
def HmacMacsWrongFalsely : Prop := hmacMacsRow.holds Tryd.pinned (OpenSpec.ofChange hmacMacsWrong)

/-- 'sandglasslaw08.HmacExpands': WHATEVER THE INPUT: true; the input reads as it did. -/
def hmacExpandsSpec : ChangeSpec := { name := "hmacExpands", fn := fun _ => fun
  | [d1, d2, d3] => { results := [.lit (.bool true)], args := [d1, d2, d3] }
  | _ => none }
def hmacExpandsRow : OpenClaim := { program := "ytpnpfihjlobonaadoor", sum := "42912deed426f57186abf2c5392d98641ce90e5fdd9049ae664d3398cb10d192", func := "sandglass/sandglasslaw08.HmacExpands", spec := "hmacExpands", named := ["sandglass/sha.first", "sandglass/sha.rounds"], apart := false, laid := [("sandglass/sha.first", laid_sandglass_sha_first), ("sandglass/sha.rounds", laid_sandglass_sha_rounds)] }
def HmacExpandsSaid : Prop := hmacExpandsRow.holds Tryd.pinned (OpenSpec.ofChange hmacExpandsSpec)

/-- ITS FALSE NEIGHBOUR: 'it returns false'. Refute it at one input. -/
def hmacExpandsWrong : ChangeSpec := { name := "hmacExpands", fn := fun _ => fun
  | [d1, d2, d3] => { results := [.lit (.bool false)], args := [d1, d2, d3] }
  | _ => none }
def HmacExpandsWrongFalsely : Prop := hmacExpandsRow.holds Tryd.pinned (OpenSpec.ofChange hmacExpandsWrong)

/-- 'sandglasslaw08.HmacZeros': WHATEVER THE INPUT: true; the input reads as it did. -/
def hmacZerosSpec : ChangeSpec := { name := "hmacZeros", fn := fun _ => fun
  | [d1, d2, d3] => { results := [.lit (.bool true)], args := [d1, d2, d3] }
  | _ => none }
def hmacZerosRow : OpenClaim := { program := "ytpnpfihjlobonaadoor", sum := "42912deed426f57186abf2c5392d98641ce90e5fdd9049ae664d3398cb10d192", func := "sandglass/sandglasslaw08.HmacZeros", spec := "hmacZeros", named := ["sandglass/sha.first", "sandglass/sha.rounds"], apart := false, laid := [("sandglass/sha.first", laid_sandglass_sha_first), ("sandglass/sha.rounds", laid_sandglass_sha_rounds)] }
def HmacZerosSaid : Prop := hmacZerosRow.holds Tryd.pinned (OpenSpec.ofChange hmacZerosSpec)

/-- ITS FALSE NEIGHBOUR: 'it returns false'. Refute it at one input. -/
def hmacZerosWrong : ChangeSpec := { name := "hmacZeros", fn := fun _ => fun
  | [d1, d2, d3] => { results := [.lit (.bool false)], args := [d1, d2, d3] }
  | _ => none }
def HmacZerosWrongFalsely : Prop := hmacZerosRow.holds Tryd.pinned (OpenSpec.ofChange hmacZerosWrong)

/-- 'sandglasslaw08.HmacShorter': WHATEVER THE INPUT: true; the input reads as it did. -/
def hmacShorterSpec : ChangeSpec := { name := "hmacShorter", fn := fun _ => fun
  | [d1, d2, d3] => { results := [.lit (.bool true)], args := [d1, d2, d3] }
  | _ => none }
def hmacShorterRow : OpenClaim := { program := "ytpnpfihjlobonaadoor", sum := "42912deed426f57186abf2c5392d98641ce90e5fdd9049ae664d3398cb10d192", func := "sandglass/sandglasslaw08.HmacShorter", spec := "hmacShorter", named := ["sandglass/sha.first", "sandglass/sha.rounds"], apart := false, laid := [("sandglass/sha.first", laid_sandglass_sha_first), ("sandglass/sha.rounds", laid_sandglass_sha_rounds)] }
def HmacShorterSaid : Prop := hmacShorterRow.holds Tryd.pinned (OpenSpec.ofChange hmacShorterSpec)

/-- ITS FALSE NEIGHBOUR: 'it returns false'. Refute it at one input. -/
def hmacShorterWrong : ChangeSpec := { name := "hmacShorter", fn := fun _ => fun
  | [d1, d2, d3] => { results := [.lit (.bool false)], args := [d1, d2, d3] }
  | _ => none }
def HmacShorterWrongFalsely : Prop := hmacShorterRow.holds Tryd.pinned (OpenSpec.ofChange hmacShorterWrong)

/-- 'sandglasslaw29.DrbgAlike': WHATEVER THE INPUT: true; the input reads as it did. -/
def drbgAlikeSpec : ChangeSpec := { name := "drbgAlike", fn := fun _ => fun
  | [d1, d2] => { results := [.lit (.bool true)], args := [d1, d2] }
  | _ => none }
def drbgAlikeRow : OpenClaim := { program := "ytpnpfihjlobonaadoor", sum := "42912deed426f57186abf2c5392d98641ce90e5fdd9049ae664d3398cb10d192", func := "sandglass/sandglasslaw29.DrbgAlike", spec := "drbgAlike", inPlace := ["math/bits.Sub64"], named := ["sandglass/sha.first", "sandglass/sha.rounds"], apart := false, laid := [("sandglass/sha.first", laid_sandglass_sha_first), ("sandglass/sha.rounds", laid_sandglass_sha_rounds)] }
def DrbgAlikeSaid : Prop := drbgAlikeRow.holds Tryd.pinned (OpenSpec.ofChange drbgAlikeSpec)

/-- ITS FALSE NEIGHBOUR: 'it returns false'. Refute it at one input. -/
def drbgAlikeWrong : ChangeSpec := { name := "drbgAlike", fn := fun _ => fun
  | [d1, d2] => { results := [.lit (.bool false)], args := [d1, d2] }
  | _ => none }
def DrbgAlikeWrongFalsely : Prop := drbgAlikeRow.holds Tryd.pinned (OpenSpec.ofChange drbgAlikeWrong)

/-- 'sandglasslaw29.DrbgScalars': WHATEVER THE INPUT: true; the input reads as it did. -/
def drbgScalarsSpec : ChangeSpec := { name := "drbgScalars", fn := fun _ => fun
  | [d1, d2] => { results := [.lit (.bool true)], args := [d1, d2] }
  | _ => none }
def drbgScalarsRow : OpenClaim := { program := "ytpnpfihjlobonaadoor", sum := "42912deed426f57186abf2c5392d98641ce90e5fdd9049ae664d3398cb10d192", func := "sandglass/sandglasslaw29.DrbgScalars", spec := "drbgScalars", inPlace := ["math/bits.Sub64"], named := ["sandglass/sha.first", "sandglass/sha.rounds"], apart := false, laid := [("sandglass/sha.first", laid_sandglass_sha_first), ("sandglass/sha.rounds", laid_sandglass_sha_rounds)] }
def DrbgScalarsSaid : Prop := drbgScalarsRow.holds Tryd.pinned (OpenSpec.ofChange drbgScalarsSpec)

/-- ITS FALSE NEIGHBOUR: 'it returns false'. Refute it at one input. -/
def drbgScalarsWrong : ChangeSpec := { name := "drbgScalars", fn := fun _ => fun
  | [d1, d2] => { results := [.lit (.bool false)], args := [d1, d2] }
  | _ => none }
def DrbgScalarsWrongFalsely : Prop := drbgScalarsRow.holds Tryd.pinned (OpenSpec.ofChange drbgScalarsWrong)

/-- 'sandglasslaw29.DrbgShorter': WHATEVER THE INPUT: true; the input reads as it did. -/
def drbgShorterSpec : ChangeSpec := { name := "drbgShorter", fn := fun _ => fun
  | [d1, d2, d3] => { results := [.lit (.bool true)], args := [d1, d2, d3] }
  | _ => none }
def drbgShorterRow : OpenClaim := { program := "ytpnpfihjlobonaadoor", sum := "42912deed426f57186abf2c5392d98641ce90e5fdd9049ae664d3398cb10d192", func := "sandglass/sandglasslaw29.DrbgShorter", spec := "drbgShorter", inPlace := ["math/bits.Sub64"], named := ["sandglass/sha.first", "sandglass/sha.rounds"], apart := false, laid := [("sandglass/sha.first", laid_sandglass_sha_first), ("sandglass/sha.rounds", laid_sandglass_sha_rounds)] }
def DrbgShorterSaid : Prop := drbgShorterRow.holds Tryd.pinned (OpenSpec.ofChange drbgShorterSpec)

/-- ITS FALSE NEIGHBOUR: 'it returns false'. Refute it at one input. -/
def drbgShorterWrong : ChangeSpec := { name := "drbgShorter", fn := fun _ => fun
  | [d1, d2, d3] => { results := [.lit (.bool false)], args := [d1, d2, d3] }
  | _ => none }
def DrbgShorterWrongFalsely : Prop := drbgShorterRow.holds Tryd.pinned (OpenSpec.ofChange drbgShorterWrong)

/-- 'sandglasslaw29.DrbgPlays': WHATEVER THE INPUT: true; the input reads as it did. -/
def drbgPlaysSpec : ChangeSpec := { name := "drbgPlays", fn := fun _ => fun
  | [d1, d2] => { results := [.lit (.bool true)], args := [d1, d2] }
  | _ => none }
def drbgPlaysRow : OpenClaim := { program := "ytpnpfihjlobonaadoor", sum := "42912deed426f57186abf2c5392d98641ce90e5fdd9049ae664d3398cb10d192", func := "sandglass/sandglasslaw29.DrbgPlays", spec := "drbgPlays", inPlace := ["math/bits.Sub64"], named := ["sandglass/sha.first", "sandglass/sha.rounds"], apart := false, laid := [("sandglass/sha.first", laid_sandglass_sha_first), ("sandglass/sha.rounds", laid_sandglass_sha_rounds)] }
def DrbgPlaysSaid : Prop := drbgPlaysRow.holds Tryd.pinned (OpenSpec.ofChange drbgPlaysSpec)

/-- ITS FALSE NEIGHBOUR: 'it returns false'. Refute it at one input. -/
def drbgPlaysWrong : ChangeSpec := { name := "drbgPlays", fn := fun _ => fun
  | [d1, d2] => { results := [.lit (.bool false)], args := [d1, d2] }
  | _ => none }
def DrbgPlaysWrongFalsely : Prop := drbgPlaysRow.holds Tryd.pinned (OpenSpec.ofChange drbgPlaysWrong)

/-- 'sandglasslaw29.DrbgNone': WHATEVER THE INPUT: true; the input reads as it did. -/
def drbgNoneSpec : ChangeSpec := { name := "drbgNone", fn := fun _ => fun
  | [d1, d2] => { results := [.lit (.bool true)], args := [d1, d2] }
  | _ => none }
def drbgNoneRow : OpenClaim := { program := "ytpnpfihjlobonaadoor", sum := "42912deed426f57186abf2c5392d98641ce90e5fdd9049ae664d3398cb10d192", func := "sandglass/sandglasslaw29.DrbgNone", spec := "drbgNone", inPlace := ["math/bits.Sub64"], named := ["sandglass/sha.first", "sandglass/sha.rounds"], apart := false, laid := [("sandglass/sha.first", laid_sandglass_sha_first), ("sandglass/sha.rounds", laid_sandglass_sha_rounds)] }
def DrbgNoneSaid : Prop := drbgNoneRow.holds Tryd.pinned (OpenSpec.ofChange drbgNoneSpec)

/-- ITS FALSE NEIGHBOUR: 'it returns false'. Refute it at one input. -/
def drbgNoneWrong : ChangeSpec := { name := "drbgNone", fn := fun _ => fun
  | [d1, d2] => { results := [.lit (.bool false)], args := [d1, d2] }
  | _ => none }
def DrbgNoneWrongFalsely : Prop := drbgNoneRow.holds Tryd.pinned (OpenSpec.ofChange drbgNoneWrong)

/- THE SECOND FORM. 'bulk': how many values and letters a reading holds, each counted each time it is reached (what is shared counts as often as it is met; a slice's spare places count too). A statement '..UptoSaid' is the law's where the arguments, and the package variables that the reading takes, are together of bulk at most 1048576: NARROWER than '..Said'. Prove '..Said' where nothing that the law and all that it calls make is longer than what came in: it says more and counts as full. Else prove '..UptoSaid'. A law counts once. -/
mutual
def uptoBulk {H : Type} : DataW H → Nat
  | .lit (.string bytes) => bytes.length + 1
  | .lit _ => 1
  | .nil => 1
  | .ptr d => uptoBulk d + 1
  | .slice elems spare => uptoBulkAll elems + uptoBulkAll spare + 1
  | .agg parts => uptoBulkAll parts + 1
  | .iface _ d => uptoBulk d + 1
  | .map entries => uptoBulkEntries entries + 1
  | .held _ => 1
def uptoBulkAll {H : Type} : List (DataW H) → Nat
  | [] => 0
  | d :: r => uptoBulk d + uptoBulkAll r
def uptoBulkEntries {H : Type} : List (Lit × DataW H) → Nat
  | [] => 0
  | x :: r => uptoBulkEntry x + uptoBulkEntries r
def uptoBulkEntry {H : Type} : Lit × DataW H → Nat
  | (.string bytes, d) => bytes.length + uptoBulk d + 1
  | (_, d) => uptoBulk d + 1
 end
def uptoSmall : (H : Type) → List (DataW H) → Bool := fun _ ds => decide (uptoBulkAll ds ≤ 1048576)
def OpenSpec.upto (s : _root_.Go.ChangeSpec) : _root_.Go.OpenSpec := { _root_.Go.OpenSpec.ofChange s with cond := some uptoSmall }

/-- 'sandglasslaw08.HmacMacs', WHERE WHAT IT READS IS OF BULK AT MOST 1048576: true; the input reads as it did. -/
def hmacMacsUptoRow : OpenClaim := { program := "ytpnpfihjlobonaadoor", sum := "42912deed426f57186abf2c5392d98641ce90e5fdd9049ae664d3398cb10d192", func := "sandglass/sandglasslaw08.HmacMacs", spec := "hmacMacs", named := ["sandglass/sha.first", "sandglass/sha.rounds"], apart := false, laid := [("sandglass/sha.first", laid_sandglass_sha_first), ("sandglass/sha.rounds", laid_sandglass_sha_rounds)], narrowed := true }
def HmacMacsUptoSaid : Prop := hmacMacsUptoRow.holds Tryd.pinned (OpenSpec.upto hmacMacsSpec)

/-- 'sandglasslaw08.HmacExpands', WHERE WHAT IT READS IS OF BULK AT MOST 1048576: true; the input reads as it did. -/
def hmacExpandsUptoRow : OpenClaim := { program := "ytpnpfihjlobonaadoor", sum := "42912deed426f57186abf2c5392d98641ce90e5fdd9049ae664d3398cb10d192", func := "sandglass/sandglasslaw08.HmacExpands", spec := "hmacExpands", named := ["sandglass/sha.first", "sandglass/sha.rounds"], apart := false, laid := [("sandglass/sha.first", laid_sandglass_sha_first), ("sandglass/sha.rounds", laid_sandglass_sha_rounds)], narrowed := true }
def HmacExpandsUptoSaid : Prop := hmacExpandsUptoRow.holds Tryd.pinned (OpenSpec.upto hmacExpandsSpec)

/-- 'sandglasslaw08.HmacZeros', WHERE WHAT IT READS IS OF BULK AT MOST 1048576: true; the input reads as it did. -/
def hmacZerosUptoRow : OpenClaim := { program := "ytpnpfihjlobonaadoor", sum := "42912deed426f57186abf2c5392d98641ce90e5fdd9049ae664d3398cb10d192", func := "sandglass/sandglasslaw08.HmacZeros", spec := "hmacZeros", named := ["sandglass/sha.first", "sandglass/sha.rounds"], apart := false, laid := [("sandglass/sha.first", laid_sandglass_sha_first), ("sandglass/sha.rounds", laid_sandglass_sha_rounds)], narrowed := true }
def HmacZerosUptoSaid : Prop := hmacZerosUptoRow.holds Tryd.pinned (OpenSpec.upto hmacZerosSpec)

/-- 'sandglasslaw08.HmacShorter', WHERE WHAT IT READS IS OF BULK AT MOST 1048576: true; the input reads as it did. -/
def hmacShorterUptoRow : OpenClaim := { program := "ytpnpfihjlobonaadoor", sum := "42912deed426f57186abf2c5392d98641ce90e5fdd9049ae664d3398cb10d192", func := "sandglass/sandglasslaw08.HmacShorter", spec := "hmacShorter", named := ["sandglass/sha.first", "sandglass/sha.rounds"], apart := false, laid := [("sandglass/sha.first", laid_sandglass_sha_first), ("sandglass/sha.rounds", laid_sandglass_sha_rounds)], narrowed := true }
def HmacShorterUptoSaid : Prop := hmacShorterUptoRow.holds Tryd.pinned (OpenSpec.upto hmacShorterSpec)

/-- 'sandglasslaw29.DrbgAlike', WHERE WHAT IT READS IS OF BULK AT MOST 1048576: true; the input reads as it did. -/
def drbgAlikeUptoRow : OpenClaim := { program := "ytpnpfihjlobonaadoor", sum := "42912deed426f57186abf2c5392d98641ce90e5fdd9049ae664d3398cb10d192", func := "sandglass/sandglasslaw29.DrbgAlike", spec := "drbgAlike", inPlace := ["math/bits.Sub64"], named := ["sandglass/sha.first", "sandglass/sha.rounds"], apart := false, laid := [("sandglass/sha.first", laid_sandglass_sha_first), ("sandglass/sha.rounds", laid_sandglass_sha_rounds)], narrowed := true }
def DrbgAlikeUptoSaid : Prop := drbgAlikeUptoRow.holds Tryd.pinned (OpenSpec.upto drbgAlikeSpec)

/-- 'sandglasslaw29.DrbgScalars', WHERE WHAT IT READS IS OF BULK AT MOST 1048576: true; the input reads as it did. -/
def drbgScalarsUptoRow : OpenClaim := { program := "ytpnpfihjlobonaadoor", sum := "42912deed426f57186abf2c5392d98641ce90e5fdd9049ae664d3398cb10d192", func := "sandglass/sandglasslaw29.DrbgScalars", spec := "drbgScalars", inPlace := ["math/bits.Sub64"], named := ["sandglass/sha.first", "sandglass/sha.rounds"], apart := false, laid := [("sandglass/sha.first", laid_sandglass_sha_first), ("sandglass/sha.rounds", laid_sandglass_sha_rounds)], narrowed := true }
def DrbgScalarsUptoSaid : Prop := drbgScalarsUptoRow.holds Tryd.pinned (OpenSpec.upto drbgScalarsSpec)

/-- 'sandglasslaw29.DrbgShorter', WHERE WHAT IT READS IS OF BULK AT MOST 1048576: true; the input reads as it did. -/
def drbgShorterUptoRow : OpenClaim := { program := "ytpnpfihjlobonaadoor", sum := "42912deed426f57186abf2c5392d98641ce90e5fdd9049ae664d3398cb10d192", func := "sandglass/sandglasslaw29.DrbgShorter", spec := "drbgShorter", inPlace := ["math/bits.Sub64"], named := ["sandglass/sha.first", "sandglass/sha.rounds"], apart := false, laid := [("sandglass/sha.first", laid_sandglass_sha_first), ("sandglass/sha.rounds", laid_sandglass_sha_rounds)], narrowed := true }
def DrbgShorterUptoSaid : Prop := drbgShorterUptoRow.holds Tryd.pinned (OpenSpec.upto drbgShorterSpec)

/-- 'sandglasslaw29.DrbgPlays', WHERE WHAT IT READS IS OF BULK AT MOST 1048576: true; the input reads as it did. -/
def drbgPlaysUptoRow : OpenClaim := { program := "ytpnpfihjlobonaadoor", sum := "42912deed426f57186abf2c5392d98641ce90e5fdd9049ae664d3398cb10d192", func := "sandglass/sandglasslaw29.DrbgPlays", spec := "drbgPlays", inPlace := ["math/bits.Sub64"], named := ["sandglass/sha.first", "sandglass/sha.rounds"], apart := false, laid := [("sandglass/sha.first", laid_sandglass_sha_first), ("sandglass/sha.rounds", laid_sandglass_sha_rounds)], narrowed := true }
def DrbgPlaysUptoSaid : Prop := drbgPlaysUptoRow.holds Tryd.pinned (OpenSpec.upto drbgPlaysSpec)

/-- 'sandglasslaw29.DrbgNone', WHERE WHAT IT READS IS OF BULK AT MOST 1048576: true; the input reads as it did. -/
def drbgNoneUptoRow : OpenClaim := { program := "ytpnpfihjlobonaadoor", sum := "42912deed426f57186abf2c5392d98641ce90e5fdd9049ae664d3398cb10d192", func := "sandglass/sandglasslaw29.DrbgNone", spec := "drbgNone", inPlace := ["math/bits.Sub64"], named := ["sandglass/sha.first", "sandglass/sha.rounds"], apart := false, laid := [("sandglass/sha.first", laid_sandglass_sha_first), ("sandglass/sha.rounds", laid_sandglass_sha_rounds)], narrowed := true }
def DrbgNoneUptoSaid : Prop := drbgNoneUptoRow.holds Tryd.pinned (OpenSpec.upto drbgNoneSpec)

end Rows
end Go.Proofs.YtpnpfihjlobonaaDoor
