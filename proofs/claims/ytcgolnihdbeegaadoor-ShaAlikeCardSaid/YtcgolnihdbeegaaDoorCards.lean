/-
  DERIVED. GIVEN WITH THE SEED: THE CARDS: each row of YtcgolnihdbeegaaDoorRows.lean that lists a variable, with what it lists TIED to the program's text (the seventh form; the later family's looks); each row that meets fmt, with fmt's text TOLD by the authors' own Lean function (tested against real Go, not proved from fmt's source: count such statements apart). THE CARD IS WHAT COUNTS. Prove the row's statement (the work); the ties are given (YtcgolnihdbeegaaDoorTie.lean); close each card by the builder's one call (the guide's Derived/Test/ToyasCard.lean, 'card_holds'). Laid BY PROGRAM, IN A SANDBOX (cutbox-door.mjs). By AI agents, Wed Nov 11 2026. No macro, syntax, notation, axiom, sorry.
-/
import Derived.Test.YtcgolnihdbeegaaDoorRows
import GoSem.ClaimSeven
namespace Go.Proofs.YtcgolnihdbeegaaDoor
namespace Rows

/-- THE TIED CARD OF 'sandglasslaw07.ShaSums'. -/
def shaSumsCard : Claim7 := { stood := { row := shaSumsRow, standIns := [], harness := (true, "4a150af857bbe5a0eb949b01cd29ef28cda8557a4ed2b8b21dc53e1952f61a47"), looks := false }, kinds := [], alts := [], laidByText := true, laidKinds := [.data, .data], laidTests := true, laidLooks := .later }
def ShaSumsCardSaid : Prop := Claim7.holds Tryd.pinned (.plain (OpenSpec.ofChange shaSumsSpec)) shaSumsCard

/-- THE TIED CARD OF 'sandglasslaw07.ShaBlocks'. -/
def shaBlocksCard : Claim7 := { stood := { row := shaBlocksRow, standIns := [], harness := (true, "4a150af857bbe5a0eb949b01cd29ef28cda8557a4ed2b8b21dc53e1952f61a47"), looks := false }, kinds := [], alts := [], laidByText := true, laidKinds := [.data, .data], laidTests := true, laidLooks := .later }
def ShaBlocksCardSaid : Prop := Claim7.holds Tryd.pinned (.plain (OpenSpec.ofChange shaBlocksSpec)) shaBlocksCard

/-- THE TIED CARD OF 'sandglasslaw07.ShaEach'. -/
def shaEachCard : Claim7 := { stood := { row := shaEachRow, standIns := [], harness := (true, "4a150af857bbe5a0eb949b01cd29ef28cda8557a4ed2b8b21dc53e1952f61a47"), looks := false }, kinds := [], alts := [], laidByText := true, laidKinds := [.data, .data], laidTests := true, laidLooks := .later }
def ShaEachCardSaid : Prop := Claim7.holds Tryd.pinned (.plain (OpenSpec.ofChange shaEachSpec)) shaEachCard

/-- THE TIED CARD OF 'sandglasslaw07.ShaAlike'. -/
def shaAlikeCard : Claim7 := { stood := { row := shaAlikeRow, standIns := [], harness := (true, "4a150af857bbe5a0eb949b01cd29ef28cda8557a4ed2b8b21dc53e1952f61a47"), looks := false }, kinds := [], alts := [], laidByText := true, laidKinds := [.data, .data], laidTests := true, laidLooks := .later }
def ShaAlikeCardSaid : Prop := Claim7.holds Tryd.pinned (.plain (OpenSpec.ofChange shaAlikeSpec)) shaAlikeCard

/-- THE SECOND FORM's CARD OF 'sandglasslaw07.ShaSums'. -/
def shaSumsUptoCard : Claim7 := { stood := { row := shaSumsUptoRow, standIns := [], harness := (true, "4a150af857bbe5a0eb949b01cd29ef28cda8557a4ed2b8b21dc53e1952f61a47"), looks := false }, kinds := [], alts := [], laidByText := true, laidKinds := [.data, .data], laidTests := true, laidLooks := .later }
def ShaSumsUptoCardSaid : Prop := Claim7.holds Tryd.pinned (.plain (OpenSpec.upto shaSumsSpec)) shaSumsUptoCard

/-- THE SECOND FORM's CARD OF 'sandglasslaw07.ShaBlocks'. -/
def shaBlocksUptoCard : Claim7 := { stood := { row := shaBlocksUptoRow, standIns := [], harness := (true, "4a150af857bbe5a0eb949b01cd29ef28cda8557a4ed2b8b21dc53e1952f61a47"), looks := false }, kinds := [], alts := [], laidByText := true, laidKinds := [.data, .data], laidTests := true, laidLooks := .later }
def ShaBlocksUptoCardSaid : Prop := Claim7.holds Tryd.pinned (.plain (OpenSpec.upto shaBlocksSpec)) shaBlocksUptoCard

/-- THE SECOND FORM's CARD OF 'sandglasslaw07.ShaEach'. -/
def shaEachUptoCard : Claim7 := { stood := { row := shaEachUptoRow, standIns := [], harness := (true, "4a150af857bbe5a0eb949b01cd29ef28cda8557a4ed2b8b21dc53e1952f61a47"), looks := false }, kinds := [], alts := [], laidByText := true, laidKinds := [.data, .data], laidTests := true, laidLooks := .later }
def ShaEachUptoCardSaid : Prop := Claim7.holds Tryd.pinned (.plain (OpenSpec.upto shaEachSpec)) shaEachUptoCard

/-- THE SECOND FORM's CARD OF 'sandglasslaw07.ShaAlike'. -/
def shaAlikeUptoCard : Claim7 := { stood := { row := shaAlikeUptoRow, standIns := [], harness := (true, "4a150af857bbe5a0eb949b01cd29ef28cda8557a4ed2b8b21dc53e1952f61a47"), looks := false }, kinds := [], alts := [], laidByText := true, laidKinds := [.data, .data], laidTests := true, laidLooks := .later }
def ShaAlikeUptoCardSaid : Prop := Claim7.holds Tryd.pinned (.plain (OpenSpec.upto shaAlikeSpec)) shaAlikeUptoCard
end Rows
end Go.Proofs.YtcgolnihdbeegaaDoor
