/-
  DERIVED. GIVEN WITH THE SEED: THE CARDS: each row of YtpnpfihjlobonaaDoorRows.lean that lists a variable, with what it lists TIED to the program's text (the seventh form; the later family's looks); each row that meets fmt, with fmt's text TOLD by the authors' own Lean function (tested against real Go, not proved from fmt's source: count such statements apart). THE CARD IS WHAT COUNTS. Prove the row's statement (the work); the ties are given (YtpnpfihjlobonaaDoorTie.lean); close each card by the builder's one call (the guide's Derived/Test/ToyasCard.lean, 'card_holds'). Laid BY PROGRAM, IN A SANDBOX (cutbox-door.mjs). By AI agents, Wed Nov 11 2026. No macro, syntax, notation, axiom, sorry.
-/
import Derived.Test.YtpnpfihjlobonaaDoorRows
import GoSem.ClaimSeven
namespace Go.Proofs.YtpnpfihjlobonaaDoor
namespace Rows

/-- THE TIED CARD OF 'sandglasslaw08.HmacMacs'. -/
def hmacMacsCard : Claim7 := { stood := { row := hmacMacsRow, standIns := [], harness := (true, "0c89710d09e0e001544bba0b1a953b8ae0066b7196dd4eba322eecbed04f8e8b"), looks := false }, kinds := [], alts := [], laidByText := true, laidKinds := [.data, .data], laidTests := true, laidLooks := .later }
def HmacMacsCardSaid : Prop := Claim7.holds Tryd.pinned (.plain (OpenSpec.ofChange hmacMacsSpec)) hmacMacsCard

/-- THE TIED CARD OF 'sandglasslaw08.HmacExpands'. -/
def hmacExpandsCard : Claim7 := { stood := { row := hmacExpandsRow, standIns := [], harness := (true, "0c89710d09e0e001544bba0b1a953b8ae0066b7196dd4eba322eecbed04f8e8b"), looks := false }, kinds := [], alts := [], laidByText := true, laidKinds := [.data, .data], laidTests := true, laidLooks := .later }
def HmacExpandsCardSaid : Prop := Claim7.holds Tryd.pinned (.plain (OpenSpec.ofChange hmacExpandsSpec)) hmacExpandsCard

/-- THE TIED CARD OF 'sandglasslaw08.HmacZeros'. -/
def hmacZerosCard : Claim7 := { stood := { row := hmacZerosRow, standIns := [], harness := (true, "0c89710d09e0e001544bba0b1a953b8ae0066b7196dd4eba322eecbed04f8e8b"), looks := false }, kinds := [], alts := [], laidByText := true, laidKinds := [.data, .data], laidTests := true, laidLooks := .later }
def HmacZerosCardSaid : Prop := Claim7.holds Tryd.pinned (.plain (OpenSpec.ofChange hmacZerosSpec)) hmacZerosCard

/-- THE TIED CARD OF 'sandglasslaw08.HmacShorter'. -/
def hmacShorterCard : Claim7 := { stood := { row := hmacShorterRow, standIns := [], harness := (true, "0c89710d09e0e001544bba0b1a953b8ae0066b7196dd4eba322eecbed04f8e8b"), looks := false }, kinds := [], alts := [], laidByText := true, laidKinds := [.data, .data], laidTests := true, laidLooks := .later }
def HmacShorterCardSaid : Prop := Claim7.holds Tryd.pinned (.plain (OpenSpec.ofChange hmacShorterSpec)) hmacShorterCard

/-- THE TIED CARD OF 'sandglasslaw29.DrbgAlike'. -/
def drbgAlikeCard : Claim7 := { stood := { row := drbgAlikeRow, standIns := [], harness := (true, "0c89710d09e0e001544bba0b1a953b8ae0066b7196dd4eba322eecbed04f8e8b"), looks := false }, kinds := [], alts := [], laidByText := true, laidKinds := [.data, .data], laidTests := true, laidLooks := .later }
def DrbgAlikeCardSaid : Prop := Claim7.holds Tryd.pinned (.plain (OpenSpec.ofChange drbgAlikeSpec)) drbgAlikeCard

/-- THE TIED CARD OF 'sandglasslaw29.DrbgScalars'. -/
def drbgScalarsCard : Claim7 := { stood := { row := drbgScalarsRow, standIns := [], harness := (true, "0c89710d09e0e001544bba0b1a953b8ae0066b7196dd4eba322eecbed04f8e8b"), looks := false }, kinds := [], alts := [], laidByText := true, laidKinds := [.data, .data], laidTests := true, laidLooks := .later }
def DrbgScalarsCardSaid : Prop := Claim7.holds Tryd.pinned (.plain (OpenSpec.ofChange drbgScalarsSpec)) drbgScalarsCard

/-- THE TIED CARD OF 'sandglasslaw29.DrbgShorter'. -/
def drbgShorterCard : Claim7 := { stood := { row := drbgShorterRow, standIns := [], harness := (true, "0c89710d09e0e001544bba0b1a953b8ae0066b7196dd4eba322eecbed04f8e8b"), looks := false }, kinds := [], alts := [], laidByText := true, laidKinds := [.data, .data], laidTests := true, laidLooks := .later }
def DrbgShorterCardSaid : Prop := Claim7.holds Tryd.pinned (.plain (OpenSpec.ofChange drbgShorterSpec)) drbgShorterCard

/-- THE TIED CARD OF 'sandglasslaw29.DrbgPlays'. -/
def drbgPlaysCard : Claim7 := { stood := { row := drbgPlaysRow, standIns := [], harness := (true, "0c89710d09e0e001544bba0b1a953b8ae0066b7196dd4eba322eecbed04f8e8b"), looks := false }, kinds := [], alts := [], laidByText := true, laidKinds := [.data, .data], laidTests := true, laidLooks := .later }
def DrbgPlaysCardSaid : Prop := Claim7.holds Tryd.pinned (.plain (OpenSpec.ofChange drbgPlaysSpec)) drbgPlaysCard

/-- THE TIED CARD OF 'sandglasslaw29.DrbgNone'. -/
def drbgNoneCard : Claim7 := { stood := { row := drbgNoneRow, standIns := [], harness := (true, "0c89710d09e0e001544bba0b1a953b8ae0066b7196dd4eba322eecbed04f8e8b"), looks := false }, kinds := [], alts := [], laidByText := true, laidKinds := [.data, .data], laidTests := true, laidLooks := .later }
def DrbgNoneCardSaid : Prop := Claim7.holds Tryd.pinned (.plain (OpenSpec.ofChange drbgNoneSpec)) drbgNoneCard

/-- THE SECOND FORM's CARD OF 'sandglasslaw08.HmacMacs'. -/
def hmacMacsUptoCard : Claim7 := { stood := { row := hmacMacsUptoRow, standIns := [], harness := (true, "0c89710d09e0e001544bba0b1a953b8ae0066b7196dd4eba322eecbed04f8e8b"), looks := false }, kinds := [], alts := [], laidByText := true, laidKinds := [.data, .data], laidTests := true, laidLooks := .later }
def HmacMacsUptoCardSaid : Prop := Claim7.holds Tryd.pinned (.plain (OpenSpec.upto hmacMacsSpec)) hmacMacsUptoCard

/-- THE SECOND FORM's CARD OF 'sandglasslaw08.HmacExpands'. -/
def hmacExpandsUptoCard : Claim7 := { stood := { row := hmacExpandsUptoRow, standIns := [], harness := (true, "0c89710d09e0e001544bba0b1a953b8ae0066b7196dd4eba322eecbed04f8e8b"), looks := false }, kinds := [], alts := [], laidByText := true, laidKinds := [.data, .data], laidTests := true, laidLooks := .later }
def HmacExpandsUptoCardSaid : Prop := Claim7.holds Tryd.pinned (.plain (OpenSpec.upto hmacExpandsSpec)) hmacExpandsUptoCard

/-- THE SECOND FORM's CARD OF 'sandglasslaw08.HmacZeros'. -/
def hmacZerosUptoCard : Claim7 := { stood := { row := hmacZerosUptoRow, standIns := [], harness := (true, "0c89710d09e0e001544bba0b1a953b8ae0066b7196dd4eba322eecbed04f8e8b"), looks := false }, kinds := [], alts := [], laidByText := true, laidKinds := [.data, .data], laidTests := true, laidLooks := .later }
def HmacZerosUptoCardSaid : Prop := Claim7.holds Tryd.pinned (.plain (OpenSpec.upto hmacZerosSpec)) hmacZerosUptoCard

/-- THE SECOND FORM's CARD OF 'sandglasslaw08.HmacShorter'. -/
def hmacShorterUptoCard : Claim7 := { stood := { row := hmacShorterUptoRow, standIns := [], harness := (true, "0c89710d09e0e001544bba0b1a953b8ae0066b7196dd4eba322eecbed04f8e8b"), looks := false }, kinds := [], alts := [], laidByText := true, laidKinds := [.data, .data], laidTests := true, laidLooks := .later }
def HmacShorterUptoCardSaid : Prop := Claim7.holds Tryd.pinned (.plain (OpenSpec.upto hmacShorterSpec)) hmacShorterUptoCard

/-- THE SECOND FORM's CARD OF 'sandglasslaw29.DrbgAlike'. -/
def drbgAlikeUptoCard : Claim7 := { stood := { row := drbgAlikeUptoRow, standIns := [], harness := (true, "0c89710d09e0e001544bba0b1a953b8ae0066b7196dd4eba322eecbed04f8e8b"), looks := false }, kinds := [], alts := [], laidByText := true, laidKinds := [.data, .data], laidTests := true, laidLooks := .later }
def DrbgAlikeUptoCardSaid : Prop := Claim7.holds Tryd.pinned (.plain (OpenSpec.upto drbgAlikeSpec)) drbgAlikeUptoCard

/-- THE SECOND FORM's CARD OF 'sandglasslaw29.DrbgScalars'. -/
def drbgScalarsUptoCard : Claim7 := { stood := { row := drbgScalarsUptoRow, standIns := [], harness := (true, "0c89710d09e0e001544bba0b1a953b8ae0066b7196dd4eba322eecbed04f8e8b"), looks := false }, kinds := [], alts := [], laidByText := true, laidKinds := [.data, .data], laidTests := true, laidLooks := .later }
def DrbgScalarsUptoCardSaid : Prop := Claim7.holds Tryd.pinned (.plain (OpenSpec.upto drbgScalarsSpec)) drbgScalarsUptoCard

/-- THE SECOND FORM's CARD OF 'sandglasslaw29.DrbgShorter'. -/
def drbgShorterUptoCard : Claim7 := { stood := { row := drbgShorterUptoRow, standIns := [], harness := (true, "0c89710d09e0e001544bba0b1a953b8ae0066b7196dd4eba322eecbed04f8e8b"), looks := false }, kinds := [], alts := [], laidByText := true, laidKinds := [.data, .data], laidTests := true, laidLooks := .later }
def DrbgShorterUptoCardSaid : Prop := Claim7.holds Tryd.pinned (.plain (OpenSpec.upto drbgShorterSpec)) drbgShorterUptoCard

/-- THE SECOND FORM's CARD OF 'sandglasslaw29.DrbgPlays'. -/
def drbgPlaysUptoCard : Claim7 := { stood := { row := drbgPlaysUptoRow, standIns := [], harness := (true, "0c89710d09e0e001544bba0b1a953b8ae0066b7196dd4eba322eecbed04f8e8b"), looks := false }, kinds := [], alts := [], laidByText := true, laidKinds := [.data, .data], laidTests := true, laidLooks := .later }
def DrbgPlaysUptoCardSaid : Prop := Claim7.holds Tryd.pinned (.plain (OpenSpec.upto drbgPlaysSpec)) drbgPlaysUptoCard

/-- THE SECOND FORM's CARD OF 'sandglasslaw29.DrbgNone'. -/
def drbgNoneUptoCard : Claim7 := { stood := { row := drbgNoneUptoRow, standIns := [], harness := (true, "0c89710d09e0e001544bba0b1a953b8ae0066b7196dd4eba322eecbed04f8e8b"), looks := false }, kinds := [], alts := [], laidByText := true, laidKinds := [.data, .data], laidTests := true, laidLooks := .later }
def DrbgNoneUptoCardSaid : Prop := Claim7.holds Tryd.pinned (.plain (OpenSpec.upto drbgNoneSpec)) drbgNoneUptoCard
end Rows
end Go.Proofs.YtpnpfihjlobonaaDoor
