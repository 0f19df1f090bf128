/-
  DERIVED. GIVEN WITH THE SEED: THE CARDS: each row of YtaikhgmhocllfaaDoorRows.lean that lists a variable, with what it lists TIED to the program's text (the seventh form; the later family's looks); each row that meets fmt, with fmt's text TOLD by the authors' own Lean function (tested against real Go, not proved from fmt's source: count such statements apart). THE CARD IS WHAT COUNTS. Prove the row's statement (the work); the ties are given (YtaikhgmhocllfaaDoorTie.lean); close each card by the builder's one call (the guide's Derived/Test/ToyasCard.lean, 'card_holds'). Laid BY PROGRAM, IN A SANDBOX (cutbox-door.mjs). By AI agents, Wed Nov 11 2026. No macro, syntax, notation, axiom, sorry.
-/
import Derived.Test.YtaikhgmhocllfaaDoorRows
import GoSem.ClaimSeven
namespace Go.Proofs.YtaikhgmhocllfaaDoor
namespace Rows

/-- THE TIED CARD OF 'palatinelaw07.ShaSum'. -/
def shaSumCard : Claim7 := { stood := { row := shaSumRow, standIns := [], harness := (true, "cd976c0f11e80c78bdbd5adc7e8f9b3eef0d0225b92099be99231514fadc0e3c"), looks := false }, kinds := [], alts := [], laidByText := true, laidKinds := [.data, .data], laidTests := true, laidLooks := .later }
def ShaSumCardSaid : Prop := Claim7.holds Tryd.pinned (.plain (OpenSpec.ofChange shaSumSpec)) shaSumCard

/-- THE TIED CARD OF 'palatinelaw07.ShaMac'. -/
def shaMacCard : Claim7 := { stood := { row := shaMacRow, standIns := [], harness := (true, "cd976c0f11e80c78bdbd5adc7e8f9b3eef0d0225b92099be99231514fadc0e3c"), looks := false }, kinds := [], alts := [], laidByText := true, laidKinds := [.data, .data], laidTests := true, laidLooks := .later }
def ShaMacCardSaid : Prop := Claim7.holds Tryd.pinned (.plain (OpenSpec.ofChange shaMacSpec)) shaMacCard

/-- THE TIED CARD OF 'palatinelaw07.ShaParts'. -/
def shaPartsCard : Claim7 := { stood := { row := shaPartsRow, standIns := [], harness := (true, "cd976c0f11e80c78bdbd5adc7e8f9b3eef0d0225b92099be99231514fadc0e3c"), looks := false }, kinds := [], alts := [], laidByText := true, laidKinds := [.data, .data], laidTests := true, laidLooks := .later }
def ShaPartsCardSaid : Prop := Claim7.holds Tryd.pinned (.plain (OpenSpec.ofChange shaPartsSpec)) shaPartsCard

/-- THE TIED CARD OF 'palatinelaw07.ShaKeys'. -/
def shaKeysCard : Claim7 := { stood := { row := shaKeysRow, standIns := [], harness := (true, "cd976c0f11e80c78bdbd5adc7e8f9b3eef0d0225b92099be99231514fadc0e3c"), looks := false }, kinds := [], alts := [], laidByText := true, laidKinds := [.data, .data], laidTests := true, laidLooks := .later }
def ShaKeysCardSaid : Prop := Claim7.holds Tryd.pinned (.plain (OpenSpec.ofChange shaKeysSpec)) shaKeysCard

/-- THE TIED CARD OF 'palatinelaw08.SealPlays'. -/
def sealPlaysCard : Claim7 := { stood := { row := sealPlaysRow, standIns := [], harness := (true, "cd976c0f11e80c78bdbd5adc7e8f9b3eef0d0225b92099be99231514fadc0e3c"), looks := false }, kinds := [], alts := [], laidByText := true, laidKinds := [.data, .data], laidTests := true, laidLooks := .later }
def SealPlaysCardSaid : Prop := Claim7.holds Tryd.pinned (.plain (OpenSpec.ofChange sealPlaysSpec)) sealPlaysCard

/-- THE TIED CARD OF 'palatinelaw08.SealBack'. -/
def sealBackCard : Claim7 := { stood := { row := sealBackRow, standIns := [], harness := (true, "cd976c0f11e80c78bdbd5adc7e8f9b3eef0d0225b92099be99231514fadc0e3c"), looks := false }, kinds := [], alts := [], laidByText := true, laidKinds := [.data, .data], laidTests := true, laidLooks := .later }
def SealBackCardSaid : Prop := Claim7.holds Tryd.pinned (.plain (OpenSpec.ofChange sealBackSpec)) sealBackCard

/-- THE TIED CARD OF 'palatinelaw08.SealTorn'. -/
def sealTornCard : Claim7 := { stood := { row := sealTornRow, standIns := [], harness := (true, "cd976c0f11e80c78bdbd5adc7e8f9b3eef0d0225b92099be99231514fadc0e3c"), looks := false }, kinds := [], alts := [], laidByText := true, laidKinds := [.data, .data], laidTests := true, laidLooks := .later }
def SealTornCardSaid : Prop := Claim7.holds Tryd.pinned (.plain (OpenSpec.ofChange sealTornSpec)) sealTornCard

/-- THE TIED CARD OF 'palatinelaw08.SealIdeal'. -/
def sealIdealCard : Claim7 := { stood := { row := sealIdealRow, standIns := [], harness := (true, "cd976c0f11e80c78bdbd5adc7e8f9b3eef0d0225b92099be99231514fadc0e3c"), looks := false }, kinds := [], alts := [], laidByText := true, laidKinds := [.data, .data], laidTests := true, laidLooks := .later }
def SealIdealCardSaid : Prop := Claim7.holds Tryd.pinned (.plain (OpenSpec.ofChange sealIdealSpec)) sealIdealCard

/-- THE TIED CARD OF 'palatinelaw08.SealHides'. -/
def sealHidesCard : Claim7 := { stood := { row := sealHidesRow, standIns := [], harness := (true, "cd976c0f11e80c78bdbd5adc7e8f9b3eef0d0225b92099be99231514fadc0e3c"), looks := false }, kinds := [], alts := [], laidByText := true, laidKinds := [.data, .data], laidTests := true, laidLooks := .later }
def SealHidesCardSaid : Prop := Claim7.holds Tryd.pinned (.plain (OpenSpec.ofChange sealHidesSpec)) sealHidesCard

/-- THE SECOND FORM's CARD OF 'palatinelaw07.ShaSum'. -/
def shaSumUptoCard : Claim7 := { stood := { row := shaSumUptoRow, standIns := [], harness := (true, "cd976c0f11e80c78bdbd5adc7e8f9b3eef0d0225b92099be99231514fadc0e3c"), looks := false }, kinds := [], alts := [], laidByText := true, laidKinds := [.data, .data], laidTests := true, laidLooks := .later }
def ShaSumUptoCardSaid : Prop := Claim7.holds Tryd.pinned (.plain (OpenSpec.upto shaSumSpec)) shaSumUptoCard

/-- THE SECOND FORM's CARD OF 'palatinelaw07.ShaMac'. -/
def shaMacUptoCard : Claim7 := { stood := { row := shaMacUptoRow, standIns := [], harness := (true, "cd976c0f11e80c78bdbd5adc7e8f9b3eef0d0225b92099be99231514fadc0e3c"), looks := false }, kinds := [], alts := [], laidByText := true, laidKinds := [.data, .data], laidTests := true, laidLooks := .later }
def ShaMacUptoCardSaid : Prop := Claim7.holds Tryd.pinned (.plain (OpenSpec.upto shaMacSpec)) shaMacUptoCard

/-- THE SECOND FORM's CARD OF 'palatinelaw07.ShaParts'. -/
def shaPartsUptoCard : Claim7 := { stood := { row := shaPartsUptoRow, standIns := [], harness := (true, "cd976c0f11e80c78bdbd5adc7e8f9b3eef0d0225b92099be99231514fadc0e3c"), looks := false }, kinds := [], alts := [], laidByText := true, laidKinds := [.data, .data], laidTests := true, laidLooks := .later }
def ShaPartsUptoCardSaid : Prop := Claim7.holds Tryd.pinned (.plain (OpenSpec.upto shaPartsSpec)) shaPartsUptoCard

/-- THE SECOND FORM's CARD OF 'palatinelaw07.ShaKeys'. -/
def shaKeysUptoCard : Claim7 := { stood := { row := shaKeysUptoRow, standIns := [], harness := (true, "cd976c0f11e80c78bdbd5adc7e8f9b3eef0d0225b92099be99231514fadc0e3c"), looks := false }, kinds := [], alts := [], laidByText := true, laidKinds := [.data, .data], laidTests := true, laidLooks := .later }
def ShaKeysUptoCardSaid : Prop := Claim7.holds Tryd.pinned (.plain (OpenSpec.upto shaKeysSpec)) shaKeysUptoCard

/-- THE SECOND FORM's CARD OF 'palatinelaw08.SealPlays'. -/
def sealPlaysUptoCard : Claim7 := { stood := { row := sealPlaysUptoRow, standIns := [], harness := (true, "cd976c0f11e80c78bdbd5adc7e8f9b3eef0d0225b92099be99231514fadc0e3c"), looks := false }, kinds := [], alts := [], laidByText := true, laidKinds := [.data, .data], laidTests := true, laidLooks := .later }
def SealPlaysUptoCardSaid : Prop := Claim7.holds Tryd.pinned (.plain (OpenSpec.upto sealPlaysSpec)) sealPlaysUptoCard

/-- THE SECOND FORM's CARD OF 'palatinelaw08.SealBack'. -/
def sealBackUptoCard : Claim7 := { stood := { row := sealBackUptoRow, standIns := [], harness := (true, "cd976c0f11e80c78bdbd5adc7e8f9b3eef0d0225b92099be99231514fadc0e3c"), looks := false }, kinds := [], alts := [], laidByText := true, laidKinds := [.data, .data], laidTests := true, laidLooks := .later }
def SealBackUptoCardSaid : Prop := Claim7.holds Tryd.pinned (.plain (OpenSpec.upto sealBackSpec)) sealBackUptoCard

/-- THE SECOND FORM's CARD OF 'palatinelaw08.SealTorn'. -/
def sealTornUptoCard : Claim7 := { stood := { row := sealTornUptoRow, standIns := [], harness := (true, "cd976c0f11e80c78bdbd5adc7e8f9b3eef0d0225b92099be99231514fadc0e3c"), looks := false }, kinds := [], alts := [], laidByText := true, laidKinds := [.data, .data], laidTests := true, laidLooks := .later }
def SealTornUptoCardSaid : Prop := Claim7.holds Tryd.pinned (.plain (OpenSpec.upto sealTornSpec)) sealTornUptoCard

/-- THE SECOND FORM's CARD OF 'palatinelaw08.SealIdeal'. -/
def sealIdealUptoCard : Claim7 := { stood := { row := sealIdealUptoRow, standIns := [], harness := (true, "cd976c0f11e80c78bdbd5adc7e8f9b3eef0d0225b92099be99231514fadc0e3c"), looks := false }, kinds := [], alts := [], laidByText := true, laidKinds := [.data, .data], laidTests := true, laidLooks := .later }
def SealIdealUptoCardSaid : Prop := Claim7.holds Tryd.pinned (.plain (OpenSpec.upto sealIdealSpec)) sealIdealUptoCard

/-- THE SECOND FORM's CARD OF 'palatinelaw08.SealHides'. -/
def sealHidesUptoCard : Claim7 := { stood := { row := sealHidesUptoRow, standIns := [], harness := (true, "cd976c0f11e80c78bdbd5adc7e8f9b3eef0d0225b92099be99231514fadc0e3c"), looks := false }, kinds := [], alts := [], laidByText := true, laidKinds := [.data, .data], laidTests := true, laidLooks := .later }
def SealHidesUptoCardSaid : Prop := Claim7.holds Tryd.pinned (.plain (OpenSpec.upto sealHidesSpec)) sealHidesUptoCard
end Rows
end Go.Proofs.YtaikhgmhocllfaaDoor
