/-
  DERIVED. GIVEN WITH THE SEED: THE CARDS: each row of YtpkcmjiokdpegaaDoorRows.lean that lists a variable, with what it lists TIED to the program's text (the seventh form; the later family's looks); each row that meets fmt, with fmt's text TOLD by the authors' own Lean function (tested against real Go, not proved from fmt's source: count such statements apart). THE CARD IS WHAT COUNTS. Prove the row's statement (the work); the ties are given (YtpkcmjiokdpegaaDoorTie.lean); close each card by the builder's one call (the guide's Derived/Test/ToyasCard.lean, 'card_holds'). Laid BY PROGRAM, IN A SANDBOX (cutbox-door.mjs). By AI agents, Wed Nov 11 2026. No macro, syntax, notation, axiom, sorry.
-/
import Derived.Test.YtpkcmjiokdpegaaDoorRows
import GoSem.ClaimSeven
namespace Go.Proofs.YtpkcmjiokdpegaaDoor
namespace Rows

/-- THE TIED CARD OF 'gambrellaw01.RatioField'. -/
def ratioFieldCard : Claim7 := { stood := { row := ratioFieldRow, standIns := [], harness := (true, "05721eea8a8870bd3b315a8b9f6692bb6f47de9ce2f434ce0e3a0f97176b6533"), looks := false }, kinds := [], alts := [], laidByText := true, laidKinds := [.data, .data, .data], laidTests := true, laidLooks := .later }
def RatioFieldCardSaid : Prop := Claim7.holds Tryd.pinned (.plain (OpenSpec.ofChange ratioFieldSpec)) ratioFieldCard

/-- THE TIED CARD OF 'gambrellaw01.RatioRing'. -/
def ratioRingCard : Claim7 := { stood := { row := ratioRingRow, standIns := [], harness := (true, "05721eea8a8870bd3b315a8b9f6692bb6f47de9ce2f434ce0e3a0f97176b6533"), looks := false }, kinds := [], alts := [], laidByText := true, laidKinds := [.data, .data, .data], laidTests := true, laidLooks := .later }
def RatioRingCardSaid : Prop := Claim7.holds Tryd.pinned (.plain (OpenSpec.ofChange ratioRingSpec)) ratioRingCard

/-- THE TIED CARD OF 'gambrellaw01.RatioParts'. -/
def ratioPartsCard : Claim7 := { stood := { row := ratioPartsRow, standIns := [], harness := (true, "05721eea8a8870bd3b315a8b9f6692bb6f47de9ce2f434ce0e3a0f97176b6533"), looks := false }, kinds := [], alts := [], laidByText := true, laidKinds := [.data, .data, .data], laidTests := true, laidLooks := .later }
def RatioPartsCardSaid : Prop := Claim7.holds Tryd.pinned (.plain (OpenSpec.ofChange ratioPartsSpec)) ratioPartsCard

/-- THE TIED CARD OF 'gambrellaw01.RatioOrder'. -/
def ratioOrderCard : Claim7 := { stood := { row := ratioOrderRow, standIns := [], harness := (true, "05721eea8a8870bd3b315a8b9f6692bb6f47de9ce2f434ce0e3a0f97176b6533"), looks := false }, kinds := [], alts := [], laidByText := true, laidKinds := [.data, .data, .data], laidTests := true, laidLooks := .later }
def RatioOrderCardSaid : Prop := Claim7.holds Tryd.pinned (.plain (OpenSpec.ofChange ratioOrderSpec)) ratioOrderCard

/-- THE TIED CARD OF 'gambrellaw01.RatioTexts'. -/
def ratioTextsCard : Claim7 := { stood := { row := ratioTextsRow, standIns := [], harness := (true, "05721eea8a8870bd3b315a8b9f6692bb6f47de9ce2f434ce0e3a0f97176b6533"), looks := false }, kinds := [], alts := [], laidByText := true, laidKinds := [.data, .data, .data], laidTests := true, laidLooks := .later }
def RatioTextsCardSaid : Prop := Claim7.holds Tryd.pinned (.plain (OpenSpec.ofChange ratioTextsSpec)) ratioTextsCard

/-- THE TIED CARD OF 'gambrellaw01.RatioBack'. -/
def ratioBackCard : Claim7 := { stood := { row := ratioBackRow, standIns := [], harness := (true, "05721eea8a8870bd3b315a8b9f6692bb6f47de9ce2f434ce0e3a0f97176b6533"), looks := false }, kinds := [], alts := [], laidByText := true, laidKinds := [.data, .data, .data], laidTests := true, laidLooks := .later }
def RatioBackCardSaid : Prop := Claim7.holds Tryd.pinned (.plain (OpenSpec.ofChange ratioBackSpec)) ratioBackCard

/-- THE TIED CARD OF 'gambrellaw01.RatioNames'. -/
def ratioNamesCard : Claim7 := { stood := { row := ratioNamesRow, standIns := [], harness := (true, "05721eea8a8870bd3b315a8b9f6692bb6f47de9ce2f434ce0e3a0f97176b6533"), looks := false }, kinds := [], alts := [], laidByText := true, laidKinds := [.data, .data, .data], laidTests := true, laidLooks := .later }
def RatioNamesCardSaid : Prop := Claim7.holds Tryd.pinned (.plain (OpenSpec.ofChange ratioNamesSpec)) ratioNamesCard

/-- THE SECOND FORM's CARD OF 'gambrellaw01.RatioField'. -/
def ratioFieldUptoCard : Claim7 := { stood := { row := ratioFieldUptoRow, standIns := [], harness := (true, "05721eea8a8870bd3b315a8b9f6692bb6f47de9ce2f434ce0e3a0f97176b6533"), looks := false }, kinds := [], alts := [], laidByText := true, laidKinds := [.data, .data, .data], laidTests := true, laidLooks := .later }
def RatioFieldUptoCardSaid : Prop := Claim7.holds Tryd.pinned (.plain (OpenSpec.upto ratioFieldSpec)) ratioFieldUptoCard

/-- THE SECOND FORM's CARD OF 'gambrellaw01.RatioRing'. -/
def ratioRingUptoCard : Claim7 := { stood := { row := ratioRingUptoRow, standIns := [], harness := (true, "05721eea8a8870bd3b315a8b9f6692bb6f47de9ce2f434ce0e3a0f97176b6533"), looks := false }, kinds := [], alts := [], laidByText := true, laidKinds := [.data, .data, .data], laidTests := true, laidLooks := .later }
def RatioRingUptoCardSaid : Prop := Claim7.holds Tryd.pinned (.plain (OpenSpec.upto ratioRingSpec)) ratioRingUptoCard

/-- THE SECOND FORM's CARD OF 'gambrellaw01.RatioParts'. -/
def ratioPartsUptoCard : Claim7 := { stood := { row := ratioPartsUptoRow, standIns := [], harness := (true, "05721eea8a8870bd3b315a8b9f6692bb6f47de9ce2f434ce0e3a0f97176b6533"), looks := false }, kinds := [], alts := [], laidByText := true, laidKinds := [.data, .data, .data], laidTests := true, laidLooks := .later }
def RatioPartsUptoCardSaid : Prop := Claim7.holds Tryd.pinned (.plain (OpenSpec.upto ratioPartsSpec)) ratioPartsUptoCard

/-- THE SECOND FORM's CARD OF 'gambrellaw01.RatioOrder'. -/
def ratioOrderUptoCard : Claim7 := { stood := { row := ratioOrderUptoRow, standIns := [], harness := (true, "05721eea8a8870bd3b315a8b9f6692bb6f47de9ce2f434ce0e3a0f97176b6533"), looks := false }, kinds := [], alts := [], laidByText := true, laidKinds := [.data, .data, .data], laidTests := true, laidLooks := .later }
def RatioOrderUptoCardSaid : Prop := Claim7.holds Tryd.pinned (.plain (OpenSpec.upto ratioOrderSpec)) ratioOrderUptoCard

/-- THE SECOND FORM's CARD OF 'gambrellaw01.RatioTexts'. -/
def ratioTextsUptoCard : Claim7 := { stood := { row := ratioTextsUptoRow, standIns := [], harness := (true, "05721eea8a8870bd3b315a8b9f6692bb6f47de9ce2f434ce0e3a0f97176b6533"), looks := false }, kinds := [], alts := [], laidByText := true, laidKinds := [.data, .data, .data], laidTests := true, laidLooks := .later }
def RatioTextsUptoCardSaid : Prop := Claim7.holds Tryd.pinned (.plain (OpenSpec.upto ratioTextsSpec)) ratioTextsUptoCard

/-- THE SECOND FORM's CARD OF 'gambrellaw01.RatioBack'. -/
def ratioBackUptoCard : Claim7 := { stood := { row := ratioBackUptoRow, standIns := [], harness := (true, "05721eea8a8870bd3b315a8b9f6692bb6f47de9ce2f434ce0e3a0f97176b6533"), looks := false }, kinds := [], alts := [], laidByText := true, laidKinds := [.data, .data, .data], laidTests := true, laidLooks := .later }
def RatioBackUptoCardSaid : Prop := Claim7.holds Tryd.pinned (.plain (OpenSpec.upto ratioBackSpec)) ratioBackUptoCard

/-- THE SECOND FORM's CARD OF 'gambrellaw01.RatioNames'. -/
def ratioNamesUptoCard : Claim7 := { stood := { row := ratioNamesUptoRow, standIns := [], harness := (true, "05721eea8a8870bd3b315a8b9f6692bb6f47de9ce2f434ce0e3a0f97176b6533"), looks := false }, kinds := [], alts := [], laidByText := true, laidKinds := [.data, .data, .data], laidTests := true, laidLooks := .later }
def RatioNamesUptoCardSaid : Prop := Claim7.holds Tryd.pinned (.plain (OpenSpec.upto ratioNamesSpec)) ratioNamesUptoCard
end Rows
end Go.Proofs.YtpkcmjiokdpegaaDoor
