/-
  DERIVED. GIVEN WITH THE SEED: THE CARDS: each row of YtcppcobcdhnalaaDoorRows.lean that lists a variable, with what it lists TIED to the program's text (the seventh form; the later family's looks); each row that meets fmt, with fmt's text TOLD by the authors' own Lean function (tested against real Go, not proved from fmt's source: count such statements apart). THE CARD IS WHAT COUNTS. Prove the row's statement (the work); the ties are given (YtcppcobcdhnalaaDoorTie.lean); close each card by the builder's one call (the guide's Derived/Test/ToyasCard.lean, 'card_holds'). Laid BY PROGRAM, IN A SANDBOX (cutbox-door.mjs). By AI agents, Wed Nov 11 2026. No macro, syntax, notation, axiom, sorry.
-/
import Derived.Test.YtcppcobcdhnalaaDoorRows
import GoSem.ClaimSeven
namespace Go.Proofs.YtcppcobcdhnalaaDoor
namespace Rows

/-- THE TIED CARD OF 'spinnakerlaw4.TextBlanks'. -/
def textBlanksCard : Claim7 := { stood := { row := textBlanksRow, standIns := [], harness := (true, "2b63ca96292b6a068453959516a9bb9ac68981dd8b203f6dc88024ccca19ea9f"), looks := true }, kinds := [], alts := [], laidByText := true, laidKinds := [.data, .data, .data, .data, .sentinel, .sentinel, .pinned], laidTests := true, laidLooks := .later }
def TextBlanksCardSaid : Prop := Claim7.holds Tryd.pinned (.plain (OpenSpec.ofChange textBlanksSpec)) textBlanksCard

/-- THE TIED CARD OF 'spinnakerlaw4.TextAsks'. -/
def textAsksCard : Claim7 := { stood := { row := textAsksRow, standIns := [], harness := (true, "2b63ca96292b6a068453959516a9bb9ac68981dd8b203f6dc88024ccca19ea9f"), looks := true }, kinds := [], alts := [], laidByText := true, laidKinds := [.data, .data, .data, .data, .sentinel, .sentinel, .pinned], laidTests := true, laidLooks := .later }
def TextAsksCardSaid : Prop := Claim7.holds Tryd.pinned (.plain (OpenSpec.ofChange textAsksSpec)) textAsksCard

/-- THE TIED CARD OF 'spinnakerlaw4.TextBack'. -/
def textBackCard : Claim7 := { stood := { row := textBackRow, standIns := [], harness := (true, "2b63ca96292b6a068453959516a9bb9ac68981dd8b203f6dc88024ccca19ea9f"), looks := true }, kinds := [], alts := [], laidByText := true, laidKinds := [.data, .data, .data, .data, .sentinel, .sentinel, .pinned], laidTests := true, laidLooks := .later }
def TextBackCardSaid : Prop := Claim7.holds Tryd.pinned (.plain (OpenSpec.ofChange textBackSpec)) textBackCard

/-- THE TIED CARD OF 'spinnakerlaw4.TextOrders'. -/
def textOrdersCard : Claim7 := { stood := { row := textOrdersRow, standIns := [], harness := (true, "2b63ca96292b6a068453959516a9bb9ac68981dd8b203f6dc88024ccca19ea9f"), looks := true }, kinds := [], alts := [], laidByText := true, laidKinds := [.data, .data, .data, .data, .sentinel, .sentinel, .pinned], laidTests := true, laidLooks := .later }
def TextOrdersCardSaid : Prop := Claim7.holds Tryd.pinned (.plain (OpenSpec.ofChange textOrdersSpec)) textOrdersCard

/-- THE TIED CARD OF 'spinnakerlaw4.TextNumbers'. -/
def textNumbersCard : Claim7 := { stood := { row := textNumbersRow, standIns := [], harness := (true, "2b63ca96292b6a068453959516a9bb9ac68981dd8b203f6dc88024ccca19ea9f"), looks := true }, kinds := [], alts := [], laidByText := true, laidKinds := [.data, .data, .data, .data, .sentinel, .sentinel, .pinned], laidTests := true, laidLooks := .later }
def TextNumbersCardSaid : Prop := Claim7.holds Tryd.pinned (.plain (OpenSpec.ofChange textNumbersSpec)) textNumbersCard

/-- THE TIED CARD OF 'spinnakerlaw4.TextNames'. -/
def textNamesCard : Claim7 := { stood := { row := textNamesRow, standIns := [], harness := (true, "2b63ca96292b6a068453959516a9bb9ac68981dd8b203f6dc88024ccca19ea9f"), looks := true }, kinds := [], alts := [], laidByText := true, laidKinds := [.data, .data, .data, .data, .sentinel, .sentinel, .pinned], laidTests := true, laidLooks := .later }
def TextNamesCardSaid : Prop := Claim7.holds Tryd.pinned (.plain (OpenSpec.ofChange textNamesSpec)) textNamesCard

/-- THE SECOND FORM's CARD OF 'spinnakerlaw4.TextBlanks'. -/
def textBlanksUptoCard : Claim7 := { stood := { row := textBlanksUptoRow, standIns := [], harness := (true, "2b63ca96292b6a068453959516a9bb9ac68981dd8b203f6dc88024ccca19ea9f"), looks := true }, kinds := [], alts := [], laidByText := true, laidKinds := [.data, .data, .data, .data, .sentinel, .sentinel, .pinned], laidTests := true, laidLooks := .later }
def TextBlanksUptoCardSaid : Prop := Claim7.holds Tryd.pinned (.plain (OpenSpec.upto textBlanksSpec)) textBlanksUptoCard

/-- THE SECOND FORM's CARD OF 'spinnakerlaw4.TextAsks'. -/
def textAsksUptoCard : Claim7 := { stood := { row := textAsksUptoRow, standIns := [], harness := (true, "2b63ca96292b6a068453959516a9bb9ac68981dd8b203f6dc88024ccca19ea9f"), looks := true }, kinds := [], alts := [], laidByText := true, laidKinds := [.data, .data, .data, .data, .sentinel, .sentinel, .pinned], laidTests := true, laidLooks := .later }
def TextAsksUptoCardSaid : Prop := Claim7.holds Tryd.pinned (.plain (OpenSpec.upto textAsksSpec)) textAsksUptoCard

/-- THE SECOND FORM's CARD OF 'spinnakerlaw4.TextBack'. -/
def textBackUptoCard : Claim7 := { stood := { row := textBackUptoRow, standIns := [], harness := (true, "2b63ca96292b6a068453959516a9bb9ac68981dd8b203f6dc88024ccca19ea9f"), looks := true }, kinds := [], alts := [], laidByText := true, laidKinds := [.data, .data, .data, .data, .sentinel, .sentinel, .pinned], laidTests := true, laidLooks := .later }
def TextBackUptoCardSaid : Prop := Claim7.holds Tryd.pinned (.plain (OpenSpec.upto textBackSpec)) textBackUptoCard

/-- THE SECOND FORM's CARD OF 'spinnakerlaw4.TextOrders'. -/
def textOrdersUptoCard : Claim7 := { stood := { row := textOrdersUptoRow, standIns := [], harness := (true, "2b63ca96292b6a068453959516a9bb9ac68981dd8b203f6dc88024ccca19ea9f"), looks := true }, kinds := [], alts := [], laidByText := true, laidKinds := [.data, .data, .data, .data, .sentinel, .sentinel, .pinned], laidTests := true, laidLooks := .later }
def TextOrdersUptoCardSaid : Prop := Claim7.holds Tryd.pinned (.plain (OpenSpec.upto textOrdersSpec)) textOrdersUptoCard

/-- THE SECOND FORM's CARD OF 'spinnakerlaw4.TextNumbers'. -/
def textNumbersUptoCard : Claim7 := { stood := { row := textNumbersUptoRow, standIns := [], harness := (true, "2b63ca96292b6a068453959516a9bb9ac68981dd8b203f6dc88024ccca19ea9f"), looks := true }, kinds := [], alts := [], laidByText := true, laidKinds := [.data, .data, .data, .data, .sentinel, .sentinel, .pinned], laidTests := true, laidLooks := .later }
def TextNumbersUptoCardSaid : Prop := Claim7.holds Tryd.pinned (.plain (OpenSpec.upto textNumbersSpec)) textNumbersUptoCard

/-- THE SECOND FORM's CARD OF 'spinnakerlaw4.TextNames'. -/
def textNamesUptoCard : Claim7 := { stood := { row := textNamesUptoRow, standIns := [], harness := (true, "2b63ca96292b6a068453959516a9bb9ac68981dd8b203f6dc88024ccca19ea9f"), looks := true }, kinds := [], alts := [], laidByText := true, laidKinds := [.data, .data, .data, .data, .sentinel, .sentinel, .pinned], laidTests := true, laidLooks := .later }
def TextNamesUptoCardSaid : Prop := Claim7.holds Tryd.pinned (.plain (OpenSpec.upto textNamesSpec)) textNamesUptoCard
end Rows
end Go.Proofs.YtcppcobcdhnalaaDoor
