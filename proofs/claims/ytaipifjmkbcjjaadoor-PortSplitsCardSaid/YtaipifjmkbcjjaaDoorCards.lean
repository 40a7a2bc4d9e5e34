/-
  DERIVED. GIVEN WITH THE SEED: THE CARDS: each row of YtaipifjmkbcjjaaDoorRows.lean that lists a variable, with what it lists TIED to the program's text (the seventh form; the later family's looks); each row that meets fmt, with fmt's text TOLD by the authors' own Lean function (tested against real Go, not proved from fmt's source: count such statements apart). THE CARD IS WHAT COUNTS. Prove the row's statement (the work); the ties are given (YtaipifjmkbcjjaaDoorTie.lean); close each card by the builder's one call (the guide's Derived/Test/ToyasCard.lean, 'card_holds'). Laid BY PROGRAM, IN A SANDBOX (cutbox-door.mjs). By AI agents, Wed Nov 11 2026. No macro, syntax, notation, axiom, sorry.
-/
import Derived.Test.YtaipifjmkbcjjaaDoorRows
import GoSem.ClaimSeven
namespace Go.Proofs.YtaipifjmkbcjjaaDoor
namespace Rows

/-- THE TIED CARD OF 'tipstafflaw24.PortParts'. -/
def portPartsCard : Claim7 := { stood := { row := portPartsRow, standIns := [], harness := (true, "5e51e4d9762a4aa095b01c03726c23cb77c18ab9be983095ab08c632f34086b4"), looks := true }, kinds := [], alts := [], laidByText := true, laidKinds := [.data, .data, .data, .data], laidTests := true, laidLooks := .later }
def PortPartsCardSaid : Prop := Claim7.holds Tryd.pinned (.plain (OpenSpec.ofChange portPartsSpec)) portPartsCard

/-- THE TIED CARD OF 'tipstafflaw24.PortSpoilt'. -/
def portSpoiltCard : Claim7 := { stood := { row := portSpoiltRow, standIns := [], harness := (true, "5e51e4d9762a4aa095b01c03726c23cb77c18ab9be983095ab08c632f34086b4"), looks := true }, kinds := [], alts := [], laidByText := true, laidKinds := [.data, .data, .data, .data], laidTests := true, laidLooks := .later }
def PortSpoiltCardSaid : Prop := Claim7.holds Tryd.pinned (.plain (OpenSpec.ofChange portSpoiltSpec)) portSpoiltCard

/-- THE TIED CARD OF 'tipstafflaw24.PortBack'. -/
def portBackCard : Claim7 := { stood := { row := portBackRow, standIns := [], harness := (true, "5e51e4d9762a4aa095b01c03726c23cb77c18ab9be983095ab08c632f34086b4"), looks := true }, kinds := [], alts := [], laidByText := true, laidKinds := [.data, .data, .data, .data], laidTests := true, laidLooks := .later }
def PortBackCardSaid : Prop := Claim7.holds Tryd.pinned (.plain (OpenSpec.ofChange portBackSpec)) portBackCard

/-- THE TIED CARD OF 'tipstafflaw24.PortJudges'. -/
def portJudgesCard : Claim7 := { stood := { row := portJudgesRow, standIns := [], harness := (true, "5e51e4d9762a4aa095b01c03726c23cb77c18ab9be983095ab08c632f34086b4"), looks := true }, kinds := [], alts := [], laidByText := true, laidKinds := [.data, .data, .data, .data], laidTests := true, laidLooks := .later }
def PortJudgesCardSaid : Prop := Claim7.holds Tryd.pinned (.plain (OpenSpec.ofChange portJudgesSpec)) portJudgesCard

/-- THE TIED CARD OF 'tipstafflaw24.PortSplits'. -/
def portSplitsCard : Claim7 := { stood := { row := portSplitsRow, standIns := [], harness := (true, "5e51e4d9762a4aa095b01c03726c23cb77c18ab9be983095ab08c632f34086b4"), looks := true }, kinds := [], alts := [], laidByText := true, laidKinds := [.data, .data, .data, .data], laidTests := true, laidLooks := .later }
def PortSplitsCardSaid : Prop := Claim7.holds Tryd.pinned (.plain (OpenSpec.ofChange portSplitsSpec)) portSplitsCard

/-- THE TIED CARD OF 'tipstafflaw24.PortSplit'. -/
def portSplitCard : Claim7 := { stood := { row := portSplitRow, standIns := [], harness := (true, "5e51e4d9762a4aa095b01c03726c23cb77c18ab9be983095ab08c632f34086b4"), looks := true }, kinds := [], alts := [], laidByText := true, laidKinds := [.data, .data, .data, .data], laidTests := true, laidLooks := .later }
def PortSplitCardSaid : Prop := Claim7.holds Tryd.pinned (.plain (OpenSpec.ofChange portSplitSpec)) portSplitCard

/-- THE TIED CARD OF 'tipstafflaw24.PortKnown'. -/
def portKnownCard : Claim7 := { stood := { row := portKnownRow, standIns := [], harness := (true, "5e51e4d9762a4aa095b01c03726c23cb77c18ab9be983095ab08c632f34086b4"), looks := true }, kinds := [], alts := [], laidByText := true, laidKinds := [.data, .data, .data, .data], laidTests := true, laidLooks := .later }
def PortKnownCardSaid : Prop := Claim7.holds Tryd.pinned (.plain (OpenSpec.ofChange portKnownSpec)) portKnownCard

/-- THE TIED CARD OF 'tipstafflaw06.WireReads'. -/
def wireReadsCard : Claim7 := { stood := { row := wireReadsRow, standIns := [], harness := (true, "5e51e4d9762a4aa095b01c03726c23cb77c18ab9be983095ab08c632f34086b4"), looks := true }, kinds := [], alts := [], laidByText := true, laidKinds := [.data, .data, .data, .data], laidTests := true, laidLooks := .later }
def WireReadsCardSaid : Prop := Claim7.holds Tryd.pinned (.plain (OpenSpec.ofChange wireReadsSpec)) wireReadsCard

/-- THE TIED CARD OF 'tipstafflaw06.WireScans'. -/
def wireScansCard : Claim7 := { stood := { row := wireScansRow, standIns := [], harness := (true, "5e51e4d9762a4aa095b01c03726c23cb77c18ab9be983095ab08c632f34086b4"), looks := true }, kinds := [], alts := [], laidByText := true, laidKinds := [.data, .data, .data, .data], laidTests := true, laidLooks := .later }
def WireScansCardSaid : Prop := Claim7.holds Tryd.pinned (.plain (OpenSpec.ofChange wireScansSpec)) wireScansCard

/-- THE TIED CARD OF 'tipstafflaw06.WireBack'. -/
def wireBackCard : Claim7 := { stood := { row := wireBackRow, standIns := [], harness := (true, "5e51e4d9762a4aa095b01c03726c23cb77c18ab9be983095ab08c632f34086b4"), looks := true }, kinds := [], alts := [], laidByText := true, laidKinds := [.data, .data, .data, .data], laidTests := true, laidLooks := .later }
def WireBackCardSaid : Prop := Claim7.holds Tryd.pinned (.plain (OpenSpec.ofChange wireBackSpec)) wireBackCard

/-- THE TIED CARD OF 'tipstafflaw06.WireSpoilt'. -/
def wireSpoiltCard : Claim7 := { stood := { row := wireSpoiltRow, standIns := [], harness := (true, "5e51e4d9762a4aa095b01c03726c23cb77c18ab9be983095ab08c632f34086b4"), looks := true }, kinds := [], alts := [], laidByText := true, laidKinds := [.data, .data, .data, .data], laidTests := true, laidLooks := .later }
def WireSpoiltCardSaid : Prop := Claim7.holds Tryd.pinned (.plain (OpenSpec.ofChange wireSpoiltSpec)) wireSpoiltCard

/-- THE TIED CARD OF 'tipstafflaw06.WireKnown'. -/
def wireKnownCard : Claim7 := { stood := { row := wireKnownRow, standIns := [], harness := (true, "5e51e4d9762a4aa095b01c03726c23cb77c18ab9be983095ab08c632f34086b4"), looks := true }, kinds := [], alts := [], laidByText := true, laidKinds := [.data, .data, .data, .data], laidTests := true, laidLooks := .later }
def WireKnownCardSaid : Prop := Claim7.holds Tryd.pinned (.plain (OpenSpec.ofChange wireKnownSpec)) wireKnownCard

/-- THE TIED CARD OF 'tipstafflaw06.WireSums'. -/
def wireSumsCard : Claim7 := { stood := { row := wireSumsRow, standIns := [], harness := (true, "5e51e4d9762a4aa095b01c03726c23cb77c18ab9be983095ab08c632f34086b4"), looks := true }, kinds := [], alts := [], laidByText := true, laidKinds := [.data, .data, .data, .data], laidTests := true, laidLooks := .later }
def WireSumsCardSaid : Prop := Claim7.holds Tryd.pinned (.plain (OpenSpec.ofChange wireSumsSpec)) wireSumsCard

/-- THE TIED CARD OF 'tipstafflaw06.WireFinds'. -/
def wireFindsCard : Claim7 := { stood := { row := wireFindsRow, standIns := [], harness := (true, "5e51e4d9762a4aa095b01c03726c23cb77c18ab9be983095ab08c632f34086b4"), looks := true }, kinds := [], alts := [], laidByText := true, laidKinds := [.data, .data, .data, .data], laidTests := true, laidLooks := .later }
def WireFindsCardSaid : Prop := Claim7.holds Tryd.pinned (.plain (OpenSpec.ofChange wireFindsSpec)) wireFindsCard

/-- THE TIED CARD OF 'tipstafflaw06.WireWrites'. -/
def wireWritesCard : Claim7 := { stood := { row := wireWritesRow, standIns := [], harness := (true, "5e51e4d9762a4aa095b01c03726c23cb77c18ab9be983095ab08c632f34086b4"), looks := true }, kinds := [], alts := [], laidByText := true, laidKinds := [.data, .data, .data, .data], laidTests := true, laidLooks := .later }
def WireWritesCardSaid : Prop := Claim7.holds Tryd.pinned (.plain (OpenSpec.ofChange wireWritesSpec)) wireWritesCard

/-- THE SECOND FORM's CARD OF 'tipstafflaw24.PortParts'. -/
def portPartsUptoCard : Claim7 := { stood := { row := portPartsUptoRow, standIns := [], harness := (true, "5e51e4d9762a4aa095b01c03726c23cb77c18ab9be983095ab08c632f34086b4"), looks := true }, kinds := [], alts := [], laidByText := true, laidKinds := [.data, .data, .data, .data], laidTests := true, laidLooks := .later }
def PortPartsUptoCardSaid : Prop := Claim7.holds Tryd.pinned (.plain (OpenSpec.upto portPartsSpec)) portPartsUptoCard

/-- THE SECOND FORM's CARD OF 'tipstafflaw24.PortSpoilt'. -/
def portSpoiltUptoCard : Claim7 := { stood := { row := portSpoiltUptoRow, standIns := [], harness := (true, "5e51e4d9762a4aa095b01c03726c23cb77c18ab9be983095ab08c632f34086b4"), looks := true }, kinds := [], alts := [], laidByText := true, laidKinds := [.data, .data, .data, .data], laidTests := true, laidLooks := .later }
def PortSpoiltUptoCardSaid : Prop := Claim7.holds Tryd.pinned (.plain (OpenSpec.upto portSpoiltSpec)) portSpoiltUptoCard

/-- THE SECOND FORM's CARD OF 'tipstafflaw24.PortBack'. -/
def portBackUptoCard : Claim7 := { stood := { row := portBackUptoRow, standIns := [], harness := (true, "5e51e4d9762a4aa095b01c03726c23cb77c18ab9be983095ab08c632f34086b4"), looks := true }, kinds := [], alts := [], laidByText := true, laidKinds := [.data, .data, .data, .data], laidTests := true, laidLooks := .later }
def PortBackUptoCardSaid : Prop := Claim7.holds Tryd.pinned (.plain (OpenSpec.upto portBackSpec)) portBackUptoCard

/-- THE SECOND FORM's CARD OF 'tipstafflaw24.PortJudges'. -/
def portJudgesUptoCard : Claim7 := { stood := { row := portJudgesUptoRow, standIns := [], harness := (true, "5e51e4d9762a4aa095b01c03726c23cb77c18ab9be983095ab08c632f34086b4"), looks := true }, kinds := [], alts := [], laidByText := true, laidKinds := [.data, .data, .data, .data], laidTests := true, laidLooks := .later }
def PortJudgesUptoCardSaid : Prop := Claim7.holds Tryd.pinned (.plain (OpenSpec.upto portJudgesSpec)) portJudgesUptoCard

/-- THE SECOND FORM's CARD OF 'tipstafflaw24.PortSplits'. -/
def portSplitsUptoCard : Claim7 := { stood := { row := portSplitsUptoRow, standIns := [], harness := (true, "5e51e4d9762a4aa095b01c03726c23cb77c18ab9be983095ab08c632f34086b4"), looks := true }, kinds := [], alts := [], laidByText := true, laidKinds := [.data, .data, .data, .data], laidTests := true, laidLooks := .later }
def PortSplitsUptoCardSaid : Prop := Claim7.holds Tryd.pinned (.plain (OpenSpec.upto portSplitsSpec)) portSplitsUptoCard

/-- THE SECOND FORM's CARD OF 'tipstafflaw24.PortSplit'. -/
def portSplitUptoCard : Claim7 := { stood := { row := portSplitUptoRow, standIns := [], harness := (true, "5e51e4d9762a4aa095b01c03726c23cb77c18ab9be983095ab08c632f34086b4"), looks := true }, kinds := [], alts := [], laidByText := true, laidKinds := [.data, .data, .data, .data], laidTests := true, laidLooks := .later }
def PortSplitUptoCardSaid : Prop := Claim7.holds Tryd.pinned (.plain (OpenSpec.upto portSplitSpec)) portSplitUptoCard

/-- THE SECOND FORM's CARD OF 'tipstafflaw24.PortKnown'. -/
def portKnownUptoCard : Claim7 := { stood := { row := portKnownUptoRow, standIns := [], harness := (true, "5e51e4d9762a4aa095b01c03726c23cb77c18ab9be983095ab08c632f34086b4"), looks := true }, kinds := [], alts := [], laidByText := true, laidKinds := [.data, .data, .data, .data], laidTests := true, laidLooks := .later }
def PortKnownUptoCardSaid : Prop := Claim7.holds Tryd.pinned (.plain (OpenSpec.upto portKnownSpec)) portKnownUptoCard

/-- THE SECOND FORM's CARD OF 'tipstafflaw06.WireReads'. -/
def wireReadsUptoCard : Claim7 := { stood := { row := wireReadsUptoRow, standIns := [], harness := (true, "5e51e4d9762a4aa095b01c03726c23cb77c18ab9be983095ab08c632f34086b4"), looks := true }, kinds := [], alts := [], laidByText := true, laidKinds := [.data, .data, .data, .data], laidTests := true, laidLooks := .later }
def WireReadsUptoCardSaid : Prop := Claim7.holds Tryd.pinned (.plain (OpenSpec.upto wireReadsSpec)) wireReadsUptoCard

/-- THE SECOND FORM's CARD OF 'tipstafflaw06.WireScans'. -/
def wireScansUptoCard : Claim7 := { stood := { row := wireScansUptoRow, standIns := [], harness := (true, "5e51e4d9762a4aa095b01c03726c23cb77c18ab9be983095ab08c632f34086b4"), looks := true }, kinds := [], alts := [], laidByText := true, laidKinds := [.data, .data, .data, .data], laidTests := true, laidLooks := .later }
def WireScansUptoCardSaid : Prop := Claim7.holds Tryd.pinned (.plain (OpenSpec.upto wireScansSpec)) wireScansUptoCard

/-- THE SECOND FORM's CARD OF 'tipstafflaw06.WireBack'. -/
def wireBackUptoCard : Claim7 := { stood := { row := wireBackUptoRow, standIns := [], harness := (true, "5e51e4d9762a4aa095b01c03726c23cb77c18ab9be983095ab08c632f34086b4"), looks := true }, kinds := [], alts := [], laidByText := true, laidKinds := [.data, .data, .data, .data], laidTests := true, laidLooks := .later }
def WireBackUptoCardSaid : Prop := Claim7.holds Tryd.pinned (.plain (OpenSpec.upto wireBackSpec)) wireBackUptoCard

/-- THE SECOND FORM's CARD OF 'tipstafflaw06.WireSpoilt'. -/
def wireSpoiltUptoCard : Claim7 := { stood := { row := wireSpoiltUptoRow, standIns := [], harness := (true, "5e51e4d9762a4aa095b01c03726c23cb77c18ab9be983095ab08c632f34086b4"), looks := true }, kinds := [], alts := [], laidByText := true, laidKinds := [.data, .data, .data, .data], laidTests := true, laidLooks := .later }
def WireSpoiltUptoCardSaid : Prop := Claim7.holds Tryd.pinned (.plain (OpenSpec.upto wireSpoiltSpec)) wireSpoiltUptoCard

/-- THE SECOND FORM's CARD OF 'tipstafflaw06.WireKnown'. -/
def wireKnownUptoCard : Claim7 := { stood := { row := wireKnownUptoRow, standIns := [], harness := (true, "5e51e4d9762a4aa095b01c03726c23cb77c18ab9be983095ab08c632f34086b4"), looks := true }, kinds := [], alts := [], laidByText := true, laidKinds := [.data, .data, .data, .data], laidTests := true, laidLooks := .later }
def WireKnownUptoCardSaid : Prop := Claim7.holds Tryd.pinned (.plain (OpenSpec.upto wireKnownSpec)) wireKnownUptoCard

/-- THE SECOND FORM's CARD OF 'tipstafflaw06.WireSums'. -/
def wireSumsUptoCard : Claim7 := { stood := { row := wireSumsUptoRow, standIns := [], harness := (true, "5e51e4d9762a4aa095b01c03726c23cb77c18ab9be983095ab08c632f34086b4"), looks := true }, kinds := [], alts := [], laidByText := true, laidKinds := [.data, .data, .data, .data], laidTests := true, laidLooks := .later }
def WireSumsUptoCardSaid : Prop := Claim7.holds Tryd.pinned (.plain (OpenSpec.upto wireSumsSpec)) wireSumsUptoCard

/-- THE SECOND FORM's CARD OF 'tipstafflaw06.WireFinds'. -/
def wireFindsUptoCard : Claim7 := { stood := { row := wireFindsUptoRow, standIns := [], harness := (true, "5e51e4d9762a4aa095b01c03726c23cb77c18ab9be983095ab08c632f34086b4"), looks := true }, kinds := [], alts := [], laidByText := true, laidKinds := [.data, .data, .data, .data], laidTests := true, laidLooks := .later }
def WireFindsUptoCardSaid : Prop := Claim7.holds Tryd.pinned (.plain (OpenSpec.upto wireFindsSpec)) wireFindsUptoCard

/-- THE SECOND FORM's CARD OF 'tipstafflaw06.WireWrites'. -/
def wireWritesUptoCard : Claim7 := { stood := { row := wireWritesUptoRow, standIns := [], harness := (true, "5e51e4d9762a4aa095b01c03726c23cb77c18ab9be983095ab08c632f34086b4"), looks := true }, kinds := [], alts := [], laidByText := true, laidKinds := [.data, .data, .data, .data], laidTests := true, laidLooks := .later }
def WireWritesUptoCardSaid : Prop := Claim7.holds Tryd.pinned (.plain (OpenSpec.upto wireWritesSpec)) wireWritesUptoCard
end Rows
end Go.Proofs.YtaipifjmkbcjjaaDoor
