/-
  DERIVED. GIVEN WITH THE SEED: THE CARDS: each row of YtaijdpckkobofaaDoorRows.lean that lists a variable, with what it lists TIED to the program's text (the seventh form; the later family's looks); each row that meets fmt, with fmt's text TOLD by the authors' own Lean function (tested against real Go, not proved from fmt's source: count such statements apart). THE CARD IS WHAT COUNTS. Prove the row's statement (the work); the ties are given (YtaijdpckkobofaaDoorTie.lean); close each card by the builder's one call (the guide's Derived/Test/ToyasCard.lean, 'card_holds'). Laid BY PROGRAM, IN A SANDBOX (cutbox-door.mjs). By AI agents, Wed Nov 11 2026. No macro, syntax, notation, axiom, sorry.
-/
import Derived.Test.YtaijdpckkobofaaDoorRows
import GoSem.ClaimSeven
namespace Go.Proofs.YtaijdpckkobofaaDoor
namespace Rows

/-- THE TIED CARD OF 'shallotlaw18.CodeBuilders'. -/
def codeBuildersCard : Claim7 := { stood := { row := codeBuildersRow, standIns := [], harness := (true, "1ff7dfc3a42836d68577ba02f2d2bf0ca4b46dcfb14a10feaf22d43b3e746326"), looks := true }, kinds := [], alts := [], laidByText := true, laidKinds := [.data, .data, .data, .sentinel], laidTests := true, laidLooks := .later }
def CodeBuildersCardSaid : Prop := Claim7.holds Tryd.pinned (.plain (OpenSpec.ofChange codeBuildersSpec)) codeBuildersCard

/-- THE TIED CARD OF 'shallotlaw18.CodeDecodes'. -/
def codeDecodesCard : Claim7 := { stood := { row := codeDecodesRow, standIns := [], harness := (true, "1ff7dfc3a42836d68577ba02f2d2bf0ca4b46dcfb14a10feaf22d43b3e746326"), looks := true }, kinds := [], alts := [], laidByText := true, laidKinds := [.data, .data, .data, .sentinel], laidTests := true, laidLooks := .later }
def CodeDecodesCardSaid : Prop := Claim7.holds Tryd.pinned (.plain (OpenSpec.ofChange codeDecodesSpec)) codeDecodesCard

/-- THE TIED CARD OF 'shallotlaw18.CodeKeeps'. -/
def codeKeepsCard : Claim7 := { stood := { row := codeKeepsRow, standIns := [], harness := (true, "1ff7dfc3a42836d68577ba02f2d2bf0ca4b46dcfb14a10feaf22d43b3e746326"), looks := true }, kinds := [], alts := [], laidByText := true, laidKinds := [.data, .data, .data, .sentinel], laidTests := true, laidLooks := .later }
def CodeKeepsCardSaid : Prop := Claim7.holds Tryd.pinned (.plain (OpenSpec.ofChange codeKeepsSpec)) codeKeepsCard

/-- THE TIED CARD OF 'shallotlaw21.LexPlaces'. -/
def lexPlacesCard : Claim7 := { stood := { row := lexPlacesRow, standIns := [], harness := (true, "1ff7dfc3a42836d68577ba02f2d2bf0ca4b46dcfb14a10feaf22d43b3e746326"), looks := true }, kinds := [], alts := [], laidByText := true, laidKinds := [.data, .data, .data, .data, .sentinel, .sentinel, .pinned, .pinned], laidTests := true, laidLooks := .later }
def LexPlacesCardSaid : Prop := Claim7.holds Tryd.pinned (.plain (OpenSpec.ofChange lexPlacesSpec)) lexPlacesCard

/-- THE TIED CARD OF 'shallotlaw21.LexQuotes'. -/
def lexQuotesCard : Claim7 := { stood := { row := lexQuotesRow, standIns := [], harness := (true, "1ff7dfc3a42836d68577ba02f2d2bf0ca4b46dcfb14a10feaf22d43b3e746326"), looks := true }, kinds := [], alts := [], laidByText := true, laidKinds := [.data, .data, .data, .data, .sentinel, .sentinel, .pinned, .pinned], laidTests := true, laidLooks := .later }
def LexQuotesCardSaid : Prop := Claim7.holds Tryd.pinned (.plain (OpenSpec.ofChange lexQuotesSpec)) lexQuotesCard

/-- THE TIED CARD OF 'shallotlaw21.LexStreams'. -/
def lexStreamsCard : Claim7 := { stood := { row := lexStreamsRow, standIns := [], harness := (true, "1ff7dfc3a42836d68577ba02f2d2bf0ca4b46dcfb14a10feaf22d43b3e746326"), looks := true }, kinds := [], alts := [], laidByText := true, laidKinds := [.data, .data, .data, .data, .sentinel, .sentinel, .pinned, .pinned], laidTests := true, laidLooks := .later }
def LexStreamsCardSaid : Prop := Claim7.holds Tryd.pinned (.plain (OpenSpec.ofChange lexStreamsSpec)) lexStreamsCard

/-- THE SECOND FORM's CARD OF 'shallotlaw18.CodeBuilders'. -/
def codeBuildersUptoCard : Claim7 := { stood := { row := codeBuildersUptoRow, standIns := [], harness := (true, "1ff7dfc3a42836d68577ba02f2d2bf0ca4b46dcfb14a10feaf22d43b3e746326"), looks := true }, kinds := [], alts := [], laidByText := true, laidKinds := [.data, .data, .data, .sentinel], laidTests := true, laidLooks := .later }
def CodeBuildersUptoCardSaid : Prop := Claim7.holds Tryd.pinned (.plain (OpenSpec.upto codeBuildersSpec)) codeBuildersUptoCard

/-- THE SECOND FORM's CARD OF 'shallotlaw18.CodeDecodes'. -/
def codeDecodesUptoCard : Claim7 := { stood := { row := codeDecodesUptoRow, standIns := [], harness := (true, "1ff7dfc3a42836d68577ba02f2d2bf0ca4b46dcfb14a10feaf22d43b3e746326"), looks := true }, kinds := [], alts := [], laidByText := true, laidKinds := [.data, .data, .data, .sentinel], laidTests := true, laidLooks := .later }
def CodeDecodesUptoCardSaid : Prop := Claim7.holds Tryd.pinned (.plain (OpenSpec.upto codeDecodesSpec)) codeDecodesUptoCard

/-- THE SECOND FORM's CARD OF 'shallotlaw18.CodeKeeps'. -/
def codeKeepsUptoCard : Claim7 := { stood := { row := codeKeepsUptoRow, standIns := [], harness := (true, "1ff7dfc3a42836d68577ba02f2d2bf0ca4b46dcfb14a10feaf22d43b3e746326"), looks := true }, kinds := [], alts := [], laidByText := true, laidKinds := [.data, .data, .data, .sentinel], laidTests := true, laidLooks := .later }
def CodeKeepsUptoCardSaid : Prop := Claim7.holds Tryd.pinned (.plain (OpenSpec.upto codeKeepsSpec)) codeKeepsUptoCard

/-- THE SECOND FORM's CARD OF 'shallotlaw21.LexPlaces'. -/
def lexPlacesUptoCard : Claim7 := { stood := { row := lexPlacesUptoRow, standIns := [], harness := (true, "1ff7dfc3a42836d68577ba02f2d2bf0ca4b46dcfb14a10feaf22d43b3e746326"), looks := true }, kinds := [], alts := [], laidByText := true, laidKinds := [.data, .data, .data, .data, .sentinel, .sentinel, .pinned, .pinned], laidTests := true, laidLooks := .later }
def LexPlacesUptoCardSaid : Prop := Claim7.holds Tryd.pinned (.plain (OpenSpec.upto lexPlacesSpec)) lexPlacesUptoCard

/-- THE SECOND FORM's CARD OF 'shallotlaw21.LexQuotes'. -/
def lexQuotesUptoCard : Claim7 := { stood := { row := lexQuotesUptoRow, standIns := [], harness := (true, "1ff7dfc3a42836d68577ba02f2d2bf0ca4b46dcfb14a10feaf22d43b3e746326"), looks := true }, kinds := [], alts := [], laidByText := true, laidKinds := [.data, .data, .data, .data, .sentinel, .sentinel, .pinned, .pinned], laidTests := true, laidLooks := .later }
def LexQuotesUptoCardSaid : Prop := Claim7.holds Tryd.pinned (.plain (OpenSpec.upto lexQuotesSpec)) lexQuotesUptoCard

/-- THE SECOND FORM's CARD OF 'shallotlaw21.LexStreams'. -/
def lexStreamsUptoCard : Claim7 := { stood := { row := lexStreamsUptoRow, standIns := [], harness := (true, "1ff7dfc3a42836d68577ba02f2d2bf0ca4b46dcfb14a10feaf22d43b3e746326"), looks := true }, kinds := [], alts := [], laidByText := true, laidKinds := [.data, .data, .data, .data, .sentinel, .sentinel, .pinned, .pinned], laidTests := true, laidLooks := .later }
def LexStreamsUptoCardSaid : Prop := Claim7.holds Tryd.pinned (.plain (OpenSpec.upto lexStreamsSpec)) lexStreamsUptoCard
end Rows
end Go.Proofs.YtaijdpckkobofaaDoor
