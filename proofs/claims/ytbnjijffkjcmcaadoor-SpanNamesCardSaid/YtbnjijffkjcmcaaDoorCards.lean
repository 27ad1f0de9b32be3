/-
  DERIVED. GIVEN WITH THE SEED: THE CARDS: each row of YtbnjijffkjcmcaaDoorRows.lean that lists a variable, with what it lists TIED to the program's text (the seventh form; the later family's looks); each row that meets fmt, with fmt's text TOLD by the authors' own Lean function (tested against real Go, not proved from fmt's source: count such statements apart). THE CARD IS WHAT COUNTS. Prove the row's statement (the work); the ties are given (YtbnjijffkjcmcaaDoorTie.lean); close each card by the builder's one call (the guide's Derived/Test/ToyasCard.lean, 'card_holds'). Laid BY PROGRAM, IN A SANDBOX (cutbox-door.mjs). By AI agents, Wed Nov 11 2026. No macro, syntax, notation, axiom, sorry.
-/
import Derived.Test.YtbnjijffkjcmcaaDoorRows
import GoSem.ClaimSeven
namespace Go.Proofs.YtbnjijffkjcmcaaDoor
namespace Rows

/-- THE TIED CARD OF 'gatepathlaw01.NumberOrder'. -/
def numberOrderCard : Claim7 := { stood := { row := numberOrderRow, standIns := [], harness := (true, "c0ea4c4150479217396dcbc0c5f277155f8403788f21918df5420d968a99d510"), looks := true }, kinds := [], alts := [], laidByText := true, laidKinds := [.data, .data, .data, .data, .sentinel, .sentinel, .pinned], laidTests := true, laidLooks := .later }
def NumberOrderCardSaid : Prop := Claim7.holds Tryd.pinned (.plain (OpenSpec.ofChange numberOrderSpec)) numberOrderCard

/-- THE TIED CARD OF 'gatepathlaw01.NumberTexts'. -/
def numberTextsCard : Claim7 := { stood := { row := numberTextsRow, standIns := [], harness := (true, "c0ea4c4150479217396dcbc0c5f277155f8403788f21918df5420d968a99d510"), looks := true }, kinds := [], alts := [], laidByText := true, laidKinds := [.data, .data, .data, .data, .sentinel, .sentinel, .pinned], laidTests := true, laidLooks := .later }
def NumberTextsCardSaid : Prop := Claim7.holds Tryd.pinned (.plain (OpenSpec.ofChange numberTextsSpec)) numberTextsCard

/-- THE TIED CARD OF 'gatepathlaw01.NumberCuts'. -/
def numberCutsCard : Claim7 := { stood := { row := numberCutsRow, standIns := [], harness := (true, "c0ea4c4150479217396dcbc0c5f277155f8403788f21918df5420d968a99d510"), looks := true }, kinds := [], alts := [], laidByText := true, laidKinds := [.data, .data, .data, .data, .sentinel, .sentinel, .pinned], laidTests := true, laidLooks := .later }
def NumberCutsCardSaid : Prop := Claim7.holds Tryd.pinned (.plain (OpenSpec.ofChange numberCutsSpec)) numberCutsCard

/-- THE TIED CARD OF 'gatepathlaw01.NumberInverse'. -/
def numberInverseCard : Claim7 := { stood := { row := numberInverseRow, standIns := [], harness := (true, "c0ea4c4150479217396dcbc0c5f277155f8403788f21918df5420d968a99d510"), looks := true }, kinds := [], alts := [], laidByText := true, laidKinds := [.data, .data, .data, .data, .sentinel, .sentinel, .pinned], laidTests := true, laidLooks := .later }
def NumberInverseCardSaid : Prop := Claim7.holds Tryd.pinned (.plain (OpenSpec.ofChange numberInverseSpec)) numberInverseCard

/-- THE TIED CARD OF 'gatepathlaw01.NumberCompare'. -/
def numberCompareCard : Claim7 := { stood := { row := numberCompareRow, standIns := [], harness := (true, "c0ea4c4150479217396dcbc0c5f277155f8403788f21918df5420d968a99d510"), looks := true }, kinds := [], alts := [], laidByText := true, laidKinds := [.data, .data, .data, .data, .sentinel, .sentinel, .pinned], laidTests := true, laidLooks := .later }
def NumberCompareCardSaid : Prop := Claim7.holds Tryd.pinned (.plain (OpenSpec.ofChange numberCompareSpec)) numberCompareCard

/-- THE TIED CARD OF 'gatepathlaw01.NumberNames'. -/
def numberNamesCard : Claim7 := { stood := { row := numberNamesRow, standIns := [], harness := (true, "c0ea4c4150479217396dcbc0c5f277155f8403788f21918df5420d968a99d510"), looks := true }, kinds := [], alts := [], laidByText := true, laidKinds := [.data, .data, .data, .data, .sentinel, .sentinel, .pinned], laidTests := true, laidLooks := .later }
def NumberNamesCardSaid : Prop := Claim7.holds Tryd.pinned (.plain (OpenSpec.ofChange numberNamesSpec)) numberNamesCard

/-- THE TIED CARD OF 'gatepathlaw02.SpanExact'. -/
def spanExactCard : Claim7 := { stood := { row := spanExactRow, standIns := [], harness := (true, "c0ea4c4150479217396dcbc0c5f277155f8403788f21918df5420d968a99d510"), looks := true }, kinds := [], alts := [], laidByText := true, laidKinds := [.data, .data, .data], laidTests := true, laidLooks := .later }
def SpanExactCardSaid : Prop := Claim7.holds Tryd.pinned (.plain (OpenSpec.ofChange spanExactSpec)) spanExactCard

/-- THE TIED CARD OF 'gatepathlaw02.SpanLeast'. -/
def spanLeastCard : Claim7 := { stood := { row := spanLeastRow, standIns := [], harness := (true, "c0ea4c4150479217396dcbc0c5f277155f8403788f21918df5420d968a99d510"), looks := true }, kinds := [], alts := [], laidByText := true, laidKinds := [.data, .data, .data], laidTests := true, laidLooks := .later }
def SpanLeastCardSaid : Prop := Claim7.holds Tryd.pinned (.plain (OpenSpec.ofChange spanLeastSpec)) spanLeastCard

/-- THE TIED CARD OF 'gatepathlaw02.SpanSteps'. -/
def spanStepsCard : Claim7 := { stood := { row := spanStepsRow, standIns := [], harness := (true, "c0ea4c4150479217396dcbc0c5f277155f8403788f21918df5420d968a99d510"), looks := true }, kinds := [], alts := [], laidByText := true, laidKinds := [.data, .data, .data], laidTests := true, laidLooks := .later }
def SpanStepsCardSaid : Prop := Claim7.holds Tryd.pinned (.plain (OpenSpec.ofChange spanStepsSpec)) spanStepsCard

/-- THE TIED CARD OF 'gatepathlaw02.SpanInverse'. -/
def spanInverseCard : Claim7 := { stood := { row := spanInverseRow, standIns := [], harness := (true, "c0ea4c4150479217396dcbc0c5f277155f8403788f21918df5420d968a99d510"), looks := true }, kinds := [], alts := [], laidByText := true, laidKinds := [.data, .data, .data, .data, .sentinel, .sentinel, .pinned], laidTests := true, laidLooks := .later }
def SpanInverseCardSaid : Prop := Claim7.holds Tryd.pinned (.plain (OpenSpec.ofChange spanInverseSpec)) spanInverseCard

/-- THE TIED CARD OF 'gatepathlaw02.SpanNames'. -/
def spanNamesCard : Claim7 := { stood := { row := spanNamesRow, standIns := [], harness := (true, "c0ea4c4150479217396dcbc0c5f277155f8403788f21918df5420d968a99d510"), looks := true }, kinds := [], alts := [], laidByText := true, laidKinds := [.data, .data, .data, .data, .sentinel, .sentinel, .pinned], laidTests := true, laidLooks := .later }
def SpanNamesCardSaid : Prop := Claim7.holds Tryd.pinned (.plain (OpenSpec.ofChange spanNamesSpec)) spanNamesCard

/-- THE SECOND FORM's CARD OF 'gatepathlaw01.NumberOrder'. -/
def numberOrderUptoCard : Claim7 := { stood := { row := numberOrderUptoRow, standIns := [], harness := (true, "c0ea4c4150479217396dcbc0c5f277155f8403788f21918df5420d968a99d510"), looks := true }, kinds := [], alts := [], laidByText := true, laidKinds := [.data, .data, .data, .data, .sentinel, .sentinel, .pinned], laidTests := true, laidLooks := .later }
def NumberOrderUptoCardSaid : Prop := Claim7.holds Tryd.pinned (.plain (OpenSpec.upto numberOrderSpec)) numberOrderUptoCard

/-- THE SECOND FORM's CARD OF 'gatepathlaw01.NumberTexts'. -/
def numberTextsUptoCard : Claim7 := { stood := { row := numberTextsUptoRow, standIns := [], harness := (true, "c0ea4c4150479217396dcbc0c5f277155f8403788f21918df5420d968a99d510"), looks := true }, kinds := [], alts := [], laidByText := true, laidKinds := [.data, .data, .data, .data, .sentinel, .sentinel, .pinned], laidTests := true, laidLooks := .later }
def NumberTextsUptoCardSaid : Prop := Claim7.holds Tryd.pinned (.plain (OpenSpec.upto numberTextsSpec)) numberTextsUptoCard

/-- THE SECOND FORM's CARD OF 'gatepathlaw01.NumberCuts'. -/
def numberCutsUptoCard : Claim7 := { stood := { row := numberCutsUptoRow, standIns := [], harness := (true, "c0ea4c4150479217396dcbc0c5f277155f8403788f21918df5420d968a99d510"), looks := true }, kinds := [], alts := [], laidByText := true, laidKinds := [.data, .data, .data, .data, .sentinel, .sentinel, .pinned], laidTests := true, laidLooks := .later }
def NumberCutsUptoCardSaid : Prop := Claim7.holds Tryd.pinned (.plain (OpenSpec.upto numberCutsSpec)) numberCutsUptoCard

/-- THE SECOND FORM's CARD OF 'gatepathlaw01.NumberInverse'. -/
def numberInverseUptoCard : Claim7 := { stood := { row := numberInverseUptoRow, standIns := [], harness := (true, "c0ea4c4150479217396dcbc0c5f277155f8403788f21918df5420d968a99d510"), looks := true }, kinds := [], alts := [], laidByText := true, laidKinds := [.data, .data, .data, .data, .sentinel, .sentinel, .pinned], laidTests := true, laidLooks := .later }
def NumberInverseUptoCardSaid : Prop := Claim7.holds Tryd.pinned (.plain (OpenSpec.upto numberInverseSpec)) numberInverseUptoCard

/-- THE SECOND FORM's CARD OF 'gatepathlaw01.NumberCompare'. -/
def numberCompareUptoCard : Claim7 := { stood := { row := numberCompareUptoRow, standIns := [], harness := (true, "c0ea4c4150479217396dcbc0c5f277155f8403788f21918df5420d968a99d510"), looks := true }, kinds := [], alts := [], laidByText := true, laidKinds := [.data, .data, .data, .data, .sentinel, .sentinel, .pinned], laidTests := true, laidLooks := .later }
def NumberCompareUptoCardSaid : Prop := Claim7.holds Tryd.pinned (.plain (OpenSpec.upto numberCompareSpec)) numberCompareUptoCard

/-- THE SECOND FORM's CARD OF 'gatepathlaw01.NumberNames'. -/
def numberNamesUptoCard : Claim7 := { stood := { row := numberNamesUptoRow, standIns := [], harness := (true, "c0ea4c4150479217396dcbc0c5f277155f8403788f21918df5420d968a99d510"), looks := true }, kinds := [], alts := [], laidByText := true, laidKinds := [.data, .data, .data, .data, .sentinel, .sentinel, .pinned], laidTests := true, laidLooks := .later }
def NumberNamesUptoCardSaid : Prop := Claim7.holds Tryd.pinned (.plain (OpenSpec.upto numberNamesSpec)) numberNamesUptoCard

/-- THE SECOND FORM's CARD OF 'gatepathlaw02.SpanExact'. -/
def spanExactUptoCard : Claim7 := { stood := { row := spanExactUptoRow, standIns := [], harness := (true, "c0ea4c4150479217396dcbc0c5f277155f8403788f21918df5420d968a99d510"), looks := true }, kinds := [], alts := [], laidByText := true, laidKinds := [.data, .data, .data], laidTests := true, laidLooks := .later }
def SpanExactUptoCardSaid : Prop := Claim7.holds Tryd.pinned (.plain (OpenSpec.upto spanExactSpec)) spanExactUptoCard

/-- THE SECOND FORM's CARD OF 'gatepathlaw02.SpanLeast'. -/
def spanLeastUptoCard : Claim7 := { stood := { row := spanLeastUptoRow, standIns := [], harness := (true, "c0ea4c4150479217396dcbc0c5f277155f8403788f21918df5420d968a99d510"), looks := true }, kinds := [], alts := [], laidByText := true, laidKinds := [.data, .data, .data], laidTests := true, laidLooks := .later }
def SpanLeastUptoCardSaid : Prop := Claim7.holds Tryd.pinned (.plain (OpenSpec.upto spanLeastSpec)) spanLeastUptoCard

/-- THE SECOND FORM's CARD OF 'gatepathlaw02.SpanSteps'. -/
def spanStepsUptoCard : Claim7 := { stood := { row := spanStepsUptoRow, standIns := [], harness := (true, "c0ea4c4150479217396dcbc0c5f277155f8403788f21918df5420d968a99d510"), looks := true }, kinds := [], alts := [], laidByText := true, laidKinds := [.data, .data, .data], laidTests := true, laidLooks := .later }
def SpanStepsUptoCardSaid : Prop := Claim7.holds Tryd.pinned (.plain (OpenSpec.upto spanStepsSpec)) spanStepsUptoCard

/-- THE SECOND FORM's CARD OF 'gatepathlaw02.SpanInverse'. -/
def spanInverseUptoCard : Claim7 := { stood := { row := spanInverseUptoRow, standIns := [], harness := (true, "c0ea4c4150479217396dcbc0c5f277155f8403788f21918df5420d968a99d510"), looks := true }, kinds := [], alts := [], laidByText := true, laidKinds := [.data, .data, .data, .data, .sentinel, .sentinel, .pinned], laidTests := true, laidLooks := .later }
def SpanInverseUptoCardSaid : Prop := Claim7.holds Tryd.pinned (.plain (OpenSpec.upto spanInverseSpec)) spanInverseUptoCard

/-- THE SECOND FORM's CARD OF 'gatepathlaw02.SpanNames'. -/
def spanNamesUptoCard : Claim7 := { stood := { row := spanNamesUptoRow, standIns := [], harness := (true, "c0ea4c4150479217396dcbc0c5f277155f8403788f21918df5420d968a99d510"), looks := true }, kinds := [], alts := [], laidByText := true, laidKinds := [.data, .data, .data, .data, .sentinel, .sentinel, .pinned], laidTests := true, laidLooks := .later }
def SpanNamesUptoCardSaid : Prop := Claim7.holds Tryd.pinned (.plain (OpenSpec.upto spanNamesSpec)) spanNamesUptoCard
end Rows
end Go.Proofs.YtbnjijffkjcmcaaDoor
