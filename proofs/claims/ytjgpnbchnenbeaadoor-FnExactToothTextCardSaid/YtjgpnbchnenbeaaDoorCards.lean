/-
  DERIVED. GIVEN WITH THE SEED: THE CARDS: each row of YtjgpnbchnenbeaaDoorRows.lean that lists a variable, with what it lists TIED to the program's text (the seventh form; the later family's looks); each row that meets fmt, with fmt's text TOLD by the authors' own Lean function (tested against real Go, not proved from fmt's source: count such statements apart). THE CARD IS WHAT COUNTS. Prove the row's statement (the work); the ties are given (YtjgpnbchnenbeaaDoorTie.lean); close each card by the builder's one call (the guide's Derived/Test/ToyasCard.lean, 'card_holds'). Laid BY PROGRAM, IN A SANDBOX (cutbox-door.mjs). By AI agents, Wed Nov 11 2026. No macro, syntax, notation, axiom, sorry.
-/
import Derived.Test.YtjgpnbchnenbeaaDoorRows
import GoSem.ClaimSeven
namespace Go.Proofs.YtjgpnbchnenbeaaDoor
namespace Rows

/-- THE TIED CARD OF 'laws.FnExactReadPoint'. -/
def fnExactReadPointCard : Claim7 := { stood := { row := fnExactReadPointRow, standIns := [], harness := (true, "5d9b4d33e049c582f5b00bf01bd19dcfebe3fc2196854820815a33ef4fb02673"), looks := true }, kinds := [], alts := [], laidByText := true, laidKinds := [.data, .pinned], laidTests := true, laidLooks := .later }
def FnExactReadPointCardSaid : Prop := Claim7.holds Tryd.pinned (.plain (OpenSpec.ofChange fnExactReadPointSpec)) fnExactReadPointCard

/-- THE TIED CARD OF 'laws.FnExactBoxText'. -/
def fnExactBoxTextCard : Claim7 := { stood := { row := fnExactBoxTextRow, standIns := [], harness := (true, "5d9b4d33e049c582f5b00bf01bd19dcfebe3fc2196854820815a33ef4fb02673"), looks := true }, kinds := [], alts := [], laidByText := true, laidKinds := [.data, .data, .data], laidTests := true, laidLooks := .later }
def FnExactBoxTextCardSaid : Prop := Claim7.holds Tryd.pinned (.plain (OpenSpec.ofChange fnExactBoxTextSpec)) fnExactBoxTextCard

/-- THE TIED CARD OF 'laws.FnExactToothText'. -/
def fnExactToothTextCard : Claim7 := { stood := { row := fnExactToothTextRow, standIns := [], harness := (true, "5d9b4d33e049c582f5b00bf01bd19dcfebe3fc2196854820815a33ef4fb02673"), looks := true }, kinds := [], alts := [], laidByText := true, laidKinds := [.data, .data, .data], laidTests := true, laidLooks := .later }
def FnExactToothTextCardSaid : Prop := Claim7.holds Tryd.pinned (.plain (OpenSpec.ofChange fnExactToothTextSpec)) fnExactToothTextCard

/-- THE TIED CARD OF 'laws.FnSwings'. -/
def fnSwingsCard : Claim7 := { stood := { row := fnSwingsRow, standIns := [], harness := (true, "5d9b4d33e049c582f5b00bf01bd19dcfebe3fc2196854820815a33ef4fb02673"), looks := true }, kinds := [], alts := [], laidByText := true, laidKinds := [.data, .pinned], laidTests := true, laidLooks := .later }
def FnSwingsCardSaid : Prop := Claim7.holds Tryd.pinned (.plain (OpenSpec.ofChange fnSwingsSpec)) fnSwingsCard

/-- THE TIED CARD OF 'laws.FnExactReadTooth'. -/
def fnExactReadToothCard : Claim7 := { stood := { row := fnExactReadToothRow, standIns := [], harness := (true, "5d9b4d33e049c582f5b00bf01bd19dcfebe3fc2196854820815a33ef4fb02673"), looks := true }, kinds := [], alts := [], laidByText := true, laidKinds := [.data, .data, .data, .data, .pinned], laidTests := true, laidLooks := .later }
def FnExactReadToothCardSaid : Prop := Claim7.holds Tryd.pinned (.plain (OpenSpec.ofChange fnExactReadToothSpec)) fnExactReadToothCard

/-- THE TIED CARD OF 'laws.FnWears'. -/
def fnWearsCard : Claim7 := { stood := { row := fnWearsRow, standIns := [], harness := (true, "5d9b4d33e049c582f5b00bf01bd19dcfebe3fc2196854820815a33ef4fb02673"), looks := true }, kinds := [], alts := [], laidByText := true, laidKinds := [.data, .data, .data, .data, .pinned], laidTests := true, laidLooks := .later }
def FnWearsCardSaid : Prop := Claim7.holds Tryd.pinned (.plain (OpenSpec.ofChange fnWearsSpec)) fnWearsCard

/-- THE TIED CARD OF 'laws.FnExactReadBox'. -/
def fnExactReadBoxCard : Claim7 := { stood := { row := fnExactReadBoxRow, standIns := [], harness := (true, "5d9b4d33e049c582f5b00bf01bd19dcfebe3fc2196854820815a33ef4fb02673"), looks := true }, kinds := [], alts := [], laidByText := true, laidKinds := [.data, .data, .data, .data, .sentinel, .sentinel, .pinned], laidTests := true, laidLooks := .later }
def FnExactReadBoxCardSaid : Prop := Claim7.holds Tryd.pinned (.plain (OpenSpec.ofChange fnExactReadBoxSpec)) fnExactReadBoxCard

/-- THE SECOND FORM's CARD OF 'laws.FnExactReadPoint'. -/
def fnExactReadPointUptoCard : Claim7 := { stood := { row := fnExactReadPointUptoRow, standIns := [], harness := (true, "5d9b4d33e049c582f5b00bf01bd19dcfebe3fc2196854820815a33ef4fb02673"), looks := true }, kinds := [], alts := [], laidByText := true, laidKinds := [.data, .pinned], laidTests := true, laidLooks := .later }
def FnExactReadPointUptoCardSaid : Prop := Claim7.holds Tryd.pinned (.plain (OpenSpec.upto fnExactReadPointSpec)) fnExactReadPointUptoCard

/-- THE SECOND FORM's CARD OF 'laws.FnExactBoxText'. -/
def fnExactBoxTextUptoCard : Claim7 := { stood := { row := fnExactBoxTextUptoRow, standIns := [], harness := (true, "5d9b4d33e049c582f5b00bf01bd19dcfebe3fc2196854820815a33ef4fb02673"), looks := true }, kinds := [], alts := [], laidByText := true, laidKinds := [.data, .data, .data], laidTests := true, laidLooks := .later }
def FnExactBoxTextUptoCardSaid : Prop := Claim7.holds Tryd.pinned (.plain (OpenSpec.upto fnExactBoxTextSpec)) fnExactBoxTextUptoCard

/-- THE SECOND FORM's CARD OF 'laws.FnExactToothText'. -/
def fnExactToothTextUptoCard : Claim7 := { stood := { row := fnExactToothTextUptoRow, standIns := [], harness := (true, "5d9b4d33e049c582f5b00bf01bd19dcfebe3fc2196854820815a33ef4fb02673"), looks := true }, kinds := [], alts := [], laidByText := true, laidKinds := [.data, .data, .data], laidTests := true, laidLooks := .later }
def FnExactToothTextUptoCardSaid : Prop := Claim7.holds Tryd.pinned (.plain (OpenSpec.upto fnExactToothTextSpec)) fnExactToothTextUptoCard

/-- THE SECOND FORM's CARD OF 'laws.FnSwings'. -/
def fnSwingsUptoCard : Claim7 := { stood := { row := fnSwingsUptoRow, standIns := [], harness := (true, "5d9b4d33e049c582f5b00bf01bd19dcfebe3fc2196854820815a33ef4fb02673"), looks := true }, kinds := [], alts := [], laidByText := true, laidKinds := [.data, .pinned], laidTests := true, laidLooks := .later }
def FnSwingsUptoCardSaid : Prop := Claim7.holds Tryd.pinned (.plain (OpenSpec.upto fnSwingsSpec)) fnSwingsUptoCard

/-- THE SECOND FORM's CARD OF 'laws.FnExactReadTooth'. -/
def fnExactReadToothUptoCard : Claim7 := { stood := { row := fnExactReadToothUptoRow, standIns := [], harness := (true, "5d9b4d33e049c582f5b00bf01bd19dcfebe3fc2196854820815a33ef4fb02673"), looks := true }, kinds := [], alts := [], laidByText := true, laidKinds := [.data, .data, .data, .data, .pinned], laidTests := true, laidLooks := .later }
def FnExactReadToothUptoCardSaid : Prop := Claim7.holds Tryd.pinned (.plain (OpenSpec.upto fnExactReadToothSpec)) fnExactReadToothUptoCard

/-- THE SECOND FORM's CARD OF 'laws.FnWears'. -/
def fnWearsUptoCard : Claim7 := { stood := { row := fnWearsUptoRow, standIns := [], harness := (true, "5d9b4d33e049c582f5b00bf01bd19dcfebe3fc2196854820815a33ef4fb02673"), looks := true }, kinds := [], alts := [], laidByText := true, laidKinds := [.data, .data, .data, .data, .pinned], laidTests := true, laidLooks := .later }
def FnWearsUptoCardSaid : Prop := Claim7.holds Tryd.pinned (.plain (OpenSpec.upto fnWearsSpec)) fnWearsUptoCard

/-- THE SECOND FORM's CARD OF 'laws.FnExactReadBox'. -/
def fnExactReadBoxUptoCard : Claim7 := { stood := { row := fnExactReadBoxUptoRow, standIns := [], harness := (true, "5d9b4d33e049c582f5b00bf01bd19dcfebe3fc2196854820815a33ef4fb02673"), looks := true }, kinds := [], alts := [], laidByText := true, laidKinds := [.data, .data, .data, .data, .sentinel, .sentinel, .pinned], laidTests := true, laidLooks := .later }
def FnExactReadBoxUptoCardSaid : Prop := Claim7.holds Tryd.pinned (.plain (OpenSpec.upto fnExactReadBoxSpec)) fnExactReadBoxUptoCard
end Rows
end Go.Proofs.YtjgpnbchnenbeaaDoor
