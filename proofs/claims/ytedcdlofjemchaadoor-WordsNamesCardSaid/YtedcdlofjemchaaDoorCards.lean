/-
  DERIVED. GIVEN WITH THE SEED: THE CARDS: each row of YtedcdlofjemchaaDoorRows.lean that lists a variable, with what it lists TIED to the program's text (the seventh form; the later family's looks); each row that meets fmt, with fmt's text TOLD by the authors' own Lean function (tested against real Go, not proved from fmt's source: count such statements apart). THE CARD IS WHAT COUNTS. Prove the row's statement (the work); the ties are given (YtedcdlofjemchaaDoorTie.lean); close each card by the builder's one call (the guide's Derived/Test/ToyasCard.lean, 'card_holds'). Laid BY PROGRAM, IN A SANDBOX (cutbox-door.mjs). By AI agents, Wed Nov 11 2026. No macro, syntax, notation, axiom, sorry.
-/
import Derived.Test.YtedcdlofjemchaaDoorRows
import GoSem.ClaimSeven
namespace Go.Proofs.YtedcdlofjemchaaDoor
namespace Rows

/-- THE TIED CARD OF 'amanuensislaw08.WordsDigits'. -/
def wordsDigitsCard : Claim7 := { stood := { row := wordsDigitsRow, standIns := [], harness := (true, "41c063155a29e5ad3646a6ab760c9073de3ce15ade1e10e70cd1df25f5eddb1e"), looks := false }, kinds := [], alts := [], laidByText := true, laidKinds := [.data, .pinned], laidTests := true, laidLooks := .later }
def WordsDigitsCardSaid : Prop := Claim7.holds Tryd.pinned (.plain (OpenSpec.ofChange wordsDigitsSpec)) wordsDigitsCard

/-- THE TIED CARD OF 'amanuensislaw08.WordsNames'. -/
def wordsNamesCard : Claim7 := { stood := { row := wordsNamesRow, standIns := [], harness := (true, "41c063155a29e5ad3646a6ab760c9073de3ce15ade1e10e70cd1df25f5eddb1e"), looks := false }, kinds := [], alts := [], laidByText := true, laidKinds := [.data, .listed, .data, .pinned, .pinned], laidTests := true, laidLooks := .later }
def WordsNamesCardSaid : Prop := Claim7.holds Tryd.pinned (.plain (OpenSpec.ofChange wordsNamesSpec)) wordsNamesCard

/-- THE SECOND FORM's CARD OF 'amanuensislaw08.WordsDigits'. -/
def wordsDigitsUptoCard : Claim7 := { stood := { row := wordsDigitsUptoRow, standIns := [], harness := (true, "41c063155a29e5ad3646a6ab760c9073de3ce15ade1e10e70cd1df25f5eddb1e"), looks := false }, kinds := [], alts := [], laidByText := true, laidKinds := [.data, .pinned], laidTests := true, laidLooks := .later }
def WordsDigitsUptoCardSaid : Prop := Claim7.holds Tryd.pinned (.plain (OpenSpec.upto wordsDigitsSpec)) wordsDigitsUptoCard

/-- THE SECOND FORM's CARD OF 'amanuensislaw08.WordsNames'. -/
def wordsNamesUptoCard : Claim7 := { stood := { row := wordsNamesUptoRow, standIns := [], harness := (true, "41c063155a29e5ad3646a6ab760c9073de3ce15ade1e10e70cd1df25f5eddb1e"), looks := false }, kinds := [], alts := [], laidByText := true, laidKinds := [.data, .listed, .data, .pinned, .pinned], laidTests := true, laidLooks := .later }
def WordsNamesUptoCardSaid : Prop := Claim7.holds Tryd.pinned (.plain (OpenSpec.upto wordsNamesSpec)) wordsNamesUptoCard
end Rows
end Go.Proofs.YtedcdlofjemchaaDoor
