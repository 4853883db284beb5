/-
  DERIVED. GIVEN WITH THE SEED: THE CARDS: each row of YtppnlijeonneeaaGreatDoorRows.lean that lists a variable, with what it lists TIED to the program's text (the seventh form; the later family's looks); each row that meets fmt, with fmt's text TOLD by the authors' own Lean function (tested against real Go, not proved from fmt's source: count such statements apart). THE CARD IS WHAT COUNTS. Prove the row's statement (the work); the ties are given (YtppnlijeonneeaaGreatDoorTie.lean); close each card by the builder's one call (the guide's Derived/Test/ToyasCard.lean, 'card_holds'). Laid BY PROGRAM, IN A SANDBOX (cutbox-door.mjs). By AI agents, Wed Nov 11 2026. No macro, syntax, notation, axiom, sorry.
-/
import Derived.Test.YtppnlijeonneeaaGreatDoorRows
import GoSem.ClaimSeven
namespace Go.Proofs.YtppnlijeonneeaaGreatDoor
namespace Rows

/-- THE TIED CARD OF 'hanaperlaw21.WritParse'. -/
def writParseCard : Claim7 := { stood := { row := writParseRow, standIns := [], harness := (true, "98cf0d81ffe6dfc50bf814fc6f1e39fa8750019963f4a6bcacef82fdd19c6752"), looks := true }, kinds := [], alts := [], laidByText := true, laidKinds := [.data, .data, .data, .data, .sentinel, .sentinel, .pinned], laidTests := true, laidLooks := .later }
def WritParseCardSaid : Prop := Claim7.holds Tryz.pinned (.plain (OpenSpec.ofChange writParseSpec)) writParseCard

/-- THE SECOND FORM's CARD OF 'hanaperlaw21.WritParse'. -/
def writParseUptoCard : Claim7 := { stood := { row := writParseUptoRow, standIns := [], harness := (true, "98cf0d81ffe6dfc50bf814fc6f1e39fa8750019963f4a6bcacef82fdd19c6752"), looks := true }, kinds := [], alts := [], laidByText := true, laidKinds := [.data, .data, .data, .data, .sentinel, .sentinel, .pinned], laidTests := true, laidLooks := .later }
def WritParseUptoCardSaid : Prop := Claim7.holds Tryz.pinned (.plain (OpenSpec.upto writParseSpec)) writParseUptoCard
end Rows
end Go.Proofs.YtppnlijeonneeaaGreatDoor
