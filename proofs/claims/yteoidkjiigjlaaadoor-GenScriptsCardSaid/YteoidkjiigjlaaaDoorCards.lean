/-
  DERIVED. GIVEN WITH THE SEED: THE CARDS: each row of YteoidkjiigjlaaaDoorRows.lean that lists a variable, with what it lists TIED to the program's text (the seventh form; the later family's looks); each row that meets fmt, with fmt's text TOLD by the authors' own Lean function (tested against real Go, not proved from fmt's source: count such statements apart). THE CARD IS WHAT COUNTS. Prove the row's statement (the work); the ties are given (YteoidkjiigjlaaaDoorTie.lean); close each card by the builder's one call (the guide's Derived/Test/ToyasCard.lean, 'card_holds'). Laid BY PROGRAM, IN A SANDBOX (cutbox-door.mjs). By AI agents, Wed Nov 11 2026. No macro, syntax, notation, axiom, sorry.
-/
import Derived.Test.YteoidkjiigjlaaaDoorRows
import GoSem.ClaimSeven
namespace Go.Proofs.YteoidkjiigjlaaaDoor
namespace Rows

/-- THE TIED CARD OF 'hanaperlaw23.EventPuts'. -/
def eventPutsCard : Claim7 := { stood := { row := eventPutsRow, standIns := [], harness := (true, "e411c0cc57dbad0bcbe8329bdd0205d09ddcd2f3b267c0d8e16f9bd8d5fdd52d"), looks := true }, kinds := [], alts := [], laidByText := true, laidKinds := [.data, .data, .data], laidTests := true, laidLooks := .later }
def EventPutsCardSaid : Prop := Claim7.holds Tryd.pinned (.plain (OpenSpec.ofChange eventPutsSpec)) eventPutsCard

/-- THE TIED CARD OF 'hanaperlaw23.EventGets'. -/
def eventGetsCard : Claim7 := { stood := { row := eventGetsRow, standIns := [], harness := (true, "e411c0cc57dbad0bcbe8329bdd0205d09ddcd2f3b267c0d8e16f9bd8d5fdd52d"), looks := true }, kinds := [], alts := [], laidByText := true, laidKinds := [.data, .data, .data], laidTests := true, laidLooks := .later }
def EventGetsCardSaid : Prop := Claim7.holds Tryd.pinned (.plain (OpenSpec.ofChange eventGetsSpec)) eventGetsCard

/-- THE TIED CARD OF 'hanaperlaw23.EventBack'. -/
def eventBackCard : Claim7 := { stood := { row := eventBackRow, standIns := [], harness := (true, "e411c0cc57dbad0bcbe8329bdd0205d09ddcd2f3b267c0d8e16f9bd8d5fdd52d"), looks := true }, kinds := [], alts := [], laidByText := true, laidKinds := [.data, .data, .data], laidTests := true, laidLooks := .later }
def EventBackCardSaid : Prop := Claim7.holds Tryd.pinned (.plain (OpenSpec.ofChange eventBackSpec)) eventBackCard

/-- THE TIED CARD OF 'hanaperlaw41.GenScripts'. -/
def genScriptsCard : Claim7 := { stood := { row := genScriptsRow, standIns := [], harness := (true, "e411c0cc57dbad0bcbe8329bdd0205d09ddcd2f3b267c0d8e16f9bd8d5fdd52d"), looks := true }, kinds := [], alts := [], laidByText := true, laidKinds := [.data, .data, .data], laidTests := true, laidLooks := .later }
def GenScriptsCardSaid : Prop := Claim7.holds Tryd.pinned (.plain (OpenSpec.ofChange genScriptsSpec)) genScriptsCard

/-- THE TIED CARD OF 'hanaperlaw15.SpanDays'. -/
def spanDaysCard : Claim7 := { stood := { row := spanDaysRow, standIns := [], harness := (true, "e411c0cc57dbad0bcbe8329bdd0205d09ddcd2f3b267c0d8e16f9bd8d5fdd52d"), looks := true }, kinds := [], alts := [], laidByText := true, laidKinds := [.data, .data, .data, .sentinel, .sentinel], laidTests := true, laidLooks := .later }
def SpanDaysCardSaid : Prop := Claim7.holds Tryd.pinned (.plain (OpenSpec.ofChange spanDaysSpec)) spanDaysCard

/-- THE TIED CARD OF 'hanaperlaw15.SpanBack'. -/
def spanBackCard : Claim7 := { stood := { row := spanBackRow, standIns := [], harness := (true, "e411c0cc57dbad0bcbe8329bdd0205d09ddcd2f3b267c0d8e16f9bd8d5fdd52d"), looks := true }, kinds := [], alts := [], laidByText := true, laidKinds := [.data, .data, .data, .sentinel, .sentinel], laidTests := true, laidLooks := .later }
def SpanBackCardSaid : Prop := Claim7.holds Tryd.pinned (.plain (OpenSpec.ofChange spanBackSpec)) spanBackCard

/-- THE TIED CARD OF 'hanaperlaw15.SpanAfter'. -/
def spanAfterCard : Claim7 := { stood := { row := spanAfterRow, standIns := [], harness := (true, "e411c0cc57dbad0bcbe8329bdd0205d09ddcd2f3b267c0d8e16f9bd8d5fdd52d"), looks := true }, kinds := [], alts := [], laidByText := true, laidKinds := [.data, .data, .data, .sentinel, .sentinel], laidTests := true, laidLooks := .later }
def SpanAfterCardSaid : Prop := Claim7.holds Tryd.pinned (.plain (OpenSpec.ofChange spanAfterSpec)) spanAfterCard

/-- THE SECOND FORM's CARD OF 'hanaperlaw23.EventPuts'. -/
def eventPutsUptoCard : Claim7 := { stood := { row := eventPutsUptoRow, standIns := [], harness := (true, "e411c0cc57dbad0bcbe8329bdd0205d09ddcd2f3b267c0d8e16f9bd8d5fdd52d"), looks := true }, kinds := [], alts := [], laidByText := true, laidKinds := [.data, .data, .data], laidTests := true, laidLooks := .later }
def EventPutsUptoCardSaid : Prop := Claim7.holds Tryd.pinned (.plain (OpenSpec.upto eventPutsSpec)) eventPutsUptoCard

/-- THE SECOND FORM's CARD OF 'hanaperlaw23.EventGets'. -/
def eventGetsUptoCard : Claim7 := { stood := { row := eventGetsUptoRow, standIns := [], harness := (true, "e411c0cc57dbad0bcbe8329bdd0205d09ddcd2f3b267c0d8e16f9bd8d5fdd52d"), looks := true }, kinds := [], alts := [], laidByText := true, laidKinds := [.data, .data, .data], laidTests := true, laidLooks := .later }
def EventGetsUptoCardSaid : Prop := Claim7.holds Tryd.pinned (.plain (OpenSpec.upto eventGetsSpec)) eventGetsUptoCard

/-- THE SECOND FORM's CARD OF 'hanaperlaw23.EventBack'. -/
def eventBackUptoCard : Claim7 := { stood := { row := eventBackUptoRow, standIns := [], harness := (true, "e411c0cc57dbad0bcbe8329bdd0205d09ddcd2f3b267c0d8e16f9bd8d5fdd52d"), looks := true }, kinds := [], alts := [], laidByText := true, laidKinds := [.data, .data, .data], laidTests := true, laidLooks := .later }
def EventBackUptoCardSaid : Prop := Claim7.holds Tryd.pinned (.plain (OpenSpec.upto eventBackSpec)) eventBackUptoCard

/-- THE SECOND FORM's CARD OF 'hanaperlaw41.GenScripts'. -/
def genScriptsUptoCard : Claim7 := { stood := { row := genScriptsUptoRow, standIns := [], harness := (true, "e411c0cc57dbad0bcbe8329bdd0205d09ddcd2f3b267c0d8e16f9bd8d5fdd52d"), looks := true }, kinds := [], alts := [], laidByText := true, laidKinds := [.data, .data, .data], laidTests := true, laidLooks := .later }
def GenScriptsUptoCardSaid : Prop := Claim7.holds Tryd.pinned (.plain (OpenSpec.upto genScriptsSpec)) genScriptsUptoCard

/-- THE SECOND FORM's CARD OF 'hanaperlaw15.SpanDays'. -/
def spanDaysUptoCard : Claim7 := { stood := { row := spanDaysUptoRow, standIns := [], harness := (true, "e411c0cc57dbad0bcbe8329bdd0205d09ddcd2f3b267c0d8e16f9bd8d5fdd52d"), looks := true }, kinds := [], alts := [], laidByText := true, laidKinds := [.data, .data, .data, .sentinel, .sentinel], laidTests := true, laidLooks := .later }
def SpanDaysUptoCardSaid : Prop := Claim7.holds Tryd.pinned (.plain (OpenSpec.upto spanDaysSpec)) spanDaysUptoCard

/-- THE SECOND FORM's CARD OF 'hanaperlaw15.SpanBack'. -/
def spanBackUptoCard : Claim7 := { stood := { row := spanBackUptoRow, standIns := [], harness := (true, "e411c0cc57dbad0bcbe8329bdd0205d09ddcd2f3b267c0d8e16f9bd8d5fdd52d"), looks := true }, kinds := [], alts := [], laidByText := true, laidKinds := [.data, .data, .data, .sentinel, .sentinel], laidTests := true, laidLooks := .later }
def SpanBackUptoCardSaid : Prop := Claim7.holds Tryd.pinned (.plain (OpenSpec.upto spanBackSpec)) spanBackUptoCard

/-- THE SECOND FORM's CARD OF 'hanaperlaw15.SpanAfter'. -/
def spanAfterUptoCard : Claim7 := { stood := { row := spanAfterUptoRow, standIns := [], harness := (true, "e411c0cc57dbad0bcbe8329bdd0205d09ddcd2f3b267c0d8e16f9bd8d5fdd52d"), looks := true }, kinds := [], alts := [], laidByText := true, laidKinds := [.data, .data, .data, .sentinel, .sentinel], laidTests := true, laidLooks := .later }
def SpanAfterUptoCardSaid : Prop := Claim7.holds Tryd.pinned (.plain (OpenSpec.upto spanAfterSpec)) spanAfterUptoCard
end Rows
end Go.Proofs.YteoidkjiigjlaaaDoor
