/-
  DERIVED. GIVEN WITH THE SEED: THE CARDS: each row of YtogpmihepfnoaaaDoorRows.lean that lists a variable, with what it lists TIED to the program's text (the seventh form; the later family's looks); each row that meets fmt, with fmt's text TOLD by the authors' own Lean function (tested against real Go, not proved from fmt's source: count such statements apart). THE CARD IS WHAT COUNTS. Prove the row's statement (the work); the ties are given (YtogpmihepfnoaaaDoorTie.lean); close each card by the builder's one call (the guide's Derived/Test/ToyasCard.lean, 'card_holds'). Laid BY PROGRAM, IN A SANDBOX (cutbox-door.mjs). By AI agents, Wed Nov 11 2026. No macro, syntax, notation, axiom, sorry.
-/
import Derived.Test.YtogpmihepfnoaaaDoorRows
import GoSem.ClaimSeven
namespace Go.Proofs.YtogpmihepfnoaaaDoor
namespace Rows

/-- THE TIED CARD OF 'hanaperlaw16.LexAll'. -/
def lexAllCard : Claim7 := { stood := { row := lexAllRow, standIns := [], harness := (true, "e9545ddd26f5a6b139547deab1a94d4a338d16bf657dc2c1e6f59f9d95b68af5"), looks := true }, kinds := [], alts := [], laidByText := true, laidKinds := [.data, .data, .data, .sentinel, .sentinel], laidTests := true, laidLooks := .later }
def LexAllCardSaid : Prop := Claim7.holds Tryd.pinned (.plain (OpenSpec.ofChange lexAllSpec)) lexAllCard

/-- THE TIED CARD OF 'hanaperlaw16.LexOrder'. -/
def lexOrderCard : Claim7 := { stood := { row := lexOrderRow, standIns := [], harness := (true, "e9545ddd26f5a6b139547deab1a94d4a338d16bf657dc2c1e6f59f9d95b68af5"), looks := true }, kinds := [], alts := [], laidByText := true, laidKinds := [.data, .data, .data, .sentinel, .sentinel], laidTests := true, laidLooks := .later }
def LexOrderCardSaid : Prop := Claim7.holds Tryd.pinned (.plain (OpenSpec.ofChange lexOrderSpec)) lexOrderCard

/-- THE TIED CARD OF 'hanaperlaw16.LexJoins'. -/
def lexJoinsCard : Claim7 := { stood := { row := lexJoinsRow, standIns := [], harness := (true, "e9545ddd26f5a6b139547deab1a94d4a338d16bf657dc2c1e6f59f9d95b68af5"), looks := true }, kinds := [], alts := [], laidByText := true, laidKinds := [.data, .data, .data, .sentinel, .sentinel], laidTests := true, laidLooks := .later }
def LexJoinsCardSaid : Prop := Claim7.holds Tryd.pinned (.plain (OpenSpec.ofChange lexJoinsSpec)) lexJoinsCard

/-- THE TIED CARD OF 'hanaperlaw17.RuleChecks'. -/
def ruleChecksCard : Claim7 := { stood := { row := ruleChecksRow, standIns := [], harness := (true, "e9545ddd26f5a6b139547deab1a94d4a338d16bf657dc2c1e6f59f9d95b68af5"), looks := true }, kinds := [], alts := [], laidByText := true, laidKinds := [.data, .data, .data], laidTests := true, laidLooks := .later }
def RuleChecksCardSaid : Prop := Claim7.holds Tryd.pinned (.plain (OpenSpec.ofChange ruleChecksSpec)) ruleChecksCard

/-- THE TIED CARD OF 'hanaperlaw17.RuleOne'. -/
def ruleOneCard : Claim7 := { stood := { row := ruleOneRow, standIns := [], harness := (true, "e9545ddd26f5a6b139547deab1a94d4a338d16bf657dc2c1e6f59f9d95b68af5"), looks := true }, kinds := [], alts := [], laidByText := true, laidKinds := [.data, .data, .data], laidTests := true, laidLooks := .later }
def RuleOneCardSaid : Prop := Claim7.holds Tryd.pinned (.plain (OpenSpec.ofChange ruleOneSpec)) ruleOneCard

/-- THE TIED CARD OF 'hanaperlaw17.RuleExpr'. -/
def ruleExprCard : Claim7 := { stood := { row := ruleExprRow, standIns := [], harness := (true, "e9545ddd26f5a6b139547deab1a94d4a338d16bf657dc2c1e6f59f9d95b68af5"), looks := true }, kinds := [], alts := [], laidByText := true, laidKinds := [.data, .data, .data], laidTests := true, laidLooks := .later }
def RuleExprCardSaid : Prop := Claim7.holds Tryd.pinned (.plain (OpenSpec.ofChange ruleExprSpec)) ruleExprCard

/-- THE TIED CARD OF 'hanaperlaw18.ParseFuel'. -/
def parseFuelCard : Claim7 := { stood := { row := parseFuelRow, standIns := [], harness := (true, "e9545ddd26f5a6b139547deab1a94d4a338d16bf657dc2c1e6f59f9d95b68af5"), looks := true }, kinds := [], alts := [], laidByText := true, laidKinds := [.data, .data, .data, .sentinel, .sentinel], laidTests := true, laidLooks := .later }
def ParseFuelCardSaid : Prop := Claim7.holds Tryd.pinned (.plain (OpenSpec.ofChange parseFuelSpec)) parseFuelCard

/-- THE SECOND FORM's CARD OF 'hanaperlaw16.LexAll'. -/
def lexAllUptoCard : Claim7 := { stood := { row := lexAllUptoRow, standIns := [], harness := (true, "e9545ddd26f5a6b139547deab1a94d4a338d16bf657dc2c1e6f59f9d95b68af5"), looks := true }, kinds := [], alts := [], laidByText := true, laidKinds := [.data, .data, .data, .sentinel, .sentinel], laidTests := true, laidLooks := .later }
def LexAllUptoCardSaid : Prop := Claim7.holds Tryd.pinned (.plain (OpenSpec.upto lexAllSpec)) lexAllUptoCard

/-- THE SECOND FORM's CARD OF 'hanaperlaw16.LexOrder'. -/
def lexOrderUptoCard : Claim7 := { stood := { row := lexOrderUptoRow, standIns := [], harness := (true, "e9545ddd26f5a6b139547deab1a94d4a338d16bf657dc2c1e6f59f9d95b68af5"), looks := true }, kinds := [], alts := [], laidByText := true, laidKinds := [.data, .data, .data, .sentinel, .sentinel], laidTests := true, laidLooks := .later }
def LexOrderUptoCardSaid : Prop := Claim7.holds Tryd.pinned (.plain (OpenSpec.upto lexOrderSpec)) lexOrderUptoCard

/-- THE SECOND FORM's CARD OF 'hanaperlaw16.LexJoins'. -/
def lexJoinsUptoCard : Claim7 := { stood := { row := lexJoinsUptoRow, standIns := [], harness := (true, "e9545ddd26f5a6b139547deab1a94d4a338d16bf657dc2c1e6f59f9d95b68af5"), looks := true }, kinds := [], alts := [], laidByText := true, laidKinds := [.data, .data, .data, .sentinel, .sentinel], laidTests := true, laidLooks := .later }
def LexJoinsUptoCardSaid : Prop := Claim7.holds Tryd.pinned (.plain (OpenSpec.upto lexJoinsSpec)) lexJoinsUptoCard

/-- THE SECOND FORM's CARD OF 'hanaperlaw17.RuleChecks'. -/
def ruleChecksUptoCard : Claim7 := { stood := { row := ruleChecksUptoRow, standIns := [], harness := (true, "e9545ddd26f5a6b139547deab1a94d4a338d16bf657dc2c1e6f59f9d95b68af5"), looks := true }, kinds := [], alts := [], laidByText := true, laidKinds := [.data, .data, .data], laidTests := true, laidLooks := .later }
def RuleChecksUptoCardSaid : Prop := Claim7.holds Tryd.pinned (.plain (OpenSpec.upto ruleChecksSpec)) ruleChecksUptoCard

/-- THE SECOND FORM's CARD OF 'hanaperlaw17.RuleOne'. -/
def ruleOneUptoCard : Claim7 := { stood := { row := ruleOneUptoRow, standIns := [], harness := (true, "e9545ddd26f5a6b139547deab1a94d4a338d16bf657dc2c1e6f59f9d95b68af5"), looks := true }, kinds := [], alts := [], laidByText := true, laidKinds := [.data, .data, .data], laidTests := true, laidLooks := .later }
def RuleOneUptoCardSaid : Prop := Claim7.holds Tryd.pinned (.plain (OpenSpec.upto ruleOneSpec)) ruleOneUptoCard

/-- THE SECOND FORM's CARD OF 'hanaperlaw17.RuleExpr'. -/
def ruleExprUptoCard : Claim7 := { stood := { row := ruleExprUptoRow, standIns := [], harness := (true, "e9545ddd26f5a6b139547deab1a94d4a338d16bf657dc2c1e6f59f9d95b68af5"), looks := true }, kinds := [], alts := [], laidByText := true, laidKinds := [.data, .data, .data], laidTests := true, laidLooks := .later }
def RuleExprUptoCardSaid : Prop := Claim7.holds Tryd.pinned (.plain (OpenSpec.upto ruleExprSpec)) ruleExprUptoCard

/-- THE SECOND FORM's CARD OF 'hanaperlaw18.ParseFuel'. -/
def parseFuelUptoCard : Claim7 := { stood := { row := parseFuelUptoRow, standIns := [], harness := (true, "e9545ddd26f5a6b139547deab1a94d4a338d16bf657dc2c1e6f59f9d95b68af5"), looks := true }, kinds := [], alts := [], laidByText := true, laidKinds := [.data, .data, .data, .sentinel, .sentinel], laidTests := true, laidLooks := .later }
def ParseFuelUptoCardSaid : Prop := Claim7.holds Tryd.pinned (.plain (OpenSpec.upto parseFuelSpec)) parseFuelUptoCard
end Rows
end Go.Proofs.YtogpmihepfnoaaaDoor
