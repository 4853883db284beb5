/-
  DERIVED. GIVEN WITH THE SEED: THE CARDS: each row of YtppnlijeonneeaaDoorRows.lean that lists a variable, with what it lists TIED to the program's text (the seventh form; the later family's looks); each row that meets fmt, with fmt's text TOLD by the authors' own Lean function (tested against real Go, not proved from fmt's source: count such statements apart). THE CARD IS WHAT COUNTS. Prove the row's statement (the work); the ties are given (YtppnlijeonneeaaDoorTie.lean); close each card by the builder's one call (the guide's Derived/Test/ToyasCard.lean, 'card_holds'). Laid BY PROGRAM, IN A SANDBOX (cutbox-door.mjs). By AI agents, Wed Nov 11 2026. No macro, syntax, notation, axiom, sorry.
-/
import Derived.Test.YtppnlijeonneeaaDoorRows
import GoSem.ClaimSeven
namespace Go.Proofs.YtppnlijeonneeaaDoor
namespace Rows

/-- THE TIED CARD OF 'hanaperlaw32.ReplyTexts'. -/
def replyTextsCard : Claim7 := { stood := { row := replyTextsRow, standIns := [], harness := (true, "9e81f5c7cd8ec071318dfd49f2666b46abca576687679609480b0ad4b1867d9a"), looks := true }, kinds := [], alts := [], laidByText := true, laidKinds := [.data, .data, .data, .data, .sentinel, .sentinel, .pinned], laidTests := true, laidLooks := .later }
def ReplyTextsCardSaid : Prop := Claim7.holds Tryd.pinned (.plain (OpenSpec.ofChange replyTextsSpec)) replyTextsCard

/-- THE TIED CARD OF 'hanaperlaw32.ReplyBack'. -/
def replyBackCard : Claim7 := { stood := { row := replyBackRow, standIns := [], harness := (true, "9e81f5c7cd8ec071318dfd49f2666b46abca576687679609480b0ad4b1867d9a"), looks := true }, kinds := [], alts := [], laidByText := true, laidKinds := [.data, .data, .data, .data, .sentinel, .sentinel, .pinned], laidTests := true, laidLooks := .later }
def ReplyBackCardSaid : Prop := Claim7.holds Tryd.pinned (.plain (OpenSpec.ofChange replyBackSpec)) replyBackCard

/-- THE TIED CARD OF 'hanaperlaw21.WritText'. -/
def writTextCard : Claim7 := { stood := { row := writTextRow, standIns := [], harness := (true, "9e81f5c7cd8ec071318dfd49f2666b46abca576687679609480b0ad4b1867d9a"), looks := true }, kinds := [], alts := [], laidByText := true, laidKinds := [.data, .data, .data, .data, .sentinel, .sentinel, .pinned], laidTests := true, laidLooks := .later }
def WritTextCardSaid : Prop := Claim7.holds Tryd.pinned (.plain (OpenSpec.ofChange writTextSpec)) writTextCard

/-- THE TIED CARD OF 'hanaperlaw21.WritBack'. -/
def writBackCard : Claim7 := { stood := { row := writBackRow, standIns := [], harness := (true, "9e81f5c7cd8ec071318dfd49f2666b46abca576687679609480b0ad4b1867d9a"), looks := true }, kinds := [], alts := [], laidByText := true, laidKinds := [.data, .data, .data, .data, .sentinel, .sentinel, .pinned], laidTests := true, laidLooks := .later }
def WritBackCardSaid : Prop := Claim7.holds Tryd.pinned (.plain (OpenSpec.ofChange writBackSpec)) writBackCard

/-- THE SECOND FORM's CARD OF 'hanaperlaw32.ReplyTexts'. -/
def replyTextsUptoCard : Claim7 := { stood := { row := replyTextsUptoRow, standIns := [], harness := (true, "9e81f5c7cd8ec071318dfd49f2666b46abca576687679609480b0ad4b1867d9a"), looks := true }, kinds := [], alts := [], laidByText := true, laidKinds := [.data, .data, .data, .data, .sentinel, .sentinel, .pinned], laidTests := true, laidLooks := .later }
def ReplyTextsUptoCardSaid : Prop := Claim7.holds Tryd.pinned (.plain (OpenSpec.upto replyTextsSpec)) replyTextsUptoCard

/-- THE SECOND FORM's CARD OF 'hanaperlaw32.ReplyBack'. -/
def replyBackUptoCard : Claim7 := { stood := { row := replyBackUptoRow, standIns := [], harness := (true, "9e81f5c7cd8ec071318dfd49f2666b46abca576687679609480b0ad4b1867d9a"), looks := true }, kinds := [], alts := [], laidByText := true, laidKinds := [.data, .data, .data, .data, .sentinel, .sentinel, .pinned], laidTests := true, laidLooks := .later }
def ReplyBackUptoCardSaid : Prop := Claim7.holds Tryd.pinned (.plain (OpenSpec.upto replyBackSpec)) replyBackUptoCard

/-- THE SECOND FORM's CARD OF 'hanaperlaw21.WritText'. -/
def writTextUptoCard : Claim7 := { stood := { row := writTextUptoRow, standIns := [], harness := (true, "9e81f5c7cd8ec071318dfd49f2666b46abca576687679609480b0ad4b1867d9a"), looks := true }, kinds := [], alts := [], laidByText := true, laidKinds := [.data, .data, .data, .data, .sentinel, .sentinel, .pinned], laidTests := true, laidLooks := .later }
def WritTextUptoCardSaid : Prop := Claim7.holds Tryd.pinned (.plain (OpenSpec.upto writTextSpec)) writTextUptoCard

/-- THE SECOND FORM's CARD OF 'hanaperlaw21.WritBack'. -/
def writBackUptoCard : Claim7 := { stood := { row := writBackUptoRow, standIns := [], harness := (true, "9e81f5c7cd8ec071318dfd49f2666b46abca576687679609480b0ad4b1867d9a"), looks := true }, kinds := [], alts := [], laidByText := true, laidKinds := [.data, .data, .data, .data, .sentinel, .sentinel, .pinned], laidTests := true, laidLooks := .later }
def WritBackUptoCardSaid : Prop := Claim7.holds Tryd.pinned (.plain (OpenSpec.upto writBackSpec)) writBackUptoCard
end Rows
end Go.Proofs.YtppnlijeonneeaaDoor
