/-
  DERIVED. GIVEN WITH THE SEED: THE CARDS: each row of YtlbldmpiaebeeaaDoorRows.lean that lists a variable, with what it lists TIED to the program's text (the seventh form; the later family's looks); each row that meets fmt, with fmt's text TOLD by the authors' own Lean function (tested against real Go, not proved from fmt's source: count such statements apart). THE CARD IS WHAT COUNTS. Prove the row's statement (the work); the ties are given (YtlbldmpiaebeeaaDoorTie.lean); close each card by the builder's one call (the guide's Derived/Test/ToyasCard.lean, 'card_holds'). Laid BY PROGRAM, IN A SANDBOX (cutbox-door.mjs). By AI agents, Wed Nov 11 2026. No macro, syntax, notation, axiom, sorry.
-/
import Derived.Test.YtlbldmpiaebeeaaDoorRows
import GoSem.ClaimSeven
namespace Go.Proofs.YtlbldmpiaebeeaaDoor
namespace Rows

/-- THE TIED CARD OF 'hanaperlaw14.SlotNil'. -/
def slotNilCard : Claim7 := { stood := { row := slotNilRow, standIns := [], harness := (true, "5c7d9543992be1c6350eee55d456c3a3a22df793aa84b44dce8052e8eeade58e"), looks := false }, kinds := [], alts := [], laidByText := true, laidKinds := [.data, .pinned], laidTests := true, laidLooks := .later }
def SlotNilCardSaid : Prop := Claim7.holds Tryd.pinned (.plain (OpenSpec.ofChange slotNilSpec)) slotNilCard

/-- THE TIED CARD OF 'hanaperlaw14.SlotGone'. -/
def slotGoneCard : Claim7 := { stood := { row := slotGoneRow, standIns := [], harness := (true, "5c7d9543992be1c6350eee55d456c3a3a22df793aa84b44dce8052e8eeade58e"), looks := false }, kinds := [], alts := [], laidByText := true, laidKinds := [.data, .pinned], laidTests := true, laidLooks := .later }
def SlotGoneCardSaid : Prop := Claim7.holds Tryd.pinned (.plain (OpenSpec.ofChange slotGoneSpec)) slotGoneCard

/-- THE SECOND FORM's CARD OF 'hanaperlaw14.SlotNil'. -/
def slotNilUptoCard : Claim7 := { stood := { row := slotNilUptoRow, standIns := [], harness := (true, "5c7d9543992be1c6350eee55d456c3a3a22df793aa84b44dce8052e8eeade58e"), looks := false }, kinds := [], alts := [], laidByText := true, laidKinds := [.data, .pinned], laidTests := true, laidLooks := .later }
def SlotNilUptoCardSaid : Prop := Claim7.holds Tryd.pinned (.plain (OpenSpec.upto slotNilSpec)) slotNilUptoCard

/-- THE SECOND FORM's CARD OF 'hanaperlaw14.SlotGone'. -/
def slotGoneUptoCard : Claim7 := { stood := { row := slotGoneUptoRow, standIns := [], harness := (true, "5c7d9543992be1c6350eee55d456c3a3a22df793aa84b44dce8052e8eeade58e"), looks := false }, kinds := [], alts := [], laidByText := true, laidKinds := [.data, .pinned], laidTests := true, laidLooks := .later }
def SlotGoneUptoCardSaid : Prop := Claim7.holds Tryd.pinned (.plain (OpenSpec.upto slotGoneSpec)) slotGoneUptoCard
end Rows
end Go.Proofs.YtlbldmpiaebeeaaDoor
