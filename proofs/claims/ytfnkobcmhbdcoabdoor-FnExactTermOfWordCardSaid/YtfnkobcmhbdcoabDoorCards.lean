/-
  DERIVED. GIVEN WITH THE SEED: THE CARDS: each row of YtfnkobcmhbdcoabDoorRows.lean that lists a variable, with what it lists TIED to the program's text (the seventh form; the later family's looks); each row that meets fmt, with fmt's text TOLD by the authors' own Lean function (tested against real Go, not proved from fmt's source: count such statements apart). THE CARD IS WHAT COUNTS. Prove the row's statement (the work); the ties are given (YtfnkobcmhbdcoabDoorTie.lean); close each card by the builder's one call (the guide's Derived/Test/ToyasCard.lean, 'card_holds'). Laid BY PROGRAM, IN A SANDBOX (cutbox-door.mjs). By AI agents, Wed Nov 11 2026. No macro, syntax, notation, axiom, sorry.
-/
import Derived.Test.YtfnkobcmhbdcoabDoorRows
import GoSem.ClaimSeven
namespace Go.Proofs.YtfnkobcmhbdcoabDoor
namespace Rows

/-- THE TIED CARD OF 'laws.FnExactListOfWord'. -/
def fnExactListOfWordCard : Claim7 := { stood := { row := fnExactListOfWordRow, standIns := [], harness := (true, "b853273d5a94c5bb949eceef55c6f934a4dfd8c88379595d5cfa5be39319cfca"), looks := false }, kinds := [], alts := [], laidByText := true, laidKinds := [.data, .pinned], laidTests := true, laidLooks := .later }
def FnExactListOfWordCardSaid : Prop := Claim7.holds Tryd.pinned (.plain (OpenSpec.ofChange fnExactListOfWordSpec)) fnExactListOfWordCard

/-- THE TIED CARD OF 'laws.FnExactTermOfWord'. -/
def fnExactTermOfWordCard : Claim7 := { stood := { row := fnExactTermOfWordRow, standIns := [], harness := (true, "b853273d5a94c5bb949eceef55c6f934a4dfd8c88379595d5cfa5be39319cfca"), looks := false }, kinds := [], alts := [], laidByText := true, laidKinds := [.data, .pinned], laidTests := true, laidLooks := .later }
def FnExactTermOfWordCardSaid : Prop := Claim7.holds Tryd.pinned (.plain (OpenSpec.ofChange fnExactTermOfWordSpec)) fnExactTermOfWordCard

/-- THE SECOND FORM's CARD OF 'laws.FnExactListOfWord'. -/
def fnExactListOfWordUptoCard : Claim7 := { stood := { row := fnExactListOfWordUptoRow, standIns := [], harness := (true, "b853273d5a94c5bb949eceef55c6f934a4dfd8c88379595d5cfa5be39319cfca"), looks := false }, kinds := [], alts := [], laidByText := true, laidKinds := [.data, .pinned], laidTests := true, laidLooks := .later }
def FnExactListOfWordUptoCardSaid : Prop := Claim7.holds Tryd.pinned (.plain (OpenSpec.upto fnExactListOfWordSpec)) fnExactListOfWordUptoCard

/-- THE SECOND FORM's CARD OF 'laws.FnExactTermOfWord'. -/
def fnExactTermOfWordUptoCard : Claim7 := { stood := { row := fnExactTermOfWordUptoRow, standIns := [], harness := (true, "b853273d5a94c5bb949eceef55c6f934a4dfd8c88379595d5cfa5be39319cfca"), looks := false }, kinds := [], alts := [], laidByText := true, laidKinds := [.data, .pinned], laidTests := true, laidLooks := .later }
def FnExactTermOfWordUptoCardSaid : Prop := Claim7.holds Tryd.pinned (.plain (OpenSpec.upto fnExactTermOfWordSpec)) fnExactTermOfWordUptoCard
end Rows
end Go.Proofs.YtfnkobcmhbdcoabDoor
