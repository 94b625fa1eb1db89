/-
  DERIVED. GIVEN WITH THE SEED: THE CARDS: each row of YticgilhndadkiaaGreatDoorRows.lean that lists a variable, with what it lists TIED to the program's text (the seventh form; the later family's looks); each row that meets fmt, with fmt's text TOLD by the authors' own Lean function (tested against real Go, not proved from fmt's source: count such statements apart). THE CARD IS WHAT COUNTS. Prove the row's statement (the work); the ties are given (YticgilhndadkiaaGreatDoorTie.lean); close each card by the builder's one call (the guide's Derived/Test/ToyasCard.lean, 'card_holds'). Laid BY PROGRAM, IN A SANDBOX (cutbox-door.mjs). By AI agents, Wed Nov 11 2026. No macro, syntax, notation, axiom, sorry.
-/
import Derived.Test.YticgilhndadkiaaGreatDoorRows
import GoSem.ClaimSeven
namespace Go.Proofs.YticgilhndadkiaaGreatDoor
namespace Rows

/-- THE TIED CARD OF 'laws.FnExactTreeText'. -/
def fnExactTreeTextCard : Claim7 := { stood := { row := fnExactTreeTextRow, standIns := [], harness := (true, "e41d84734efad5ac1d2f36094890f33bc6677bd43bb322a857330b0aaf460d72"), looks := false }, kinds := [], alts := [], laidByText := true, laidKinds := [.data, .pinned], laidTests := true, laidLooks := .later }
def FnExactTreeTextCardSaid : Prop := Claim7.holds Tryz.pinned (.plain (OpenSpec.ofChange fnExactTreeTextSpec)) fnExactTreeTextCard

/-- THE TIED CARD OF 'laws.FnExactFsText'. -/
def fnExactFsTextCard : Claim7 := { stood := { row := fnExactFsTextRow, standIns := [], harness := (true, "e41d84734efad5ac1d2f36094890f33bc6677bd43bb322a857330b0aaf460d72"), looks := false }, kinds := [], alts := [], laidByText := true, laidKinds := [.data, .pinned], laidTests := true, laidLooks := .later }
def FnExactFsTextCardSaid : Prop := Claim7.holds Tryz.pinned (.plain (OpenSpec.ofChange fnExactFsTextSpec)) fnExactFsTextCard

/-- THE SECOND FORM's CARD OF 'laws.FnExactTreeText'. -/
def fnExactTreeTextUptoCard : Claim7 := { stood := { row := fnExactTreeTextUptoRow, standIns := [], harness := (true, "e41d84734efad5ac1d2f36094890f33bc6677bd43bb322a857330b0aaf460d72"), looks := false }, kinds := [], alts := [], laidByText := true, laidKinds := [.data, .pinned], laidTests := true, laidLooks := .later }
def FnExactTreeTextUptoCardSaid : Prop := Claim7.holds Tryz.pinned (.plain (OpenSpec.upto fnExactTreeTextSpec)) fnExactTreeTextUptoCard

/-- THE SECOND FORM's CARD OF 'laws.FnExactFsText'. -/
def fnExactFsTextUptoCard : Claim7 := { stood := { row := fnExactFsTextUptoRow, standIns := [], harness := (true, "e41d84734efad5ac1d2f36094890f33bc6677bd43bb322a857330b0aaf460d72"), looks := false }, kinds := [], alts := [], laidByText := true, laidKinds := [.data, .pinned], laidTests := true, laidLooks := .later }
def FnExactFsTextUptoCardSaid : Prop := Claim7.holds Tryz.pinned (.plain (OpenSpec.upto fnExactFsTextSpec)) fnExactFsTextUptoCard
end Rows
end Go.Proofs.YticgilhndadkiaaGreatDoor
