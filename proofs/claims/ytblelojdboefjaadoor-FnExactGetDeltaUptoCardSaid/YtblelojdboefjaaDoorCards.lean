/-
  DERIVED. GIVEN WITH THE SEED: THE CARDS: each row of YtblelojdboefjaaDoorRows.lean that lists a variable, with what it lists TIED to the program's text (the seventh form; the later family's looks); each row that meets fmt, with fmt's text TOLD by the authors' own Lean function (tested against real Go, not proved from fmt's source: count such statements apart). THE CARD IS WHAT COUNTS. Prove the row's statement (the work); the ties are given (YtblelojdboefjaaDoorTie.lean); close each card by the builder's one call (the guide's Derived/Test/ToyasCard.lean, 'card_holds'). Laid BY PROGRAM, IN A SANDBOX (cutbox-door.mjs). By AI agents, Wed Nov 11 2026. No macro, syntax, notation, axiom, sorry.
-/
import Derived.Test.YtblelojdboefjaaDoorRows
import GoSem.ClaimSeven
namespace Go.Proofs.YtblelojdboefjaaDoor
namespace Rows

/-- THE TIED CARD OF 'laws.FnExactPutDelta'. -/
def fnExactPutDeltaCard : Claim7 := { stood := { row := fnExactPutDeltaRow, standIns := [], harness := (true, "0bfd4d6417d33fad9a66a056e24b1446a6832318aab4e485c90672e276e0fb2a"), looks := false }, kinds := [], alts := [], laidByText := true, laidKinds := [.data, .pinned], laidTests := true, laidLooks := .later }
def FnExactPutDeltaCardSaid : Prop := Claim7.holds Tryd.pinned (.plain (OpenSpec.ofChange fnExactPutDeltaSpec)) fnExactPutDeltaCard

/-- THE TIED CARD OF 'laws.FnExactGetDelta'. -/
def fnExactGetDeltaCard : Claim7 := { stood := { row := fnExactGetDeltaRow, standIns := [], harness := (true, "0bfd4d6417d33fad9a66a056e24b1446a6832318aab4e485c90672e276e0fb2a"), looks := false }, kinds := [], alts := [], laidByText := true, laidKinds := [.data, .pinned], laidTests := true, laidLooks := .later }
def FnExactGetDeltaCardSaid : Prop := Claim7.holds Tryd.pinned (.plain (OpenSpec.ofChange fnExactGetDeltaSpec)) fnExactGetDeltaCard

/-- THE SECOND FORM's CARD OF 'laws.FnExactPutDelta'. -/
def fnExactPutDeltaUptoCard : Claim7 := { stood := { row := fnExactPutDeltaUptoRow, standIns := [], harness := (true, "0bfd4d6417d33fad9a66a056e24b1446a6832318aab4e485c90672e276e0fb2a"), looks := false }, kinds := [], alts := [], laidByText := true, laidKinds := [.data, .pinned], laidTests := true, laidLooks := .later }
def FnExactPutDeltaUptoCardSaid : Prop := Claim7.holds Tryd.pinned (.plain (OpenSpec.upto fnExactPutDeltaSpec)) fnExactPutDeltaUptoCard

/-- THE SECOND FORM's CARD OF 'laws.FnExactGetDelta'. -/
def fnExactGetDeltaUptoCard : Claim7 := { stood := { row := fnExactGetDeltaUptoRow, standIns := [], harness := (true, "0bfd4d6417d33fad9a66a056e24b1446a6832318aab4e485c90672e276e0fb2a"), looks := false }, kinds := [], alts := [], laidByText := true, laidKinds := [.data, .pinned], laidTests := true, laidLooks := .later }
def FnExactGetDeltaUptoCardSaid : Prop := Claim7.holds Tryd.pinned (.plain (OpenSpec.upto fnExactGetDeltaSpec)) fnExactGetDeltaUptoCard
end Rows
end Go.Proofs.YtblelojdboefjaaDoor
