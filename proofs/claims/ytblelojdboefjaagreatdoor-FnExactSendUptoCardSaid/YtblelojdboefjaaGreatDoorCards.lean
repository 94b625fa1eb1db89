/-
  DERIVED. GIVEN WITH THE SEED: THE CARDS: each row of YtblelojdboefjaaGreatDoorRows.lean that lists a variable, with what it lists TIED to the program's text (the seventh form; the later family's looks); each row that meets fmt, with fmt's text TOLD by the authors' own Lean function (tested against real Go, not proved from fmt's source: count such statements apart). THE CARD IS WHAT COUNTS. Prove the row's statement (the work); the ties are given (YtblelojdboefjaaGreatDoorTie.lean); close each card by the builder's one call (the guide's Derived/Test/ToyasCard.lean, 'card_holds'). Laid BY PROGRAM, IN A SANDBOX (cutbox-door.mjs). By AI agents, Wed Nov 11 2026. No macro, syntax, notation, axiom, sorry.
-/
import Derived.Test.YtblelojdboefjaaGreatDoorRows
import GoSem.ClaimSeven
namespace Go.Proofs.YtblelojdboefjaaGreatDoor
namespace Rows

/-- THE TIED CARD OF 'laws.FnExactDiffTrees'. -/
def fnExactDiffTreesCard : Claim7 := { stood := { row := fnExactDiffTreesRow, standIns := [], harness := (true, "2adbaf6029ed2c40ca7e19c9f86c0818b7fb64f343b3b7a94a947b0e4f1d75a7"), looks := false }, kinds := [], alts := [], laidByText := true, laidKinds := [.data, .pinned], laidTests := true, laidLooks := .later }
def FnExactDiffTreesCardSaid : Prop := Claim7.holds Tryz.pinned (.plain (OpenSpec.ofChange fnExactDiffTreesSpec)) fnExactDiffTreesCard

/-- THE TIED CARD OF 'laws.FnExactSend'. -/
def fnExactSendCard : Claim7 := { stood := { row := fnExactSendRow, standIns := [], harness := (true, "2adbaf6029ed2c40ca7e19c9f86c0818b7fb64f343b3b7a94a947b0e4f1d75a7"), looks := false }, kinds := [], alts := [], laidByText := true, laidKinds := [.data, .pinned], laidTests := true, laidLooks := .later }
def FnExactSendCardSaid : Prop := Claim7.holds Tryz.pinned (.plain (OpenSpec.ofChange fnExactSendSpec)) fnExactSendCard

/-- THE TIED CARD OF 'laws.FnExactPatch'. -/
def fnExactPatchCard : Claim7 := { stood := { row := fnExactPatchRow, standIns := [], harness := (true, "2adbaf6029ed2c40ca7e19c9f86c0818b7fb64f343b3b7a94a947b0e4f1d75a7"), looks := false }, kinds := [], alts := [], laidByText := true, laidKinds := [.data, .pinned], laidTests := true, laidLooks := .later }
def FnExactPatchCardSaid : Prop := Claim7.holds Tryz.pinned (.plain (OpenSpec.ofChange fnExactPatchSpec)) fnExactPatchCard

/-- THE TIED CARD OF 'laws.FnExactReceive'. -/
def fnExactReceiveCard : Claim7 := { stood := { row := fnExactReceiveRow, standIns := [], harness := (true, "2adbaf6029ed2c40ca7e19c9f86c0818b7fb64f343b3b7a94a947b0e4f1d75a7"), looks := false }, kinds := [], alts := [], laidByText := true, laidKinds := [.data, .pinned], laidTests := true, laidLooks := .later }
def FnExactReceiveCardSaid : Prop := Claim7.holds Tryz.pinned (.plain (OpenSpec.ofChange fnExactReceiveSpec)) fnExactReceiveCard

/-- THE TIED CARD OF 'laws.FnExactSends'. -/
def fnExactSendsCard : Claim7 := { stood := { row := fnExactSendsRow, standIns := [], harness := (true, "2adbaf6029ed2c40ca7e19c9f86c0818b7fb64f343b3b7a94a947b0e4f1d75a7"), looks := false }, kinds := [], alts := [], laidByText := true, laidKinds := [.data, .pinned], laidTests := true, laidLooks := .later }
def FnExactSendsCardSaid : Prop := Claim7.holds Tryz.pinned (.plain (OpenSpec.ofChange fnExactSendsSpec)) fnExactSendsCard

/-- THE SECOND FORM's CARD OF 'laws.FnExactDiffTrees'. -/
def fnExactDiffTreesUptoCard : Claim7 := { stood := { row := fnExactDiffTreesUptoRow, standIns := [], harness := (true, "2adbaf6029ed2c40ca7e19c9f86c0818b7fb64f343b3b7a94a947b0e4f1d75a7"), looks := false }, kinds := [], alts := [], laidByText := true, laidKinds := [.data, .pinned], laidTests := true, laidLooks := .later }
def FnExactDiffTreesUptoCardSaid : Prop := Claim7.holds Tryz.pinned (.plain (OpenSpec.upto fnExactDiffTreesSpec)) fnExactDiffTreesUptoCard

/-- THE SECOND FORM's CARD OF 'laws.FnExactSend'. -/
def fnExactSendUptoCard : Claim7 := { stood := { row := fnExactSendUptoRow, standIns := [], harness := (true, "2adbaf6029ed2c40ca7e19c9f86c0818b7fb64f343b3b7a94a947b0e4f1d75a7"), looks := false }, kinds := [], alts := [], laidByText := true, laidKinds := [.data, .pinned], laidTests := true, laidLooks := .later }
def FnExactSendUptoCardSaid : Prop := Claim7.holds Tryz.pinned (.plain (OpenSpec.upto fnExactSendSpec)) fnExactSendUptoCard

/-- THE SECOND FORM's CARD OF 'laws.FnExactPatch'. -/
def fnExactPatchUptoCard : Claim7 := { stood := { row := fnExactPatchUptoRow, standIns := [], harness := (true, "2adbaf6029ed2c40ca7e19c9f86c0818b7fb64f343b3b7a94a947b0e4f1d75a7"), looks := false }, kinds := [], alts := [], laidByText := true, laidKinds := [.data, .pinned], laidTests := true, laidLooks := .later }
def FnExactPatchUptoCardSaid : Prop := Claim7.holds Tryz.pinned (.plain (OpenSpec.upto fnExactPatchSpec)) fnExactPatchUptoCard

/-- THE SECOND FORM's CARD OF 'laws.FnExactReceive'. -/
def fnExactReceiveUptoCard : Claim7 := { stood := { row := fnExactReceiveUptoRow, standIns := [], harness := (true, "2adbaf6029ed2c40ca7e19c9f86c0818b7fb64f343b3b7a94a947b0e4f1d75a7"), looks := false }, kinds := [], alts := [], laidByText := true, laidKinds := [.data, .pinned], laidTests := true, laidLooks := .later }
def FnExactReceiveUptoCardSaid : Prop := Claim7.holds Tryz.pinned (.plain (OpenSpec.upto fnExactReceiveSpec)) fnExactReceiveUptoCard

/-- THE SECOND FORM's CARD OF 'laws.FnExactSends'. -/
def fnExactSendsUptoCard : Claim7 := { stood := { row := fnExactSendsUptoRow, standIns := [], harness := (true, "2adbaf6029ed2c40ca7e19c9f86c0818b7fb64f343b3b7a94a947b0e4f1d75a7"), looks := false }, kinds := [], alts := [], laidByText := true, laidKinds := [.data, .pinned], laidTests := true, laidLooks := .later }
def FnExactSendsUptoCardSaid : Prop := Claim7.holds Tryz.pinned (.plain (OpenSpec.upto fnExactSendsSpec)) fnExactSendsUptoCard
end Rows
end Go.Proofs.YtblelojdboefjaaGreatDoor
