/-
  DERIVED. GIVEN WITH THE SEED: THE CARDS: each row of YtlfkdmhllolmmaaGreatDoorRows.lean that lists a variable, with what it lists TIED to the program's text (the seventh form; the later family's looks); each row that meets fmt, with fmt's text TOLD by the authors' own Lean function (tested against real Go, not proved from fmt's source: count such statements apart). THE CARD IS WHAT COUNTS. Prove the row's statement (the work); the ties are given (YtlfkdmhllolmmaaGreatDoorTie.lean); close each card by the builder's one call (the guide's Derived/Test/ToyasCard.lean, 'card_holds'). Laid BY PROGRAM, IN A SANDBOX (cutbox-door.mjs). By AI agents, Wed Nov 11 2026. No macro, syntax, notation, axiom, sorry.
-/
import Derived.Test.YtlfkdmhllolmmaaGreatDoorRows
import GoSem.ClaimSeven
namespace Go.Proofs.YtlfkdmhllolmmaaGreatDoor
namespace Rows

/-- THE TIED CARD OF 'warplaw17.ScriptOne'. -/
def scriptOneCard : Claim7 := { stood := { row := scriptOneRow, standIns := [], harness := (true, "01843f32ef6efbaabdc2275118173fb40fdc803c03839b8647cff9aee5530c01"), looks := true }, kinds := [], alts := [], laidByText := true, laidKinds := [.data, .listed, .sentinel, .sentinel, .data, .data, .data], laidTests := true, laidLooks := .later }
def ScriptOneCardSaid : Prop := Claim7.holds Tryz.pinned (.plain (OpenSpec.ofChange scriptOneSpec)) scriptOneCard

/-- THE SECOND FORM's CARD OF 'warplaw17.ScriptOne'. -/
def scriptOneUptoCard : Claim7 := { stood := { row := scriptOneUptoRow, standIns := [], harness := (true, "01843f32ef6efbaabdc2275118173fb40fdc803c03839b8647cff9aee5530c01"), looks := true }, kinds := [], alts := [], laidByText := true, laidKinds := [.data, .listed, .sentinel, .sentinel, .data, .data, .data], laidTests := true, laidLooks := .later }
def ScriptOneUptoCardSaid : Prop := Claim7.holds Tryz.pinned (.plain (OpenSpec.upto scriptOneSpec)) scriptOneUptoCard
end Rows
end Go.Proofs.YtlfkdmhllolmmaaGreatDoor
