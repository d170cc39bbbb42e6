/-
  DERIVED. GIVEN WITH THE SEED: THE CARDS: each row of YtglbbdailankpaaGreatDoorRows.lean that lists a variable, with what it lists TIED to the program's text (the seventh form; the later family's looks); each row that meets fmt, with fmt's text TOLD by the authors' own Lean function (tested against real Go, not proved from fmt's source: count such statements apart). THE CARD IS WHAT COUNTS. Prove the row's statement (the work); the ties are given (YtglbbdailankpaaGreatDoorTie.lean); close each card by the builder's one call (the guide's Derived/Test/ToyasCard.lean, 'card_holds'). Laid BY PROGRAM, IN A SANDBOX (cutbox-door.mjs). By AI agents, Wed Nov 11 2026. No macro, syntax, notation, axiom, sorry.
-/
import Derived.Test.YtglbbdailankpaaGreatDoorRows
import GoSem.ClaimSeven
namespace Go.Proofs.YtglbbdailankpaaGreatDoor
namespace Rows

/-- THE TIED CARD OF 'bootchainlaw38.ReachFollowsMoves'. -/
def reachFollowsMovesCard : Claim7 := { stood := { row := reachFollowsMovesRow, standIns := [], harness := (true, "676bc7490bf6859167794139a06f921fa218c8d11385782b33a299fda90fa665"), looks := true }, kinds := [], alts := [], laidByText := true, laidKinds := [.data, .data, .data, .data, .data, .funcs, .sentinel, .sentinel, .data, .data, .widerDeep, .funcs, .pinned], laidTests := true, laidLooks := .later }
def ReachFollowsMovesCardSaid : Prop := Claim7.holds Tryz.pinned (.plain (OpenSpec.ofChange reachFollowsMovesSpec)) reachFollowsMovesCard

/-- THE SECOND FORM's CARD OF 'bootchainlaw38.ReachFollowsMoves'. -/
def reachFollowsMovesUptoCard : Claim7 := { stood := { row := reachFollowsMovesUptoRow, standIns := [], harness := (true, "676bc7490bf6859167794139a06f921fa218c8d11385782b33a299fda90fa665"), looks := true }, kinds := [], alts := [], laidByText := true, laidKinds := [.data, .data, .data, .data, .data, .funcs, .sentinel, .sentinel, .data, .data, .widerDeep, .funcs, .pinned], laidTests := true, laidLooks := .later }
def ReachFollowsMovesUptoCardSaid : Prop := Claim7.holds Tryz.pinned (.plain (OpenSpec.upto reachFollowsMovesSpec)) reachFollowsMovesUptoCard
end Rows
end Go.Proofs.YtglbbdailankpaaGreatDoor
