/-
  DERIVED. GIVEN WITH THE SEED: THE CARDS: each row of YtbpalbakembgiaaGreatDoorRows.lean that lists a variable, with what it lists TIED to the program's text (the seventh form; the later family's looks); each row that meets fmt, with fmt's text TOLD by the authors' own Lean function (tested against real Go, not proved from fmt's source: count such statements apart). THE CARD IS WHAT COUNTS. Prove the row's statement (the work); the ties are given (YtbpalbakembgiaaGreatDoorTie.lean); close each card by the builder's one call (the guide's Derived/Test/ToyasCard.lean, 'card_holds'). Laid BY PROGRAM, IN A SANDBOX (cutbox-door.mjs). By AI agents, Wed Nov 11 2026. No macro, syntax, notation, axiom, sorry.
-/
import Derived.Test.YtbpalbakembgiaaGreatDoorRows
import GoSem.ClaimSeven
namespace Go.Proofs.YtbpalbakembgiaaGreatDoor
namespace Rows

/-- THE TIED CARD OF 'escribanolaw13.ClerkParted'. -/
def clerkPartedCard : Claim7 := { stood := { row := clerkPartedRow, standIns := [], harness := (true, "6cd172bebe7a7fdc0a4bb7e61eaae714da86d1c24758408373cc91c2d0311597"), looks := true }, kinds := [], alts := [], laidByText := true, laidKinds := [.data, .data, .data, .data, .sentinel, .sentinel, .pinned], laidTests := true, laidLooks := .later }
def ClerkPartedCardSaid : Prop := Claim7.holds Tryz.pinned (.plain (OpenSpec.ofChange clerkPartedSpec)) clerkPartedCard

/-- THE SECOND FORM's CARD OF 'escribanolaw13.ClerkParted'. -/
def clerkPartedUptoCard : Claim7 := { stood := { row := clerkPartedUptoRow, standIns := [], harness := (true, "6cd172bebe7a7fdc0a4bb7e61eaae714da86d1c24758408373cc91c2d0311597"), looks := true }, kinds := [], alts := [], laidByText := true, laidKinds := [.data, .data, .data, .data, .sentinel, .sentinel, .pinned], laidTests := true, laidLooks := .later }
def ClerkPartedUptoCardSaid : Prop := Claim7.holds Tryz.pinned (.plain (OpenSpec.upto clerkPartedSpec)) clerkPartedUptoCard
end Rows
end Go.Proofs.YtbpalbakembgiaaGreatDoor
