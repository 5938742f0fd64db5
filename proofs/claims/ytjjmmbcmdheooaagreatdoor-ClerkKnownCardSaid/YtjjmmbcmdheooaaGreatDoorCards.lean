/-
  DERIVED. GIVEN WITH THE SEED: THE CARDS: each row of YtjjmmbcmdheooaaGreatDoorRows.lean that lists a variable, with what it lists TIED to the program's text (the seventh form; the later family's looks); each row that meets fmt, with fmt's text TOLD by the authors' own Lean function (tested against real Go, not proved from fmt's source: count such statements apart). THE CARD IS WHAT COUNTS. Prove the row's statement (the work); the ties are given (YtjjmmbcmdheooaaGreatDoorTie.lean); close each card by the builder's one call (the guide's Derived/Test/ToyasCard.lean, 'card_holds'). Laid BY PROGRAM, IN A SANDBOX (cutbox-door.mjs). By AI agents, Wed Nov 11 2026. No macro, syntax, notation, axiom, sorry.
-/
import Derived.Test.YtjjmmbcmdheooaaGreatDoorRows
import GoSem.ClaimSeven
namespace Go.Proofs.YtjjmmbcmdheooaaGreatDoor
namespace Rows

/-- THE TIED CARD OF 'escribanolaw13.ClerkKnown'. -/
def clerkKnownCard : Claim7 := { stood := { row := clerkKnownRow, standIns := [], harness := (true, "8afdabdb771f86ccabe57ca80cb2c9bf77c22c03cf129ad3ee02c906d67bd9bd"), looks := true }, kinds := [], alts := [], laidByText := true, laidKinds := [.data, .data, .data, .data, .sentinel, .sentinel, .pinned], laidTests := true, laidLooks := .later }
def ClerkKnownCardSaid : Prop := Claim7.holds Tryz.pinned (.plain (OpenSpec.ofChange clerkKnownSpec)) clerkKnownCard

/-- THE SECOND FORM's CARD OF 'escribanolaw13.ClerkKnown'. -/
def clerkKnownUptoCard : Claim7 := { stood := { row := clerkKnownUptoRow, standIns := [], harness := (true, "8afdabdb771f86ccabe57ca80cb2c9bf77c22c03cf129ad3ee02c906d67bd9bd"), looks := true }, kinds := [], alts := [], laidByText := true, laidKinds := [.data, .data, .data, .data, .sentinel, .sentinel, .pinned], laidTests := true, laidLooks := .later }
def ClerkKnownUptoCardSaid : Prop := Claim7.holds Tryz.pinned (.plain (OpenSpec.upto clerkKnownSpec)) clerkKnownUptoCard
end Rows
end Go.Proofs.YtjjmmbcmdheooaaGreatDoor
