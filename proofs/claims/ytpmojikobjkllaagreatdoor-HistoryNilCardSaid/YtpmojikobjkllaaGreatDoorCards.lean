/-
  DERIVED. GIVEN WITH THE SEED: THE CARDS: each row of YtpmojikobjkllaaGreatDoorRows.lean that lists a variable, with what it lists TIED to the program's text (the seventh form; the later family's looks); each row that meets fmt, with fmt's text TOLD by the authors' own Lean function (tested against real Go, not proved from fmt's source: count such statements apart). THE CARD IS WHAT COUNTS. Prove the row's statement (the work); the ties are given (YtpmojikobjkllaaGreatDoorTie.lean); close each card by the builder's one call (the guide's Derived/Test/ToyasCard.lean, 'card_holds'). Laid BY PROGRAM, IN A SANDBOX (cutbox-door.mjs). By AI agents, Wed Nov 11 2026. No macro, syntax, notation, axiom, sorry.
-/
import Derived.Test.YtpmojikobjkllaaGreatDoorRows
import GoSem.ClaimSeven
namespace Go.Proofs.YtpmojikobjkllaaGreatDoor
namespace Rows

/-- THE TIED CARD OF 'palmettelaw49.HistoryNil'. -/
def historyNilCard : Claim7 := { stood := { row := historyNilRow, standIns := [], harness := (true, "1e3f8c555a6b12452fdd76f3727121e29c59fba5f85961f0d800cd80f87eedaa"), looks := true }, kinds := [], alts := [], laidByText := true, laidKinds := [.data, .data], laidTests := true, laidLooks := .later }
def HistoryNilCardSaid : Prop := Claim7.holds Tryz.pinned (.plain (OpenSpec.ofChange historyNilSpec)) historyNilCard
end Rows
end Go.Proofs.YtpmojikobjkllaaGreatDoor
