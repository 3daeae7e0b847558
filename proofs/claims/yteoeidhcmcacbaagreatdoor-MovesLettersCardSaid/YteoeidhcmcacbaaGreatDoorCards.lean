/-
  DERIVED. GIVEN WITH THE SEED: THE CARDS: each row of YteoeidhcmcacbaaGreatDoorRows.lean that lists a variable, with what it lists TIED to the program's text (the seventh form; the later family's looks); each row that meets fmt, with fmt's text TOLD by the authors' own Lean function (tested against real Go, not proved from fmt's source: count such statements apart). THE CARD IS WHAT COUNTS. Prove the row's statement (the work); the ties are given (YteoeidhcmcacbaaGreatDoorTie.lean); close each card by the builder's one call (the guide's Derived/Test/ToyasCard.lean, 'card_holds'). Laid BY PROGRAM, IN A SANDBOX (cutbox-door.mjs). By AI agents, Wed Nov 11 2026. No macro, syntax, notation, axiom, sorry.
-/
import Derived.Test.YteoeidhcmcacbaaGreatDoorRows
import GoSem.ClaimSeven
namespace Go.Proofs.YteoeidhcmcacbaaGreatDoor
namespace Rows

/-- THE TIED CARD OF 'doppelgangerlaw04.MovesLetters'. -/
def movesLettersCard : Claim7 := { stood := { row := movesLettersRow, standIns := [], harness := (true, "121d12e282147aacc5efe58b3d0de10b07781ed74ebc0156b0c897660471b6c2"), looks := true }, kinds := [], alts := [], laidByText := true, laidKinds := [.data, .data, .data, .data, .sentinel, .sentinel, .pinned], laidTests := true, laidLooks := .later }
def MovesLettersCardSaid : Prop := Claim7.holds Tryz.pinned (.plain (OpenSpec.ofChange movesLettersSpec)) movesLettersCard

/-- THE TIED CARD OF 'doppelgangerlaw04.MovesNone'. -/
def movesNoneCard : Claim7 := { stood := { row := movesNoneRow, standIns := [], harness := (true, "121d12e282147aacc5efe58b3d0de10b07781ed74ebc0156b0c897660471b6c2"), looks := true }, kinds := [], alts := [], laidByText := true, laidKinds := [.data, .data, .data, .data, .sentinel, .sentinel, .pinned], laidTests := true, laidLooks := .later }
def MovesNoneCardSaid : Prop := Claim7.holds Tryz.pinned (.plain (OpenSpec.ofChange movesNoneSpec)) movesNoneCard

/-- THE TIED CARD OF 'doppelgangerlaw04.MovesBorder'. -/
def movesBorderCard : Claim7 := { stood := { row := movesBorderRow, standIns := [], harness := (true, "121d12e282147aacc5efe58b3d0de10b07781ed74ebc0156b0c897660471b6c2"), looks := true }, kinds := [], alts := [], laidByText := true, laidKinds := [.data, .data, .data, .data, .sentinel, .sentinel, .pinned], laidTests := true, laidLooks := .later }
def MovesBorderCardSaid : Prop := Claim7.holds Tryz.pinned (.plain (OpenSpec.ofChange movesBorderSpec)) movesBorderCard

/-- THE TIED CARD OF 'doppelgangerlaw04.MovesMany'. -/
def movesManyCard : Claim7 := { stood := { row := movesManyRow, standIns := [], harness := (true, "121d12e282147aacc5efe58b3d0de10b07781ed74ebc0156b0c897660471b6c2"), looks := true }, kinds := [], alts := [], laidByText := true, laidKinds := [.data, .data, .data, .data, .sentinel, .sentinel, .pinned], laidTests := true, laidLooks := .later }
def MovesManyCardSaid : Prop := Claim7.holds Tryz.pinned (.plain (OpenSpec.ofChange movesManySpec)) movesManyCard

/-- THE TIED CARD OF 'doppelgangerlaw04.MovesLong'. -/
def movesLongCard : Claim7 := { stood := { row := movesLongRow, standIns := [], harness := (true, "121d12e282147aacc5efe58b3d0de10b07781ed74ebc0156b0c897660471b6c2"), looks := true }, kinds := [], alts := [], laidByText := true, laidKinds := [.data, .data, .data, .data, .sentinel, .sentinel, .pinned], laidTests := true, laidLooks := .later }
def MovesLongCardSaid : Prop := Claim7.holds Tryz.pinned (.plain (OpenSpec.ofChange movesLongSpec)) movesLongCard

/-- THE SECOND FORM's CARD OF 'doppelgangerlaw04.MovesLetters'. -/
def movesLettersUptoCard : Claim7 := { stood := { row := movesLettersUptoRow, standIns := [], harness := (true, "121d12e282147aacc5efe58b3d0de10b07781ed74ebc0156b0c897660471b6c2"), looks := true }, kinds := [], alts := [], laidByText := true, laidKinds := [.data, .data, .data, .data, .sentinel, .sentinel, .pinned], laidTests := true, laidLooks := .later }
def MovesLettersUptoCardSaid : Prop := Claim7.holds Tryz.pinned (.plain (OpenSpec.upto movesLettersSpec)) movesLettersUptoCard

/-- THE SECOND FORM's CARD OF 'doppelgangerlaw04.MovesNone'. -/
def movesNoneUptoCard : Claim7 := { stood := { row := movesNoneUptoRow, standIns := [], harness := (true, "121d12e282147aacc5efe58b3d0de10b07781ed74ebc0156b0c897660471b6c2"), looks := true }, kinds := [], alts := [], laidByText := true, laidKinds := [.data, .data, .data, .data, .sentinel, .sentinel, .pinned], laidTests := true, laidLooks := .later }
def MovesNoneUptoCardSaid : Prop := Claim7.holds Tryz.pinned (.plain (OpenSpec.upto movesNoneSpec)) movesNoneUptoCard

/-- THE SECOND FORM's CARD OF 'doppelgangerlaw04.MovesBorder'. -/
def movesBorderUptoCard : Claim7 := { stood := { row := movesBorderUptoRow, standIns := [], harness := (true, "121d12e282147aacc5efe58b3d0de10b07781ed74ebc0156b0c897660471b6c2"), looks := true }, kinds := [], alts := [], laidByText := true, laidKinds := [.data, .data, .data, .data, .sentinel, .sentinel, .pinned], laidTests := true, laidLooks := .later }
def MovesBorderUptoCardSaid : Prop := Claim7.holds Tryz.pinned (.plain (OpenSpec.upto movesBorderSpec)) movesBorderUptoCard

/-- THE SECOND FORM's CARD OF 'doppelgangerlaw04.MovesMany'. -/
def movesManyUptoCard : Claim7 := { stood := { row := movesManyUptoRow, standIns := [], harness := (true, "121d12e282147aacc5efe58b3d0de10b07781ed74ebc0156b0c897660471b6c2"), looks := true }, kinds := [], alts := [], laidByText := true, laidKinds := [.data, .data, .data, .data, .sentinel, .sentinel, .pinned], laidTests := true, laidLooks := .later }
def MovesManyUptoCardSaid : Prop := Claim7.holds Tryz.pinned (.plain (OpenSpec.upto movesManySpec)) movesManyUptoCard

/-- THE SECOND FORM's CARD OF 'doppelgangerlaw04.MovesLong'. -/
def movesLongUptoCard : Claim7 := { stood := { row := movesLongUptoRow, standIns := [], harness := (true, "121d12e282147aacc5efe58b3d0de10b07781ed74ebc0156b0c897660471b6c2"), looks := true }, kinds := [], alts := [], laidByText := true, laidKinds := [.data, .data, .data, .data, .sentinel, .sentinel, .pinned], laidTests := true, laidLooks := .later }
def MovesLongUptoCardSaid : Prop := Claim7.holds Tryz.pinned (.plain (OpenSpec.upto movesLongSpec)) movesLongUptoCard
end Rows
end Go.Proofs.YteoeidhcmcacbaaGreatDoor
