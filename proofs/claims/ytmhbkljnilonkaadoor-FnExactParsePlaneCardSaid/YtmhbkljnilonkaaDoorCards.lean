/-
  DERIVED. GIVEN WITH THE SEED: THE CARDS: each row of YtmhbkljnilonkaaDoorRows.lean that lists a variable, with what it lists TIED to the program's text (the seventh form; the later family's looks); each row that meets fmt, with fmt's text TOLD by the authors' own Lean function (tested against real Go, not proved from fmt's source: count such statements apart). THE CARD IS WHAT COUNTS. Prove the row's statement (the work); the ties are given (YtmhbkljnilonkaaDoorTie.lean); close each card by the builder's one call (the guide's Derived/Test/ToyasCard.lean, 'card_holds'). Laid BY PROGRAM, IN A SANDBOX (cutbox-door.mjs). By AI agents, Wed Nov 11 2026. No macro, syntax, notation, axiom, sorry.
-/
import Derived.Test.YtmhbkljnilonkaaDoorRows
import GoSem.ClaimSeven
namespace Go.Proofs.YtmhbkljnilonkaaDoor
namespace Rows

/-- THE TIED CARD OF 'laws.FnExactParsePlane'. -/
def fnExactParsePlaneCard : Claim7 := { stood := { row := fnExactParsePlaneRow, standIns := [], harness := (true, "da2e7321e2ffb3532ab4b8b7c57a2bfb20cce534402509ce4b362dd82e582550"), looks := true }, kinds := [], alts := [], laidByText := true, laidKinds := [.data, .data, .data, .data, .sentinel, .sentinel, .pinned], laidTests := true, laidLooks := .later }
def FnExactParsePlaneCardSaid : Prop := Claim7.holds Tryd.pinned (.plain (OpenSpec.ofChange fnExactParsePlaneSpec)) fnExactParsePlaneCard

/-- THE SECOND FORM's CARD OF 'laws.FnExactParsePlane'. -/
def fnExactParsePlaneUptoCard : Claim7 := { stood := { row := fnExactParsePlaneUptoRow, standIns := [], harness := (true, "da2e7321e2ffb3532ab4b8b7c57a2bfb20cce534402509ce4b362dd82e582550"), looks := true }, kinds := [], alts := [], laidByText := true, laidKinds := [.data, .data, .data, .data, .sentinel, .sentinel, .pinned], laidTests := true, laidLooks := .later }
def FnExactParsePlaneUptoCardSaid : Prop := Claim7.holds Tryd.pinned (.plain (OpenSpec.upto fnExactParsePlaneSpec)) fnExactParsePlaneUptoCard
end Rows
end Go.Proofs.YtmhbkljnilonkaaDoor
