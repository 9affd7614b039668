/-
  DERIVED. GIVEN WITH THE SEED: THE CARDS: each row of YtmaodbmjknmepaaDoorRows.lean that lists a variable, with what it lists TIED to the program's text (the seventh form; the later family's looks); each row that meets fmt, with fmt's text TOLD by the authors' own Lean function (tested against real Go, not proved from fmt's source: count such statements apart). THE CARD IS WHAT COUNTS. Prove the row's statement (the work); the ties are given (YtmaodbmjknmepaaDoorTie.lean); close each card by the builder's one call (the guide's Derived/Test/ToyasCard.lean, 'card_holds'). Laid BY PROGRAM, IN A SANDBOX (cutbox-door.mjs). By AI agents, Wed Nov 11 2026. No macro, syntax, notation, axiom, sorry.
-/
import Derived.Test.YtmaodbmjknmepaaDoorRows
import GoSem.ClaimSeven
namespace Go.Proofs.YtmaodbmjknmepaaDoor
namespace Rows

/-- THE TIED CARD OF 'laws.FnExactPolygonText'. -/
def fnExactPolygonTextCard : Claim7 := { stood := { row := fnExactPolygonTextRow, standIns := [], harness := (true, "6bcf5a21b2e6c35ce8d7c1373426dcf7fdad34a1dfd657b9f5d2be71a4b340f2"), looks := false }, kinds := [], alts := [], laidByText := true, laidKinds := [.data, .data, .data], laidTests := true, laidLooks := .later }
def FnExactPolygonTextCardSaid : Prop := Claim7.holds Tryd.pinned (.plain (OpenSpec.ofChange fnExactPolygonTextSpec)) fnExactPolygonTextCard

/-- THE SECOND FORM's CARD OF 'laws.FnExactPolygonText'. -/
def fnExactPolygonTextUptoCard : Claim7 := { stood := { row := fnExactPolygonTextUptoRow, standIns := [], harness := (true, "6bcf5a21b2e6c35ce8d7c1373426dcf7fdad34a1dfd657b9f5d2be71a4b340f2"), looks := false }, kinds := [], alts := [], laidByText := true, laidKinds := [.data, .data, .data], laidTests := true, laidLooks := .later }
def FnExactPolygonTextUptoCardSaid : Prop := Claim7.holds Tryd.pinned (.plain (OpenSpec.upto fnExactPolygonTextSpec)) fnExactPolygonTextUptoCard
end Rows
end Go.Proofs.YtmaodbmjknmepaaDoor
