/-
  No cell of these rows narrows 'for every input' (looked for: loops, veiled, ifaces, maps, wideKeys, modest, calm, conditions, laid).
  DERIVED. THE GIVEN ROWS OF THIS SEAT. 4 by the template 'for every input the law returns true; each argument reads behind the call as it read before'; 0 by the template 'total and deterministic' (their statements: YtmaodbmjknmepaaTotals.lean).
  GIVEN WITH THE SEED: the statements are not yours to turn. If you find one false, say at which input.
  Laid BY PROGRAM, IN A SANDBOX (cutbox-rows.mjs): the forced cells as the released guide's own fill.sh prints them over the translation 24524842d8a5d752… (all of the seat's roots in one cut). By AI agents, Wed Nov 11 2026. No macro, syntax, notation, axiom, sorry.
-/
import Derived.Test.YtmaodbmjknmepaaChecked
import GoSem.Claim
import GoSem.ClaimJoined
import GoSem.ClaimMapViews
import Derived.JoinedTies
import Derived.KernelRfl
namespace Go.Proofs.Ytmaodbmjknmepaa
/- THE CELL 'sum', in the pinned program and in every row, IS THE sha256 OF THE DUMP (.gsa) THAT YtmaodbmjknmepaaProg.lean LOADS. Nothing in Lean hashes anything: it is a label: what it is worth is what the hold of that sum in a sandbox is worth. -/
noncomputable def Try.pinned : Pinned := { name := "ytmaodbmjknmepaa", sum := "24524842d8a5d752d6ec619c8f490c8740a23d2d2f35f9ead9dbbcaf01f0a5d3", checked := Try.checked }
namespace Rows
def none {H : Type} : Left H := { results := [], args := [] }

/-- 'laws.FnExactIsPolygon': WHATEVER THE INPUT: true; the input reads as it did. -/
def fnExactIsPolygonSpec : ChangeSpec := { name := "fnExactIsPolygon", fn := fun _ => fun
  | [d] => { results := [.lit (.bool true)], args := [d] }
  | _ => none }
def fnExactIsPolygonRow : OpenClaim := { program := "ytmaodbmjknmepaa", sum := "24524842d8a5d752d6ec619c8f490c8740a23d2d2f35f9ead9dbbcaf01f0a5d3", func := "loop.example/g01056/laws.FnExactIsPolygon", spec := "fnExactIsPolygon", unfollowed := true, recurses := true, apart := false }
def FnExactIsPolygonSaid : Prop := fnExactIsPolygonRow.holds Try.pinned (OpenSpec.ofChange fnExactIsPolygonSpec)

/-- ITS FALSE NEIGHBOUR: 'it returns false'. Refute it at one input. -/
def fnExactIsPolygonWrong : ChangeSpec := { name := "fnExactIsPolygon", fn := fun _ => fun
  | [d] => { results := [.lit (.bool false)], args := [d] }
  | _ => none }
def FnExactIsPolygonWrongFalsely : Prop := fnExactIsPolygonRow.holds Try.pinned (OpenSpec.ofChange fnExactIsPolygonWrong)

/-- 'laws.FnExactHullOf': WHATEVER THE INPUT: true; the input reads as it did. -/
def fnExactHullOfSpec : ChangeSpec := { name := "fnExactHullOf", fn := fun _ => fun
  | [d] => { results := [.lit (.bool true)], args := [d] }
  | _ => none }
def fnExactHullOfRow : OpenClaim := { program := "ytmaodbmjknmepaa", sum := "24524842d8a5d752d6ec619c8f490c8740a23d2d2f35f9ead9dbbcaf01f0a5d3", func := "loop.example/g01056/laws.FnExactHullOf", spec := "fnExactHullOf", unfollowed := true, recurses := true, apart := false }
def FnExactHullOfSaid : Prop := fnExactHullOfRow.holds Try.pinned (OpenSpec.ofChange fnExactHullOfSpec)

/-- ITS FALSE NEIGHBOUR: 'it returns false'. Refute it at one input. -/
def fnExactHullOfWrong : ChangeSpec := { name := "fnExactHullOf", fn := fun _ => fun
  | [d] => { results := [.lit (.bool false)], args := [d] }
  | _ => none }
def FnExactHullOfWrongFalsely : Prop := fnExactHullOfRow.holds Try.pinned (OpenSpec.ofChange fnExactHullOfWrong)

/-- 'laws.FnExactWidthIn': WHATEVER THE INPUT: true; the input reads as it did. -/
def fnExactWidthInSpec : ChangeSpec := { name := "fnExactWidthIn", fn := fun _ => fun
  | [d1, d2] => { results := [.lit (.bool true)], args := [d1, d2] }
  | _ => none }
def fnExactWidthInRow : OpenClaim := { program := "ytmaodbmjknmepaa", sum := "24524842d8a5d752d6ec619c8f490c8740a23d2d2f35f9ead9dbbcaf01f0a5d3", func := "loop.example/g01056/laws.FnExactWidthIn", spec := "fnExactWidthIn", unfollowed := true, recurses := true, apart := false }
def FnExactWidthInSaid : Prop := fnExactWidthInRow.holds Try.pinned (OpenSpec.ofChange fnExactWidthInSpec)

/-- ITS FALSE NEIGHBOUR: 'it returns false'. Refute it at one input. -/
def fnExactWidthInWrong : ChangeSpec := { name := "fnExactWidthIn", fn := fun _ => fun
  | [d1, d2] => { results := [.lit (.bool false)], args := [d1, d2] }
  | _ => none }
def FnExactWidthInWrongFalsely : Prop := fnExactWidthInRow.holds Try.pinned (OpenSpec.ofChange fnExactWidthInWrong)

/-- 'laws.FnExactSumOfPolygons': WHATEVER THE INPUT: true; the input reads as it did. -/
def fnExactSumOfPolygonsSpec : ChangeSpec := { name := "fnExactSumOfPolygons", fn := fun _ => fun
  | [d1, d2] => { results := [.lit (.bool true)], args := [d1, d2] }
  | _ => none }
def fnExactSumOfPolygonsRow : OpenClaim := { program := "ytmaodbmjknmepaa", sum := "24524842d8a5d752d6ec619c8f490c8740a23d2d2f35f9ead9dbbcaf01f0a5d3", func := "loop.example/g01056/laws.FnExactSumOfPolygons", spec := "fnExactSumOfPolygons", unfollowed := true, recurses := true, apart := false }
def FnExactSumOfPolygonsSaid : Prop := fnExactSumOfPolygonsRow.holds Try.pinned (OpenSpec.ofChange fnExactSumOfPolygonsSpec)

/-- ITS FALSE NEIGHBOUR: 'it returns false'. Refute it at one input. -/
def fnExactSumOfPolygonsWrong : ChangeSpec := { name := "fnExactSumOfPolygons", fn := fun _ => fun
  | [d1, d2] => { results := [.lit (.bool false)], args := [d1, d2] }
  | _ => none }
def FnExactSumOfPolygonsWrongFalsely : Prop := fnExactSumOfPolygonsRow.holds Try.pinned (OpenSpec.ofChange fnExactSumOfPolygonsWrong)

/- THE SECOND FORM. 'bulk': how many values and letters a reading holds, each counted each time it is reached (what is shared counts as often as it is met; a slice's spare places count too). A statement '..UptoSaid' is the law's where the arguments, and the package variables that the reading takes, are together of bulk at most 1048576: NARROWER than '..Said'. Prove '..Said' where nothing that the law and all that it calls make is longer than what came in: it says more and counts as full. Else prove '..UptoSaid'. A law counts once. -/
mutual
def uptoBulk {H : Type} : DataW H → Nat
  | .lit (.string bytes) => bytes.length + 1
  | .lit _ => 1
  | .nil => 1
  | .ptr d => uptoBulk d + 1
  | .slice elems spare => uptoBulkAll elems + uptoBulkAll spare + 1
  | .agg parts => uptoBulkAll parts + 1
  | .iface _ d => uptoBulk d + 1
  | .map entries => uptoBulkEntries entries + 1
  | .held _ => 1
def uptoBulkAll {H : Type} : List (DataW H) → Nat
  | [] => 0
  | d :: r => uptoBulk d + uptoBulkAll r
def uptoBulkEntries {H : Type} : List (Lit × DataW H) → Nat
  | [] => 0
  | x :: r => uptoBulkEntry x + uptoBulkEntries r
def uptoBulkEntry {H : Type} : Lit × DataW H → Nat
  | (.string bytes, d) => bytes.length + uptoBulk d + 1
  | (_, d) => uptoBulk d + 1
 end
def uptoSmall : (H : Type) → List (DataW H) → Bool := fun _ ds => decide (uptoBulkAll ds ≤ 1048576)
def OpenSpec.upto (s : _root_.Go.ChangeSpec) : _root_.Go.OpenSpec := { _root_.Go.OpenSpec.ofChange s with cond := some uptoSmall }

/-- 'laws.FnExactIsPolygon', WHERE WHAT IT READS IS OF BULK AT MOST 1048576: true; the input reads as it did. -/
def fnExactIsPolygonUptoRow : OpenClaim := { program := "ytmaodbmjknmepaa", sum := "24524842d8a5d752d6ec619c8f490c8740a23d2d2f35f9ead9dbbcaf01f0a5d3", func := "loop.example/g01056/laws.FnExactIsPolygon", spec := "fnExactIsPolygon", unfollowed := true, recurses := true, apart := false, narrowed := true }
def FnExactIsPolygonUptoSaid : Prop := fnExactIsPolygonUptoRow.holds Try.pinned (OpenSpec.upto fnExactIsPolygonSpec)

/-- 'laws.FnExactHullOf', WHERE WHAT IT READS IS OF BULK AT MOST 1048576: true; the input reads as it did. -/
def fnExactHullOfUptoRow : OpenClaim := { program := "ytmaodbmjknmepaa", sum := "24524842d8a5d752d6ec619c8f490c8740a23d2d2f35f9ead9dbbcaf01f0a5d3", func := "loop.example/g01056/laws.FnExactHullOf", spec := "fnExactHullOf", unfollowed := true, recurses := true, apart := false, narrowed := true }
def FnExactHullOfUptoSaid : Prop := fnExactHullOfUptoRow.holds Try.pinned (OpenSpec.upto fnExactHullOfSpec)

/-- 'laws.FnExactWidthIn', WHERE WHAT IT READS IS OF BULK AT MOST 1048576: true; the input reads as it did. -/
def fnExactWidthInUptoRow : OpenClaim := { program := "ytmaodbmjknmepaa", sum := "24524842d8a5d752d6ec619c8f490c8740a23d2d2f35f9ead9dbbcaf01f0a5d3", func := "loop.example/g01056/laws.FnExactWidthIn", spec := "fnExactWidthIn", unfollowed := true, recurses := true, apart := false, narrowed := true }
def FnExactWidthInUptoSaid : Prop := fnExactWidthInUptoRow.holds Try.pinned (OpenSpec.upto fnExactWidthInSpec)

/-- 'laws.FnExactSumOfPolygons', WHERE WHAT IT READS IS OF BULK AT MOST 1048576: true; the input reads as it did. -/
def fnExactSumOfPolygonsUptoRow : OpenClaim := { program := "ytmaodbmjknmepaa", sum := "24524842d8a5d752d6ec619c8f490c8740a23d2d2f35f9ead9dbbcaf01f0a5d3", func := "loop.example/g01056/laws.FnExactSumOfPolygons", spec := "fnExactSumOfPolygons", unfollowed := true, recurses := true, apart := false, narrowed := true }
def FnExactSumOfPolygonsUptoSaid : Prop := fnExactSumOfPolygonsUptoRow.holds Try.pinned (OpenSpec.upto fnExactSumOfPolygonsSpec)

end Rows
end Go.Proofs.Ytmaodbmjknmepaa
