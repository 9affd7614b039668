/-
  No cell of these rows narrows 'for every input' (looked for: loops, veiled, ifaces, maps, wideKeys, modest, calm, conditions, laid).
  DERIVED. THE GIVEN ROWS OF THIS SEAT. 12 by the template 'for every input the law returns true; each argument reads behind the call as it read before'; 0 by the template 'total and deterministic' (their statements: YtmpeniplngfndaaTotals.lean).
  GIVEN WITH THE SEED: the statements are not yours to turn. If you find one false, say at which input.
  Laid BY PROGRAM, IN A SANDBOX (cutbox-rows.mjs): the forced cells as the released guide's own fill.sh prints them over the translation b8f80db7779b68ed… (all of the seat's roots in one cut). By AI agents, Wed Nov 11 2026. No macro, syntax, notation, axiom, sorry.
-/
import Derived.Test.YtmpeniplngfndaaChecked
import GoSem.Claim
import GoSem.ClaimJoined
import GoSem.ClaimMapViews
import Derived.JoinedTies
import Derived.KernelRfl
namespace Go.Proofs.Ytmpeniplngfndaa
/- THE CELL 'sum', in the pinned program and in every row, IS THE sha256 OF THE DUMP (.gsa) THAT YtmpeniplngfndaaProg.lean LOADS. Nothing in Lean hashes anything: it is a label: what it is worth is what the hold of that sum in a sandbox is worth. -/
noncomputable def Try.pinned : Pinned := { name := "ytmpeniplngfndaa", sum := "b8f80db7779b68ed2ec59cc9a4026254ed84765915d3592030c090a9e3392dc3", checked := Try.checked }
namespace Rows
def none {H : Type} : Left H := { results := [], args := [] }

/-- 'laws.FnExactConstants': WHATEVER THE INPUT: true; the input reads as it did. -/
def fnExactConstantsSpec : ChangeSpec := { name := "fnExactConstants", fn := fun _ => fun
  | [] => { results := [.lit (.bool true)], args := [] }
  | _ => none }
def fnExactConstantsRow : OpenClaim := { program := "ytmpeniplngfndaa", sum := "b8f80db7779b68ed2ec59cc9a4026254ed84765915d3592030c090a9e3392dc3", func := "loop.example/g01056/laws.FnExactConstants", spec := "fnExactConstants", apart := false }
def FnExactConstantsSaid : Prop := fnExactConstantsRow.holds Try.pinned (OpenSpec.ofChange fnExactConstantsSpec)

/-- ITS FALSE NEIGHBOUR: 'it returns false'. Refute it at one input. -/
def fnExactConstantsWrong : ChangeSpec := { name := "fnExactConstants", fn := fun _ => fun
  | [] => { results := [.lit (.bool false)], args := [] }
  | _ => none }
def FnExactConstantsWrongFalsely : Prop := fnExactConstantsRow.holds Try.pinned (OpenSpec.ofChange fnExactConstantsWrong)

/-- 'laws.FnExactIsNumber': WHATEVER THE INPUT: true; the input reads as it did. -/
def fnExactIsNumberSpec : ChangeSpec := { name := "fnExactIsNumber", fn := fun _ => fun
  | [d] => { results := [.lit (.bool true)], args := [d] }
  | _ => none }
def fnExactIsNumberRow : OpenClaim := { program := "ytmpeniplngfndaa", sum := "b8f80db7779b68ed2ec59cc9a4026254ed84765915d3592030c090a9e3392dc3", func := "loop.example/g01056/laws.FnExactIsNumber", spec := "fnExactIsNumber", apart := false }
def FnExactIsNumberSaid : Prop := fnExactIsNumberRow.holds Try.pinned (OpenSpec.ofChange fnExactIsNumberSpec)

/-- ITS FALSE NEIGHBOUR: 'it returns false'. Refute it at one input. -/
def fnExactIsNumberWrong : ChangeSpec := { name := "fnExactIsNumber", fn := fun _ => fun
  | [d] => { results := [.lit (.bool false)], args := [d] }
  | _ => none }
def FnExactIsNumberWrongFalsely : Prop := fnExactIsNumberRow.holds Try.pinned (OpenSpec.ofChange fnExactIsNumberWrong)

/-- 'laws.FnExactIsPoint': WHATEVER THE INPUT: true; the input reads as it did. -/
def fnExactIsPointSpec : ChangeSpec := { name := "fnExactIsPoint", fn := fun _ => fun
  | [d] => { results := [.lit (.bool true)], args := [d] }
  | _ => none }
def fnExactIsPointRow : OpenClaim := { program := "ytmpeniplngfndaa", sum := "b8f80db7779b68ed2ec59cc9a4026254ed84765915d3592030c090a9e3392dc3", func := "loop.example/g01056/laws.FnExactIsPoint", spec := "fnExactIsPoint", apart := false }
def FnExactIsPointSaid : Prop := fnExactIsPointRow.holds Try.pinned (OpenSpec.ofChange fnExactIsPointSpec)

/-- ITS FALSE NEIGHBOUR: 'it returns false'. Refute it at one input. -/
def fnExactIsPointWrong : ChangeSpec := { name := "fnExactIsPoint", fn := fun _ => fun
  | [d] => { results := [.lit (.bool false)], args := [d] }
  | _ => none }
def FnExactIsPointWrongFalsely : Prop := fnExactIsPointRow.holds Try.pinned (OpenSpec.ofChange fnExactIsPointWrong)

/-- 'laws.FnExactTropSum': WHATEVER THE INPUT: true; the input reads as it did. -/
def fnExactTropSumSpec : ChangeSpec := { name := "fnExactTropSum", fn := fun _ => fun
  | [d1, d2] => { results := [.lit (.bool true)], args := [d1, d2] }
  | _ => none }
def fnExactTropSumRow : OpenClaim := { program := "ytmpeniplngfndaa", sum := "b8f80db7779b68ed2ec59cc9a4026254ed84765915d3592030c090a9e3392dc3", func := "loop.example/g01056/laws.FnExactTropSum", spec := "fnExactTropSum", apart := false }
def FnExactTropSumSaid : Prop := fnExactTropSumRow.holds Try.pinned (OpenSpec.ofChange fnExactTropSumSpec)

/-- ITS FALSE NEIGHBOUR: 'it returns false'. Refute it at one input. -/
def fnExactTropSumWrong : ChangeSpec := { name := "fnExactTropSum", fn := fun _ => fun
  | [d1, d2] => { results := [.lit (.bool false)], args := [d1, d2] }
  | _ => none }
def FnExactTropSumWrongFalsely : Prop := fnExactTropSumRow.holds Try.pinned (OpenSpec.ofChange fnExactTropSumWrong)

/-- 'laws.FnExactTropPower': WHATEVER THE INPUT: true; the input reads as it did. -/
def fnExactTropPowerSpec : ChangeSpec := { name := "fnExactTropPower", fn := fun _ => fun
  | [d1, d2] => { results := [.lit (.bool true)], args := [d1, d2] }
  | _ => none }
def fnExactTropPowerRow : OpenClaim := { program := "ytmpeniplngfndaa", sum := "b8f80db7779b68ed2ec59cc9a4026254ed84765915d3592030c090a9e3392dc3", func := "loop.example/g01056/laws.FnExactTropPower", spec := "fnExactTropPower", apart := false }
def FnExactTropPowerSaid : Prop := fnExactTropPowerRow.holds Try.pinned (OpenSpec.ofChange fnExactTropPowerSpec)

/-- ITS FALSE NEIGHBOUR: 'it returns false'. Refute it at one input. -/
def fnExactTropPowerWrong : ChangeSpec := { name := "fnExactTropPower", fn := fun _ => fun
  | [d1, d2] => { results := [.lit (.bool false)], args := [d1, d2] }
  | _ => none }
def FnExactTropPowerWrongFalsely : Prop := fnExactTropPowerRow.holds Try.pinned (OpenSpec.ofChange fnExactTropPowerWrong)

/-- 'laws.FnExactTropProduct': WHATEVER THE INPUT: true; the input reads as it did. -/
def fnExactTropProductSpec : ChangeSpec := { name := "fnExactTropProduct", fn := fun _ => fun
  | [d1, d2] => { results := [.lit (.bool true)], args := [d1, d2] }
  | _ => none }
def fnExactTropProductRow : OpenClaim := { program := "ytmpeniplngfndaa", sum := "b8f80db7779b68ed2ec59cc9a4026254ed84765915d3592030c090a9e3392dc3", func := "loop.example/g01056/laws.FnExactTropProduct", spec := "fnExactTropProduct", apart := false }
def FnExactTropProductSaid : Prop := fnExactTropProductRow.holds Try.pinned (OpenSpec.ofChange fnExactTropProductSpec)

/-- ITS FALSE NEIGHBOUR: 'it returns false'. Refute it at one input. -/
def fnExactTropProductWrong : ChangeSpec := { name := "fnExactTropProduct", fn := fun _ => fun
  | [d1, d2] => { results := [.lit (.bool false)], args := [d1, d2] }
  | _ => none }
def FnExactTropProductWrongFalsely : Prop := fnExactTropProductRow.holds Try.pinned (OpenSpec.ofChange fnExactTropProductWrong)

/-- 'laws.FnExactTropQuotient': WHATEVER THE INPUT: true; the input reads as it did. -/
def fnExactTropQuotientSpec : ChangeSpec := { name := "fnExactTropQuotient", fn := fun _ => fun
  | [d1, d2] => { results := [.lit (.bool true)], args := [d1, d2] }
  | _ => none }
def fnExactTropQuotientRow : OpenClaim := { program := "ytmpeniplngfndaa", sum := "b8f80db7779b68ed2ec59cc9a4026254ed84765915d3592030c090a9e3392dc3", func := "loop.example/g01056/laws.FnExactTropQuotient", spec := "fnExactTropQuotient", apart := false }
def FnExactTropQuotientSaid : Prop := fnExactTropQuotientRow.holds Try.pinned (OpenSpec.ofChange fnExactTropQuotientSpec)

/-- ITS FALSE NEIGHBOUR: 'it returns false'. Refute it at one input. -/
def fnExactTropQuotientWrong : ChangeSpec := { name := "fnExactTropQuotient", fn := fun _ => fun
  | [d1, d2] => { results := [.lit (.bool false)], args := [d1, d2] }
  | _ => none }
def FnExactTropQuotientWrongFalsely : Prop := fnExactTropQuotientRow.holds Try.pinned (OpenSpec.ofChange fnExactTropQuotientWrong)

/-- 'laws.FnExactTropSumOf': WHATEVER THE INPUT: true; the input reads as it did. -/
def fnExactTropSumOfSpec : ChangeSpec := { name := "fnExactTropSumOf", fn := fun _ => fun
  | [d] => { results := [.lit (.bool true)], args := [d] }
  | _ => none }
def fnExactTropSumOfRow : OpenClaim := { program := "ytmpeniplngfndaa", sum := "b8f80db7779b68ed2ec59cc9a4026254ed84765915d3592030c090a9e3392dc3", func := "loop.example/g01056/laws.FnExactTropSumOf", spec := "fnExactTropSumOf", apart := false }
def FnExactTropSumOfSaid : Prop := fnExactTropSumOfRow.holds Try.pinned (OpenSpec.ofChange fnExactTropSumOfSpec)

/-- ITS FALSE NEIGHBOUR: 'it returns false'. Refute it at one input. -/
def fnExactTropSumOfWrong : ChangeSpec := { name := "fnExactTropSumOf", fn := fun _ => fun
  | [d] => { results := [.lit (.bool false)], args := [d] }
  | _ => none }
def FnExactTropSumOfWrongFalsely : Prop := fnExactTropSumOfRow.holds Try.pinned (OpenSpec.ofChange fnExactTropSumOfWrong)

/-- 'laws.FnExactDoesVanish': WHATEVER THE INPUT: true; the input reads as it did. -/
def fnExactDoesVanishSpec : ChangeSpec := { name := "fnExactDoesVanish", fn := fun _ => fun
  | [d] => { results := [.lit (.bool true)], args := [d] }
  | _ => none }
def fnExactDoesVanishRow : OpenClaim := { program := "ytmpeniplngfndaa", sum := "b8f80db7779b68ed2ec59cc9a4026254ed84765915d3592030c090a9e3392dc3", func := "loop.example/g01056/laws.FnExactDoesVanish", spec := "fnExactDoesVanish", apart := false }
def FnExactDoesVanishSaid : Prop := fnExactDoesVanishRow.holds Try.pinned (OpenSpec.ofChange fnExactDoesVanishSpec)

/-- ITS FALSE NEIGHBOUR: 'it returns false'. Refute it at one input. -/
def fnExactDoesVanishWrong : ChangeSpec := { name := "fnExactDoesVanish", fn := fun _ => fun
  | [d] => { results := [.lit (.bool false)], args := [d] }
  | _ => none }
def FnExactDoesVanishWrongFalsely : Prop := fnExactDoesVanishRow.holds Try.pinned (OpenSpec.ofChange fnExactDoesVanishWrong)

/-- 'laws.FnExactTropDot': WHATEVER THE INPUT: true; the input reads as it did. -/
def fnExactTropDotSpec : ChangeSpec := { name := "fnExactTropDot", fn := fun _ => fun
  | [d1, d2] => { results := [.lit (.bool true)], args := [d1, d2] }
  | _ => none }
def fnExactTropDotRow : OpenClaim := { program := "ytmpeniplngfndaa", sum := "b8f80db7779b68ed2ec59cc9a4026254ed84765915d3592030c090a9e3392dc3", func := "loop.example/g01056/laws.FnExactTropDot", spec := "fnExactTropDot", apart := false }
def FnExactTropDotSaid : Prop := fnExactTropDotRow.holds Try.pinned (OpenSpec.ofChange fnExactTropDotSpec)

/-- ITS FALSE NEIGHBOUR: 'it returns false'. Refute it at one input. -/
def fnExactTropDotWrong : ChangeSpec := { name := "fnExactTropDot", fn := fun _ => fun
  | [d1, d2] => { results := [.lit (.bool false)], args := [d1, d2] }
  | _ => none }
def FnExactTropDotWrongFalsely : Prop := fnExactTropDotRow.holds Try.pinned (OpenSpec.ofChange fnExactTropDotWrong)

/-- 'laws.FnExactLeastPlaces': WHATEVER THE INPUT: true; the input reads as it did. -/
def fnExactLeastPlacesSpec : ChangeSpec := { name := "fnExactLeastPlaces", fn := fun _ => fun
  | [d] => { results := [.lit (.bool true)], args := [d] }
  | _ => none }
def fnExactLeastPlacesRow : OpenClaim := { program := "ytmpeniplngfndaa", sum := "b8f80db7779b68ed2ec59cc9a4026254ed84765915d3592030c090a9e3392dc3", func := "loop.example/g01056/laws.FnExactLeastPlaces", spec := "fnExactLeastPlaces", apart := false }
def FnExactLeastPlacesSaid : Prop := fnExactLeastPlacesRow.holds Try.pinned (OpenSpec.ofChange fnExactLeastPlacesSpec)

/-- ITS FALSE NEIGHBOUR: 'it returns false'. Refute it at one input. -/
def fnExactLeastPlacesWrong : ChangeSpec := { name := "fnExactLeastPlaces", fn := fun _ => fun
  | [d] => { results := [.lit (.bool false)], args := [d] }
  | _ => none }
def FnExactLeastPlacesWrongFalsely : Prop := fnExactLeastPlacesRow.holds Try.pinned (OpenSpec.ofChange fnExactLeastPlacesWrong)

/-- 'laws.FnExactShiftList': WHATEVER THE INPUT: true; the input reads as it did. -/
def fnExactShiftListSpec : ChangeSpec := { name := "fnExactShiftList", fn := fun _ => fun
  | [d1, d2] => { results := [.lit (.bool true)], args := [d1, d2] }
  | _ => none }
def fnExactShiftListRow : OpenClaim := { program := "ytmpeniplngfndaa", sum := "b8f80db7779b68ed2ec59cc9a4026254ed84765915d3592030c090a9e3392dc3", func := "loop.example/g01056/laws.FnExactShiftList", spec := "fnExactShiftList", apart := false }
def FnExactShiftListSaid : Prop := fnExactShiftListRow.holds Try.pinned (OpenSpec.ofChange fnExactShiftListSpec)

/-- ITS FALSE NEIGHBOUR: 'it returns false'. Refute it at one input. -/
def fnExactShiftListWrong : ChangeSpec := { name := "fnExactShiftList", fn := fun _ => fun
  | [d1, d2] => { results := [.lit (.bool false)], args := [d1, d2] }
  | _ => none }
def FnExactShiftListWrongFalsely : Prop := fnExactShiftListRow.holds Try.pinned (OpenSpec.ofChange fnExactShiftListWrong)

/- THE SECOND FORM. 'bulk': how many values and letters a reading holds, each counted each time it is reached (what is shared counts as often as it is met; a slice's spare places count too). A statement '..UptoSaid' is the law's where the arguments, and the package variables that the reading takes, are together of bulk at most 1048576: NARROWER than '..Said'. Prove '..Said' where nothing that the law and all that it calls make is longer than what came in: it says more and counts as full. Else prove '..UptoSaid'. A law counts once. -/
mutual
def uptoBulk {H : Type} : DataW H → Nat
  | .lit (.string bytes) => bytes.length + 1
  | .lit _ => 1
  | .nil => 1
  | .ptr d => uptoBulk d + 1
  | .slice elems spare => uptoBulkAll elems + uptoBulkAll spare + 1
  | .agg parts => uptoBulkAll parts + 1
  | .iface _ d => uptoBulk d + 1
  | .map entries => uptoBulkEntries entries + 1
  | .held _ => 1
def uptoBulkAll {H : Type} : List (DataW H) → Nat
  | [] => 0
  | d :: r => uptoBulk d + uptoBulkAll r
def uptoBulkEntries {H : Type} : List (Lit × DataW H) → Nat
  | [] => 0
  | x :: r => uptoBulkEntry x + uptoBulkEntries r
def uptoBulkEntry {H : Type} : Lit × DataW H → Nat
  | (.string bytes, d) => bytes.length + uptoBulk d + 1
  | (_, d) => uptoBulk d + 1
 end
def uptoSmall : (H : Type) → List (DataW H) → Bool := fun _ ds => decide (uptoBulkAll ds ≤ 1048576)
def OpenSpec.upto (s : _root_.Go.ChangeSpec) : _root_.Go.OpenSpec := { _root_.Go.OpenSpec.ofChange s with cond := some uptoSmall }

/-- 'laws.FnExactConstants', WHERE WHAT IT READS IS OF BULK AT MOST 1048576: true; the input reads as it did. -/
def fnExactConstantsUptoRow : OpenClaim := { program := "ytmpeniplngfndaa", sum := "b8f80db7779b68ed2ec59cc9a4026254ed84765915d3592030c090a9e3392dc3", func := "loop.example/g01056/laws.FnExactConstants", spec := "fnExactConstants", apart := false, narrowed := true }
def FnExactConstantsUptoSaid : Prop := fnExactConstantsUptoRow.holds Try.pinned (OpenSpec.upto fnExactConstantsSpec)

/-- 'laws.FnExactIsNumber', WHERE WHAT IT READS IS OF BULK AT MOST 1048576: true; the input reads as it did. -/
def fnExactIsNumberUptoRow : OpenClaim := { program := "ytmpeniplngfndaa", sum := "b8f80db7779b68ed2ec59cc9a4026254ed84765915d3592030c090a9e3392dc3", func := "loop.example/g01056/laws.FnExactIsNumber", spec := "fnExactIsNumber", apart := false, narrowed := true }
def FnExactIsNumberUptoSaid : Prop := fnExactIsNumberUptoRow.holds Try.pinned (OpenSpec.upto fnExactIsNumberSpec)

/-- 'laws.FnExactIsPoint', WHERE WHAT IT READS IS OF BULK AT MOST 1048576: true; the input reads as it did. -/
def fnExactIsPointUptoRow : OpenClaim := { program := "ytmpeniplngfndaa", sum := "b8f80db7779b68ed2ec59cc9a4026254ed84765915d3592030c090a9e3392dc3", func := "loop.example/g01056/laws.FnExactIsPoint", spec := "fnExactIsPoint", apart := false, narrowed := true }
def FnExactIsPointUptoSaid : Prop := fnExactIsPointUptoRow.holds Try.pinned (OpenSpec.upto fnExactIsPointSpec)

/-- 'laws.FnExactTropSum', WHERE WHAT IT READS IS OF BULK AT MOST 1048576: true; the input reads as it did. -/
def fnExactTropSumUptoRow : OpenClaim := { program := "ytmpeniplngfndaa", sum := "b8f80db7779b68ed2ec59cc9a4026254ed84765915d3592030c090a9e3392dc3", func := "loop.example/g01056/laws.FnExactTropSum", spec := "fnExactTropSum", apart := false, narrowed := true }
def FnExactTropSumUptoSaid : Prop := fnExactTropSumUptoRow.holds Try.pinned (OpenSpec.upto fnExactTropSumSpec)

/-- 'laws.FnExactTropPower', WHERE WHAT IT READS IS OF BULK AT MOST 1048576: true; the input reads as it did. -/
def fnExactTropPowerUptoRow : OpenClaim := { program := "ytmpeniplngfndaa", sum := "b8f80db7779b68ed2ec59cc9a4026254ed84765915d3592030c090a9e3392dc3", func := "loop.example/g01056/laws.FnExactTropPower", spec := "fnExactTropPower", apart := false, narrowed := true }
def FnExactTropPowerUptoSaid : Prop := fnExactTropPowerUptoRow.holds Try.pinned (OpenSpec.upto fnExactTropPowerSpec)

/-- 'laws.FnExactTropProduct', WHERE WHAT IT READS IS OF BULK AT MOST 1048576: true; the input reads as it did. -/
def fnExactTropProductUptoRow : OpenClaim := { program := "ytmpeniplngfndaa", sum := "b8f80db7779b68ed2ec59cc9a4026254ed84765915d3592030c090a9e3392dc3", func := "loop.example/g01056/laws.FnExactTropProduct", spec := "fnExactTropProduct", apart := false, narrowed := true }
def FnExactTropProductUptoSaid : Prop := fnExactTropProductUptoRow.holds Try.pinned (OpenSpec.upto fnExactTropProductSpec)

/-- 'laws.FnExactTropQuotient', WHERE WHAT IT READS IS OF BULK AT MOST 1048576: true; the input reads as it did. -/
def fnExactTropQuotientUptoRow : OpenClaim := { program := "ytmpeniplngfndaa", sum := "b8f80db7779b68ed2ec59cc9a4026254ed84765915d3592030c090a9e3392dc3", func := "loop.example/g01056/laws.FnExactTropQuotient", spec := "fnExactTropQuotient", apart := false, narrowed := true }
def FnExactTropQuotientUptoSaid : Prop := fnExactTropQuotientUptoRow.holds Try.pinned (OpenSpec.upto fnExactTropQuotientSpec)

/-- 'laws.FnExactTropSumOf', WHERE WHAT IT READS IS OF BULK AT MOST 1048576: true; the input reads as it did. -/
def fnExactTropSumOfUptoRow : OpenClaim := { program := "ytmpeniplngfndaa", sum := "b8f80db7779b68ed2ec59cc9a4026254ed84765915d3592030c090a9e3392dc3", func := "loop.example/g01056/laws.FnExactTropSumOf", spec := "fnExactTropSumOf", apart := false, narrowed := true }
def FnExactTropSumOfUptoSaid : Prop := fnExactTropSumOfUptoRow.holds Try.pinned (OpenSpec.upto fnExactTropSumOfSpec)

/-- 'laws.FnExactDoesVanish', WHERE WHAT IT READS IS OF BULK AT MOST 1048576: true; the input reads as it did. -/
def fnExactDoesVanishUptoRow : OpenClaim := { program := "ytmpeniplngfndaa", sum := "b8f80db7779b68ed2ec59cc9a4026254ed84765915d3592030c090a9e3392dc3", func := "loop.example/g01056/laws.FnExactDoesVanish", spec := "fnExactDoesVanish", apart := false, narrowed := true }
def FnExactDoesVanishUptoSaid : Prop := fnExactDoesVanishUptoRow.holds Try.pinned (OpenSpec.upto fnExactDoesVanishSpec)

/-- 'laws.FnExactTropDot', WHERE WHAT IT READS IS OF BULK AT MOST 1048576: true; the input reads as it did. -/
def fnExactTropDotUptoRow : OpenClaim := { program := "ytmpeniplngfndaa", sum := "b8f80db7779b68ed2ec59cc9a4026254ed84765915d3592030c090a9e3392dc3", func := "loop.example/g01056/laws.FnExactTropDot", spec := "fnExactTropDot", apart := false, narrowed := true }
def FnExactTropDotUptoSaid : Prop := fnExactTropDotUptoRow.holds Try.pinned (OpenSpec.upto fnExactTropDotSpec)

/-- 'laws.FnExactLeastPlaces', WHERE WHAT IT READS IS OF BULK AT MOST 1048576: true; the input reads as it did. -/
def fnExactLeastPlacesUptoRow : OpenClaim := { program := "ytmpeniplngfndaa", sum := "b8f80db7779b68ed2ec59cc9a4026254ed84765915d3592030c090a9e3392dc3", func := "loop.example/g01056/laws.FnExactLeastPlaces", spec := "fnExactLeastPlaces", apart := false, narrowed := true }
def FnExactLeastPlacesUptoSaid : Prop := fnExactLeastPlacesUptoRow.holds Try.pinned (OpenSpec.upto fnExactLeastPlacesSpec)

/-- 'laws.FnExactShiftList', WHERE WHAT IT READS IS OF BULK AT MOST 1048576: true; the input reads as it did. -/
def fnExactShiftListUptoRow : OpenClaim := { program := "ytmpeniplngfndaa", sum := "b8f80db7779b68ed2ec59cc9a4026254ed84765915d3592030c090a9e3392dc3", func := "loop.example/g01056/laws.FnExactShiftList", spec := "fnExactShiftList", apart := false, narrowed := true }
def FnExactShiftListUptoSaid : Prop := fnExactShiftListUptoRow.holds Try.pinned (OpenSpec.upto fnExactShiftListSpec)

end Rows
end Go.Proofs.Ytmpeniplngfndaa
