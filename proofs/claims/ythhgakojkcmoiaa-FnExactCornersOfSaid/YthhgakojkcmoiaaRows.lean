/-
  No cell of these rows narrows 'for every input' (looked for: loops, veiled, ifaces, maps, wideKeys, modest, calm, conditions, laid).
  DERIVED. THE GIVEN ROWS OF THIS SEAT. 12 by the template 'for every input the law returns true; each argument reads behind the call as it read before'; 0 by the template 'total and deterministic' (their statements: YthhgakojkcmoiaaTotals.lean).
  GIVEN WITH THE SEED: the statements are not yours to turn. If you find one false, say at which input.
  Laid BY PROGRAM, IN A SANDBOX (cutbox-rows.mjs): the forced cells as the released guide's own fill.sh prints them over the translation 89c27cc4ef3fd6a6… (all of the seat's roots in one cut). By AI agents, Wed Nov 11 2026. No macro, syntax, notation, axiom, sorry.
-/
import Derived.Test.YthhgakojkcmoiaaChecked
import GoSem.Claim
import GoSem.ClaimJoined
import GoSem.ClaimMapViews
import Derived.JoinedTies
import Derived.KernelRfl
namespace Go.Proofs.Ythhgakojkcmoiaa
/- THE CELL 'sum', in the pinned program and in every row, IS THE sha256 OF THE DUMP (.gsa) THAT YthhgakojkcmoiaaProg.lean LOADS. Nothing in Lean hashes anything: it is a label: what it is worth is what the hold of that sum in a sandbox is worth. -/
noncomputable def Try.pinned : Pinned := { name := "ythhgakojkcmoiaa", sum := "89c27cc4ef3fd6a6630e64e135a22c0e8ed0a28f7f7daeb2f26065119073a516", checked := Try.checked }
namespace Rows
def none {H : Type} : Left H := { results := [], args := [] }

/-- 'laws.FnExactIsPoly': WHATEVER THE INPUT: true; the input reads as it did. -/
def fnExactIsPolySpec : ChangeSpec := { name := "fnExactIsPoly", fn := fun _ => fun
  | [d] => { results := [.lit (.bool true)], args := [d] }
  | _ => none }
def fnExactIsPolyRow : OpenClaim := { program := "ythhgakojkcmoiaa", sum := "89c27cc4ef3fd6a6630e64e135a22c0e8ed0a28f7f7daeb2f26065119073a516", func := "loop.example/g01056/laws.FnExactIsPoly", spec := "fnExactIsPoly", apart := false }
def FnExactIsPolySaid : Prop := fnExactIsPolyRow.holds Try.pinned (OpenSpec.ofChange fnExactIsPolySpec)

/-- ITS FALSE NEIGHBOUR: 'it returns false'. Refute it at one input. -/
def fnExactIsPolyWrong : ChangeSpec := { name := "fnExactIsPoly", fn := fun _ => fun
  | [d] => { results := [.lit (.bool false)], args := [d] }
  | _ => none }
def FnExactIsPolyWrongFalsely : Prop := fnExactIsPolyRow.holds Try.pinned (OpenSpec.ofChange fnExactIsPolyWrong)

/-- 'laws.FnExactPolySum': WHATEVER THE INPUT: true; the input reads as it did. -/
def fnExactPolySumSpec : ChangeSpec := { name := "fnExactPolySum", fn := fun _ => fun
  | [d1, d2] => { results := [.lit (.bool true)], args := [d1, d2] }
  | _ => none }
def fnExactPolySumRow : OpenClaim := { program := "ythhgakojkcmoiaa", sum := "89c27cc4ef3fd6a6630e64e135a22c0e8ed0a28f7f7daeb2f26065119073a516", func := "loop.example/g01056/laws.FnExactPolySum", spec := "fnExactPolySum", apart := false }
def FnExactPolySumSaid : Prop := fnExactPolySumRow.holds Try.pinned (OpenSpec.ofChange fnExactPolySumSpec)

/-- ITS FALSE NEIGHBOUR: 'it returns false'. Refute it at one input. -/
def fnExactPolySumWrong : ChangeSpec := { name := "fnExactPolySum", fn := fun _ => fun
  | [d1, d2] => { results := [.lit (.bool false)], args := [d1, d2] }
  | _ => none }
def FnExactPolySumWrongFalsely : Prop := fnExactPolySumRow.holds Try.pinned (OpenSpec.ofChange fnExactPolySumWrong)

/-- 'laws.FnExactMovePoly': WHATEVER THE INPUT: true; the input reads as it did. -/
def fnExactMovePolySpec : ChangeSpec := { name := "fnExactMovePoly", fn := fun _ => fun
  | [d1, d2] => { results := [.lit (.bool true)], args := [d1, d2] }
  | _ => none }
def fnExactMovePolyRow : OpenClaim := { program := "ythhgakojkcmoiaa", sum := "89c27cc4ef3fd6a6630e64e135a22c0e8ed0a28f7f7daeb2f26065119073a516", func := "loop.example/g01056/laws.FnExactMovePoly", spec := "fnExactMovePoly", apart := false }
def FnExactMovePolySaid : Prop := fnExactMovePolyRow.holds Try.pinned (OpenSpec.ofChange fnExactMovePolySpec)

/-- ITS FALSE NEIGHBOUR: 'it returns false'. Refute it at one input. -/
def fnExactMovePolyWrong : ChangeSpec := { name := "fnExactMovePoly", fn := fun _ => fun
  | [d1, d2] => { results := [.lit (.bool false)], args := [d1, d2] }
  | _ => none }
def FnExactMovePolyWrongFalsely : Prop := fnExactMovePolyRow.holds Try.pinned (OpenSpec.ofChange fnExactMovePolyWrong)

/-- 'laws.FnExactPolyValue': WHATEVER THE INPUT: true; the input reads as it did. -/
def fnExactPolyValueSpec : ChangeSpec := { name := "fnExactPolyValue", fn := fun _ => fun
  | [d1, d2] => { results := [.lit (.bool true)], args := [d1, d2] }
  | _ => none }
def fnExactPolyValueRow : OpenClaim := { program := "ythhgakojkcmoiaa", sum := "89c27cc4ef3fd6a6630e64e135a22c0e8ed0a28f7f7daeb2f26065119073a516", func := "loop.example/g01056/laws.FnExactPolyValue", spec := "fnExactPolyValue", apart := false }
def FnExactPolyValueSaid : Prop := fnExactPolyValueRow.holds Try.pinned (OpenSpec.ofChange fnExactPolyValueSpec)

/-- ITS FALSE NEIGHBOUR: 'it returns false'. Refute it at one input. -/
def fnExactPolyValueWrong : ChangeSpec := { name := "fnExactPolyValue", fn := fun _ => fun
  | [d1, d2] => { results := [.lit (.bool false)], args := [d1, d2] }
  | _ => none }
def FnExactPolyValueWrongFalsely : Prop := fnExactPolyValueRow.holds Try.pinned (OpenSpec.ofChange fnExactPolyValueWrong)

/-- 'laws.FnExactCornersOf': WHATEVER THE INPUT: true; the input reads as it did. -/
def fnExactCornersOfSpec : ChangeSpec := { name := "fnExactCornersOf", fn := fun _ => fun
  | [d] => { results := [.lit (.bool true)], args := [d] }
  | _ => none }
def fnExactCornersOfRow : OpenClaim := { program := "ythhgakojkcmoiaa", sum := "89c27cc4ef3fd6a6630e64e135a22c0e8ed0a28f7f7daeb2f26065119073a516", func := "loop.example/g01056/laws.FnExactCornersOf", spec := "fnExactCornersOf", apart := false }
def FnExactCornersOfSaid : Prop := fnExactCornersOfRow.holds Try.pinned (OpenSpec.ofChange fnExactCornersOfSpec)

/-- ITS FALSE NEIGHBOUR: 'it returns false'. Refute it at one input. -/
def fnExactCornersOfWrong : ChangeSpec := { name := "fnExactCornersOf", fn := fun _ => fun
  | [d] => { results := [.lit (.bool false)], args := [d] }
  | _ => none }
def FnExactCornersOfWrongFalsely : Prop := fnExactCornersOfRow.holds Try.pinned (OpenSpec.ofChange fnExactCornersOfWrong)

/-- 'laws.FnExactPolyFromRoots': WHATEVER THE INPUT: true; the input reads as it did. -/
def fnExactPolyFromRootsSpec : ChangeSpec := { name := "fnExactPolyFromRoots", fn := fun _ => fun
  | [d1, d2] => { results := [.lit (.bool true)], args := [d1, d2] }
  | _ => none }
def fnExactPolyFromRootsRow : OpenClaim := { program := "ythhgakojkcmoiaa", sum := "89c27cc4ef3fd6a6630e64e135a22c0e8ed0a28f7f7daeb2f26065119073a516", func := "loop.example/g01056/laws.FnExactPolyFromRoots", spec := "fnExactPolyFromRoots", apart := false }
def FnExactPolyFromRootsSaid : Prop := fnExactPolyFromRootsRow.holds Try.pinned (OpenSpec.ofChange fnExactPolyFromRootsSpec)

/-- ITS FALSE NEIGHBOUR: 'it returns false'. Refute it at one input. -/
def fnExactPolyFromRootsWrong : ChangeSpec := { name := "fnExactPolyFromRoots", fn := fun _ => fun
  | [d1, d2] => { results := [.lit (.bool false)], args := [d1, d2] }
  | _ => none }
def FnExactPolyFromRootsWrongFalsely : Prop := fnExactPolyFromRootsRow.holds Try.pinned (OpenSpec.ofChange fnExactPolyFromRootsWrong)

/-- 'laws.FnExactPolyProduct': WHATEVER THE INPUT: true; the input reads as it did. -/
def fnExactPolyProductSpec : ChangeSpec := { name := "fnExactPolyProduct", fn := fun _ => fun
  | [d1, d2] => { results := [.lit (.bool true)], args := [d1, d2] }
  | _ => none }
def fnExactPolyProductRow : OpenClaim := { program := "ythhgakojkcmoiaa", sum := "89c27cc4ef3fd6a6630e64e135a22c0e8ed0a28f7f7daeb2f26065119073a516", func := "loop.example/g01056/laws.FnExactPolyProduct", spec := "fnExactPolyProduct", apart := false }
def FnExactPolyProductSaid : Prop := fnExactPolyProductRow.holds Try.pinned (OpenSpec.ofChange fnExactPolyProductSpec)

/-- ITS FALSE NEIGHBOUR: 'it returns false'. Refute it at one input. -/
def fnExactPolyProductWrong : ChangeSpec := { name := "fnExactPolyProduct", fn := fun _ => fun
  | [d1, d2] => { results := [.lit (.bool false)], args := [d1, d2] }
  | _ => none }
def FnExactPolyProductWrongFalsely : Prop := fnExactPolyProductRow.holds Try.pinned (OpenSpec.ofChange fnExactPolyProductWrong)

/-- 'laws.FnExactSlopesAt': WHATEVER THE INPUT: true; the input reads as it did. -/
def fnExactSlopesAtSpec : ChangeSpec := { name := "fnExactSlopesAt", fn := fun _ => fun
  | [d1, d2] => { results := [.lit (.bool true)], args := [d1, d2] }
  | _ => none }
def fnExactSlopesAtRow : OpenClaim := { program := "ythhgakojkcmoiaa", sum := "89c27cc4ef3fd6a6630e64e135a22c0e8ed0a28f7f7daeb2f26065119073a516", func := "loop.example/g01056/laws.FnExactSlopesAt", spec := "fnExactSlopesAt", apart := false }
def FnExactSlopesAtSaid : Prop := fnExactSlopesAtRow.holds Try.pinned (OpenSpec.ofChange fnExactSlopesAtSpec)

/-- ITS FALSE NEIGHBOUR: 'it returns false'. Refute it at one input. -/
def fnExactSlopesAtWrong : ChangeSpec := { name := "fnExactSlopesAt", fn := fun _ => fun
  | [d1, d2] => { results := [.lit (.bool false)], args := [d1, d2] }
  | _ => none }
def FnExactSlopesAtWrongFalsely : Prop := fnExactSlopesAtRow.holds Try.pinned (OpenSpec.ofChange fnExactSlopesAtWrong)

/-- 'laws.FnExactPolyPower': WHATEVER THE INPUT: true; the input reads as it did. -/
def fnExactPolyPowerSpec : ChangeSpec := { name := "fnExactPolyPower", fn := fun _ => fun
  | [d1, d2] => { results := [.lit (.bool true)], args := [d1, d2] }
  | _ => none }
def fnExactPolyPowerRow : OpenClaim := { program := "ythhgakojkcmoiaa", sum := "89c27cc4ef3fd6a6630e64e135a22c0e8ed0a28f7f7daeb2f26065119073a516", func := "loop.example/g01056/laws.FnExactPolyPower", spec := "fnExactPolyPower", apart := false }
def FnExactPolyPowerSaid : Prop := fnExactPolyPowerRow.holds Try.pinned (OpenSpec.ofChange fnExactPolyPowerSpec)

/-- ITS FALSE NEIGHBOUR: 'it returns false'. Refute it at one input. -/
def fnExactPolyPowerWrong : ChangeSpec := { name := "fnExactPolyPower", fn := fun _ => fun
  | [d1, d2] => { results := [.lit (.bool false)], args := [d1, d2] }
  | _ => none }
def FnExactPolyPowerWrongFalsely : Prop := fnExactPolyPowerRow.holds Try.pinned (OpenSpec.ofChange fnExactPolyPowerWrong)

/-- 'laws.FnExactLeastTerms': WHATEVER THE INPUT: true; the input reads as it did. -/
def fnExactLeastTermsSpec : ChangeSpec := { name := "fnExactLeastTerms", fn := fun _ => fun
  | [d1, d2] => { results := [.lit (.bool true)], args := [d1, d2] }
  | _ => none }
def fnExactLeastTermsRow : OpenClaim := { program := "ythhgakojkcmoiaa", sum := "89c27cc4ef3fd6a6630e64e135a22c0e8ed0a28f7f7daeb2f26065119073a516", func := "loop.example/g01056/laws.FnExactLeastTerms", spec := "fnExactLeastTerms", apart := false }
def FnExactLeastTermsSaid : Prop := fnExactLeastTermsRow.holds Try.pinned (OpenSpec.ofChange fnExactLeastTermsSpec)

/-- ITS FALSE NEIGHBOUR: 'it returns false'. Refute it at one input. -/
def fnExactLeastTermsWrong : ChangeSpec := { name := "fnExactLeastTerms", fn := fun _ => fun
  | [d1, d2] => { results := [.lit (.bool false)], args := [d1, d2] }
  | _ => none }
def FnExactLeastTermsWrongFalsely : Prop := fnExactLeastTermsRow.holds Try.pinned (OpenSpec.ofChange fnExactLeastTermsWrong)

/-- 'laws.FnExactNeedlessTerms': WHATEVER THE INPUT: true; the input reads as it did. -/
def fnExactNeedlessTermsSpec : ChangeSpec := { name := "fnExactNeedlessTerms", fn := fun _ => fun
  | [d] => { results := [.lit (.bool true)], args := [d] }
  | _ => none }
def fnExactNeedlessTermsRow : OpenClaim := { program := "ythhgakojkcmoiaa", sum := "89c27cc4ef3fd6a6630e64e135a22c0e8ed0a28f7f7daeb2f26065119073a516", func := "loop.example/g01056/laws.FnExactNeedlessTerms", spec := "fnExactNeedlessTerms", apart := false }
def FnExactNeedlessTermsSaid : Prop := fnExactNeedlessTermsRow.holds Try.pinned (OpenSpec.ofChange fnExactNeedlessTermsSpec)

/-- ITS FALSE NEIGHBOUR: 'it returns false'. Refute it at one input. -/
def fnExactNeedlessTermsWrong : ChangeSpec := { name := "fnExactNeedlessTerms", fn := fun _ => fun
  | [d] => { results := [.lit (.bool false)], args := [d] }
  | _ => none }
def FnExactNeedlessTermsWrongFalsely : Prop := fnExactNeedlessTermsRow.holds Try.pinned (OpenSpec.ofChange fnExactNeedlessTermsWrong)

/-- 'laws.FnExactValueAtFrac': WHATEVER THE INPUT: true; the input reads as it did. -/
def fnExactValueAtFracSpec : ChangeSpec := { name := "fnExactValueAtFrac", fn := fun _ => fun
  | [d1, d2] => { results := [.lit (.bool true)], args := [d1, d2] }
  | _ => none }
def fnExactValueAtFracRow : OpenClaim := { program := "ythhgakojkcmoiaa", sum := "89c27cc4ef3fd6a6630e64e135a22c0e8ed0a28f7f7daeb2f26065119073a516", func := "loop.example/g01056/laws.FnExactValueAtFrac", spec := "fnExactValueAtFrac", apart := false }
def FnExactValueAtFracSaid : Prop := fnExactValueAtFracRow.holds Try.pinned (OpenSpec.ofChange fnExactValueAtFracSpec)

/-- ITS FALSE NEIGHBOUR: 'it returns false'. Refute it at one input. -/
def fnExactValueAtFracWrong : ChangeSpec := { name := "fnExactValueAtFrac", fn := fun _ => fun
  | [d1, d2] => { results := [.lit (.bool false)], args := [d1, d2] }
  | _ => none }
def FnExactValueAtFracWrongFalsely : Prop := fnExactValueAtFracRow.holds Try.pinned (OpenSpec.ofChange fnExactValueAtFracWrong)

/- THE SECOND FORM. 'bulk': how many values and letters a reading holds, each counted each time it is reached (what is shared counts as often as it is met; a slice's spare places count too). A statement '..UptoSaid' is the law's where the arguments, and the package variables that the reading takes, are together of bulk at most 1048576: NARROWER than '..Said'. Prove '..Said' where nothing that the law and all that it calls make is longer than what came in: it says more and counts as full. Else prove '..UptoSaid'. A law counts once. -/
mutual
def uptoBulk {H : Type} : DataW H → Nat
  | .lit (.string bytes) => bytes.length + 1
  | .lit _ => 1
  | .nil => 1
  | .ptr d => uptoBulk d + 1
  | .slice elems spare => uptoBulkAll elems + uptoBulkAll spare + 1
  | .agg parts => uptoBulkAll parts + 1
  | .iface _ d => uptoBulk d + 1
  | .map entries => uptoBulkEntries entries + 1
  | .held _ => 1
def uptoBulkAll {H : Type} : List (DataW H) → Nat
  | [] => 0
  | d :: r => uptoBulk d + uptoBulkAll r
def uptoBulkEntries {H : Type} : List (Lit × DataW H) → Nat
  | [] => 0
  | x :: r => uptoBulkEntry x + uptoBulkEntries r
def uptoBulkEntry {H : Type} : Lit × DataW H → Nat
  | (.string bytes, d) => bytes.length + uptoBulk d + 1
  | (_, d) => uptoBulk d + 1
 end
def uptoSmall : (H : Type) → List (DataW H) → Bool := fun _ ds => decide (uptoBulkAll ds ≤ 1048576)
def OpenSpec.upto (s : _root_.Go.ChangeSpec) : _root_.Go.OpenSpec := { _root_.Go.OpenSpec.ofChange s with cond := some uptoSmall }

/-- 'laws.FnExactIsPoly', WHERE WHAT IT READS IS OF BULK AT MOST 1048576: true; the input reads as it did. -/
def fnExactIsPolyUptoRow : OpenClaim := { program := "ythhgakojkcmoiaa", sum := "89c27cc4ef3fd6a6630e64e135a22c0e8ed0a28f7f7daeb2f26065119073a516", func := "loop.example/g01056/laws.FnExactIsPoly", spec := "fnExactIsPoly", apart := false, narrowed := true }
def FnExactIsPolyUptoSaid : Prop := fnExactIsPolyUptoRow.holds Try.pinned (OpenSpec.upto fnExactIsPolySpec)

/-- 'laws.FnExactPolySum', WHERE WHAT IT READS IS OF BULK AT MOST 1048576: true; the input reads as it did. -/
def fnExactPolySumUptoRow : OpenClaim := { program := "ythhgakojkcmoiaa", sum := "89c27cc4ef3fd6a6630e64e135a22c0e8ed0a28f7f7daeb2f26065119073a516", func := "loop.example/g01056/laws.FnExactPolySum", spec := "fnExactPolySum", apart := false, narrowed := true }
def FnExactPolySumUptoSaid : Prop := fnExactPolySumUptoRow.holds Try.pinned (OpenSpec.upto fnExactPolySumSpec)

/-- 'laws.FnExactMovePoly', WHERE WHAT IT READS IS OF BULK AT MOST 1048576: true; the input reads as it did. -/
def fnExactMovePolyUptoRow : OpenClaim := { program := "ythhgakojkcmoiaa", sum := "89c27cc4ef3fd6a6630e64e135a22c0e8ed0a28f7f7daeb2f26065119073a516", func := "loop.example/g01056/laws.FnExactMovePoly", spec := "fnExactMovePoly", apart := false, narrowed := true }
def FnExactMovePolyUptoSaid : Prop := fnExactMovePolyUptoRow.holds Try.pinned (OpenSpec.upto fnExactMovePolySpec)

/-- 'laws.FnExactPolyValue', WHERE WHAT IT READS IS OF BULK AT MOST 1048576: true; the input reads as it did. -/
def fnExactPolyValueUptoRow : OpenClaim := { program := "ythhgakojkcmoiaa", sum := "89c27cc4ef3fd6a6630e64e135a22c0e8ed0a28f7f7daeb2f26065119073a516", func := "loop.example/g01056/laws.FnExactPolyValue", spec := "fnExactPolyValue", apart := false, narrowed := true }
def FnExactPolyValueUptoSaid : Prop := fnExactPolyValueUptoRow.holds Try.pinned (OpenSpec.upto fnExactPolyValueSpec)

/-- 'laws.FnExactCornersOf', WHERE WHAT IT READS IS OF BULK AT MOST 1048576: true; the input reads as it did. -/
def fnExactCornersOfUptoRow : OpenClaim := { program := "ythhgakojkcmoiaa", sum := "89c27cc4ef3fd6a6630e64e135a22c0e8ed0a28f7f7daeb2f26065119073a516", func := "loop.example/g01056/laws.FnExactCornersOf", spec := "fnExactCornersOf", apart := false, narrowed := true }
def FnExactCornersOfUptoSaid : Prop := fnExactCornersOfUptoRow.holds Try.pinned (OpenSpec.upto fnExactCornersOfSpec)

/-- 'laws.FnExactPolyFromRoots', WHERE WHAT IT READS IS OF BULK AT MOST 1048576: true; the input reads as it did. -/
def fnExactPolyFromRootsUptoRow : OpenClaim := { program := "ythhgakojkcmoiaa", sum := "89c27cc4ef3fd6a6630e64e135a22c0e8ed0a28f7f7daeb2f26065119073a516", func := "loop.example/g01056/laws.FnExactPolyFromRoots", spec := "fnExactPolyFromRoots", apart := false, narrowed := true }
def FnExactPolyFromRootsUptoSaid : Prop := fnExactPolyFromRootsUptoRow.holds Try.pinned (OpenSpec.upto fnExactPolyFromRootsSpec)

/-- 'laws.FnExactPolyProduct', WHERE WHAT IT READS IS OF BULK AT MOST 1048576: true; the input reads as it did. -/
def fnExactPolyProductUptoRow : OpenClaim := { program := "ythhgakojkcmoiaa", sum := "89c27cc4ef3fd6a6630e64e135a22c0e8ed0a28f7f7daeb2f26065119073a516", func := "loop.example/g01056/laws.FnExactPolyProduct", spec := "fnExactPolyProduct", apart := false, narrowed := true }
def FnExactPolyProductUptoSaid : Prop := fnExactPolyProductUptoRow.holds Try.pinned (OpenSpec.upto fnExactPolyProductSpec)

/-- 'laws.FnExactSlopesAt', WHERE WHAT IT READS IS OF BULK AT MOST 1048576: true; the input reads as it did. -/
def fnExactSlopesAtUptoRow : OpenClaim := { program := "ythhgakojkcmoiaa", sum := "89c27cc4ef3fd6a6630e64e135a22c0e8ed0a28f7f7daeb2f26065119073a516", func := "loop.example/g01056/laws.FnExactSlopesAt", spec := "fnExactSlopesAt", apart := false, narrowed := true }
def FnExactSlopesAtUptoSaid : Prop := fnExactSlopesAtUptoRow.holds Try.pinned (OpenSpec.upto fnExactSlopesAtSpec)

/-- 'laws.FnExactPolyPower', WHERE WHAT IT READS IS OF BULK AT MOST 1048576: true; the input reads as it did. -/
def fnExactPolyPowerUptoRow : OpenClaim := { program := "ythhgakojkcmoiaa", sum := "89c27cc4ef3fd6a6630e64e135a22c0e8ed0a28f7f7daeb2f26065119073a516", func := "loop.example/g01056/laws.FnExactPolyPower", spec := "fnExactPolyPower", apart := false, narrowed := true }
def FnExactPolyPowerUptoSaid : Prop := fnExactPolyPowerUptoRow.holds Try.pinned (OpenSpec.upto fnExactPolyPowerSpec)

/-- 'laws.FnExactLeastTerms', WHERE WHAT IT READS IS OF BULK AT MOST 1048576: true; the input reads as it did. -/
def fnExactLeastTermsUptoRow : OpenClaim := { program := "ythhgakojkcmoiaa", sum := "89c27cc4ef3fd6a6630e64e135a22c0e8ed0a28f7f7daeb2f26065119073a516", func := "loop.example/g01056/laws.FnExactLeastTerms", spec := "fnExactLeastTerms", apart := false, narrowed := true }
def FnExactLeastTermsUptoSaid : Prop := fnExactLeastTermsUptoRow.holds Try.pinned (OpenSpec.upto fnExactLeastTermsSpec)

/-- 'laws.FnExactNeedlessTerms', WHERE WHAT IT READS IS OF BULK AT MOST 1048576: true; the input reads as it did. -/
def fnExactNeedlessTermsUptoRow : OpenClaim := { program := "ythhgakojkcmoiaa", sum := "89c27cc4ef3fd6a6630e64e135a22c0e8ed0a28f7f7daeb2f26065119073a516", func := "loop.example/g01056/laws.FnExactNeedlessTerms", spec := "fnExactNeedlessTerms", apart := false, narrowed := true }
def FnExactNeedlessTermsUptoSaid : Prop := fnExactNeedlessTermsUptoRow.holds Try.pinned (OpenSpec.upto fnExactNeedlessTermsSpec)

/-- 'laws.FnExactValueAtFrac', WHERE WHAT IT READS IS OF BULK AT MOST 1048576: true; the input reads as it did. -/
def fnExactValueAtFracUptoRow : OpenClaim := { program := "ythhgakojkcmoiaa", sum := "89c27cc4ef3fd6a6630e64e135a22c0e8ed0a28f7f7daeb2f26065119073a516", func := "loop.example/g01056/laws.FnExactValueAtFrac", spec := "fnExactValueAtFrac", apart := false, narrowed := true }
def FnExactValueAtFracUptoSaid : Prop := fnExactValueAtFracUptoRow.holds Try.pinned (OpenSpec.upto fnExactValueAtFracSpec)

end Rows
end Go.Proofs.Ythhgakojkcmoiaa
