/-
  No cell of these rows narrows 'for every input' (looked for: loops, veiled, ifaces, maps, wideKeys, modest, calm, conditions, laid).
  DERIVED. THE GIVEN ROWS OF THIS SEAT. 12 by the template 'for every input the law returns true; each argument reads behind the call as it read before'; 0 by the template 'total and deterministic' (their statements: YtcpeogbneliceaaTotals.lean).
  GIVEN WITH THE SEED: the statements are not yours to turn. If you find one false, say at which input.
  Laid BY PROGRAM, IN A SANDBOX (cutbox-rows.mjs): the forced cells as the released guide's own fill.sh prints them over the translation 02e5a1caf8ba5089… (all of the seat's roots in one cut). By AI agents, Wed Nov 11 2026. No macro, syntax, notation, axiom, sorry.
-/
import Derived.Test.YtcpeogbneliceaaChecked
import GoSem.Claim
import GoSem.ClaimJoined
import GoSem.ClaimMapViews
import Derived.JoinedTies
import Derived.KernelRfl
namespace Go.Proofs.Ytcpeogbneliceaa
/- THE CELL 'sum', in the pinned program and in every row, IS THE sha256 OF THE DUMP (.gsa) THAT YtcpeogbneliceaaProg.lean LOADS. Nothing in Lean hashes anything: it is a label: what it is worth is what the hold of that sum in a sandbox is worth. -/
noncomputable def Try.pinned : Pinned := { name := "ytcpeogbneliceaa", sum := "02e5a1caf8ba5089d7fd5d93d966cf8eda9baf7ea8e892099fb4260a41d3744e", checked := Try.checked }
namespace Rows
def none {H : Type} : Left H := { results := [], args := [] }

/-- 'laws.FnExactInfinityOf': WHATEVER THE INPUT: true; the input reads as it did. -/
def fnExactInfinityOfSpec : ChangeSpec := { name := "fnExactInfinityOf", fn := fun _ => fun
  | [d] => { results := [.lit (.bool true)], args := [d] }
  | _ => none }
def fnExactInfinityOfRow : OpenClaim := { program := "ytcpeogbneliceaa", sum := "02e5a1caf8ba5089d7fd5d93d966cf8eda9baf7ea8e892099fb4260a41d3744e", func := "loop.example/g01124/laws.FnExactInfinityOf", spec := "fnExactInfinityOf", unfollowed := true, recurses := true, apart := false }
def FnExactInfinityOfSaid : Prop := fnExactInfinityOfRow.holds Try.pinned (OpenSpec.ofChange fnExactInfinityOfSpec)

/-- ITS FALSE NEIGHBOUR: 'it returns false'. Refute it at one input. -/
def fnExactInfinityOfWrong : ChangeSpec := { name := "fnExactInfinityOf", fn := fun _ => fun
  | [d] => { results := [.lit (.bool false)], args := [d] }
  | _ => none }
def FnExactInfinityOfWrongFalsely : Prop := fnExactInfinityOfRow.holds Try.pinned (OpenSpec.ofChange fnExactInfinityOfWrong)

/-- 'laws.FnExactPlaneVector': WHATEVER THE INPUT: true; the input reads as it did. -/
def fnExactPlaneVectorSpec : ChangeSpec := { name := "fnExactPlaneVector", fn := fun _ => fun
  | [d1, d2, d3] => { results := [.lit (.bool true)], args := [d1, d2, d3] }
  | _ => none }
def fnExactPlaneVectorRow : OpenClaim := { program := "ytcpeogbneliceaa", sum := "02e5a1caf8ba5089d7fd5d93d966cf8eda9baf7ea8e892099fb4260a41d3744e", func := "loop.example/g01124/laws.FnExactPlaneVector", spec := "fnExactPlaneVector", unfollowed := true, recurses := true, apart := false }
def FnExactPlaneVectorSaid : Prop := fnExactPlaneVectorRow.holds Try.pinned (OpenSpec.ofChange fnExactPlaneVectorSpec)

/-- ITS FALSE NEIGHBOUR: 'it returns false'. Refute it at one input. -/
def fnExactPlaneVectorWrong : ChangeSpec := { name := "fnExactPlaneVector", fn := fun _ => fun
  | [d1, d2, d3] => { results := [.lit (.bool false)], args := [d1, d2, d3] }
  | _ => none }
def FnExactPlaneVectorWrongFalsely : Prop := fnExactPlaneVectorRow.holds Try.pinned (OpenSpec.ofChange fnExactPlaneVectorWrong)

/-- 'laws.FnExactExtendSpace': WHATEVER THE INPUT: true; the input reads as it did. -/
def fnExactExtendSpaceSpec : ChangeSpec := { name := "fnExactExtendSpace", fn := fun _ => fun
  | [d] => { results := [.lit (.bool true)], args := [d] }
  | _ => none }
def fnExactExtendSpaceRow : OpenClaim := { program := "ytcpeogbneliceaa", sum := "02e5a1caf8ba5089d7fd5d93d966cf8eda9baf7ea8e892099fb4260a41d3744e", func := "loop.example/g01124/laws.FnExactExtendSpace", spec := "fnExactExtendSpace", unfollowed := true, recurses := true, apart := false }
def FnExactExtendSpaceSaid : Prop := fnExactExtendSpaceRow.holds Try.pinned (OpenSpec.ofChange fnExactExtendSpaceSpec)

/-- ITS FALSE NEIGHBOUR: 'it returns false'. Refute it at one input. -/
def fnExactExtendSpaceWrong : ChangeSpec := { name := "fnExactExtendSpace", fn := fun _ => fun
  | [d] => { results := [.lit (.bool false)], args := [d] }
  | _ => none }
def FnExactExtendSpaceWrongFalsely : Prop := fnExactExtendSpaceRow.holds Try.pinned (OpenSpec.ofChange fnExactExtendSpaceWrong)

/-- 'laws.FnExactDistanceOf': WHATEVER THE INPUT: true; the input reads as it did. -/
def fnExactDistanceOfSpec : ChangeSpec := { name := "fnExactDistanceOf", fn := fun _ => fun
  | [d1, d2, d3] => { results := [.lit (.bool true)], args := [d1, d2, d3] }
  | _ => none }
def fnExactDistanceOfRow : OpenClaim := { program := "ytcpeogbneliceaa", sum := "02e5a1caf8ba5089d7fd5d93d966cf8eda9baf7ea8e892099fb4260a41d3744e", func := "loop.example/g01124/laws.FnExactDistanceOf", spec := "fnExactDistanceOf", unfollowed := true, recurses := true, apart := false }
def FnExactDistanceOfSaid : Prop := fnExactDistanceOfRow.holds Try.pinned (OpenSpec.ofChange fnExactDistanceOfSpec)

/-- ITS FALSE NEIGHBOUR: 'it returns false'. Refute it at one input. -/
def fnExactDistanceOfWrong : ChangeSpec := { name := "fnExactDistanceOf", fn := fun _ => fun
  | [d1, d2, d3] => { results := [.lit (.bool false)], args := [d1, d2, d3] }
  | _ => none }
def FnExactDistanceOfWrongFalsely : Prop := fnExactDistanceOfRow.holds Try.pinned (OpenSpec.ofChange fnExactDistanceOfWrong)

/-- 'laws.FnExactIsOnSphere': WHATEVER THE INPUT: true; the input reads as it did. -/
def fnExactIsOnSphereSpec : ChangeSpec := { name := "fnExactIsOnSphere", fn := fun _ => fun
  | [d1, d2, d3] => { results := [.lit (.bool true)], args := [d1, d2, d3] }
  | _ => none }
def fnExactIsOnSphereRow : OpenClaim := { program := "ytcpeogbneliceaa", sum := "02e5a1caf8ba5089d7fd5d93d966cf8eda9baf7ea8e892099fb4260a41d3744e", func := "loop.example/g01124/laws.FnExactIsOnSphere", spec := "fnExactIsOnSphere", unfollowed := true, recurses := true, apart := false }
def FnExactIsOnSphereSaid : Prop := fnExactIsOnSphereRow.holds Try.pinned (OpenSpec.ofChange fnExactIsOnSphereSpec)

/-- ITS FALSE NEIGHBOUR: 'it returns false'. Refute it at one input. -/
def fnExactIsOnSphereWrong : ChangeSpec := { name := "fnExactIsOnSphere", fn := fun _ => fun
  | [d1, d2, d3] => { results := [.lit (.bool false)], args := [d1, d2, d3] }
  | _ => none }
def FnExactIsOnSphereWrongFalsely : Prop := fnExactIsOnSphereRow.holds Try.pinned (OpenSpec.ofChange fnExactIsOnSphereWrong)

/-- 'laws.FnExactPointVector': WHATEVER THE INPUT: true; the input reads as it did. -/
def fnExactPointVectorSpec : ChangeSpec := { name := "fnExactPointVector", fn := fun _ => fun
  | [d1, d2] => { results := [.lit (.bool true)], args := [d1, d2] }
  | _ => none }
def fnExactPointVectorRow : OpenClaim := { program := "ytcpeogbneliceaa", sum := "02e5a1caf8ba5089d7fd5d93d966cf8eda9baf7ea8e892099fb4260a41d3744e", func := "loop.example/g01124/laws.FnExactPointVector", spec := "fnExactPointVector", unfollowed := true, recurses := true, apart := false }
def FnExactPointVectorSaid : Prop := fnExactPointVectorRow.holds Try.pinned (OpenSpec.ofChange fnExactPointVectorSpec)

/-- ITS FALSE NEIGHBOUR: 'it returns false'. Refute it at one input. -/
def fnExactPointVectorWrong : ChangeSpec := { name := "fnExactPointVector", fn := fun _ => fun
  | [d1, d2] => { results := [.lit (.bool false)], args := [d1, d2] }
  | _ => none }
def FnExactPointVectorWrongFalsely : Prop := fnExactPointVectorRow.holds Try.pinned (OpenSpec.ofChange fnExactPointVectorWrong)

/-- 'laws.FnExactSphereVector': WHATEVER THE INPUT: true; the input reads as it did. -/
def fnExactSphereVectorSpec : ChangeSpec := { name := "fnExactSphereVector", fn := fun _ => fun
  | [d1, d2, d3] => { results := [.lit (.bool true)], args := [d1, d2, d3] }
  | _ => none }
def fnExactSphereVectorRow : OpenClaim := { program := "ytcpeogbneliceaa", sum := "02e5a1caf8ba5089d7fd5d93d966cf8eda9baf7ea8e892099fb4260a41d3744e", func := "loop.example/g01124/laws.FnExactSphereVector", spec := "fnExactSphereVector", unfollowed := true, recurses := true, apart := false }
def FnExactSphereVectorSaid : Prop := fnExactSphereVectorRow.holds Try.pinned (OpenSpec.ofChange fnExactSphereVectorSpec)

/-- ITS FALSE NEIGHBOUR: 'it returns false'. Refute it at one input. -/
def fnExactSphereVectorWrong : ChangeSpec := { name := "fnExactSphereVector", fn := fun _ => fun
  | [d1, d2, d3] => { results := [.lit (.bool false)], args := [d1, d2, d3] }
  | _ => none }
def FnExactSphereVectorWrongFalsely : Prop := fnExactSphereVectorRow.holds Try.pinned (OpenSpec.ofChange fnExactSphereVectorWrong)

/-- 'laws.FnExactPlaceOf': WHATEVER THE INPUT: true; the input reads as it did. -/
def fnExactPlaceOfSpec : ChangeSpec := { name := "fnExactPlaceOf", fn := fun _ => fun
  | [d1, d2] => { results := [.lit (.bool true)], args := [d1, d2] }
  | _ => none }
def fnExactPlaceOfRow : OpenClaim := { program := "ytcpeogbneliceaa", sum := "02e5a1caf8ba5089d7fd5d93d966cf8eda9baf7ea8e892099fb4260a41d3744e", func := "loop.example/g01124/laws.FnExactPlaceOf", spec := "fnExactPlaceOf", unfollowed := true, recurses := true, apart := false }
def FnExactPlaceOfSaid : Prop := fnExactPlaceOfRow.holds Try.pinned (OpenSpec.ofChange fnExactPlaceOfSpec)

/-- ITS FALSE NEIGHBOUR: 'it returns false'. Refute it at one input. -/
def fnExactPlaceOfWrong : ChangeSpec := { name := "fnExactPlaceOf", fn := fun _ => fun
  | [d1, d2] => { results := [.lit (.bool false)], args := [d1, d2] }
  | _ => none }
def FnExactPlaceOfWrongFalsely : Prop := fnExactPlaceOfRow.holds Try.pinned (OpenSpec.ofChange fnExactPlaceOfWrong)

/-- 'laws.FnExactSphereOf': WHATEVER THE INPUT: true; the input reads as it did. -/
def fnExactSphereOfSpec : ChangeSpec := { name := "fnExactSphereOf", fn := fun _ => fun
  | [d1, d2] => { results := [.lit (.bool true)], args := [d1, d2] }
  | _ => none }
def fnExactSphereOfRow : OpenClaim := { program := "ytcpeogbneliceaa", sum := "02e5a1caf8ba5089d7fd5d93d966cf8eda9baf7ea8e892099fb4260a41d3744e", func := "loop.example/g01124/laws.FnExactSphereOf", spec := "fnExactSphereOf", unfollowed := true, recurses := true, apart := false }
def FnExactSphereOfSaid : Prop := fnExactSphereOfRow.holds Try.pinned (OpenSpec.ofChange fnExactSphereOfSpec)

/-- ITS FALSE NEIGHBOUR: 'it returns false'. Refute it at one input. -/
def fnExactSphereOfWrong : ChangeSpec := { name := "fnExactSphereOf", fn := fun _ => fun
  | [d1, d2] => { results := [.lit (.bool false)], args := [d1, d2] }
  | _ => none }
def FnExactSphereOfWrongFalsely : Prop := fnExactSphereOfRow.holds Try.pinned (OpenSpec.ofChange fnExactSphereOfWrong)

/-- 'laws.FnExactCountOnSphere': WHATEVER THE INPUT: true; the input reads as it did. -/
def fnExactCountOnSphereSpec : ChangeSpec := { name := "fnExactCountOnSphere", fn := fun _ => fun
  | [d1, d2] => { results := [.lit (.bool true)], args := [d1, d2] }
  | _ => none }
def fnExactCountOnSphereRow : OpenClaim := { program := "ytcpeogbneliceaa", sum := "02e5a1caf8ba5089d7fd5d93d966cf8eda9baf7ea8e892099fb4260a41d3744e", func := "loop.example/g01124/laws.FnExactCountOnSphere", spec := "fnExactCountOnSphere", unfollowed := true, recurses := true, apart := false }
def FnExactCountOnSphereSaid : Prop := fnExactCountOnSphereRow.holds Try.pinned (OpenSpec.ofChange fnExactCountOnSphereSpec)

/-- ITS FALSE NEIGHBOUR: 'it returns false'. Refute it at one input. -/
def fnExactCountOnSphereWrong : ChangeSpec := { name := "fnExactCountOnSphere", fn := fun _ => fun
  | [d1, d2] => { results := [.lit (.bool false)], args := [d1, d2] }
  | _ => none }
def FnExactCountOnSphereWrongFalsely : Prop := fnExactCountOnSphereRow.holds Try.pinned (OpenSpec.ofChange fnExactCountOnSphereWrong)

/-- 'laws.FnExactInvertAt': WHATEVER THE INPUT: true; the input reads as it did. -/
def fnExactInvertAtSpec : ChangeSpec := { name := "fnExactInvertAt", fn := fun _ => fun
  | [d1, d2, d3] => { results := [.lit (.bool true)], args := [d1, d2, d3] }
  | _ => none }
def fnExactInvertAtRow : OpenClaim := { program := "ytcpeogbneliceaa", sum := "02e5a1caf8ba5089d7fd5d93d966cf8eda9baf7ea8e892099fb4260a41d3744e", func := "loop.example/g01124/laws.FnExactInvertAt", spec := "fnExactInvertAt", unfollowed := true, recurses := true, apart := false }
def FnExactInvertAtSaid : Prop := fnExactInvertAtRow.holds Try.pinned (OpenSpec.ofChange fnExactInvertAtSpec)

/-- ITS FALSE NEIGHBOUR: 'it returns false'. Refute it at one input. -/
def fnExactInvertAtWrong : ChangeSpec := { name := "fnExactInvertAt", fn := fun _ => fun
  | [d1, d2, d3] => { results := [.lit (.bool false)], args := [d1, d2, d3] }
  | _ => none }
def FnExactInvertAtWrongFalsely : Prop := fnExactInvertAtRow.holds Try.pinned (OpenSpec.ofChange fnExactInvertAtWrong)

/-- 'laws.FnSphereCounts': WHATEVER THE INPUT: true; the input reads as it did. -/
def fnSphereCountsSpec : ChangeSpec := { name := "fnSphereCounts", fn := fun _ => fun
  | [d] => { results := [.lit (.bool true)], args := [d] }
  | _ => none }
def fnSphereCountsRow : OpenClaim := { program := "ytcpeogbneliceaa", sum := "02e5a1caf8ba5089d7fd5d93d966cf8eda9baf7ea8e892099fb4260a41d3744e", func := "loop.example/g01124/laws.FnSphereCounts", spec := "fnSphereCounts", unfollowed := true, recurses := true, apart := false }
def FnSphereCountsSaid : Prop := fnSphereCountsRow.holds Try.pinned (OpenSpec.ofChange fnSphereCountsSpec)

/-- ITS FALSE NEIGHBOUR: 'it returns false'. Refute it at one input. -/
def fnSphereCountsWrong : ChangeSpec := { name := "fnSphereCounts", fn := fun _ => fun
  | [d] => { results := [.lit (.bool false)], args := [d] }
  | _ => none }
def FnSphereCountsWrongFalsely : Prop := fnSphereCountsRow.holds Try.pinned (OpenSpec.ofChange fnSphereCountsWrong)

/- THE SECOND FORM. 'bulk': how many values and letters a reading holds, each counted each time it is reached (what is shared counts as often as it is met; a slice's spare places count too). A statement '..UptoSaid' is the law's where the arguments, and the package variables that the reading takes, are together of bulk at most 1048576: NARROWER than '..Said'. Prove '..Said' where nothing that the law and all that it calls make is longer than what came in: it says more and counts as full. Else prove '..UptoSaid'. A law counts once. -/
mutual
def uptoBulk {H : Type} : DataW H → Nat
  | .lit (.string bytes) => bytes.length + 1
  | .lit _ => 1
  | .nil => 1
  | .ptr d => uptoBulk d + 1
  | .slice elems spare => uptoBulkAll elems + uptoBulkAll spare + 1
  | .agg parts => uptoBulkAll parts + 1
  | .iface _ d => uptoBulk d + 1
  | .map entries => uptoBulkEntries entries + 1
  | .held _ => 1
def uptoBulkAll {H : Type} : List (DataW H) → Nat
  | [] => 0
  | d :: r => uptoBulk d + uptoBulkAll r
def uptoBulkEntries {H : Type} : List (Lit × DataW H) → Nat
  | [] => 0
  | x :: r => uptoBulkEntry x + uptoBulkEntries r
def uptoBulkEntry {H : Type} : Lit × DataW H → Nat
  | (.string bytes, d) => bytes.length + uptoBulk d + 1
  | (_, d) => uptoBulk d + 1
 end
def uptoSmall : (H : Type) → List (DataW H) → Bool := fun _ ds => decide (uptoBulkAll ds ≤ 1048576)
def OpenSpec.upto (s : _root_.Go.ChangeSpec) : _root_.Go.OpenSpec := { _root_.Go.OpenSpec.ofChange s with cond := some uptoSmall }

/-- 'laws.FnExactInfinityOf', WHERE WHAT IT READS IS OF BULK AT MOST 1048576: true; the input reads as it did. -/
def fnExactInfinityOfUptoRow : OpenClaim := { program := "ytcpeogbneliceaa", sum := "02e5a1caf8ba5089d7fd5d93d966cf8eda9baf7ea8e892099fb4260a41d3744e", func := "loop.example/g01124/laws.FnExactInfinityOf", spec := "fnExactInfinityOf", unfollowed := true, recurses := true, apart := false, narrowed := true }
def FnExactInfinityOfUptoSaid : Prop := fnExactInfinityOfUptoRow.holds Try.pinned (OpenSpec.upto fnExactInfinityOfSpec)

/-- 'laws.FnExactPlaneVector', WHERE WHAT IT READS IS OF BULK AT MOST 1048576: true; the input reads as it did. -/
def fnExactPlaneVectorUptoRow : OpenClaim := { program := "ytcpeogbneliceaa", sum := "02e5a1caf8ba5089d7fd5d93d966cf8eda9baf7ea8e892099fb4260a41d3744e", func := "loop.example/g01124/laws.FnExactPlaneVector", spec := "fnExactPlaneVector", unfollowed := true, recurses := true, apart := false, narrowed := true }
def FnExactPlaneVectorUptoSaid : Prop := fnExactPlaneVectorUptoRow.holds Try.pinned (OpenSpec.upto fnExactPlaneVectorSpec)

/-- 'laws.FnExactExtendSpace', WHERE WHAT IT READS IS OF BULK AT MOST 1048576: true; the input reads as it did. -/
def fnExactExtendSpaceUptoRow : OpenClaim := { program := "ytcpeogbneliceaa", sum := "02e5a1caf8ba5089d7fd5d93d966cf8eda9baf7ea8e892099fb4260a41d3744e", func := "loop.example/g01124/laws.FnExactExtendSpace", spec := "fnExactExtendSpace", unfollowed := true, recurses := true, apart := false, narrowed := true }
def FnExactExtendSpaceUptoSaid : Prop := fnExactExtendSpaceUptoRow.holds Try.pinned (OpenSpec.upto fnExactExtendSpaceSpec)

/-- 'laws.FnExactDistanceOf', WHERE WHAT IT READS IS OF BULK AT MOST 1048576: true; the input reads as it did. -/
def fnExactDistanceOfUptoRow : OpenClaim := { program := "ytcpeogbneliceaa", sum := "02e5a1caf8ba5089d7fd5d93d966cf8eda9baf7ea8e892099fb4260a41d3744e", func := "loop.example/g01124/laws.FnExactDistanceOf", spec := "fnExactDistanceOf", unfollowed := true, recurses := true, apart := false, narrowed := true }
def FnExactDistanceOfUptoSaid : Prop := fnExactDistanceOfUptoRow.holds Try.pinned (OpenSpec.upto fnExactDistanceOfSpec)

/-- 'laws.FnExactIsOnSphere', WHERE WHAT IT READS IS OF BULK AT MOST 1048576: true; the input reads as it did. -/
def fnExactIsOnSphereUptoRow : OpenClaim := { program := "ytcpeogbneliceaa", sum := "02e5a1caf8ba5089d7fd5d93d966cf8eda9baf7ea8e892099fb4260a41d3744e", func := "loop.example/g01124/laws.FnExactIsOnSphere", spec := "fnExactIsOnSphere", unfollowed := true, recurses := true, apart := false, narrowed := true }
def FnExactIsOnSphereUptoSaid : Prop := fnExactIsOnSphereUptoRow.holds Try.pinned (OpenSpec.upto fnExactIsOnSphereSpec)

/-- 'laws.FnExactPointVector', WHERE WHAT IT READS IS OF BULK AT MOST 1048576: true; the input reads as it did. -/
def fnExactPointVectorUptoRow : OpenClaim := { program := "ytcpeogbneliceaa", sum := "02e5a1caf8ba5089d7fd5d93d966cf8eda9baf7ea8e892099fb4260a41d3744e", func := "loop.example/g01124/laws.FnExactPointVector", spec := "fnExactPointVector", unfollowed := true, recurses := true, apart := false, narrowed := true }
def FnExactPointVectorUptoSaid : Prop := fnExactPointVectorUptoRow.holds Try.pinned (OpenSpec.upto fnExactPointVectorSpec)

/-- 'laws.FnExactSphereVector', WHERE WHAT IT READS IS OF BULK AT MOST 1048576: true; the input reads as it did. -/
def fnExactSphereVectorUptoRow : OpenClaim := { program := "ytcpeogbneliceaa", sum := "02e5a1caf8ba5089d7fd5d93d966cf8eda9baf7ea8e892099fb4260a41d3744e", func := "loop.example/g01124/laws.FnExactSphereVector", spec := "fnExactSphereVector", unfollowed := true, recurses := true, apart := false, narrowed := true }
def FnExactSphereVectorUptoSaid : Prop := fnExactSphereVectorUptoRow.holds Try.pinned (OpenSpec.upto fnExactSphereVectorSpec)

/-- 'laws.FnExactPlaceOf', WHERE WHAT IT READS IS OF BULK AT MOST 1048576: true; the input reads as it did. -/
def fnExactPlaceOfUptoRow : OpenClaim := { program := "ytcpeogbneliceaa", sum := "02e5a1caf8ba5089d7fd5d93d966cf8eda9baf7ea8e892099fb4260a41d3744e", func := "loop.example/g01124/laws.FnExactPlaceOf", spec := "fnExactPlaceOf", unfollowed := true, recurses := true, apart := false, narrowed := true }
def FnExactPlaceOfUptoSaid : Prop := fnExactPlaceOfUptoRow.holds Try.pinned (OpenSpec.upto fnExactPlaceOfSpec)

/-- 'laws.FnExactSphereOf', WHERE WHAT IT READS IS OF BULK AT MOST 1048576: true; the input reads as it did. -/
def fnExactSphereOfUptoRow : OpenClaim := { program := "ytcpeogbneliceaa", sum := "02e5a1caf8ba5089d7fd5d93d966cf8eda9baf7ea8e892099fb4260a41d3744e", func := "loop.example/g01124/laws.FnExactSphereOf", spec := "fnExactSphereOf", unfollowed := true, recurses := true, apart := false, narrowed := true }
def FnExactSphereOfUptoSaid : Prop := fnExactSphereOfUptoRow.holds Try.pinned (OpenSpec.upto fnExactSphereOfSpec)

/-- 'laws.FnExactCountOnSphere', WHERE WHAT IT READS IS OF BULK AT MOST 1048576: true; the input reads as it did. -/
def fnExactCountOnSphereUptoRow : OpenClaim := { program := "ytcpeogbneliceaa", sum := "02e5a1caf8ba5089d7fd5d93d966cf8eda9baf7ea8e892099fb4260a41d3744e", func := "loop.example/g01124/laws.FnExactCountOnSphere", spec := "fnExactCountOnSphere", unfollowed := true, recurses := true, apart := false, narrowed := true }
def FnExactCountOnSphereUptoSaid : Prop := fnExactCountOnSphereUptoRow.holds Try.pinned (OpenSpec.upto fnExactCountOnSphereSpec)

/-- 'laws.FnExactInvertAt', WHERE WHAT IT READS IS OF BULK AT MOST 1048576: true; the input reads as it did. -/
def fnExactInvertAtUptoRow : OpenClaim := { program := "ytcpeogbneliceaa", sum := "02e5a1caf8ba5089d7fd5d93d966cf8eda9baf7ea8e892099fb4260a41d3744e", func := "loop.example/g01124/laws.FnExactInvertAt", spec := "fnExactInvertAt", unfollowed := true, recurses := true, apart := false, narrowed := true }
def FnExactInvertAtUptoSaid : Prop := fnExactInvertAtUptoRow.holds Try.pinned (OpenSpec.upto fnExactInvertAtSpec)

/-- 'laws.FnSphereCounts', WHERE WHAT IT READS IS OF BULK AT MOST 1048576: true; the input reads as it did. -/
def fnSphereCountsUptoRow : OpenClaim := { program := "ytcpeogbneliceaa", sum := "02e5a1caf8ba5089d7fd5d93d966cf8eda9baf7ea8e892099fb4260a41d3744e", func := "loop.example/g01124/laws.FnSphereCounts", spec := "fnSphereCounts", unfollowed := true, recurses := true, apart := false, narrowed := true }
def FnSphereCountsUptoSaid : Prop := fnSphereCountsUptoRow.holds Try.pinned (OpenSpec.upto fnSphereCountsSpec)

end Rows
end Go.Proofs.Ytcpeogbneliceaa
