/-
  No cell of these rows narrows 'for every input' (looked for: loops, veiled, ifaces, maps, wideKeys, modest, calm, conditions, laid).
  DERIVED. THE GIVEN ROWS OF THIS SEAT. 11 by the template 'for every input the law returns true; each argument reads behind the call as it read before'; 0 by the template 'total and deterministic' (their statements: YtcdebmabheifaaaTotals.lean).
  GIVEN WITH THE SEED: the statements are not yours to turn. If you find one false, say at which input.
  Laid BY PROGRAM, IN A SANDBOX (cutbox-rows.mjs): the forced cells as the released guide's own fill.sh prints them over the translation 320d46440c03695f… (all of the seat's roots in one cut). By AI agents, Wed Nov 11 2026. No macro, syntax, notation, axiom, sorry.
-/
import Derived.Test.YtcdebmabheifaaaChecked
import GoSem.Claim
import GoSem.ClaimJoined
import GoSem.ClaimMapViews
import Derived.JoinedTies
import Derived.KernelRfl
namespace Go.Proofs.Ytcdebmabheifaaa
/- THE CELL 'sum', in the pinned program and in every row, IS THE sha256 OF THE DUMP (.gsa) THAT YtcdebmabheifaaaProg.lean LOADS. Nothing in Lean hashes anything: it is a label: what it is worth is what the hold of that sum in a sandbox is worth. -/
noncomputable def Try.pinned : Pinned := { name := "ytcdebmabheifaaa", sum := "320d46440c03695fc653a5362e4fe8321c9577da1ad85a81082444039acc5cf0", checked := Try.checked }
namespace Rows
def none {H : Type} : Left H := { results := [], args := [] }

/-- 'laws.FnExactIsPoint': WHATEVER THE INPUT: true; the input reads as it did. -/
def fnExactIsPointSpec : ChangeSpec := { name := "fnExactIsPoint", fn := fun _ => fun
  | [d1, d2] => { results := [.lit (.bool true)], args := [d1, d2] }
  | _ => none }
def fnExactIsPointRow : OpenClaim := { program := "ytcdebmabheifaaa", sum := "320d46440c03695fc653a5362e4fe8321c9577da1ad85a81082444039acc5cf0", func := "loop.example/g01124/laws.FnExactIsPoint", spec := "fnExactIsPoint", unfollowed := true, recurses := true, apart := false }
def FnExactIsPointSaid : Prop := fnExactIsPointRow.holds Try.pinned (OpenSpec.ofChange fnExactIsPointSpec)

/-- ITS FALSE NEIGHBOUR: 'it returns false'. Refute it at one input. -/
def fnExactIsPointWrong : ChangeSpec := { name := "fnExactIsPoint", fn := fun _ => fun
  | [d1, d2] => { results := [.lit (.bool false)], args := [d1, d2] }
  | _ => none }
def FnExactIsPointWrongFalsely : Prop := fnExactIsPointRow.holds Try.pinned (OpenSpec.ofChange fnExactIsPointWrong)

/-- 'laws.FnExactJordanRank': WHATEVER THE INPUT: true; the input reads as it did. -/
def fnExactJordanRankSpec : ChangeSpec := { name := "fnExactJordanRank", fn := fun _ => fun
  | [d1, d2] => { results := [.lit (.bool true)], args := [d1, d2] }
  | _ => none }
def fnExactJordanRankRow : OpenClaim := { program := "ytcdebmabheifaaa", sum := "320d46440c03695fc653a5362e4fe8321c9577da1ad85a81082444039acc5cf0", func := "loop.example/g01124/laws.FnExactJordanRank", spec := "fnExactJordanRank", unfollowed := true, recurses := true, apart := false }
def FnExactJordanRankSaid : Prop := fnExactJordanRankRow.holds Try.pinned (OpenSpec.ofChange fnExactJordanRankSpec)

/-- ITS FALSE NEIGHBOUR: 'it returns false'. Refute it at one input. -/
def fnExactJordanRankWrong : ChangeSpec := { name := "fnExactJordanRank", fn := fun _ => fun
  | [d1, d2] => { results := [.lit (.bool false)], args := [d1, d2] }
  | _ => none }
def FnExactJordanRankWrongFalsely : Prop := fnExactJordanRankRow.holds Try.pinned (OpenSpec.ofChange fnExactJordanRankWrong)

/-- 'laws.FnExactIsJordanIdempotent': WHATEVER THE INPUT: true; the input reads as it did. -/
def fnExactIsJordanIdempotentSpec : ChangeSpec := { name := "fnExactIsJordanIdempotent", fn := fun _ => fun
  | [d1, d2] => { results := [.lit (.bool true)], args := [d1, d2] }
  | _ => none }
def fnExactIsJordanIdempotentRow : OpenClaim := { program := "ytcdebmabheifaaa", sum := "320d46440c03695fc653a5362e4fe8321c9577da1ad85a81082444039acc5cf0", func := "loop.example/g01124/laws.FnExactIsJordanIdempotent", spec := "fnExactIsJordanIdempotent", unfollowed := true, recurses := true, apart := false }
def FnExactIsJordanIdempotentSaid : Prop := fnExactIsJordanIdempotentRow.holds Try.pinned (OpenSpec.ofChange fnExactIsJordanIdempotentSpec)

/-- ITS FALSE NEIGHBOUR: 'it returns false'. Refute it at one input. -/
def fnExactIsJordanIdempotentWrong : ChangeSpec := { name := "fnExactIsJordanIdempotent", fn := fun _ => fun
  | [d1, d2] => { results := [.lit (.bool false)], args := [d1, d2] }
  | _ => none }
def FnExactIsJordanIdempotentWrongFalsely : Prop := fnExactIsJordanIdempotentRow.holds Try.pinned (OpenSpec.ofChange fnExactIsJordanIdempotentWrong)

/-- 'laws.FnExactJordanCross': WHATEVER THE INPUT: true; the input reads as it did. -/
def fnExactJordanCrossSpec : ChangeSpec := { name := "fnExactJordanCross", fn := fun _ => fun
  | [d1, d2, d3] => { results := [.lit (.bool true)], args := [d1, d2, d3] }
  | _ => none }
def fnExactJordanCrossRow : OpenClaim := { program := "ytcdebmabheifaaa", sum := "320d46440c03695fc653a5362e4fe8321c9577da1ad85a81082444039acc5cf0", func := "loop.example/g01124/laws.FnExactJordanCross", spec := "fnExactJordanCross", unfollowed := true, recurses := true, apart := false }
def FnExactJordanCrossSaid : Prop := fnExactJordanCrossRow.holds Try.pinned (OpenSpec.ofChange fnExactJordanCrossSpec)

/-- ITS FALSE NEIGHBOUR: 'it returns false'. Refute it at one input. -/
def fnExactJordanCrossWrong : ChangeSpec := { name := "fnExactJordanCross", fn := fun _ => fun
  | [d1, d2, d3] => { results := [.lit (.bool false)], args := [d1, d2, d3] }
  | _ => none }
def FnExactJordanCrossWrongFalsely : Prop := fnExactJordanCrossRow.holds Try.pinned (OpenSpec.ofChange fnExactJordanCrossWrong)

/-- 'laws.FnExactJordanPower': WHATEVER THE INPUT: true; the input reads as it did. -/
def fnExactJordanPowerSpec : ChangeSpec := { name := "fnExactJordanPower", fn := fun _ => fun
  | [d1, d2, d3] => { results := [.lit (.bool true)], args := [d1, d2, d3] }
  | _ => none }
def fnExactJordanPowerRow : OpenClaim := { program := "ytcdebmabheifaaa", sum := "320d46440c03695fc653a5362e4fe8321c9577da1ad85a81082444039acc5cf0", func := "loop.example/g01124/laws.FnExactJordanPower", spec := "fnExactJordanPower", unfollowed := true, recurses := true, apart := false }
def FnExactJordanPowerSaid : Prop := fnExactJordanPowerRow.holds Try.pinned (OpenSpec.ofChange fnExactJordanPowerSpec)

/-- ITS FALSE NEIGHBOUR: 'it returns false'. Refute it at one input. -/
def fnExactJordanPowerWrong : ChangeSpec := { name := "fnExactJordanPower", fn := fun _ => fun
  | [d1, d2, d3] => { results := [.lit (.bool false)], args := [d1, d2, d3] }
  | _ => none }
def FnExactJordanPowerWrongFalsely : Prop := fnExactJordanPowerRow.holds Try.pinned (OpenSpec.ofChange fnExactJordanPowerWrong)

/-- 'laws.FnExactJordanInverse': WHATEVER THE INPUT: true; the input reads as it did. -/
def fnExactJordanInverseSpec : ChangeSpec := { name := "fnExactJordanInverse", fn := fun _ => fun
  | [d1, d2] => { results := [.lit (.bool true)], args := [d1, d2] }
  | _ => none }
def fnExactJordanInverseRow : OpenClaim := { program := "ytcdebmabheifaaa", sum := "320d46440c03695fc653a5362e4fe8321c9577da1ad85a81082444039acc5cf0", func := "loop.example/g01124/laws.FnExactJordanInverse", spec := "fnExactJordanInverse", unfollowed := true, recurses := true, apart := false }
def FnExactJordanInverseSaid : Prop := fnExactJordanInverseRow.holds Try.pinned (OpenSpec.ofChange fnExactJordanInverseSpec)

/-- ITS FALSE NEIGHBOUR: 'it returns false'. Refute it at one input. -/
def fnExactJordanInverseWrong : ChangeSpec := { name := "fnExactJordanInverse", fn := fun _ => fun
  | [d1, d2] => { results := [.lit (.bool false)], args := [d1, d2] }
  | _ => none }
def FnExactJordanInverseWrongFalsely : Prop := fnExactJordanInverseRow.holds Try.pinned (OpenSpec.ofChange fnExactJordanInverseWrong)

/-- 'laws.FnExactQuadraticMap': WHATEVER THE INPUT: true; the input reads as it did. -/
def fnExactQuadraticMapSpec : ChangeSpec := { name := "fnExactQuadraticMap", fn := fun _ => fun
  | [d1, d2, d3] => { results := [.lit (.bool true)], args := [d1, d2, d3] }
  | _ => none }
def fnExactQuadraticMapRow : OpenClaim := { program := "ytcdebmabheifaaa", sum := "320d46440c03695fc653a5362e4fe8321c9577da1ad85a81082444039acc5cf0", func := "loop.example/g01124/laws.FnExactQuadraticMap", spec := "fnExactQuadraticMap", unfollowed := true, recurses := true, apart := false }
def FnExactQuadraticMapSaid : Prop := fnExactQuadraticMapRow.holds Try.pinned (OpenSpec.ofChange fnExactQuadraticMapSpec)

/-- ITS FALSE NEIGHBOUR: 'it returns false'. Refute it at one input. -/
def fnExactQuadraticMapWrong : ChangeSpec := { name := "fnExactQuadraticMap", fn := fun _ => fun
  | [d1, d2, d3] => { results := [.lit (.bool false)], args := [d1, d2, d3] }
  | _ => none }
def FnExactQuadraticMapWrongFalsely : Prop := fnExactQuadraticMapRow.holds Try.pinned (OpenSpec.ofChange fnExactQuadraticMapWrong)

/-- 'laws.FnExactAreIncident': WHATEVER THE INPUT: true; the input reads as it did. -/
def fnExactAreIncidentSpec : ChangeSpec := { name := "fnExactAreIncident", fn := fun _ => fun
  | [d1, d2, d3] => { results := [.lit (.bool true)], args := [d1, d2, d3] }
  | _ => none }
def fnExactAreIncidentRow : OpenClaim := { program := "ytcdebmabheifaaa", sum := "320d46440c03695fc653a5362e4fe8321c9577da1ad85a81082444039acc5cf0", func := "loop.example/g01124/laws.FnExactAreIncident", spec := "fnExactAreIncident", unfollowed := true, recurses := true, apart := false }
def FnExactAreIncidentSaid : Prop := fnExactAreIncidentRow.holds Try.pinned (OpenSpec.ofChange fnExactAreIncidentSpec)

/-- ITS FALSE NEIGHBOUR: 'it returns false'. Refute it at one input. -/
def fnExactAreIncidentWrong : ChangeSpec := { name := "fnExactAreIncident", fn := fun _ => fun
  | [d1, d2, d3] => { results := [.lit (.bool false)], args := [d1, d2, d3] }
  | _ => none }
def FnExactAreIncidentWrongFalsely : Prop := fnExactAreIncidentRow.holds Try.pinned (OpenSpec.ofChange fnExactAreIncidentWrong)

/-- 'laws.FnExactCoordinatesOf': WHATEVER THE INPUT: true; the input reads as it did. -/
def fnExactCoordinatesOfSpec : ChangeSpec := { name := "fnExactCoordinatesOf", fn := fun _ => fun
  | [d1, d2] => { results := [.lit (.bool true)], args := [d1, d2] }
  | _ => none }
def fnExactCoordinatesOfRow : OpenClaim := { program := "ytcdebmabheifaaa", sum := "320d46440c03695fc653a5362e4fe8321c9577da1ad85a81082444039acc5cf0", func := "loop.example/g01124/laws.FnExactCoordinatesOf", spec := "fnExactCoordinatesOf", unfollowed := true, recurses := true, apart := false }
def FnExactCoordinatesOfSaid : Prop := fnExactCoordinatesOfRow.holds Try.pinned (OpenSpec.ofChange fnExactCoordinatesOfSpec)

/-- ITS FALSE NEIGHBOUR: 'it returns false'. Refute it at one input. -/
def fnExactCoordinatesOfWrong : ChangeSpec := { name := "fnExactCoordinatesOf", fn := fun _ => fun
  | [d1, d2] => { results := [.lit (.bool false)], args := [d1, d2] }
  | _ => none }
def FnExactCoordinatesOfWrongFalsely : Prop := fnExactCoordinatesOfRow.holds Try.pinned (OpenSpec.ofChange fnExactCoordinatesOfWrong)

/-- 'laws.FnExactLineThrough': WHATEVER THE INPUT: true; the input reads as it did. -/
def fnExactLineThroughSpec : ChangeSpec := { name := "fnExactLineThrough", fn := fun _ => fun
  | [d1, d2, d3] => { results := [.lit (.bool true)], args := [d1, d2, d3] }
  | _ => none }
def fnExactLineThroughRow : OpenClaim := { program := "ytcdebmabheifaaa", sum := "320d46440c03695fc653a5362e4fe8321c9577da1ad85a81082444039acc5cf0", func := "loop.example/g01124/laws.FnExactLineThrough", spec := "fnExactLineThrough", unfollowed := true, recurses := true, apart := false }
def FnExactLineThroughSaid : Prop := fnExactLineThroughRow.holds Try.pinned (OpenSpec.ofChange fnExactLineThroughSpec)

/-- ITS FALSE NEIGHBOUR: 'it returns false'. Refute it at one input. -/
def fnExactLineThroughWrong : ChangeSpec := { name := "fnExactLineThrough", fn := fun _ => fun
  | [d1, d2, d3] => { results := [.lit (.bool false)], args := [d1, d2, d3] }
  | _ => none }
def FnExactLineThroughWrongFalsely : Prop := fnExactLineThroughRow.holds Try.pinned (OpenSpec.ofChange fnExactLineThroughWrong)

/-- 'laws.FnExactNormalPoint': WHATEVER THE INPUT: true; the input reads as it did. -/
def fnExactNormalPointSpec : ChangeSpec := { name := "fnExactNormalPoint", fn := fun _ => fun
  | [d1, d2] => { results := [.lit (.bool true)], args := [d1, d2] }
  | _ => none }
def fnExactNormalPointRow : OpenClaim := { program := "ytcdebmabheifaaa", sum := "320d46440c03695fc653a5362e4fe8321c9577da1ad85a81082444039acc5cf0", func := "loop.example/g01124/laws.FnExactNormalPoint", spec := "fnExactNormalPoint", unfollowed := true, recurses := true, apart := false }
def FnExactNormalPointSaid : Prop := fnExactNormalPointRow.holds Try.pinned (OpenSpec.ofChange fnExactNormalPointSpec)

/-- ITS FALSE NEIGHBOUR: 'it returns false'. Refute it at one input. -/
def fnExactNormalPointWrong : ChangeSpec := { name := "fnExactNormalPoint", fn := fun _ => fun
  | [d1, d2] => { results := [.lit (.bool false)], args := [d1, d2] }
  | _ => none }
def FnExactNormalPointWrongFalsely : Prop := fnExactNormalPointRow.holds Try.pinned (OpenSpec.ofChange fnExactNormalPointWrong)

/- THE SECOND FORM. 'bulk': how many values and letters a reading holds, each counted each time it is reached (what is shared counts as often as it is met; a slice's spare places count too). A statement '..UptoSaid' is the law's where the arguments, and the package variables that the reading takes, are together of bulk at most 1048576: NARROWER than '..Said'. Prove '..Said' where nothing that the law and all that it calls make is longer than what came in: it says more and counts as full. Else prove '..UptoSaid'. A law counts once. -/
mutual
def uptoBulk {H : Type} : DataW H → Nat
  | .lit (.string bytes) => bytes.length + 1
  | .lit _ => 1
  | .nil => 1
  | .ptr d => uptoBulk d + 1
  | .slice elems spare => uptoBulkAll elems + uptoBulkAll spare + 1
  | .agg parts => uptoBulkAll parts + 1
  | .iface _ d => uptoBulk d + 1
  | .map entries => uptoBulkEntries entries + 1
  | .held _ => 1
def uptoBulkAll {H : Type} : List (DataW H) → Nat
  | [] => 0
  | d :: r => uptoBulk d + uptoBulkAll r
def uptoBulkEntries {H : Type} : List (Lit × DataW H) → Nat
  | [] => 0
  | x :: r => uptoBulkEntry x + uptoBulkEntries r
def uptoBulkEntry {H : Type} : Lit × DataW H → Nat
  | (.string bytes, d) => bytes.length + uptoBulk d + 1
  | (_, d) => uptoBulk d + 1
 end
def uptoSmall : (H : Type) → List (DataW H) → Bool := fun _ ds => decide (uptoBulkAll ds ≤ 1048576)
def OpenSpec.upto (s : _root_.Go.ChangeSpec) : _root_.Go.OpenSpec := { _root_.Go.OpenSpec.ofChange s with cond := some uptoSmall }

/-- 'laws.FnExactIsPoint', WHERE WHAT IT READS IS OF BULK AT MOST 1048576: true; the input reads as it did. -/
def fnExactIsPointUptoRow : OpenClaim := { program := "ytcdebmabheifaaa", sum := "320d46440c03695fc653a5362e4fe8321c9577da1ad85a81082444039acc5cf0", func := "loop.example/g01124/laws.FnExactIsPoint", spec := "fnExactIsPoint", unfollowed := true, recurses := true, apart := false, narrowed := true }
def FnExactIsPointUptoSaid : Prop := fnExactIsPointUptoRow.holds Try.pinned (OpenSpec.upto fnExactIsPointSpec)

/-- 'laws.FnExactJordanRank', WHERE WHAT IT READS IS OF BULK AT MOST 1048576: true; the input reads as it did. -/
def fnExactJordanRankUptoRow : OpenClaim := { program := "ytcdebmabheifaaa", sum := "320d46440c03695fc653a5362e4fe8321c9577da1ad85a81082444039acc5cf0", func := "loop.example/g01124/laws.FnExactJordanRank", spec := "fnExactJordanRank", unfollowed := true, recurses := true, apart := false, narrowed := true }
def FnExactJordanRankUptoSaid : Prop := fnExactJordanRankUptoRow.holds Try.pinned (OpenSpec.upto fnExactJordanRankSpec)

/-- 'laws.FnExactIsJordanIdempotent', WHERE WHAT IT READS IS OF BULK AT MOST 1048576: true; the input reads as it did. -/
def fnExactIsJordanIdempotentUptoRow : OpenClaim := { program := "ytcdebmabheifaaa", sum := "320d46440c03695fc653a5362e4fe8321c9577da1ad85a81082444039acc5cf0", func := "loop.example/g01124/laws.FnExactIsJordanIdempotent", spec := "fnExactIsJordanIdempotent", unfollowed := true, recurses := true, apart := false, narrowed := true }
def FnExactIsJordanIdempotentUptoSaid : Prop := fnExactIsJordanIdempotentUptoRow.holds Try.pinned (OpenSpec.upto fnExactIsJordanIdempotentSpec)

/-- 'laws.FnExactJordanCross', WHERE WHAT IT READS IS OF BULK AT MOST 1048576: true; the input reads as it did. -/
def fnExactJordanCrossUptoRow : OpenClaim := { program := "ytcdebmabheifaaa", sum := "320d46440c03695fc653a5362e4fe8321c9577da1ad85a81082444039acc5cf0", func := "loop.example/g01124/laws.FnExactJordanCross", spec := "fnExactJordanCross", unfollowed := true, recurses := true, apart := false, narrowed := true }
def FnExactJordanCrossUptoSaid : Prop := fnExactJordanCrossUptoRow.holds Try.pinned (OpenSpec.upto fnExactJordanCrossSpec)

/-- 'laws.FnExactJordanPower', WHERE WHAT IT READS IS OF BULK AT MOST 1048576: true; the input reads as it did. -/
def fnExactJordanPowerUptoRow : OpenClaim := { program := "ytcdebmabheifaaa", sum := "320d46440c03695fc653a5362e4fe8321c9577da1ad85a81082444039acc5cf0", func := "loop.example/g01124/laws.FnExactJordanPower", spec := "fnExactJordanPower", unfollowed := true, recurses := true, apart := false, narrowed := true }
def FnExactJordanPowerUptoSaid : Prop := fnExactJordanPowerUptoRow.holds Try.pinned (OpenSpec.upto fnExactJordanPowerSpec)

/-- 'laws.FnExactJordanInverse', WHERE WHAT IT READS IS OF BULK AT MOST 1048576: true; the input reads as it did. -/
def fnExactJordanInverseUptoRow : OpenClaim := { program := "ytcdebmabheifaaa", sum := "320d46440c03695fc653a5362e4fe8321c9577da1ad85a81082444039acc5cf0", func := "loop.example/g01124/laws.FnExactJordanInverse", spec := "fnExactJordanInverse", unfollowed := true, recurses := true, apart := false, narrowed := true }
def FnExactJordanInverseUptoSaid : Prop := fnExactJordanInverseUptoRow.holds Try.pinned (OpenSpec.upto fnExactJordanInverseSpec)

/-- 'laws.FnExactQuadraticMap', WHERE WHAT IT READS IS OF BULK AT MOST 1048576: true; the input reads as it did. -/
def fnExactQuadraticMapUptoRow : OpenClaim := { program := "ytcdebmabheifaaa", sum := "320d46440c03695fc653a5362e4fe8321c9577da1ad85a81082444039acc5cf0", func := "loop.example/g01124/laws.FnExactQuadraticMap", spec := "fnExactQuadraticMap", unfollowed := true, recurses := true, apart := false, narrowed := true }
def FnExactQuadraticMapUptoSaid : Prop := fnExactQuadraticMapUptoRow.holds Try.pinned (OpenSpec.upto fnExactQuadraticMapSpec)

/-- 'laws.FnExactAreIncident', WHERE WHAT IT READS IS OF BULK AT MOST 1048576: true; the input reads as it did. -/
def fnExactAreIncidentUptoRow : OpenClaim := { program := "ytcdebmabheifaaa", sum := "320d46440c03695fc653a5362e4fe8321c9577da1ad85a81082444039acc5cf0", func := "loop.example/g01124/laws.FnExactAreIncident", spec := "fnExactAreIncident", unfollowed := true, recurses := true, apart := false, narrowed := true }
def FnExactAreIncidentUptoSaid : Prop := fnExactAreIncidentUptoRow.holds Try.pinned (OpenSpec.upto fnExactAreIncidentSpec)

/-- 'laws.FnExactCoordinatesOf', WHERE WHAT IT READS IS OF BULK AT MOST 1048576: true; the input reads as it did. -/
def fnExactCoordinatesOfUptoRow : OpenClaim := { program := "ytcdebmabheifaaa", sum := "320d46440c03695fc653a5362e4fe8321c9577da1ad85a81082444039acc5cf0", func := "loop.example/g01124/laws.FnExactCoordinatesOf", spec := "fnExactCoordinatesOf", unfollowed := true, recurses := true, apart := false, narrowed := true }
def FnExactCoordinatesOfUptoSaid : Prop := fnExactCoordinatesOfUptoRow.holds Try.pinned (OpenSpec.upto fnExactCoordinatesOfSpec)

/-- 'laws.FnExactLineThrough', WHERE WHAT IT READS IS OF BULK AT MOST 1048576: true; the input reads as it did. -/
def fnExactLineThroughUptoRow : OpenClaim := { program := "ytcdebmabheifaaa", sum := "320d46440c03695fc653a5362e4fe8321c9577da1ad85a81082444039acc5cf0", func := "loop.example/g01124/laws.FnExactLineThrough", spec := "fnExactLineThrough", unfollowed := true, recurses := true, apart := false, narrowed := true }
def FnExactLineThroughUptoSaid : Prop := fnExactLineThroughUptoRow.holds Try.pinned (OpenSpec.upto fnExactLineThroughSpec)

/-- 'laws.FnExactNormalPoint', WHERE WHAT IT READS IS OF BULK AT MOST 1048576: true; the input reads as it did. -/
def fnExactNormalPointUptoRow : OpenClaim := { program := "ytcdebmabheifaaa", sum := "320d46440c03695fc653a5362e4fe8321c9577da1ad85a81082444039acc5cf0", func := "loop.example/g01124/laws.FnExactNormalPoint", spec := "fnExactNormalPoint", unfollowed := true, recurses := true, apart := false, narrowed := true }
def FnExactNormalPointUptoSaid : Prop := fnExactNormalPointUptoRow.holds Try.pinned (OpenSpec.upto fnExactNormalPointSpec)

end Rows
end Go.Proofs.Ytcdebmabheifaaa
