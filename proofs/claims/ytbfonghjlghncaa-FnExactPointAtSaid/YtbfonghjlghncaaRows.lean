/-
  No cell of these rows narrows 'for every input' (looked for: loops, veiled, ifaces, maps, wideKeys, modest, calm, conditions, laid).
  DERIVED. THE GIVEN ROWS OF THIS SEAT. 12 by the template 'for every input the law returns true; each argument reads behind the call as it read before'; 0 by the template 'total and deterministic' (their statements: YtbfonghjlghncaaTotals.lean).
  GIVEN WITH THE SEED: the statements are not yours to turn. If you find one false, say at which input.
  Laid BY PROGRAM, IN A SANDBOX (cutbox-rows.mjs): the forced cells as the released guide's own fill.sh prints them over the translation cafae1b75e670281… (all of the seat's roots in one cut). By AI agents, Wed Nov 11 2026. No macro, syntax, notation, axiom, sorry.
-/
import Derived.Test.YtbfonghjlghncaaChecked
import GoSem.Claim
import GoSem.ClaimJoined
import GoSem.ClaimMapViews
import Derived.JoinedTies
import Derived.KernelRfl
namespace Go.Proofs.Ytbfonghjlghncaa
/- THE CELL 'sum', in the pinned program and in every row, IS THE sha256 OF THE DUMP (.gsa) THAT YtbfonghjlghncaaProg.lean LOADS. Nothing in Lean hashes anything: it is a label: what it is worth is what the hold of that sum in a sandbox is worth. -/
noncomputable def Try.pinned : Pinned := { name := "ytbfonghjlghncaa", sum := "cafae1b75e6702811bf43c335935541a17b95b5c144d53d98e4031cddbe9a0cc", checked := Try.checked }
namespace Rows
def none {H : Type} : Left H := { results := [], args := [] }

/-- 'laws.FnExactCountPoints': WHATEVER THE INPUT: true; the input reads as it did. -/
def fnExactCountPointsSpec : ChangeSpec := { name := "fnExactCountPoints", fn := fun _ => fun
  | [d] => { results := [.lit (.bool true)], args := [d] }
  | _ => none }
def fnExactCountPointsRow : OpenClaim := { program := "ytbfonghjlghncaa", sum := "cafae1b75e6702811bf43c335935541a17b95b5c144d53d98e4031cddbe9a0cc", func := "loop.example/g01124/laws.FnExactCountPoints", spec := "fnExactCountPoints", unfollowed := true, recurses := true, apart := false }
def FnExactCountPointsSaid : Prop := fnExactCountPointsRow.holds Try.pinned (OpenSpec.ofChange fnExactCountPointsSpec)

/-- ITS FALSE NEIGHBOUR: 'it returns false'. Refute it at one input. -/
def fnExactCountPointsWrong : ChangeSpec := { name := "fnExactCountPoints", fn := fun _ => fun
  | [d] => { results := [.lit (.bool false)], args := [d] }
  | _ => none }
def FnExactCountPointsWrongFalsely : Prop := fnExactCountPointsRow.holds Try.pinned (OpenSpec.ofChange fnExactCountPointsWrong)

/-- 'laws.FnExactIsHermitian': WHATEVER THE INPUT: true; the input reads as it did. -/
def fnExactIsHermitianSpec : ChangeSpec := { name := "fnExactIsHermitian", fn := fun _ => fun
  | [d1, d2] => { results := [.lit (.bool true)], args := [d1, d2] }
  | _ => none }
def fnExactIsHermitianRow : OpenClaim := { program := "ytbfonghjlghncaa", sum := "cafae1b75e6702811bf43c335935541a17b95b5c144d53d98e4031cddbe9a0cc", func := "loop.example/g01124/laws.FnExactIsHermitian", spec := "fnExactIsHermitian", unfollowed := true, recurses := true, apart := false }
def FnExactIsHermitianSaid : Prop := fnExactIsHermitianRow.holds Try.pinned (OpenSpec.ofChange fnExactIsHermitianSpec)

/-- ITS FALSE NEIGHBOUR: 'it returns false'. Refute it at one input. -/
def fnExactIsHermitianWrong : ChangeSpec := { name := "fnExactIsHermitian", fn := fun _ => fun
  | [d1, d2] => { results := [.lit (.bool false)], args := [d1, d2] }
  | _ => none }
def FnExactIsHermitianWrongFalsely : Prop := fnExactIsHermitianRow.holds Try.pinned (OpenSpec.ofChange fnExactIsHermitianWrong)

/-- 'laws.FnExactJordanTrace': WHATEVER THE INPUT: true; the input reads as it did. -/
def fnExactJordanTraceSpec : ChangeSpec := { name := "fnExactJordanTrace", fn := fun _ => fun
  | [d1, d2] => { results := [.lit (.bool true)], args := [d1, d2] }
  | _ => none }
def fnExactJordanTraceRow : OpenClaim := { program := "ytbfonghjlghncaa", sum := "cafae1b75e6702811bf43c335935541a17b95b5c144d53d98e4031cddbe9a0cc", func := "loop.example/g01124/laws.FnExactJordanTrace", spec := "fnExactJordanTrace", unfollowed := true, recurses := true, apart := false }
def FnExactJordanTraceSaid : Prop := fnExactJordanTraceRow.holds Try.pinned (OpenSpec.ofChange fnExactJordanTraceSpec)

/-- ITS FALSE NEIGHBOUR: 'it returns false'. Refute it at one input. -/
def fnExactJordanTraceWrong : ChangeSpec := { name := "fnExactJordanTrace", fn := fun _ => fun
  | [d1, d2] => { results := [.lit (.bool false)], args := [d1, d2] }
  | _ => none }
def FnExactJordanTraceWrongFalsely : Prop := fnExactJordanTraceRow.holds Try.pinned (OpenSpec.ofChange fnExactJordanTraceWrong)

/-- 'laws.FnExactJordanUnit': WHATEVER THE INPUT: true; the input reads as it did. -/
def fnExactJordanUnitSpec : ChangeSpec := { name := "fnExactJordanUnit", fn := fun _ => fun
  | [d] => { results := [.lit (.bool true)], args := [d] }
  | _ => none }
def fnExactJordanUnitRow : OpenClaim := { program := "ytbfonghjlghncaa", sum := "cafae1b75e6702811bf43c335935541a17b95b5c144d53d98e4031cddbe9a0cc", func := "loop.example/g01124/laws.FnExactJordanUnit", spec := "fnExactJordanUnit", unfollowed := true, recurses := true, apart := false }
def FnExactJordanUnitSaid : Prop := fnExactJordanUnitRow.holds Try.pinned (OpenSpec.ofChange fnExactJordanUnitSpec)

/-- ITS FALSE NEIGHBOUR: 'it returns false'. Refute it at one input. -/
def fnExactJordanUnitWrong : ChangeSpec := { name := "fnExactJordanUnit", fn := fun _ => fun
  | [d] => { results := [.lit (.bool false)], args := [d] }
  | _ => none }
def FnExactJordanUnitWrongFalsely : Prop := fnExactJordanUnitRow.holds Try.pinned (OpenSpec.ofChange fnExactJordanUnitWrong)

/-- 'laws.FnExactTurnRows': WHATEVER THE INPUT: true; the input reads as it did. -/
def fnExactTurnRowsSpec : ChangeSpec := { name := "fnExactTurnRows", fn := fun _ => fun
  | [d1, d2, d3] => { results := [.lit (.bool true)], args := [d1, d2, d3] }
  | _ => none }
def fnExactTurnRowsRow : OpenClaim := { program := "ytbfonghjlghncaa", sum := "cafae1b75e6702811bf43c335935541a17b95b5c144d53d98e4031cddbe9a0cc", func := "loop.example/g01124/laws.FnExactTurnRows", spec := "fnExactTurnRows", unfollowed := true, recurses := true, apart := false }
def FnExactTurnRowsSaid : Prop := fnExactTurnRowsRow.holds Try.pinned (OpenSpec.ofChange fnExactTurnRowsSpec)

/-- ITS FALSE NEIGHBOUR: 'it returns false'. Refute it at one input. -/
def fnExactTurnRowsWrong : ChangeSpec := { name := "fnExactTurnRows", fn := fun _ => fun
  | [d1, d2, d3] => { results := [.lit (.bool false)], args := [d1, d2, d3] }
  | _ => none }
def FnExactTurnRowsWrongFalsely : Prop := fnExactTurnRowsRow.holds Try.pinned (OpenSpec.ofChange fnExactTurnRowsWrong)

/-- 'laws.FnExactPointAt': WHATEVER THE INPUT: true; the input reads as it did. -/
def fnExactPointAtSpec : ChangeSpec := { name := "fnExactPointAt", fn := fun _ => fun
  | [d1, d2, d3] => { results := [.lit (.bool true)], args := [d1, d2, d3] }
  | _ => none }
def fnExactPointAtRow : OpenClaim := { program := "ytbfonghjlghncaa", sum := "cafae1b75e6702811bf43c335935541a17b95b5c144d53d98e4031cddbe9a0cc", func := "loop.example/g01124/laws.FnExactPointAt", spec := "fnExactPointAt", unfollowed := true, recurses := true, apart := false }
def FnExactPointAtSaid : Prop := fnExactPointAtRow.holds Try.pinned (OpenSpec.ofChange fnExactPointAtSpec)

/-- ITS FALSE NEIGHBOUR: 'it returns false'. Refute it at one input. -/
def fnExactPointAtWrong : ChangeSpec := { name := "fnExactPointAt", fn := fun _ => fun
  | [d1, d2, d3] => { results := [.lit (.bool false)], args := [d1, d2, d3] }
  | _ => none }
def FnExactPointAtWrongFalsely : Prop := fnExactPointAtRow.holds Try.pinned (OpenSpec.ofChange fnExactPointAtWrong)

/-- 'laws.FnExactJordanDeterminant': WHATEVER THE INPUT: true; the input reads as it did. -/
def fnExactJordanDeterminantSpec : ChangeSpec := { name := "fnExactJordanDeterminant", fn := fun _ => fun
  | [d1, d2] => { results := [.lit (.bool true)], args := [d1, d2] }
  | _ => none }
def fnExactJordanDeterminantRow : OpenClaim := { program := "ytbfonghjlghncaa", sum := "cafae1b75e6702811bf43c335935541a17b95b5c144d53d98e4031cddbe9a0cc", func := "loop.example/g01124/laws.FnExactJordanDeterminant", spec := "fnExactJordanDeterminant", unfollowed := true, recurses := true, apart := false }
def FnExactJordanDeterminantSaid : Prop := fnExactJordanDeterminantRow.holds Try.pinned (OpenSpec.ofChange fnExactJordanDeterminantSpec)

/-- ITS FALSE NEIGHBOUR: 'it returns false'. Refute it at one input. -/
def fnExactJordanDeterminantWrong : ChangeSpec := { name := "fnExactJordanDeterminant", fn := fun _ => fun
  | [d1, d2] => { results := [.lit (.bool false)], args := [d1, d2] }
  | _ => none }
def FnExactJordanDeterminantWrongFalsely : Prop := fnExactJordanDeterminantRow.holds Try.pinned (OpenSpec.ofChange fnExactJordanDeterminantWrong)

/-- 'laws.FnExactJordanSum': WHATEVER THE INPUT: true; the input reads as it did. -/
def fnExactJordanSumSpec : ChangeSpec := { name := "fnExactJordanSum", fn := fun _ => fun
  | [d1, d2, d3, d4] => { results := [.lit (.bool true)], args := [d1, d2, d3, d4] }
  | _ => none }
def fnExactJordanSumRow : OpenClaim := { program := "ytbfonghjlghncaa", sum := "cafae1b75e6702811bf43c335935541a17b95b5c144d53d98e4031cddbe9a0cc", func := "loop.example/g01124/laws.FnExactJordanSum", spec := "fnExactJordanSum", unfollowed := true, recurses := true, apart := false }
def FnExactJordanSumSaid : Prop := fnExactJordanSumRow.holds Try.pinned (OpenSpec.ofChange fnExactJordanSumSpec)

/-- ITS FALSE NEIGHBOUR: 'it returns false'. Refute it at one input. -/
def fnExactJordanSumWrong : ChangeSpec := { name := "fnExactJordanSum", fn := fun _ => fun
  | [d1, d2, d3, d4] => { results := [.lit (.bool false)], args := [d1, d2, d3, d4] }
  | _ => none }
def FnExactJordanSumWrongFalsely : Prop := fnExactJordanSumRow.holds Try.pinned (OpenSpec.ofChange fnExactJordanSumWrong)

/-- 'laws.FnExactJordanAdjoint': WHATEVER THE INPUT: true; the input reads as it did. -/
def fnExactJordanAdjointSpec : ChangeSpec := { name := "fnExactJordanAdjoint", fn := fun _ => fun
  | [d1, d2] => { results := [.lit (.bool true)], args := [d1, d2] }
  | _ => none }
def fnExactJordanAdjointRow : OpenClaim := { program := "ytbfonghjlghncaa", sum := "cafae1b75e6702811bf43c335935541a17b95b5c144d53d98e4031cddbe9a0cc", func := "loop.example/g01124/laws.FnExactJordanAdjoint", spec := "fnExactJordanAdjoint", unfollowed := true, recurses := true, apart := false }
def FnExactJordanAdjointSaid : Prop := fnExactJordanAdjointRow.holds Try.pinned (OpenSpec.ofChange fnExactJordanAdjointSpec)

/-- ITS FALSE NEIGHBOUR: 'it returns false'. Refute it at one input. -/
def fnExactJordanAdjointWrong : ChangeSpec := { name := "fnExactJordanAdjoint", fn := fun _ => fun
  | [d1, d2] => { results := [.lit (.bool false)], args := [d1, d2] }
  | _ => none }
def FnExactJordanAdjointWrongFalsely : Prop := fnExactJordanAdjointRow.holds Try.pinned (OpenSpec.ofChange fnExactJordanAdjointWrong)

/-- 'laws.FnExactJordanPairing': WHATEVER THE INPUT: true; the input reads as it did. -/
def fnExactJordanPairingSpec : ChangeSpec := { name := "fnExactJordanPairing", fn := fun _ => fun
  | [d1, d2, d3] => { results := [.lit (.bool true)], args := [d1, d2, d3] }
  | _ => none }
def fnExactJordanPairingRow : OpenClaim := { program := "ytbfonghjlghncaa", sum := "cafae1b75e6702811bf43c335935541a17b95b5c144d53d98e4031cddbe9a0cc", func := "loop.example/g01124/laws.FnExactJordanPairing", spec := "fnExactJordanPairing", unfollowed := true, recurses := true, apart := false }
def FnExactJordanPairingSaid : Prop := fnExactJordanPairingRow.holds Try.pinned (OpenSpec.ofChange fnExactJordanPairingSpec)

/-- ITS FALSE NEIGHBOUR: 'it returns false'. Refute it at one input. -/
def fnExactJordanPairingWrong : ChangeSpec := { name := "fnExactJordanPairing", fn := fun _ => fun
  | [d1, d2, d3] => { results := [.lit (.bool false)], args := [d1, d2, d3] }
  | _ => none }
def FnExactJordanPairingWrongFalsely : Prop := fnExactJordanPairingRow.holds Try.pinned (OpenSpec.ofChange fnExactJordanPairingWrong)

/-- 'laws.FnExactCharacteristicOf': WHATEVER THE INPUT: true; the input reads as it did. -/
def fnExactCharacteristicOfSpec : ChangeSpec := { name := "fnExactCharacteristicOf", fn := fun _ => fun
  | [d1, d2] => { results := [.lit (.bool true)], args := [d1, d2] }
  | _ => none }
def fnExactCharacteristicOfRow : OpenClaim := { program := "ytbfonghjlghncaa", sum := "cafae1b75e6702811bf43c335935541a17b95b5c144d53d98e4031cddbe9a0cc", func := "loop.example/g01124/laws.FnExactCharacteristicOf", spec := "fnExactCharacteristicOf", unfollowed := true, recurses := true, apart := false }
def FnExactCharacteristicOfSaid : Prop := fnExactCharacteristicOfRow.holds Try.pinned (OpenSpec.ofChange fnExactCharacteristicOfSpec)

/-- ITS FALSE NEIGHBOUR: 'it returns false'. Refute it at one input. -/
def fnExactCharacteristicOfWrong : ChangeSpec := { name := "fnExactCharacteristicOf", fn := fun _ => fun
  | [d1, d2] => { results := [.lit (.bool false)], args := [d1, d2] }
  | _ => none }
def FnExactCharacteristicOfWrongFalsely : Prop := fnExactCharacteristicOfRow.holds Try.pinned (OpenSpec.ofChange fnExactCharacteristicOfWrong)

/-- 'laws.FnExactJordanTimes': WHATEVER THE INPUT: true; the input reads as it did. -/
def fnExactJordanTimesSpec : ChangeSpec := { name := "fnExactJordanTimes", fn := fun _ => fun
  | [d1, d2, d3] => { results := [.lit (.bool true)], args := [d1, d2, d3] }
  | _ => none }
def fnExactJordanTimesRow : OpenClaim := { program := "ytbfonghjlghncaa", sum := "cafae1b75e6702811bf43c335935541a17b95b5c144d53d98e4031cddbe9a0cc", func := "loop.example/g01124/laws.FnExactJordanTimes", spec := "fnExactJordanTimes", unfollowed := true, recurses := true, apart := false }
def FnExactJordanTimesSaid : Prop := fnExactJordanTimesRow.holds Try.pinned (OpenSpec.ofChange fnExactJordanTimesSpec)

/-- ITS FALSE NEIGHBOUR: 'it returns false'. Refute it at one input. -/
def fnExactJordanTimesWrong : ChangeSpec := { name := "fnExactJordanTimes", fn := fun _ => fun
  | [d1, d2, d3] => { results := [.lit (.bool false)], args := [d1, d2, d3] }
  | _ => none }
def FnExactJordanTimesWrongFalsely : Prop := fnExactJordanTimesRow.holds Try.pinned (OpenSpec.ofChange fnExactJordanTimesWrong)

/- THE SECOND FORM. 'bulk': how many values and letters a reading holds, each counted each time it is reached (what is shared counts as often as it is met; a slice's spare places count too). A statement '..UptoSaid' is the law's where the arguments, and the package variables that the reading takes, are together of bulk at most 1048576: NARROWER than '..Said'. Prove '..Said' where nothing that the law and all that it calls make is longer than what came in: it says more and counts as full. Else prove '..UptoSaid'. A law counts once. -/
mutual
def uptoBulk {H : Type} : DataW H → Nat
  | .lit (.string bytes) => bytes.length + 1
  | .lit _ => 1
  | .nil => 1
  | .ptr d => uptoBulk d + 1
  | .slice elems spare => uptoBulkAll elems + uptoBulkAll spare + 1
  | .agg parts => uptoBulkAll parts + 1
  | .iface _ d => uptoBulk d + 1
  | .map entries => uptoBulkEntries entries + 1
  | .held _ => 1
def uptoBulkAll {H : Type} : List (DataW H) → Nat
  | [] => 0
  | d :: r => uptoBulk d + uptoBulkAll r
def uptoBulkEntries {H : Type} : List (Lit × DataW H) → Nat
  | [] => 0
  | x :: r => uptoBulkEntry x + uptoBulkEntries r
def uptoBulkEntry {H : Type} : Lit × DataW H → Nat
  | (.string bytes, d) => bytes.length + uptoBulk d + 1
  | (_, d) => uptoBulk d + 1
 end
def uptoSmall : (H : Type) → List (DataW H) → Bool := fun _ ds => decide (uptoBulkAll ds ≤ 1048576)
def OpenSpec.upto (s : _root_.Go.ChangeSpec) : _root_.Go.OpenSpec := { _root_.Go.OpenSpec.ofChange s with cond := some uptoSmall }

/-- 'laws.FnExactCountPoints', WHERE WHAT IT READS IS OF BULK AT MOST 1048576: true; the input reads as it did. -/
def fnExactCountPointsUptoRow : OpenClaim := { program := "ytbfonghjlghncaa", sum := "cafae1b75e6702811bf43c335935541a17b95b5c144d53d98e4031cddbe9a0cc", func := "loop.example/g01124/laws.FnExactCountPoints", spec := "fnExactCountPoints", unfollowed := true, recurses := true, apart := false, narrowed := true }
def FnExactCountPointsUptoSaid : Prop := fnExactCountPointsUptoRow.holds Try.pinned (OpenSpec.upto fnExactCountPointsSpec)

/-- 'laws.FnExactIsHermitian', WHERE WHAT IT READS IS OF BULK AT MOST 1048576: true; the input reads as it did. -/
def fnExactIsHermitianUptoRow : OpenClaim := { program := "ytbfonghjlghncaa", sum := "cafae1b75e6702811bf43c335935541a17b95b5c144d53d98e4031cddbe9a0cc", func := "loop.example/g01124/laws.FnExactIsHermitian", spec := "fnExactIsHermitian", unfollowed := true, recurses := true, apart := false, narrowed := true }
def FnExactIsHermitianUptoSaid : Prop := fnExactIsHermitianUptoRow.holds Try.pinned (OpenSpec.upto fnExactIsHermitianSpec)

/-- 'laws.FnExactJordanTrace', WHERE WHAT IT READS IS OF BULK AT MOST 1048576: true; the input reads as it did. -/
def fnExactJordanTraceUptoRow : OpenClaim := { program := "ytbfonghjlghncaa", sum := "cafae1b75e6702811bf43c335935541a17b95b5c144d53d98e4031cddbe9a0cc", func := "loop.example/g01124/laws.FnExactJordanTrace", spec := "fnExactJordanTrace", unfollowed := true, recurses := true, apart := false, narrowed := true }
def FnExactJordanTraceUptoSaid : Prop := fnExactJordanTraceUptoRow.holds Try.pinned (OpenSpec.upto fnExactJordanTraceSpec)

/-- 'laws.FnExactJordanUnit', WHERE WHAT IT READS IS OF BULK AT MOST 1048576: true; the input reads as it did. -/
def fnExactJordanUnitUptoRow : OpenClaim := { program := "ytbfonghjlghncaa", sum := "cafae1b75e6702811bf43c335935541a17b95b5c144d53d98e4031cddbe9a0cc", func := "loop.example/g01124/laws.FnExactJordanUnit", spec := "fnExactJordanUnit", unfollowed := true, recurses := true, apart := false, narrowed := true }
def FnExactJordanUnitUptoSaid : Prop := fnExactJordanUnitUptoRow.holds Try.pinned (OpenSpec.upto fnExactJordanUnitSpec)

/-- 'laws.FnExactTurnRows', WHERE WHAT IT READS IS OF BULK AT MOST 1048576: true; the input reads as it did. -/
def fnExactTurnRowsUptoRow : OpenClaim := { program := "ytbfonghjlghncaa", sum := "cafae1b75e6702811bf43c335935541a17b95b5c144d53d98e4031cddbe9a0cc", func := "loop.example/g01124/laws.FnExactTurnRows", spec := "fnExactTurnRows", unfollowed := true, recurses := true, apart := false, narrowed := true }
def FnExactTurnRowsUptoSaid : Prop := fnExactTurnRowsUptoRow.holds Try.pinned (OpenSpec.upto fnExactTurnRowsSpec)

/-- 'laws.FnExactPointAt', WHERE WHAT IT READS IS OF BULK AT MOST 1048576: true; the input reads as it did. -/
def fnExactPointAtUptoRow : OpenClaim := { program := "ytbfonghjlghncaa", sum := "cafae1b75e6702811bf43c335935541a17b95b5c144d53d98e4031cddbe9a0cc", func := "loop.example/g01124/laws.FnExactPointAt", spec := "fnExactPointAt", unfollowed := true, recurses := true, apart := false, narrowed := true }
def FnExactPointAtUptoSaid : Prop := fnExactPointAtUptoRow.holds Try.pinned (OpenSpec.upto fnExactPointAtSpec)

/-- 'laws.FnExactJordanDeterminant', WHERE WHAT IT READS IS OF BULK AT MOST 1048576: true; the input reads as it did. -/
def fnExactJordanDeterminantUptoRow : OpenClaim := { program := "ytbfonghjlghncaa", sum := "cafae1b75e6702811bf43c335935541a17b95b5c144d53d98e4031cddbe9a0cc", func := "loop.example/g01124/laws.FnExactJordanDeterminant", spec := "fnExactJordanDeterminant", unfollowed := true, recurses := true, apart := false, narrowed := true }
def FnExactJordanDeterminantUptoSaid : Prop := fnExactJordanDeterminantUptoRow.holds Try.pinned (OpenSpec.upto fnExactJordanDeterminantSpec)

/-- 'laws.FnExactJordanSum', WHERE WHAT IT READS IS OF BULK AT MOST 1048576: true; the input reads as it did. -/
def fnExactJordanSumUptoRow : OpenClaim := { program := "ytbfonghjlghncaa", sum := "cafae1b75e6702811bf43c335935541a17b95b5c144d53d98e4031cddbe9a0cc", func := "loop.example/g01124/laws.FnExactJordanSum", spec := "fnExactJordanSum", unfollowed := true, recurses := true, apart := false, narrowed := true }
def FnExactJordanSumUptoSaid : Prop := fnExactJordanSumUptoRow.holds Try.pinned (OpenSpec.upto fnExactJordanSumSpec)

/-- 'laws.FnExactJordanAdjoint', WHERE WHAT IT READS IS OF BULK AT MOST 1048576: true; the input reads as it did. -/
def fnExactJordanAdjointUptoRow : OpenClaim := { program := "ytbfonghjlghncaa", sum := "cafae1b75e6702811bf43c335935541a17b95b5c144d53d98e4031cddbe9a0cc", func := "loop.example/g01124/laws.FnExactJordanAdjoint", spec := "fnExactJordanAdjoint", unfollowed := true, recurses := true, apart := false, narrowed := true }
def FnExactJordanAdjointUptoSaid : Prop := fnExactJordanAdjointUptoRow.holds Try.pinned (OpenSpec.upto fnExactJordanAdjointSpec)

/-- 'laws.FnExactJordanPairing', WHERE WHAT IT READS IS OF BULK AT MOST 1048576: true; the input reads as it did. -/
def fnExactJordanPairingUptoRow : OpenClaim := { program := "ytbfonghjlghncaa", sum := "cafae1b75e6702811bf43c335935541a17b95b5c144d53d98e4031cddbe9a0cc", func := "loop.example/g01124/laws.FnExactJordanPairing", spec := "fnExactJordanPairing", unfollowed := true, recurses := true, apart := false, narrowed := true }
def FnExactJordanPairingUptoSaid : Prop := fnExactJordanPairingUptoRow.holds Try.pinned (OpenSpec.upto fnExactJordanPairingSpec)

/-- 'laws.FnExactCharacteristicOf', WHERE WHAT IT READS IS OF BULK AT MOST 1048576: true; the input reads as it did. -/
def fnExactCharacteristicOfUptoRow : OpenClaim := { program := "ytbfonghjlghncaa", sum := "cafae1b75e6702811bf43c335935541a17b95b5c144d53d98e4031cddbe9a0cc", func := "loop.example/g01124/laws.FnExactCharacteristicOf", spec := "fnExactCharacteristicOf", unfollowed := true, recurses := true, apart := false, narrowed := true }
def FnExactCharacteristicOfUptoSaid : Prop := fnExactCharacteristicOfUptoRow.holds Try.pinned (OpenSpec.upto fnExactCharacteristicOfSpec)

/-- 'laws.FnExactJordanTimes', WHERE WHAT IT READS IS OF BULK AT MOST 1048576: true; the input reads as it did. -/
def fnExactJordanTimesUptoRow : OpenClaim := { program := "ytbfonghjlghncaa", sum := "cafae1b75e6702811bf43c335935541a17b95b5c144d53d98e4031cddbe9a0cc", func := "loop.example/g01124/laws.FnExactJordanTimes", spec := "fnExactJordanTimes", unfollowed := true, recurses := true, apart := false, narrowed := true }
def FnExactJordanTimesUptoSaid : Prop := fnExactJordanTimesUptoRow.holds Try.pinned (OpenSpec.upto fnExactJordanTimesSpec)

end Rows
end Go.Proofs.Ytbfonghjlghncaa
