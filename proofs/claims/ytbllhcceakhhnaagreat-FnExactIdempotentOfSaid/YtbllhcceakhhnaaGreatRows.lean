/-
  No cell of these rows narrows 'for every input' (looked for: loops, veiled, ifaces, maps, wideKeys, modest, calm, conditions, laid).
  DERIVED. THE GIVEN ROWS OF THIS SEAT. 3 by the template 'for every input the law returns true; each argument reads behind the call as it read before'; 0 by the template 'total and deterministic' (their statements: YtbllhcceakhhnaaGreatTotals.lean).
  GIVEN WITH THE SEED: the statements are not yours to turn. If you find one false, say at which input.
  Laid BY PROGRAM, IN A SANDBOX (cutbox-rows.mjs): the forced cells as the released guide's own fill.sh prints them over the translation 41750aeb6f590377… (all of the seat's roots in one cut). By AI agents, Wed Nov 11 2026. No macro, syntax, notation, axiom, sorry.
-/
import Derived.Test.YtbllhcceakhhnaaGreatChecked
import GoSem.Claim
import GoSem.ClaimJoined
import GoSem.ClaimMapViews
import Derived.JoinedTies
import Derived.KernelRfl
namespace Go.Proofs.YtbllhcceakhhnaaGreat
/- THE CELL 'sum', in the pinned program and in every row, IS THE sha256 OF THE DUMP (.gsa) THAT YtbllhcceakhhnaaGreatProg.lean LOADS. Nothing in Lean hashes anything: it is a label: what it is worth is what the hold of that sum in a sandbox is worth. -/
noncomputable def Tryz.pinned : Pinned := { name := "ytbllhcceakhhnaagreat", sum := "41750aeb6f590377bb538a1b5650ba2aa29308e27961e86cd880862f60e16f7e", checked := Tryz.checked }
namespace Rows
def none {H : Type} : Left H := { results := [], args := [] }

/-- 'laws.FnExactIsPrimitive': WHATEVER THE INPUT: true; the input reads as it did. -/
def fnExactIsPrimitiveSpec : ChangeSpec := { name := "fnExactIsPrimitive", fn := fun _ => fun
  | [d1, d2] => { results := [.lit (.bool true)], args := [d1, d2] }
  | _ => none }
def fnExactIsPrimitiveRow : OpenClaim := { program := "ytbllhcceakhhnaagreat", sum := "41750aeb6f590377bb538a1b5650ba2aa29308e27961e86cd880862f60e16f7e", func := "loop.example/g01124/laws.FnExactIsPrimitive", spec := "fnExactIsPrimitive", unfollowed := true, recurses := true, apart := false }
def FnExactIsPrimitiveSaid : Prop := fnExactIsPrimitiveRow.holds Tryz.pinned (OpenSpec.ofChange fnExactIsPrimitiveSpec)

/-- ITS FALSE NEIGHBOUR: 'it returns false'. Refute it at one input. -/
def fnExactIsPrimitiveWrong : ChangeSpec := { name := "fnExactIsPrimitive", fn := fun _ => fun
  | [d1, d2] => { results := [.lit (.bool false)], args := [d1, d2] }
  | _ => none }
def FnExactIsPrimitiveWrongFalsely : Prop := fnExactIsPrimitiveRow.holds Tryz.pinned (OpenSpec.ofChange fnExactIsPrimitiveWrong)

/-- 'laws.FnExactAreCollinear': WHATEVER THE INPUT: true; the input reads as it did. -/
def fnExactAreCollinearSpec : ChangeSpec := { name := "fnExactAreCollinear", fn := fun _ => fun
  | [d1, d2, d3, d4] => { results := [.lit (.bool true)], args := [d1, d2, d3, d4] }
  | _ => none }
def fnExactAreCollinearRow : OpenClaim := { program := "ytbllhcceakhhnaagreat", sum := "41750aeb6f590377bb538a1b5650ba2aa29308e27961e86cd880862f60e16f7e", func := "loop.example/g01124/laws.FnExactAreCollinear", spec := "fnExactAreCollinear", unfollowed := true, recurses := true, apart := false }
def FnExactAreCollinearSaid : Prop := fnExactAreCollinearRow.holds Tryz.pinned (OpenSpec.ofChange fnExactAreCollinearSpec)

/-- ITS FALSE NEIGHBOUR: 'it returns false'. Refute it at one input. -/
def fnExactAreCollinearWrong : ChangeSpec := { name := "fnExactAreCollinear", fn := fun _ => fun
  | [d1, d2, d3, d4] => { results := [.lit (.bool false)], args := [d1, d2, d3, d4] }
  | _ => none }
def FnExactAreCollinearWrongFalsely : Prop := fnExactAreCollinearRow.holds Tryz.pinned (OpenSpec.ofChange fnExactAreCollinearWrong)

/-- 'laws.FnExactIdempotentOf': WHATEVER THE INPUT: true; the input reads as it did. -/
def fnExactIdempotentOfSpec : ChangeSpec := { name := "fnExactIdempotentOf", fn := fun _ => fun
  | [d1, d2] => { results := [.lit (.bool true)], args := [d1, d2] }
  | _ => none }
def fnExactIdempotentOfRow : OpenClaim := { program := "ytbllhcceakhhnaagreat", sum := "41750aeb6f590377bb538a1b5650ba2aa29308e27961e86cd880862f60e16f7e", func := "loop.example/g01124/laws.FnExactIdempotentOf", spec := "fnExactIdempotentOf", unfollowed := true, recurses := true, apart := false }
def FnExactIdempotentOfSaid : Prop := fnExactIdempotentOfRow.holds Tryz.pinned (OpenSpec.ofChange fnExactIdempotentOfSpec)

/-- ITS FALSE NEIGHBOUR: 'it returns false'. Refute it at one input. -/
def fnExactIdempotentOfWrong : ChangeSpec := { name := "fnExactIdempotentOf", fn := fun _ => fun
  | [d1, d2] => { results := [.lit (.bool false)], args := [d1, d2] }
  | _ => none }
def FnExactIdempotentOfWrongFalsely : Prop := fnExactIdempotentOfRow.holds Tryz.pinned (OpenSpec.ofChange fnExactIdempotentOfWrong)

/- THE SECOND FORM. 'bulk': how many values and letters a reading holds, each counted each time it is reached (what is shared counts as often as it is met; a slice's spare places count too). A statement '..UptoSaid' is the law's where the arguments, and the package variables that the reading takes, are together of bulk at most 1048576: NARROWER than '..Said'. Prove '..Said' where nothing that the law and all that it calls make is longer than what came in: it says more and counts as full. Else prove '..UptoSaid'. A law counts once. -/
mutual
def uptoBulk {H : Type} : DataW H → Nat
  | .lit (.string bytes) => bytes.length + 1
  | .lit _ => 1
  | .nil => 1
  | .ptr d => uptoBulk d + 1
  | .slice elems spare => uptoBulkAll elems + uptoBulkAll spare + 1
  | .agg parts => uptoBulkAll parts + 1
  | .iface _ d => uptoBulk d + 1
  | .map entries => uptoBulkEntries entries + 1
  | .held _ => 1
def uptoBulkAll {H : Type} : List (DataW H) → Nat
  | [] => 0
  | d :: r => uptoBulk d + uptoBulkAll r
def uptoBulkEntries {H : Type} : List (Lit × DataW H) → Nat
  | [] => 0
  | x :: r => uptoBulkEntry x + uptoBulkEntries r
def uptoBulkEntry {H : Type} : Lit × DataW H → Nat
  | (.string bytes, d) => bytes.length + uptoBulk d + 1
  | (_, d) => uptoBulk d + 1
 end
def uptoSmall : (H : Type) → List (DataW H) → Bool := fun _ ds => decide (uptoBulkAll ds ≤ 1048576)
def OpenSpec.upto (s : _root_.Go.ChangeSpec) : _root_.Go.OpenSpec := { _root_.Go.OpenSpec.ofChange s with cond := some uptoSmall }

/-- 'laws.FnExactIsPrimitive', WHERE WHAT IT READS IS OF BULK AT MOST 1048576: true; the input reads as it did. -/
def fnExactIsPrimitiveUptoRow : OpenClaim := { program := "ytbllhcceakhhnaagreat", sum := "41750aeb6f590377bb538a1b5650ba2aa29308e27961e86cd880862f60e16f7e", func := "loop.example/g01124/laws.FnExactIsPrimitive", spec := "fnExactIsPrimitive", unfollowed := true, recurses := true, apart := false, narrowed := true }
def FnExactIsPrimitiveUptoSaid : Prop := fnExactIsPrimitiveUptoRow.holds Tryz.pinned (OpenSpec.upto fnExactIsPrimitiveSpec)

/-- 'laws.FnExactAreCollinear', WHERE WHAT IT READS IS OF BULK AT MOST 1048576: true; the input reads as it did. -/
def fnExactAreCollinearUptoRow : OpenClaim := { program := "ytbllhcceakhhnaagreat", sum := "41750aeb6f590377bb538a1b5650ba2aa29308e27961e86cd880862f60e16f7e", func := "loop.example/g01124/laws.FnExactAreCollinear", spec := "fnExactAreCollinear", unfollowed := true, recurses := true, apart := false, narrowed := true }
def FnExactAreCollinearUptoSaid : Prop := fnExactAreCollinearUptoRow.holds Tryz.pinned (OpenSpec.upto fnExactAreCollinearSpec)

/-- 'laws.FnExactIdempotentOf', WHERE WHAT IT READS IS OF BULK AT MOST 1048576: true; the input reads as it did. -/
def fnExactIdempotentOfUptoRow : OpenClaim := { program := "ytbllhcceakhhnaagreat", sum := "41750aeb6f590377bb538a1b5650ba2aa29308e27961e86cd880862f60e16f7e", func := "loop.example/g01124/laws.FnExactIdempotentOf", spec := "fnExactIdempotentOf", unfollowed := true, recurses := true, apart := false, narrowed := true }
def FnExactIdempotentOfUptoSaid : Prop := fnExactIdempotentOfUptoRow.holds Tryz.pinned (OpenSpec.upto fnExactIdempotentOfSpec)

end Rows
end Go.Proofs.YtbllhcceakhhnaaGreat
