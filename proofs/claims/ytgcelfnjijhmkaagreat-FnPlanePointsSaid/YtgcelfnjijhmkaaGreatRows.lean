/-
  No cell of these rows narrows 'for every input' (looked for: loops, veiled, ifaces, maps, wideKeys, modest, calm, conditions, laid).
  DERIVED. THE GIVEN ROWS OF THIS SEAT. 2 by the template 'for every input the law returns true; each argument reads behind the call as it read before'; 0 by the template 'total and deterministic' (their statements: YtgcelfnjijhmkaaGreatTotals.lean).
  GIVEN WITH THE SEED: the statements are not yours to turn. If you find one false, say at which input.
  Laid BY PROGRAM, IN A SANDBOX (cutbox-rows.mjs): the forced cells as the released guide's own fill.sh prints them over the translation 0a3ca62cb12f9244… (all of the seat's roots in one cut). By AI agents, Wed Nov 11 2026. No macro, syntax, notation, axiom, sorry.
-/
import Derived.Test.YtgcelfnjijhmkaaGreatChecked
import GoSem.Claim
import GoSem.ClaimJoined
import GoSem.ClaimMapViews
import Derived.JoinedTies
import Derived.KernelRfl
namespace Go.Proofs.YtgcelfnjijhmkaaGreat
/- THE CELL 'sum', in the pinned program and in every row, IS THE sha256 OF THE DUMP (.gsa) THAT YtgcelfnjijhmkaaGreatProg.lean LOADS. Nothing in Lean hashes anything: it is a label: what it is worth is what the hold of that sum in a sandbox is worth. -/
noncomputable def Tryz.pinned : Pinned := { name := "ytgcelfnjijhmkaagreat", sum := "0a3ca62cb12f9244745cb8e3146b72c42113ca17ea0b079e08db27d32f1d9752", checked := Tryz.checked }
namespace Rows
def none {H : Type} : Left H := { results := [], args := [] }

/-- 'laws.FnPlanePoints': WHATEVER THE INPUT: true; the input reads as it did. -/
def fnPlanePointsSpec : ChangeSpec := { name := "fnPlanePoints", fn := fun _ => fun
  | [d] => { results := [.lit (.bool true)], args := [d] }
  | _ => none }
def fnPlanePointsRow : OpenClaim := { program := "ytgcelfnjijhmkaagreat", sum := "0a3ca62cb12f9244745cb8e3146b72c42113ca17ea0b079e08db27d32f1d9752", func := "loop.example/g01124/laws.FnPlanePoints", spec := "fnPlanePoints", unfollowed := true, recurses := true, apart := false }
def FnPlanePointsSaid : Prop := fnPlanePointsRow.holds Tryz.pinned (OpenSpec.ofChange fnPlanePointsSpec)

/-- ITS FALSE NEIGHBOUR: 'it returns false'. Refute it at one input. -/
def fnPlanePointsWrong : ChangeSpec := { name := "fnPlanePoints", fn := fun _ => fun
  | [d] => { results := [.lit (.bool false)], args := [d] }
  | _ => none }
def FnPlanePointsWrongFalsely : Prop := fnPlanePointsRow.holds Tryz.pinned (OpenSpec.ofChange fnPlanePointsWrong)

/-- 'laws.FnPlaneLines': WHATEVER THE INPUT: true; the input reads as it did. -/
def fnPlaneLinesSpec : ChangeSpec := { name := "fnPlaneLines", fn := fun _ => fun
  | [d] => { results := [.lit (.bool true)], args := [d] }
  | _ => none }
def fnPlaneLinesRow : OpenClaim := { program := "ytgcelfnjijhmkaagreat", sum := "0a3ca62cb12f9244745cb8e3146b72c42113ca17ea0b079e08db27d32f1d9752", func := "loop.example/g01124/laws.FnPlaneLines", spec := "fnPlaneLines", unfollowed := true, recurses := true, apart := false }
def FnPlaneLinesSaid : Prop := fnPlaneLinesRow.holds Tryz.pinned (OpenSpec.ofChange fnPlaneLinesSpec)

/-- ITS FALSE NEIGHBOUR: 'it returns false'. Refute it at one input. -/
def fnPlaneLinesWrong : ChangeSpec := { name := "fnPlaneLines", fn := fun _ => fun
  | [d] => { results := [.lit (.bool false)], args := [d] }
  | _ => none }
def FnPlaneLinesWrongFalsely : Prop := fnPlaneLinesRow.holds Tryz.pinned (OpenSpec.ofChange fnPlaneLinesWrong)

/- THE SECOND FORM. 'bulk': how many values and letters a reading holds, each counted each time it is reached (what is shared counts as often as it is met; a slice's spare places count too). A statement '..UptoSaid' is the law's where the arguments, and the package variables that the reading takes, are together of bulk at most 1048576: NARROWER than '..Said'. Prove '..Said' where nothing that the law and all that it calls make is longer than what came in: it says more and counts as full. Else prove '..UptoSaid'. A law counts once. -/
mutual
def uptoBulk {H : Type} : DataW H → Nat
  | .lit (.string bytes) => bytes.length + 1
  | .lit _ => 1
  | .nil => 1
  | .ptr d => uptoBulk d + 1
  | .slice elems spare => uptoBulkAll elems + uptoBulkAll spare + 1
  | .agg parts => uptoBulkAll parts + 1
  | .iface _ d => uptoBulk d + 1
  | .map entries => uptoBulkEntries entries + 1
  | .held _ => 1
def uptoBulkAll {H : Type} : List (DataW H) → Nat
  | [] => 0
  | d :: r => uptoBulk d + uptoBulkAll r
def uptoBulkEntries {H : Type} : List (Lit × DataW H) → Nat
  | [] => 0
  | x :: r => uptoBulkEntry x + uptoBulkEntries r
def uptoBulkEntry {H : Type} : Lit × DataW H → Nat
  | (.string bytes, d) => bytes.length + uptoBulk d + 1
  | (_, d) => uptoBulk d + 1
 end
def uptoSmall : (H : Type) → List (DataW H) → Bool := fun _ ds => decide (uptoBulkAll ds ≤ 1048576)
def OpenSpec.upto (s : _root_.Go.ChangeSpec) : _root_.Go.OpenSpec := { _root_.Go.OpenSpec.ofChange s with cond := some uptoSmall }

/-- 'laws.FnPlanePoints', WHERE WHAT IT READS IS OF BULK AT MOST 1048576: true; the input reads as it did. -/
def fnPlanePointsUptoRow : OpenClaim := { program := "ytgcelfnjijhmkaagreat", sum := "0a3ca62cb12f9244745cb8e3146b72c42113ca17ea0b079e08db27d32f1d9752", func := "loop.example/g01124/laws.FnPlanePoints", spec := "fnPlanePoints", unfollowed := true, recurses := true, apart := false, narrowed := true }
def FnPlanePointsUptoSaid : Prop := fnPlanePointsUptoRow.holds Tryz.pinned (OpenSpec.upto fnPlanePointsSpec)

/-- 'laws.FnPlaneLines', WHERE WHAT IT READS IS OF BULK AT MOST 1048576: true; the input reads as it did. -/
def fnPlaneLinesUptoRow : OpenClaim := { program := "ytgcelfnjijhmkaagreat", sum := "0a3ca62cb12f9244745cb8e3146b72c42113ca17ea0b079e08db27d32f1d9752", func := "loop.example/g01124/laws.FnPlaneLines", spec := "fnPlaneLines", unfollowed := true, recurses := true, apart := false, narrowed := true }
def FnPlaneLinesUptoSaid : Prop := fnPlaneLinesUptoRow.holds Tryz.pinned (OpenSpec.upto fnPlaneLinesSpec)

end Rows
end Go.Proofs.YtgcelfnjijhmkaaGreat
