/- Texts joined for a claim: Tree, HcQ, HcR. -/
import Derived.Test.YtmplpoccalccoaaGreatFlow
import Derived.Test.YtmplpoccalccoaaGreatHcD
import Derived.Test.YtmplpoccalccoaaGreatHcJ
import Derived.Deep.DeepCutAuto
/-
  A region that draws its order, where at some steps one of two operations may come up: a tree of orders. Plain lemmas over any program.
-/
namespace Go.Proofs.YtmplpoccalccoaaGreat
open Go.RowKit

section
variable {P : Program} {ops : Array Oper}
inductive Tr where
  | lin (segs : List (Bool × List (Nat × Nat)))
  | two (i m : Nat) (s : Tr) (j n : Nat) (t : Tr)
def Tr.lenOk : Tr → Nat → Bool
  | .lin segs, k => (flat segs).length == k
  | .two _ _ _ _ _ _, 0 => false
  | .two _ _ s _ _ t, k + 1 => s.lenOk k && t.lenOk k
def Tr.acts : Tr → Nat → Bool
  | .lin segs, i => (flat segs).any fun p => p.1 == i && decide (2 ≤ p.2)
  | .two i _ s j _ t, k => i == k || j == k || s.acts k || t.acts k
/-- One active operation. -/
def stepA (P : Program) (ops : Array Oper) (w0 : World) (i m : Nat) (K : Act → World → Prop) (a : Act) (w : World) : Prop := match ops[i]? with
  | none => False
  | some o => if Region.wanted o (yielded ops a.tmps) = true then o.wp P a w (fun a' w' => obl m w0 w w' ∧ K a' w') NoQ else obl m w0 w w ∧ K (a.put o.dst undef) w
theorem act_stepK {F i m : Nat} {act : Nat → Bool} {Q : Act → World → Prop} {w0 : World} {L : List (Nat × Nat × World)} {fuel : Nat} {listed : Array Bool} {a : Act} {w : World} {o : Oper} {K : Act → World → Prop}
    (ho : ops[i]? = some o) (ha : act i = true) (hok : actOk ops F i m (bare L) = true) (hinv : Inv w0 L w) (hm : ¬ m < 2)
    (h : if Region.wanted o (yielded ops a.tmps) = true then o.wp P a w (fun a' w' => obl m w0 w w' ∧ K a' w') NoQ else obl m w0 w w ∧ K (a.put o.dst undef) w)
    (next : ∀ a' w', Inv w0 (L.map fun l => (l.1, actNext m l.2.1, l.2.2)) w' → K a' w' →
      wpAnyN P .any ops (NormQ Q) act (needN ops F (L.map fun l => (l.1, actNext m l.2.1, l.2.2))) fuel (listed.setIfInBounds i true) a' w') :
    wpOp P ops (NormQ Q) i (fun a' w' => (if act i = true then needN ops F L i w' else w' = w) ∧ wpAnyN P .any ops (NormQ Q) act (needN ops F L) fuel (listed.setIfInBounds i true) a' w') a w := by
  have same : ∀ (fuel : Nat) (listed : Array Bool) (a : Act) (w : World), wpAnyN P .any ops (NormQ Q) act (needN ops F (L.map fun l => (l.1, actNext m l.2.1, l.2.2))) fuel listed a w → wpAnyN P .any ops (NormQ Q) act (needN ops F L) fuel listed a w := by
    have e : needN ops F (L.map fun l => (l.1, actNext m l.2.1, l.2.2)) = needN ops F L := by
      funext j w'
      refine propext ⟨fun h l hl hn => h (l.1, actNext m l.2.1, l.2.2) (List.mem_map.2 ⟨l, hl, rfl⟩) hn, fun h l hl hn => ?_⟩
      obtain ⟨q, hq, rfl⟩ := List.mem_map.1 hl
      exact h q hq hn
    rw [e]
    exact fun _ _ _ _ h => h
  have step : ∀ a' w', obl m w0 w w' ∧ K a' w' → (if act i = true then needN ops F L i w' else w' = w) ∧ wpAnyN P .any ops (NormQ Q) act (needN ops F L) fuel (listed.setIfInBounds i true) a' w' := fun a' w' h' => by
    obtain ⟨h1, h2⟩ := act_need hok hinv (by omega) h'.1
    rw [if_pos ha]
    exact ⟨h1, same _ _ _ _ (next a' w' h2 h'.2)⟩
  unfold wpOp
  simp only [ho]
  split at h
  · rw [if_pos (by assumption)]
    exact .inl (Oper.wp_mono step (wp_noQ h))
  · rename_i hnw
    rw [if_neg hnw]
    have h2 := step _ _ h
    simpa using h2
theorem step_of {w0 : World} {i m : Nat} {K : Act → World → Prop} {a : Act} {w : World} (hi : (ops[i]?).isSome = true) (h : wpList P ops (NormQ fun a' w' => obl m w0 w w' ∧ K a' w') (segL ops [(i, m)]) a w) : stepA P ops w0 i m K a w := by
  obtain ⟨o, ho⟩ := Option.isSome_iff_exists.1 hi
  unfold stepA
  simp only [ho]
  rw [segL_cons ho] at h
  have h2 := wpList_norm h
  split at h2
  · rw [if_pos (by assumption)]
    exact Oper.wp_mono (fun a1 w1 h1 => h1) (wp_normQ h2)
  · rename_i hn
    rw [if_neg hn]
    exact h2
end
end Go.Proofs.YtmplpoccalccoaaGreat
/-
  The adjoint.
-/
namespace Go.Proofs.YtmplpoccalccoaaGreat
open Go.RowKit

end Go.Proofs.YtmplpoccalccoaaGreat
/-
  The reference's adjoint.
-/
namespace Go.Proofs.YtmplpoccalccoaaGreat
open Go.RowKit

end Go.Proofs.YtmplpoccalccoaaGreat
