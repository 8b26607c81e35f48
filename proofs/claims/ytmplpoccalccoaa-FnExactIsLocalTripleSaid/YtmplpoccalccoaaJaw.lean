/- Texts joined for a claim: Out, HcL, HcM. -/
import Derived.Test.YtmplpoccalccoaaHcE
/-
  A local matrix in a block of two cells, to which numbers and rows are appended.
-/
namespace Go.Proofs.Ytmplpoccalccoaa
open Go.RowKit

/-- A block of a matrix's two cells. -/
def Bx (w : World) (b : Nat) (x y : Value) : Prop := w.heap[b]? = some (.cells #[x, y] 43 (0, 0))
section
variable {w w' : World} {b : Nat} {x y : Value}
theorem Bx.lt (h : Bx w b x y) : b < w.heap.size := (Array.getElem?_eq_some_iff.1 h).1
theorem Bx.c0 (h : Bx w b x y) : w.cell? ⟨b, 0, none⟩ = some x := by
  unfold Bx at h; simp [World.cell?, h]
theorem Bx.c1 (h : Bx w b x y) : w.cell? ⟨b, 1, none⟩ = some y := by
  unfold Bx at h; simp [World.cell?, h]
theorem Bx.f0 (h : Bx w b x y) : w.frozen? ⟨b, 0, none⟩ = false := frozen_of_row _ _ _ _ _ h
theorem Bx.f1 (h : Bx w b x y) : w.frozen? ⟨b, 1, none⟩ = false := frozen_of_row _ _ _ _ _ h
theorem Bx.bl {B : Nat} (h : Bx w b x y) (hb : Below B w w') (hl : b < B) : Bx w' b x y := by
  unfold Bx at h ⊢
  rw [hb.block b hl]; exact h
theorem Bx.below (h : Bx w b x y) (hb : Below w.heap.size w w') : Bx w' b x y := h.bl hb h.lt
theorem Bx.set0 (h : Bx w b x y) (v : Value) : Bx (w.setCell ⟨b, 0, none⟩ v) b v y := heap_setCell_same _ _ _ _ _ _ h
theorem Bx.set1 (h : Bx w b x y) (v : Value) : Bx (w.setCell ⟨b, 1, none⟩ v) b x v := heap_setCell_same _ _ _ _ _ _ h
theorem Bx.far (h : Bx w b x y) {p : Addr} (hp : b ≠ p.block) (v : Value) : Bx (w.setCell p v) b x y := by
  unfold Bx at h ⊢
  rw [Below.heap_setCell _ _ _ _ hp]; exact h
end
section
variable {w : World} {B : Nat} {v : Value} {xs : List Int} {us : List Value} {xss : List (List Int)}
theorem ownsRow_set {E : TypeId} {n : Nat} {zs : List Value} (h : w.ownsRow B E 1 v n zs) {p : Addr} (hp : p.block < B) (u : Value) : (w.setCell p u).ownsRow B E 1 v n zs := by
  cases hv : v.ownBlock with
  | none =>
    refine ⟨h.1, ?_⟩
    rcases h.2 with h2 | ⟨g', cap', cur, rfl, _⟩
    · exact .inl h2
    · cases hv
  | some g =>
    refine ⟨h.1, ?_⟩
    rcases h.2 with h2 | ⟨g', cap', cur, rfl, h3, hh, h4⟩
    · exact .inl h2
    · exact .inr ⟨g', cap', cur, rfl, h3, by rw [Below.heap_setCell _ _ _ _ (by omega)]; exact hh, h4⟩
theorem OwN.set_ (h : OwN w B v xs) {p : Addr} (hp : p.block < B) (u : Value) : OwN (w.setCell p u) B v xs := ownsRow_set h hp u
theorem OwV.set_ (h : OwV w B v us) {p : Addr} (hp : p.block < B) (u : Value) : OwV (w.setCell p u) B v us := ownsRow_set h hp u
theorem RowsA.set_ (h : RowsA w B us xss) {p : Addr} (hp : p.block < B) (u : Value) : RowsA (w.setCell p u) B us xss := ⟨h.1, fun j a b => (h.2.1 j a b).set_ hp u, h.2.2⟩
end
structure Out (w : World) (N : Nat) (dv uv : Value) (us : List Value) (dg : List Int) (up : List (List Int)) : Prop where
  bx : Bx w N dv uv
  od : OwN w (N + 1) dv dg
  ou : OwV w (N + 1) uv us
  rows : RowsA w (N + 1) us up
  ne : ∀ z ∈ us, z.ownBlock ≠ dv.ownBlock
section
variable {w w' : World} {N : Nat} {dv uv : Value} {us : List Value} {dg : List Int} {up : List (List Int)}
theorem Out.below (h : Out w N dv uv us dg up) (hb : Below w.heap.size w w') : Out w' N dv uv us dg up := ⟨h.bx.below hb, h.od.below hb, h.ou.below hb, h.rows.below hb, h.ne⟩
/-- A row appended, and the slice stored. -/
theorem Out.row {W : World} (h : Out W N dv uv us dg up) {z nv : Value} {xs : List Int} (hz : FrI W (N + 1) z xs) (hne : ∀ y ∈ us, y.ownBlock ≠ z.ownBlock) (hnd : z.ownBlock ≠ dv.ownBlock) (ho : OwV w' (N + 1) nv (us ++ [z])) (hb : Below (N + 1) W w') (hg : W.grownBy w' uv.ownBlock) :
    Out (w'.setCell ⟨N, 1, none⟩ nv) N dv nv (us ++ [z]) dg (up ++ [xs]) := by
  refine ⟨(h.bx.bl hb (Nat.lt_succ_self _)).set1 nv, (h.od.kept hg (apart h.od h.ou)).set_ (Nat.lt_succ_self _) _, ho.set_ (Nat.lt_succ_self _) _, ((h.rows.app h.ou hg).snoc (hz.app h.ou hg) hne).set_ (Nat.lt_succ_self _) _, fun y hy => ?_⟩
  rcases List.mem_append.1 hy with hy | hy
  · exact h.ne y hy
  · rw [List.mem_singleton.1 hy]; exact hnd
/-- A row of a call's own lies apart from what was. -/
theorem Out.fresh (h : Out w N dv uv us dg up) {z : Value} {xs : List Int} (hz : FrI w' w.heap.size z xs) : (∀ y ∈ us, y.ownBlock ≠ z.ownBlock) ∧ z.ownBlock ≠ dv.ownBlock := by
  refine ⟨h.rows.fresh hz, fun e => ?_⟩
  obtain ⟨g, hg, hg1, _⟩ := hz.blk
  rw [hg] at e
  have := (h.od.lt g e.symm).2
  omega
end
end Go.Proofs.Ytmplpoccalccoaa
/-
  The unit matrix.
-/
namespace Go.Proofs.Ytmplpoccalccoaa
open Go.RowKit

/-- A local whose rows are appended to; its diagonal is left as it is. -/
structure OutU (w : World) (N : Nat) (dv uv : Value) (us : List Value) (up : List (List Int)) : Prop where
  bx : Bx w N dv uv
  ou : OwV w (N + 1) uv us
  rows : RowsA w (N + 1) us up
theorem OutU.below {w w' : World} {N : Nat} {dv uv : Value} {us : List Value} {up : List (List Int)} (h : OutU w N dv uv us up) (hb : Below w.heap.size w w') : OutU w' N dv uv us up := ⟨h.bx.below hb, h.ou.below hb, h.rows.below hb⟩
theorem OutU.row {W w' : World} {N : Nat} {dv uv : Value} {us : List Value} {up : List (List Int)} (h : OutU W N dv uv us up) {z nv : Value} {xs : List Int} (hz : FrI W (N + 1) z xs) (hne : ∀ y ∈ us, y.ownBlock ≠ z.ownBlock) (ho : OwV w' (N + 1) nv (us ++ [z])) (hb : Below (N + 1) W w') (hg : W.grownBy w' uv.ownBlock) :
    OutU (w'.setCell ⟨N, 1, none⟩ nv) N dv nv (us ++ [z]) (up ++ [xs]) :=
  ⟨(h.bx.bl hb (Nat.lt_succ_self _)).set1 nv, ho.set_ (Nat.lt_succ_self _) _, ((h.rows.app h.ou hg).snoc (hz.app h.ou hg) hne).set_ (Nat.lt_succ_self _) _⟩
end Go.Proofs.Ytmplpoccalccoaa
/-
  Matrices out of rows of numbers; the program's unit.
-/
namespace Go.Proofs.Ytmplpoccalccoaa
open Go.RowKit

end Go.Proofs.Ytmplpoccalccoaa
