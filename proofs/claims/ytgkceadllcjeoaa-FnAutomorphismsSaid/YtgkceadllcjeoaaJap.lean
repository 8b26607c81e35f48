/- Texts joined for a claim: TriB, HcC, HcE, Out, HcL, HcM, HcS, HcD, HcF, HcG, HcI, HcJ, HcQ, HcR, HcT, HcK. -/
import Derived.Test.YtgkceadllcjeoaaPla
import Derived.Test.YtgkceadllcjeoaaDbU
import Derived.Test.YtgkceadllcjeoaaJan
import Derived.Lib.AppendZeros
import Derived.Deep.DeepCutAuto
/-
  The cyclic form of elements of the basis; isometries and skew matrices. No program in sight.
-/
namespace Go.Proofs.Ytgkceadllcjeoaa

theorem dotD_zr : ∀ {d x y : List Int}, Zr x → dotD d x y = 0
  | [], _, _, _ => by simp [dotD]
  | _ :: _, [], _, _ => by simp [dotD]
  | _ :: _, _ :: _, [], _ => by simp [dotD]
  | d :: ds, x :: xs, y :: ys, z => by
    have h0 : x = 0 := z 0
    have h1 : Zr xs := fun j => z (j + 1)
    simp only [dotD, h0, dotD_zr h1, Int.mul_zero, Int.zero_mul, Int.add_zero]
theorem dotD_sup : ∀ {d x y : List Int} {k : Nat}, Sup k x → dotD d x y = d.getD k 0 * x.getD k 0 * y.getD k 0
  | [], _, _, _, _ => by simp [dotD]
  | _ :: _, [], _, _, _ => by simp [dotD]
  | _ :: _, _ :: _, [], _, _ => by simp [dotD]
  | d :: ds, x :: xs, y :: ys, 0, z => by
    have h1 : Zr xs := fun j => z (j + 1) (by omega)
    simp only [dotD, dotD_zr h1, List.getD_cons_zero, Int.add_zero]
  | d :: ds, x :: xs, y :: ys, k + 1, z => by
    have h0 : x = 0 := z 0 (by omega)
    have h1 : Sup k xs := fun j hj => z (j + 1) (by omega)
    simp only [dotD, h0, dotD_sup h1, List.getD_cons_succ, Int.mul_zero, Int.zero_mul, Int.zero_add]
def basF (p : Int) (st : List Int) (i j : Nat) : Int := (mulL p st (oneL (sz st.length) i) (oneL (sz st.length) j)).getD (i ^^^ j) 0
section
variable {p : Int} {st : List Int} {i j k : Nat}
theorem Ev.unit1 (hp : 2 ≤ p) {n i : Nat} : Ev p n (oneL n i) := ⟨oneL_len, oneL_fp hp⟩
theorem mul_sup {x y : List Int} (hd : Dok p st) (hx : x.length = sz st.length) (hy : y.length = sz st.length) (hi : i < sz st.length) (hj : j < sz st.length) (zx : Sup i x) (zy : Sup j y) : Sup (i ^^^ j) (mulL p st x y) := by
  have hl : st.reverse.length = st.length := List.length_reverse
  unfold mulL
  unfold sz at hx hy hi hj
  exact mulR_sup (by rw [hl]; exact hd.hl) (by rw [hl]; exact hx) (by rw [hl]; exact hy) (by rw [hl]; exact hi) (by rw [hl]; exact hj) zx zy
theorem xor_lt (hi : i < sz st.length) (hj : j < sz st.length) : i ^^^ j < sz st.length := Nat.xor_lt_two_pow hi hj
theorem basF_fp (hd : Dok p st) : 0 ≤ basF p st i j ∧ basF p st i j < p := by
  have hp1 := hd.hp.lo
  exact (mulL_ev (p := p) (st := st) (by omega) (Ev.unit1 (by omega)) (Ev.unit1 (by omega))).2.g0 (by omega) _
theorem diag_one (hd : Dok p st) (hi : i < sz st.length) : normL p st (oneL (sz st.length) i) = (diagF p st).getD i 0 := by
  have hp1 := hd.hp.lo
  rw [norm_diag (by omega) (Ev.unit1 (by omega)), dotD_sup one_sup, one_at, if_pos ⟨rfl, hi⟩, Int.mul_one, Int.mul_one]
  have h := (diagF_fp (p := p) (st := st) (by omega)).g0 (by omega) i
  exact Int.emod_eq_of_lt h.1 h.2
end
/-! ### Columns, isometries, skew matrices -/
def colL (M : List (List Int)) (i : Nat) : List Int := M.map fun r => r.getD i 0
def matB (p : Int) (n : Nat) (M : List (List Int)) : Bool := decide (M.length = n) && M.all (isE p n)
theorem matB_iff {p : Int} {n : Nat} {M : List (List Int)} : matB p n M = true ↔ M.length = n ∧ ∀ r ∈ M, Ev p n r := by
  unfold matB Ev
  simp [isE_iff]
theorem colL_at {M : List (List Int)} {i r : Nat} (h : r < M.length) : (colL M i).getD r 0 = M[r].getD i 0 := by
  unfold colL
  rw [List.getD_eq_getElem?_getD, List.getElem?_map, List.getElem?_eq_getElem h]; rfl
theorem colL_ev {p : Int} {n : Nat} {M : List (List Int)} (hp : 1 ≤ p) (h : matB p n M = true) (i : Nat) : Ev p n (colL M i) := by
  obtain ⟨h1, h2⟩ := matB_iff.1 h
  refine ⟨by unfold colL; rw [List.length_map]; exact h1, fun x hx => ?_⟩
  obtain ⟨r, hr, rfl⟩ := List.mem_map.1 hx
  exact (h2 r hr).2.g0 (by omega) i
def dotK (p : Int) : List Int → List Int → List Int → Int
  | d :: ds, x :: xs, y :: ys => x * y % p * d + dotK p ds xs ys
  | _, _, _ => 0
theorem dotK_mod {p : Int} : ∀ {d x y : List Int}, ∃ q, dotK p d x y = dotD d x y + p * q
  | [], _, _ => ⟨0, by simp [dotK, dotD]⟩
  | _ :: _, [], _ => ⟨0, by simp [dotK, dotD]⟩
  | _ :: _, _ :: _, [] => ⟨0, by simp [dotK, dotD]⟩
  | d :: ds, x :: xs, y :: ys => by
    obtain ⟨q, hq⟩ := dotK_mod (p := p) (d := ds) (x := xs) (y := ys)
    obtain ⟨j, hj⟩ := mod_ex p (x * y)
    exact ⟨j * d + q, by simp only [dotK, dotD]; rw [hq, hj]; grind⟩
def isoK (p : Int) (dg : List Int) (M : List (List Int)) : Bool :=
  (List.range M.length).all fun i => (List.range M.length).all fun k => (dotK p dg (colL M i) (colL M k) - if i = k then dg.getD i 0 else 0) % p == 0
end Go.Proofs.Ytgkceadllcjeoaa
/-
  Hermitian matrices by their parts; traces and determinants.
-/
namespace Go.Proofs.Ytgkceadllcjeoaa
open Go.RowKit

end Go.Proofs.Ytgkceadllcjeoaa
/-
  Hermitian matrices out of lists of numbers, and the lists of their numbers: the program's walks.
-/
namespace Go.Proofs.Ytgkceadllcjeoaa
open Go.RowKit

theorem FrH.mk_ {w1 w2 : World} {B : Nat} {d u : Value} {us : List Value} {dg : List Int} {up : List (List Int)} (h1 : FrI w1 B d dg) (hb : Below w1.heap.size w1 w2) (h2 : FrR w2 w1.heap.size u us up) (hB : B ≤ w1.heap.size) : FrH w2 B (.agg #[d, u]) ⟨dg, up⟩ := by
  refine ⟨d, u, us, rfl, h1.below hb, h2.more hB, fun z hz e => ?_⟩
  obtain ⟨g, hg, hg1, _⟩ : ∃ g, z.ownBlock = some g ∧ w1.heap.size ≤ g ∧ g < w2.heap.size := by
    obtain ⟨_, _, _, _, h4, h5, h6⟩ := h2
    exact RowsA.mem ⟨h4, h5, h6⟩ hz
  obtain ⟨gd, hgd, _, hgd2⟩ := h1.blk
  rw [hg, hgd] at e
  cases e
  omega
theorem FrI.set_ {w : World} {B : Nat} {v : Value} {xs : List Int} (h : FrI w B v xs) {p : Addr} (hp : p.block < B) (u : Value) : FrI (w.setCell p u) B v xs := by
  obtain ⟨g, cap, rfl, h⟩ := h
  exact ⟨g, cap, rfl, h.other (by have := h.lt.1; omega) u⟩
theorem FrR.set_ {w : World} {B : Nat} {v : Value} {us : List Value} {xss : List (List Int)} (h : FrR w B v us xss) {p : Addr} (hp : p.block < B) (u : Value) : FrR (w.setCell p u) B v us xss := by
  obtain ⟨g0, cap0, e0, hB, hs, _⟩ := h.lt
  obtain ⟨g, cap, rfl, h1, h2, h3, h4⟩ := h
  cases e0
  exact ⟨g0, cap0, rfl, ownsRow_of h1 (Below.heap_setCell _ _ _ _ (by omega)) hB, h2, fun j a b => (h3 j a b).set_ hp u, h4⟩
theorem FrH.set_ {w : World} {B : Nat} {v : Value} {X : Her} (h : FrH w B v X) {p : Addr} (hp : p.block < B) (u : Value) : FrH (w.setCell p u) B v X := by
  obtain ⟨d, u', us, rfl, h1, h2, h3⟩ := h
  exact ⟨d, u', us, rfl, h1.set_ hp u, h2.set_ hp u, h3⟩
end Go.Proofs.Ytgkceadllcjeoaa
/-
  A local matrix in a block of two cells, to which numbers and rows are appended.
-/
namespace Go.Proofs.Ytgkceadllcjeoaa
open Go.RowKit

def Bx (w : World) (b : Nat) (x y : Value) : Prop := w.heap[b]? = some (.cells #[x, y] 7777 (0, 0))
section
variable {w w' : World} {b : Nat} {x y : Value}
theorem Bx.lt (h : Bx w b x y) : b < w.heap.size := (Array.getElem?_eq_some_iff.1 h).1
theorem Bx.c0 (h : Bx w b x y) : w.cell? ⟨b, 0, none⟩ = some x := by
  unfold Bx at h; simp [World.cell?, h]
theorem Bx.c1 (h : Bx w b x y) : w.cell? ⟨b, 1, none⟩ = some y := by
  unfold Bx at h; simp [World.cell?, h]
theorem Bx.f1 (h : Bx w b x y) : w.frozen? ⟨b, 1, none⟩ = false := frozen_of_row _ _ _ _ _ h
theorem Bx.bl {B : Nat} (h : Bx w b x y) (hb : Below B w w') (hl : b < B) : Bx w' b x y := by
  unfold Bx at h ⊢
  rw [hb.block b hl]; exact h
theorem Bx.below (h : Bx w b x y) (hb : Below w.heap.size w w') : Bx w' b x y := h.bl hb h.lt
theorem Bx.set0 (h : Bx w b x y) (v : Value) : Bx (w.setCell ⟨b, 0, none⟩ v) b v y := heap_setCell_same _ _ _ _ _ _ h
theorem Bx.set1 (h : Bx w b x y) (v : Value) : Bx (w.setCell ⟨b, 1, none⟩ v) b x v := heap_setCell_same _ _ _ _ _ _ h
theorem Bx.far (h : Bx w b x y) {p : Addr} (hp : b ≠ p.block) (v : Value) : Bx (w.setCell p v) b x y := by
  unfold Bx at h ⊢
  rw [Below.heap_setCell _ _ _ _ hp]; exact h
end
section
variable {w : World} {B : Nat} {v : Value} {xs : List Int} {us : List Value} {xss : List (List Int)}
theorem ownsRow_set {E : TypeId} {n : Nat} {zs : List Value} (h : w.ownsRow B E 1 v n zs) {p : Addr} (hp : p.block < B) (u : Value) : (w.setCell p u).ownsRow B E 1 v n zs := by
  cases hv : v.ownBlock with
  | none =>
    refine ⟨h.1, ?_⟩
    rcases h.2 with h2 | ⟨g', cap', cur, rfl, _⟩
    · exact .inl h2
    · cases hv
  | some g =>
    refine ⟨h.1, ?_⟩
    rcases h.2 with h2 | ⟨g', cap', cur, rfl, h3, hh, h4⟩
    · exact .inl h2
    · exact .inr ⟨g', cap', cur, rfl, h3, by rw [Below.heap_setCell _ _ _ _ (by omega)]; exact hh, h4⟩
theorem OwN.set_ (h : OwN w B v xs) {p : Addr} (hp : p.block < B) (u : Value) : OwN (w.setCell p u) B v xs := ownsRow_set h hp u
theorem OwV.set_ (h : OwV w B v us) {p : Addr} (hp : p.block < B) (u : Value) : OwV (w.setCell p u) B v us := ownsRow_set h hp u
theorem RowsA.set_ (h : RowsA w B us xss) {p : Addr} (hp : p.block < B) (u : Value) : RowsA (w.setCell p u) B us xss := ⟨h.1, fun j a b => (h.2.1 j a b).set_ hp u, h.2.2⟩
end
structure Out (w : World) (N : Nat) (dv uv : Value) (us : List Value) (dg : List Int) (up : List (List Int)) : Prop where
  bx : Bx w N dv uv
  od : OwN w (N + 1) dv dg
  ou : OwV w (N + 1) uv us
  rows : RowsA w (N + 1) us up
  ne : ∀ z ∈ us, z.ownBlock ≠ dv.ownBlock
section
variable {w w' : World} {N : Nat} {dv uv : Value} {us : List Value} {dg : List Int} {up : List (List Int)}
theorem Out.below (h : Out w N dv uv us dg up) (hb : Below w.heap.size w w') : Out w' N dv uv us dg up := ⟨h.bx.below hb, h.od.below hb, h.ou.below hb, h.rows.below hb, h.ne⟩
theorem Out.row {W : World} (h : Out W N dv uv us dg up) {z nv : Value} {xs : List Int} (hz : FrI W (N + 1) z xs) (hne : ∀ y ∈ us, y.ownBlock ≠ z.ownBlock) (hnd : z.ownBlock ≠ dv.ownBlock) (ho : OwV w' (N + 1) nv (us ++ [z])) (hb : Below (N + 1) W w') (hg : W.grownBy w' uv.ownBlock) :
    Out (w'.setCell ⟨N, 1, none⟩ nv) N dv nv (us ++ [z]) dg (up ++ [xs]) := by
  refine ⟨(h.bx.bl hb (Nat.lt_succ_self _)).set1 nv, (h.od.kept hg (apart h.od h.ou)).set_ (Nat.lt_succ_self _) _, ho.set_ (Nat.lt_succ_self _) _, ((h.rows.app h.ou hg).snoc (hz.app h.ou hg) hne).set_ (Nat.lt_succ_self _) _, fun y hy => ?_⟩
  rcases List.mem_append.1 hy with hy | hy
  · exact h.ne y hy
  · rw [List.mem_singleton.1 hy]; exact hnd
theorem Out.fresh (h : Out w N dv uv us dg up) {z : Value} {xs : List Int} (hz : FrI w' w.heap.size z xs) : (∀ y ∈ us, y.ownBlock ≠ z.ownBlock) ∧ z.ownBlock ≠ dv.ownBlock := by
  refine ⟨h.rows.fresh hz, fun e => ?_⟩
  obtain ⟨g, hg, hg1, _⟩ := hz.blk
  rw [hg] at e
  have := (h.od.lt g e.symm).2
  omega
end
end Go.Proofs.Ytgkceadllcjeoaa
/-
  The unit matrix.
-/
namespace Go.Proofs.Ytgkceadllcjeoaa
open Go.RowKit

structure OutU (w : World) (N : Nat) (dv uv : Value) (us : List Value) (up : List (List Int)) : Prop where
  bx : Bx w N dv uv
  ou : OwV w (N + 1) uv us
  rows : RowsA w (N + 1) us up
theorem OutU.below {w w' : World} {N : Nat} {dv uv : Value} {us : List Value} {up : List (List Int)} (h : OutU w N dv uv us up) (hb : Below w.heap.size w w') : OutU w' N dv uv us up := ⟨h.bx.below hb, h.ou.below hb, h.rows.below hb⟩
theorem OutU.row {W w' : World} {N : Nat} {dv uv : Value} {us : List Value} {up : List (List Int)} (h : OutU W N dv uv us up) {z nv : Value} {xs : List Int} (hz : FrI W (N + 1) z xs) (hne : ∀ y ∈ us, y.ownBlock ≠ z.ownBlock) (ho : OwV w' (N + 1) nv (us ++ [z])) (hb : Below (N + 1) W w') (hg : W.grownBy w' uv.ownBlock) :
    OutU (w'.setCell ⟨N, 1, none⟩ nv) N dv nv (us ++ [z]) (up ++ [xs]) :=
  ⟨(h.bx.bl hb (Nat.lt_succ_self _)).set1 nv, ho.set_ (Nat.lt_succ_self _) _, ((h.rows.app h.ou hg).snoc (hz.app h.ou hg) hne).set_ (Nat.lt_succ_self _) _⟩
end Go.Proofs.Ytgkceadllcjeoaa
/-
  Matrices out of rows of numbers; the program's unit.
-/
namespace Go.Proofs.Ytgkceadllcjeoaa
open Go.RowKit

end Go.Proofs.Ytgkceadllcjeoaa
/-
  The numbers of a matrix in one row, and sums of matrices: the program's.
-/
namespace Go.Proofs.Ytgkceadllcjeoaa
open Go.RowKit

end Go.Proofs.Ytgkceadllcjeoaa
/-
  Determinants of hermitian matrices.
-/
namespace Go.Proofs.Ytgkceadllcjeoaa
open Go.RowKit

end Go.Proofs.Ytgkceadllcjeoaa
/-
  Entries of hermitian matrices and of their products.
-/
namespace Go.Proofs.Ytgkceadllcjeoaa
open Go.RowKit

theorem Ev.plus {p k : Int} {n : Nat} {xs ys : List Int} (hp : 1 ≤ p) (h : Ev p n xs) (h' : Ev p n ys) : Ev p n (plusL p xs ys k) := ⟨by rw [plusL_len (by rw [h.1, h'.1])]; exact h.1, plusL_fp hp⟩
theorem Ev.scale {p k : Int} {n : Nat} {xs : List Int} (hp : 1 ≤ p) (h : Ev p n xs) : Ev p n (scaleL p xs k) := ⟨by rw [scaleL_len]; exact h.1, scaleL_fp hp⟩
theorem Ev.zero {p : Int} {n : Nat} (hp : 1 ≤ p) : Ev p n (List.replicate n 0) := ⟨List.length_replicate, fun x hx => by have := List.eq_of_mem_replicate hx; omega⟩
theorem Ev.one {p : Int} {n i : Nat} (hp : 2 ≤ p) : Ev p n (oneL n i) := ⟨oneL_len, oneL_fp hp⟩
end Go.Proofs.Ytgkceadllcjeoaa
/-
  Entries of products of hermitian matrices.
-/
namespace Go.Proofs.Ytgkceadllcjeoaa
open Go.RowKit

end Go.Proofs.Ytgkceadllcjeoaa
/-
  Jordan products.
-/
namespace Go.Proofs.Ytgkceadllcjeoaa
open Go.RowKit

end Go.Proofs.Ytgkceadllcjeoaa
/-
  The reference's Jordan product, and the pairing.
-/
namespace Go.Proofs.Ytgkceadllcjeoaa
open Go.RowKit

end Go.Proofs.Ytgkceadllcjeoaa
/-
  The adjoint.
-/
namespace Go.Proofs.Ytgkceadllcjeoaa
open Go.RowKit

end Go.Proofs.Ytgkceadllcjeoaa
/-
  The reference's adjoint.
-/
namespace Go.Proofs.Ytgkceadllcjeoaa
open Go.RowKit

end Go.Proofs.Ytgkceadllcjeoaa
/-
  Sums of matrices: the reference's.
-/
namespace Go.Proofs.Ytgkceadllcjeoaa
open Go.RowKit

end Go.Proofs.Ytgkceadllcjeoaa
/-
  The pairing of hermitian matrices.
-/
namespace Go.Proofs.Ytgkceadllcjeoaa
open Go.RowKit

end Go.Proofs.Ytgkceadllcjeoaa
