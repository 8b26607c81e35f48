/- Texts joined for a claim: TriB, Out. -/
import Derived.Test.YtmplpoccalccoaaPla
import Derived.Test.YtmplpoccalccoaaJap
import Derived.Test.YtmplpoccalccoaaJat
/-
  The cyclic form of elements of the basis; isometries and skew matrices. No program in sight.
-/
namespace Go.Proofs.Ytmplpoccalccoaa

theorem dotD_zr : ∀ {d x y : List Int}, Zr x → dotD d x y = 0
  | [], _, _, _ => by simp [dotD]
  | _ :: _, [], _, _ => by simp [dotD]
  | _ :: _, _ :: _, [], _ => by simp [dotD]
  | d :: ds, x :: xs, y :: ys, z => by
    have h0 : x = 0 := z 0
    have h1 : Zr xs := fun j => z (j + 1)
    simp only [dotD, h0, dotD_zr h1, Int.mul_zero, Int.zero_mul, Int.add_zero]
theorem dotD_sup : ∀ {d x y : List Int} {k : Nat}, Sup k x → dotD d x y = d.getD k 0 * x.getD k 0 * y.getD k 0
  | [], _, _, _, _ => by simp [dotD]
  | _ :: _, [], _, _, _ => by simp [dotD]
  | _ :: _, _ :: _, [], _, _ => by simp [dotD]
  | d :: ds, x :: xs, y :: ys, 0, z => by
    have h1 : Zr xs := fun j => z (j + 1) (by omega)
    simp only [dotD, dotD_zr h1, List.getD_cons_zero, Int.add_zero]
  | d :: ds, x :: xs, y :: ys, k + 1, z => by
    have h0 : x = 0 := z 0 (by omega)
    have h1 : Sup k xs := fun j hj => z (j + 1) (by omega)
    simp only [dotD, h0, dotD_sup h1, List.getD_cons_succ, Int.mul_zero, Int.zero_mul, Int.zero_add]
def cycF (p : Int) (st : List Int) (i j k : Nat) : Int := 2 * (mulL p st (mulL p st (oneL (sz st.length) i) (oneL (sz st.length) j)) (oneL (sz st.length) k)).getD 0 0 % p
def basF (p : Int) (st : List Int) (i j : Nat) : Int := (mulL p st (oneL (sz st.length) i) (oneL (sz st.length) j)).getD (i ^^^ j) 0
def formF (p : Int) (st : List Int) (i j k : Nat) : Int := if i ^^^ j = k then 2 * basF p st i j * basF p st k k % p else 0
section
variable {p : Int} {st : List Int} {i j k : Nat}
theorem Ev.unit1 (hp : 2 ≤ p) {n i : Nat} : Ev p n (oneL n i) := ⟨oneL_len, oneL_fp hp⟩
theorem mul_sup {x y : List Int} (hd : Dok p st) (hx : x.length = sz st.length) (hy : y.length = sz st.length) (hi : i < sz st.length) (hj : j < sz st.length) (zx : Sup i x) (zy : Sup j y) : Sup (i ^^^ j) (mulL p st x y) := by
  have hl : st.reverse.length = st.length := List.length_reverse
  unfold mulL
  unfold sz at hx hy hi hj
  exact mulR_sup (by rw [hl]; exact hd.hl) (by rw [hl]; exact hx) (by rw [hl]; exact hy) (by rw [hl]; exact hi) (by rw [hl]; exact hj) zx zy
theorem xor_lt (hi : i < sz st.length) (hj : j < sz st.length) : i ^^^ j < sz st.length := Nat.xor_lt_two_pow hi hj
theorem mul_first {x y : List Int} (hp : 2 ≤ p) (hx : Ev p (sz st.length) x) (hy : Ev p (sz st.length) y) : ∃ q, (mulL p st x y).getD 0 0 = dotD (diagF p st) x (conjL p y) + p * q := by
  have hl : st.reverse.length = st.length := List.length_reverse
  obtain ⟨q, hq⟩ := mulR_first hp (rs := st.reverse) (x := x) (y := conjL p y) (by rw [hl]; exact hx.1) (by rw [hl, conjL_len]; exact hy.1) hx.2 (hy.conj (by omega)).2
  rw [conj_conj hy.2] at hq
  exact ⟨q, hq⟩
theorem cyc_form (hd : Dok p st) (hi : i < sz st.length) (hj : j < sz st.length) (hk : k < sz st.length) : cycF p st i j k = formF p st i j k := by
  have hp1 := hd.hp.lo
  have e := fun i => Ev.unit1 (p := p) (n := sz st.length) (i := i) (by omega)
  have ex := mulL_ev (p := p) (st := st) (by omega) (e i) (e j)
  have zx := mul_sup hd (e i).1 (e j).1 hi hj one_sup one_sup
  obtain ⟨q, hq⟩ := mul_first (st := st) (by omega) ex (e k)
  obtain ⟨q2, hq2⟩ := mul_first (st := st) (by omega) (e k) (e k)
  rw [dotD_sup zx] at hq
  rw [dotD_sup one_sup, one_at, if_pos ⟨rfl, hk⟩, Int.mul_one] at hq2
  unfold cycF formF
  rw [hq]
  by_cases h : i ^^^ j = k
  · rw [if_pos h]
    subst h
    have hb : basF p st (i ^^^ j) (i ^^^ j) = (mulL p st (oneL (sz st.length) (i ^^^ j)) (oneL (sz st.length) (i ^^^ j))).getD 0 0 := by unfold basF; rw [Nat.xor_self]
    have hb2 : (mulL p st (oneL (sz st.length) i) (oneL (sz st.length) j)).getD (i ^^^ j) 0 = basF p st i j := rfl
    rw [hb, hq2, hb2]
    generalize (diagF p st).getD (i ^^^ j) 0 = d
    generalize (conjL p (oneL (sz st.length) (i ^^^ j))).getD (i ^^^ j) 0 = u
    generalize basF p st i j = b
    have e1 : 2 * (d * b * u + p * q) = 2 * b * (d * u) + p * (2 * q) := by grind
    have e2 : 2 * b * (d * u + p * q2) = 2 * b * (d * u) + p * (2 * b * q2) := by grind
    rw [e1, e2, Int.add_mul_emod_self_left, Int.add_mul_emod_self_left]
  · rw [if_neg h]
    have hz : (conjL p (oneL (sz st.length) k)).getD (i ^^^ j) 0 = 0 := one_sup.conj _ h
    rw [hz, Int.mul_zero, Int.zero_add, show 2 * (p * q) = p * (2 * q) by grind, Int.mul_emod_right]
theorem basF_fp (hd : Dok p st) : 0 ≤ basF p st i j ∧ basF p st i j < p := by
  have hp1 := hd.hp.lo
  exact (mulL_ev (p := p) (st := st) (by omega) (Ev.unit1 (by omega)) (Ev.unit1 (by omega))).2.g0 (by omega) _
theorem formF_fp (hd : Dok p st) : 0 ≤ formF p st i j k ∧ formF p st i j k < p := by
  have hp1 := hd.hp.lo
  unfold formF
  split
  · exact mod_fp (by omega)
  · omega
/-- The program's diagonal. -/
theorem diag_one (hd : Dok p st) (hi : i < sz st.length) : normL p st (oneL (sz st.length) i) = (diagF p st).getD i 0 := by
  have hp1 := hd.hp.lo
  rw [norm_diag (by omega) (Ev.unit1 (by omega)), dotD_sup one_sup, one_at, if_pos ⟨rfl, hi⟩, Int.mul_one, Int.mul_one]
  have h := (diagF_fp (p := p) (st := st) (by omega)).g0 (by omega) i
  exact Int.emod_eq_of_lt h.1 h.2
end
/-! ### Columns, isometries, skew matrices -/
def matB (p : Int) (n : Nat) (M : List (List Int)) : Bool := decide (M.length = n) && M.all (isE p n)
end Go.Proofs.Ytmplpoccalccoaa
/-
  A local matrix in a block of two cells, to which numbers and rows are appended.
-/
namespace Go.Proofs.Ytmplpoccalccoaa
open Go.RowKit

/-- A block of a matrix's two cells. -/
def Bx (w : World) (b : Nat) (x y : Value) : Prop := w.heap[b]? = some (.cells #[x, y] 43 (0, 0))
section
variable {w w' : World} {b : Nat} {x y : Value}
theorem Bx.lt (h : Bx w b x y) : b < w.heap.size := (Array.getElem?_eq_some_iff.1 h).1
theorem Bx.c0 (h : Bx w b x y) : w.cell? ⟨b, 0, none⟩ = some x := by
  unfold Bx at h; simp [World.cell?, h]
theorem Bx.c1 (h : Bx w b x y) : w.cell? ⟨b, 1, none⟩ = some y := by
  unfold Bx at h; simp [World.cell?, h]
theorem Bx.f0 (h : Bx w b x y) : w.frozen? ⟨b, 0, none⟩ = false := frozen_of_row _ _ _ _ _ h
theorem Bx.f1 (h : Bx w b x y) : w.frozen? ⟨b, 1, none⟩ = false := frozen_of_row _ _ _ _ _ h
theorem Bx.bl {B : Nat} (h : Bx w b x y) (hb : Below B w w') (hl : b < B) : Bx w' b x y := by
  unfold Bx at h ⊢
  rw [hb.block b hl]; exact h
theorem Bx.below (h : Bx w b x y) (hb : Below w.heap.size w w') : Bx w' b x y := h.bl hb h.lt
theorem Bx.set0 (h : Bx w b x y) (v : Value) : Bx (w.setCell ⟨b, 0, none⟩ v) b v y := heap_setCell_same _ _ _ _ _ _ h
theorem Bx.set1 (h : Bx w b x y) (v : Value) : Bx (w.setCell ⟨b, 1, none⟩ v) b x v := heap_setCell_same _ _ _ _ _ _ h
theorem Bx.far (h : Bx w b x y) {p : Addr} (hp : b ≠ p.block) (v : Value) : Bx (w.setCell p v) b x y := by
  unfold Bx at h ⊢
  rw [Below.heap_setCell _ _ _ _ hp]; exact h
end
section
variable {w : World} {B : Nat} {v : Value} {xs : List Int} {us : List Value} {xss : List (List Int)}
theorem ownsRow_set {E : TypeId} {n : Nat} {zs : List Value} (h : w.ownsRow B E 1 v n zs) {p : Addr} (hp : p.block < B) (u : Value) : (w.setCell p u).ownsRow B E 1 v n zs := by
  cases hv : v.ownBlock with
  | none =>
    refine ⟨h.1, ?_⟩
    rcases h.2 with h2 | ⟨g', cap', cur, rfl, _⟩
    · exact .inl h2
    · cases hv
  | some g =>
    refine ⟨h.1, ?_⟩
    rcases h.2 with h2 | ⟨g', cap', cur, rfl, h3, hh, h4⟩
    · exact .inl h2
    · exact .inr ⟨g', cap', cur, rfl, h3, by rw [Below.heap_setCell _ _ _ _ (by omega)]; exact hh, h4⟩
theorem OwN.set_ (h : OwN w B v xs) {p : Addr} (hp : p.block < B) (u : Value) : OwN (w.setCell p u) B v xs := ownsRow_set h hp u
theorem OwV.set_ (h : OwV w B v us) {p : Addr} (hp : p.block < B) (u : Value) : OwV (w.setCell p u) B v us := ownsRow_set h hp u
theorem RowsA.set_ (h : RowsA w B us xss) {p : Addr} (hp : p.block < B) (u : Value) : RowsA (w.setCell p u) B us xss := ⟨h.1, fun j a b => (h.2.1 j a b).set_ hp u, h.2.2⟩
end
structure Out (w : World) (N : Nat) (dv uv : Value) (us : List Value) (dg : List Int) (up : List (List Int)) : Prop where
  bx : Bx w N dv uv
  od : OwN w (N + 1) dv dg
  ou : OwV w (N + 1) uv us
  rows : RowsA w (N + 1) us up
  ne : ∀ z ∈ us, z.ownBlock ≠ dv.ownBlock
section
variable {w w' : World} {N : Nat} {dv uv : Value} {us : List Value} {dg : List Int} {up : List (List Int)}
theorem Out.start (h : Bx w N (.slice none 0 0) (.slice none 0 0)) : Out w N (.slice none 0 0) (.slice none 0 0) [] [] [] := ⟨h, OwN.nil _ _, OwV.nil _ _, RowsA.nil _ _, fun z hz => by simp at hz⟩
theorem Out.below (h : Out w N dv uv us dg up) (hb : Below w.heap.size w w') : Out w' N dv uv us dg up := ⟨h.bx.below hb, h.od.below hb, h.ou.below hb, h.rows.below hb, h.ne⟩
/-- A row appended, and the slice stored. -/
theorem Out.row {W : World} (h : Out W N dv uv us dg up) {z nv : Value} {xs : List Int} (hz : FrI W (N + 1) z xs) (hne : ∀ y ∈ us, y.ownBlock ≠ z.ownBlock) (hnd : z.ownBlock ≠ dv.ownBlock) (ho : OwV w' (N + 1) nv (us ++ [z])) (hb : Below (N + 1) W w') (hg : W.grownBy w' uv.ownBlock) :
    Out (w'.setCell ⟨N, 1, none⟩ nv) N dv nv (us ++ [z]) dg (up ++ [xs]) := by
  refine ⟨(h.bx.bl hb (Nat.lt_succ_self _)).set1 nv, (h.od.kept hg (apart h.od h.ou)).set_ (Nat.lt_succ_self _) _, ho.set_ (Nat.lt_succ_self _) _, ((h.rows.app h.ou hg).snoc (hz.app h.ou hg) hne).set_ (Nat.lt_succ_self _) _, fun y hy => ?_⟩
  rcases List.mem_append.1 hy with hy | hy
  · exact h.ne y hy
  · rw [List.mem_singleton.1 hy]; exact hnd
/-- A row of a call's own lies apart from what was. -/
theorem Out.fresh (h : Out w N dv uv us dg up) {z : Value} {xs : List Int} (hz : FrI w' w.heap.size z xs) : (∀ y ∈ us, y.ownBlock ≠ z.ownBlock) ∧ z.ownBlock ≠ dv.ownBlock := by
  refine ⟨h.rows.fresh hz, fun e => ?_⟩
  obtain ⟨g, hg, hg1, _⟩ := hz.blk
  rw [hg] at e
  have := (h.od.lt g e.symm).2
  omega
end
end Go.Proofs.Ytmplpoccalccoaa
