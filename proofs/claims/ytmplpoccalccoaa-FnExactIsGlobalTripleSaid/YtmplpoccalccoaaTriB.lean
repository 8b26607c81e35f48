/-
  The cyclic form of elements of the basis; isometries and skew matrices. No program in sight.
-/
import Derived.Test.YtmplpoccalccoaaPla
import Derived.Test.YtmplpoccalccoaaDbU
namespace Go.Proofs.Ytmplpoccalccoaa

theorem dotD_zr : ∀ {d x y : List Int}, Zr x → dotD d x y = 0
  | [], _, _, _ => by simp [dotD]
  | _ :: _, [], _, _ => by simp [dotD]
  | _ :: _, _ :: _, [], _ => by simp [dotD]
  | d :: ds, x :: xs, y :: ys, z => by
    have h0 : x = 0 := z 0
    have h1 : Zr xs := fun j => z (j + 1)
    simp only [dotD, h0, dotD_zr h1, Int.mul_zero, Int.zero_mul, Int.add_zero]
theorem dotD_sup : ∀ {d x y : List Int} {k : Nat}, Sup k x → dotD d x y = d.getD k 0 * x.getD k 0 * y.getD k 0
  | [], _, _, _, _ => by simp [dotD]
  | _ :: _, [], _, _, _ => by simp [dotD]
  | _ :: _, _ :: _, [], _, _ => by simp [dotD]
  | d :: ds, x :: xs, y :: ys, 0, z => by
    have h1 : Zr xs := fun j => z (j + 1) (by omega)
    simp only [dotD, dotD_zr h1, List.getD_cons_zero, Int.add_zero]
  | d :: ds, x :: xs, y :: ys, k + 1, z => by
    have h0 : x = 0 := z 0 (by omega)
    have h1 : Sup k xs := fun j hj => z (j + 1) (by omega)
    simp only [dotD, h0, dotD_sup h1, List.getD_cons_succ, Int.mul_zero, Int.zero_mul, Int.zero_add]
def cycF (p : Int) (st : List Int) (i j k : Nat) : Int := 2 * (mulL p st (mulL p st (oneL (sz st.length) i) (oneL (sz st.length) j)) (oneL (sz st.length) k)).getD 0 0 % p
def basF (p : Int) (st : List Int) (i j : Nat) : Int := (mulL p st (oneL (sz st.length) i) (oneL (sz st.length) j)).getD (i ^^^ j) 0
def formF (p : Int) (st : List Int) (i j k : Nat) : Int := if i ^^^ j = k then 2 * basF p st i j * basF p st k k % p else 0
section
variable {p : Int} {st : List Int} {i j k : Nat}
theorem Ev.unit1 (hp : 2 ≤ p) {n i : Nat} : Ev p n (oneL n i) := ⟨oneL_len, oneL_fp hp⟩
theorem mul_sup {x y : List Int} (hd : Dok p st) (hx : x.length = sz st.length) (hy : y.length = sz st.length) (hi : i < sz st.length) (hj : j < sz st.length) (zx : Sup i x) (zy : Sup j y) : Sup (i ^^^ j) (mulL p st x y) := by
  have hl : st.reverse.length = st.length := List.length_reverse
  unfold mulL
  unfold sz at hx hy hi hj
  exact mulR_sup (by rw [hl]; exact hd.hl) (by rw [hl]; exact hx) (by rw [hl]; exact hy) (by rw [hl]; exact hi) (by rw [hl]; exact hj) zx zy
theorem xor_lt (hi : i < sz st.length) (hj : j < sz st.length) : i ^^^ j < sz st.length := Nat.xor_lt_two_pow hi hj
theorem mul_first {x y : List Int} (hp : 2 ≤ p) (hx : Ev p (sz st.length) x) (hy : Ev p (sz st.length) y) : ∃ q, (mulL p st x y).getD 0 0 = dotD (diagF p st) x (conjL p y) + p * q := by
  have hl : st.reverse.length = st.length := List.length_reverse
  obtain ⟨q, hq⟩ := mulR_first hp (rs := st.reverse) (x := x) (y := conjL p y) (by rw [hl]; exact hx.1) (by rw [hl, conjL_len]; exact hy.1) hx.2 (hy.conj (by omega)).2
  rw [conj_conj hy.2] at hq
  exact ⟨q, hq⟩
theorem cyc_form (hd : Dok p st) (hi : i < sz st.length) (hj : j < sz st.length) (hk : k < sz st.length) : cycF p st i j k = formF p st i j k := by
  have hp1 := hd.hp.lo
  have e := fun i => Ev.unit1 (p := p) (n := sz st.length) (i := i) (by omega)
  have ex := mulL_ev (p := p) (st := st) (by omega) (e i) (e j)
  have zx := mul_sup hd (e i).1 (e j).1 hi hj one_sup one_sup
  obtain ⟨q, hq⟩ := mul_first (st := st) (by omega) ex (e k)
  obtain ⟨q2, hq2⟩ := mul_first (st := st) (by omega) (e k) (e k)
  rw [dotD_sup zx] at hq
  rw [dotD_sup one_sup, one_at, if_pos ⟨rfl, hk⟩, Int.mul_one] at hq2
  unfold cycF formF
  rw [hq]
  by_cases h : i ^^^ j = k
  · rw [if_pos h]
    subst h
    have hb : basF p st (i ^^^ j) (i ^^^ j) = (mulL p st (oneL (sz st.length) (i ^^^ j)) (oneL (sz st.length) (i ^^^ j))).getD 0 0 := by unfold basF; rw [Nat.xor_self]
    have hb2 : (mulL p st (oneL (sz st.length) i) (oneL (sz st.length) j)).getD (i ^^^ j) 0 = basF p st i j := rfl
    rw [hb, hq2, hb2]
    generalize (diagF p st).getD (i ^^^ j) 0 = d
    generalize (conjL p (oneL (sz st.length) (i ^^^ j))).getD (i ^^^ j) 0 = u
    generalize basF p st i j = b
    have e1 : 2 * (d * b * u + p * q) = 2 * b * (d * u) + p * (2 * q) := by grind
    have e2 : 2 * b * (d * u + p * q2) = 2 * b * (d * u) + p * (2 * b * q2) := by grind
    rw [e1, e2, Int.add_mul_emod_self_left, Int.add_mul_emod_self_left]
  · rw [if_neg h]
    have hz : (conjL p (oneL (sz st.length) k)).getD (i ^^^ j) 0 = 0 := one_sup.conj _ h
    rw [hz, Int.mul_zero, Int.zero_add, show 2 * (p * q) = p * (2 * q) by grind, Int.mul_emod_right]
theorem basF_fp (hd : Dok p st) : 0 ≤ basF p st i j ∧ basF p st i j < p := by
  have hp1 := hd.hp.lo
  exact (mulL_ev (p := p) (st := st) (by omega) (Ev.unit1 (by omega)) (Ev.unit1 (by omega))).2.g0 (by omega) _
/-- The program's diagonal. -/
theorem diag_one (hd : Dok p st) (hi : i < sz st.length) : normL p st (oneL (sz st.length) i) = (diagF p st).getD i 0 := by
  have hp1 := hd.hp.lo
  rw [norm_diag (by omega) (Ev.unit1 (by omega)), dotD_sup one_sup, one_at, if_pos ⟨rfl, hi⟩, Int.mul_one, Int.mul_one]
  have h := (diagF_fp (p := p) (st := st) (by omega)).g0 (by omega) i
  exact Int.emod_eq_of_lt h.1 h.2
end
/-! ### Columns, isometries, skew matrices -/
def colL (M : List (List Int)) (i : Nat) : List Int := M.map fun r => r.getD i 0
def matB (p : Int) (n : Nat) (M : List (List Int)) : Bool := decide (M.length = n) && M.all (isE p n)
theorem matB_iff {p : Int} {n : Nat} {M : List (List Int)} : matB p n M = true ↔ M.length = n ∧ ∀ r ∈ M, Ev p n r := by
  unfold matB Ev
  simp [isE_iff]
theorem colL_at {M : List (List Int)} {i r : Nat} (h : r < M.length) : (colL M i).getD r 0 = M[r].getD i 0 := by
  unfold colL
  rw [List.getD_eq_getElem?_getD, List.getElem?_map, List.getElem?_eq_getElem h]; rfl
theorem colL_ev {p : Int} {n : Nat} {M : List (List Int)} (hp : 1 ≤ p) (h : matB p n M = true) (i : Nat) : Ev p n (colL M i) := by
  obtain ⟨h1, h2⟩ := matB_iff.1 h
  refine ⟨by unfold colL; rw [List.length_map]; exact h1, fun x hx => ?_⟩
  obtain ⟨r, hr, rfl⟩ := List.mem_map.1 hx
  exact (h2 r hr).2.g0 (by omega) i
/-- Sums of products of three numbers, as the program adds them. -/
def dotK (p : Int) : List Int → List Int → List Int → Int
  | d :: ds, x :: xs, y :: ys => x * y % p * d + dotK p ds xs ys
  | _, _, _ => 0
theorem dotK_mod {p : Int} : ∀ {d x y : List Int}, ∃ q, dotK p d x y = dotD d x y + p * q
  | [], _, _ => ⟨0, by simp [dotK, dotD]⟩
  | _ :: _, [], _ => ⟨0, by simp [dotK, dotD]⟩
  | _ :: _, _ :: _, [] => ⟨0, by simp [dotK, dotD]⟩
  | d :: ds, x :: xs, y :: ys => by
    obtain ⟨q, hq⟩ := dotK_mod (p := p) (d := ds) (x := xs) (y := ys)
    obtain ⟨j, hj⟩ := mod_ex p (x * y)
    exact ⟨j * d + q, by simp only [dotK, dotD]; rw [hq, hj]; grind⟩
def isoB (p : Int) (dg : List Int) (M : List (List Int)) : Bool :=
  (List.range M.length).all fun i => (List.range (i + 1)).all fun k => dotD dg (colL M i) (colL M k) % p == if i = k then dg.getD i 0 else 0
def isoK (p : Int) (dg : List Int) (M : List (List Int)) : Bool :=
  (List.range M.length).all fun i => (List.range M.length).all fun k => (dotK p dg (colL M i) (colL M k) - if i = k then dg.getD i 0 else 0) % p == 0
theorem tri_all {n : Nat} {f : Nat → Nat → Bool} (h : ∀ i k, f i k = f k i) : ((List.range n).all fun i => (List.range n).all (f i)) = (List.range n).all fun i => (List.range (i + 1)).all (f i) := by
  rw [Bool.eq_iff_iff]
  simp only [List.all_eq_true, List.mem_range]
  constructor
  · intro a i hi k hk
    exact a i hi k (by omega)
  · intro a i hi k hk
    by_cases e : k ≤ i
    · exact a i hi k (by omega)
    · rw [h]; exact a k hk i (by omega)
theorem sub_z {p a b : Int} (hb : 0 ≤ b ∧ b < p) : ((a - b) % p == 0) = (a % p == b) := by
  rw [Bool.eq_iff_iff]
  simp only [beq_iff_eq]
  constructor
  · intro h
    have := Int.emod_eq_emod_iff_emod_sub_eq_zero.2 h
    rw [this, Int.emod_eq_of_lt hb.1 hb.2]
  · intro h
    refine Int.emod_eq_emod_iff_emod_sub_eq_zero.1 ?_
    rw [h, Int.emod_eq_of_lt hb.1 hb.2]
theorem iso_eq {p : Int} {dg : List Int} {M : List (List Int)} (hp : 1 ≤ p) (h : Fp p dg) : isoK p dg M = isoB p dg M := by
  unfold isoK isoB
  have e : ∀ i k, ((dotK p dg (colL M i) (colL M k) - if i = k then dg.getD i 0 else 0) % p == 0) = (dotD dg (colL M i) (colL M k) % p == if i = k then dg.getD i 0 else 0) := fun i k => by
    obtain ⟨q, hq⟩ := dotK_mod (p := p) (d := dg) (x := colL M i) (y := colL M k)
    have hb : 0 ≤ (if i = k then dg.getD i 0 else 0) ∧ (if i = k then dg.getD i 0 else 0) < p := by
      split
      · exact h.g0 (by omega) i
      · omega
    rw [sub_z hb, hq, Int.add_mul_emod_self_left]
  simp only [e]
  refine tri_all fun i k => ?_
  rw [dotD_comm]
  by_cases e : i = k
  · subst e; rfl
  · rw [if_neg e, if_neg (fun h => e h.symm)]
end Go.Proofs.Ytmplpoccalccoaa
