/- Texts joined for a claim: DbU, TriB, HcA, HcB, HcC, HcE. -/
import Derived.Test.YtfcdhdkhfdhjfaaDbT
import Derived.Test.YtfcdhdkhfdhjfaaPla
import Derived.Lib.AppendZeros
/-
  The reference's norm and cyclic form.
-/
namespace Go.Proofs.Ytfcdhdkhfdhjfaa
open Go.RowKit

def diagF (p : Int) (st : List Int) : List Int := diagR p st.reverse
theorem diagF_snoc {p g : Int} {st : List Int} : diagF p (st ++ [g]) = diagF p st ++ scaleL p (diagF p st) (p - g) := by
  unfold diagF
  rw [List.reverse_append, List.reverse_singleton, List.singleton_append]; rfl
theorem diagF_len {p : Int} {st : List Int} : (diagF p st).length = sz st.length := by unfold diagF; rw [diagR_len, List.length_reverse]; rfl
theorem diagF_fp {p : Int} {st : List Int} (hp : 2 ≤ p) : Fp p (diagF p st) := diagR_fp hp
theorem sdiag_c {p : Int} {s : Value} {st : List Int} {w : World} (hd : Dok p st) (hs : El w s st) :
    Calls Try.prog 41 #[.agg #[.int .i64 p, s]] w fun e w' => ∃ v, e = .returned v ∧ FrI w' w.heap.size v (diagF p st) ∧ Below w.heap.size w w' := by
  have hp1 := hd.hp.lo
  have hp2 := hd.hp.hi
  have hl3 := hd.hl
  obtain ⟨a, c, rfl, _, _, hs'⟩ := id hs.op
  rcases hs' with rfl | ⟨b, off, rfl, hA⟩
  · rw [show diagF p [] = [1] from rfl]
    go_enter Try.func41, Try.ntmps41
    go_wp2
    refine wp_loop_rounds 1 ?_; rw [rounds_succ]
    go_wp2_with fail
    go_ret
    have ho := OwnI.lit (w := w.alloc (.cells #[.int .i64 p, .slice a ([] : List Int).length c] 32)) (B := w.heap.size) (by simp) [1] (by simp)
    exact ⟨_, rfl, by simpa using ho.fr, (by repeat (first | exact .refl _ _ | apply bwD | apply bwA | (refine bwS ?_ (by first | omega | simp <;> omega) _) | refine bwC ?_ (by assumption)))⟩
  have hW : Below w.heap.size w (w.alloc (.cells #[.int .i64 p, .slice (some ⟨b, off, none⟩) st.length c] 32)) := (by repeat (first | exact .refl _ _ | apply bwD | apply bwA | (refine bwS ?_ (by first | omega | simp <;> omega) _) | refine bwC ?_ (by assumption)))
  have hA := hA.below hW
  have d0 : (w.alloc (.cells #[.int .i64 p, .slice (some ⟨b, off, none⟩) st.length c] 32)).cell? ⟨w.heap.size, 0, none⟩ = some (.int .i64 p) := by simp [go_sem]
  have d1 : (w.alloc (.cells #[.int .i64 p, .slice (some ⟨b, off, none⟩) st.length c] 32)).cell? ⟨w.heap.size, 1, none⟩ = some (.slice (some ⟨b, off, none⟩) st.length c) := by simp [go_sem]
  go_enter Try.func41, Try.ntmps41
  go_wp2
  obtain ⟨W, hWe⟩ : ∃ W, W = w.alloc (.cells #[.int .i64 p, .slice (some ⟨b, off, none⟩) st.length c] 32) := ⟨_, rfl⟩
  have hlen : W.heap.size = w.heap.size + 1 := by rw [hWe]; simp
  rw [← hWe] at hA d0 d1 hW ⊢
  rw [← hlen]
  have HW := Lib.hid hWe; have HL := Lib.hid hlen; clear hWe hlen
  go_loopw [3, 4] (fun o i wr => ∃ k g cap : Nat, k ≤ st.length ∧ i = .int .i64 k ∧ o = .slice (some ⟨g, 0, none⟩) (sz k) cap ∧ OwnI wr W.heap.size g (sz k) cap (diagF p (st.take k)) ∧ Below W.heap.size W wr) (fun _ i _ => st.length - (intOf i).toNat)
  case atStart => exact ⟨0, _, _, Nat.zero_le _, rfl, rfl, OwnI.lit (Nat.le_refl _) [1] (by simp), (by repeat (first | exact .refl _ _ | apply bwD | apply bwA | (refine bwS ?_ (by first | omega | simp <;> omega) _) | refine bwC ?_ (by assumption)))⟩
  case round =>
    obtain ⟨k, g, cap, hk, rfl, rfl, hown, hb⟩ := hrel
    have g0 := kept hb d0
    have g1 := kept hb d1
    by_cases hlt : k < st.length
    · obtain ⟨z, hz, hc, ht⟩ := (hA.below hb).get hlt
      have hzb := hd.hs z hz
      have hsn := diagF_snoc (p := p) (g := z) (st := st.take k)
      rw [← ht] at hsn
      have hszk : sz (k + 1) = sz k + sz k := by unfold sz; rw [Nat.pow_succ]; omega
      have hk2 : sz k ≤ 8 := Nat.le_trans (Nat.pow_le_pow_right (by decide) (show k ≤ 3 by omega)) (by decide)
      have hk1 : 0 < sz k := Nat.pow_pos (by decide)
      have hbd : Below wr.heap.size wr wr.drew := (by repeat (first | exact .refl _ _ | apply bwD | apply bwA | (refine bwS ?_ (by first | omega | simp <;> omega) _) | refine bwC ?_ (by assumption)))
      have hown := hown.below hbd
      have hfp := diagF_fp (p := p) (st := st.take k) (by omega)
      have H := Lib.hid (And.intro hsn (And.intro hszk (And.intro ht hown.len))); clear hsn hszk ht
      go_wp2
      refine region_flow [(false, [(0, 0), (1, 0), (2, 1), (3, 0), (4, 1), (5, 0), (6, 1), (7, 0), (8, 0), (9, 1), (10, 0), (11, 0), (12, 4), (13, 4), (14, 0)])] (by kernel_rfl) ?_
      refine norm_K fun K hK => ?_
      change wpList _ _ _ [_, _, _, _, _, _, _, _, _, _, _, _, _, _, _] _ _
      go_wp2_with fail
      refine (sscale_c (by omega) (by omega) (by omega) (by omega) hown.sl (hfp.sm (by omega) (by omega)) (by have := H.out.2.2.2; omega)).mono ?_; rintro e w2 ⟨v, rfl, ⟨g2, cap2, rfl, hv⟩, hb2⟩
      have hown := hown.below hb2
      rw [scaleL_len, H.out.2.2.2] at hv ⊢
      have hbw : Below W.heap.size W w2 := bwC hb (bwC hbd hb2)
      go_wp2_with (at_builtin; refine app_int rfl _ _ rfl w2 W.heap.size g (sz k) cap _ rfl g2 0 (sz k) cap2 _ rfl hown hbw.size hv.at hv.len (by omega) (by omega) ?_; intro g' cap' w' hown' hgg hge)
      have hbw' := blw_grown hbw hgg hown.lt.1
      first | (refine hK _ _ ⟨rfl, ?_⟩; clear hK K) | refine ⟨rfl, ?_⟩
      go_wp2_with fail
      go_roundw
      case rel => exact ⟨k + 1, g', cap', by omega, by go_num, by rw [H.out.2.1], by rw [H.out.2.1, H.out.1]; exact hown', hbw'⟩
      case measure => simp [intOf]; omega
    · obtain rfl : k = st.length := by omega
      rw [take_all (Nat.le_refl _)] at hown
      go_wp2
      go_ret
      exact ⟨_, rfl, (hown.rebase (by have := hown.lt.1; have := hW.size; omega)).fr, bwC hW hb⟩
end Go.Proofs.Ytfcdhdkhfdhjfaa
/-
  The cyclic form of elements of the basis; isometries and skew matrices. No program in sight.
-/
namespace Go.Proofs.Ytfcdhdkhfdhjfaa

theorem dotD_zr : ∀ {d x y : List Int}, Zr x → dotD d x y = 0
  | [], _, _, _ => by simp [dotD]
  | _ :: _, [], _, _ => by simp [dotD]
  | _ :: _, _ :: _, [], _ => by simp [dotD]
  | d :: ds, x :: xs, y :: ys, z => by
    have h0 : x = 0 := z 0
    have h1 : Zr xs := fun j => z (j + 1)
    simp only [dotD, h0, dotD_zr h1, Int.mul_zero, Int.zero_mul, Int.add_zero]
theorem dotD_sup : ∀ {d x y : List Int} {k : Nat}, Sup k x → dotD d x y = d.getD k 0 * x.getD k 0 * y.getD k 0
  | [], _, _, _, _ => by simp [dotD]
  | _ :: _, [], _, _, _ => by simp [dotD]
  | _ :: _, _ :: _, [], _, _ => by simp [dotD]
  | d :: ds, x :: xs, y :: ys, 0, z => by
    have h1 : Zr xs := fun j => z (j + 1) (by omega)
    simp only [dotD, dotD_zr h1, List.getD_cons_zero, Int.add_zero]
  | d :: ds, x :: xs, y :: ys, k + 1, z => by
    have h0 : x = 0 := z 0 (by omega)
    have h1 : Sup k xs := fun j hj => z (j + 1) (by omega)
    simp only [dotD, h0, dotD_sup h1, List.getD_cons_succ, Int.mul_zero, Int.zero_mul, Int.zero_add]
def cycF (p : Int) (st : List Int) (i j k : Nat) : Int := 2 * (mulL p st (mulL p st (oneL (sz st.length) i) (oneL (sz st.length) j)) (oneL (sz st.length) k)).getD 0 0 % p
def basF (p : Int) (st : List Int) (i j : Nat) : Int := (mulL p st (oneL (sz st.length) i) (oneL (sz st.length) j)).getD (i ^^^ j) 0
def formF (p : Int) (st : List Int) (i j k : Nat) : Int := if i ^^^ j = k then 2 * basF p st i j * basF p st k k % p else 0
section
variable {p : Int} {st : List Int} {i j k : Nat}
theorem Ev.unit1 (hp : 2 ≤ p) {n i : Nat} : Ev p n (oneL n i) := ⟨oneL_len, oneL_fp hp⟩
theorem mul_sup {x y : List Int} (hd : Dok p st) (hx : x.length = sz st.length) (hy : y.length = sz st.length) (hi : i < sz st.length) (hj : j < sz st.length) (zx : Sup i x) (zy : Sup j y) : Sup (i ^^^ j) (mulL p st x y) := by
  have hl : st.reverse.length = st.length := List.length_reverse
  unfold mulL
  unfold sz at hx hy hi hj
  exact mulR_sup (by rw [hl]; exact hd.hl) (by rw [hl]; exact hx) (by rw [hl]; exact hy) (by rw [hl]; exact hi) (by rw [hl]; exact hj) zx zy
theorem xor_lt (hi : i < sz st.length) (hj : j < sz st.length) : i ^^^ j < sz st.length := Nat.xor_lt_two_pow hi hj
theorem mul_first {x y : List Int} (hp : 2 ≤ p) (hx : Ev p (sz st.length) x) (hy : Ev p (sz st.length) y) : ∃ q, (mulL p st x y).getD 0 0 = dotD (diagF p st) x (conjL p y) + p * q := by
  have hl : st.reverse.length = st.length := List.length_reverse
  obtain ⟨q, hq⟩ := mulR_first hp (rs := st.reverse) (x := x) (y := conjL p y) (by rw [hl]; exact hx.1) (by rw [hl, conjL_len]; exact hy.1) hx.2 (hy.conj (by omega)).2
  rw [conj_conj hy.2] at hq
  exact ⟨q, hq⟩
theorem cyc_form (hd : Dok p st) (hi : i < sz st.length) (hj : j < sz st.length) (hk : k < sz st.length) : cycF p st i j k = formF p st i j k := by
  have hp1 := hd.hp.lo
  have e := fun i => Ev.unit1 (p := p) (n := sz st.length) (i := i) (by omega)
  have ex := mulL_ev (p := p) (st := st) (by omega) (e i) (e j)
  have zx := mul_sup hd (e i).1 (e j).1 hi hj one_sup one_sup
  obtain ⟨q, hq⟩ := mul_first (st := st) (by omega) ex (e k)
  obtain ⟨q2, hq2⟩ := mul_first (st := st) (by omega) (e k) (e k)
  rw [dotD_sup zx] at hq
  rw [dotD_sup one_sup, one_at, if_pos ⟨rfl, hk⟩, Int.mul_one] at hq2
  unfold cycF formF
  rw [hq]
  by_cases h : i ^^^ j = k
  · rw [if_pos h]
    subst h
    have hb : basF p st (i ^^^ j) (i ^^^ j) = (mulL p st (oneL (sz st.length) (i ^^^ j)) (oneL (sz st.length) (i ^^^ j))).getD 0 0 := by unfold basF; rw [Nat.xor_self]
    have hb2 : (mulL p st (oneL (sz st.length) i) (oneL (sz st.length) j)).getD (i ^^^ j) 0 = basF p st i j := rfl
    rw [hb, hq2, hb2]
    generalize (diagF p st).getD (i ^^^ j) 0 = d
    generalize (conjL p (oneL (sz st.length) (i ^^^ j))).getD (i ^^^ j) 0 = u
    generalize basF p st i j = b
    have e1 : 2 * (d * b * u + p * q) = 2 * b * (d * u) + p * (2 * q) := by grind
    have e2 : 2 * b * (d * u + p * q2) = 2 * b * (d * u) + p * (2 * b * q2) := by grind
    rw [e1, e2, Int.add_mul_emod_self_left, Int.add_mul_emod_self_left]
  · rw [if_neg h]
    have hz : (conjL p (oneL (sz st.length) k)).getD (i ^^^ j) 0 = 0 := one_sup.conj _ h
    rw [hz, Int.mul_zero, Int.zero_add, show 2 * (p * q) = p * (2 * q) by grind, Int.mul_emod_right]
theorem basF_fp (hd : Dok p st) : 0 ≤ basF p st i j ∧ basF p st i j < p := by
  have hp1 := hd.hp.lo
  exact (mulL_ev (p := p) (st := st) (by omega) (Ev.unit1 (by omega)) (Ev.unit1 (by omega))).2.g0 (by omega) _
theorem formF_fp (hd : Dok p st) : 0 ≤ formF p st i j k ∧ formF p st i j k < p := by
  have hp1 := hd.hp.lo
  unfold formF
  split
  · exact mod_fp (by omega)
  · omega
theorem diag_one (hd : Dok p st) (hi : i < sz st.length) : normL p st (oneL (sz st.length) i) = (diagF p st).getD i 0 := by
  have hp1 := hd.hp.lo
  rw [norm_diag (by omega) (Ev.unit1 (by omega)), dotD_sup one_sup, one_at, if_pos ⟨rfl, hi⟩, Int.mul_one, Int.mul_one]
  have h := (diagF_fp (p := p) (st := st) (by omega)).g0 (by omega) i
  exact Int.emod_eq_of_lt h.1 h.2
end
/-! ### Columns, isometries, skew matrices -/
def matB (p : Int) (n : Nat) (M : List (List Int)) : Bool := decide (M.length = n) && M.all (isE p n)
theorem matB_iff {p : Int} {n : Nat} {M : List (List Int)} : matB p n M = true ↔ M.length = n ∧ ∀ r ∈ M, Ev p n r := by
  unfold matB Ev
  simp [isE_iff]
def skewB (p : Int) (dg : List Int) (M : List (List Int)) : Bool :=
  (List.range M.length).all fun i => (List.range (i + 1)).all fun k => ((M.getD i []).getD k 0 * dg.getD i 0 + (M.getD k []).getD i 0 * dg.getD k 0) % p == 0
def skewK (p : Int) (dg : List Int) (M : List (List Int)) : Bool :=
  (List.range M.length).all fun i => (List.range M.length).all fun k => ((M.getD i []).getD k 0 * dg.getD i 0 + (M.getD k []).getD i 0 * dg.getD k 0) % p == 0
theorem tri_all {n : Nat} {f : Nat → Nat → Bool} (h : ∀ i k, f i k = f k i) : ((List.range n).all fun i => (List.range n).all (f i)) = (List.range n).all fun i => (List.range (i + 1)).all (f i) := by
  rw [Bool.eq_iff_iff]
  simp only [List.all_eq_true, List.mem_range]
  constructor
  · intro a i hi k hk
    exact a i hi k (by omega)
  · intro a i hi k hk
    by_cases e : k ≤ i
    · exact a i hi k (by omega)
    · rw [h]; exact a k hk i (by omega)
theorem skew_eq {p : Int} {dg : List Int} {M : List (List Int)} : skewK p dg M = skewB p dg M := by
  unfold skewK skewB
  refine tri_all fun i k => ?_
  rw [Int.add_comm]
end Go.Proofs.Ytfcdhdkhfdhjfaa
/-
  The checks of hermitian matrices: the program's.
-/
namespace Go.Proofs.Ytfcdhdkhfdhjfaa
open Go.RowKit

structure Hsz (X : Her) : Prop where
  h1 : X.dg.length ≤ 1048576
  h2 : X.up.length ≤ 1048576
  h3 : ∀ xs ∈ X.up, xs.length ≤ 1048576
def Lh (w : World) (v : Value) (l : List Her) : Prop :=
  ∃ a c, v = .slice a l.length c ∧ (l = [] ∨ ∃ b off, a = some ⟨b, off, none⟩ ∧ ∀ j (h : j < l.length), ∃ d u, w.cell? ⟨b, off + j * 2, none⟩ = some d ∧ w.cell? ⟨b, off + j * 2 + 1, none⟩ = some u ∧ Hv w (.agg #[d, u]) l[j])
theorem Lh.below {w w' : World} {v : Value} {l : List Her} (h : Lh w v l) (hb : Below w.heap.size w w') : Lh w' v l := by
  obtain ⟨a, c, rfl, h⟩ := h
  refine ⟨a, c, rfl, ?_⟩
  rcases h with h | ⟨b, off, ha, h⟩
  · exact .inl h
  · refine .inr ⟨b, off, ha, fun j hj => ?_⟩
    obtain ⟨d, u, h1, h2, h3⟩ := h j hj
    exact ⟨d, u, kept hb h1, kept hb h2, h3.below hb⟩
theorem Lh.get {w : World} {b off : Nat} {l : List Her} (h : ∀ j (h : j < l.length), ∃ d u, w.cell? ⟨b, off + j * 2, none⟩ = some d ∧ w.cell? ⟨b, off + j * 2 + 1, none⟩ = some u ∧ Hv w (.agg #[d, u]) l[j]) {m : Nat} (hm : m < l.length) :
    ∃ d u X, X ∈ l ∧ w.cell? ⟨b, off + m * 2, none⟩ = some d ∧ w.cell? ⟨b, off + m * 2 + 1, none⟩ = some u ∧ Hv w (.agg #[d, u]) X ∧ l.take (m + 1) = l.take m ++ [X] := by
  obtain ⟨d, u, h1, h2, h3⟩ := h m hm
  exact ⟨d, u, l[m], List.getElem_mem hm, h1, h2, h3, List.take_succ_eq_append_getElem hm⟩
theorem Lh.one {w : World} {d u : Value} {X : Her} {b c : Nat} (h : Hv w (.agg #[d, u]) X) (h0 : w.cell? ⟨b, 0, none⟩ = some d) (h1 : w.cell? ⟨b, 1, none⟩ = some u) : Lh w (.slice (some ⟨b, 0, none⟩) 1 c) [X] := by
  refine ⟨_, c, rfl, .inr ⟨b, 0, rfl, fun j hj => ?_⟩⟩
  obtain rfl : j = 0 := by simpa using hj
  exact ⟨d, u, h0, h1, h⟩
theorem Lh.two {w : World} {d u d' u' : Value} {X Y : Her} {b c : Nat} (h : Hv w (.agg #[d, u]) X) (h0 : w.cell? ⟨b, 0, none⟩ = some d) (h1 : w.cell? ⟨b, 1, none⟩ = some u)
    (k : Hv w (.agg #[d', u']) Y) (h2 : w.cell? ⟨b, 2, none⟩ = some d') (h3 : w.cell? ⟨b, 3, none⟩ = some u') : Lh w (.slice (some ⟨b, 0, none⟩) 2 c) [X, Y] := by
  refine ⟨_, c, rfl, .inr ⟨b, 0, rfl, fun j hj => ?_⟩⟩
  simp at hj
  rcases (show j = 0 ∨ j = 1 by omega) with rfl | rfl
  · exact ⟨d, u, h0, h1, h⟩
  · exact ⟨d', u', h2, h3, k⟩
theorem chk3_dok {p : Int} {st : List Int} (h : chk3 p st [] = 0) : Dok p st := by
  unfold chk3 at h
  split at h
  · rename_i h1
    split at h
    · cases h
    · exact Dok.of h1 (by assumption)
  · cases h
end Go.Proofs.Ytfcdhdkhfdhjfaa
/-
  The reference's checks of hermitian matrices.
-/
namespace Go.Proofs.Ytfcdhdkhfdhjfaa
open Go.RowKit

end Go.Proofs.Ytfcdhdkhfdhjfaa
/-
  Hermitian matrices by their parts; traces and determinants.
-/
namespace Go.Proofs.Ytfcdhdkhfdhjfaa
open Go.RowKit

end Go.Proofs.Ytfcdhdkhfdhjfaa
/-
  Hermitian matrices out of lists of numbers, and the lists of their numbers: the program's walks.
-/
namespace Go.Proofs.Ytfcdhdkhfdhjfaa
open Go.RowKit

theorem FrH.mk_ {w1 w2 : World} {B : Nat} {d u : Value} {us : List Value} {dg : List Int} {up : List (List Int)} (h1 : FrI w1 B d dg) (hb : Below w1.heap.size w1 w2) (h2 : FrR w2 w1.heap.size u us up) (hB : B ≤ w1.heap.size) : FrH w2 B (.agg #[d, u]) ⟨dg, up⟩ := by
  refine ⟨d, u, us, rfl, h1.below hb, h2.more hB, fun z hz e => ?_⟩
  obtain ⟨g, hg, hg1, _⟩ : ∃ g, z.ownBlock = some g ∧ w1.heap.size ≤ g ∧ g < w2.heap.size := by
    obtain ⟨_, _, _, _, h4, h5, h6⟩ := h2
    exact RowsA.mem ⟨h4, h5, h6⟩ hz
  obtain ⟨gd, hgd, _, hgd2⟩ := h1.blk
  rw [hg, hgd] at e
  cases e
  omega
theorem FrI.set_ {w : World} {B : Nat} {v : Value} {xs : List Int} (h : FrI w B v xs) {p : Addr} (hp : p.block < B) (u : Value) : FrI (w.setCell p u) B v xs := by
  obtain ⟨g, cap, rfl, h⟩ := h
  exact ⟨g, cap, rfl, h.other (by have := h.lt.1; omega) u⟩
theorem FrR.set_ {w : World} {B : Nat} {v : Value} {us : List Value} {xss : List (List Int)} (h : FrR w B v us xss) {p : Addr} (hp : p.block < B) (u : Value) : FrR (w.setCell p u) B v us xss := by
  obtain ⟨g0, cap0, e0, hB, hs, _⟩ := h.lt
  obtain ⟨g, cap, rfl, h1, h2, h3, h4⟩ := h
  cases e0
  exact ⟨g0, cap0, rfl, ownsRow_of h1 (Below.heap_setCell _ _ _ _ (by omega)) hB, h2, fun j a b => (h3 j a b).set_ hp u, h4⟩
theorem FrH.set_ {w : World} {B : Nat} {v : Value} {X : Her} (h : FrH w B v X) {p : Addr} (hp : p.block < B) (u : Value) : FrH (w.setCell p u) B v X := by
  obtain ⟨d, u', us, rfl, h1, h2, h3⟩ := h
  exact ⟨d, u', us, rfl, h1.set_ hp u, h2.set_ hp u, h3⟩
theorem zero_size (n : Nat) : (Builtin.zeroCells #[Value.int .i64 0] n).size = n := by
  unfold Builtin.zeroCells
  simp
set_option maxRecDepth 100000 in
theorem grow_c {n : Nat} {w : World} (h0 : 0 < n) (hn : n ≤ 1000) :
    Calls Try.prog 54 #[.slice none 0 0, .int .i64 n] w fun e w' => ∃ g cap, e = .returned (.slice (some ⟨g, 0, none⟩) 0 cap) ∧ OwnI w' w.heap.size g 0 cap [] ∧ Below w.heap.size w w' := by
  obtain ⟨i0, hi, hz0, hz1, hz2⟩ := info_parts infoI
  have hrun := fun W => Lib.run_append_nil_zeros (P := Try.prog) W 22 3 22 2 i0 (.int .i64 0) .i64 .i64 Try.underlying22 Try.underlying3 hi hz0 n h0 (by omega) (by omega) (by rw [hz2]; omega)
  have hcap := grownCap_ge w n 0 2
  have hcap2 := grownCap_le_maxLen w n 0 2 (by simp only [maxLen]; omega)
  have hcs := zero_size
  obtain ⟨C, hC⟩ : ∃ C, C = Builtin.zeroCells #[Value.int .i64 0] n ++ Builtin.zeroCells #[Value.int .i64 0] (grownCap w n 0 2 - n) := ⟨_, rfl⟩
  have hsz : C.size = grownCap w n 0 2 := by rw [hC, Array.size_append, hcs, hcs]; omega
  have hr := hrun w
  rw [show (Value.int .i64 0).cells = #[Value.int .i64 0] from rfl, ← hC] at hr
  obtain ⟨k, hk⟩ : ∃ k, k = grownCap w n 0 2 := ⟨_, rfl⟩
  rw [← hk] at hcap hcap2 hsz hr
  simp only [maxLen] at hcap2
  have HR := Lib.hid hr; have HS := Lib.hid hsz
  clear hrun hcs hC hr hk hsz
  go_enter Try.func54, Try.ntmps54
  go_wp2_with (at_builtin; refine Lib.wpList_append_run _ rfl _ _ _ _ rfl (.slice none 0 0) (.int .i64 n) rfl rfl _ _ HR.out ?_)
  go_ret
  exact ⟨_, _, rfl, OwnI.mk_ (cur := C) (Nat.le_refl _) (heap_alloc_new w.drew _) HS.out (by simp) (Nat.zero_le _) (by simp only [maxLen]; omega), (by repeat (first | exact .refl _ _ | apply bwD | apply bwA | (refine bwS ?_ (by first | omega | simp <;> omega) _) | refine bwC ?_ (by assumption)))⟩
end Go.Proofs.Ytfcdhdkhfdhjfaa
