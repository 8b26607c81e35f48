/- Texts joined for a claim: DbU, TriB. -/
import Derived.Test.YteaaepbnoiecoaaGreatDbT
import Derived.Test.YteaaepbnoiecoaaGreatJae
namespace Go.Proofs.YteaaepbnoiecoaaGreat
open Go.RowKit
def diagF (p : Int) (st : List Int) : List Int := diagR p st.reverse
theorem diagF_snoc {p g : Int} {st : List Int} : diagF p (st ++ [g]) = diagF p st ++ scaleL p (diagF p st) (p - g) := by
 unfold diagF
 rw [List.reverse_append, List.reverse_singleton, List.singleton_append]; rfl
theorem diagF_len {p : Int} {st : List Int} : (diagF p st).length = sz st.length := by unfold diagF; rw [diagR_len, List.length_reverse]; rfl
theorem diagF_fp {p : Int} {st : List Int} (hp : 2 <= p) : Fp p (diagF p st) := diagR_fp hp
theorem sdiag_c {p : Int} {s : Value} {st : List Int} {w : World} (hd : Dok p st) (hs : El w s st) :
  Calls Tryz.prog 84 #[.agg #[.int .i64 p, s]] w fun e w' => ∃ v, e = .returned v /\ FrI w' w.heap.size v (diagF p st) /\ Below w.heap.size w w' := by
 have hp1 := hd.hp.lo
 have hp2 := hd.hp.hi
 have hl3 := hd.hl
 obtain ⟨a, c, rfl, _, _, hs'⟩ := id hs.op
 rcases hs' with rfl | ⟨b, off, rfl, hA⟩
 ·rw [show diagF p [] = [1] from rfl]
  go_enter Tryz.func84, Tryz.ntmps84
  go_wp2
  refine wp_loop_rounds 1 ?_; rw [rounds_succ]
  go_wp2_with fail
  go_ret
  have ho := OwnI.lit (w := w.alloc (.cells #[.int .i64 p, .slice a ([] : List Int).length c] 26)) (B := w.heap.size) (by simp) [1] (by simp)
  exact ⟨_, rfl, by simpa using ho.fr, bwT⟩
 have hW : Below w.heap.size w (w.alloc (.cells #[.int .i64 p, .slice (some ⟨b, off, none⟩) st.length c] 26)) := bwT
 have hA := hA.below hW
 have d0 : (w.alloc (.cells #[.int .i64 p, .slice (some ⟨b, off, none⟩) st.length c] 26)).cell? ⟨w.heap.size, 0, none⟩ = some (.int .i64 p) := by simp [go_sem]
 have d1 : (w.alloc (.cells #[.int .i64 p, .slice (some ⟨b, off, none⟩) st.length c] 26)).cell? ⟨w.heap.size, 1, none⟩ = some (.slice (some ⟨b, off, none⟩) st.length c) := by simp [go_sem]
 go_enter Tryz.func84, Tryz.ntmps84
 go_wp2
 obtain ⟨W, hWe⟩ : ∃ W, W = w.alloc (.cells #[.int .i64 p, .slice (some ⟨b, off, none⟩) st.length c] 26) := ⟨_, rfl⟩
 have hlen : W.heap.size = w.heap.size + 1 := by rw [hWe]; simp
 rw [<- hWe] at hA d0 d1 hW ⊢
 rw [<- hlen]
 have HW := Lib.hid hWe; have HL := Lib.hid hlen; clear hWe hlen
 go_loopw [3, 4] (fun o i wr => ∃ k g cap : Nat, k <= st.length /\ i = .int .i64 k /\ o = .slice (some ⟨g, 0, none⟩) (sz k) cap /\ OwnI wr W.heap.size g (sz k) cap (diagF p (st.take k)) /\ Below W.heap.size W wr) (fun _ i _ => st.length - (intOf i).toNat)
 case atStart => exact ⟨0, _, _, Nat.zero_le _, rfl, rfl, OwnI.lit (Nat.le_refl _) [1] (by simp), bwT⟩
 case round =>
  obtain ⟨k, g, cap, hk, rfl, rfl, hown, hb⟩ := hrel
  have g0 := kept hb d0
  have g1 := kept hb d1
  by_cases hlt : k < st.length
  ·obtain ⟨z, hz, hc, ht⟩ := (hA.below hb).get hlt
   have hzb := hd.hs z hz
   have hsn := diagF_snoc (p := p) (g := z) (st := st.take k)
   rw [<- ht] at hsn
   have hszk : sz (k + 1) = sz k + sz k := by unfold sz; rw [Nat.pow_succ]; omega
   have hk2 : sz k <= 8 := Nat.le_trans (Nat.pow_le_pow_right (by decide) (show k <= 3 by omega)) (by decide)
   have hk1 : 0 < sz k := Nat.pow_pos (by decide)
   have hbd : Below wr.heap.size wr wr.drew := bwT
   have hown := hown.below hbd
   have hfp := diagF_fp (p := p) (st := st.take k) (by omega)
   have H := Lib.hid (And.intro hsn (And.intro hszk (And.intro ht hown.len))); clear hsn hszk ht
   go_wp2
   refine region_flow [(false, [(0, 0), (1, 0), (2, 1), (3, 0), (4, 1), (5, 0), (6, 1), (7, 0), (8, 0), (9, 1), (10, 0), (11, 0), (12, 4), (13, 4), (14, 0)])] (by kernel_rfl) ?_
   refine norm_K fun K hK => ?_
   change wpList _ _ _ [_, _, _, _, _, _, _, _, _, _, _, _, _, _, _] _ _
   go_wp2_with fail
   refine (sscale_c (by omega) (by omega) (by omega) (by omega) hown.sl (hfp.sm (by omega) (by omega)) (by have := H.out.2.2.2; omega)).mono ?_; rintro e w2 ⟨v, rfl, ⟨g2, cap2, rfl, hv⟩, hb2⟩
   have hown := hown.below hb2
   rw [scaleL_len, H.out.2.2.2] at hv ⊢
   have hbw : Below W.heap.size W w2 := bwC hb (bwC hbd hb2)
   go_wp2_with (at_builtin; refine app_int rfl _ _ rfl w2 W.heap.size g (sz k) cap _ rfl g2 0 (sz k) cap2 _ rfl hown hbw.size hv.at hv.len (by omega) (by omega) ?_; intro g' cap' w' hown' hgg hge)
   have hbw' := blw_grown hbw hgg hown.lt.1
   first | (refine hK _ _ ⟨rfl, ?_⟩; clear hK K) | refine ⟨rfl, ?_⟩
   go_wp2_with fail
   go_roundw
   case rel => exact ⟨k + 1, g', cap', by omega, by go_num, by rw [H.out.2.1], by rw [H.out.2.1, H.out.1]; exact hown', hbw'⟩
   case measure => simp [intOf]; omega
  ·obtain rfl : k = st.length := by omega
   rw [take_all (Nat.le_refl _)] at hown
   go_wp2
   go_ret
   exact ⟨_, rfl, (hown.rebase (by have := hown.lt.1; have := hW.size; omega)).fr, bwC hW hb⟩
theorem dotD_take {d x : List Int} {k : Nat} (h1 : k < d.length) (h2 : k < x.length) : dotD (d.take (k + 1)) (x.take (k + 1)) (x.take (k + 1)) = dotD (d.take k) (x.take k) (x.take k) + d.getD k 0 * x.getD k 0 * x.getD k 0 := by
 rw [List.take_succ_eq_append_getElem h1, List.take_succ_eq_append_getElem h2, dotD_app (by simp; omega) (by simp; omega)]
 simp [dotD, h1, h2]
theorem snorm_c {p : Int} {s x : Value} {st xs : List Int} {w : World} (hd : Dok p st) (hs : El w s st) (hx : El w x xs) (ex : Ev p (sz st.length) xs) :
  Calls Tryz.prog 47 #[.agg #[.int .i64 p, s], x] w fun e w' => e = .returned (.int .i64 (normL p st xs)) /\ Below w.heap.size w w' := by
 have hp1 := hd.hp.lo
 have hp2 := hd.hp.hi
 have hsz := sz_le hd
 rw [norm_diag (by omega) ex, show diagR p st.reverse = diagF p st from rfl]
 have hdl := diagF_len (p := p) (st := st)
 have hdf := diagF_fp (p := p) (st := st) (by omega)
 have hxl := ex.1
 obtain ⟨b, off, c2, rfl, h1, h2, hA⟩ := hx.op1 (by omega)
 obtain ⟨a, c, rfl, _⟩ := id hs.op
 obtain ⟨n, hn⟩ : ∃ n, n = sz st.length := ⟨_, rfl⟩
 rw [<- hn] at hdl hxl hsz
 rw [hxl] at h1 ⊢
 have hev : ∀ i, 0 <= xs.getD i 0 /\ xs.getD i 0 < p := fun i => ex.2.g0 (by omega) i
 have hev2 : ∀ i, 0 <= (diagF p st).getD i 0 /\ (diagF p st).getD i 0 < p := fun i => hdf.g0 (by omega) i
 have HE := Lib.hid (And.intro hev hev2); clear hev hev2
 have HN := Lib.hid (And.intro hn (And.intro hdl hxl)); clear hn hdl hxl hx ex
 go_enter Tryz.func47, Tryz.ntmps47
 have hb0 : Below w.heap.size w (w.alloc (.cells #[.int .i64 p, .slice a st.length c] 26)) := bwT
 have hs := hs.below hb0; have hA := hA.below hb0
 have d0 : (w.alloc (.cells #[.int .i64 p, .slice a st.length c] 26)).cell? ⟨w.heap.size, 0, none⟩ = some (.int .i64 p) := by simp [go_sem]
 have d1 : (w.alloc (.cells #[.int .i64 p, .slice a st.length c] 26)).cell? ⟨w.heap.size, 1, none⟩ = some (.slice a st.length c) := by simp [go_sem]
 go_wp2_with fail
 refine (sdiag_c hd hs).mono ?_; rintro e w1 ⟨v, rfl, ⟨g, cap, rfl, hv⟩, hb1⟩
 have hA := hA.below hb1
 have d0 := kept hb1 d0
 rw [HN.out.2.1] at hv ⊢
 have hW : Below w.heap.size w w1 := bwT
 go_wp2
 go_loopw [6, 7] (fun o i wr => ∃ k : Nat, k <= n /\ i = .int .i64 k /\ o = .int .i64 (dotD ((diagF p st).take k) (xs.take k) (xs.take k) % p) /\ Below w1.heap.size w1 wr) (fun _ i _ => n - (intOf i).toNat)
 case atStart => exact ⟨0, Nat.zero_le _, rfl, by simp [dotD], Below.refl _ _⟩
 case round =>
  obtain ⟨k, hk, rfl, rfl, hb⟩ := hrel
  have g0 := kept hb d0
  have hAr := hA.below hb
  have hvr := hv.below hb
  have hq1 := mod_fp (p := p) (x := dotD ((diagF p st).take k) (xs.take k) (xs.take k)) (by omega)
  by_cases hlt : k < n
  ·have hc := hAr k (by have := HN.out.2.2; omega)
   have hc2 := hvr.hold hlt
   have b1 := HE.out.1 k
   have b2 := HE.out.2 k
   have hst := dotD_take (d := diagF p st) (x := xs) (k := k) (by have := HN.out.2.1; omega) (by have := HN.out.2.2; omega)
   obtain ⟨u, hu⟩ : ∃ u, u = xs.getD k 0 := ⟨_, rfl⟩
   obtain ⟨z, hz⟩ : ∃ z, z = (diagF p st).getD k 0 := ⟨_, rfl⟩
   rw [<- hu] at hc b1 hst
   rw [<- hz] at hc2 b2 hst
   obtain ⟨q, hq⟩ : ∃ q, q = dotD ((diagF p st).take k) (xs.take k) (xs.take k) := ⟨_, rfl⟩
   rw [<- hq] at hst hq1 ⊢
   have m1 := mulb (k := z) (y := u) (A := 13) (B := 13) (by omega) (by omega) (by omega) (by omega)
   have m2 := mulb (k := z * u) (y := u) (A := 169) (B := 13) (by omega) (by omega) (by omega) (by omega)
   have H := Lib.hid hst; clear hst hu hz hq
   go_wp2
   refine region_flow [(false, [(0, 0), (1, 1), (2, 0), (3, 0), (4, 0), (5, 0), (6, 1), (7, 0), (8, 0), (9, 0), (10, 1), (11, 0), (12, 0), (13, 0), (14, 0), (15, 1), (16, 0), (17, 0), (18, 4), (19, 0)])] (by kernel_rfl) ?_
   refine norm_K fun K hK => ?_
   change wpList _ _ _ [_, _, _, _, _, _, _, _, _, _, _, _, _, _, _, _, _, _, _, _] _ _
   go_wp2_with fail
   refine (smod_c (by omega) (by omega)).mono ?_; rintro e w2 ⟨rfl, rfl⟩
   go_wp2_with fail
   first | (refine hK _ _ ⟨rfl, ?_⟩; clear hK K) | refine ⟨rfl, ?_⟩
   go_wp2_with fail
   go_roundw
   case rel => exact ⟨k + 1, by omega, by go_num, by rw [H.out], hb.drew⟩
   case measure => simp [intOf]; omega
  ·obtain rfl : k = n := by omega
   have e1 : (diagF p st).take k = diagF p st := take_all (by have := HN.out.2.1; omega)
   have e2 : xs.take k = xs := take_all (by have := HN.out.2.2; omega)
   have H := Lib.hid (And.intro e1 e2); clear e1 e2
   go_wp2
   go_ret
   exact ⟨by rw [H.out.1, H.out.2]; rfl, bwC hW hb⟩
end Go.Proofs.YteaaepbnoiecoaaGreat
namespace Go.Proofs.YteaaepbnoiecoaaGreat
theorem dotD_zr : ∀ {d x y : List Int}, Zr x -> dotD d x y = 0
 | [], _, _, _ => by simp [dotD]
 | _ :: _, [], _, _ => by simp [dotD]
 | _ :: _, _ :: _, [], _ => by simp [dotD]
 | d :: ds, x :: xs, y :: ys, z => by
  have h0 : x = 0 := z 0
  have h1 : Zr xs := fun j => z (j + 1)
  simp only [dotD, h0, dotD_zr h1, Int.mul_zero, Int.zero_mul, Int.add_zero]
theorem dotD_sup : ∀ {d x y : List Int} {k : Nat}, Sup k x -> dotD d x y = d.getD k 0 * x.getD k 0 * y.getD k 0
 | [], _, _, _, _ => by simp [dotD]
 | _ :: _, [], _, _, _ => by simp [dotD]
 | _ :: _, _ :: _, [], _, _ => by simp [dotD]
 | d :: ds, x :: xs, y :: ys, 0, z => by
  have h1 : Zr xs := fun j => z (j + 1) (by omega)
  simp only [dotD, dotD_zr h1, List.getD_cons_zero, Int.add_zero]
 | d :: ds, x :: xs, y :: ys, k + 1, z => by
  have h0 : x = 0 := z 0 (by omega)
  have h1 : Sup k xs := fun j hj => z (j + 1) (by omega)
  simp only [dotD, h0, dotD_sup h1, List.getD_cons_succ, Int.mul_zero, Int.zero_mul, Int.zero_add]
def cycF (p : Int) (st : List Int) (i j k : Nat) : Int := 2 * (mulL p st (mulL p st (oneL (sz st.length) i) (oneL (sz st.length) j)) (oneL (sz st.length) k)).getD 0 0 % p
def basF (p : Int) (st : List Int) (i j : Nat) : Int := (mulL p st (oneL (sz st.length) i) (oneL (sz st.length) j)).getD (i ^^^ j) 0
def formF (p : Int) (st : List Int) (i j k : Nat) : Int := if i ^^^ j = k then 2 * basF p st i j * basF p st k k % p else 0
section
variable {p : Int} {st : List Int} {i j k : Nat}
theorem Ev.unit1 (hp : 2 <= p) {n i : Nat} : Ev p n (oneL n i) := ⟨oneL_len, oneL_fp hp⟩
theorem mul_sup {x y : List Int} (hd : Dok p st) (hx : x.length = sz st.length) (hy : y.length = sz st.length) (hi : i < sz st.length) (hj : j < sz st.length) (zx : Sup i x) (zy : Sup j y) : Sup (i ^^^ j) (mulL p st x y) := by
 have hl : st.reverse.length = st.length := List.length_reverse
 unfold mulL
 unfold sz at hx hy hi hj
 exact mulR_sup (by rw [hl]; exact hd.hl) (by rw [hl]; exact hx) (by rw [hl]; exact hy) (by rw [hl]; exact hi) (by rw [hl]; exact hj) zx zy
theorem xor_lt (hi : i < sz st.length) (hj : j < sz st.length) : i ^^^ j < sz st.length := Nat.xor_lt_two_pow hi hj
theorem mul_first {x y : List Int} (hp : 2 <= p) (hx : Ev p (sz st.length) x) (hy : Ev p (sz st.length) y) : ∃ q, (mulL p st x y).getD 0 0 = dotD (diagF p st) x (conjL p y) + p * q := by
 have hl : st.reverse.length = st.length := List.length_reverse
 obtain ⟨q, hq⟩ := mulR_first hp (rs := st.reverse) (x := x) (y := conjL p y) (by rw [hl]; exact hx.1) (by rw [hl, conjL_len]; exact hy.1) hx.2 (hy.conj (by omega)).2
 rw [conj_conj hy.2] at hq
 exact ⟨q, hq⟩
theorem cyc_form (hd : Dok p st) (hi : i < sz st.length) (hj : j < sz st.length) (hk : k < sz st.length) : cycF p st i j k = formF p st i j k := by
 have hp1 := hd.hp.lo
 have e := fun i => Ev.unit1 (p := p) (n := sz st.length) (i := i) (by omega)
 have ex := mulL_ev (p := p) (st := st) (by omega) (e i) (e j)
 have zx := mul_sup hd (e i).1 (e j).1 hi hj one_sup one_sup
 obtain ⟨q, hq⟩ := mul_first (st := st) (by omega) ex (e k)
 obtain ⟨q2, hq2⟩ := mul_first (st := st) (by omega) (e k) (e k)
 rw [dotD_sup zx] at hq
 rw [dotD_sup one_sup, one_at, if_pos ⟨rfl, hk⟩, Int.mul_one] at hq2
 unfold cycF formF
 rw [hq]
 by_cases h : i ^^^ j = k
 ·rw [if_pos h]
  subst h
  have hb : basF p st (i ^^^ j) (i ^^^ j) = (mulL p st (oneL (sz st.length) (i ^^^ j)) (oneL (sz st.length) (i ^^^ j))).getD 0 0 := by unfold basF; rw [Nat.xor_self]
  have hb2 : (mulL p st (oneL (sz st.length) i) (oneL (sz st.length) j)).getD (i ^^^ j) 0 = basF p st i j := rfl
  rw [hb, hq2, hb2]
  generalize (diagF p st).getD (i ^^^ j) 0 = d
  generalize (conjL p (oneL (sz st.length) (i ^^^ j))).getD (i ^^^ j) 0 = u
  generalize basF p st i j = b
  have e1 : 2 * (d * b * u + p * q) = 2 * b * (d * u) + p * (2 * q) := by grind
  have e2 : 2 * b * (d * u + p * q2) = 2 * b * (d * u) + p * (2 * b * q2) := by grind
  rw [e1, e2, Int.add_mul_emod_self_left, Int.add_mul_emod_self_left]
 ·rw [if_neg h]
  have hz : (conjL p (oneL (sz st.length) k)).getD (i ^^^ j) 0 = 0 := one_sup.conj _ h
  rw [hz, Int.mul_zero, Int.zero_add, show 2 * (p * q) = p * (2 * q) by grind, Int.mul_emod_right]
theorem basF_fp (hd : Dok p st) : 0 <= basF p st i j /\ basF p st i j < p := by
 have hp1 := hd.hp.lo
 exact (mulL_ev (p := p) (st := st) (by omega) (Ev.unit1 (by omega)) (Ev.unit1 (by omega))).2.g0 (by omega) _
theorem formF_fp (hd : Dok p st) : 0 <= formF p st i j k /\ formF p st i j k < p := by
 have hp1 := hd.hp.lo
 unfold formF
 split
 ·exact mod_fp (by omega)
 ·omega
theorem diag_one (hd : Dok p st) (hi : i < sz st.length) : normL p st (oneL (sz st.length) i) = (diagF p st).getD i 0 := by
 have hp1 := hd.hp.lo
 rw [norm_diag (by omega) (Ev.unit1 (by omega)), dotD_sup one_sup, one_at, if_pos ⟨rfl, hi⟩, Int.mul_one, Int.mul_one]
 have h := (diagF_fp (p := p) (st := st) (by omega)).g0 (by omega) i
 exact Int.emod_eq_of_lt h.1 h.2
end
/-! ### Columns, isometries, skew matrices -/
def colL (M : List (List Int)) (i : Nat) : List Int := M.map fun r => r.getD i 0
def matB (p : Int) (n : Nat) (M : List (List Int)) : Bool := decide (M.length = n) && M.all (isE p n)
theorem matB_iff {p : Int} {n : Nat} {M : List (List Int)} : matB p n M = true ↔ M.length = n /\ ∀ r ∈ M, Ev p n r := by
 unfold matB Ev
 simp [isE_iff]
theorem colL_at {M : List (List Int)} {i r : Nat} (h : r < M.length) : (colL M i).getD r 0 = M[r].getD i 0 := by
 unfold colL
 rw [List.getD_eq_getElem?_getD, List.getElem?_map, List.getElem?_eq_getElem h]; rfl
theorem colL_ev {p : Int} {n : Nat} {M : List (List Int)} (hp : 1 <= p) (h : matB p n M = true) (i : Nat) : Ev p n (colL M i) := by
 obtain ⟨h1, h2⟩ := matB_iff.1 h
 refine ⟨by unfold colL; rw [List.length_map]; exact h1, fun x hx => ?_⟩
 obtain ⟨r, hr, rfl⟩ := List.mem_map.1 hx
 exact (h2 r hr).2.g0 (by omega) i
def dotK (p : Int) : List Int -> List Int -> List Int -> Int
 | d :: ds, x :: xs, y :: ys => x * y % p * d + dotK p ds xs ys
 | _, _, _ => 0
theorem dotK_mod {p : Int} : ∀ {d x y : List Int}, ∃ q, dotK p d x y = dotD d x y + p * q
 | [], _, _ => ⟨0, by simp [dotK, dotD]⟩
 | _ :: _, [], _ => ⟨0, by simp [dotK, dotD]⟩
 | _ :: _, _ :: _, [] => ⟨0, by simp [dotK, dotD]⟩
 | d :: ds, x :: xs, y :: ys => by
  obtain ⟨q, hq⟩ := dotK_mod (p := p) (d := ds) (x := xs) (y := ys)
  obtain ⟨j, hj⟩ := mod_ex p (x * y)
  exact ⟨j * d + q, by simp only [dotK, dotD]; rw [hq, hj]; grind⟩
def isoB (p : Int) (dg : List Int) (M : List (List Int)) : Bool :=
 (List.range M.length).all fun i => (List.range (i + 1)).all fun k => dotD dg (colL M i) (colL M k) % p == if i = k then dg.getD i 0 else 0
def isoK (p : Int) (dg : List Int) (M : List (List Int)) : Bool :=
 (List.range M.length).all fun i => (List.range M.length).all fun k => (dotK p dg (colL M i) (colL M k) - if i = k then dg.getD i 0 else 0) % p == 0
def skewB (p : Int) (dg : List Int) (M : List (List Int)) : Bool :=
 (List.range M.length).all fun i => (List.range (i + 1)).all fun k => ((M.getD i []).getD k 0 * dg.getD i 0 + (M.getD k []).getD i 0 * dg.getD k 0) % p == 0
theorem tri_all {n : Nat} {f : Nat -> Nat -> Bool} (h : ∀ i k, f i k = f k i) : ((List.range n).all fun i => (List.range n).all (f i)) = (List.range n).all fun i => (List.range (i + 1)).all (f i) := by
 rw [Bool.eq_iff_iff]
 simp only [List.all_eq_true, List.mem_range]
 constructor
 ·intro a i hi k hk
  exact a i hi k (by omega)
 ·intro a i hi k hk
  by_cases e : k <= i
  ·exact a i hi k (by omega)
  ·rw [h]; exact a k hk i (by omega)
theorem sub_z {p a b : Int} (hb : 0 <= b /\ b < p) : ((a - b) % p == 0) = (a % p == b) := by
 rw [Bool.eq_iff_iff]
 simp only [beq_iff_eq]
 constructor
 ·intro h
  have := Int.emod_eq_emod_iff_emod_sub_eq_zero.2 h
  rw [this, Int.emod_eq_of_lt hb.1 hb.2]
 ·intro h
  refine Int.emod_eq_emod_iff_emod_sub_eq_zero.1 ?_
  rw [h, Int.emod_eq_of_lt hb.1 hb.2]
theorem iso_eq {p : Int} {dg : List Int} {M : List (List Int)} (hp : 1 <= p) (h : Fp p dg) : isoK p dg M = isoB p dg M := by
 unfold isoK isoB
 have e : ∀ i k, ((dotK p dg (colL M i) (colL M k) - if i = k then dg.getD i 0 else 0) % p == 0) = (dotD dg (colL M i) (colL M k) % p == if i = k then dg.getD i 0 else 0) := fun i k => by
  obtain ⟨q, hq⟩ := dotK_mod (p := p) (d := dg) (x := colL M i) (y := colL M k)
  have hb : 0 <= (if i = k then dg.getD i 0 else 0) /\ (if i = k then dg.getD i 0 else 0) < p := by
   split
   ·exact h.g0 (by omega) i
   ·omega
  rw [sub_z hb, hq, Int.add_mul_emod_self_left]
 simp only [e]
 refine tri_all fun i k => ?_
 rw [dotD_comm]
 by_cases e : i = k
 ·subst e; rfl
 ·rw [if_neg e, if_neg (fun h => e h.symm)]
end Go.Proofs.YteaaepbnoiecoaaGreat
