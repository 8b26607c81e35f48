/-
  The reference's norm and cyclic form.
-/
import Derived.Test.YtgkceadllcjeoaaDbT
namespace Go.Proofs.Ytgkceadllcjeoaa
open Go.RowKit

def diagF (p : Int) (st : List Int) : List Int := diagR p st.reverse
theorem diagF_snoc {p g : Int} {st : List Int} : diagF p (st ++ [g]) = diagF p st ++ scaleL p (diagF p st) (p - g) := by
  unfold diagF
  rw [List.reverse_append, List.reverse_singleton, List.singleton_append]; rfl
theorem diagF_len {p : Int} {st : List Int} : (diagF p st).length = sz st.length := by unfold diagF; rw [diagR_len, List.length_reverse]; rfl
theorem diagF_fp {p : Int} {st : List Int} (hp : 2 ≤ p) : Fp p (diagF p st) := diagR_fp hp
theorem sdiag_c {p : Int} {s : Value} {st : List Int} {w : World} (hd : Dok p st) (hs : El w s st) :
    Calls Try.prog 111 #[.agg #[.int .i64 p, s]] w fun e w' => ∃ v, e = .returned v ∧ FrI w' w.heap.size v (diagF p st) ∧ Below w.heap.size w w' := by
  have hp1 := hd.hp.lo
  have hp2 := hd.hp.hi
  have hl3 := hd.hl
  obtain ⟨a, c, rfl, _, _, hs'⟩ := id hs.op
  rcases hs' with rfl | ⟨b, off, rfl, hA⟩
  · rw [show diagF p [] = [1] from rfl]
    go_enter Try.func111, Try.ntmps111
    go_wp2
    refine wp_loop_rounds 1 ?_; rw [rounds_succ]
    go_wp2_with fail
    go_ret
    have ho := OwnI.lit (w := w.alloc (.cells #[.int .i64 p, .slice a ([] : List Int).length c] 26)) (B := w.heap.size) (by simp) [1] (by simp)
    exact ⟨_, rfl, by simpa using ho.fr, (by repeat (first | exact .refl _ _ | apply bwD | apply bwA | (refine bwS ?_ (by first | omega | simp <;> omega) _) | refine bwC ?_ (by assumption)))⟩
  have hW : Below w.heap.size w (w.alloc (.cells #[.int .i64 p, .slice (some ⟨b, off, none⟩) st.length c] 26)) := (by repeat (first | exact .refl _ _ | apply bwD | apply bwA | (refine bwS ?_ (by first | omega | simp <;> omega) _) | refine bwC ?_ (by assumption)))
  have hA := hA.below hW
  have d0 : (w.alloc (.cells #[.int .i64 p, .slice (some ⟨b, off, none⟩) st.length c] 26)).cell? ⟨w.heap.size, 0, none⟩ = some (.int .i64 p) := by simp [go_sem]
  have d1 : (w.alloc (.cells #[.int .i64 p, .slice (some ⟨b, off, none⟩) st.length c] 26)).cell? ⟨w.heap.size, 1, none⟩ = some (.slice (some ⟨b, off, none⟩) st.length c) := by simp [go_sem]
  go_enter Try.func111, Try.ntmps111
  go_wp2
  obtain ⟨W, hWe⟩ : ∃ W, W = w.alloc (.cells #[.int .i64 p, .slice (some ⟨b, off, none⟩) st.length c] 26) := ⟨_, rfl⟩
  have hlen : W.heap.size = w.heap.size + 1 := by rw [hWe]; simp
  rw [← hWe] at hA d0 d1 hW ⊢
  rw [← hlen]
  have HW := Lib.hid hWe; have HL := Lib.hid hlen; clear hWe hlen
  go_loopw [3, 4] (fun o i wr => ∃ k g cap : Nat, k ≤ st.length ∧ i = .int .i64 k ∧ o = .slice (some ⟨g, 0, none⟩) (sz k) cap ∧ OwnI wr W.heap.size g (sz k) cap (diagF p (st.take k)) ∧ Below W.heap.size W wr) (fun _ i _ => st.length - (intOf i).toNat)
  case atStart => exact ⟨0, _, _, Nat.zero_le _, rfl, rfl, OwnI.lit (Nat.le_refl _) [1] (by simp), (by repeat (first | exact .refl _ _ | apply bwD | apply bwA | (refine bwS ?_ (by first | omega | simp <;> omega) _) | refine bwC ?_ (by assumption)))⟩
  case round =>
    obtain ⟨k, g, cap, hk, rfl, rfl, hown, hb⟩ := hrel
    have g0 := kept hb d0
    have g1 := kept hb d1
    by_cases hlt : k < st.length
    · obtain ⟨z, hz, hc, ht⟩ := (hA.below hb).get hlt
      have hzb := hd.hs z hz
      have hsn := diagF_snoc (p := p) (g := z) (st := st.take k)
      rw [← ht] at hsn
      have hszk : sz (k + 1) = sz k + sz k := by unfold sz; rw [Nat.pow_succ]; omega
      have hk2 : sz k ≤ 8 := Nat.le_trans (Nat.pow_le_pow_right (by decide) (show k ≤ 3 by omega)) (by decide)
      have hk1 : 0 < sz k := Nat.pow_pos (by decide)
      have hbd : Below wr.heap.size wr wr.drew := (by repeat (first | exact .refl _ _ | apply bwD | apply bwA | (refine bwS ?_ (by first | omega | simp <;> omega) _) | refine bwC ?_ (by assumption)))
      have hown := hown.below hbd
      have hfp := diagF_fp (p := p) (st := st.take k) (by omega)
      have H := Lib.hid (And.intro hsn (And.intro hszk (And.intro ht hown.len))); clear hsn hszk ht
      go_wp2
      refine region_flow [(false, [(0, 0), (1, 0), (2, 1), (3, 0), (4, 1), (5, 0), (6, 1), (7, 0), (8, 0), (9, 1), (10, 0), (11, 0), (12, 4), (13, 4), (14, 0)])] (by kernel_rfl) ?_
      refine norm_K fun K hK => ?_
      change wpList _ _ _ [_, _, _, _, _, _, _, _, _, _, _, _, _, _, _] _ _
      go_wp2_with fail
      refine (sscale_c (by omega) (by omega) (by omega) (by omega) hown.sl (hfp.sm (by omega) (by omega)) (by have := H.out.2.2.2; omega)).mono ?_; rintro e w2 ⟨v, rfl, ⟨g2, cap2, rfl, hv⟩, hb2⟩
      have hown := hown.below hb2
      rw [scaleL_len, H.out.2.2.2] at hv ⊢
      have hbw : Below W.heap.size W w2 := bwC hb (bwC hbd hb2)
      go_wp2_with (at_builtin; refine app_int rfl _ _ rfl w2 W.heap.size g (sz k) cap _ rfl g2 0 (sz k) cap2 _ rfl hown hbw.size hv.at hv.len (by omega) (by omega) ?_; intro g' cap' w' hown' hgg hge)
      have hbw' := blw_grown hbw hgg hown.lt.1
      first | (refine hK _ _ ⟨rfl, ?_⟩; clear hK K) | refine ⟨rfl, ?_⟩
      go_wp2_with fail
      go_roundw
      case rel => exact ⟨k + 1, g', cap', by omega, by go_num, by rw [H.out.2.1], by rw [H.out.2.1, H.out.1]; exact hown', hbw'⟩
      case measure => simp [intOf]; omega
    · obtain rfl : k = st.length := by omega
      rw [take_all (Nat.le_refl _)] at hown
      go_wp2
      go_ret
      exact ⟨_, rfl, (hown.rebase (by have := hown.lt.1; have := hW.size; omega)).fr, bwC hW hb⟩
theorem dotD_take {d x : List Int} {k : Nat} (h1 : k < d.length) (h2 : k < x.length) : dotD (d.take (k + 1)) (x.take (k + 1)) (x.take (k + 1)) = dotD (d.take k) (x.take k) (x.take k) + d.getD k 0 * x.getD k 0 * x.getD k 0 := by
  rw [List.take_succ_eq_append_getElem h1, List.take_succ_eq_append_getElem h2, dotD_app (by simp; omega) (by simp; omega)]
  simp [dotD, h1, h2]
theorem snorm_c {p : Int} {s x : Value} {st xs : List Int} {w : World} (hd : Dok p st) (hs : El w s st) (hx : El w x xs) (ex : Ev p (sz st.length) xs) :
    Calls Try.prog 64 #[.agg #[.int .i64 p, s], x] w fun e w' => e = .returned (.int .i64 (normL p st xs)) ∧ Below w.heap.size w w' := by
  have hp1 := hd.hp.lo
  have hp2 := hd.hp.hi
  have hsz := sz_le hd
  rw [norm_diag (by omega) ex, show diagR p st.reverse = diagF p st from rfl]
  have hdl := diagF_len (p := p) (st := st)
  have hdf := diagF_fp (p := p) (st := st) (by omega)
  have hxl := ex.1
  obtain ⟨b, off, c2, rfl, h1, h2, hA⟩ := hx.op1 (by omega)
  obtain ⟨a, c, rfl, _⟩ := id hs.op
  obtain ⟨n, hn⟩ : ∃ n, n = sz st.length := ⟨_, rfl⟩
  rw [← hn] at hdl hxl hsz
  rw [hxl] at h1 ⊢
  have hev : ∀ i, 0 ≤ xs.getD i 0 ∧ xs.getD i 0 < p := fun i => ex.2.g0 (by omega) i
  have hev2 : ∀ i, 0 ≤ (diagF p st).getD i 0 ∧ (diagF p st).getD i 0 < p := fun i => hdf.g0 (by omega) i
  have HE := Lib.hid (And.intro hev hev2); clear hev hev2
  have HN := Lib.hid (And.intro hn (And.intro hdl hxl)); clear hn hdl hxl hx ex
  go_enter Try.func64, Try.ntmps64
  have hb0 : Below w.heap.size w (w.alloc (.cells #[.int .i64 p, .slice a st.length c] 26)) := (by repeat (first | exact .refl _ _ | apply bwD | apply bwA | (refine bwS ?_ (by first | omega | simp <;> omega) _) | refine bwC ?_ (by assumption)))
  have hs := hs.below hb0; have hA := hA.below hb0
  have d0 : (w.alloc (.cells #[.int .i64 p, .slice a st.length c] 26)).cell? ⟨w.heap.size, 0, none⟩ = some (.int .i64 p) := by simp [go_sem]
  have d1 : (w.alloc (.cells #[.int .i64 p, .slice a st.length c] 26)).cell? ⟨w.heap.size, 1, none⟩ = some (.slice a st.length c) := by simp [go_sem]
  go_wp2_with fail
  refine (sdiag_c hd hs).mono ?_; rintro e w1 ⟨v, rfl, ⟨g, cap, rfl, hv⟩, hb1⟩
  have hA := hA.below hb1
  have d0 := kept hb1 d0
  rw [HN.out.2.1] at hv ⊢
  have hW : Below w.heap.size w w1 := (by repeat (first | exact .refl _ _ | apply bwD | apply bwA | (refine bwS ?_ (by first | omega | simp <;> omega) _) | refine bwC ?_ (by assumption)))
  go_wp2
  go_loopw [6, 7] (fun o i wr => ∃ k : Nat, k ≤ n ∧ i = .int .i64 k ∧ o = .int .i64 (dotD ((diagF p st).take k) (xs.take k) (xs.take k) % p) ∧ Below w1.heap.size w1 wr) (fun _ i _ => n - (intOf i).toNat)
  case atStart => exact ⟨0, Nat.zero_le _, rfl, by simp [dotD], Below.refl _ _⟩
  case round =>
    obtain ⟨k, hk, rfl, rfl, hb⟩ := hrel
    have g0 := kept hb d0
    have hAr := hA.below hb
    have hvr := hv.below hb
    have hq1 := mod_fp (p := p) (x := dotD ((diagF p st).take k) (xs.take k) (xs.take k)) (by omega)
    by_cases hlt : k < n
    · have hc := hAr k (by have := HN.out.2.2; omega)
      have hc2 := hvr.hold hlt
      have b1 := HE.out.1 k
      have b2 := HE.out.2 k
      have hst := dotD_take (d := diagF p st) (x := xs) (k := k) (by have := HN.out.2.1; omega) (by have := HN.out.2.2; omega)
      obtain ⟨u, hu⟩ : ∃ u, u = xs.getD k 0 := ⟨_, rfl⟩
      obtain ⟨z, hz⟩ : ∃ z, z = (diagF p st).getD k 0 := ⟨_, rfl⟩
      rw [← hu] at hc b1 hst
      rw [← hz] at hc2 b2 hst
      obtain ⟨q, hq⟩ : ∃ q, q = dotD ((diagF p st).take k) (xs.take k) (xs.take k) := ⟨_, rfl⟩
      rw [← hq] at hst hq1 ⊢
      have m1 := mulb (k := z) (y := u) (A := 13) (B := 13) (by omega) (by omega) (by omega) (by omega)
      have m2 := mulb (k := z * u) (y := u) (A := 169) (B := 13) (by omega) (by omega) (by omega) (by omega)
      have H := Lib.hid hst; clear hst hu hz hq
      go_wp2
      refine region_flow [(false, [(0, 0), (1, 1), (2, 0), (3, 0), (4, 0), (5, 0), (6, 1), (7, 0), (8, 0), (9, 0), (10, 1), (11, 0), (12, 0), (13, 0), (14, 0), (15, 1), (16, 0), (17, 0), (18, 4), (19, 0)])] (by kernel_rfl) ?_
      refine norm_K fun K hK => ?_
      change wpList _ _ _ [_, _, _, _, _, _, _, _, _, _, _, _, _, _, _, _, _, _, _, _] _ _
      go_wp2_with fail
      refine (smod_c (by omega) (by omega)).mono ?_; rintro e w2 ⟨rfl, rfl⟩
      go_wp2_with fail
      first | (refine hK _ _ ⟨rfl, ?_⟩; clear hK K) | refine ⟨rfl, ?_⟩
      go_wp2_with fail
      go_roundw
      case rel => exact ⟨k + 1, by omega, by go_num, by rw [H.out], hb.drew⟩
      case measure => simp [intOf]; omega
    · obtain rfl : k = n := by omega
      have e1 : (diagF p st).take k = diagF p st := take_all (by have := HN.out.2.1; omega)
      have e2 : xs.take k = xs := take_all (by have := HN.out.2.2; omega)
      have H := Lib.hid (And.intro e1 e2); clear e1 e2
      go_wp2
      go_ret
      exact ⟨by rw [H.out.1, H.out.2]; rfl, bwC hW hb⟩
end Go.Proofs.Ytgkceadllcjeoaa
