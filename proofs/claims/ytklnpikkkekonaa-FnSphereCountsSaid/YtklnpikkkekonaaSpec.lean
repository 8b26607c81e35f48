/-
  The reference's products, points, weights and places.
-/
import Derived.Test.YtklnpikkkekonaaPoint
namespace Go.Proofs.Ytklnpikkkekonaa
open Go.RowKit

theorem pair_step {p S x y s : Int} : (S % p + x * y % p * s) % p = (S + x * s % p * y) % p := by
  have h1 : (S % p + x * y % p * s) % p = (S + x * y * s) % p := by
    rw [Int.add_emod, Int.emod_emod, Int.mul_emod (x * y % p), Int.emod_emod, ← Int.mul_emod, ← Int.add_emod]
  have h2 : (S + x * s % p * y) % p = (S + x * s * y) % p := by
    rw [Int.add_emod, Int.mul_emod (x * s % p), Int.emod_emod, ← Int.mul_emod, ← Int.add_emod]
  rw [h1, h2]
  congr 2
  rw [Int.mul_assoc, Int.mul_assoc, Int.mul_comm y s]
theorem spair_c {p0 : Int} {x0 x1 x2 : Value} {sq0 xs1 xs2 : List Int} {w : World} (hp : 1 ≤ p0) (hp2 : p0 ≤ 13) (hx0 : Sl w x0 sq0) (hx1 : Sl w x1 xs1) (hx2 : Sl w x2 xs2) (s0 : Fp p0 sq0) (s1 : Fp p0 xs1) (s2 : Fp p0 xs2) (l1 : sq0.length = xs1.length) (l2 : xs2.length = xs1.length) (hn : 1 ≤ sq0.length) (hm : xs1.length ≤ 1000) :
    Calls Try.prog 41 #[.agg #[.int .i64 p0, x0], x1, x2] w fun e w' => e = .returned (.int .i64 (pairL p0 sq0 xs1 xs2)) ∧ Below w.heap.size w w' := by
  obtain ⟨a1, c1, rfl, h1⟩ := hx1
  obtain ⟨a2, c2, rfl, h2⟩ := hx2
  obtain ⟨a0, c0, rfl, h0⟩ := hx0
  rcases h1 with rfl | ⟨b1, o1, rfl, h1⟩
  · simp at l1; simp [l1] at hn
  rcases h2 with rfl | ⟨b2, o2, rfl, h2⟩
  · simp at l2; omega
  rcases h0 with rfl | ⟨b0, o0, rfl, h0⟩
  · simp at hn
  rw [l1, l2]
  have L1 := Lib.hid l1; have L2 := Lib.hid l2; clear l1 l2 hn
  go_enter Try.func41, Try.ntmps41
  go_wp2
  obtain ⟨W, hW⟩ : ∃ W, W = w.alloc (.cells #[.int .i64 p0, .slice (some ⟨b0, o0, none⟩) xs1.length c0] 26) := ⟨_, rfl⟩
  have hbW : Below w.heap.size w W := by rw [hW]; exact (by repeat (first | exact Below.refl _ _ | apply blw_drew | apply blw_alloc | (refine blw_set ?_ (by first | omega | (simp; done) | (simp; omega)) _) | refine below_chain ?_ (by assumption)))
  have d0 : W.cell? ⟨w.heap.size, 0, none⟩ = some (.int .i64 p0) := by rw [hW]; simp [go_sem]
  have d1 : W.cell? ⟨w.heap.size, 1, none⟩ = some (.slice (some ⟨b0, o0, none⟩) xs1.length c0) := by rw [hW]; simp [go_sem]
  have h1 := h1.below hbW
  have h2 := h2.below hbW
  have h0 := h0.below hbW
  rw [← hW]
  clear hW
  go_loopw [7, 8] (fun v i wr => ∃ m : Nat, m ≤ xs1.length ∧ i = .int .i64 m ∧ v = .int .i64 (dotS (wgtL p0 (sq0.take m) (xs1.take m)) (xs2.take m) % p0) ∧ Below W.heap.size W wr)
    (fun _ i _ => xs1.length - (intOf i).toNat)
  case atStart => exact ⟨0, Nat.zero_le _, rfl, by simp [dotS, wgtL], (by repeat (first | exact Below.refl _ _ | apply blw_drew | apply blw_alloc | (refine blw_set ?_ (by first | omega | (simp; done) | (simp; omega)) _) | refine below_chain ?_ (by assumption)))⟩
  case round =>
    obtain ⟨m, hm', rfl, rfl, hb⟩ := hrel
    have d0 := kept hb d0
    have d1 := kept hb d1
    obtain ⟨S, hS⟩ : ∃ S, S = dotS (wgtL p0 (sq0.take m) (xs1.take m)) (xs2.take m) := ⟨_, rfl⟩
    have hSb := mod_fp (p := p0) (x := S) hp
    have HS := Lib.hid hS
    rw [← hS]
    clear hS
    by_cases hlt : m < xs1.length
    · obtain ⟨u, hxm, hcx, htx⟩ := (h1.below hb).get hlt
      obtain ⟨z, hym, hcy, hty⟩ := (h2.below hb).get (m := m) (by rw [L2.out]; exact hlt)
      obtain ⟨s, hsm, hcs, hts⟩ := (h0.below hb).get (m := m) (by rw [L1.out]; exact hlt)
      have b1 := s1 u hxm
      have b2 := s2 z hym
      have b3 := s0 s hsm
      have b4 := mulb (A := 13) (B := 13) (k := u) (y := z) (by omega) (by omega) (by omega) (by omega)
      have b5 : 0 ≤ u * z := Int.mul_nonneg b1.1 b2.1
      have b6 := mod_fp (p := p0) (x := u * z) hp
      have b7 := mulb (A := 13) (B := 13) (k := u * z % p0) (y := s) (by omega) (by omega) (by omega) (by omega)
      have b8 : 0 ≤ u * z % p0 * s := Int.mul_nonneg b6.1 b3.1
      have H := Lib.hid (And.intro htx (And.intro hty hts)); clear htx hty hts
      go_wp2
      refine region_flow [(false, [(0, 0), (1, 0), (2, 0), (3, 0), (4, 1), (5, 0), (6, 0), (7, 0), (8, 1), (9, 0), (10, 0), (11, 1), (12, 0), (13, 0), (14, 1), (15, 0), (16, 0), (17, 1), (18, 0), (19, 0), (20, 0), (21, 1), (22, 0), (23, 0)])] (by kernel_rfl) ?_
      refine norm_K fun K hK => ?_
      change wpList _ _ _ [_, _, _, _, _, _, _, _, _, _, _, _, _, _, _, _, _, _, _, _, _, _, _, _] _ _
      have hbd : Below wr.heap.size wr wr.drew := (by repeat (first | exact Below.refl _ _ | apply blw_drew | apply blw_alloc | (refine blw_set ?_ (by first | omega | (simp; done) | (simp; omega)) _) | refine below_chain ?_ (by assumption)))
      have d0 := kept hbd d0
      have d1 := kept hbd d1
      have hcx := kept hbd hcx
      have hcy := kept hbd hcy
      have hcs := kept hbd hcs
      go_wp2_with fail
      first | (refine hK _ _ ⟨rfl, ?_⟩; clear hK K) | refine ⟨rfl, ?_⟩
      go_wp2
      go_roundw
      case rel => exact ⟨m + 1, by omega, by go_num, by rw [pair_step, HS.out, H.out.1, H.out.2.1, H.out.2.2, wgtL_snoc (by have := L1.out; simp; omega), dotS_snoc (by rw [wgtL_len (by have := L1.out; simp; omega)]; have := L2.out; simp; omega)], hb.drew⟩
      case measure => simp [intOf]; omega
    · obtain rfl : m = xs1.length := by omega
      have e : S = dotS (wgtL p0 sq0 xs1) xs2 := by
        rw [HS.out, take_all (Nat.le_refl _), take_all (by rw [L1.out]; exact Nat.le_refl _), take_all (by rw [L2.out]; exact Nat.le_refl _)]
      have E := Lib.hid e; clear e
      go_wp2
      go_ret
      exact ⟨by rw [E.out]; rfl, below_chain hbW hb⟩
theorem hN_neg {p : Int} (h1 : 1 ≤ invL p 2) (h2 : invL p 2 < p) : hN p (-1) = p - invL p 2 := by
  unfold hN
  rw [show -1 * invL p 2 = (p - invL p 2) + p * (-1) by omega, Int.add_mul_emod_self_left]
  exact Int.emod_eq_of_lt (by omega) (by omega)
theorem hN_one {p : Int} (h1 : 1 ≤ invL p 2) (h2 : invL p 2 < p) : hN p 1 = invL p 2 := by
  unfold hN
  rw [Int.one_mul]
  exact Int.emod_eq_of_lt (by omega) (by omega)
theorem spoint_c {p0 : Int} {x0 x1 : Value} {sq0 xs1 : List Int} {w : World} (hs : isSp p0 sq0 = true) (hx0 : Sl w x0 sq0) (hx1 : Sl w x1 xs1) (hv : isV p0 sq0 xs1 = true) :
    Calls Try.prog 42 #[.agg #[.int .i64 p0, x0], x1] w fun e w' => ∃ v, e = .returned v ∧ FrI w' w.heap.size v (pointL p0 sq0 xs1) ∧ Below w.heap.size w w' := by
  obtain ⟨hp, n1, n2, hf⟩ := isSp_iff.1 hs
  obtain ⟨l1, f1⟩ := isV_iff.1 hv
  have hp1 := hp.lo
  have hp2 := hp.hi
  obtain ⟨a0, c0, rfl, _⟩ := id hx0
  have m1 : 1 ≤ xs1.length := by omega
  have m2 : xs1.length ≤ 6 := by omega
  have L1 := Lib.hid l1; clear l1
  have hq := pairL_fp (p := p0) (sq := sq0) (v := xs1) (w := xs1) (by omega)
  have hi1 := (inv_tab (a := 2) hp (by omega) (by omega)).1
  have hi2 := (invL_fp (p := p0) (a := 2) (by omega)).2
  have hpt : pointL p0 sq0 xs1 = plusL p0 (xs1 ++ [p0 - invL p0 2, invL p0 2]) (infL sq0.length) (invL p0 2 * pairL p0 sq0 xs1 xs1 % p0) := by
    unfold pointL
    rw [hN_neg hi1 hi2, hN_one hi1 hi2]
    unfold hN
    rw [Int.mul_comm (pairL p0 sq0 xs1 xs1)]
  have hinv := fun W => sinv_c (w := W) (a := 2) hp (by omega) (by omega)
  obtain ⟨j, hj⟩ : ∃ j, j = invL p0 2 := ⟨_, rfl⟩
  rw [← hj] at hi1 hi2 hpt
  simp only [← hj] at hinv
  clear hj
  have HQ := Lib.hid hpt; clear hpt
  have hm1 := mulb (A := 13) (B := 13) (k := j) (y := pairL p0 sq0 xs1 xs1) (by omega) (by omega) (by omega) (by omega)
  have FPH : Fp p0 (xs1 ++ [p0 - j, j]) := f1.app (fun x hx => by simp at hx; omega)
  go_enter Try.func42, Try.ntmps42
  have hb0 : Below w.heap.size w (w.alloc (.cells #[.int .i64 p0, .slice a0 sq0.length c0] 26)) := (by repeat (first | exact Below.refl _ _ | apply blw_drew | apply blw_alloc | (refine blw_set ?_ (by first | omega | (simp; done) | (simp; omega)) _) | refine below_chain ?_ (by assumption)))
  have hx0 := hx0.below hb0; have hx1 := hx1.below hb0
  have d00 : (w.alloc (.cells #[.int .i64 p0, .slice a0 sq0.length c0] 26)).cell? ⟨w.heap.size, 0, none⟩ = some (.int .i64 p0) := by simp [go_sem]
  have d01 : (w.alloc (.cells #[.int .i64 p0, .slice a0 sq0.length c0] 26)).cell? ⟨w.heap.size, 1, none⟩ = some (.slice a0 sq0.length c0) := by simp [go_sem]
  go_wp2_with fail
  refine (hinv _).mono ?_; rintro e w1 ⟨rfl, rfl⟩
  go_wp2_with fail
  refine region_flows [(0, 0), (2, 0), (3, 1), (4, 0), (5, 0), (6, 0)] [[(false, [(1, 5)]), (true, [(7, 3)]), (false, [(8, 4), (9, 0)])], [(true, [(7, 3)]), (false, [(1, 5)]), (false, [(8, 4), (9, 0)])]] (by kernel_rfl) ?_
  refine norm_K fun K hK => ?_
  change wpList _ _ _ [_, _, _, _, _, _] _ _
  go_wp2_with fail
  refine hK _ _ fun segs hsegs => ?_
  clear hK K
  simp only [List.mem_cons, List.mem_nil_iff, or_false] at hsegs
  obtain ⟨W0, hW0⟩ : ∃ W, W = (w.alloc (.cells #[.int .i64 p0, .slice a0 sq0.length c0] 26)).drew := ⟨_, rfl⟩
  have hbW : Below w.heap.size w W0 := by rw [hW0]; exact (by repeat (first | exact Below.refl _ _ | apply blw_drew | apply blw_alloc | (refine blw_set ?_ (by first | omega | (simp; done) | (simp; omega)) _) | refine below_chain ?_ (by assumption)))
  have hbD : Below (w.alloc (.cells #[.int .i64 p0, .slice a0 sq0.length c0] 26)).heap.size (w.alloc (.cells #[.int .i64 p0, .slice a0 sq0.length c0] 26)) W0 := by rw [hW0]; exact (by repeat (first | exact Below.refl _ _ | apply blw_drew | apply blw_alloc | (refine blw_set ?_ (by first | omega | (simp; done) | (simp; omega)) _) | refine below_chain ?_ (by assumption)))
  have hx0 := hx0.below hbD; have hx1 := hx1.below hbD; have d00 := kept hbD d00; have d01 := kept hbD d01
  clear hbD
  rw [← hW0]
  clear hW0 hb0
  have hx0_ := hx0
  have hx1_ := hx1
  have d00_ := d00
  have d01_ := d01
  rcases hsegs with rfl | rfl
  · skip
    refine norm_K fun K hK => ?_
    change wpList _ _ _ [_] _ _
    go_wp2_with fail
    refine (own_c hx1 (by omega) (by omega)).mono ?_; rintro e w1 ⟨v, rfl, ⟨g, cap, rfl, ho⟩, hb1⟩
    go_wp2_with fail
    first | (refine hK _ _ ⟨hb1, ?_⟩; clear hK K) | refine ⟨hb1, ?_⟩
    refine norm_K fun K hK => ?_
    change wpList _ _ _ [_] _ _
    go_wp2_with fail
    first | (refine hK _ _ ⟨(Below.refl _ _).alloc (Nat.le_refl _) _, ?_⟩; clear hK K) | refine ⟨(Below.refl _ _).alloc (Nat.le_refl _) _, ?_⟩
    have hl := OwnI.lit (w := w1) (Nat.le_refl _) [p0 - j, j] (by simp)
    have hb2 : Below W0.heap.size W0 (w1.alloc (.cells #[.int .i64 (p0 - j), .int .i64 j] 2)) := (by repeat (first | exact Below.refl _ _ | apply blw_drew | apply blw_alloc | (refine blw_set ?_ (by first | omega | (simp; done) | (simp; omega)) _) | refine below_chain ?_ (by assumption)))
    refine norm_K fun K hK => ?_
    change wpList _ _ _ [_, _] _ _
    refine app_int rfl _ _ rfl (w1.alloc (.cells #[.int .i64 (p0 - j), .int .i64 j] 2)) W0.heap.size g xs1.length cap xs1 rfl w1.heap.size 0 2 2 [p0 - j, j] rfl (ho.alloc _) hb2.size hl.at rfl (by decide) (by omega) ?_; intro g' cap' w9 hown hg' hgg
    have hbT : Below W0.heap.size W0 w9 := blw_grown hb2 hg' ho.lt.1
    clear hb2
    go_wp2_with fail
    first | (refine hK _ _ ⟨rfl, ?_⟩; clear hK K) | refine ⟨rfl, ?_⟩
    have hx0 := hx0_.below hbT
    have hx1 := hx1_.below hbT
    have d00 := kept hbT d00_
    have d01 := kept hbT d01_
    go_wp2_with fail
    refine region_flow [(false, [(0, 0), (1, 1), (2, 0), (3, 0), (4, 1), (5, 0), (6, 1), (7, 0), (8, 0), (11, 1), (9, 5)]), (false, [(10, 0), (12, 5)]), (false, [(13, 5)]), (false, [(14, 4), (15, 0)])] (by kernel_rfl) ?_
    refine norm_K fun K hK => ?_
    change wpList _ _ _ [_, _, _, _, _, _, _, _, _, _, _] _ _
    have hb3 : Below w9.heap.size w9 w9.drew := (by repeat (first | exact Below.refl _ _ | apply blw_drew | apply blw_alloc | (refine blw_set ?_ (by first | omega | (simp; done) | (simp; omega)) _) | refine below_chain ?_ (by assumption)))
    have hx0 := hx0.below hb3; have hx1 := hx1.below hb3; have d00 := kept hb3 d00; have d01 := kept hb3 d01; have hown := hown.below hb3
    go_wp2_with fail
    refine (spair_c (by omega) hp2 hx0 hx1 hx1 hf f1 f1 L1.out.symm rfl (by omega) (by omega)).mono ?_; rintro e w4 ⟨rfl, hb4⟩
    have hx0 := hx0.below hb4; have hx1 := hx1.below hb4; have d00 := kept hb4 d00; have d01 := kept hb4 d01; have hown := hown.below hb4
    go_wp2_with fail
    have hz0 : Below w9.drew.heap.size w9.drew w4 := (by repeat (first | exact Below.refl _ _ | apply blw_drew | apply blw_alloc | (refine blw_set ?_ (by first | omega | (simp; done) | (simp; omega)) _) | refine below_chain ?_ (by assumption)))
    first | (refine hK _ _ ⟨hz0, ?_⟩; clear hK K) | refine ⟨hz0, ?_⟩
    clear hz0
    refine norm_K fun K hK => ?_
    change wpList _ _ _ [_, _] _ _
    go_wp2_with fail
    refine (sinf_c hx0 hs).mono ?_; rintro e w5 ⟨y, rfl, hy, hb5⟩
    have hx0 := hx0.below hb5; have hx1 := hx1.below hb5; have d00 := kept hb5 d00; have d01 := kept hb5 d01; have hown := hown.below hb5
    go_wp2_with fail
    have hz1 : Below w9.drew.heap.size w9.drew w5 := (by repeat (first | exact Below.refl _ _ | apply blw_drew | apply blw_alloc | (refine blw_set ?_ (by first | omega | (simp; done) | (simp; omega)) _) | refine below_chain ?_ (by assumption)))
    first | (refine hK _ _ ⟨hz1, ?_⟩; clear hK K) | refine ⟨hz1, ?_⟩
    clear hz1
    refine norm_K fun K hK => ?_
    change wpList _ _ _ [_] _ _
    go_wp2_with fail
    refine (sscale_c (by omega) (by omega) (by omega) (by omega) hy.sl ((infL_fp hp1).sm (by omega) (by omega)) (by rw [infL_len]; omega)).mono ?_; rintro e w6 ⟨z, rfl, hz, hb6⟩
    have hx0 := hx0.below hb6; have hx1 := hx1.below hb6; have d00 := kept hb6 d00; have d01 := kept hb6 d01; have hown := hown.below hb6; have hy := hy.below hb6
    go_wp2_with fail
    have hz2 : Below w9.drew.heap.size w9.drew w6 := (by repeat (first | exact Below.refl _ _ | apply blw_drew | apply blw_alloc | (refine blw_set ?_ (by first | omega | (simp; done) | (simp; omega)) _) | refine below_chain ?_ (by assumption)))
    first | (refine hK _ _ ⟨hz2, ?_⟩; clear hK K) | refine ⟨hz2, ?_⟩
    clear hz2
    refine norm_K fun K hK => ?_
    change wpList _ _ _ [_, _] _ _
    go_wp2_with fail
    refine (sadd_c (by omega) (by omega) hown.sl hz.sl (FPH.sm (by omega) (by omega)) ((scaleL_fp (by omega)).sm (by omega) (by omega)) (by rw [scaleL_len, infL_len]; simp [L1.out]) (by simp; omega)).mono ?_; rintro e w7 ⟨t, rfl, ht, hb7⟩
    have hx0 := hx0.below hb7; have hx1 := hx1.below hb7; have d00 := kept hb7 d00; have d01 := kept hb7 d01; have hown := hown.below hb7; have hy := hy.below hb7; have hz := hz.below hb7
    go_wp2_with fail
    first | (refine hK _ _ ⟨rfl, ?_⟩; clear hK K) | refine ⟨rfl, ?_⟩
    go_wp2_with fail
    go_ret
    refine ⟨_, rfl, ?_, (by repeat (first | exact Below.refl _ _ | apply blw_drew | apply blw_alloc | (refine blw_set ?_ (by first | omega | (simp; done) | (simp; omega)) _) | refine below_chain ?_ (by assumption)))⟩
    rw [zw_scale, ← HQ.out] at ht
    exact ht.more (below_le (by repeat (first | exact Below.refl _ _ | apply blw_drew | apply blw_alloc | (refine blw_set ?_ (by first | omega | (simp; done) | (simp; omega)) _) | refine below_chain ?_ (by assumption))))
  · skip
    refine norm_K fun K hK => ?_
    change wpList _ _ _ [_] _ _
    go_wp2_with fail
    first | (refine hK _ _ ⟨(Below.refl _ _).alloc (Nat.le_refl _) _, ?_⟩; clear hK K) | refine ⟨(Below.refl _ _).alloc (Nat.le_refl _) _, ?_⟩
    have hl := OwnI.lit (w := W0) (Nat.le_refl _) [p0 - j, j] (by simp)
    have hbA : Below W0.heap.size W0 (W0.alloc (.cells #[.int .i64 (p0 - j), .int .i64 j] 2)) := (by repeat (first | exact Below.refl _ _ | apply blw_drew | apply blw_alloc | (refine blw_set ?_ (by first | omega | (simp; done) | (simp; omega)) _) | refine below_chain ?_ (by assumption)))
    refine norm_K fun K hK => ?_
    change wpList _ _ _ [_] _ _
    go_wp2_with fail
    refine (own_c (hx1.below hbA) (by omega) (by omega)).mono ?_; rintro e w1 ⟨v, rfl, ⟨g, cap, rfl, ho⟩, hb1⟩
    have hb2 : Below W0.heap.size W0 w1 := below_chain hbA hb1
    go_wp2_with fail
    first | (refine hK _ _ ⟨hb2, ?_⟩; clear hK K) | refine ⟨hb2, ?_⟩
    refine norm_K fun K hK => ?_
    change wpList _ _ _ [_, _] _ _
    refine app_int rfl _ _ rfl w1 W0.heap.size g xs1.length cap xs1 rfl _ 0 2 2 [p0 - j, j] rfl (ho.rebase (Nat.le_trans hbA.size ho.lt.1)) hb2.size (hl.at.below hb1) rfl (by decide) (by omega) ?_; intro g' cap' w9 hown hg' hgg
    have hbT : Below W0.heap.size W0 w9 := blw_grown hb2 hg' (Nat.le_trans hbA.size ho.lt.1)
    clear hb2
    go_wp2_with fail
    first | (refine hK _ _ ⟨rfl, ?_⟩; clear hK K) | refine ⟨rfl, ?_⟩
    have hx0 := hx0_.below hbT
    have hx1 := hx1_.below hbT
    have d00 := kept hbT d00_
    have d01 := kept hbT d01_
    go_wp2_with fail
    refine region_flow [(false, [(0, 0), (1, 1), (2, 0), (3, 0), (4, 1), (5, 0), (6, 1), (7, 0), (8, 0), (11, 1), (9, 5)]), (false, [(10, 0), (12, 5)]), (false, [(13, 5)]), (false, [(14, 4), (15, 0)])] (by kernel_rfl) ?_
    refine norm_K fun K hK => ?_
    change wpList _ _ _ [_, _, _, _, _, _, _, _, _, _, _] _ _
    have hb9 : Below w9.heap.size w9 w9.drew := (by repeat (first | exact Below.refl _ _ | apply blw_drew | apply blw_alloc | (refine blw_set ?_ (by first | omega | (simp; done) | (simp; omega)) _) | refine below_chain ?_ (by assumption)))
    have hx0 := hx0.below hb9; have hx1 := hx1.below hb9; have d00 := kept hb9 d00; have d01 := kept hb9 d01; have hown := hown.below hb9
    go_wp2_with fail
    refine (spair_c (by omega) hp2 hx0 hx1 hx1 hf f1 f1 L1.out.symm rfl (by omega) (by omega)).mono ?_; rintro e w10 ⟨rfl, hb10⟩
    have hx0 := hx0.below hb10; have hx1 := hx1.below hb10; have d00 := kept hb10 d00; have d01 := kept hb10 d01; have hown := hown.below hb10
    go_wp2_with fail
    have hz0 : Below w9.drew.heap.size w9.drew w10 := (by repeat (first | exact Below.refl _ _ | apply blw_drew | apply blw_alloc | (refine blw_set ?_ (by first | omega | (simp; done) | (simp; omega)) _) | refine below_chain ?_ (by assumption)))
    first | (refine hK _ _ ⟨hz0, ?_⟩; clear hK K) | refine ⟨hz0, ?_⟩
    clear hz0
    refine norm_K fun K hK => ?_
    change wpList _ _ _ [_, _] _ _
    go_wp2_with fail
    refine (sinf_c hx0 hs).mono ?_; rintro e w11 ⟨y, rfl, hy, hb11⟩
    have hx0 := hx0.below hb11; have hx1 := hx1.below hb11; have d00 := kept hb11 d00; have d01 := kept hb11 d01; have hown := hown.below hb11
    go_wp2_with fail
    have hz1 : Below w9.drew.heap.size w9.drew w11 := (by repeat (first | exact Below.refl _ _ | apply blw_drew | apply blw_alloc | (refine blw_set ?_ (by first | omega | (simp; done) | (simp; omega)) _) | refine below_chain ?_ (by assumption)))
    first | (refine hK _ _ ⟨hz1, ?_⟩; clear hK K) | refine ⟨hz1, ?_⟩
    clear hz1
    refine norm_K fun K hK => ?_
    change wpList _ _ _ [_] _ _
    go_wp2_with fail
    refine (sscale_c (by omega) (by omega) (by omega) (by omega) hy.sl ((infL_fp hp1).sm (by omega) (by omega)) (by rw [infL_len]; omega)).mono ?_; rintro e w12 ⟨z, rfl, hz, hb12⟩
    have hx0 := hx0.below hb12; have hx1 := hx1.below hb12; have d00 := kept hb12 d00; have d01 := kept hb12 d01; have hown := hown.below hb12; have hy := hy.below hb12
    go_wp2_with fail
    have hz2 : Below w9.drew.heap.size w9.drew w12 := (by repeat (first | exact Below.refl _ _ | apply blw_drew | apply blw_alloc | (refine blw_set ?_ (by first | omega | (simp; done) | (simp; omega)) _) | refine below_chain ?_ (by assumption)))
    first | (refine hK _ _ ⟨hz2, ?_⟩; clear hK K) | refine ⟨hz2, ?_⟩
    clear hz2
    refine norm_K fun K hK => ?_
    change wpList _ _ _ [_, _] _ _
    go_wp2_with fail
    refine (sadd_c (by omega) (by omega) hown.sl hz.sl (FPH.sm (by omega) (by omega)) ((scaleL_fp (by omega)).sm (by omega) (by omega)) (by rw [scaleL_len, infL_len]; simp [L1.out]) (by simp; omega)).mono ?_; rintro e w13 ⟨t, rfl, ht, hb13⟩
    have hx0 := hx0.below hb13; have hx1 := hx1.below hb13; have d00 := kept hb13 d00; have d01 := kept hb13 d01; have hown := hown.below hb13; have hy := hy.below hb13; have hz := hz.below hb13
    go_wp2_with fail
    first | (refine hK _ _ ⟨rfl, ?_⟩; clear hK K) | refine ⟨rfl, ?_⟩
    go_wp2_with fail
    go_ret
    refine ⟨_, rfl, ?_, (by repeat (first | exact Below.refl _ _ | apply blw_drew | apply blw_alloc | (refine blw_set ?_ (by first | omega | (simp; done) | (simp; omega)) _) | refine below_chain ?_ (by assumption)))⟩
    rw [zw_scale, ← HQ.out] at ht
    exact ht.more (below_le (by repeat (first | exact Below.refl _ _ | apply blw_drew | apply blw_alloc | (refine blw_set ?_ (by first | omega | (simp; done) | (simp; omega)) _) | refine below_chain ?_ (by assumption))))
end Go.Proofs.Ytklnpikkkekonaa
