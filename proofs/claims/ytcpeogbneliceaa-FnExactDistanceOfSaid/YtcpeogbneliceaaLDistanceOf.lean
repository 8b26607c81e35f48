/-
  The distance of two vectors: the program's and the reference's, and the law.
-/
import Derived.Test.YtcpeogbneliceaaMore
namespace Go.Proofs.Ytcpeogbneliceaa
open Go.RowKit

def RDistanceOf1 (p : Int) (sq xs ys : List Int) : Int := chkP p sq [xs, ys] []
def RDistanceOf0 (p : Int) (sq xs ys : List Int) : Int := if chkP p sq [xs, ys] [] = 0 then -2 * pairL p (extL p sq) (pointL p sq xs) (pointL p sq ys) % p else 0
theorem iDistanceOf_c {p0 : Int} {x0 : Value} {sq0 : List Int} {x1 : Value} {xs1 : List Int} {x2 : Value} {xs2 : List Int} {w : World} (hx0 : Sl w x0 sq0) (hm0 : sq0.length ≤ 1048576) (hx1 : Sl w x1 xs1) (hm1 : xs1.length ≤ 1048576) (hx2 : Sl w x2 xs2) (hm2 : xs2.length ≤ 1048576) :
    Calls Try.prog 31 #[.agg #[.int .i64 p0, x0], x1, x2] w fun e w' => e = .returned (.tuple #[.int .i64 (RDistanceOf0 p0 sq0 xs1 xs2), .int .i64 (RDistanceOf1 p0 sq0 xs1 xs2)]) ∧ Below w.heap.size w w' := by
  obtain ⟨a0, c0, rfl, _⟩ := id hx0
  obtain ⟨a1, c1, rfl, _⟩ := id hx1
  obtain ⟨a2, c2, rfl, _⟩ := id hx2
  obtain ⟨W, hW⟩ : ∃ W, W = ((w.alloc (.cells #[.int .i64 p0, .slice a0 sq0.length c0] 28)).alloc (.cells #[.slice a1 xs1.length c1, .slice a2 xs2.length c2] 22)) := ⟨_, rfl⟩
  have hbW : Below w.heap.size w W := by rw [hW]; exact (by repeat (first | exact Below.refl _ _ | apply blw_drew | apply blw_alloc | (refine blw_set ?_ (by first | omega | (simp; done) | (simp; omega)) _) | refine below_chain ?_ (by assumption)))
  have hx0 := hx0.below hbW
  have hx1 := hx1.below hbW
  have hx2 := hx2.below hbW
  have d00 : W.cell? ⟨w.heap.size, 0, none⟩ = some (.int .i64 p0) := by rw [hW]; simp [go_sem]
  have d01 : W.cell? ⟨w.heap.size, 1, none⟩ = some (.slice a0 sq0.length c0) := by rw [hW]; simp [go_sem]
  have glx : Rl W (.slice (some ⟨w.heap.size + 1, 0, none⟩) 2 2) [xs1, xs2] := Rl.two hx1 (by rw [hW]; simp [go_sem]) hx2 (by rw [hW]; simp [go_sem])
  have hcon := chkpl_c (p := p0) hx0 glx (Rl.nil _) hm0 (by simp) (by intro xs h; simp at h; rcases h with rfl | rfl <;> assumption) (by simp) (by simp)
  rw [hW] at hcon
  by_cases h0 : chkP p0 sq0 [xs1, xs2] [] = 0
  · rw [h0] at hcon
    obtain ⟨h1, h2, h3, h4⟩ := chkP_pos h0
    have hv := h3 xs1 (by simp)
    have hv2 := h3 xs2 (by simp)
    rw [show RDistanceOf0 p0 sq0 xs1 xs2 = -2 * pairL p0 (extL p0 sq0) (pointL p0 sq0 xs1) (pointL p0 sq0 xs2) % p0 from if_pos h0, show RDistanceOf1 p0 sq0 xs1 xs2 = 0 from h0]
    clear h0 h3 h4
    obtain ⟨hp, n1, n2, hf⟩ := isSp_iff.1 h1
    have hp1 := hp.lo
    have hp2 := hp.hi
    have L0 := Lib.hid (extL_len (p := p0) (sq := sq0))
    have L1 := Lib.hid (pointL_len (p := p0) (isV_iff.1 hv).1)
    have L2 := Lib.hid (pointL_len (p := p0) (isV_iff.1 hv2).1)
    have hq := pairL_fp (p := p0) (sq := extL p0 sq0) (v := pointL p0 sq0 xs1) (w := pointL p0 sq0 xs2) (by omega)
    go_enter Try.func31, Try.ntmps31
    go_wp2_with fail
    refine hcon.mono ?_; rintro e w1 ⟨rfl, hb1⟩
    rw [← hW] at hb1
    clear hW hcon
    have d00 := kept hb1 d00; have d01 := kept hb1 d01; have hx0 := hx0.below hb1; have hx1 := hx1.below hb1; have hx2 := hx2.below hb1
    go_wp2_with fail
    refine region_flow [(false, [(0, 1), (2, 1), (4, 1), (5, 0), (7, 1), (8, 0), (1, 5)]), (false, [(3, 5)]), (false, [(6, 5)]), (false, [(9, 4), (10, 4), (11, 0), (12, 4), (13, 0), (14, 0)])] (by kernel_rfl) ?_
    refine norm_K fun K hK => ?_
    change wpList _ _ _ [_, _, _, _, _, _, _] _ _
    have hb22 : Below w1.heap.size w1 w1.drew := (by repeat (first | exact Below.refl _ _ | apply blw_drew | apply blw_alloc | (refine blw_set ?_ (by first | omega | (simp; done) | (simp; omega)) _) | refine below_chain ?_ (by assumption)))
    have d00 := kept hb22 d00; have d01 := kept hb22 d01; have hx0 := hx0.below hb22; have hx1 := hx1.below hb22; have hx2 := hx2.below hb22
    go_wp2_with fail
    refine (spfield_c).mono ?_; rintro e w23 ⟨rfl, hb23⟩
    have d00 := kept hb23 d00; have d01 := kept hb23 d01; have hx0 := hx0.below hb23; have hx1 := hx1.below hb23; have hx2 := hx2.below hb23
    go_wp2_with fail
    have hz0 : Below w1.drew.heap.size w1.drew w23 := (by repeat (first | exact Below.refl _ _ | apply blw_drew | apply blw_alloc | (refine blw_set ?_ (by first | omega | (simp; done) | (simp; omega)) _) | refine below_chain ?_ (by assumption)))
    first | (refine hK _ _ ⟨hz0, ?_⟩; clear hK K) | refine ⟨hz0, ?_⟩
    clear hz0
    refine norm_K fun K hK => ?_
    change wpList _ _ _ [_] _ _
    go_wp2_with fail
    refine (ext_c hx0 h1).mono ?_; rintro e w24 ⟨y, rfl, hy, hb24⟩
    have d00 := kept hb24 d00; have d01 := kept hb24 d01; have hx0 := hx0.below hb24; have hx1 := hx1.below hb24; have hx2 := hx2.below hb24
    go_wp2_with fail
    have hz1 : Below w1.drew.heap.size w1.drew w24 := (by repeat (first | exact Below.refl _ _ | apply blw_drew | apply blw_alloc | (refine blw_set ?_ (by first | omega | (simp; done) | (simp; omega)) _) | refine below_chain ?_ (by assumption)))
    first | (refine hK _ _ ⟨hz1, ?_⟩; clear hK K) | refine ⟨hz1, ?_⟩
    clear hz1
    refine norm_K fun K hK => ?_
    change wpList _ _ _ [_] _ _
    go_wp2_with fail
    refine (point_c h1 hx0 hx1 hv).mono ?_; rintro e w25 ⟨z, rfl, hz, hb25⟩
    have d00 := kept hb25 d00; have d01 := kept hb25 d01; have hx0 := hx0.below hb25; have hx1 := hx1.below hb25; have hx2 := hx2.below hb25; have hy := hy.below hb25
    go_wp2_with fail
    have hz2 : Below w1.drew.heap.size w1.drew w25 := (by repeat (first | exact Below.refl _ _ | apply blw_drew | apply blw_alloc | (refine blw_set ?_ (by first | omega | (simp; done) | (simp; omega)) _) | refine below_chain ?_ (by assumption)))
    first | (refine hK _ _ ⟨hz2, ?_⟩; clear hK K) | refine ⟨hz2, ?_⟩
    clear hz2
    refine norm_K fun K hK => ?_
    change wpList _ _ _ [_, _, _, _, _, _] _ _
    go_wp2_with fail
    refine (point_c h1 hx0 hx2 hv2).mono ?_; rintro e w26 ⟨u, rfl, hu, hb26⟩
    have d00 := kept hb26 d00; have d01 := kept hb26 d01; have hx0 := hx0.below hb26; have hx1 := hx1.below hb26; have hx2 := hx2.below hb26; have hy := hy.below hb26; have hz := hz.below hb26
    go_wp2_with fail
    refine (pair_c (by omega) (by omega) hy.sl hz.sl hu.sl ((extL_fp hp1 hf).sm (by omega) (by omega)) ((pointL_fp (by omega)).sm (by omega) (by omega)) ((pointL_fp (by omega)).sm (by omega) (by omega)) (by rw [L0.out, L1.out]) (by rw [L1.out, L2.out]) (by rw [L0.out]; omega) (by rw [L1.out]; omega)).mono ?_; rintro e w27 ⟨rfl, hb27⟩
    have d00 := kept hb27 d00; have d01 := kept hb27 d01; have hx0 := hx0.below hb27; have hx1 := hx1.below hb27; have hx2 := hx2.below hb27; have hy := hy.below hb27; have hz := hz.below hb27; have hu := hu.below hb27
    go_wp2_with fail
    refine (num_c (by omega) (by omega)).mono ?_; rintro e w28 ⟨rfl, rfl⟩
    go_wp2_with fail
    first | (refine hK _ _ ⟨rfl, ?_⟩; clear hK K) | refine ⟨rfl, ?_⟩
    go_wp2_with fail
    go_ret2
    exact ⟨rfl, (by repeat (first | exact Below.refl _ _ | apply blw_drew | apply blw_alloc | (refine blw_set ?_ (by first | omega | (simp; done) | (simp; omega)) _) | refine below_chain ?_ (by assumption)))⟩
  · rw [show RDistanceOf0 p0 sq0 xs1 xs2 = 0 from if_neg h0, show RDistanceOf1 p0 sq0 xs1 xs2 = chkP p0 sq0 [xs1, xs2] [] from rfl]
    obtain ⟨k, hk⟩ : ∃ k, k = chkP p0 sq0 [xs1, xs2] [] := ⟨_, rfl⟩
    rw [← hk] at h0 hcon ⊢
    clear hk
    have hne : (k == 0) = false := by simpa using h0
    go_enter Try.func31, Try.ntmps31
    go_wp2_with fail
    refine hcon.mono ?_; rintro e w1 ⟨rfl, hb1⟩
    rw [← hW] at hb1
    clear hW hcon
    go_wp2_with fail
    go_ret2
    exact ⟨rfl, (by repeat (first | exact Below.refl _ _ | apply blw_drew | apply blw_alloc | (refine blw_set ?_ (by first | omega | (simp; done) | (simp; omega)) _) | refine below_chain ?_ (by assumption)))⟩
theorem sDistanceOf_c {p0 : Int} {x0 : Value} {sq0 : List Int} {x1 : Value} {xs1 : List Int} {x2 : Value} {xs2 : List Int} {w : World} (hx0 : Sl w x0 sq0) (hm0 : sq0.length ≤ 1048576) (hx1 : Sl w x1 xs1) (hm1 : xs1.length ≤ 1048576) (hx2 : Sl w x2 xs2) (hm2 : xs2.length ≤ 1048576) :
    Calls Try.prog 30 #[.agg #[.int .i64 p0, x0], x1, x2] w fun e w' => e = .returned (.tuple #[.int .i64 (RDistanceOf0 p0 sq0 xs1 xs2), .int .i64 (RDistanceOf1 p0 sq0 xs1 xs2)]) ∧ Below w.heap.size w w' := by
  obtain ⟨a0, c0, rfl, _⟩ := id hx0
  obtain ⟨a1, c1, rfl, _⟩ := id hx1
  obtain ⟨a2, c2, rfl, _⟩ := id hx2
  obtain ⟨W, hW⟩ : ∃ W, W = ((w.alloc (.cells #[.int .i64 p0, .slice a0 sq0.length c0] 28)).alloc (.cells #[.slice a1 xs1.length c1, .slice a2 xs2.length c2] 22)) := ⟨_, rfl⟩
  have hbW : Below w.heap.size w W := by rw [hW]; exact (by repeat (first | exact Below.refl _ _ | apply blw_drew | apply blw_alloc | (refine blw_set ?_ (by first | omega | (simp; done) | (simp; omega)) _) | refine below_chain ?_ (by assumption)))
  have hx0 := hx0.below hbW
  have hx1 := hx1.below hbW
  have hx2 := hx2.below hbW
  have d00 : W.cell? ⟨w.heap.size, 0, none⟩ = some (.int .i64 p0) := by rw [hW]; simp [go_sem]
  have d01 : W.cell? ⟨w.heap.size, 1, none⟩ = some (.slice a0 sq0.length c0) := by rw [hW]; simp [go_sem]
  have glx : Rl W (.slice (some ⟨w.heap.size + 1, 0, none⟩) 2 2) [xs1, xs2] := Rl.two hx1 (by rw [hW]; simp [go_sem]) hx2 (by rw [hW]; simp [go_sem])
  have hcon := scode_c (p := p0) hx0 glx hm0 (by simp) (by intro xs h; simp at h; rcases h with rfl | rfl <;> assumption)
  rw [hW] at hcon
  by_cases h0 : chkP p0 sq0 [xs1, xs2] [] = 0
  · rw [h0] at hcon
    obtain ⟨h1, h2, h3, h4⟩ := chkP_pos h0
    have hv := h3 xs1 (by simp)
    have hv2 := h3 xs2 (by simp)
    rw [show RDistanceOf0 p0 sq0 xs1 xs2 = -2 * pairL p0 (extL p0 sq0) (pointL p0 sq0 xs1) (pointL p0 sq0 xs2) % p0 from if_pos h0, show RDistanceOf1 p0 sq0 xs1 xs2 = 0 from h0]
    clear h0 h3 h4
    obtain ⟨hp, n1, n2, hf⟩ := isSp_iff.1 h1
    have hp1 := hp.lo
    have hp2 := hp.hi
    have L0 := Lib.hid (extL_len (p := p0) (sq := sq0))
    have L1 := Lib.hid (pointL_len (p := p0) (isV_iff.1 hv).1)
    have L2 := Lib.hid (pointL_len (p := p0) (isV_iff.1 hv2).1)
    have hq := pairL_fp (p := p0) (sq := extL p0 sq0) (v := pointL p0 sq0 xs1) (w := pointL p0 sq0 xs2) (by omega)
    go_enter Try.func30, Try.ntmps30
    go_wp2_with fail
    refine hcon.mono ?_; rintro e w1 ⟨rfl, hb1⟩
    rw [← hW] at hb1
    clear hW hcon
    have d00 := kept hb1 d00; have d01 := kept hb1 d01; have hx0 := hx0.below hb1; have hx1 := hx1.below hb1; have hx2 := hx2.below hb1
    go_wp2_with fail
    refine region_flow [(false, [(0, 0), (1, 1), (2, 1), (4, 1), (5, 0), (7, 1), (8, 0), (3, 5)]), (false, [(6, 5)]), (false, [(9, 5)]), (false, [(10, 5)]), (false, [(11, 0), (12, 4), (13, 0), (14, 0)])] (by kernel_rfl) ?_
    refine norm_K fun K hK => ?_
    change wpList _ _ _ [_, _, _, _, _, _, _, _] _ _
    have hb22 : Below w1.heap.size w1 w1.drew := (by repeat (first | exact Below.refl _ _ | apply blw_drew | apply blw_alloc | (refine blw_set ?_ (by first | omega | (simp; done) | (simp; omega)) _) | refine below_chain ?_ (by assumption)))
    have d00 := kept hb22 d00; have d01 := kept hb22 d01; have hx0 := hx0.below hb22; have hx1 := hx1.below hb22; have hx2 := hx2.below hb22
    go_wp2_with fail
    refine (sext_c hx0 h1).mono ?_; rintro e w23 ⟨y, rfl, hy, hb23⟩
    have d00 := kept hb23 d00; have d01 := kept hb23 d01; have hx0 := hx0.below hb23; have hx1 := hx1.below hb23; have hx2 := hx2.below hb23
    go_wp2_with fail
    have hz0 : Below w1.drew.heap.size w1.drew w23 := (by repeat (first | exact Below.refl _ _ | apply blw_drew | apply blw_alloc | (refine blw_set ?_ (by first | omega | (simp; done) | (simp; omega)) _) | refine below_chain ?_ (by assumption)))
    first | (refine hK _ _ ⟨hz0, ?_⟩; clear hK K) | refine ⟨hz0, ?_⟩
    clear hz0
    refine norm_K fun K hK => ?_
    change wpList _ _ _ [_] _ _
    go_wp2_with fail
    refine (spoint_c h1 hx0 hx1 hv).mono ?_; rintro e w24 ⟨z, rfl, hz, hb24⟩
    have d00 := kept hb24 d00; have d01 := kept hb24 d01; have hx0 := hx0.below hb24; have hx1 := hx1.below hb24; have hx2 := hx2.below hb24; have hy := hy.below hb24
    go_wp2_with fail
    have hz1 : Below w1.drew.heap.size w1.drew w24 := (by repeat (first | exact Below.refl _ _ | apply blw_drew | apply blw_alloc | (refine blw_set ?_ (by first | omega | (simp; done) | (simp; omega)) _) | refine below_chain ?_ (by assumption)))
    first | (refine hK _ _ ⟨hz1, ?_⟩; clear hK K) | refine ⟨hz1, ?_⟩
    clear hz1
    refine norm_K fun K hK => ?_
    change wpList _ _ _ [_] _ _
    go_wp2_with fail
    refine (spoint_c h1 hx0 hx2 hv2).mono ?_; rintro e w25 ⟨u, rfl, hu, hb25⟩
    have d00 := kept hb25 d00; have d01 := kept hb25 d01; have hx0 := hx0.below hb25; have hx1 := hx1.below hb25; have hx2 := hx2.below hb25; have hy := hy.below hb25; have hz := hz.below hb25
    go_wp2_with fail
    have hz2 : Below w1.drew.heap.size w1.drew w25 := (by repeat (first | exact Below.refl _ _ | apply blw_drew | apply blw_alloc | (refine blw_set ?_ (by first | omega | (simp; done) | (simp; omega)) _) | refine below_chain ?_ (by assumption)))
    first | (refine hK _ _ ⟨hz2, ?_⟩; clear hK K) | refine ⟨hz2, ?_⟩
    clear hz2
    refine norm_K fun K hK => ?_
    change wpList _ _ _ [_] _ _
    go_wp2_with fail
    refine (spair_c (by omega) hp2 hy.sl hz.sl hu.sl (extL_fp hp1 hf) (pointL_fp (by omega)) (pointL_fp (by omega)) (by rw [L0.out, L1.out]) (by rw [L1.out, L2.out]) (by rw [L0.out]; omega) (by rw [L1.out]; omega)).mono ?_; rintro e w26 ⟨rfl, hb26⟩
    have d00 := kept hb26 d00; have d01 := kept hb26 d01; have hx0 := hx0.below hb26; have hx1 := hx1.below hb26; have hx2 := hx2.below hb26; have hy := hy.below hb26; have hz := hz.below hb26; have hu := hu.below hb26
    go_wp2_with fail
    have hz3 : Below w1.drew.heap.size w1.drew w26 := (by repeat (first | exact Below.refl _ _ | apply blw_drew | apply blw_alloc | (refine blw_set ?_ (by first | omega | (simp; done) | (simp; omega)) _) | refine below_chain ?_ (by assumption)))
    first | (refine hK _ _ ⟨hz3, ?_⟩; clear hK K) | refine ⟨hz3, ?_⟩
    clear hz3
    refine norm_K fun K hK => ?_
    change wpList _ _ _ [_, _, _, _] _ _
    go_wp2_with fail
    refine (smod_c (by omega) (by omega)).mono ?_; rintro e w27 ⟨rfl, rfl⟩
    go_wp2_with fail
    first | (refine hK _ _ ⟨rfl, ?_⟩; clear hK K) | refine ⟨rfl, ?_⟩
    go_wp2_with fail
    go_ret2
    exact ⟨rfl, (by repeat (first | exact Below.refl _ _ | apply blw_drew | apply blw_alloc | (refine blw_set ?_ (by first | omega | (simp; done) | (simp; omega)) _) | refine below_chain ?_ (by assumption)))⟩
  · rw [show RDistanceOf0 p0 sq0 xs1 xs2 = 0 from if_neg h0, show RDistanceOf1 p0 sq0 xs1 xs2 = chkP p0 sq0 [xs1, xs2] [] from rfl]
    obtain ⟨k, hk⟩ : ∃ k, k = chkP p0 sq0 [xs1, xs2] [] := ⟨_, rfl⟩
    rw [← hk] at h0 hcon ⊢
    clear hk
    have hne : (k == 0) = false := by simpa using h0
    go_enter Try.func30, Try.ntmps30
    go_wp2_with fail
    refine hcon.mono ?_; rintro e w1 ⟨rfl, hb1⟩
    rw [← hW] at hb1
    clear hW hcon
    go_wp2_with fail
    go_ret2
    exact ⟨rfl, (by repeat (first | exact Below.refl _ _ | apply blw_drew | apply blw_alloc | (refine blw_set ?_ (by first | omega | (simp; done) | (simp; omega)) _) | refine below_chain ?_ (by assumption)))⟩
theorem law_DistanceOf {p0 : Int} {x0 : Value} {sq0 : List Int} {x1 : Value} {xs1 : List Int} {x2 : Value} {xs2 : List Int} {w : World} (hx0 : Sl w x0 sq0) (hm0 : sq0.length ≤ 9223372036854775807) (hx1 : Sl w x1 xs1) (hm1 : xs1.length ≤ 9223372036854775807) (hx2 : Sl w x2 xs2) (hm2 : xs2.length ≤ 9223372036854775807) :
    Calls Try.prog 6 #[.agg #[.int .i64 p0, x0], x1, x2] w fun e w' => e = .returned (.bool true) ∧ Below w.heap.size w w' := by
  obtain ⟨a0, c0, rfl, _⟩ := id hx0
  obtain ⟨a1, c1, rfl, _⟩ := id hx1
  obtain ⟨a2, c2, rfl, _⟩ := id hx2
  by_cases hl1 : xs1.length ≤ 1048576
  case neg =>
    go_enter Try.func6, Try.ntmps6
    go_wp2_with fail
    go_ret
    exact ⟨rfl, (by repeat (first | exact Below.refl _ _ | apply blw_drew | apply blw_alloc | (refine blw_set ?_ (by first | omega | (simp; done) | (simp; omega)) _) | refine below_chain ?_ (by assumption)))⟩
  by_cases hl2 : xs2.length ≤ 1048576
  case neg =>
    go_enter Try.func6, Try.ntmps6
    go_wp2_with fail
    go_ret
    exact ⟨rfl, (by repeat (first | exact Below.refl _ _ | apply blw_drew | apply blw_alloc | (refine blw_set ?_ (by first | omega | (simp; done) | (simp; omega)) _) | refine below_chain ?_ (by assumption)))⟩
  obtain ⟨z0, hz0⟩ : ∃ z, z = szI 1048576 sq0.length := ⟨_, rfl⟩
  have hzb0 := szI_bd (left := 1048576) (n := sq0.length) (by decide) (by decide)
  rw [← hz0] at hzb0
  by_cases hs0 : z0 < 0
  case pos =>
    go_enter Try.func6, Try.ntmps6
    go_wp2_with (go_at_call 15; refine (szsp_c (by decide) (by decide) (by omega)).mono ?_; rintro e w1 ⟨rfl, hb1⟩; simp only [← hz0])
    go_ret
    exact ⟨rfl, (by repeat (first | exact Below.refl _ _ | apply blw_drew | apply blw_alloc | (refine blw_set ?_ (by first | omega | (simp; done) | (simp; omega)) _) | refine below_chain ?_ (by assumption)))⟩
  have hl0 : sq0.length ≤ 1048576 := by rw [hz0] at hs0; have := cnt_bd hs0; omega
  have hI := fun (W : World) (x0 : Value) (hx0 : Sl W x0 sq0) (x1 : Value) (hx1 : Sl W x1 xs1) (x2 : Value) (hx2 : Sl W x2 xs2) => iDistanceOf_c (w := W) (p0 := p0) hx0 hl0 hx1 hl1 hx2 hl2
  have hS := fun (W : World) (x0 : Value) (hx0 : Sl W x0 sq0) (x1 : Value) (hx1 : Sl W x1 xs1) (x2 : Value) (hx2 : Sl W x2 xs2) => sDistanceOf_c (w := W) (p0 := p0) hx0 hl0 hx1 hl1 hx2 hl2
  obtain ⟨y0, hy0⟩ : ∃ y, y = RDistanceOf0 p0 sq0 xs1 xs2 := ⟨_, rfl⟩
  obtain ⟨y1, hy1⟩ : ∃ y, y = RDistanceOf1 p0 sq0 xs1 xs2 := ⟨_, rfl⟩
  simp only [← hy0, ← hy1] at hI hS 
  clear hy0 hy1
  go_enter Try.func6, Try.ntmps6
  have hb0 : Below w.heap.size w (w.alloc (.cells #[.int .i64 p0, .slice a0 sq0.length c0] 24)) := (by repeat (first | exact Below.refl _ _ | apply blw_drew | apply blw_alloc | (refine blw_set ?_ (by first | omega | (simp; done) | (simp; omega)) _) | refine below_chain ?_ (by assumption)))
  have hx0 := hx0.below hb0; have hx1 := hx1.below hb0; have hx2 := hx2.below hb0
  have d00 : (w.alloc (.cells #[.int .i64 p0, .slice a0 sq0.length c0] 24)).cell? ⟨w.heap.size, 0, none⟩ = some (.int .i64 p0) := by simp [go_sem]
  have d01 : (w.alloc (.cells #[.int .i64 p0, .slice a0 sq0.length c0] 24)).cell? ⟨w.heap.size, 1, none⟩ = some (.slice a0 sq0.length c0) := by simp [go_sem]
  go_wp2_with fail
  refine (szsp_c (by decide) (by decide) (by omega)).mono ?_; rintro e w1 ⟨rfl, hb1⟩
  simp only [← hz0]
  have hx0 := hx0.below hb1; have hx1 := hx1.below hb1; have hx2 := hx2.below hb1; have d00 := kept hb1 d00; have d01 := kept hb1 d01
  go_wp2_with fail
  refine (tosp_c hx0 hl0).mono ?_; rintro e w2 ⟨t0, rfl, ht0, hb2⟩
  have hx0 := hx0.below hb2; have hx1 := hx1.below hb2; have hx2 := hx2.below hb2; have d00 := kept hb2 d00; have d01 := kept hb2 d01
  go_wp2_with fail
  refine (to_c hx1 hl1).mono ?_; rintro e w3 ⟨t1, rfl, ht1, hb3⟩
  have hx0 := hx0.below hb3; have hx1 := hx1.below hb3; have hx2 := hx2.below hb3; have d00 := kept hb3 d00; have d01 := kept hb3 d01; have ht0 := ht0.below hb3
  go_wp2_with fail
  refine (to_c hx2 hl2).mono ?_; rintro e w4 ⟨t2, rfl, ht2, hb4⟩
  have hx0 := hx0.below hb4; have hx1 := hx1.below hb4; have hx2 := hx2.below hb4; have d00 := kept hb4 d00; have d01 := kept hb4 d01; have ht0 := ht0.below hb4; have ht1 := ht1.below hb4
  go_wp2_with fail
  refine (hS _ _ ht0.sl _ ht1.sl _ ht2.sl).mono ?_; rintro e w5 ⟨rfl, hb5⟩
  have hx0 := hx0.below hb5; have hx1 := hx1.below hb5; have hx2 := hx2.below hb5; have d00 := kept hb5 d00; have d01 := kept hb5 d01
  have hx0_ := hx0
  have hx1_ := hx1
  have hx2_ := hx2
  have d00_ := d00
  have d01_ := d01
  go_wp2_with fail
  refine (tosp_c hx0 hl0).mono ?_; rintro e w6 ⟨t0, rfl, ⟨g0, k0, rfl, ht0⟩, hb6⟩
  have hx0 := hx0.below hb6; have hx1 := hx1.below hb6; have hx2 := hx2.below hb6; have d00 := kept hb6 d00; have d01 := kept hb6 d01
  have hb7 : Below w6.heap.size w6 (w6.alloc (.cells #[.int .i64 p0, .slice (some ⟨g0, 0, none⟩) sq0.length k0] 28)) := (by repeat (first | exact Below.refl _ _ | apply blw_drew | apply blw_alloc | (refine blw_set ?_ (by first | omega | (simp; done) | (simp; omega)) _) | refine below_chain ?_ (by assumption)))
  have hx0 := hx0.below hb7; have hx1 := hx1.below hb7; have hx2 := hx2.below hb7; have d00 := kept hb7 d00; have d01 := kept hb7 d01; have ht0 := ht0.below hb7
  have e00 : (w6.alloc (.cells #[.int .i64 p0, .slice (some ⟨g0, 0, none⟩) sq0.length k0] 28)).cell? ⟨w6.heap.size, 0, none⟩ = some (.int .i64 p0) := by simp [go_sem]
  have e01 : (w6.alloc (.cells #[.int .i64 p0, .slice (some ⟨g0, 0, none⟩) sq0.length k0] 28)).cell? ⟨w6.heap.size, 1, none⟩ = some (.slice (some ⟨g0, 0, none⟩) sq0.length k0) := by simp [go_sem]
  go_wp2_with fail
  refine (to_c hx1 hl1).mono ?_; rintro e w8 ⟨t1, rfl, ⟨g1, k1, rfl, ht1⟩, hb8⟩
  have hx0 := hx0.below hb8; have hx1 := hx1.below hb8; have hx2 := hx2.below hb8; have d00 := kept hb8 d00; have d01 := kept hb8 d01; have ht0 := ht0.below hb8; have e00 := kept hb8 e00; have e01 := kept hb8 e01
  go_wp2_with fail
  refine (to_c hx2 hl2).mono ?_; rintro e w9 ⟨t2, rfl, ⟨g2, k2, rfl, ht2⟩, hb9⟩
  have hx0 := hx0.below hb9; have hx1 := hx1.below hb9; have hx2 := hx2.below hb9; have d00 := kept hb9 d00; have d01 := kept hb9 d01; have ht0 := ht0.below hb9; have e00 := kept hb9 e00; have e01 := kept hb9 e01; have ht1 := ht1.below hb9
  go_wp2_with fail
  refine (hI _ _ ht0.sl _ ht1.sl _ ht2.sl).mono ?_; rintro e w10 ⟨rfl, hb10⟩
  have hx0 := hx0.below hb10; have hx1 := hx1.below hb10; have hx2 := hx2.below hb10; have d00 := kept hb10 d00; have d01 := kept hb10 d01; have ht0 := ht0.below hb10; have e00 := kept hb10 e00; have e01 := kept hb10 e01; have ht1 := ht1.below hb10; have ht2 := ht2.below hb10
  go_wp2_with fail
  refine region_flow [(false, [(0, 1), (1, 1), (2, 5)]), (false, [(3, 4), (4, 0)])] (by kernel_rfl) ?_
  refine norm_K fun K hK => ?_
  change wpList _ _ _ [_, _, _] _ _
  have hb11 : Below w10.heap.size w10 w10.drew := (by repeat (first | exact Below.refl _ _ | apply blw_drew | apply blw_alloc | (refine blw_set ?_ (by first | omega | (simp; done) | (simp; omega)) _) | refine below_chain ?_ (by assumption)))
  have hx0 := hx0.below hb11; have hx1 := hx1.below hb11; have hx2 := hx2.below hb11; have d00 := kept hb11 d00; have d01 := kept hb11 d01; have ht0 := ht0.below hb11; have e00 := kept hb11 e00; have e01 := kept hb11 e01; have ht1 := ht1.below hb11; have ht2 := ht2.below hb11
  go_wp2_with fail
  refine (tosp_c hx0 hl0).mono ?_; rintro e w12 ⟨u0, rfl, hu0, hb12⟩
  have hx0 := hx0.below hb12; have hx1 := hx1.below hb12; have hx2 := hx2.below hb12; have d00 := kept hb12 d00; have d01 := kept hb12 d01; have ht0 := ht0.below hb12; have e00 := kept hb12 e00; have e01 := kept hb12 e01; have ht1 := ht1.below hb12; have ht2 := ht2.below hb12
  go_wp2_with fail
  first | (refine hK _ _ ⟨hb12, ?_⟩; clear hK K) | refine ⟨hb12, ?_⟩
  refine norm_K fun K hK => ?_
  change wpList _ _ _ [_, _] _ _
  go_wp2_with fail
  refine (eqsps_c ht0.sl hu0.sl hl0).mono ?_; rintro e w13 ⟨rfl, hb13⟩
  have hx0 := hx0.below hb13; have hx1 := hx1.below hb13; have hx2 := hx2.below hb13; have d00 := kept hb13 d00; have d01 := kept hb13 d01; have ht0 := ht0.below hb13; have e00 := kept hb13 e00; have e01 := kept hb13 e01; have ht1 := ht1.below hb13; have ht2 := ht2.below hb13
  go_wp2_with fail
  first | (refine hK _ _ ⟨rfl, ?_⟩; clear hK K) | refine ⟨rfl, ?_⟩
  go_wp2_with fail
  refine (to_c hx1 hl1).mono ?_; rintro e w14 ⟨u1, rfl, hu1, hb14⟩
  have hx0 := hx0.below hb14; have hx1 := hx1.below hb14; have hx2 := hx2.below hb14; have d00 := kept hb14 d00; have d01 := kept hb14 d01; have ht0 := ht0.below hb14; have e00 := kept hb14 e00; have e01 := kept hb14 e01; have ht1 := ht1.below hb14; have ht2 := ht2.below hb14
  go_wp2_with fail
  refine (eqs_c ht1.sl hu1.sl hl1).mono ?_; rintro e w15 ⟨rfl, hb15⟩
  have hx0 := hx0.below hb15; have hx1 := hx1.below hb15; have hx2 := hx2.below hb15; have d00 := kept hb15 d00; have d01 := kept hb15 d01; have ht0 := ht0.below hb15; have e00 := kept hb15 e00; have e01 := kept hb15 e01; have ht1 := ht1.below hb15; have ht2 := ht2.below hb15
  go_wp2_with fail
  refine (to_c hx2 hl2).mono ?_; rintro e w16 ⟨u2, rfl, hu2, hb16⟩
  have hx0 := hx0.below hb16; have hx1 := hx1.below hb16; have hx2 := hx2.below hb16; have d00 := kept hb16 d00; have d01 := kept hb16 d01; have ht0 := ht0.below hb16; have e00 := kept hb16 e00; have e01 := kept hb16 e01; have ht1 := ht1.below hb16; have ht2 := ht2.below hb16
  go_wp2_with fail
  refine (eqs_c ht2.sl hu2.sl hl2).mono ?_; rintro e w17 ⟨rfl, hb17⟩
  have hx0 := hx0.below hb17; have hx1 := hx1.below hb17; have hx2 := hx2.below hb17; have d00 := kept hb17 d00; have d01 := kept hb17 d01; have ht0 := ht0.below hb17; have e00 := kept hb17 e00; have e01 := kept hb17 e01; have ht1 := ht1.below hb17; have ht2 := ht2.below hb17
  go_wp2_with fail
  go_ret
  exact ⟨rfl, (by repeat (first | exact Below.refl _ _ | apply blw_drew | apply blw_alloc | (refine blw_set ?_ (by first | omega | (simp; done) | (simp; omega)) _) | refine below_chain ?_ (by assumption)))⟩
end Go.Proofs.Ytcpeogbneliceaa
