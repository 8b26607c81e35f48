/-
  Differences, spheres, places and reflected vectors.
-/
import Derived.Test.YtklnpikkkekonaaMore
namespace Go.Proofs.Ytklnpikkkekonaa
open Go.RowKit

theorem plusL_cong {p k k' : Int} (h : k % p = k' % p) : ∀ {xs ys : List Int}, plusL p xs ys k = plusL p xs ys k'
  | [], _ => by simp [plusL]
  | _ :: _, [] => by simp [plusL]
  | x :: xs, y :: ys => by
    have hr := plusL_cong h (xs := xs) (ys := ys)
    simp only [plusL, List.zipWith_cons_cons] at hr ⊢
    rw [hr, Int.add_emod, Int.mul_emod, h, ← Int.mul_emod, ← Int.add_emod]
theorem zw_scale2 {p k m : Int} : ∀ {xs ys : List Int}, plusL p xs (scaleL p ys k) m = plusL p xs ys (k * m)
  | [], _ => by simp [plusL]
  | _ :: _, [] => by simp [plusL, scaleL]
  | x :: xs, y :: ys => by
    have hr := zw_scale2 (p := p) (k := k) (m := m) (xs := xs) (ys := ys)
    simp only [plusL, scaleL, List.map_cons, List.zipWith_cons_cons] at hr ⊢
    rw [hr]
    congr 1
    rw [Int.add_emod, Int.mul_emod m, Int.emod_emod, ← Int.mul_emod, ← Int.add_emod]
    congr 2
    rw [Int.mul_comm y k, ← Int.mul_assoc, Int.mul_comm m k]
theorem sminus_c {p : Int} {x y : Value} {xs ys : List Int} {w : World} (hp : 1 ≤ p) (hp2 : p ≤ 1000)
    (hx : Sl w x xs) (hy : Sl w y ys) (sx : Sm 1000000 xs) (sy : Sm 1000000 ys) (hl : ys.length = xs.length) (hm : xs.length ≤ 1000000) :
    Calls Try.prog 54 #[.int .i64 p, x, y] w fun e w' => ∃ v, e = .returned v ∧ FrI w' w.heap.size v (plusL p xs ys (p - 1)) ∧ Below w.heap.size w w' := by
  have HL := Lib.hid hl; clear hl
  have hm2 : ys.length ≤ 1000000 := by rw [HL.out]; exact hm
  have hx1 := hx
  go_enter Try.func54, Try.ntmps54
  go_wp2_with fail
  refine (sscale_c hp hp2 (by omega) (by omega) hy sy hm2).mono ?_; rintro e w21 ⟨z, rfl, hz, hb21⟩
  have hx := hx.below hb21
  go_wp2_with fail
  refine (sadd_c hp hp2 hx hz.sl sx ((scaleL_fp hp).sm (by omega) (by omega)) (by rw [scaleL_len]; exact HL.out) hm).mono ?_; rintro e w22 ⟨t, rfl, ht, hb22⟩
  have hx := hx.below hb22; have hz := hz.below hb22
  go_wp2_with fail
  go_ret
  refine ⟨_, rfl, ?_, (by repeat (first | exact Below.refl _ _ | apply blw_drew | apply blw_alloc | (refine blw_set ?_ (by first | omega | (simp; done) | (simp; omega)) _) | refine below_chain ?_ (by assumption)))⟩
  rw [zw_scale2, Int.mul_one] at ht
  exact ht.more (below_le (by repeat (first | exact Below.refl _ _ | apply blw_drew | apply blw_alloc | (refine blw_set ?_ (by first | omega | (simp; done) | (simp; omega)) _) | refine below_chain ?_ (by assumption))))
/-- A sphere's vector. -/
def sphereL (p : Int) (sq c : List Int) (r : Int) : List Int := plusL p (pointL p sq c) (infL sq.length) (-hN p r)
theorem sphere_eq {p : Int} {sq c : List Int} {r : Int} (hp : 1 ≤ p) : sphereL p sq c r = plusL p (pointL p sq c) (scaleL p (infL sq.length) (invL p 2 * r)) (p - 1) := by
  rw [zw_scale2]
  refine plusL_cong ?_
  unfold hN
  have h1 : -(r * invL p 2 % p) % p = -(r * invL p 2) % p := by
    rw [Int.emod_def (r * invL p 2) p, show -(r * invL p 2 - p * (r * invL p 2 / p)) = -(r * invL p 2) + p * (r * invL p 2 / p) by omega, Int.add_mul_emod_self_left]
  rw [h1, show invL p 2 * r * (p - 1) = -(r * invL p 2) + p * (invL p 2 * r) by rw [Int.mul_sub, Int.mul_one, Int.mul_comm (invL p 2 * r) p, Int.mul_comm r]; omega, Int.add_mul_emod_self_left]
theorem ssphere_c {p0 n2 : Int} {x0 x1 : Value} {sq0 xs1 : List Int} {w : World} (hs : isSp p0 sq0 = true) (hx0 : Sl w x0 sq0) (hx1 : Sl w x1 xs1) (hv : isV p0 sq0 xs1 = true) (hn : inR n2 0 (p0 - 1) = true) :
    Calls Try.prog 35 #[.agg #[.int .i64 p0, x0], x1, .int .i64 n2] w fun e w' => ∃ v, e = .returned v ∧ FrI w' w.heap.size v (sphereL p0 sq0 xs1 n2) ∧ Below w.heap.size w w' := by
  obtain ⟨hp, n1, n2', hf⟩ := isSp_iff.1 hs
  have hp1 := hp.lo
  have hp2 := hp.hi
  obtain ⟨a0, c0, rfl, _⟩ := id hx0
  have l1 := (isV_iff.1 hv).1
  have L1 := Lib.hid (pointL_len (p := p0) l1); clear l1
  have hr : 0 ≤ n2 ∧ n2 ≤ 12 := by unfold inR at hn; simp at hn; omega
  have hi1 := (inv_tab (a := 2) hp (by omega) (by omega)).1
  have hi2 := (invL_fp (p := p0) (a := 2) (by omega)).2
  have hse := sphere_eq (p := p0) (sq := sq0) (c := xs1) (r := n2) (by omega)
  have hinv := fun W => sinv_c (w := W) (a := 2) hp (by omega) (by omega)
  obtain ⟨j, hj⟩ : ∃ j, j = invL p0 2 := ⟨_, rfl⟩
  rw [← hj] at hi1 hi2 hse
  simp only [← hj] at hinv
  clear hj
  have HS := Lib.hid hse; clear hse
  have hm1 := mulb (A := 13) (B := 13) (k := j) (y := n2) (by omega) (by omega) (by omega) (by omega)
  go_enter Try.func35, Try.ntmps35
  have hb0 : Below w.heap.size w (w.alloc (.cells #[.int .i64 p0, .slice a0 sq0.length c0] 26)) := (by repeat (first | exact Below.refl _ _ | apply blw_drew | apply blw_alloc | (refine blw_set ?_ (by first | omega | (simp; done) | (simp; omega)) _) | refine below_chain ?_ (by assumption)))
  have hx0 := hx0.below hb0; have hx1 := hx1.below hb0
  have d00 : (w.alloc (.cells #[.int .i64 p0, .slice a0 sq0.length c0] 26)).cell? ⟨w.heap.size, 0, none⟩ = some (.int .i64 p0) := by simp [go_sem]
  have d01 : (w.alloc (.cells #[.int .i64 p0, .slice a0 sq0.length c0] 26)).cell? ⟨w.heap.size, 1, none⟩ = some (.slice a0 sq0.length c0) := by simp [go_sem]
  go_wp2_with fail
  refine region_flow [(false, [(0, 0), (1, 1), (2, 1), (3, 0), (5, 0), (6, 1), (7, 0), (8, 1), (10, 0), (12, 1), (4, 5)]), (false, [(9, 5)]), (false, [(11, 0), (13, 5)]), (false, [(14, 5)]), (false, [(15, 4), (16, 0)])] (by kernel_rfl) ?_
  refine norm_K fun K hK => ?_
  change wpList _ _ _ [_, _, _, _, _, _, _, _, _, _, _] _ _
  have hb1 : Below (w.alloc (.cells #[.int .i64 p0, .slice a0 sq0.length c0] 26)).heap.size (w.alloc (.cells #[.int .i64 p0, .slice a0 sq0.length c0] 26)) (w.alloc (.cells #[.int .i64 p0, .slice a0 sq0.length c0] 26)).drew := (by repeat (first | exact Below.refl _ _ | apply blw_drew | apply blw_alloc | (refine blw_set ?_ (by first | omega | (simp; done) | (simp; omega)) _) | refine below_chain ?_ (by assumption)))
  have hx0 := hx0.below hb1; have hx1 := hx1.below hb1; have d00 := kept hb1 d00; have d01 := kept hb1 d01
  go_wp2_with fail
  refine (spoint_c hs hx0 hx1 hv).mono ?_; rintro e w2 ⟨y, rfl, hy, hb2⟩
  have hx0 := hx0.below hb2; have hx1 := hx1.below hb2; have d00 := kept hb2 d00; have d01 := kept hb2 d01
  go_wp2_with fail
  have hz0 : Below (w.alloc (.cells #[.int .i64 p0, .slice a0 sq0.length c0] 26)).drew.heap.size (w.alloc (.cells #[.int .i64 p0, .slice a0 sq0.length c0] 26)).drew w2 := (by repeat (first | exact Below.refl _ _ | apply blw_drew | apply blw_alloc | (refine blw_set ?_ (by first | omega | (simp; done) | (simp; omega)) _) | refine below_chain ?_ (by assumption)))
  first | (refine hK _ _ ⟨hz0, ?_⟩; clear hK K) | refine ⟨hz0, ?_⟩
  clear hz0
  refine norm_K fun K hK => ?_
  change wpList _ _ _ [_] _ _
  go_wp2_with fail
  refine (hinv _).mono ?_; rintro e w3 ⟨rfl, rfl⟩
  go_wp2_with fail
  have hz1 : Below (w.alloc (.cells #[.int .i64 p0, .slice a0 sq0.length c0] 26)).drew.heap.size (w.alloc (.cells #[.int .i64 p0, .slice a0 sq0.length c0] 26)).drew w2 := (by repeat (first | exact Below.refl _ _ | apply blw_drew | apply blw_alloc | (refine blw_set ?_ (by first | omega | (simp; done) | (simp; omega)) _) | refine below_chain ?_ (by assumption)))
  first | (refine hK _ _ ⟨hz1, ?_⟩; clear hK K) | refine ⟨hz1, ?_⟩
  clear hz1
  refine norm_K fun K hK => ?_
  change wpList _ _ _ [_, _] _ _
  go_wp2_with fail
  refine (sinf_c hx0 hs).mono ?_; rintro e w4 ⟨z, rfl, hz, hb4⟩
  have hx0 := hx0.below hb4; have hx1 := hx1.below hb4; have d00 := kept hb4 d00; have d01 := kept hb4 d01; have hy := hy.below hb4
  go_wp2_with fail
  have hz2 : Below (w.alloc (.cells #[.int .i64 p0, .slice a0 sq0.length c0] 26)).drew.heap.size (w.alloc (.cells #[.int .i64 p0, .slice a0 sq0.length c0] 26)).drew w4 := (by repeat (first | exact Below.refl _ _ | apply blw_drew | apply blw_alloc | (refine blw_set ?_ (by first | omega | (simp; done) | (simp; omega)) _) | refine below_chain ?_ (by assumption)))
  first | (refine hK _ _ ⟨hz2, ?_⟩; clear hK K) | refine ⟨hz2, ?_⟩
  clear hz2
  refine norm_K fun K hK => ?_
  change wpList _ _ _ [_] _ _
  go_wp2_with fail
  refine (sscale_c (by omega) (by omega) (by omega) (by omega) hz.sl ((infL_fp hp1).sm (by omega) (by omega)) (by rw [infL_len]; omega)).mono ?_; rintro e w5 ⟨u, rfl, hu, hb5⟩
  have hx0 := hx0.below hb5; have hx1 := hx1.below hb5; have d00 := kept hb5 d00; have d01 := kept hb5 d01; have hy := hy.below hb5; have hz := hz.below hb5
  go_wp2_with fail
  have hz3 : Below (w.alloc (.cells #[.int .i64 p0, .slice a0 sq0.length c0] 26)).drew.heap.size (w.alloc (.cells #[.int .i64 p0, .slice a0 sq0.length c0] 26)).drew w5 := (by repeat (first | exact Below.refl _ _ | apply blw_drew | apply blw_alloc | (refine blw_set ?_ (by first | omega | (simp; done) | (simp; omega)) _) | refine below_chain ?_ (by assumption)))
  first | (refine hK _ _ ⟨hz3, ?_⟩; clear hK K) | refine ⟨hz3, ?_⟩
  clear hz3
  refine norm_K fun K hK => ?_
  change wpList _ _ _ [_, _] _ _
  go_wp2_with fail
  refine (sminus_c (by omega) (by omega) hy.sl hu.sl ((pointL_fp (by omega)).sm (by omega) (by omega)) ((scaleL_fp (by omega)).sm (by omega) (by omega)) (by rw [scaleL_len, infL_len, L1.out]) (by rw [L1.out]; omega)).mono ?_; rintro e w6 ⟨t, rfl, ht, hb6⟩
  have hx0 := hx0.below hb6; have hx1 := hx1.below hb6; have d00 := kept hb6 d00; have d01 := kept hb6 d01; have hy := hy.below hb6; have hz := hz.below hb6; have hu := hu.below hb6
  go_wp2_with fail
  first | (refine hK _ _ ⟨rfl, ?_⟩; clear hK K) | refine ⟨rfl, ?_⟩
  go_wp2_with fail
  go_ret
  refine ⟨_, rfl, ?_, (by repeat (first | exact Below.refl _ _ | apply blw_drew | apply blw_alloc | (refine blw_set ?_ (by first | omega | (simp; done) | (simp; omega)) _) | refine below_chain ?_ (by assumption)))⟩
  rw [HS.out]
  exact ht.more (below_le (by repeat (first | exact Below.refl _ _ | apply blw_drew | apply blw_alloc | (refine blw_set ?_ (by first | omega | (simp; done) | (simp; omega)) _) | refine below_chain ?_ (by assumption))))
/-- A place: the first numbers of a finite vector, divided by its weight. -/
def placeL (p : Int) (sq x : List Int) : List Int := scaleL p (x.take sq.length) (invL p (weightL p sq x))
theorem place_fin {p : Int} {sq x : List Int} : placeL p sq x = (finL p sq x).take sq.length := by
  unfold placeL finL scaleL; rw [List.map_take]
end Go.Proofs.Ytklnpikkkekonaa
