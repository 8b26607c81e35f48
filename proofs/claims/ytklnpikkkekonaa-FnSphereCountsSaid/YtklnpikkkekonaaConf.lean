/-
  Spheres, finite vectors and reflected vectors, the program's and the reference's.
-/
import Derived.Test.YtklnpikkkekonaaSpec
namespace Go.Proofs.Ytklnpikkkekonaa
open Go.RowKit

/-- The weight of a vector of the extension: the opposite of its product with infinity. -/
def weightL (p : Int) (sq x : List Int) : Int := -pairL p (extL p sq) x (infL sq.length) % p
theorem weightL_fp {p : Int} {sq x : List Int} (hp : 1 ≤ p) : 0 ≤ weightL p sq x ∧ weightL p sq x < p := mod_fp hp
theorem weight_zero {p : Int} {sq x : List Int} (hp : 1 ≤ p) : weightL p sq x = 0 ↔ pairL p (extL p sq) x (infL sq.length) = 0 := by
  have h := pairL_fp (p := p) (sq := extL p sq) (v := x) (w := infL sq.length) hp
  unfold weightL
  constructor
  · intro h1
    have h3 : p ∣ pairL p (extL p sq) x (infL sq.length) := by
      have := Int.dvd_of_emod_eq_zero h1
      exact Int.dvd_neg.1 this
    rw [← Int.emod_eq_of_lt h.1 h.2]; exact Int.emod_eq_zero_of_dvd h3
  · intro h1; rw [h1]; simp
def onL (p : Int) (sq x v : List Int) : Bool := pairL p (extL p sq) x (pointL p sq v) == 0
theorem ison_c {p0 : Int} {x0 x1 x2 : Value} {sq0 xs1 xs2 : List Int} {w : World} (hs : isSp p0 sq0 = true) (hn : ¬ 4 < sq0.length) (hx0 : Sl w x0 sq0) (hx1 : Sl w x1 xs1) (hx2 : Sl w x2 xs2) (hv : isV p0 (extL p0 sq0) xs1 = true) (hv2 : isV p0 sq0 xs2 = true) :
    Calls Try.prog 19 #[.agg #[.int .i64 p0, x0], x1, x2] w fun e w' => e = .returned (.bool (onL p0 sq0 xs1 xs2)) ∧ Below w.heap.size w w' := by
  obtain ⟨hp, n1, n2, hf⟩ := isSp_iff.1 hs
  obtain ⟨l1, f1⟩ := isV_iff.1 hv
  have l2 := (isV_iff.1 hv2).1
  have hp1 := hp.lo
  have hp2 := hp.hi
  obtain ⟨a0, c0, rfl, _⟩ := id hx0
  have m1 : (extL p0 sq0).length = sq0.length + 2 := extL_len
  have m3 : (pointL p0 sq0 xs2).length = sq0.length + 2 := pointL_len l2
  have m2 : xs1.length ≤ 8 := by omega
  have L1 := Lib.hid l1; have M1 := Lib.hid m1; have M3 := Lib.hid m3; clear l1 m1 l2 m3
  unfold onL
  go_enter Try.func19, Try.ntmps19
  have hb0 : Below w.heap.size w (w.alloc (.cells #[.int .i64 p0, .slice a0 sq0.length c0] 26)) := (by repeat (first | exact Below.refl _ _ | apply blw_drew | apply blw_alloc | (refine blw_set ?_ (by first | omega | (simp; done) | (simp; omega)) _) | refine below_chain ?_ (by assumption)))
  have hx0 := hx0.below hb0; have hx1 := hx1.below hb0; have hx2 := hx2.below hb0
  have d00 : (w.alloc (.cells #[.int .i64 p0, .slice a0 sq0.length c0] 26)).cell? ⟨w.heap.size, 0, none⟩ = some (.int .i64 p0) := by simp [go_sem]
  have d01 : (w.alloc (.cells #[.int .i64 p0, .slice a0 sq0.length c0] 26)).cell? ⟨w.heap.size, 1, none⟩ = some (.slice a0 sq0.length c0) := by simp [go_sem]
  go_wp2_with fail
  refine region_flow [(false, [(0, 1), (2, 0), (3, 1), (4, 0), (1, 5)]), (false, [(5, 4), (6, 4), (7, 0), (8, 0)])] (by kernel_rfl) ?_
  refine norm_K fun K hK => ?_
  change wpList _ _ _ [_, _, _, _, _] _ _
  have hb1 : Below (w.alloc (.cells #[.int .i64 p0, .slice a0 sq0.length c0] 26)).heap.size (w.alloc (.cells #[.int .i64 p0, .slice a0 sq0.length c0] 26)) (w.alloc (.cells #[.int .i64 p0, .slice a0 sq0.length c0] 26)).drew := (by repeat (first | exact Below.refl _ _ | apply blw_drew | apply blw_alloc | (refine blw_set ?_ (by first | omega | (simp; done) | (simp; omega)) _) | refine below_chain ?_ (by assumption)))
  have hx0 := hx0.below hb1; have hx1 := hx1.below hb1; have hx2 := hx2.below hb1; have d00 := kept hb1 d00; have d01 := kept hb1 d01
  go_wp2_with fail
  refine (ext_c hx0 hs).mono ?_; rintro e w2 ⟨y, rfl, hy, hb2⟩
  have hx0 := hx0.below hb2; have hx1 := hx1.below hb2; have hx2 := hx2.below hb2; have d00 := kept hb2 d00; have d01 := kept hb2 d01
  go_wp2_with fail
  have hz0 : Below (w.alloc (.cells #[.int .i64 p0, .slice a0 sq0.length c0] 26)).drew.heap.size (w.alloc (.cells #[.int .i64 p0, .slice a0 sq0.length c0] 26)).drew w2 := (by repeat (first | exact Below.refl _ _ | apply blw_drew | apply blw_alloc | (refine blw_set ?_ (by first | omega | (simp; done) | (simp; omega)) _) | refine below_chain ?_ (by assumption)))
  first | (refine hK _ _ ⟨hz0, ?_⟩; clear hK K) | refine ⟨hz0, ?_⟩
  clear hz0
  refine norm_K fun K hK => ?_
  change wpList _ _ _ [_, _, _, _] _ _
  go_wp2_with fail
  refine (point_c hs hx0 hx2 hv2).mono ?_; rintro e w3 ⟨z, rfl, hz, hb3⟩
  have hx0 := hx0.below hb3; have hx1 := hx1.below hb3; have hx2 := hx2.below hb3; have d00 := kept hb3 d00; have d01 := kept hb3 d01; have hy := hy.below hb3
  go_wp2_with fail
  refine (pair_c (by omega) (by omega) hy.sl hx1 hz.sl ((extL_fp hp1 hf).sm (by omega) (by omega)) (f1.sm (by omega) (by omega)) ((pointL_fp (by omega)).sm (by omega) (by omega)) L1.out.symm (by rw [L1.out, M3.out, M1.out]) (by rw [M1.out]; omega) (by omega)).mono ?_; rintro e w4 ⟨rfl, hb4⟩
  have hx0 := hx0.below hb4; have hx1 := hx1.below hb4; have hx2 := hx2.below hb4; have d00 := kept hb4 d00; have d01 := kept hb4 d01; have hy := hy.below hb4; have hz := hz.below hb4
  go_wp2_with fail
  first | (refine hK _ _ ⟨rfl, ?_⟩; clear hK K) | refine ⟨rfl, ?_⟩
  go_wp2_with fail
  go_ret
  exact ⟨rfl, (by repeat (first | exact Below.refl _ _ | apply blw_drew | apply blw_alloc | (refine blw_set ?_ (by first | omega | (simp; done) | (simp; omega)) _) | refine below_chain ?_ (by assumption)))⟩
theorem son_c {p0 : Int} {x0 x1 x2 : Value} {sq0 xs1 xs2 : List Int} {w : World} (hs : isSp p0 sq0 = true) (hn : ¬ 4 < sq0.length) (hx0 : Sl w x0 sq0) (hx1 : Sl w x1 xs1) (hx2 : Sl w x2 xs2) (hv : isV p0 (extL p0 sq0) xs1 = true) (hv2 : isV p0 sq0 xs2 = true) :
    Calls Try.prog 21 #[.agg #[.int .i64 p0, x0], x1, x2] w fun e w' => e = .returned (.bool (onL p0 sq0 xs1 xs2)) ∧ Below w.heap.size w w' := by
  obtain ⟨hp, n1, n2, hf⟩ := isSp_iff.1 hs
  obtain ⟨l1, f1⟩ := isV_iff.1 hv
  have l2 := (isV_iff.1 hv2).1
  have hp1 := hp.lo
  have hp2 := hp.hi
  obtain ⟨a0, c0, rfl, _⟩ := id hx0
  have m1 : (extL p0 sq0).length = sq0.length + 2 := extL_len
  have m3 : (pointL p0 sq0 xs2).length = sq0.length + 2 := pointL_len l2
  have m2 : xs1.length ≤ 8 := by omega
  have L1 := Lib.hid l1; have M1 := Lib.hid m1; have M3 := Lib.hid m3; clear l1 m1 l2 m3
  unfold onL
  go_enter Try.func21, Try.ntmps21
  have hb0 : Below w.heap.size w (w.alloc (.cells #[.int .i64 p0, .slice a0 sq0.length c0] 26)) := (by repeat (first | exact Below.refl _ _ | apply blw_drew | apply blw_alloc | (refine blw_set ?_ (by first | omega | (simp; done) | (simp; omega)) _) | refine below_chain ?_ (by assumption)))
  have hx0 := hx0.below hb0; have hx1 := hx1.below hb0; have hx2 := hx2.below hb0
  have d00 : (w.alloc (.cells #[.int .i64 p0, .slice a0 sq0.length c0] 26)).cell? ⟨w.heap.size, 0, none⟩ = some (.int .i64 p0) := by simp [go_sem]
  have d01 : (w.alloc (.cells #[.int .i64 p0, .slice a0 sq0.length c0] 26)).cell? ⟨w.heap.size, 1, none⟩ = some (.slice a0 sq0.length c0) := by simp [go_sem]
  go_wp2_with fail
  refine region_flow [(false, [(0, 1), (2, 0), (3, 1), (4, 0), (1, 5)]), (false, [(5, 4), (6, 4), (7, 0), (8, 0)])] (by kernel_rfl) ?_
  refine norm_K fun K hK => ?_
  change wpList _ _ _ [_, _, _, _, _] _ _
  have hb1 : Below (w.alloc (.cells #[.int .i64 p0, .slice a0 sq0.length c0] 26)).heap.size (w.alloc (.cells #[.int .i64 p0, .slice a0 sq0.length c0] 26)) (w.alloc (.cells #[.int .i64 p0, .slice a0 sq0.length c0] 26)).drew := (by repeat (first | exact Below.refl _ _ | apply blw_drew | apply blw_alloc | (refine blw_set ?_ (by first | omega | (simp; done) | (simp; omega)) _) | refine below_chain ?_ (by assumption)))
  have hx0 := hx0.below hb1; have hx1 := hx1.below hb1; have hx2 := hx2.below hb1; have d00 := kept hb1 d00; have d01 := kept hb1 d01
  go_wp2_with fail
  refine (sext_c hx0 hs).mono ?_; rintro e w2 ⟨y, rfl, hy, hb2⟩
  have hx0 := hx0.below hb2; have hx1 := hx1.below hb2; have hx2 := hx2.below hb2; have d00 := kept hb2 d00; have d01 := kept hb2 d01
  go_wp2_with fail
  have hz0 : Below (w.alloc (.cells #[.int .i64 p0, .slice a0 sq0.length c0] 26)).drew.heap.size (w.alloc (.cells #[.int .i64 p0, .slice a0 sq0.length c0] 26)).drew w2 := (by repeat (first | exact Below.refl _ _ | apply blw_drew | apply blw_alloc | (refine blw_set ?_ (by first | omega | (simp; done) | (simp; omega)) _) | refine below_chain ?_ (by assumption)))
  first | (refine hK _ _ ⟨hz0, ?_⟩; clear hK K) | refine ⟨hz0, ?_⟩
  clear hz0
  refine norm_K fun K hK => ?_
  change wpList _ _ _ [_, _, _, _] _ _
  go_wp2_with fail
  refine (spoint_c hs hx0 hx2 hv2).mono ?_; rintro e w3 ⟨z, rfl, hz, hb3⟩
  have hx0 := hx0.below hb3; have hx1 := hx1.below hb3; have hx2 := hx2.below hb3; have d00 := kept hb3 d00; have d01 := kept hb3 d01; have hy := hy.below hb3
  go_wp2_with fail
  refine (spair_c (by omega) hp2 hy.sl hx1 hz.sl (extL_fp hp1 hf) f1 (pointL_fp (by omega)) L1.out.symm (by rw [L1.out, M3.out, M1.out]) (by rw [M1.out]; omega) (by omega)).mono ?_; rintro e w4 ⟨rfl, hb4⟩
  have hx0 := hx0.below hb4; have hx1 := hx1.below hb4; have hx2 := hx2.below hb4; have d00 := kept hb4 d00; have d01 := kept hb4 d01; have hy := hy.below hb4; have hz := hz.below hb4
  go_wp2_with fail
  first | (refine hK _ _ ⟨rfl, ?_⟩; clear hK K) | refine ⟨rfl, ?_⟩
  go_wp2_with fail
  go_ret
  exact ⟨rfl, (by repeat (first | exact Below.refl _ _ | apply blw_drew | apply blw_alloc | (refine blw_set ?_ (by first | omega | (simp; done) | (simp; omega)) _) | refine below_chain ?_ (by assumption)))⟩
/-- A finite vector, divided by its weight. -/
def finL (p : Int) (sq x : List Int) : List Int := scaleL p x (invL p (weightL p sq x))
theorem finite_c {p0 : Int} {x0 x1 : Value} {sq0 xs1 : List Int} {w : World} (hs : isSp p0 sq0 = true) (hn : ¬ 4 < sq0.length) (hx0 : Sl w x0 sq0) (hx1 : Sl w x1 xs1) (hv : isV p0 (extL p0 sq0) xs1 = true) :
    Calls Try.prog 22 #[.agg #[.int .i64 p0, x0], x1] w fun e w' => ∃ v, e = .returned (.tuple #[v, .bool (weightL p0 sq0 xs1 != 0)]) ∧ (weightL p0 sq0 xs1 ≠ 0 → FrI w' w.heap.size v (finL p0 sq0 xs1)) ∧ (weightL p0 sq0 xs1 = 0 → v = .slice none 0 0) ∧ Below w.heap.size w w' := by
  obtain ⟨hp, n1, n2, hf⟩ := isSp_iff.1 hs
  obtain ⟨l1, f1⟩ := isV_iff.1 hv
  have hp1 := hp.lo
  have hp2 := hp.hi
  obtain ⟨a0, c0, rfl, _⟩ := id hx0
  have m1 : (extL p0 sq0).length = sq0.length + 2 := extL_len
  have m2 : xs1.length ≤ 8 := by omega
  have L1 := Lib.hid l1; have M1 := Lib.hid m1; clear l1 m1
  have hq := pairL_fp (p := p0) (sq := extL p0 sq0) (v := xs1) (w := infL sq0.length) (by omega)
  have hi := invL_fp (p := p0) (a := weightL p0 sq0 xs1) (by omega)
  have hwt := weightL_fp (p := p0) (sq := sq0) (x := xs1) (by omega)
  have hz0 := weight_zero (p := p0) (sq := sq0) (x := xs1) (by omega)
  have hwd : weightL p0 sq0 xs1 = -pairL p0 (extL p0 sq0) xs1 (infL sq0.length) % p0 := rfl
  have hfd : finL p0 sq0 xs1 = scaleL p0 xs1 (invL p0 (weightL p0 sq0 xs1)) := rfl
  have hpr : ∀ (W : World) (y z : Value), Sl W y (extL p0 sq0) → Sl W x1 xs1 → Sl W z (infL sq0.length) → Calls Try.prog 38 #[.agg #[.int .i64 p0, y], x1, z] W fun e w' => e = .returned (.int .i64 (pairL p0 (extL p0 sq0) xs1 (infL sq0.length))) ∧ Below W.heap.size W w' := fun W y z hy hx hz =>
    pair_c (by omega) (by omega) hy hx hz ((extL_fp hp1 hf).sm (by omega) (by omega)) (f1.sm (by omega) (by omega)) ((infL_fp hp1).sm (by omega) (by omega)) L1.out.symm (by rw [infL_len, L1.out, M1.out]) (by rw [M1.out]; omega) (by omega)
  obtain ⟨k, hk⟩ : ∃ k, k = pairL p0 (extL p0 sq0) xs1 (infL sq0.length) := ⟨_, rfl⟩
  obtain ⟨t, ht⟩ : ∃ t, t = weightL p0 sq0 xs1 := ⟨_, rfl⟩
  rw [← ht] at hi hwt hz0 hwd hfd ⊢
  rw [← hk] at hq hz0 hwd
  simp only [← hk] at hpr
  clear hk ht
  have HW := Lib.hid hwd; have HF := Lib.hid hfd; have HZ := Lib.hid hz0; clear hwd hfd hz0
  by_cases h0 : k = 0
  · obtain rfl := HZ.out.2 h0
    subst h0
    go_enter Try.func22, Try.ntmps22
    have hb0 : Below w.heap.size w (w.alloc (.cells #[.int .i64 p0, .slice a0 sq0.length c0] 26)) := (by repeat (first | exact Below.refl _ _ | apply blw_drew | apply blw_alloc | (refine blw_set ?_ (by first | omega | (simp; done) | (simp; omega)) _) | refine below_chain ?_ (by assumption)))
    have hx0 := hx0.below hb0; have hx1 := hx1.below hb0
    have d00 : (w.alloc (.cells #[.int .i64 p0, .slice a0 sq0.length c0] 26)).cell? ⟨w.heap.size, 0, none⟩ = some (.int .i64 p0) := by simp [go_sem]
    have d01 : (w.alloc (.cells #[.int .i64 p0, .slice a0 sq0.length c0] 26)).cell? ⟨w.heap.size, 1, none⟩ = some (.slice a0 sq0.length c0) := by simp [go_sem]
    go_wp2_with fail
    refine region_flow [(false, [(0, 1), (2, 0), (3, 1), (1, 5)]), (false, [(4, 4), (5, 4), (6, 0)])] (by kernel_rfl) ?_
    refine norm_K fun K hK => ?_
    change wpList _ _ _ [_, _, _, _] _ _
    have hb1 : Below (w.alloc (.cells #[.int .i64 p0, .slice a0 sq0.length c0] 26)).heap.size (w.alloc (.cells #[.int .i64 p0, .slice a0 sq0.length c0] 26)) (w.alloc (.cells #[.int .i64 p0, .slice a0 sq0.length c0] 26)).drew := (by repeat (first | exact Below.refl _ _ | apply blw_drew | apply blw_alloc | (refine blw_set ?_ (by first | omega | (simp; done) | (simp; omega)) _) | refine below_chain ?_ (by assumption)))
    have hx0 := hx0.below hb1; have hx1 := hx1.below hb1; have d00 := kept hb1 d00; have d01 := kept hb1 d01
    go_wp2_with fail
    refine (ext_c hx0 hs).mono ?_; rintro e w2 ⟨y, rfl, hy, hb2⟩
    have hx0 := hx0.below hb2; have hx1 := hx1.below hb2; have d00 := kept hb2 d00; have d01 := kept hb2 d01
    go_wp2_with fail
    have hz0 : Below (w.alloc (.cells #[.int .i64 p0, .slice a0 sq0.length c0] 26)).drew.heap.size (w.alloc (.cells #[.int .i64 p0, .slice a0 sq0.length c0] 26)).drew w2 := (by repeat (first | exact Below.refl _ _ | apply blw_drew | apply blw_alloc | (refine blw_set ?_ (by first | omega | (simp; done) | (simp; omega)) _) | refine below_chain ?_ (by assumption)))
    first | (refine hK _ _ ⟨hz0, ?_⟩; clear hK K) | refine ⟨hz0, ?_⟩
    clear hz0
    refine norm_K fun K hK => ?_
    change wpList _ _ _ [_, _, _] _ _
    go_wp2_with fail
    refine (inf_c hx0 hs).mono ?_; rintro e w3 ⟨z, rfl, hz, hb3⟩
    have hx0 := hx0.below hb3; have hx1 := hx1.below hb3; have d00 := kept hb3 d00; have d01 := kept hb3 d01; have hy := hy.below hb3
    go_wp2_with fail
    refine (hpr _ _ _ hy.sl hx1 hz.sl).mono ?_; rintro e w4 ⟨rfl, hb4⟩
    have hx0 := hx0.below hb4; have hx1 := hx1.below hb4; have d00 := kept hb4 d00; have d01 := kept hb4 d01; have hy := hy.below hb4; have hz := hz.below hb4
    go_wp2_with fail
    first | (refine hK _ _ ⟨rfl, ?_⟩; clear hK K) | refine ⟨rfl, ?_⟩
    go_wp2_with fail
    go_ret2
    exact ⟨_, rfl, fun h => absurd rfl h, fun _ => rfl, (by repeat (first | exact Below.refl _ _ | apply blw_drew | apply blw_alloc | (refine blw_set ?_ (by first | omega | (simp; done) | (simp; omega)) _) | refine below_chain ?_ (by assumption)))⟩
  · have ht0 : t ≠ 0 := fun h => h0 (HZ.out.1 h)
    have hne : (k == 0) = false := by simpa using h0
    have hne2 : (t != 0) = true := by simpa using ht0
    rw [hne2]
    go_enter Try.func22, Try.ntmps22
    have hb0 : Below w.heap.size w (w.alloc (.cells #[.int .i64 p0, .slice a0 sq0.length c0] 26)) := (by repeat (first | exact Below.refl _ _ | apply blw_drew | apply blw_alloc | (refine blw_set ?_ (by first | omega | (simp; done) | (simp; omega)) _) | refine below_chain ?_ (by assumption)))
    have hx0 := hx0.below hb0; have hx1 := hx1.below hb0
    have d00 : (w.alloc (.cells #[.int .i64 p0, .slice a0 sq0.length c0] 26)).cell? ⟨w.heap.size, 0, none⟩ = some (.int .i64 p0) := by simp [go_sem]
    have d01 : (w.alloc (.cells #[.int .i64 p0, .slice a0 sq0.length c0] 26)).cell? ⟨w.heap.size, 1, none⟩ = some (.slice a0 sq0.length c0) := by simp [go_sem]
    go_wp2_with fail
    refine region_flow [(false, [(0, 1), (2, 0), (3, 1), (1, 5)]), (false, [(4, 4), (5, 4), (6, 0)])] (by kernel_rfl) ?_
    refine norm_K fun K hK => ?_
    change wpList _ _ _ [_, _, _, _] _ _
    have hb1 : Below (w.alloc (.cells #[.int .i64 p0, .slice a0 sq0.length c0] 26)).heap.size (w.alloc (.cells #[.int .i64 p0, .slice a0 sq0.length c0] 26)) (w.alloc (.cells #[.int .i64 p0, .slice a0 sq0.length c0] 26)).drew := (by repeat (first | exact Below.refl _ _ | apply blw_drew | apply blw_alloc | (refine blw_set ?_ (by first | omega | (simp; done) | (simp; omega)) _) | refine below_chain ?_ (by assumption)))
    have hx0 := hx0.below hb1; have hx1 := hx1.below hb1; have d00 := kept hb1 d00; have d01 := kept hb1 d01
    go_wp2_with fail
    refine (ext_c hx0 hs).mono ?_; rintro e w2 ⟨y, rfl, hy, hb2⟩
    have hx0 := hx0.below hb2; have hx1 := hx1.below hb2; have d00 := kept hb2 d00; have d01 := kept hb2 d01
    go_wp2_with fail
    have hz0 : Below (w.alloc (.cells #[.int .i64 p0, .slice a0 sq0.length c0] 26)).drew.heap.size (w.alloc (.cells #[.int .i64 p0, .slice a0 sq0.length c0] 26)).drew w2 := (by repeat (first | exact Below.refl _ _ | apply blw_drew | apply blw_alloc | (refine blw_set ?_ (by first | omega | (simp; done) | (simp; omega)) _) | refine below_chain ?_ (by assumption)))
    first | (refine hK _ _ ⟨hz0, ?_⟩; clear hK K) | refine ⟨hz0, ?_⟩
    clear hz0
    refine norm_K fun K hK => ?_
    change wpList _ _ _ [_, _, _] _ _
    go_wp2_with fail
    refine (inf_c hx0 hs).mono ?_; rintro e w3 ⟨z, rfl, hz, hb3⟩
    have hx0 := hx0.below hb3; have hx1 := hx1.below hb3; have d00 := kept hb3 d00; have d01 := kept hb3 d01; have hy := hy.below hb3
    go_wp2_with fail
    refine (hpr _ _ _ hy.sl hx1 hz.sl).mono ?_; rintro e w4 ⟨rfl, hb4⟩
    have hx0 := hx0.below hb4; have hx1 := hx1.below hb4; have d00 := kept hb4 d00; have d01 := kept hb4 d01; have hy := hy.below hb4; have hz := hz.below hb4
    go_wp2_with fail
    first | (refine hK _ _ ⟨rfl, ?_⟩; clear hK K) | refine ⟨rfl, ?_⟩
    go_wp2_with fail
    refine region_flow [(false, [(0, 1), (2, 0), (3, 1), (5, 1), (7, 0), (8, 0), (1, 5)]), (false, [(4, 5)]), (false, [(6, 4), (9, 4), (10, 4), (11, 4), (12, 0), (13, 0)])] (by kernel_rfl) ?_
    refine norm_K fun K hK => ?_
    change wpList _ _ _ [_, _, _, _, _, _, _] _ _
    have hb5 : Below w4.heap.size w4 w4.drew := (by repeat (first | exact Below.refl _ _ | apply blw_drew | apply blw_alloc | (refine blw_set ?_ (by first | omega | (simp; done) | (simp; omega)) _) | refine below_chain ?_ (by assumption)))
    have hx0 := hx0.below hb5; have hx1 := hx1.below hb5; have d00 := kept hb5 d00; have d01 := kept hb5 d01; have hy := hy.below hb5; have hz := hz.below hb5
    go_wp2_with fail
    refine (spfield_c).mono ?_; rintro e w6 ⟨rfl, hb6⟩
    have hx0 := hx0.below hb6; have hx1 := hx1.below hb6; have d00 := kept hb6 d00; have d01 := kept hb6 d01; have hy := hy.below hb6; have hz := hz.below hb6
    go_wp2_with fail
    have hz0 : Below w4.drew.heap.size w4.drew w6 := (by repeat (first | exact Below.refl _ _ | apply blw_drew | apply blw_alloc | (refine blw_set ?_ (by first | omega | (simp; done) | (simp; omega)) _) | refine below_chain ?_ (by assumption)))
    first | (refine hK _ _ ⟨hz0, ?_⟩; clear hK K) | refine ⟨hz0, ?_⟩
    clear hz0
    refine norm_K fun K hK => ?_
    change wpList _ _ _ [_] _ _
    go_wp2_with fail
    refine (spfield_c).mono ?_; rintro e w7 ⟨rfl, hb7⟩
    have hx0 := hx0.below hb7; have hx1 := hx1.below hb7; have d00 := kept hb7 d00; have d01 := kept hb7 d01; have hy := hy.below hb7; have hz := hz.below hb7
    go_wp2_with fail
    have hz1 : Below w4.drew.heap.size w4.drew w7 := (by repeat (first | exact Below.refl _ _ | apply blw_drew | apply blw_alloc | (refine blw_set ?_ (by first | omega | (simp; done) | (simp; omega)) _) | refine below_chain ?_ (by assumption)))
    first | (refine hK _ _ ⟨hz1, ?_⟩; clear hK K) | refine ⟨hz1, ?_⟩
    clear hz1
    refine norm_K fun K hK => ?_
    change wpList _ _ _ [_, _, _, _, _, _] _ _
    go_wp2_with fail
    refine (spfield_c).mono ?_; rintro e w8 ⟨rfl, hb8⟩
    have hx0 := hx0.below hb8; have hx1 := hx1.below hb8; have d00 := kept hb8 d00; have d01 := kept hb8 d01; have hy := hy.below hb8; have hz := hz.below hb8
    go_wp2_with fail
    refine (num_c (by omega) (by omega)).mono ?_; rintro e w9 ⟨rfl, rfl⟩
    rw [← HW.out]
    go_wp2_with fail
    refine (inv_c (by omega) (by omega) (by omega) (by omega)).mono ?_; rintro e w10 ⟨rfl, rfl⟩
    go_wp2_with fail
    refine (scaled_c (by omega) (by omega) (by omega) (by omega) hx1 (f1.sm (by omega) (by omega)) (by omega)).mono ?_; rintro e w11 ⟨u, rfl, hu, hb11⟩
    have hx0 := hx0.below hb11; have hx1 := hx1.below hb11; have d00 := kept hb11 d00; have d01 := kept hb11 d01; have hy := hy.below hb11; have hz := hz.below hb11
    go_wp2_with fail
    first | (refine hK _ _ ⟨rfl, ?_⟩; clear hK K) | refine ⟨rfl, ?_⟩
    go_wp2_with fail
    go_ret2
    exact ⟨_, rfl, fun _ => by rw [HF.out]; exact hu.more (below_le (by repeat (first | exact Below.refl _ _ | apply blw_drew | apply blw_alloc | (refine blw_set ?_ (by first | omega | (simp; done) | (simp; omega)) _) | refine below_chain ?_ (by assumption)))), fun h => absurd h ht0, (by repeat (first | exact Below.refl _ _ | apply blw_drew | apply blw_alloc | (refine blw_set ?_ (by first | omega | (simp; done) | (simp; omega)) _) | refine below_chain ?_ (by assumption)))⟩
end Go.Proofs.Ytklnpikkkekonaa
