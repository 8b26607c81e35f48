/-
  IsLocalTriple: the law.
-/
import Derived.Test.YtmplpoccalccoaaTlE
import Derived.Test.YtmplpoccalccoaaLawTr
import Derived.Test.YtmplpoccalccoaaLawE
namespace Go.Proofs.Ytmplpoccalccoaa
open Go.RowKit

set_option maxHeartbeats 2000000 in
set_option maxRecDepth 100000 in
theorem law_IsLocalTriple {p0 : Int} {x0 : Value} {st0 : List Int} {x1 : Value} {A1 B1 C1 : List (List Int)} {w : World} (hx0 : Sl w x0 st0) (hb0_ : st0.length ≤ 9223372036854775807) (hx1 : Tri w x1 A1 B1 C1) (hb1_ : Tbig A1 B1 C1) :
    Calls Try.prog 4 #[.agg #[.int .i64 p0, x0], x1] w fun e w' => e = .returned (.bool true) ∧ Below w.heap.size w w' := by
  obtain ⟨a0, c0, rfl, _⟩ := id hx0
  obtain ⟨ta1, tb1, tc1, rfl, h11, h21, h31⟩ := id hx1
  obtain ⟨a1, c1, rfl, _⟩ := id h11; obtain ⟨b1, e1, rfl, _⟩ := id h21; obtain ⟨f1, g1, rfl, _⟩ := id h31; clear h11 h21 h31
  obtain ⟨z0, hz0_⟩ : ∃ z, z = szI 1048576 st0.length := ⟨_, rfl⟩
  have hzb0 := szI_bd (left := 1048576) (n := st0.length) (by omega) (by omega)
  rw [← hz0_] at hzb0
  have HZ0 := Lib.hid hz0_; clear hz0_
  by_cases hs0 : z0 < 0
  case pos =>
    go_enter Try.func4, Try.ntmps4
    have hb0 : Below w.heap.size w ((w.alloc (.cells #[.int .i64 p0, .slice a0 st0.length c0] 24)).alloc (.cells #[.slice a1 A1.length c1, .slice b1 B1.length e1, .slice f1 C1.length g1] 27)) := (by repeat (first | exact Below.refl _ _ | apply blw_drew | apply blw_alloc | (refine blw_set ?_ (by first | omega | (simp; done) | (simp; omega)) _) | refine below_chain ?_ (by assumption)))
    have hx0 := hx0.below hb0; have hx1 := hx1.below hb0
    have d00 : ((w.alloc (.cells #[.int .i64 p0, .slice a0 st0.length c0] 24)).alloc (.cells #[.slice a1 A1.length c1, .slice b1 B1.length e1, .slice f1 C1.length g1] 27)).cell? ⟨w.heap.size, 0, none⟩ = some (.int .i64 p0) := by simp [go_sem]
    have d01 : ((w.alloc (.cells #[.int .i64 p0, .slice a0 st0.length c0] 24)).alloc (.cells #[.slice a1 A1.length c1, .slice b1 B1.length e1, .slice f1 C1.length g1] 27)).cell? ⟨w.heap.size, 1, none⟩ = some (.slice a0 st0.length c0) := by simp [go_sem]
    have d10 : ((w.alloc (.cells #[.int .i64 p0, .slice a0 st0.length c0] 24)).alloc (.cells #[.slice a1 A1.length c1, .slice b1 B1.length e1, .slice f1 C1.length g1] 27)).cell? ⟨w.heap.size + 1, 0, none⟩ = some (.slice a1 A1.length c1) := by simp [go_sem]
    have d11 : ((w.alloc (.cells #[.int .i64 p0, .slice a0 st0.length c0] 24)).alloc (.cells #[.slice a1 A1.length c1, .slice b1 B1.length e1, .slice f1 C1.length g1] 27)).cell? ⟨w.heap.size + 1, 1, none⟩ = some (.slice b1 B1.length e1) := by simp [go_sem]
    have d12 : ((w.alloc (.cells #[.int .i64 p0, .slice a0 st0.length c0] 24)).alloc (.cells #[.slice a1 A1.length c1, .slice b1 B1.length e1, .slice f1 C1.length g1] 27)).cell? ⟨w.heap.size + 1, 2, none⟩ = some (.slice f1 C1.length g1) := by simp [go_sem]
    go_wp2_with fail
    refine (szd_c (by omega) (by omega) hb0_).mono ?_; rintro e w1 ⟨rfl, hb1⟩
    have hx0 := hx0.below hb1; have hx1 := hx1.below hb1; have d00 := kept hb1 d00; have d01 := kept hb1 d01; have d10 := kept hb1 d10; have d11 := kept hb1 d11; have d12 := kept hb1 d12
    simp only [← HZ0.out]
    go_wp2_with fail
    go_ret
    exact ⟨rfl, (by repeat (first | exact Below.refl _ _ | apply blw_drew | apply blw_alloc | (refine blw_set ?_ (by first | omega | (simp; done) | (simp; omega)) _) | refine below_chain ?_ (by assumption)))⟩
  have hl0 : st0.length ≤ 1048576 := szI_pos (left := 1048576) (by omega) (by rw [← HZ0.out]; exact hs0)
  obtain ⟨z1, hz1_⟩ : ∃ z, z = szT z0 A1 B1 C1 := ⟨_, rfl⟩
  have hzb1 := szT_bd (left := z0) (A := A1) (B := B1) (C := C1) (by omega) (by omega)
  rw [← hz1_] at hzb1
  have HZ1 := Lib.hid hz1_; clear hz1_
  by_cases hs1 : z1 < 0
  case pos =>
    go_enter Try.func4, Try.ntmps4
    have hb0 : Below w.heap.size w ((w.alloc (.cells #[.int .i64 p0, .slice a0 st0.length c0] 24)).alloc (.cells #[.slice a1 A1.length c1, .slice b1 B1.length e1, .slice f1 C1.length g1] 27)) := (by repeat (first | exact Below.refl _ _ | apply blw_drew | apply blw_alloc | (refine blw_set ?_ (by first | omega | (simp; done) | (simp; omega)) _) | refine below_chain ?_ (by assumption)))
    have hx0 := hx0.below hb0; have hx1 := hx1.below hb0
    have d00 : ((w.alloc (.cells #[.int .i64 p0, .slice a0 st0.length c0] 24)).alloc (.cells #[.slice a1 A1.length c1, .slice b1 B1.length e1, .slice f1 C1.length g1] 27)).cell? ⟨w.heap.size, 0, none⟩ = some (.int .i64 p0) := by simp [go_sem]
    have d01 : ((w.alloc (.cells #[.int .i64 p0, .slice a0 st0.length c0] 24)).alloc (.cells #[.slice a1 A1.length c1, .slice b1 B1.length e1, .slice f1 C1.length g1] 27)).cell? ⟨w.heap.size, 1, none⟩ = some (.slice a0 st0.length c0) := by simp [go_sem]
    have d10 : ((w.alloc (.cells #[.int .i64 p0, .slice a0 st0.length c0] 24)).alloc (.cells #[.slice a1 A1.length c1, .slice b1 B1.length e1, .slice f1 C1.length g1] 27)).cell? ⟨w.heap.size + 1, 0, none⟩ = some (.slice a1 A1.length c1) := by simp [go_sem]
    have d11 : ((w.alloc (.cells #[.int .i64 p0, .slice a0 st0.length c0] 24)).alloc (.cells #[.slice a1 A1.length c1, .slice b1 B1.length e1, .slice f1 C1.length g1] 27)).cell? ⟨w.heap.size + 1, 1, none⟩ = some (.slice b1 B1.length e1) := by simp [go_sem]
    have d12 : ((w.alloc (.cells #[.int .i64 p0, .slice a0 st0.length c0] 24)).alloc (.cells #[.slice a1 A1.length c1, .slice b1 B1.length e1, .slice f1 C1.length g1] 27)).cell? ⟨w.heap.size + 1, 2, none⟩ = some (.slice f1 C1.length g1) := by simp [go_sem]
    go_wp2_with fail
    refine (szd_c (by omega) (by omega) hb0_).mono ?_; rintro e w1 ⟨rfl, hb1⟩
    have hx0 := hx0.below hb1; have hx1 := hx1.below hb1; have d00 := kept hb1 d00; have d01 := kept hb1 d01; have d10 := kept hb1 d10; have d11 := kept hb1 d11; have d12 := kept hb1 d12
    simp only [← HZ0.out]
    go_wp2_with fail
    refine (szt_c hx1 hb1_ (by omega) (by omega)).mono ?_; rintro e w2 ⟨rfl, hb2⟩
    have hx0 := hx0.below hb2; have hx1 := hx1.below hb2; have d00 := kept hb2 d00; have d01 := kept hb2 d01; have d10 := kept hb2 d10; have d11 := kept hb2 d11; have d12 := kept hb2 d12
    simp only [← HZ1.out]
    go_wp2_with fail
    go_ret
    exact ⟨rfl, (by repeat (first | exact Below.refl _ _ | apply blw_drew | apply blw_alloc | (refine blw_set ?_ (by first | omega | (simp; done) | (simp; omega)) _) | refine below_chain ?_ (by assumption)))⟩
  have hl1 : Tsz A1 B1 C1 := szT_ms (left := z0) (by omega) (by omega) (by rw [← HZ1.out]; exact hs1)
  have hI := fun (W : World) (x0 : Value) (hx0 : El W x0 st0) (x1 : Value) (hx1 : Tv W x1 A1 B1 C1) => iIsLocalTriple_c (w := W) (p0 := p0) hx0 hl0 hx1 hl1
  have hS := fun (W : World) (x0 : Value) (hx0 : El W x0 st0) (x1 : Value) (hx1 : Tv W x1 A1 B1 C1) => sIsLocalTriple_c (w := W) (p0 := p0) hx0 hl0 hx1 hl1
  obtain ⟨y0, hy0⟩ : ∃ y, y = RIsLocalTriple0 p0 st0 A1 B1 C1 := ⟨_, rfl⟩
  obtain ⟨y1, hy1⟩ : ∃ y, y = RIsLocalTriple1 p0 st0 A1 B1 C1 := ⟨_, rfl⟩
  simp only [← hy0, ← hy1] at hI hS 
  clear hy0 hy1
  go_enter Try.func4, Try.ntmps4
  have hb0 : Below w.heap.size w ((w.alloc (.cells #[.int .i64 p0, .slice a0 st0.length c0] 24)).alloc (.cells #[.slice a1 A1.length c1, .slice b1 B1.length e1, .slice f1 C1.length g1] 27)) := (by repeat (first | exact Below.refl _ _ | apply blw_drew | apply blw_alloc | (refine blw_set ?_ (by first | omega | (simp; done) | (simp; omega)) _) | refine below_chain ?_ (by assumption)))
  have hx0 := hx0.below hb0; have hx1 := hx1.below hb0
  have d00 : ((w.alloc (.cells #[.int .i64 p0, .slice a0 st0.length c0] 24)).alloc (.cells #[.slice a1 A1.length c1, .slice b1 B1.length e1, .slice f1 C1.length g1] 27)).cell? ⟨w.heap.size, 0, none⟩ = some (.int .i64 p0) := by simp [go_sem]
  have d01 : ((w.alloc (.cells #[.int .i64 p0, .slice a0 st0.length c0] 24)).alloc (.cells #[.slice a1 A1.length c1, .slice b1 B1.length e1, .slice f1 C1.length g1] 27)).cell? ⟨w.heap.size, 1, none⟩ = some (.slice a0 st0.length c0) := by simp [go_sem]
  have d10 : ((w.alloc (.cells #[.int .i64 p0, .slice a0 st0.length c0] 24)).alloc (.cells #[.slice a1 A1.length c1, .slice b1 B1.length e1, .slice f1 C1.length g1] 27)).cell? ⟨w.heap.size + 1, 0, none⟩ = some (.slice a1 A1.length c1) := by simp [go_sem]
  have d11 : ((w.alloc (.cells #[.int .i64 p0, .slice a0 st0.length c0] 24)).alloc (.cells #[.slice a1 A1.length c1, .slice b1 B1.length e1, .slice f1 C1.length g1] 27)).cell? ⟨w.heap.size + 1, 1, none⟩ = some (.slice b1 B1.length e1) := by simp [go_sem]
  have d12 : ((w.alloc (.cells #[.int .i64 p0, .slice a0 st0.length c0] 24)).alloc (.cells #[.slice a1 A1.length c1, .slice b1 B1.length e1, .slice f1 C1.length g1] 27)).cell? ⟨w.heap.size + 1, 2, none⟩ = some (.slice f1 C1.length g1) := by simp [go_sem]
  go_wp2_with fail
  refine (szd_c (by omega) (by omega) hb0_).mono ?_; rintro e w1 ⟨rfl, hb1⟩
  have hx0 := hx0.below hb1; have hx1 := hx1.below hb1; have d00 := kept hb1 d00; have d01 := kept hb1 d01; have d10 := kept hb1 d10; have d11 := kept hb1 d11; have d12 := kept hb1 d12
  simp only [← HZ0.out]
  go_wp2_with fail
  refine (szt_c hx1 hb1_ (by omega) (by omega)).mono ?_; rintro e w2 ⟨rfl, hb2⟩
  have hx0 := hx0.below hb2; have hx1 := hx1.below hb2; have d00 := kept hb2 d00; have d01 := kept hb2 d01; have d10 := kept hb2 d10; have d11 := kept hb2 d11; have d12 := kept hb2 d12
  simp only [← HZ1.out]
  go_wp2_with fail
  refine region_flow [(false, [(0, 1), (2, 1), (1, 5)]), (false, [(3, 4), (4, 4), (5, 0), (6, 0), (7, 0), (8, 0), (9, 0)])] (by kernel_rfl) ?_
  refine norm_K fun K hK => ?_
  change wpList _ _ _ [_, _, _] _ _
  have hb3 : Below w2.heap.size w2 w2.drew := (by repeat (first | exact Below.refl _ _ | apply blw_drew | apply blw_alloc | (refine blw_set ?_ (by first | omega | (simp; done) | (simp; omega)) _) | refine below_chain ?_ (by assumption)))
  have hx0 := hx0.below hb3; have hx1 := hx1.below hb3; have d00 := kept hb3 d00; have d01 := kept hb3 d01; have d10 := kept hb3 d10; have d11 := kept hb3 d11; have d12 := kept hb3 d12
  go_wp2_with fail
  refine (tod_c hx0 hl0).mono ?_; rintro e w4 ⟨t0, rfl, ht0, hb4⟩
  have hx0 := hx0.below hb4; have hx1 := hx1.below hb4; have d00 := kept hb4 d00; have d01 := kept hb4 d01; have d10 := kept hb4 d10; have d11 := kept hb4 d11; have d12 := kept hb4 d12
  go_wp2_with fail
  have hq0 : Below w2.drew.heap.size w2.drew w4 := (by repeat (first | exact Below.refl _ _ | apply blw_drew | apply blw_alloc | (refine blw_set ?_ (by first | omega | (simp; done) | (simp; omega)) _) | refine below_chain ?_ (by assumption)))
  first | (refine hK _ _ ⟨hq0, ?_⟩; clear hK K) | refine ⟨hq0, ?_⟩
  clear hq0
  refine norm_K fun K hK => ?_
  change wpList _ _ _ [_, _, _, _, _, _, _] _ _
  go_wp2_with fail
  refine (tot_c hx1 hl1).mono ?_; rintro e w5 ⟨t1, rfl, ht1, hb5⟩
  have hx0 := hx0.below hb5; have hx1 := hx1.below hb5; have d00 := kept hb5 d00; have d01 := kept hb5 d01; have d10 := kept hb5 d10; have d11 := kept hb5 d11; have d12 := kept hb5 d12; have ht0 := ht0.below hb5
  go_wp2_with fail
  refine (hS _ _ ht0.el _ ht1).mono ?_; rintro e w6 ⟨rfl, hb6⟩
  have hx0 := hx0.below hb6; have hx1 := hx1.below hb6; have d00 := kept hb6 d00; have d01 := kept hb6 d01; have d10 := kept hb6 d10; have d11 := kept hb6 d11; have d12 := kept hb6 d12; have ht0 := ht0.below hb6; have ht1 := ht1.below hb6
  go_wp2_with fail
  first | (refine hK _ _ ⟨rfl, ?_⟩; clear hK K) | refine ⟨rfl, ?_⟩
  go_wp2_with fail
  refine (tod_c hx0 hl0).mono ?_; rintro e w7 ⟨t0, rfl, ⟨g0, k0, rfl, ht0⟩, hb7⟩
  have hx0 := hx0.below hb7; have hx1 := hx1.below hb7; have d00 := kept hb7 d00; have d01 := kept hb7 d01; have d10 := kept hb7 d10; have d11 := kept hb7 d11; have d12 := kept hb7 d12
  have hb8 : Below w7.heap.size w7 (w7.alloc (.cells #[.int .i64 p0, .slice (some ⟨g0, 0, none⟩) st0.length k0] 32)) := (by repeat (first | exact Below.refl _ _ | apply blw_drew | apply blw_alloc | (refine blw_set ?_ (by first | omega | (simp; done) | (simp; omega)) _) | refine below_chain ?_ (by assumption)))
  have hx0 := hx0.below hb8; have hx1 := hx1.below hb8; have d00 := kept hb8 d00; have d01 := kept hb8 d01; have d10 := kept hb8 d10; have d11 := kept hb8 d11; have d12 := kept hb8 d12; have ht0 := ht0.below hb8
  have e00 : (w7.alloc (.cells #[.int .i64 p0, .slice (some ⟨g0, 0, none⟩) st0.length k0] 32)).cell? ⟨w7.heap.size, 0, none⟩ = some (.int .i64 p0) := by simp [go_sem]
  have e01 : (w7.alloc (.cells #[.int .i64 p0, .slice (some ⟨g0, 0, none⟩) st0.length k0] 32)).cell? ⟨w7.heap.size, 1, none⟩ = some (.slice (some ⟨g0, 0, none⟩) st0.length k0) := by simp [go_sem]
  go_wp2_with fail
  refine (tot_c hx1 hl1).mono ?_; rintro e w9 ⟨t1, rfl, ht1, hb9⟩
  have hx0 := hx0.below hb9; have hx1 := hx1.below hb9; have d00 := kept hb9 d00; have d01 := kept hb9 d01; have d10 := kept hb9 d10; have d11 := kept hb9 d11; have d12 := kept hb9 d12; have ht0 := ht0.below hb9; have e00 := kept hb9 e00; have e01 := kept hb9 e01
  obtain ⟨ua1, ub1, uc1, rfl, h11, h21, h31⟩ := id ht1
  obtain ⟨va1, wa1, rfl, _⟩ := id h11; obtain ⟨vb1, wb1, rfl, _⟩ := id h21; obtain ⟨vc1, wc1, rfl, _⟩ := id h31; clear h11 h21 h31
  have hb10 : Below w9.heap.size w9 (w9.alloc (.cells #[.slice va1 A1.length wa1, .slice vb1 B1.length wb1, .slice vc1 C1.length wc1] 34)) := (by repeat (first | exact Below.refl _ _ | apply blw_drew | apply blw_alloc | (refine blw_set ?_ (by first | omega | (simp; done) | (simp; omega)) _) | refine below_chain ?_ (by assumption)))
  have hx0 := hx0.below hb10; have hx1 := hx1.below hb10; have d00 := kept hb10 d00; have d01 := kept hb10 d01; have d10 := kept hb10 d10; have d11 := kept hb10 d11; have d12 := kept hb10 d12; have ht0 := ht0.below hb10; have e00 := kept hb10 e00; have e01 := kept hb10 e01; have ht1 := ht1.below hb10
  have e10 : (w9.alloc (.cells #[.slice va1 A1.length wa1, .slice vb1 B1.length wb1, .slice vc1 C1.length wc1] 34)).cell? ⟨w9.heap.size, 0, none⟩ = some (.slice va1 A1.length wa1) := by simp [go_sem]
  have e11 : (w9.alloc (.cells #[.slice va1 A1.length wa1, .slice vb1 B1.length wb1, .slice vc1 C1.length wc1] 34)).cell? ⟨w9.heap.size, 1, none⟩ = some (.slice vb1 B1.length wb1) := by simp [go_sem]
  have e12 : (w9.alloc (.cells #[.slice va1 A1.length wa1, .slice vb1 B1.length wb1, .slice vc1 C1.length wc1] 34)).cell? ⟨w9.heap.size, 2, none⟩ = some (.slice vc1 C1.length wc1) := by simp [go_sem]
  go_wp2_with fail
  refine (hI _ _ ht0.el _ ht1).mono ?_; rintro e w11 ⟨rfl, hb11⟩
  have hx0 := hx0.below hb11; have hx1 := hx1.below hb11; have d00 := kept hb11 d00; have d01 := kept hb11 d01; have d10 := kept hb11 d10; have d11 := kept hb11 d11; have d12 := kept hb11 d12; have ht0 := ht0.below hb11; have e00 := kept hb11 e00; have e01 := kept hb11 e01; have ht1 := ht1.below hb11; have e10 := kept hb11 e10; have e11 := kept hb11 e11; have e12 := kept hb11 e12
  go_wp2_with fail
  refine region_flow [(false, [(0, 1), (1, 1), (2, 5)]), (false, [(3, 4), (4, 0)])] (by kernel_rfl) ?_
  refine norm_K fun K hK => ?_
  change wpList _ _ _ [_, _, _] _ _
  have hb12 : Below w11.heap.size w11 w11.drew := (by repeat (first | exact Below.refl _ _ | apply blw_drew | apply blw_alloc | (refine blw_set ?_ (by first | omega | (simp; done) | (simp; omega)) _) | refine below_chain ?_ (by assumption)))
  have hx0 := hx0.below hb12; have hx1 := hx1.below hb12; have d00 := kept hb12 d00; have d01 := kept hb12 d01; have d10 := kept hb12 d10; have d11 := kept hb12 d11; have d12 := kept hb12 d12; have ht0 := ht0.below hb12; have e00 := kept hb12 e00; have e01 := kept hb12 e01; have ht1 := ht1.below hb12; have e10 := kept hb12 e10; have e11 := kept hb12 e11; have e12 := kept hb12 e12
  go_wp2_with fail
  refine (tod_c hx0 hl0).mono ?_; rintro e w13 ⟨u0, rfl, hu0, hb13⟩
  have hx0 := hx0.below hb13; have hx1 := hx1.below hb13; have d00 := kept hb13 d00; have d01 := kept hb13 d01; have d10 := kept hb13 d10; have d11 := kept hb13 d11; have d12 := kept hb13 d12; have ht0 := ht0.below hb13; have e00 := kept hb13 e00; have e01 := kept hb13 e01; have ht1 := ht1.below hb13; have e10 := kept hb13 e10; have e11 := kept hb13 e11; have e12 := kept hb13 e12
  go_wp2_with fail
  first | (refine hK _ _ ⟨hb13, ?_⟩; clear hK K) | refine ⟨hb13, ?_⟩
  refine norm_K fun K hK => ?_
  change wpList _ _ _ [_, _] _ _
  go_wp2_with fail
  refine (eqd_c ht0.sl hu0.sl hl0).mono ?_; rintro e w14 ⟨rfl, hb14⟩
  have hx0 := hx0.below hb14; have hx1 := hx1.below hb14; have d00 := kept hb14 d00; have d01 := kept hb14 d01; have d10 := kept hb14 d10; have d11 := kept hb14 d11; have d12 := kept hb14 d12; have ht0 := ht0.below hb14; have e00 := kept hb14 e00; have e01 := kept hb14 e01; have ht1 := ht1.below hb14; have e10 := kept hb14 e10; have e11 := kept hb14 e11; have e12 := kept hb14 e12
  go_wp2_with fail
  first | (refine hK _ _ ⟨rfl, ?_⟩; clear hK K) | refine ⟨rfl, ?_⟩
  go_wp2_with fail
  refine region_flow [(false, [(0, 1), (1, 1), (2, 5)]), (false, [(3, 4), (4, 0)])] (by kernel_rfl) ?_
  refine norm_K fun K hK => ?_
  change wpList _ _ _ [_, _, _] _ _
  have hb15 : Below w14.heap.size w14 w14.drew := (by repeat (first | exact Below.refl _ _ | apply blw_drew | apply blw_alloc | (refine blw_set ?_ (by first | omega | (simp; done) | (simp; omega)) _) | refine below_chain ?_ (by assumption)))
  have hx0 := hx0.below hb15; have hx1 := hx1.below hb15; have d00 := kept hb15 d00; have d01 := kept hb15 d01; have d10 := kept hb15 d10; have d11 := kept hb15 d11; have d12 := kept hb15 d12; have ht0 := ht0.below hb15; have e00 := kept hb15 e00; have e01 := kept hb15 e01; have ht1 := ht1.below hb15; have e10 := kept hb15 e10; have e11 := kept hb15 e11; have e12 := kept hb15 e12
  go_wp2_with fail
  refine (tot_c hx1 hl1).mono ?_; rintro e w16 ⟨u1, rfl, hu1, hb16⟩
  have hx0 := hx0.below hb16; have hx1 := hx1.below hb16; have d00 := kept hb16 d00; have d01 := kept hb16 d01; have d10 := kept hb16 d10; have d11 := kept hb16 d11; have d12 := kept hb16 d12; have ht0 := ht0.below hb16; have e00 := kept hb16 e00; have e01 := kept hb16 e01; have ht1 := ht1.below hb16; have e10 := kept hb16 e10; have e11 := kept hb16 e11; have e12 := kept hb16 e12
  go_wp2_with fail
  first | (refine hK _ _ ⟨hb16, ?_⟩; clear hK K) | refine ⟨hb16, ?_⟩
  refine norm_K fun K hK => ?_
  change wpList _ _ _ [_, _] _ _
  go_wp2_with fail
  refine (eqt_c ht1.tr hu1.tr hl1).mono ?_; rintro e w17 ⟨rfl, hb17⟩
  have hx0 := hx0.below hb17; have hx1 := hx1.below hb17; have d00 := kept hb17 d00; have d01 := kept hb17 d01; have d10 := kept hb17 d10; have d11 := kept hb17 d11; have d12 := kept hb17 d12; have ht0 := ht0.below hb17; have e00 := kept hb17 e00; have e01 := kept hb17 e01; have ht1 := ht1.below hb17; have e10 := kept hb17 e10; have e11 := kept hb17 e11; have e12 := kept hb17 e12
  go_wp2_with fail
  first | (refine hK _ _ ⟨rfl, ?_⟩; clear hK K) | refine ⟨rfl, ?_⟩
  go_wp2_with fail
  go_ret
  exact ⟨rfl, (by repeat (first | exact Below.refl _ _ | apply blw_drew | apply blw_alloc | (refine blw_set ?_ (by first | omega | (simp; done) | (simp; omega)) _) | refine below_chain ?_ (by assumption)))⟩
end Go.Proofs.Ytmplpoccalccoaa
