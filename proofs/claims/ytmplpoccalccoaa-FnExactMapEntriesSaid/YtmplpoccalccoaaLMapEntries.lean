/-
  MapEntries: the law.
-/
import Derived.Test.YtmplpoccalccoaaCMapEntries
import Derived.Test.YtmplpoccalccoaaLawM
namespace Go.Proofs.Ytmplpoccalccoaa
open Go.RowKit

theorem RMapEntries0_len (p0 : Int) (st0 : List Int) (M1 : List (List Int)) (X2 : Her) (_ : st0.length ≤ 1048576) (_ : Msz M1) (_ : Hsz X2) : Hs (RMapEntries0 p0 st0 M1 X2) := by
  unfold RMapEntries0
  split
  · rename_i h
    unfold RMapEntries1 at h
    split at h
    · rename_i h0
      split at h
      · rename_i hm
        obtain ⟨hd, hall⟩ := chkH_pos h0
        simp at hall
        exact isH_hs hd (mapH_is (by have := hd.hp.lo; omega) hm hall)
      · exact absurd h (by decide)
    · rename_i h0; exact absurd h h0
  · exact Hs.none
set_option maxHeartbeats 4000000 in
set_option maxRecDepth 100000 in
theorem law_MapEntries {p0 : Int} {x0 : Value} {st0 : List Int} {x1 : Value} {M1 : List (List Int)} {x2 : Value} {X2 : Her} {w : World} (hx0 : Sl w x0 st0) (hb0_ : st0.length ≤ 9223372036854775807) (hx1 : Rs w x1 M1) (hb1_ : Mbig M1) (hx2 : Hr w x2 X2) (hb2_ : Hbig X2) :
    Calls Try.prog 5 #[.agg #[.int .i64 p0, x0], x1, x2] w fun e w' => e = .returned (.bool true) ∧ Below w.heap.size w w' := by
  obtain ⟨a0, c0, rfl, _⟩ := id hx0
  obtain ⟨a1, c1, rfl, _⟩ := id hx1
  obtain ⟨dv2, uv2, rfl, hd2, hu2⟩ := id hx2
  obtain ⟨a2, c2, rfl, _⟩ := id hd2; obtain ⟨b2, e2, rfl, _⟩ := id hu2; clear hd2 hu2
  obtain ⟨z0, hz0_⟩ : ∃ z, z = szI 1048576 st0.length := ⟨_, rfl⟩
  have hzb0 := szI_bd (left := 1048576) (n := st0.length) (by omega) (by omega)
  rw [← hz0_] at hzb0
  have HZ0 := Lib.hid hz0_; clear hz0_
  by_cases hs0 : z0 < 0
  case pos =>
    go_enter Try.func5, Try.ntmps5
    have hb0 : Below w.heap.size w ((w.alloc (.cells #[.int .i64 p0, .slice a0 st0.length c0] 24)).alloc (.cells #[.slice a2 X2.dg.length c2, .slice b2 X2.up.length e2] 40)) := (by repeat (first | exact Below.refl _ _ | apply blw_drew | apply blw_alloc | (refine blw_set ?_ (by first | omega | (simp; done) | (simp; omega)) _) | refine below_chain ?_ (by assumption)))
    have hx0 := hx0.below hb0; have hx1 := hx1.below hb0; have hx2 := hx2.below hb0
    have d00 : ((w.alloc (.cells #[.int .i64 p0, .slice a0 st0.length c0] 24)).alloc (.cells #[.slice a2 X2.dg.length c2, .slice b2 X2.up.length e2] 40)).cell? ⟨w.heap.size, 0, none⟩ = some (.int .i64 p0) := by simp [go_sem]
    have d01 : ((w.alloc (.cells #[.int .i64 p0, .slice a0 st0.length c0] 24)).alloc (.cells #[.slice a2 X2.dg.length c2, .slice b2 X2.up.length e2] 40)).cell? ⟨w.heap.size, 1, none⟩ = some (.slice a0 st0.length c0) := by simp [go_sem]
    have d20 : ((w.alloc (.cells #[.int .i64 p0, .slice a0 st0.length c0] 24)).alloc (.cells #[.slice a2 X2.dg.length c2, .slice b2 X2.up.length e2] 40)).cell? ⟨w.heap.size + 1, 0, none⟩ = some (.slice a2 X2.dg.length c2) := by simp [go_sem]
    have d21 : ((w.alloc (.cells #[.int .i64 p0, .slice a0 st0.length c0] 24)).alloc (.cells #[.slice a2 X2.dg.length c2, .slice b2 X2.up.length e2] 40)).cell? ⟨w.heap.size + 1, 1, none⟩ = some (.slice b2 X2.up.length e2) := by simp [go_sem]
    go_wp2_with fail
    refine (szd_c (by omega) (by omega) hb0_).mono ?_; rintro e w1 ⟨rfl, hb1⟩
    have hx0 := hx0.below hb1; have hx1 := hx1.below hb1; have hx2 := hx2.below hb1; have d00 := kept hb1 d00; have d01 := kept hb1 d01; have d20 := kept hb1 d20; have d21 := kept hb1 d21
    simp only [← HZ0.out]
    go_wp2_with fail
    go_ret
    exact ⟨rfl, (by repeat (first | exact Below.refl _ _ | apply blw_drew | apply blw_alloc | (refine blw_set ?_ (by first | omega | (simp; done) | (simp; omega)) _) | refine below_chain ?_ (by assumption)))⟩
  have hl0 : st0.length ≤ 1048576 := szI_pos (left := 1048576) (by omega) (by rw [← HZ0.out]; exact hs0)
  obtain ⟨z1, hz1_⟩ : ∃ z, z = szR z0 M1 := ⟨_, rfl⟩
  have hzb1 := szR_bd (left := z0) (xss := M1) (by omega) (by omega)
  rw [← hz1_] at hzb1
  have HZ1 := Lib.hid hz1_; clear hz1_
  by_cases hs1 : z1 < 0
  case pos =>
    go_enter Try.func5, Try.ntmps5
    have hb0 : Below w.heap.size w ((w.alloc (.cells #[.int .i64 p0, .slice a0 st0.length c0] 24)).alloc (.cells #[.slice a2 X2.dg.length c2, .slice b2 X2.up.length e2] 40)) := (by repeat (first | exact Below.refl _ _ | apply blw_drew | apply blw_alloc | (refine blw_set ?_ (by first | omega | (simp; done) | (simp; omega)) _) | refine below_chain ?_ (by assumption)))
    have hx0 := hx0.below hb0; have hx1 := hx1.below hb0; have hx2 := hx2.below hb0
    have d00 : ((w.alloc (.cells #[.int .i64 p0, .slice a0 st0.length c0] 24)).alloc (.cells #[.slice a2 X2.dg.length c2, .slice b2 X2.up.length e2] 40)).cell? ⟨w.heap.size, 0, none⟩ = some (.int .i64 p0) := by simp [go_sem]
    have d01 : ((w.alloc (.cells #[.int .i64 p0, .slice a0 st0.length c0] 24)).alloc (.cells #[.slice a2 X2.dg.length c2, .slice b2 X2.up.length e2] 40)).cell? ⟨w.heap.size, 1, none⟩ = some (.slice a0 st0.length c0) := by simp [go_sem]
    have d20 : ((w.alloc (.cells #[.int .i64 p0, .slice a0 st0.length c0] 24)).alloc (.cells #[.slice a2 X2.dg.length c2, .slice b2 X2.up.length e2] 40)).cell? ⟨w.heap.size + 1, 0, none⟩ = some (.slice a2 X2.dg.length c2) := by simp [go_sem]
    have d21 : ((w.alloc (.cells #[.int .i64 p0, .slice a0 st0.length c0] 24)).alloc (.cells #[.slice a2 X2.dg.length c2, .slice b2 X2.up.length e2] 40)).cell? ⟨w.heap.size + 1, 1, none⟩ = some (.slice b2 X2.up.length e2) := by simp [go_sem]
    go_wp2_with fail
    refine (szd_c (by omega) (by omega) hb0_).mono ?_; rintro e w1 ⟨rfl, hb1⟩
    have hx0 := hx0.below hb1; have hx1 := hx1.below hb1; have hx2 := hx2.below hb1; have d00 := kept hb1 d00; have d01 := kept hb1 d01; have d20 := kept hb1 d20; have d21 := kept hb1 d21
    simp only [← HZ0.out]
    go_wp2_with fail
    refine (szm_c hx1 hb1_ (by omega) (by omega)).mono ?_; rintro e w2 ⟨rfl, hb2⟩
    have hx0 := hx0.below hb2; have hx1 := hx1.below hb2; have hx2 := hx2.below hb2; have d00 := kept hb2 d00; have d01 := kept hb2 d01; have d20 := kept hb2 d20; have d21 := kept hb2 d21
    simp only [← HZ1.out]
    go_wp2_with fail
    go_ret
    exact ⟨rfl, (by repeat (first | exact Below.refl _ _ | apply blw_drew | apply blw_alloc | (refine blw_set ?_ (by first | omega | (simp; done) | (simp; omega)) _) | refine below_chain ?_ (by assumption)))⟩
  have hl1 : Msz M1 := szM_ms (left := z0) (by omega) (by omega) (by rw [← HZ1.out]; exact hs1)
  obtain ⟨z2, hz2_⟩ : ∃ z, z = szH z1 X2 := ⟨_, rfl⟩
  have hzb2 := szH_bd (left := z1) (X := X2) (by omega) (by omega)
  rw [← hz2_] at hzb2
  have HZ2 := Lib.hid hz2_; clear hz2_
  by_cases hs2 : z2 < 0
  case pos =>
    go_enter Try.func5, Try.ntmps5
    have hb0 : Below w.heap.size w ((w.alloc (.cells #[.int .i64 p0, .slice a0 st0.length c0] 24)).alloc (.cells #[.slice a2 X2.dg.length c2, .slice b2 X2.up.length e2] 40)) := (by repeat (first | exact Below.refl _ _ | apply blw_drew | apply blw_alloc | (refine blw_set ?_ (by first | omega | (simp; done) | (simp; omega)) _) | refine below_chain ?_ (by assumption)))
    have hx0 := hx0.below hb0; have hx1 := hx1.below hb0; have hx2 := hx2.below hb0
    have d00 : ((w.alloc (.cells #[.int .i64 p0, .slice a0 st0.length c0] 24)).alloc (.cells #[.slice a2 X2.dg.length c2, .slice b2 X2.up.length e2] 40)).cell? ⟨w.heap.size, 0, none⟩ = some (.int .i64 p0) := by simp [go_sem]
    have d01 : ((w.alloc (.cells #[.int .i64 p0, .slice a0 st0.length c0] 24)).alloc (.cells #[.slice a2 X2.dg.length c2, .slice b2 X2.up.length e2] 40)).cell? ⟨w.heap.size, 1, none⟩ = some (.slice a0 st0.length c0) := by simp [go_sem]
    have d20 : ((w.alloc (.cells #[.int .i64 p0, .slice a0 st0.length c0] 24)).alloc (.cells #[.slice a2 X2.dg.length c2, .slice b2 X2.up.length e2] 40)).cell? ⟨w.heap.size + 1, 0, none⟩ = some (.slice a2 X2.dg.length c2) := by simp [go_sem]
    have d21 : ((w.alloc (.cells #[.int .i64 p0, .slice a0 st0.length c0] 24)).alloc (.cells #[.slice a2 X2.dg.length c2, .slice b2 X2.up.length e2] 40)).cell? ⟨w.heap.size + 1, 1, none⟩ = some (.slice b2 X2.up.length e2) := by simp [go_sem]
    go_wp2_with fail
    refine (szd_c (by omega) (by omega) hb0_).mono ?_; rintro e w1 ⟨rfl, hb1⟩
    have hx0 := hx0.below hb1; have hx1 := hx1.below hb1; have hx2 := hx2.below hb1; have d00 := kept hb1 d00; have d01 := kept hb1 d01; have d20 := kept hb1 d20; have d21 := kept hb1 d21
    simp only [← HZ0.out]
    go_wp2_with fail
    refine (szm_c hx1 hb1_ (by omega) (by omega)).mono ?_; rintro e w2 ⟨rfl, hb2⟩
    have hx0 := hx0.below hb2; have hx1 := hx1.below hb2; have hx2 := hx2.below hb2; have d00 := kept hb2 d00; have d01 := kept hb2 d01; have d20 := kept hb2 d20; have d21 := kept hb2 d21
    simp only [← HZ1.out]
    go_wp2_with fail
    refine (szh_c hx2 hb2_ (by omega) (by omega)).mono ?_; rintro e w3 ⟨rfl, hb3⟩
    have hx0 := hx0.below hb3; have hx1 := hx1.below hb3; have hx2 := hx2.below hb3; have d00 := kept hb3 d00; have d01 := kept hb3 d01; have d20 := kept hb3 d20; have d21 := kept hb3 d21
    simp only [← HZ2.out]
    go_wp2_with fail
    go_ret
    exact ⟨rfl, (by repeat (first | exact Below.refl _ _ | apply blw_drew | apply blw_alloc | (refine blw_set ?_ (by first | omega | (simp; done) | (simp; omega)) _) | refine below_chain ?_ (by assumption)))⟩
  have hl2 : Hsz X2 := szH_pos (left := z1) (by omega) (by omega) (by rw [← HZ2.out]; exact hs2)
  have hS2 : Hs X2 := szH_hs (left := z1) (by omega) (by omega) (by rw [← HZ2.out]; exact hs2)
  have hI := fun (W : World) (x0 : Value) (hx0 : El W x0 st0) (x1 : Value) (hx1 : Re W x1 M1) (x2 : Value) (hx2 : Hv W x2 X2) => iMapEntries_c (w := W) (p0 := p0) hx0 hl0 hx1 hl1 hx2 hl2
  have hS := fun (W : World) (x0 : Value) (hx0 : El W x0 st0) (x1 : Value) (hx1 : Re W x1 M1) (x2 : Value) (hx2 : Hv W x2 X2) => sMapEntries_c (w := W) (p0 := p0) hx0 hl0 hx1 hl1 hx2 hl2
  have yl0 := RMapEntries0_len p0 st0 M1 X2 hl0 hl1 hl2
  obtain ⟨y0, hy0⟩ : ∃ y, y = RMapEntries0 p0 st0 M1 X2 := ⟨_, rfl⟩
  obtain ⟨y1, hy1⟩ : ∃ y, y = RMapEntries1 p0 st0 M1 X2 := ⟨_, rfl⟩
  simp only [← hy0, ← hy1] at hI hS yl0
  clear hy0 hy1
  go_enter Try.func5, Try.ntmps5
  have hb0 : Below w.heap.size w ((w.alloc (.cells #[.int .i64 p0, .slice a0 st0.length c0] 24)).alloc (.cells #[.slice a2 X2.dg.length c2, .slice b2 X2.up.length e2] 40)) := (by repeat (first | exact Below.refl _ _ | apply blw_drew | apply blw_alloc | (refine blw_set ?_ (by first | omega | (simp; done) | (simp; omega)) _) | refine below_chain ?_ (by assumption)))
  have hx0 := hx0.below hb0; have hx1 := hx1.below hb0; have hx2 := hx2.below hb0
  have d00 : ((w.alloc (.cells #[.int .i64 p0, .slice a0 st0.length c0] 24)).alloc (.cells #[.slice a2 X2.dg.length c2, .slice b2 X2.up.length e2] 40)).cell? ⟨w.heap.size, 0, none⟩ = some (.int .i64 p0) := by simp [go_sem]
  have d01 : ((w.alloc (.cells #[.int .i64 p0, .slice a0 st0.length c0] 24)).alloc (.cells #[.slice a2 X2.dg.length c2, .slice b2 X2.up.length e2] 40)).cell? ⟨w.heap.size, 1, none⟩ = some (.slice a0 st0.length c0) := by simp [go_sem]
  have d20 : ((w.alloc (.cells #[.int .i64 p0, .slice a0 st0.length c0] 24)).alloc (.cells #[.slice a2 X2.dg.length c2, .slice b2 X2.up.length e2] 40)).cell? ⟨w.heap.size + 1, 0, none⟩ = some (.slice a2 X2.dg.length c2) := by simp [go_sem]
  have d21 : ((w.alloc (.cells #[.int .i64 p0, .slice a0 st0.length c0] 24)).alloc (.cells #[.slice a2 X2.dg.length c2, .slice b2 X2.up.length e2] 40)).cell? ⟨w.heap.size + 1, 1, none⟩ = some (.slice b2 X2.up.length e2) := by simp [go_sem]
  go_wp2_with fail
  refine (szd_c (by omega) (by omega) hb0_).mono ?_; rintro e w1 ⟨rfl, hb1⟩
  have hx0 := hx0.below hb1; have hx1 := hx1.below hb1; have hx2 := hx2.below hb1; have d00 := kept hb1 d00; have d01 := kept hb1 d01; have d20 := kept hb1 d20; have d21 := kept hb1 d21
  simp only [← HZ0.out]
  go_wp2_with fail
  refine (szm_c hx1 hb1_ (by omega) (by omega)).mono ?_; rintro e w2 ⟨rfl, hb2⟩
  have hx0 := hx0.below hb2; have hx1 := hx1.below hb2; have hx2 := hx2.below hb2; have d00 := kept hb2 d00; have d01 := kept hb2 d01; have d20 := kept hb2 d20; have d21 := kept hb2 d21
  simp only [← HZ1.out]
  go_wp2_with fail
  refine (szh_c hx2 hb2_ (by omega) (by omega)).mono ?_; rintro e w3 ⟨rfl, hb3⟩
  have hx0 := hx0.below hb3; have hx1 := hx1.below hb3; have hx2 := hx2.below hb3; have d00 := kept hb3 d00; have d01 := kept hb3 d01; have d20 := kept hb3 d20; have d21 := kept hb3 d21
  simp only [← HZ2.out]
  go_upto_region 11 with fail
  go_cut [8, 9] (fun s8 s9 wx => ∃ N d u, s8 = .pointer (some ⟨N, 0, none⟩) ∧ s9 = .int .i64 y1 ∧ Bx wx N d u ∧ Hr wx (.agg #[d, u]) y0 ∧ Below w3.heap.size w3 wx)
  case first =>
    refine region_tree [(0, 1), (2, 0), (4, 1)] (.two 1 5 (.two 3 5 (.two 5 5 (.two 6 5 (.lin [(false, [(7, 0), (8, 0), (9, 0), (10, 5)]), (false, [(11, 4), (12, 0)])]) 10 5 (.lin [(false, [(6, 4), (7, 0), (8, 0), (9, 0), (11, 4), (12, 0)])])) 10 5 (.lin [(false, [(5, 4), (6, 4), (7, 0), (8, 0), (9, 0), (11, 4), (12, 0)])])) 10 5 (.lin [(false, [(3, 5)]), (false, [(5, 4), (6, 4), (7, 0), (8, 0), (9, 0), (11, 4), (12, 0)])])) 10 5 (.lin [(false, [(1, 5)]), (false, [(3, 5)]), (false, [(5, 4), (6, 4), (7, 0), (8, 0), (9, 0), (11, 4), (12, 0)])])) (by kernel_rfl) ?_
    refine norm_K fun K hK => ?_
    change wpList _ _ _ [_, _, _] _ _
    go_wp2_with fail
    have hb4 : Below w3.heap.size w3 w3.drew := (by repeat (first | exact Below.refl _ _ | apply blw_drew | apply blw_alloc | (refine blw_set ?_ (by first | omega | (simp; done) | (simp; omega)) _) | refine below_chain ?_ (by assumption)))
    have hx0 := hx0.below hb4; have hx1 := hx1.below hb4; have hx2 := hx2.below hb4; have d00 := kept hb4 d00; have d01 := kept hb4 d01; have d20 := kept hb4 d20; have d21 := kept hb4 d21
    generalize w3.drew = wq3 at *
    refine hK _ _ ?_; clear hK K
    refine ⟨?_, ?_⟩
    · skip
      refine norm_K fun K hK => ?_
      change wpList _ _ _ [_] _ _
      go_wp2_with fail
      refine (tod_c hx0 hl0).mono ?_; rintro e w5 ⟨t0, rfl, ht0, hb5⟩
      have hx0 := hx0.below hb5; have hx1 := hx1.below hb5; have hx2 := hx2.below hb5; have d00 := kept hb5 d00; have d01 := kept hb5 d01; have d20 := kept hb5 d20; have d21 := kept hb5 d21
      go_wp2_with fail
      first | (refine hK _ _ ⟨(by repeat (first | exact Below.refl _ _ | apply blw_drew | apply blw_alloc | (refine blw_set ?_ (by first | omega | (simp; done) | (simp; omega)) _) | refine below_chain ?_ (by assumption))), ?_⟩; clear hK K) | refine ⟨(by repeat (first | exact Below.refl _ _ | apply blw_drew | apply blw_alloc | (refine blw_set ?_ (by first | omega | (simp; done) | (simp; omega)) _) | refine below_chain ?_ (by assumption))), ?_⟩
      refine ⟨?_, ?_⟩
      · skip
        refine norm_K fun K hK => ?_
        change wpList _ _ _ [_] _ _
        go_wp2_with fail
        refine (tom_c hx1 hl1).mono ?_; rintro e w6 ⟨t1, uq1, rfl, ht1, hb6⟩
        have hx0 := hx0.below hb6; have hx1 := hx1.below hb6; have hx2 := hx2.below hb6; have d00 := kept hb6 d00; have d01 := kept hb6 d01; have d20 := kept hb6 d20; have d21 := kept hb6 d21; have ht0 := ht0.below hb6
        go_wp2_with fail
        first | (refine hK _ _ ⟨(by repeat (first | exact Below.refl _ _ | apply blw_drew | apply blw_alloc | (refine blw_set ?_ (by first | omega | (simp; done) | (simp; omega)) _) | refine below_chain ?_ (by assumption))), ?_⟩; clear hK K) | refine ⟨(by repeat (first | exact Below.refl _ _ | apply blw_drew | apply blw_alloc | (refine blw_set ?_ (by first | omega | (simp; done) | (simp; omega)) _) | refine below_chain ?_ (by assumption))), ?_⟩
        refine ⟨?_, ?_⟩
        · skip
          refine norm_K fun K hK => ?_
          change wpList _ _ _ [_] _ _
          go_wp2_with fail
          refine (toh_c hx2 hl2).mono ?_; rintro e w7 ⟨t2, rfl, ht2, hb7⟩
          have hx0 := hx0.below hb7; have hx1 := hx1.below hb7; have hx2 := hx2.below hb7; have d00 := kept hb7 d00; have d01 := kept hb7 d01; have d20 := kept hb7 d20; have d21 := kept hb7 d21; have ht0 := ht0.below hb7; have ht1 := ht1.below hb7
          go_wp2_with fail
          first | (refine hK _ _ ⟨(by repeat (first | exact Below.refl _ _ | apply blw_drew | apply blw_alloc | (refine blw_set ?_ (by first | omega | (simp; done) | (simp; omega)) _) | refine below_chain ?_ (by assumption))), ?_⟩; clear hK K) | refine ⟨(by repeat (first | exact Below.refl _ _ | apply blw_drew | apply blw_alloc | (refine blw_set ?_ (by first | omega | (simp; done) | (simp; omega)) _) | refine below_chain ?_ (by assumption))), ?_⟩
          refine ⟨?_, ?_⟩
          · skip
            refine norm_K fun K hK => ?_
            change wpList _ _ _ [_] _ _
            go_wp2_with fail
            refine (hS _ _ ht0.el _ ht1.re _ ht2.hv).mono ?_; rintro e w8 ⟨v0_, rfl, hs0, hb8⟩
            have hx0 := hx0.below hb8; have hx1 := hx1.below hb8; have hx2 := hx2.below hb8; have d00 := kept hb8 d00; have d01 := kept hb8 d01; have d20 := kept hb8 d20; have d21 := kept hb8 d21; have ht0 := ht0.below hb8; have ht1 := ht1.below hb8; have ht2 := ht2.below hb8
            have hsK := hs0
            obtain ⟨sd, su, rfl, sd_, su_⟩ := hs0.hv.hr; obtain ⟨sa, sc, rfl, _⟩ := id sd_; obtain ⟨sb, se, rfl, _⟩ := id su_; clear sd_ su_
            go_wp2_with fail
            first | (refine hK _ _ ⟨(by repeat (first | exact Below.refl _ _ | apply blw_drew | apply blw_alloc | (refine blw_set ?_ (by first | omega | (simp; done) | (simp; omega)) _) | refine below_chain ?_ (by assumption))), ?_⟩; clear hK K) | refine ⟨(by repeat (first | exact Below.refl _ _ | apply blw_drew | apply blw_alloc | (refine blw_set ?_ (by first | omega | (simp; done) | (simp; omega)) _) | refine below_chain ?_ (by assumption))), ?_⟩
            refine norm_K fun K hK => ?_
            change wpList _ _ _ [_, _, _, _] _ _
            go_wp2_with fail
            have hb9 : Below w8.heap.size w8 (w8.alloc (.cells #[.slice none 0 0, .slice none 0 0] 43)) := (by repeat (first | exact Below.refl _ _ | apply blw_drew | apply blw_alloc | (refine blw_set ?_ (by first | omega | (simp; done) | (simp; omega)) _) | refine below_chain ?_ (by assumption)))
            have hx0 := hx0.below hb9; have hx1 := hx1.below hb9; have hx2 := hx2.below hb9; have d00 := kept hb9 d00; have d01 := kept hb9 d01; have d20 := kept hb9 d20; have d21 := kept hb9 d21; have ht0 := ht0.below hb9; have ht1 := ht1.below hb9; have ht2 := ht2.below hb9; have hs0 := hs0.below hb9
            have hN : Bx (w8.alloc (.cells #[.slice none 0 0, .slice none 0 0] 43)) w8.heap.size (.slice none 0 0) (.slice none 0 0) := heap_alloc_new _ _
            have hNz : w3.heap.size ≤ w8.heap.size := (below_le (by repeat (first | exact Below.refl _ _ | apply blw_drew | apply blw_alloc | (refine blw_set ?_ (by first | omega | (simp; done) | (simp; omega)) _) | refine below_chain ?_ (by assumption))))
            have hNs : w8.heap.size < (w8.alloc (.cells #[.slice none 0 0, .slice none 0 0] 43)).heap.size := by simp
            go_wp2_with fail
            first | (refine hK _ _ ⟨(by repeat (first | exact Below.refl _ _ | apply blw_drew | apply blw_alloc | (refine blw_set ?_ (by first | omega | (simp; done) | (simp; omega)) _) | refine below_chain ?_ (by assumption))), ?_⟩; clear hK K) | refine ⟨(by repeat (first | exact Below.refl _ _ | apply blw_drew | apply blw_alloc | (refine blw_set ?_ (by first | omega | (simp; done) | (simp; omega)) _) | refine below_chain ?_ (by assumption))), ?_⟩
            refine norm_K fun K hK => ?_
            change wpList _ _ _ [_, _] _ _
            have n0 := hN.c0; have n1 := hN.c1; have n2 := hN.f0; have n3 := hN.f1
            go_wp2_with fail
            first | (refine hK _ _ ⟨rfl, ?_⟩; clear hK K) | refine ⟨rfl, ?_⟩
            go_wp2_with fail
            go_meet
            case rel => exact ⟨_, _, _, rfl, rfl, (by first | exact (hN.set0 _).set1 _ | exact heap_alloc_new _ _), (by first | exact ((hs0.set_ (by first | omega | (simp; done) | (simp; omega)) _).set_ (by first | omega | (simp; done) | (simp; omega)) _).hv.hr | exact (hsK.below (by repeat (first | exact Below.refl _ _ | apply blw_drew | apply blw_alloc | (refine blw_set ?_ (by first | omega | (simp; done) | (simp; omega)) _) | refine below_chain ?_ (by assumption)))).hv.hr), (by repeat (first | exact Below.refl _ _ | apply blw_drew | apply blw_alloc | (refine blw_set ?_ (by first | omega | (simp; done) | (simp; omega)) _) | refine below_chain ?_ (by assumption)))⟩
          · skip
            refine norm_K fun K hK => ?_
            change wpList _ _ _ [_] _ _
            go_wp2_with fail
            have hb8 : Below w7.heap.size w7 (w7.alloc (.cells #[.slice none 0 0, .slice none 0 0] 43)) := (by repeat (first | exact Below.refl _ _ | apply blw_drew | apply blw_alloc | (refine blw_set ?_ (by first | omega | (simp; done) | (simp; omega)) _) | refine below_chain ?_ (by assumption)))
            have hx0 := hx0.below hb8; have hx1 := hx1.below hb8; have hx2 := hx2.below hb8; have d00 := kept hb8 d00; have d01 := kept hb8 d01; have d20 := kept hb8 d20; have d21 := kept hb8 d21; have ht0 := ht0.below hb8; have ht1 := ht1.below hb8; have ht2 := ht2.below hb8
            have hN : Bx (w7.alloc (.cells #[.slice none 0 0, .slice none 0 0] 43)) w7.heap.size (.slice none 0 0) (.slice none 0 0) := heap_alloc_new _ _
            have hNz : w3.heap.size ≤ w7.heap.size := (below_le (by repeat (first | exact Below.refl _ _ | apply blw_drew | apply blw_alloc | (refine blw_set ?_ (by first | omega | (simp; done) | (simp; omega)) _) | refine below_chain ?_ (by assumption))))
            have hNs : w7.heap.size < (w7.alloc (.cells #[.slice none 0 0, .slice none 0 0] 43)).heap.size := by simp
            go_wp2_with fail
            first | (refine hK _ _ ⟨(by repeat (first | exact Below.refl _ _ | apply blw_drew | apply blw_alloc | (refine blw_set ?_ (by first | omega | (simp; done) | (simp; omega)) _) | refine below_chain ?_ (by assumption))), ?_⟩; clear hK K) | refine ⟨(by repeat (first | exact Below.refl _ _ | apply blw_drew | apply blw_alloc | (refine blw_set ?_ (by first | omega | (simp; done) | (simp; omega)) _) | refine below_chain ?_ (by assumption))), ?_⟩
            refine norm_K fun K hK => ?_
            change wpList _ _ _ [_, _, _, _, _, _] _ _
            go_wp2_with fail
            refine (hS _ _ ht0.el _ ht1.re _ ht2.hv).mono ?_; rintro e w9 ⟨v0_, rfl, hs0, hb9⟩
            have hx0 := hx0.below hb9; have hx1 := hx1.below hb9; have hx2 := hx2.below hb9; have d00 := kept hb9 d00; have d01 := kept hb9 d01; have d20 := kept hb9 d20; have d21 := kept hb9 d21; have ht0 := ht0.below hb9; have ht1 := ht1.below hb9; have ht2 := ht2.below hb9; have hN := hN.below hb9
            have hsK := hs0
            obtain ⟨sd, su, rfl, sd_, su_⟩ := hs0.hv.hr; obtain ⟨sa, sc, rfl, _⟩ := id sd_; obtain ⟨sb, se, rfl, _⟩ := id su_; clear sd_ su_
            have hNs := Nat.lt_of_lt_of_le hNs hb9.size
            have n0 := hN.c0; have n1 := hN.c1; have n2 := hN.f0; have n3 := hN.f1
            go_wp2_with fail
            first | (refine hK _ _ ⟨rfl, ?_⟩; clear hK K) | refine ⟨rfl, ?_⟩
            go_wp2_with fail
            go_meet
            case rel => exact ⟨_, _, _, rfl, rfl, (by first | exact (hN.set0 _).set1 _ | exact heap_alloc_new _ _), (by first | exact ((hs0.set_ (by first | omega | (simp; done) | (simp; omega)) _).set_ (by first | omega | (simp; done) | (simp; omega)) _).hv.hr | exact (hsK.below (by repeat (first | exact Below.refl _ _ | apply blw_drew | apply blw_alloc | (refine blw_set ?_ (by first | omega | (simp; done) | (simp; omega)) _) | refine below_chain ?_ (by assumption)))).hv.hr), (by repeat (first | exact Below.refl _ _ | apply blw_drew | apply blw_alloc | (refine blw_set ?_ (by first | omega | (simp; done) | (simp; omega)) _) | refine below_chain ?_ (by assumption)))⟩
        · skip
          refine norm_K fun K hK => ?_
          change wpList _ _ _ [_] _ _
          go_wp2_with fail
          have hb7 : Below w6.heap.size w6 (w6.alloc (.cells #[.slice none 0 0, .slice none 0 0] 43)) := (by repeat (first | exact Below.refl _ _ | apply blw_drew | apply blw_alloc | (refine blw_set ?_ (by first | omega | (simp; done) | (simp; omega)) _) | refine below_chain ?_ (by assumption)))
          have hx0 := hx0.below hb7; have hx1 := hx1.below hb7; have hx2 := hx2.below hb7; have d00 := kept hb7 d00; have d01 := kept hb7 d01; have d20 := kept hb7 d20; have d21 := kept hb7 d21; have ht0 := ht0.below hb7; have ht1 := ht1.below hb7
          have hN : Bx (w6.alloc (.cells #[.slice none 0 0, .slice none 0 0] 43)) w6.heap.size (.slice none 0 0) (.slice none 0 0) := heap_alloc_new _ _
          have hNz : w3.heap.size ≤ w6.heap.size := (below_le (by repeat (first | exact Below.refl _ _ | apply blw_drew | apply blw_alloc | (refine blw_set ?_ (by first | omega | (simp; done) | (simp; omega)) _) | refine below_chain ?_ (by assumption))))
          have hNs : w6.heap.size < (w6.alloc (.cells #[.slice none 0 0, .slice none 0 0] 43)).heap.size := by simp
          go_wp2_with fail
          first | (refine hK _ _ ⟨(by repeat (first | exact Below.refl _ _ | apply blw_drew | apply blw_alloc | (refine blw_set ?_ (by first | omega | (simp; done) | (simp; omega)) _) | refine below_chain ?_ (by assumption))), ?_⟩; clear hK K) | refine ⟨(by repeat (first | exact Below.refl _ _ | apply blw_drew | apply blw_alloc | (refine blw_set ?_ (by first | omega | (simp; done) | (simp; omega)) _) | refine below_chain ?_ (by assumption))), ?_⟩
          refine norm_K fun K hK => ?_
          change wpList _ _ _ [_, _, _, _, _, _, _] _ _
          go_wp2_with fail
          refine (toh_c hx2 hl2).mono ?_; rintro e w8 ⟨t2, rfl, ht2, hb8⟩
          have hx0 := hx0.below hb8; have hx1 := hx1.below hb8; have hx2 := hx2.below hb8; have d00 := kept hb8 d00; have d01 := kept hb8 d01; have d20 := kept hb8 d20; have d21 := kept hb8 d21; have ht0 := ht0.below hb8; have ht1 := ht1.below hb8; have hN := hN.below hb8
          have hNs := Nat.lt_of_lt_of_le hNs hb8.size
          go_wp2_with fail
          refine (hS _ _ ht0.el _ ht1.re _ ht2.hv).mono ?_; rintro e w9 ⟨v0_, rfl, hs0, hb9⟩
          have hx0 := hx0.below hb9; have hx1 := hx1.below hb9; have hx2 := hx2.below hb9; have d00 := kept hb9 d00; have d01 := kept hb9 d01; have d20 := kept hb9 d20; have d21 := kept hb9 d21; have ht0 := ht0.below hb9; have ht1 := ht1.below hb9; have hN := hN.below hb9; have ht2 := ht2.below hb9
          have hsK := hs0
          obtain ⟨sd, su, rfl, sd_, su_⟩ := hs0.hv.hr; obtain ⟨sa, sc, rfl, _⟩ := id sd_; obtain ⟨sb, se, rfl, _⟩ := id su_; clear sd_ su_
          have hNs := Nat.lt_of_lt_of_le hNs hb9.size
          have n0 := hN.c0; have n1 := hN.c1; have n2 := hN.f0; have n3 := hN.f1
          go_wp2_with fail
          first | (refine hK _ _ ⟨rfl, ?_⟩; clear hK K) | refine ⟨rfl, ?_⟩
          go_wp2_with fail
          go_meet
          case rel => exact ⟨_, _, _, rfl, rfl, (by first | exact (hN.set0 _).set1 _ | exact heap_alloc_new _ _), (by first | exact ((hs0.set_ (by first | omega | (simp; done) | (simp; omega)) _).set_ (by first | omega | (simp; done) | (simp; omega)) _).hv.hr | exact (hsK.below (by repeat (first | exact Below.refl _ _ | apply blw_drew | apply blw_alloc | (refine blw_set ?_ (by first | omega | (simp; done) | (simp; omega)) _) | refine below_chain ?_ (by assumption)))).hv.hr), (by repeat (first | exact Below.refl _ _ | apply blw_drew | apply blw_alloc | (refine blw_set ?_ (by first | omega | (simp; done) | (simp; omega)) _) | refine below_chain ?_ (by assumption)))⟩
      · skip
        refine norm_K fun K hK => ?_
        change wpList _ _ _ [_] _ _
        go_wp2_with fail
        have hb6 : Below w5.heap.size w5 (w5.alloc (.cells #[.slice none 0 0, .slice none 0 0] 43)) := (by repeat (first | exact Below.refl _ _ | apply blw_drew | apply blw_alloc | (refine blw_set ?_ (by first | omega | (simp; done) | (simp; omega)) _) | refine below_chain ?_ (by assumption)))
        have hx0 := hx0.below hb6; have hx1 := hx1.below hb6; have hx2 := hx2.below hb6; have d00 := kept hb6 d00; have d01 := kept hb6 d01; have d20 := kept hb6 d20; have d21 := kept hb6 d21; have ht0 := ht0.below hb6
        have hN : Bx (w5.alloc (.cells #[.slice none 0 0, .slice none 0 0] 43)) w5.heap.size (.slice none 0 0) (.slice none 0 0) := heap_alloc_new _ _
        have hNz : w3.heap.size ≤ w5.heap.size := (below_le (by repeat (first | exact Below.refl _ _ | apply blw_drew | apply blw_alloc | (refine blw_set ?_ (by first | omega | (simp; done) | (simp; omega)) _) | refine below_chain ?_ (by assumption))))
        have hNs : w5.heap.size < (w5.alloc (.cells #[.slice none 0 0, .slice none 0 0] 43)).heap.size := by simp
        go_wp2_with fail
        first | (refine hK _ _ ⟨(by repeat (first | exact Below.refl _ _ | apply blw_drew | apply blw_alloc | (refine blw_set ?_ (by first | omega | (simp; done) | (simp; omega)) _) | refine below_chain ?_ (by assumption))), ?_⟩; clear hK K) | refine ⟨(by repeat (first | exact Below.refl _ _ | apply blw_drew | apply blw_alloc | (refine blw_set ?_ (by first | omega | (simp; done) | (simp; omega)) _) | refine below_chain ?_ (by assumption))), ?_⟩
        refine norm_K fun K hK => ?_
        change wpList _ _ _ [_] _ _
        go_wp2_with fail
        refine (tom_c hx1 hl1).mono ?_; rintro e w7 ⟨t1, uq1, rfl, ht1, hb7⟩
        have hx0 := hx0.below hb7; have hx1 := hx1.below hb7; have hx2 := hx2.below hb7; have d00 := kept hb7 d00; have d01 := kept hb7 d01; have d20 := kept hb7 d20; have d21 := kept hb7 d21; have ht0 := ht0.below hb7; have hN := hN.below hb7
        have hNs := Nat.lt_of_lt_of_le hNs hb7.size
        go_wp2_with fail
        first | (refine hK _ _ ⟨(by repeat (first | exact Below.refl _ _ | apply blw_drew | apply blw_alloc | (refine blw_set ?_ (by first | omega | (simp; done) | (simp; omega)) _) | refine below_chain ?_ (by assumption))), ?_⟩; clear hK K) | refine ⟨(by repeat (first | exact Below.refl _ _ | apply blw_drew | apply blw_alloc | (refine blw_set ?_ (by first | omega | (simp; done) | (simp; omega)) _) | refine below_chain ?_ (by assumption))), ?_⟩
        refine norm_K fun K hK => ?_
        change wpList _ _ _ [_, _, _, _, _, _, _] _ _
        go_wp2_with fail
        refine (toh_c hx2 hl2).mono ?_; rintro e w8 ⟨t2, rfl, ht2, hb8⟩
        have hx0 := hx0.below hb8; have hx1 := hx1.below hb8; have hx2 := hx2.below hb8; have d00 := kept hb8 d00; have d01 := kept hb8 d01; have d20 := kept hb8 d20; have d21 := kept hb8 d21; have ht0 := ht0.below hb8; have hN := hN.below hb8; have ht1 := ht1.below hb8
        have hNs := Nat.lt_of_lt_of_le hNs hb8.size
        go_wp2_with fail
        refine (hS _ _ ht0.el _ ht1.re _ ht2.hv).mono ?_; rintro e w9 ⟨v0_, rfl, hs0, hb9⟩
        have hx0 := hx0.below hb9; have hx1 := hx1.below hb9; have hx2 := hx2.below hb9; have d00 := kept hb9 d00; have d01 := kept hb9 d01; have d20 := kept hb9 d20; have d21 := kept hb9 d21; have ht0 := ht0.below hb9; have hN := hN.below hb9; have ht1 := ht1.below hb9; have ht2 := ht2.below hb9
        have hsK := hs0
        obtain ⟨sd, su, rfl, sd_, su_⟩ := hs0.hv.hr; obtain ⟨sa, sc, rfl, _⟩ := id sd_; obtain ⟨sb, se, rfl, _⟩ := id su_; clear sd_ su_
        have hNs := Nat.lt_of_lt_of_le hNs hb9.size
        have n0 := hN.c0; have n1 := hN.c1; have n2 := hN.f0; have n3 := hN.f1
        go_wp2_with fail
        first | (refine hK _ _ ⟨rfl, ?_⟩; clear hK K) | refine ⟨rfl, ?_⟩
        go_wp2_with fail
        go_meet
        case rel => exact ⟨_, _, _, rfl, rfl, (by first | exact (hN.set0 _).set1 _ | exact heap_alloc_new _ _), (by first | exact ((hs0.set_ (by first | omega | (simp; done) | (simp; omega)) _).set_ (by first | omega | (simp; done) | (simp; omega)) _).hv.hr | exact (hsK.below (by repeat (first | exact Below.refl _ _ | apply blw_drew | apply blw_alloc | (refine blw_set ?_ (by first | omega | (simp; done) | (simp; omega)) _) | refine below_chain ?_ (by assumption)))).hv.hr), (by repeat (first | exact Below.refl _ _ | apply blw_drew | apply blw_alloc | (refine blw_set ?_ (by first | omega | (simp; done) | (simp; omega)) _) | refine below_chain ?_ (by assumption)))⟩
    · skip
      refine norm_K fun K hK => ?_
      change wpList _ _ _ [_] _ _
      go_wp2_with fail
      have hb5 : Below wq3.heap.size wq3 (wq3.alloc (.cells #[.slice none 0 0, .slice none 0 0] 43)) := (by repeat (first | exact Below.refl _ _ | apply blw_drew | apply blw_alloc | (refine blw_set ?_ (by first | omega | (simp; done) | (simp; omega)) _) | refine below_chain ?_ (by assumption)))
      have hx0 := hx0.below hb5; have hx1 := hx1.below hb5; have hx2 := hx2.below hb5; have d00 := kept hb5 d00; have d01 := kept hb5 d01; have d20 := kept hb5 d20; have d21 := kept hb5 d21
      have hN : Bx (wq3.alloc (.cells #[.slice none 0 0, .slice none 0 0] 43)) wq3.heap.size (.slice none 0 0) (.slice none 0 0) := heap_alloc_new _ _
      have hNz : w3.heap.size ≤ wq3.heap.size := (below_le (by repeat (first | exact Below.refl _ _ | apply blw_drew | apply blw_alloc | (refine blw_set ?_ (by first | omega | (simp; done) | (simp; omega)) _) | refine below_chain ?_ (by assumption))))
      have hNs : wq3.heap.size < (wq3.alloc (.cells #[.slice none 0 0, .slice none 0 0] 43)).heap.size := by simp
      go_wp2_with fail
      first | (refine hK _ _ ⟨(by repeat (first | exact Below.refl _ _ | apply blw_drew | apply blw_alloc | (refine blw_set ?_ (by first | omega | (simp; done) | (simp; omega)) _) | refine below_chain ?_ (by assumption))), ?_⟩; clear hK K) | refine ⟨(by repeat (first | exact Below.refl _ _ | apply blw_drew | apply blw_alloc | (refine blw_set ?_ (by first | omega | (simp; done) | (simp; omega)) _) | refine below_chain ?_ (by assumption))), ?_⟩
      refine norm_K fun K hK => ?_
      change wpList _ _ _ [_] _ _
      go_wp2_with fail
      refine (tod_c hx0 hl0).mono ?_; rintro e w6 ⟨t0, rfl, ht0, hb6⟩
      have hx0 := hx0.below hb6; have hx1 := hx1.below hb6; have hx2 := hx2.below hb6; have d00 := kept hb6 d00; have d01 := kept hb6 d01; have d20 := kept hb6 d20; have d21 := kept hb6 d21; have hN := hN.below hb6
      have hNs := Nat.lt_of_lt_of_le hNs hb6.size
      go_wp2_with fail
      first | (refine hK _ _ ⟨(by repeat (first | exact Below.refl _ _ | apply blw_drew | apply blw_alloc | (refine blw_set ?_ (by first | omega | (simp; done) | (simp; omega)) _) | refine below_chain ?_ (by assumption))), ?_⟩; clear hK K) | refine ⟨(by repeat (first | exact Below.refl _ _ | apply blw_drew | apply blw_alloc | (refine blw_set ?_ (by first | omega | (simp; done) | (simp; omega)) _) | refine below_chain ?_ (by assumption))), ?_⟩
      refine norm_K fun K hK => ?_
      change wpList _ _ _ [_] _ _
      go_wp2_with fail
      refine (tom_c hx1 hl1).mono ?_; rintro e w7 ⟨t1, uq1, rfl, ht1, hb7⟩
      have hx0 := hx0.below hb7; have hx1 := hx1.below hb7; have hx2 := hx2.below hb7; have d00 := kept hb7 d00; have d01 := kept hb7 d01; have d20 := kept hb7 d20; have d21 := kept hb7 d21; have hN := hN.below hb7; have ht0 := ht0.below hb7
      have hNs := Nat.lt_of_lt_of_le hNs hb7.size
      go_wp2_with fail
      first | (refine hK _ _ ⟨(by repeat (first | exact Below.refl _ _ | apply blw_drew | apply blw_alloc | (refine blw_set ?_ (by first | omega | (simp; done) | (simp; omega)) _) | refine below_chain ?_ (by assumption))), ?_⟩; clear hK K) | refine ⟨(by repeat (first | exact Below.refl _ _ | apply blw_drew | apply blw_alloc | (refine blw_set ?_ (by first | omega | (simp; done) | (simp; omega)) _) | refine below_chain ?_ (by assumption))), ?_⟩
      refine norm_K fun K hK => ?_
      change wpList _ _ _ [_, _, _, _, _, _, _] _ _
      go_wp2_with fail
      refine (toh_c hx2 hl2).mono ?_; rintro e w8 ⟨t2, rfl, ht2, hb8⟩
      have hx0 := hx0.below hb8; have hx1 := hx1.below hb8; have hx2 := hx2.below hb8; have d00 := kept hb8 d00; have d01 := kept hb8 d01; have d20 := kept hb8 d20; have d21 := kept hb8 d21; have hN := hN.below hb8; have ht0 := ht0.below hb8; have ht1 := ht1.below hb8
      have hNs := Nat.lt_of_lt_of_le hNs hb8.size
      go_wp2_with fail
      refine (hS _ _ ht0.el _ ht1.re _ ht2.hv).mono ?_; rintro e w9 ⟨v0_, rfl, hs0, hb9⟩
      have hx0 := hx0.below hb9; have hx1 := hx1.below hb9; have hx2 := hx2.below hb9; have d00 := kept hb9 d00; have d01 := kept hb9 d01; have d20 := kept hb9 d20; have d21 := kept hb9 d21; have hN := hN.below hb9; have ht0 := ht0.below hb9; have ht1 := ht1.below hb9; have ht2 := ht2.below hb9
      have hsK := hs0
      obtain ⟨sd, su, rfl, sd_, su_⟩ := hs0.hv.hr; obtain ⟨sa, sc, rfl, _⟩ := id sd_; obtain ⟨sb, se, rfl, _⟩ := id su_; clear sd_ su_
      have hNs := Nat.lt_of_lt_of_le hNs hb9.size
      have n0 := hN.c0; have n1 := hN.c1; have n2 := hN.f0; have n3 := hN.f1
      go_wp2_with fail
      first | (refine hK _ _ ⟨rfl, ?_⟩; clear hK K) | refine ⟨rfl, ?_⟩
      go_wp2_with fail
      go_meet
      case rel => exact ⟨_, _, _, rfl, rfl, (by first | exact (hN.set0 _).set1 _ | exact heap_alloc_new _ _), (by first | exact ((hs0.set_ (by first | omega | (simp; done) | (simp; omega)) _).set_ (by first | omega | (simp; done) | (simp; omega)) _).hv.hr | exact (hsK.below (by repeat (first | exact Below.refl _ _ | apply blw_drew | apply blw_alloc | (refine blw_set ?_ (by first | omega | (simp; done) | (simp; omega)) _) | refine below_chain ?_ (by assumption)))).hv.hr), (by repeat (first | exact Below.refl _ _ | apply blw_drew | apply blw_alloc | (refine blw_set ?_ (by first | omega | (simp; done) | (simp; omega)) _) | refine below_chain ?_ (by assumption)))⟩
  case' rest => skip
  obtain ⟨N3, D3, U3, rfl, rfl, hN3, hs0, hb3r⟩ := hcut
  have hx0 := hx0.below hb3r; have hx1 := hx1.below hb3r; have hx2 := hx2.below hb3r; have d00 := kept hb3r d00; have d01 := kept hb3r d01; have d20 := kept hb3r d20; have d21 := kept hb3r d21
  have hsc00 := hN3.c0; have hsc01 := hN3.c1; clear hN3
  obtain ⟨_, _, e_, q3d_, q3u_⟩ := id hs0; cases e_; obtain ⟨q3a, q3c, rfl, _⟩ := id q3d_; obtain ⟨q3b, q3e, rfl, _⟩ := id q3u_; clear q3d_ q3u_
  have hbW3 : Below w.heap.size w wc := (by repeat (first | exact Below.refl _ _ | apply blw_drew | apply blw_alloc | (refine blw_set ?_ (by first | omega | (simp; done) | (simp; omega)) _) | refine below_chain ?_ (by assumption)))
  obtain ⟨W3, hW3⟩ : ∃ W, W = wc := ⟨_, rfl⟩
  rw [← hW3] at hbW3 hb3r hx0 hx1 hx2 d00 d01 d20 d21 hs0 hsc00 hsc01 ⊢; clear hW3
  have hx0_ := hx0
  have hx1_ := hx1
  have hx2_ := hx2
  have d00_ := d00
  have d01_ := d01
  have d20_ := d20
  have d21_ := d21
  have hs0_ := hs0
  have hsc00_ := hsc00
  have hsc01_ := hsc01
  go_wp2_with fail
  refine (tod_c hx0 hl0).mono ?_; rintro e w4 ⟨t0, rfl, ⟨g0, k0, rfl, ht0⟩, hb4⟩
  have hx0 := hx0.below hb4; have hx1 := hx1.below hb4; have hx2 := hx2.below hb4; have d00 := kept hb4 d00; have d01 := kept hb4 d01; have d20 := kept hb4 d20; have d21 := kept hb4 d21; have hs0 := hs0.below hb4; have hsc00 := kept hb4 hsc00; have hsc01 := kept hb4 hsc01
  have bt0 := ht0.lt; have zt0 := hb4.size; (try simp at bt0); (try simp at zt0)
  have hb5 : Below w4.heap.size w4 (w4.alloc (.cells #[.int .i64 p0, .slice (some ⟨g0, 0, none⟩) st0.length k0] 32)) := (by repeat (first | exact Below.refl _ _ | apply blw_drew | apply blw_alloc | (refine blw_set ?_ (by first | omega | (simp; done) | (simp; omega)) _) | refine below_chain ?_ (by assumption)))
  have hx0 := hx0.below hb5; have hx1 := hx1.below hb5; have hx2 := hx2.below hb5; have d00 := kept hb5 d00; have d01 := kept hb5 d01; have d20 := kept hb5 d20; have d21 := kept hb5 d21; have hs0 := hs0.below hb5; have hsc00 := kept hb5 hsc00; have hsc01 := kept hb5 hsc01; have ht0 := ht0.below hb5
  have e00 : (w4.alloc (.cells #[.int .i64 p0, .slice (some ⟨g0, 0, none⟩) st0.length k0] 32)).cell? ⟨w4.heap.size, 0, none⟩ = some (.int .i64 p0) := by simp [go_sem]
  have e01 : (w4.alloc (.cells #[.int .i64 p0, .slice (some ⟨g0, 0, none⟩) st0.length k0] 32)).cell? ⟨w4.heap.size, 1, none⟩ = some (.slice (some ⟨g0, 0, none⟩) st0.length k0) := by simp [go_sem]
  go_wp2_with fail
  refine (tom_c hx1 hl1).mono ?_; rintro e w6 ⟨t1, us1, rfl, ht1, hb6⟩
  have hx0 := hx0.below hb6; have hx1 := hx1.below hb6; have hx2 := hx2.below hb6; have d00 := kept hb6 d00; have d01 := kept hb6 d01; have d20 := kept hb6 d20; have d21 := kept hb6 d21; have hs0 := hs0.below hb6; have hsc00 := kept hb6 hsc00; have hsc01 := kept hb6 hsc01; have ht0 := ht0.below hb6; have e00 := kept hb6 e00; have e01 := kept hb6 e01
  have hk1 := ht1.rg; have zt1 := hb6.size; (try simp at zt1)
  obtain ⟨ta1, tc1, rfl, _⟩ := id ht1.re
  go_wp2_with fail
  refine (toh_c hx2 hl2).mono ?_; rintro e w7 ⟨t2, rfl, ht2, hb7⟩
  have hx0 := hx0.below hb7; have hx1 := hx1.below hb7; have hx2 := hx2.below hb7; have d00 := kept hb7 d00; have d01 := kept hb7 d01; have d20 := kept hb7 d20; have d21 := kept hb7 d21; have hs0 := hs0.below hb7; have hsc00 := kept hb7 hsc00; have hsc01 := kept hb7 hsc01; have ht0 := ht0.below hb7; have e00 := kept hb7 e00; have e01 := kept hb7 e01; have ht1 := ht1.below hb7; have hk1 := hk1.below hb7
  have hk2 := ht2.rg; have zt2 := hb7.size; (try simp at zt2)
  obtain ⟨td2, tu2, rfl, htd2, htu2⟩ := ht2.hv; obtain ⟨ta2, tc2, rfl, _⟩ := htd2.op; obtain ⟨tb2, te2, rfl, _⟩ := id htu2; clear htd2 htu2
  have hb8 : Below w7.heap.size w7 (w7.alloc (.cells #[.slice ta2 X2.dg.length tc2, .slice tb2 X2.up.length te2] 43)) := (by repeat (first | exact Below.refl _ _ | apply blw_drew | apply blw_alloc | (refine blw_set ?_ (by first | omega | (simp; done) | (simp; omega)) _) | refine below_chain ?_ (by assumption)))
  have hx0 := hx0.below hb8; have hx1 := hx1.below hb8; have hx2 := hx2.below hb8; have d00 := kept hb8 d00; have d01 := kept hb8 d01; have d20 := kept hb8 d20; have d21 := kept hb8 d21; have hs0 := hs0.below hb8; have hsc00 := kept hb8 hsc00; have hsc01 := kept hb8 hsc01; have ht0 := ht0.below hb8; have e00 := kept hb8 e00; have e01 := kept hb8 e01; have ht1 := ht1.below hb8; have hk1 := hk1.below hb8; have ht2 := ht2.below hb8; have hk2 := hk2.below hb8
  have e20 : (w7.alloc (.cells #[.slice ta2 X2.dg.length tc2, .slice tb2 X2.up.length te2] 43)).cell? ⟨w7.heap.size, 0, none⟩ = some (.slice ta2 X2.dg.length tc2) := by simp [go_sem]
  have e21 : (w7.alloc (.cells #[.slice ta2 X2.dg.length tc2, .slice tb2 X2.up.length te2] 43)).cell? ⟨w7.heap.size, 1, none⟩ = some (.slice tb2 X2.up.length te2) := by simp [go_sem]
  go_wp2_with fail
  refine (hI _ _ ht0.el _ ht1.re _ ht2.hv).mono ?_; rintro e w9 ⟨v0_, rfl, hg0, hb9⟩
  have hx0 := hx0.below hb9; have hx1 := hx1.below hb9; have hx2 := hx2.below hb9; have d00 := kept hb9 d00; have d01 := kept hb9 d01; have d20 := kept hb9 d20; have d21 := kept hb9 d21; have hs0 := hs0.below hb9; have hsc00 := kept hb9 hsc00; have hsc01 := kept hb9 hsc01; have ht0 := ht0.below hb9; have e00 := kept hb9 e00; have e01 := kept hb9 e01; have ht1 := ht1.below hb9; have hk1 := hk1.below hb9; have ht2 := ht2.below hb9; have hk2 := hk2.below hb9; have e20 := kept hb9 e20; have e21 := kept hb9 e21
  have z6 := hb9.size; (try simp at z6)
  have hq0 := hg0.rg; clear hg0
  obtain ⟨g0d, g0u, rfl, g0d_, g0u_⟩ := id hq0.hr; obtain ⟨g0a, g0c, rfl, _⟩ := id g0d_; obtain ⟨g0b, g0e, rfl, _⟩ := id g0u_; clear g0d_ g0u_
  have hb10 : Below w9.heap.size w9 (w9.alloc (.cells #[.slice g0a y0.dg.length g0c, .slice g0b y0.up.length g0e] 43)) := (by repeat (first | exact Below.refl _ _ | apply blw_drew | apply blw_alloc | (refine blw_set ?_ (by first | omega | (simp; done) | (simp; omega)) _) | refine below_chain ?_ (by assumption)))
  have hx0 := hx0.below hb10; have hx1 := hx1.below hb10; have hx2 := hx2.below hb10; have d00 := kept hb10 d00; have d01 := kept hb10 d01; have d20 := kept hb10 d20; have d21 := kept hb10 d21; have hs0 := hs0.below hb10; have hsc00 := kept hb10 hsc00; have hsc01 := kept hb10 hsc01; have ht0 := ht0.below hb10; have e00 := kept hb10 e00; have e01 := kept hb10 e01; have ht1 := ht1.below hb10; have hk1 := hk1.below hb10; have ht2 := ht2.below hb10; have hk2 := hk2.below hb10; have e20 := kept hb10 e20; have e21 := kept hb10 e21; have hq0 := hq0.below hb10
  have g00 : (w9.alloc (.cells #[.slice g0a y0.dg.length g0c, .slice g0b y0.up.length g0e] 43)).cell? ⟨w9.heap.size, 0, none⟩ = some (.slice g0a y0.dg.length g0c) := by simp [go_sem]
  have g01 : (w9.alloc (.cells #[.slice g0a y0.dg.length g0c, .slice g0b y0.up.length g0e] 43)).cell? ⟨w9.heap.size, 1, none⟩ = some (.slice g0b y0.up.length g0e) := by simp [go_sem]
  go_wp2_with fail
  refine (eqh_c hq0.hr hs0 yl0.toHsz).mono ?_; rintro e w11 ⟨rfl, hb11⟩
  have hx0 := hx0.below hb11; have hx1 := hx1.below hb11; have hx2 := hx2.below hb11; have d00 := kept hb11 d00; have d01 := kept hb11 d01; have d20 := kept hb11 d20; have d21 := kept hb11 d21; have hs0 := hs0.below hb11; have hsc00 := kept hb11 hsc00; have hsc01 := kept hb11 hsc01; have ht0 := ht0.below hb11; have e00 := kept hb11 e00; have e01 := kept hb11 e01; have ht1 := ht1.below hb11; have hk1 := hk1.below hb11; have ht2 := ht2.below hb11; have hk2 := hk2.below hb11; have e20 := kept hb11 e20; have e21 := kept hb11 e21; have hq0 := hq0.below hb11; have g00 := kept hb11 g00; have g01 := kept hb11 g01
  go_wp2_with fail
  refine region_flow [(false, [(0, 1), (1, 1), (2, 5)]), (false, [(3, 4), (4, 0)])] (by kernel_rfl) ?_
  have hb12 : Below w11.heap.size w11 w11.drew := (by repeat (first | exact Below.refl _ _ | apply blw_drew | apply blw_alloc | (refine blw_set ?_ (by first | omega | (simp; done) | (simp; omega)) _) | refine below_chain ?_ (by assumption)))
  have hx0 := hx0.below hb12; have hx1 := hx1.below hb12; have hx2 := hx2.below hb12; have d00 := kept hb12 d00; have d01 := kept hb12 d01; have d20 := kept hb12 d20; have d21 := kept hb12 d21; have hs0 := hs0.below hb12; have hsc00 := kept hb12 hsc00; have hsc01 := kept hb12 hsc01; have ht0 := ht0.below hb12; have e00 := kept hb12 e00; have e01 := kept hb12 e01; have ht1 := ht1.below hb12; have hk1 := hk1.below hb12; have ht2 := ht2.below hb12; have hk2 := hk2.below hb12; have e20 := kept hb12 e20; have e21 := kept hb12 e21; have hq0 := hq0.below hb12; have g00 := kept hb12 g00; have g01 := kept hb12 g01
  generalize w11.drew = wr0 at *
  refine norm_K fun K hK => ?_
  change wpList _ _ _ [_, _, _] _ _
  go_wp2_with fail
  refine (tod_c hx0 hl0).mono ?_; rintro e w13 ⟨u0, rfl, hu0, hb13⟩
  have hx0 := hx0.below hb13; have hx1 := hx1.below hb13; have hx2 := hx2.below hb13; have d00 := kept hb13 d00; have d01 := kept hb13 d01; have d20 := kept hb13 d20; have d21 := kept hb13 d21; have hs0 := hs0.below hb13; have hsc00 := kept hb13 hsc00; have hsc01 := kept hb13 hsc01; have ht0 := ht0.below hb13; have e00 := kept hb13 e00; have e01 := kept hb13 e01; have ht1 := ht1.below hb13; have hk1 := hk1.below hb13; have ht2 := ht2.below hb13; have hk2 := hk2.below hb13; have e20 := kept hb13 e20; have e21 := kept hb13 e21; have hq0 := hq0.below hb13; have g00 := kept hb13 g00; have g01 := kept hb13 g01
  go_wp2_with fail
  first | (refine hK _ _ ⟨hb13, ?_⟩; clear hK K) | refine ⟨hb13, ?_⟩
  refine norm_K fun K hK => ?_
  change wpList _ _ _ [_, _] _ _
  go_wp2_with fail
  refine (eqd_c ht0.sl hu0.sl hl0).mono ?_; rintro e w14 ⟨rfl, hb14⟩
  have hx0 := hx0.below hb14; have hx1 := hx1.below hb14; have hx2 := hx2.below hb14; have d00 := kept hb14 d00; have d01 := kept hb14 d01; have d20 := kept hb14 d20; have d21 := kept hb14 d21; have hs0 := hs0.below hb14; have hsc00 := kept hb14 hsc00; have hsc01 := kept hb14 hsc01; have ht0 := ht0.below hb14; have e00 := kept hb14 e00; have e01 := kept hb14 e01; have ht1 := ht1.below hb14; have hk1 := hk1.below hb14; have ht2 := ht2.below hb14; have hk2 := hk2.below hb14; have e20 := kept hb14 e20; have e21 := kept hb14 e21; have hq0 := hq0.below hb14; have g00 := kept hb14 g00; have g01 := kept hb14 g01
  go_wp2_with fail
  first | (refine hK _ _ ⟨rfl, ?_⟩; clear hK K) | refine ⟨rfl, ?_⟩
  go_wp2_with fail
  refine (tom_c hx1 hl1).mono ?_; rintro e w15 ⟨u1, uu1, rfl, hu1, hb15⟩
  have hx0 := hx0.below hb15; have hx1 := hx1.below hb15; have hx2 := hx2.below hb15; have d00 := kept hb15 d00; have d01 := kept hb15 d01; have d20 := kept hb15 d20; have d21 := kept hb15 d21; have hs0 := hs0.below hb15; have hsc00 := kept hb15 hsc00; have hsc01 := kept hb15 hsc01; have ht0 := ht0.below hb15; have e00 := kept hb15 e00; have e01 := kept hb15 e01; have ht1 := ht1.below hb15; have hk1 := hk1.below hb15; have ht2 := ht2.below hb15; have hk2 := hk2.below hb15; have e20 := kept hb15 e20; have e21 := kept hb15 e21; have hq0 := hq0.below hb15; have g00 := kept hb15 g00; have g01 := kept hb15 g01
  go_wp2_with fail
  refine (eqm_c ht1.rs hu1.rs hl1).mono ?_; rintro e w16 ⟨rfl, hb16⟩
  have hx0 := hx0.below hb16; have hx1 := hx1.below hb16; have hx2 := hx2.below hb16; have d00 := kept hb16 d00; have d01 := kept hb16 d01; have d20 := kept hb16 d20; have d21 := kept hb16 d21; have hs0 := hs0.below hb16; have hsc00 := kept hb16 hsc00; have hsc01 := kept hb16 hsc01; have ht0 := ht0.below hb16; have e00 := kept hb16 e00; have e01 := kept hb16 e01; have ht1 := ht1.below hb16; have hk1 := hk1.below hb16; have ht2 := ht2.below hb16; have hk2 := hk2.below hb16; have e20 := kept hb16 e20; have e21 := kept hb16 e21; have hq0 := hq0.below hb16; have g00 := kept hb16 g00; have g01 := kept hb16 g01
  go_wp2_with fail
  refine region_flow [(false, [(0, 1), (1, 1), (2, 5)]), (false, [(3, 4), (4, 0)])] (by kernel_rfl) ?_
  have hb17 : Below w16.heap.size w16 w16.drew := (by repeat (first | exact Below.refl _ _ | apply blw_drew | apply blw_alloc | (refine blw_set ?_ (by first | omega | (simp; done) | (simp; omega)) _) | refine below_chain ?_ (by assumption)))
  have hx0 := hx0.below hb17; have hx1 := hx1.below hb17; have hx2 := hx2.below hb17; have d00 := kept hb17 d00; have d01 := kept hb17 d01; have d20 := kept hb17 d20; have d21 := kept hb17 d21; have hs0 := hs0.below hb17; have hsc00 := kept hb17 hsc00; have hsc01 := kept hb17 hsc01; have ht0 := ht0.below hb17; have e00 := kept hb17 e00; have e01 := kept hb17 e01; have ht1 := ht1.below hb17; have hk1 := hk1.below hb17; have ht2 := ht2.below hb17; have hk2 := hk2.below hb17; have e20 := kept hb17 e20; have e21 := kept hb17 e21; have hq0 := hq0.below hb17; have g00 := kept hb17 g00; have g01 := kept hb17 g01
  generalize w16.drew = wr2 at *
  refine norm_K fun K hK => ?_
  change wpList _ _ _ [_, _, _] _ _
  go_wp2_with fail
  refine (toh_c hx2 hl2).mono ?_; rintro e w18 ⟨u2, rfl, hu2, hb18⟩
  have hx0 := hx0.below hb18; have hx1 := hx1.below hb18; have hx2 := hx2.below hb18; have d00 := kept hb18 d00; have d01 := kept hb18 d01; have d20 := kept hb18 d20; have d21 := kept hb18 d21; have hs0 := hs0.below hb18; have hsc00 := kept hb18 hsc00; have hsc01 := kept hb18 hsc01; have ht0 := ht0.below hb18; have e00 := kept hb18 e00; have e01 := kept hb18 e01; have ht1 := ht1.below hb18; have hk1 := hk1.below hb18; have ht2 := ht2.below hb18; have hk2 := hk2.below hb18; have e20 := kept hb18 e20; have e21 := kept hb18 e21; have hq0 := hq0.below hb18; have g00 := kept hb18 g00; have g01 := kept hb18 g01
  go_wp2_with fail
  first | (refine hK _ _ ⟨hb18, ?_⟩; clear hK K) | refine ⟨hb18, ?_⟩
  refine norm_K fun K hK => ?_
  change wpList _ _ _ [_, _] _ _
  go_wp2_with fail
  refine (eqh_c ht2.hv.hr hu2.hv.hr hl2).mono ?_; rintro e w19 ⟨rfl, hb19⟩
  have hx0 := hx0.below hb19; have hx1 := hx1.below hb19; have hx2 := hx2.below hb19; have d00 := kept hb19 d00; have d01 := kept hb19 d01; have d20 := kept hb19 d20; have d21 := kept hb19 d21; have hs0 := hs0.below hb19; have hsc00 := kept hb19 hsc00; have hsc01 := kept hb19 hsc01; have ht0 := ht0.below hb19; have e00 := kept hb19 e00; have e01 := kept hb19 e01; have ht1 := ht1.below hb19; have hk1 := hk1.below hb19; have ht2 := ht2.below hb19; have hk2 := hk2.below hb19; have e20 := kept hb19 e20; have e21 := kept hb19 e21; have hq0 := hq0.below hb19; have g00 := kept hb19 g00; have g01 := kept hb19 g01
  go_wp2_with fail
  first | (refine hK _ _ ⟨rfl, ?_⟩; clear hK K) | refine ⟨rfl, ?_⟩
  go_wp2_with fail
  refine (markd_c (ht0.fr.ow (Nat.le_refl _)) hl0 (by omega) (by omega)).mono ?_; rintro e w20 ⟨rfl, _, hch_⟩
  have hch0 := hch_ g0 (g0 + 1) (fun j hj => by have e : g0 = j := Option.some.inj hj; omega); clear hch_
  have hb20 := hch0.blw (show Below W3.heap.size W3 w19 from (by repeat (first | exact Below.refl _ _ | apply blw_drew | apply blw_alloc | (refine blw_set ?_ (by first | omega | (simp; done) | (simp; omega)) _) | refine below_chain ?_ (by assumption)))) (by first | omega | (simp; done) | (simp; omega))
  have hx0 := hx0_.below hb20
  have hx1 := hx1_.below hb20
  have hx2 := hx2_.below hb20
  have d00 := kept hb20 d00_
  have d01 := kept hb20 d01_
  have d20 := kept hb20 d20_
  have d21 := kept hb20 d21_
  have hs0 := hs0_.below hb20
  have hsc00 := kept hb20 hsc00_
  have hsc01 := kept hb20 hsc01_
  have hk1 := hk1.chg hch0 (by first | omega | (simp; done) | (simp; omega))
  have hk2 := hk2.chg hch0 (by first | omega | (simp; done) | (simp; omega))
  have e20 := hch0.cell e20 (.inr (by first | omega | (simp; done) | (simp; omega)))
  have e21 := hch0.cell e21 (.inr (by first | omega | (simp; done) | (simp; omega)))
  have hq0 := hq0.chg hch0 (by first | omega | (simp; done) | (simp; omega))
  have g00 := hch0.cell g00 (.inr (by first | omega | (simp; done) | (simp; omega)))
  have g01 := hch0.cell g01 (.inr (by first | omega | (simp; done) | (simp; omega)))
  have zw20 : W3.heap.size ≤ w20.heap.size := hb20.size
  go_wp2_with fail
  have hS11 := hl1.sum
  refine (markm_c hk1 hl1 (by omega) (by omega)).mono ?_; rintro e w21 ⟨rfl, _, hch1⟩
  have hb21 := hch1.blw (show Below W3.heap.size W3 w20 from (by repeat (first | exact Below.refl _ _ | apply blw_drew | apply blw_alloc | (refine blw_set ?_ (by first | omega | (simp; done) | (simp; omega)) _) | refine below_chain ?_ (by assumption)))) (by first | omega | (simp; done) | (simp; omega))
  have hx0 := hx0_.below hb21
  have hx1 := hx1_.below hb21
  have hx2 := hx2_.below hb21
  have d00 := kept hb21 d00_
  have d01 := kept hb21 d01_
  have d20 := kept hb21 d20_
  have d21 := kept hb21 d21_
  have hs0 := hs0_.below hb21
  have hsc00 := kept hb21 hsc00_
  have hsc01 := kept hb21 hsc01_
  have hk2 := hk2.chg hch1 (by first | omega | (simp; done) | (simp; omega))
  have e20 := hch1.cell e20 (.inr (by first | omega | (simp; done) | (simp; omega)))
  have e21 := hch1.cell e21 (.inr (by first | omega | (simp; done) | (simp; omega)))
  have hq0 := hq0.chg hch1 (by first | omega | (simp; done) | (simp; omega))
  have g00 := hch1.cell g00 (.inr (by first | omega | (simp; done) | (simp; omega)))
  have g01 := hch1.cell g01 (.inr (by first | omega | (simp; done) | (simp; omega)))
  have zw21 : W3.heap.size ≤ w21.heap.size := hb21.size
  go_wp2_with fail
  have hS21 := hl2.h1; have hS22 := hS2.sum
  refine (markh_c hk2 hS2 (by omega) (by omega)).mono ?_; rintro e w22 ⟨rfl, _, hch2⟩
  have hb22 := hch2.blw (show Below W3.heap.size W3 w21 from (by repeat (first | exact Below.refl _ _ | apply blw_drew | apply blw_alloc | (refine blw_set ?_ (by first | omega | (simp; done) | (simp; omega)) _) | refine below_chain ?_ (by assumption)))) (by first | omega | (simp; done) | (simp; omega))
  have hx0 := hx0_.below hb22
  have hx1 := hx1_.below hb22
  have hx2 := hx2_.below hb22
  have d00 := kept hb22 d00_
  have d01 := kept hb22 d01_
  have d20 := kept hb22 d20_
  have d21 := kept hb22 d21_
  have hs0 := hs0_.below hb22
  have hsc00 := kept hb22 hsc00_
  have hsc01 := kept hb22 hsc01_
  have hq0 := hq0.chg hch2 (by first | omega | (simp; done) | (simp; omega))
  have g00 := hch2.cell g00 (.inr (by first | omega | (simp; done) | (simp; omega)))
  have g01 := hch2.cell g01 (.inr (by first | omega | (simp; done) | (simp; omega)))
  have zw22 : W3.heap.size ≤ w22.heap.size := hb22.size
  have hmk : True := trivial
  go_wp2_with fail
  refine (eqh_c hq0.hr hs0 yl0.toHsz).mono ?_; rintro e w23 ⟨rfl, hb23⟩
  have hx0 := hx0.below hb23; have hx1 := hx1.below hb23; have hx2 := hx2.below hb23; have d00 := kept hb23 d00; have d01 := kept hb23 d01; have d20 := kept hb23 d20; have d21 := kept hb23 d21; have hs0 := hs0.below hb23; have hsc00 := kept hb23 hsc00; have hsc01 := kept hb23 hsc01; have hq0 := hq0.below hb23; have g00 := kept hb23 g00; have g01 := kept hb23 g01
  go_wp2_with fail
  refine (markh_c hq0 yl0 (by omega) (by omega)).mono ?_; rintro e w24 ⟨rfl, hm0, hcg0⟩
  have hb24 := hcg0.blw (show Below W3.heap.size W3 w23 from (by repeat (first | exact Below.refl _ _ | apply blw_drew | apply blw_alloc | (refine blw_set ?_ (by first | omega | (simp; done) | (simp; omega)) _) | refine below_chain ?_ (by assumption)))) (by first | omega | (simp; done) | (simp; omega))
  have hx0 := hx0_.below hb24
  have hx1 := hx1_.below hb24
  have hx2 := hx2_.below hb24
  have d00 := kept hb24 d00_
  have d01 := kept hb24 d01_
  have d20 := kept hb24 d20_
  have d21 := kept hb24 d21_
  have hs0 := hs0_.below hb24
  have hsc00 := kept hb24 hsc00_
  have hsc01 := kept hb24 hsc01_
  have g00 := hcg0.cell g00 (.inr (by first | exact Nat.le_refl _ | omega | (simp; omega)))
  have g01 := hcg0.cell g01 (.inr (by first | exact Nat.le_refl _ | omega | (simp; omega)))
  go_wp2_with fail
  refine (heldh_c hm0 yl0 (by omega) (by omega)).mono ?_; rintro e w25 ⟨rfl, hb25⟩
  have hx0 := hx0.below hb25; have hx1 := hx1.below hb25; have hx2 := hx2.below hb25; have d00 := kept hb25 d00; have d01 := kept hb25 d01; have d20 := kept hb25 d20; have d21 := kept hb25 d21; have hs0 := hs0.below hb25; have hsc00 := kept hb25 hsc00; have hsc01 := kept hb25 hsc01; have hm0 := hm0.below hb25; have g00 := kept hb25 g00; have g01 := kept hb25 g01
  go_upto_region 38 with fail
  go_cut [18, 19] (fun s18 s19 wx => ∃ N d u, s18 = .pointer (some ⟨N, 0, none⟩) ∧ s19 = .int .i64 y1 ∧ Bx wx N d u ∧ Hr wx (.agg #[d, u]) y0 ∧ Below w25.heap.size w25 wx)
  case first =>
    refine region_tree [(0, 1), (2, 0), (4, 1)] (.two 1 5 (.two 3 5 (.two 5 5 (.two 6 5 (.lin [(false, [(7, 0), (8, 0), (9, 0), (10, 5)]), (false, [(11, 4), (12, 0)])]) 10 5 (.lin [(false, [(6, 4), (7, 0), (8, 0), (9, 0), (11, 4), (12, 0)])])) 10 5 (.lin [(false, [(5, 4), (6, 4), (7, 0), (8, 0), (9, 0), (11, 4), (12, 0)])])) 10 5 (.lin [(false, [(3, 5)]), (false, [(5, 4), (6, 4), (7, 0), (8, 0), (9, 0), (11, 4), (12, 0)])])) 10 5 (.lin [(false, [(1, 5)]), (false, [(3, 5)]), (false, [(5, 4), (6, 4), (7, 0), (8, 0), (9, 0), (11, 4), (12, 0)])])) (by kernel_rfl) ?_
    refine norm_K fun K hK => ?_
    change wpList _ _ _ [_, _, _] _ _
    go_wp2_with fail
    have hb26 : Below w25.heap.size w25 w25.drew := (by repeat (first | exact Below.refl _ _ | apply blw_drew | apply blw_alloc | (refine blw_set ?_ (by first | omega | (simp; done) | (simp; omega)) _) | refine below_chain ?_ (by assumption)))
    have hx0 := hx0.below hb26; have hx1 := hx1.below hb26; have hx2 := hx2.below hb26; have d00 := kept hb26 d00; have d01 := kept hb26 d01; have d20 := kept hb26 d20; have d21 := kept hb26 d21; have hs0 := hs0.below hb26; have hsc00 := kept hb26 hsc00; have hsc01 := kept hb26 hsc01; have hm0 := hm0.below hb26; have g00 := kept hb26 g00; have g01 := kept hb26 g01
    generalize w25.drew = wq5 at *
    refine hK _ _ ?_; clear hK K
    refine ⟨?_, ?_⟩
    · skip
      refine norm_K fun K hK => ?_
      change wpList _ _ _ [_] _ _
      go_wp2_with fail
      refine (tod_c hx0 hl0).mono ?_; rintro e w27 ⟨t0, rfl, ht0, hb27⟩
      have hx0 := hx0.below hb27; have hx1 := hx1.below hb27; have hx2 := hx2.below hb27; have d00 := kept hb27 d00; have d01 := kept hb27 d01; have d20 := kept hb27 d20; have d21 := kept hb27 d21; have hs0 := hs0.below hb27; have hsc00 := kept hb27 hsc00; have hsc01 := kept hb27 hsc01; have hm0 := hm0.below hb27; have g00 := kept hb27 g00; have g01 := kept hb27 g01
      go_wp2_with fail
      first | (refine hK _ _ ⟨(by repeat (first | exact Below.refl _ _ | apply blw_drew | apply blw_alloc | (refine blw_set ?_ (by first | omega | (simp; done) | (simp; omega)) _) | refine below_chain ?_ (by assumption))), ?_⟩; clear hK K) | refine ⟨(by repeat (first | exact Below.refl _ _ | apply blw_drew | apply blw_alloc | (refine blw_set ?_ (by first | omega | (simp; done) | (simp; omega)) _) | refine below_chain ?_ (by assumption))), ?_⟩
      refine ⟨?_, ?_⟩
      · skip
        refine norm_K fun K hK => ?_
        change wpList _ _ _ [_] _ _
        go_wp2_with fail
        refine (tom_c hx1 hl1).mono ?_; rintro e w28 ⟨t1, uq1, rfl, ht1, hb28⟩
        have hx0 := hx0.below hb28; have hx1 := hx1.below hb28; have hx2 := hx2.below hb28; have d00 := kept hb28 d00; have d01 := kept hb28 d01; have d20 := kept hb28 d20; have d21 := kept hb28 d21; have hs0 := hs0.below hb28; have hsc00 := kept hb28 hsc00; have hsc01 := kept hb28 hsc01; have hm0 := hm0.below hb28; have g00 := kept hb28 g00; have g01 := kept hb28 g01; have ht0 := ht0.below hb28
        go_wp2_with fail
        first | (refine hK _ _ ⟨(by repeat (first | exact Below.refl _ _ | apply blw_drew | apply blw_alloc | (refine blw_set ?_ (by first | omega | (simp; done) | (simp; omega)) _) | refine below_chain ?_ (by assumption))), ?_⟩; clear hK K) | refine ⟨(by repeat (first | exact Below.refl _ _ | apply blw_drew | apply blw_alloc | (refine blw_set ?_ (by first | omega | (simp; done) | (simp; omega)) _) | refine below_chain ?_ (by assumption))), ?_⟩
        refine ⟨?_, ?_⟩
        · skip
          refine norm_K fun K hK => ?_
          change wpList _ _ _ [_] _ _
          go_wp2_with fail
          refine (toh_c hx2 hl2).mono ?_; rintro e w29 ⟨t2, rfl, ht2, hb29⟩
          have hx0 := hx0.below hb29; have hx1 := hx1.below hb29; have hx2 := hx2.below hb29; have d00 := kept hb29 d00; have d01 := kept hb29 d01; have d20 := kept hb29 d20; have d21 := kept hb29 d21; have hs0 := hs0.below hb29; have hsc00 := kept hb29 hsc00; have hsc01 := kept hb29 hsc01; have hm0 := hm0.below hb29; have g00 := kept hb29 g00; have g01 := kept hb29 g01; have ht0 := ht0.below hb29; have ht1 := ht1.below hb29
          go_wp2_with fail
          first | (refine hK _ _ ⟨(by repeat (first | exact Below.refl _ _ | apply blw_drew | apply blw_alloc | (refine blw_set ?_ (by first | omega | (simp; done) | (simp; omega)) _) | refine below_chain ?_ (by assumption))), ?_⟩; clear hK K) | refine ⟨(by repeat (first | exact Below.refl _ _ | apply blw_drew | apply blw_alloc | (refine blw_set ?_ (by first | omega | (simp; done) | (simp; omega)) _) | refine below_chain ?_ (by assumption))), ?_⟩
          refine ⟨?_, ?_⟩
          · skip
            refine norm_K fun K hK => ?_
            change wpList _ _ _ [_] _ _
            go_wp2_with fail
            refine (hI _ _ ht0.el _ ht1.re _ ht2.hv).mono ?_; rintro e w30 ⟨v0_, rfl, hf0, hb30⟩
            have hx0 := hx0.below hb30; have hx1 := hx1.below hb30; have hx2 := hx2.below hb30; have d00 := kept hb30 d00; have d01 := kept hb30 d01; have d20 := kept hb30 d20; have d21 := kept hb30 d21; have hs0 := hs0.below hb30; have hsc00 := kept hb30 hsc00; have hsc01 := kept hb30 hsc01; have hm0 := hm0.below hb30; have g00 := kept hb30 g00; have g01 := kept hb30 g01; have ht0 := ht0.below hb30; have ht1 := ht1.below hb30; have ht2 := ht2.below hb30
            have hsK := hf0
            obtain ⟨sd, su, rfl, sd_, su_⟩ := hf0.hv.hr; obtain ⟨sa, sc, rfl, _⟩ := id sd_; obtain ⟨sb, se, rfl, _⟩ := id su_; clear sd_ su_
            go_wp2_with fail
            first | (refine hK _ _ ⟨(by repeat (first | exact Below.refl _ _ | apply blw_drew | apply blw_alloc | (refine blw_set ?_ (by first | omega | (simp; done) | (simp; omega)) _) | refine below_chain ?_ (by assumption))), ?_⟩; clear hK K) | refine ⟨(by repeat (first | exact Below.refl _ _ | apply blw_drew | apply blw_alloc | (refine blw_set ?_ (by first | omega | (simp; done) | (simp; omega)) _) | refine below_chain ?_ (by assumption))), ?_⟩
            refine norm_K fun K hK => ?_
            change wpList _ _ _ [_, _, _, _] _ _
            go_wp2_with fail
            have hb31 : Below w30.heap.size w30 (w30.alloc (.cells #[.slice none 0 0, .slice none 0 0] 43)) := (by repeat (first | exact Below.refl _ _ | apply blw_drew | apply blw_alloc | (refine blw_set ?_ (by first | omega | (simp; done) | (simp; omega)) _) | refine below_chain ?_ (by assumption)))
            have hx0 := hx0.below hb31; have hx1 := hx1.below hb31; have hx2 := hx2.below hb31; have d00 := kept hb31 d00; have d01 := kept hb31 d01; have d20 := kept hb31 d20; have d21 := kept hb31 d21; have hs0 := hs0.below hb31; have hsc00 := kept hb31 hsc00; have hsc01 := kept hb31 hsc01; have hm0 := hm0.below hb31; have g00 := kept hb31 g00; have g01 := kept hb31 g01; have ht0 := ht0.below hb31; have ht1 := ht1.below hb31; have ht2 := ht2.below hb31; have hf0 := hf0.below hb31
            have hN : Bx (w30.alloc (.cells #[.slice none 0 0, .slice none 0 0] 43)) w30.heap.size (.slice none 0 0) (.slice none 0 0) := heap_alloc_new _ _
            have hNz : w25.heap.size ≤ w30.heap.size := (below_le (by repeat (first | exact Below.refl _ _ | apply blw_drew | apply blw_alloc | (refine blw_set ?_ (by first | omega | (simp; done) | (simp; omega)) _) | refine below_chain ?_ (by assumption))))
            have hNs : w30.heap.size < (w30.alloc (.cells #[.slice none 0 0, .slice none 0 0] 43)).heap.size := by simp
            go_wp2_with fail
            first | (refine hK _ _ ⟨(by repeat (first | exact Below.refl _ _ | apply blw_drew | apply blw_alloc | (refine blw_set ?_ (by first | omega | (simp; done) | (simp; omega)) _) | refine below_chain ?_ (by assumption))), ?_⟩; clear hK K) | refine ⟨(by repeat (first | exact Below.refl _ _ | apply blw_drew | apply blw_alloc | (refine blw_set ?_ (by first | omega | (simp; done) | (simp; omega)) _) | refine below_chain ?_ (by assumption))), ?_⟩
            refine norm_K fun K hK => ?_
            change wpList _ _ _ [_, _] _ _
            have n0 := hN.c0; have n1 := hN.c1; have n2 := hN.f0; have n3 := hN.f1
            go_wp2_with fail
            first | (refine hK _ _ ⟨rfl, ?_⟩; clear hK K) | refine ⟨rfl, ?_⟩
            go_wp2_with fail
            go_meet
            case rel => exact ⟨_, _, _, rfl, rfl, (by first | exact (hN.set0 _).set1 _ | exact heap_alloc_new _ _), (by first | exact ((hf0.set_ (by first | omega | (simp; done) | (simp; omega)) _).set_ (by first | omega | (simp; done) | (simp; omega)) _).hv.hr | exact (hsK.below (by repeat (first | exact Below.refl _ _ | apply blw_drew | apply blw_alloc | (refine blw_set ?_ (by first | omega | (simp; done) | (simp; omega)) _) | refine below_chain ?_ (by assumption)))).hv.hr), (by repeat (first | exact Below.refl _ _ | apply blw_drew | apply blw_alloc | (refine blw_set ?_ (by first | omega | (simp; done) | (simp; omega)) _) | refine below_chain ?_ (by assumption)))⟩
          · skip
            refine norm_K fun K hK => ?_
            change wpList _ _ _ [_] _ _
            go_wp2_with fail
            have hb30 : Below w29.heap.size w29 (w29.alloc (.cells #[.slice none 0 0, .slice none 0 0] 43)) := (by repeat (first | exact Below.refl _ _ | apply blw_drew | apply blw_alloc | (refine blw_set ?_ (by first | omega | (simp; done) | (simp; omega)) _) | refine below_chain ?_ (by assumption)))
            have hx0 := hx0.below hb30; have hx1 := hx1.below hb30; have hx2 := hx2.below hb30; have d00 := kept hb30 d00; have d01 := kept hb30 d01; have d20 := kept hb30 d20; have d21 := kept hb30 d21; have hs0 := hs0.below hb30; have hsc00 := kept hb30 hsc00; have hsc01 := kept hb30 hsc01; have hm0 := hm0.below hb30; have g00 := kept hb30 g00; have g01 := kept hb30 g01; have ht0 := ht0.below hb30; have ht1 := ht1.below hb30; have ht2 := ht2.below hb30
            have hN : Bx (w29.alloc (.cells #[.slice none 0 0, .slice none 0 0] 43)) w29.heap.size (.slice none 0 0) (.slice none 0 0) := heap_alloc_new _ _
            have hNz : w25.heap.size ≤ w29.heap.size := (below_le (by repeat (first | exact Below.refl _ _ | apply blw_drew | apply blw_alloc | (refine blw_set ?_ (by first | omega | (simp; done) | (simp; omega)) _) | refine below_chain ?_ (by assumption))))
            have hNs : w29.heap.size < (w29.alloc (.cells #[.slice none 0 0, .slice none 0 0] 43)).heap.size := by simp
            go_wp2_with fail
            first | (refine hK _ _ ⟨(by repeat (first | exact Below.refl _ _ | apply blw_drew | apply blw_alloc | (refine blw_set ?_ (by first | omega | (simp; done) | (simp; omega)) _) | refine below_chain ?_ (by assumption))), ?_⟩; clear hK K) | refine ⟨(by repeat (first | exact Below.refl _ _ | apply blw_drew | apply blw_alloc | (refine blw_set ?_ (by first | omega | (simp; done) | (simp; omega)) _) | refine below_chain ?_ (by assumption))), ?_⟩
            refine norm_K fun K hK => ?_
            change wpList _ _ _ [_, _, _, _, _, _] _ _
            go_wp2_with fail
            refine (hI _ _ ht0.el _ ht1.re _ ht2.hv).mono ?_; rintro e w31 ⟨v0_, rfl, hf0, hb31⟩
            have hx0 := hx0.below hb31; have hx1 := hx1.below hb31; have hx2 := hx2.below hb31; have d00 := kept hb31 d00; have d01 := kept hb31 d01; have d20 := kept hb31 d20; have d21 := kept hb31 d21; have hs0 := hs0.below hb31; have hsc00 := kept hb31 hsc00; have hsc01 := kept hb31 hsc01; have hm0 := hm0.below hb31; have g00 := kept hb31 g00; have g01 := kept hb31 g01; have ht0 := ht0.below hb31; have ht1 := ht1.below hb31; have ht2 := ht2.below hb31; have hN := hN.below hb31
            have hsK := hf0
            obtain ⟨sd, su, rfl, sd_, su_⟩ := hf0.hv.hr; obtain ⟨sa, sc, rfl, _⟩ := id sd_; obtain ⟨sb, se, rfl, _⟩ := id su_; clear sd_ su_
            have hNs := Nat.lt_of_lt_of_le hNs hb31.size
            have n0 := hN.c0; have n1 := hN.c1; have n2 := hN.f0; have n3 := hN.f1
            go_wp2_with fail
            first | (refine hK _ _ ⟨rfl, ?_⟩; clear hK K) | refine ⟨rfl, ?_⟩
            go_wp2_with fail
            go_meet
            case rel => exact ⟨_, _, _, rfl, rfl, (by first | exact (hN.set0 _).set1 _ | exact heap_alloc_new _ _), (by first | exact ((hf0.set_ (by first | omega | (simp; done) | (simp; omega)) _).set_ (by first | omega | (simp; done) | (simp; omega)) _).hv.hr | exact (hsK.below (by repeat (first | exact Below.refl _ _ | apply blw_drew | apply blw_alloc | (refine blw_set ?_ (by first | omega | (simp; done) | (simp; omega)) _) | refine below_chain ?_ (by assumption)))).hv.hr), (by repeat (first | exact Below.refl _ _ | apply blw_drew | apply blw_alloc | (refine blw_set ?_ (by first | omega | (simp; done) | (simp; omega)) _) | refine below_chain ?_ (by assumption)))⟩
        · skip
          refine norm_K fun K hK => ?_
          change wpList _ _ _ [_] _ _
          go_wp2_with fail
          have hb29 : Below w28.heap.size w28 (w28.alloc (.cells #[.slice none 0 0, .slice none 0 0] 43)) := (by repeat (first | exact Below.refl _ _ | apply blw_drew | apply blw_alloc | (refine blw_set ?_ (by first | omega | (simp; done) | (simp; omega)) _) | refine below_chain ?_ (by assumption)))
          have hx0 := hx0.below hb29; have hx1 := hx1.below hb29; have hx2 := hx2.below hb29; have d00 := kept hb29 d00; have d01 := kept hb29 d01; have d20 := kept hb29 d20; have d21 := kept hb29 d21; have hs0 := hs0.below hb29; have hsc00 := kept hb29 hsc00; have hsc01 := kept hb29 hsc01; have hm0 := hm0.below hb29; have g00 := kept hb29 g00; have g01 := kept hb29 g01; have ht0 := ht0.below hb29; have ht1 := ht1.below hb29
          have hN : Bx (w28.alloc (.cells #[.slice none 0 0, .slice none 0 0] 43)) w28.heap.size (.slice none 0 0) (.slice none 0 0) := heap_alloc_new _ _
          have hNz : w25.heap.size ≤ w28.heap.size := (below_le (by repeat (first | exact Below.refl _ _ | apply blw_drew | apply blw_alloc | (refine blw_set ?_ (by first | omega | (simp; done) | (simp; omega)) _) | refine below_chain ?_ (by assumption))))
          have hNs : w28.heap.size < (w28.alloc (.cells #[.slice none 0 0, .slice none 0 0] 43)).heap.size := by simp
          go_wp2_with fail
          first | (refine hK _ _ ⟨(by repeat (first | exact Below.refl _ _ | apply blw_drew | apply blw_alloc | (refine blw_set ?_ (by first | omega | (simp; done) | (simp; omega)) _) | refine below_chain ?_ (by assumption))), ?_⟩; clear hK K) | refine ⟨(by repeat (first | exact Below.refl _ _ | apply blw_drew | apply blw_alloc | (refine blw_set ?_ (by first | omega | (simp; done) | (simp; omega)) _) | refine below_chain ?_ (by assumption))), ?_⟩
          refine norm_K fun K hK => ?_
          change wpList _ _ _ [_, _, _, _, _, _, _] _ _
          go_wp2_with fail
          refine (toh_c hx2 hl2).mono ?_; rintro e w30 ⟨t2, rfl, ht2, hb30⟩
          have hx0 := hx0.below hb30; have hx1 := hx1.below hb30; have hx2 := hx2.below hb30; have d00 := kept hb30 d00; have d01 := kept hb30 d01; have d20 := kept hb30 d20; have d21 := kept hb30 d21; have hs0 := hs0.below hb30; have hsc00 := kept hb30 hsc00; have hsc01 := kept hb30 hsc01; have hm0 := hm0.below hb30; have g00 := kept hb30 g00; have g01 := kept hb30 g01; have ht0 := ht0.below hb30; have ht1 := ht1.below hb30; have hN := hN.below hb30
          have hNs := Nat.lt_of_lt_of_le hNs hb30.size
          go_wp2_with fail
          refine (hI _ _ ht0.el _ ht1.re _ ht2.hv).mono ?_; rintro e w31 ⟨v0_, rfl, hf0, hb31⟩
          have hx0 := hx0.below hb31; have hx1 := hx1.below hb31; have hx2 := hx2.below hb31; have d00 := kept hb31 d00; have d01 := kept hb31 d01; have d20 := kept hb31 d20; have d21 := kept hb31 d21; have hs0 := hs0.below hb31; have hsc00 := kept hb31 hsc00; have hsc01 := kept hb31 hsc01; have hm0 := hm0.below hb31; have g00 := kept hb31 g00; have g01 := kept hb31 g01; have ht0 := ht0.below hb31; have ht1 := ht1.below hb31; have hN := hN.below hb31; have ht2 := ht2.below hb31
          have hsK := hf0
          obtain ⟨sd, su, rfl, sd_, su_⟩ := hf0.hv.hr; obtain ⟨sa, sc, rfl, _⟩ := id sd_; obtain ⟨sb, se, rfl, _⟩ := id su_; clear sd_ su_
          have hNs := Nat.lt_of_lt_of_le hNs hb31.size
          have n0 := hN.c0; have n1 := hN.c1; have n2 := hN.f0; have n3 := hN.f1
          go_wp2_with fail
          first | (refine hK _ _ ⟨rfl, ?_⟩; clear hK K) | refine ⟨rfl, ?_⟩
          go_wp2_with fail
          go_meet
          case rel => exact ⟨_, _, _, rfl, rfl, (by first | exact (hN.set0 _).set1 _ | exact heap_alloc_new _ _), (by first | exact ((hf0.set_ (by first | omega | (simp; done) | (simp; omega)) _).set_ (by first | omega | (simp; done) | (simp; omega)) _).hv.hr | exact (hsK.below (by repeat (first | exact Below.refl _ _ | apply blw_drew | apply blw_alloc | (refine blw_set ?_ (by first | omega | (simp; done) | (simp; omega)) _) | refine below_chain ?_ (by assumption)))).hv.hr), (by repeat (first | exact Below.refl _ _ | apply blw_drew | apply blw_alloc | (refine blw_set ?_ (by first | omega | (simp; done) | (simp; omega)) _) | refine below_chain ?_ (by assumption)))⟩
      · skip
        refine norm_K fun K hK => ?_
        change wpList _ _ _ [_] _ _
        go_wp2_with fail
        have hb28 : Below w27.heap.size w27 (w27.alloc (.cells #[.slice none 0 0, .slice none 0 0] 43)) := (by repeat (first | exact Below.refl _ _ | apply blw_drew | apply blw_alloc | (refine blw_set ?_ (by first | omega | (simp; done) | (simp; omega)) _) | refine below_chain ?_ (by assumption)))
        have hx0 := hx0.below hb28; have hx1 := hx1.below hb28; have hx2 := hx2.below hb28; have d00 := kept hb28 d00; have d01 := kept hb28 d01; have d20 := kept hb28 d20; have d21 := kept hb28 d21; have hs0 := hs0.below hb28; have hsc00 := kept hb28 hsc00; have hsc01 := kept hb28 hsc01; have hm0 := hm0.below hb28; have g00 := kept hb28 g00; have g01 := kept hb28 g01; have ht0 := ht0.below hb28
        have hN : Bx (w27.alloc (.cells #[.slice none 0 0, .slice none 0 0] 43)) w27.heap.size (.slice none 0 0) (.slice none 0 0) := heap_alloc_new _ _
        have hNz : w25.heap.size ≤ w27.heap.size := (below_le (by repeat (first | exact Below.refl _ _ | apply blw_drew | apply blw_alloc | (refine blw_set ?_ (by first | omega | (simp; done) | (simp; omega)) _) | refine below_chain ?_ (by assumption))))
        have hNs : w27.heap.size < (w27.alloc (.cells #[.slice none 0 0, .slice none 0 0] 43)).heap.size := by simp
        go_wp2_with fail
        first | (refine hK _ _ ⟨(by repeat (first | exact Below.refl _ _ | apply blw_drew | apply blw_alloc | (refine blw_set ?_ (by first | omega | (simp; done) | (simp; omega)) _) | refine below_chain ?_ (by assumption))), ?_⟩; clear hK K) | refine ⟨(by repeat (first | exact Below.refl _ _ | apply blw_drew | apply blw_alloc | (refine blw_set ?_ (by first | omega | (simp; done) | (simp; omega)) _) | refine below_chain ?_ (by assumption))), ?_⟩
        refine norm_K fun K hK => ?_
        change wpList _ _ _ [_] _ _
        go_wp2_with fail
        refine (tom_c hx1 hl1).mono ?_; rintro e w29 ⟨t1, uq1, rfl, ht1, hb29⟩
        have hx0 := hx0.below hb29; have hx1 := hx1.below hb29; have hx2 := hx2.below hb29; have d00 := kept hb29 d00; have d01 := kept hb29 d01; have d20 := kept hb29 d20; have d21 := kept hb29 d21; have hs0 := hs0.below hb29; have hsc00 := kept hb29 hsc00; have hsc01 := kept hb29 hsc01; have hm0 := hm0.below hb29; have g00 := kept hb29 g00; have g01 := kept hb29 g01; have ht0 := ht0.below hb29; have hN := hN.below hb29
        have hNs := Nat.lt_of_lt_of_le hNs hb29.size
        go_wp2_with fail
        first | (refine hK _ _ ⟨(by repeat (first | exact Below.refl _ _ | apply blw_drew | apply blw_alloc | (refine blw_set ?_ (by first | omega | (simp; done) | (simp; omega)) _) | refine below_chain ?_ (by assumption))), ?_⟩; clear hK K) | refine ⟨(by repeat (first | exact Below.refl _ _ | apply blw_drew | apply blw_alloc | (refine blw_set ?_ (by first | omega | (simp; done) | (simp; omega)) _) | refine below_chain ?_ (by assumption))), ?_⟩
        refine norm_K fun K hK => ?_
        change wpList _ _ _ [_, _, _, _, _, _, _] _ _
        go_wp2_with fail
        refine (toh_c hx2 hl2).mono ?_; rintro e w30 ⟨t2, rfl, ht2, hb30⟩
        have hx0 := hx0.below hb30; have hx1 := hx1.below hb30; have hx2 := hx2.below hb30; have d00 := kept hb30 d00; have d01 := kept hb30 d01; have d20 := kept hb30 d20; have d21 := kept hb30 d21; have hs0 := hs0.below hb30; have hsc00 := kept hb30 hsc00; have hsc01 := kept hb30 hsc01; have hm0 := hm0.below hb30; have g00 := kept hb30 g00; have g01 := kept hb30 g01; have ht0 := ht0.below hb30; have hN := hN.below hb30; have ht1 := ht1.below hb30
        have hNs := Nat.lt_of_lt_of_le hNs hb30.size
        go_wp2_with fail
        refine (hI _ _ ht0.el _ ht1.re _ ht2.hv).mono ?_; rintro e w31 ⟨v0_, rfl, hf0, hb31⟩
        have hx0 := hx0.below hb31; have hx1 := hx1.below hb31; have hx2 := hx2.below hb31; have d00 := kept hb31 d00; have d01 := kept hb31 d01; have d20 := kept hb31 d20; have d21 := kept hb31 d21; have hs0 := hs0.below hb31; have hsc00 := kept hb31 hsc00; have hsc01 := kept hb31 hsc01; have hm0 := hm0.below hb31; have g00 := kept hb31 g00; have g01 := kept hb31 g01; have ht0 := ht0.below hb31; have hN := hN.below hb31; have ht1 := ht1.below hb31; have ht2 := ht2.below hb31
        have hsK := hf0
        obtain ⟨sd, su, rfl, sd_, su_⟩ := hf0.hv.hr; obtain ⟨sa, sc, rfl, _⟩ := id sd_; obtain ⟨sb, se, rfl, _⟩ := id su_; clear sd_ su_
        have hNs := Nat.lt_of_lt_of_le hNs hb31.size
        have n0 := hN.c0; have n1 := hN.c1; have n2 := hN.f0; have n3 := hN.f1
        go_wp2_with fail
        first | (refine hK _ _ ⟨rfl, ?_⟩; clear hK K) | refine ⟨rfl, ?_⟩
        go_wp2_with fail
        go_meet
        case rel => exact ⟨_, _, _, rfl, rfl, (by first | exact (hN.set0 _).set1 _ | exact heap_alloc_new _ _), (by first | exact ((hf0.set_ (by first | omega | (simp; done) | (simp; omega)) _).set_ (by first | omega | (simp; done) | (simp; omega)) _).hv.hr | exact (hsK.below (by repeat (first | exact Below.refl _ _ | apply blw_drew | apply blw_alloc | (refine blw_set ?_ (by first | omega | (simp; done) | (simp; omega)) _) | refine below_chain ?_ (by assumption)))).hv.hr), (by repeat (first | exact Below.refl _ _ | apply blw_drew | apply blw_alloc | (refine blw_set ?_ (by first | omega | (simp; done) | (simp; omega)) _) | refine below_chain ?_ (by assumption)))⟩
    · skip
      refine norm_K fun K hK => ?_
      change wpList _ _ _ [_] _ _
      go_wp2_with fail
      have hb27 : Below wq5.heap.size wq5 (wq5.alloc (.cells #[.slice none 0 0, .slice none 0 0] 43)) := (by repeat (first | exact Below.refl _ _ | apply blw_drew | apply blw_alloc | (refine blw_set ?_ (by first | omega | (simp; done) | (simp; omega)) _) | refine below_chain ?_ (by assumption)))
      have hx0 := hx0.below hb27; have hx1 := hx1.below hb27; have hx2 := hx2.below hb27; have d00 := kept hb27 d00; have d01 := kept hb27 d01; have d20 := kept hb27 d20; have d21 := kept hb27 d21; have hs0 := hs0.below hb27; have hsc00 := kept hb27 hsc00; have hsc01 := kept hb27 hsc01; have hm0 := hm0.below hb27; have g00 := kept hb27 g00; have g01 := kept hb27 g01
      have hN : Bx (wq5.alloc (.cells #[.slice none 0 0, .slice none 0 0] 43)) wq5.heap.size (.slice none 0 0) (.slice none 0 0) := heap_alloc_new _ _
      have hNz : w25.heap.size ≤ wq5.heap.size := (below_le (by repeat (first | exact Below.refl _ _ | apply blw_drew | apply blw_alloc | (refine blw_set ?_ (by first | omega | (simp; done) | (simp; omega)) _) | refine below_chain ?_ (by assumption))))
      have hNs : wq5.heap.size < (wq5.alloc (.cells #[.slice none 0 0, .slice none 0 0] 43)).heap.size := by simp
      go_wp2_with fail
      first | (refine hK _ _ ⟨(by repeat (first | exact Below.refl _ _ | apply blw_drew | apply blw_alloc | (refine blw_set ?_ (by first | omega | (simp; done) | (simp; omega)) _) | refine below_chain ?_ (by assumption))), ?_⟩; clear hK K) | refine ⟨(by repeat (first | exact Below.refl _ _ | apply blw_drew | apply blw_alloc | (refine blw_set ?_ (by first | omega | (simp; done) | (simp; omega)) _) | refine below_chain ?_ (by assumption))), ?_⟩
      refine norm_K fun K hK => ?_
      change wpList _ _ _ [_] _ _
      go_wp2_with fail
      refine (tod_c hx0 hl0).mono ?_; rintro e w28 ⟨t0, rfl, ht0, hb28⟩
      have hx0 := hx0.below hb28; have hx1 := hx1.below hb28; have hx2 := hx2.below hb28; have d00 := kept hb28 d00; have d01 := kept hb28 d01; have d20 := kept hb28 d20; have d21 := kept hb28 d21; have hs0 := hs0.below hb28; have hsc00 := kept hb28 hsc00; have hsc01 := kept hb28 hsc01; have hm0 := hm0.below hb28; have g00 := kept hb28 g00; have g01 := kept hb28 g01; have hN := hN.below hb28
      have hNs := Nat.lt_of_lt_of_le hNs hb28.size
      go_wp2_with fail
      first | (refine hK _ _ ⟨(by repeat (first | exact Below.refl _ _ | apply blw_drew | apply blw_alloc | (refine blw_set ?_ (by first | omega | (simp; done) | (simp; omega)) _) | refine below_chain ?_ (by assumption))), ?_⟩; clear hK K) | refine ⟨(by repeat (first | exact Below.refl _ _ | apply blw_drew | apply blw_alloc | (refine blw_set ?_ (by first | omega | (simp; done) | (simp; omega)) _) | refine below_chain ?_ (by assumption))), ?_⟩
      refine norm_K fun K hK => ?_
      change wpList _ _ _ [_] _ _
      go_wp2_with fail
      refine (tom_c hx1 hl1).mono ?_; rintro e w29 ⟨t1, uq1, rfl, ht1, hb29⟩
      have hx0 := hx0.below hb29; have hx1 := hx1.below hb29; have hx2 := hx2.below hb29; have d00 := kept hb29 d00; have d01 := kept hb29 d01; have d20 := kept hb29 d20; have d21 := kept hb29 d21; have hs0 := hs0.below hb29; have hsc00 := kept hb29 hsc00; have hsc01 := kept hb29 hsc01; have hm0 := hm0.below hb29; have g00 := kept hb29 g00; have g01 := kept hb29 g01; have hN := hN.below hb29; have ht0 := ht0.below hb29
      have hNs := Nat.lt_of_lt_of_le hNs hb29.size
      go_wp2_with fail
      first | (refine hK _ _ ⟨(by repeat (first | exact Below.refl _ _ | apply blw_drew | apply blw_alloc | (refine blw_set ?_ (by first | omega | (simp; done) | (simp; omega)) _) | refine below_chain ?_ (by assumption))), ?_⟩; clear hK K) | refine ⟨(by repeat (first | exact Below.refl _ _ | apply blw_drew | apply blw_alloc | (refine blw_set ?_ (by first | omega | (simp; done) | (simp; omega)) _) | refine below_chain ?_ (by assumption))), ?_⟩
      refine norm_K fun K hK => ?_
      change wpList _ _ _ [_, _, _, _, _, _, _] _ _
      go_wp2_with fail
      refine (toh_c hx2 hl2).mono ?_; rintro e w30 ⟨t2, rfl, ht2, hb30⟩
      have hx0 := hx0.below hb30; have hx1 := hx1.below hb30; have hx2 := hx2.below hb30; have d00 := kept hb30 d00; have d01 := kept hb30 d01; have d20 := kept hb30 d20; have d21 := kept hb30 d21; have hs0 := hs0.below hb30; have hsc00 := kept hb30 hsc00; have hsc01 := kept hb30 hsc01; have hm0 := hm0.below hb30; have g00 := kept hb30 g00; have g01 := kept hb30 g01; have hN := hN.below hb30; have ht0 := ht0.below hb30; have ht1 := ht1.below hb30
      have hNs := Nat.lt_of_lt_of_le hNs hb30.size
      go_wp2_with fail
      refine (hI _ _ ht0.el _ ht1.re _ ht2.hv).mono ?_; rintro e w31 ⟨v0_, rfl, hf0, hb31⟩
      have hx0 := hx0.below hb31; have hx1 := hx1.below hb31; have hx2 := hx2.below hb31; have d00 := kept hb31 d00; have d01 := kept hb31 d01; have d20 := kept hb31 d20; have d21 := kept hb31 d21; have hs0 := hs0.below hb31; have hsc00 := kept hb31 hsc00; have hsc01 := kept hb31 hsc01; have hm0 := hm0.below hb31; have g00 := kept hb31 g00; have g01 := kept hb31 g01; have hN := hN.below hb31; have ht0 := ht0.below hb31; have ht1 := ht1.below hb31; have ht2 := ht2.below hb31
      have hsK := hf0
      obtain ⟨sd, su, rfl, sd_, su_⟩ := hf0.hv.hr; obtain ⟨sa, sc, rfl, _⟩ := id sd_; obtain ⟨sb, se, rfl, _⟩ := id su_; clear sd_ su_
      have hNs := Nat.lt_of_lt_of_le hNs hb31.size
      have n0 := hN.c0; have n1 := hN.c1; have n2 := hN.f0; have n3 := hN.f1
      go_wp2_with fail
      first | (refine hK _ _ ⟨rfl, ?_⟩; clear hK K) | refine ⟨rfl, ?_⟩
      go_wp2_with fail
      go_meet
      case rel => exact ⟨_, _, _, rfl, rfl, (by first | exact (hN.set0 _).set1 _ | exact heap_alloc_new _ _), (by first | exact ((hf0.set_ (by first | omega | (simp; done) | (simp; omega)) _).set_ (by first | omega | (simp; done) | (simp; omega)) _).hv.hr | exact (hsK.below (by repeat (first | exact Below.refl _ _ | apply blw_drew | apply blw_alloc | (refine blw_set ?_ (by first | omega | (simp; done) | (simp; omega)) _) | refine below_chain ?_ (by assumption)))).hv.hr), (by repeat (first | exact Below.refl _ _ | apply blw_drew | apply blw_alloc | (refine blw_set ?_ (by first | omega | (simp; done) | (simp; omega)) _) | refine below_chain ?_ (by assumption)))⟩
  case' rest => skip
  obtain ⟨N5, D5, U5, rfl, rfl, hN5, hf0, hb5r⟩ := hcut
  have hx0 := hx0.below hb5r; have hx1 := hx1.below hb5r; have hx2 := hx2.below hb5r; have d00 := kept hb5r d00; have d01 := kept hb5r d01; have d20 := kept hb5r d20; have d21 := kept hb5r d21; have hs0 := hs0.below hb5r; have hsc00 := kept hb5r hsc00; have hsc01 := kept hb5r hsc01; have hm0 := hm0.below hb5r; have g00 := kept hb5r g00; have g01 := kept hb5r g01
  have hfc00 := hN5.c0; have hfc01 := hN5.c1; clear hN5
  obtain ⟨_, _, e_, q5d_, q5u_⟩ := id hf0; cases e_; obtain ⟨q5a, q5c, rfl, _⟩ := id q5d_; obtain ⟨q5b, q5e, rfl, _⟩ := id q5u_; clear q5d_ q5u_
  have hbW5 : Below w.heap.size w wc := (by repeat (first | exact Below.refl _ _ | apply blw_drew | apply blw_alloc | (refine blw_set ?_ (by first | omega | (simp; done) | (simp; omega)) _) | refine below_chain ?_ (by assumption)))
  obtain ⟨W5, hW5⟩ : ∃ W, W = wc := ⟨_, rfl⟩
  rw [← hW5] at hbW5 hb5r hx0 hx1 hx2 d00 d01 d20 d21 hs0 hsc00 hsc01 hm0 g00 g01 hf0 hfc00 hfc01 ⊢; clear hW5
  go_wp2_with fail
  refine (eqh_c hf0 hs0 yl0.toHsz).mono ?_; rintro e w26 ⟨rfl, hb26⟩
  have hx0 := hx0.below hb26; have hx1 := hx1.below hb26; have hx2 := hx2.below hb26; have d00 := kept hb26 d00; have d01 := kept hb26 d01; have d20 := kept hb26 d20; have d21 := kept hb26 d21; have hs0 := hs0.below hb26; have hsc00 := kept hb26 hsc00; have hsc01 := kept hb26 hsc01; have hm0 := hm0.below hb26; have g00 := kept hb26 g00; have g01 := kept hb26 g01; have hf0 := hf0.below hb26; have hfc00 := kept hb26 hfc00; have hfc01 := kept hb26 hfc01
  go_wp2_with fail
  refine (heldh_c hm0 yl0 (by omega) (by omega)).mono ?_; rintro e w27 ⟨rfl, hb27⟩
  have hx0 := hx0.below hb27; have hx1 := hx1.below hb27; have hx2 := hx2.below hb27; have d00 := kept hb27 d00; have d01 := kept hb27 d01; have d20 := kept hb27 d20; have d21 := kept hb27 d21; have hs0 := hs0.below hb27; have hsc00 := kept hb27 hsc00; have hsc01 := kept hb27 hsc01; have hm0 := hm0.below hb27; have g00 := kept hb27 g00; have g01 := kept hb27 g01; have hf0 := hf0.below hb27; have hfc00 := kept hb27 hfc00; have hfc01 := kept hb27 hfc01
  go_wp2_with fail
  go_ret
  exact ⟨rfl, (by repeat (first | exact Below.refl _ _ | apply blw_drew | apply blw_alloc | (refine blw_set ?_ (by first | omega | (simp; done) | (simp; omega)) _) | refine below_chain ?_ (by assumption)))⟩
end Go.Proofs.Ytmplpoccalccoaa
