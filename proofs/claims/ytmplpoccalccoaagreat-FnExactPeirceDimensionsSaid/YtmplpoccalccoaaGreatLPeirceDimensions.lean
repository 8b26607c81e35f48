/-
  PeirceDimensions: the law.
-/
import Derived.Test.YtmplpoccalccoaaGreatJbx
namespace Go.Proofs.YtmplpoccalccoaaGreat
open Go.RowKit

theorem RPeirceDimensions0_len (p0 : Int) (st0 : List Int) (X1 : Her) (_ : st0.length ≤ 1048576) (_ : Hsz X1) : (RPeirceDimensions0 p0 st0 X1).length ≤ 1048576 := by
  unfold RPeirceDimensions0
  split
  · exact (show (3 : Nat) ≤ 1048576 by decide)
  · simp
set_option maxHeartbeats 4000000 in
set_option maxRecDepth 100000 in
theorem law_PeirceDimensions {p0 : Int} {x0 : Value} {st0 : List Int} {x1 : Value} {X1 : Her} {w : World} (hx0 : Sl w x0 st0) (hb0_ : st0.length ≤ 9223372036854775807) (hx1 : Hr w x1 X1) (hb1_ : Hbig X1) :
    Calls Tryz.prog 3 #[.agg #[.int .i64 p0, x0], x1] w fun e w' => e = .returned (.bool true) ∧ Below w.heap.size w w' := by
  obtain ⟨a0, c0, rfl, _⟩ := id hx0
  obtain ⟨dv1, uv1, rfl, hd1, hu1⟩ := id hx1
  obtain ⟨a1, c1, rfl, _⟩ := id hd1; obtain ⟨b1, e1, rfl, _⟩ := id hu1; clear hd1 hu1
  obtain ⟨z0, hz0_⟩ : ∃ z, z = szI 1048576 st0.length := ⟨_, rfl⟩
  have hzb0 := szI_bd (left := 1048576) (n := st0.length) (by omega) (by omega)
  rw [← hz0_] at hzb0
  have HZ0 := Lib.hid hz0_; clear hz0_
  by_cases hs0 : z0 < 0
  case pos =>
    go_enter Tryz.func3, Tryz.ntmps3
    have hb0 : Below w.heap.size w ((w.alloc (.cells #[.int .i64 p0, .slice a0 st0.length c0] 24)).alloc (.cells #[.slice a1 X1.dg.length c1, .slice b1 X1.up.length e1] 27)) := (by repeat (first | exact Below.refl _ _ | apply blw_drew | apply blw_alloc | (refine blw_set ?_ (by first | omega | (simp; done) | (simp; omega)) _) | refine below_chain ?_ (by assumption)))
    have hx0 := hx0.below hb0; have hx1 := hx1.below hb0
    have d00 : ((w.alloc (.cells #[.int .i64 p0, .slice a0 st0.length c0] 24)).alloc (.cells #[.slice a1 X1.dg.length c1, .slice b1 X1.up.length e1] 27)).cell? ⟨w.heap.size, 0, none⟩ = some (.int .i64 p0) := by simp [go_sem]
    have d01 : ((w.alloc (.cells #[.int .i64 p0, .slice a0 st0.length c0] 24)).alloc (.cells #[.slice a1 X1.dg.length c1, .slice b1 X1.up.length e1] 27)).cell? ⟨w.heap.size, 1, none⟩ = some (.slice a0 st0.length c0) := by simp [go_sem]
    have d10 : ((w.alloc (.cells #[.int .i64 p0, .slice a0 st0.length c0] 24)).alloc (.cells #[.slice a1 X1.dg.length c1, .slice b1 X1.up.length e1] 27)).cell? ⟨w.heap.size + 1, 0, none⟩ = some (.slice a1 X1.dg.length c1) := by simp [go_sem]
    have d11 : ((w.alloc (.cells #[.int .i64 p0, .slice a0 st0.length c0] 24)).alloc (.cells #[.slice a1 X1.dg.length c1, .slice b1 X1.up.length e1] 27)).cell? ⟨w.heap.size + 1, 1, none⟩ = some (.slice b1 X1.up.length e1) := by simp [go_sem]
    go_wp2_with fail
    refine (szd_c (by omega) (by omega) hb0_).mono ?_; rintro e w1 ⟨rfl, hb1⟩
    have hx0 := hx0.below hb1; have hx1 := hx1.below hb1; have d00 := kept hb1 d00; have d01 := kept hb1 d01; have d10 := kept hb1 d10; have d11 := kept hb1 d11
    simp only [← HZ0.out]
    go_wp2_with fail
    go_ret
    exact ⟨rfl, (by repeat (first | exact Below.refl _ _ | apply blw_drew | apply blw_alloc | (refine blw_set ?_ (by first | omega | (simp; done) | (simp; omega)) _) | refine below_chain ?_ (by assumption)))⟩
  have hl0 : st0.length ≤ 1048576 := szI_pos (left := 1048576) (by omega) (by rw [← HZ0.out]; exact hs0)
  obtain ⟨z1, hz1_⟩ : ∃ z, z = szH z0 X1 := ⟨_, rfl⟩
  have hzb1 := szH_bd (left := z0) (X := X1) (by omega) (by omega)
  rw [← hz1_] at hzb1
  have HZ1 := Lib.hid hz1_; clear hz1_
  by_cases hs1 : z1 < 0
  case pos =>
    go_enter Tryz.func3, Tryz.ntmps3
    have hb0 : Below w.heap.size w ((w.alloc (.cells #[.int .i64 p0, .slice a0 st0.length c0] 24)).alloc (.cells #[.slice a1 X1.dg.length c1, .slice b1 X1.up.length e1] 27)) := (by repeat (first | exact Below.refl _ _ | apply blw_drew | apply blw_alloc | (refine blw_set ?_ (by first | omega | (simp; done) | (simp; omega)) _) | refine below_chain ?_ (by assumption)))
    have hx0 := hx0.below hb0; have hx1 := hx1.below hb0
    have d00 : ((w.alloc (.cells #[.int .i64 p0, .slice a0 st0.length c0] 24)).alloc (.cells #[.slice a1 X1.dg.length c1, .slice b1 X1.up.length e1] 27)).cell? ⟨w.heap.size, 0, none⟩ = some (.int .i64 p0) := by simp [go_sem]
    have d01 : ((w.alloc (.cells #[.int .i64 p0, .slice a0 st0.length c0] 24)).alloc (.cells #[.slice a1 X1.dg.length c1, .slice b1 X1.up.length e1] 27)).cell? ⟨w.heap.size, 1, none⟩ = some (.slice a0 st0.length c0) := by simp [go_sem]
    have d10 : ((w.alloc (.cells #[.int .i64 p0, .slice a0 st0.length c0] 24)).alloc (.cells #[.slice a1 X1.dg.length c1, .slice b1 X1.up.length e1] 27)).cell? ⟨w.heap.size + 1, 0, none⟩ = some (.slice a1 X1.dg.length c1) := by simp [go_sem]
    have d11 : ((w.alloc (.cells #[.int .i64 p0, .slice a0 st0.length c0] 24)).alloc (.cells #[.slice a1 X1.dg.length c1, .slice b1 X1.up.length e1] 27)).cell? ⟨w.heap.size + 1, 1, none⟩ = some (.slice b1 X1.up.length e1) := by simp [go_sem]
    go_wp2_with fail
    refine (szd_c (by omega) (by omega) hb0_).mono ?_; rintro e w1 ⟨rfl, hb1⟩
    have hx0 := hx0.below hb1; have hx1 := hx1.below hb1; have d00 := kept hb1 d00; have d01 := kept hb1 d01; have d10 := kept hb1 d10; have d11 := kept hb1 d11
    simp only [← HZ0.out]
    go_wp2_with fail
    refine (szh_c hx1 hb1_ (by omega) (by omega)).mono ?_; rintro e w2 ⟨rfl, hb2⟩
    have hx0 := hx0.below hb2; have hx1 := hx1.below hb2; have d00 := kept hb2 d00; have d01 := kept hb2 d01; have d10 := kept hb2 d10; have d11 := kept hb2 d11
    simp only [← HZ1.out]
    go_wp2_with fail
    go_ret
    exact ⟨rfl, (by repeat (first | exact Below.refl _ _ | apply blw_drew | apply blw_alloc | (refine blw_set ?_ (by first | omega | (simp; done) | (simp; omega)) _) | refine below_chain ?_ (by assumption)))⟩
  have hl1 : Hsz X1 := szH_pos (left := z0) (by omega) (by omega) (by rw [← HZ1.out]; exact hs1)
  have hS1 : Hs X1 := szH_hs (left := z0) (by omega) (by omega) (by rw [← HZ1.out]; exact hs1)
  have hI := fun (W : World) (x0 : Value) (hx0 : El W x0 st0) (x1 : Value) (hx1 : Hv W x1 X1) => iPeirceDimensions_c (w := W) (p0 := p0) hx0 hl0 hx1 hl1
  have hS := fun (W : World) (x0 : Value) (hx0 : El W x0 st0) (x1 : Value) (hx1 : Hv W x1 X1) => sPeirceDimensions_c (w := W) (p0 := p0) hx0 hl0 hx1 hl1
  have yl0 := RPeirceDimensions0_len p0 st0 X1 hl0 hl1
  obtain ⟨y0, hy0⟩ : ∃ y, y = RPeirceDimensions0 p0 st0 X1 := ⟨_, rfl⟩
  obtain ⟨y1, hy1⟩ : ∃ y, y = RPeirceDimensions1 p0 st0 X1 := ⟨_, rfl⟩
  simp only [← hy0, ← hy1] at hI hS yl0
  clear hy0 hy1
  go_enter Tryz.func3, Tryz.ntmps3
  have hb0 : Below w.heap.size w ((w.alloc (.cells #[.int .i64 p0, .slice a0 st0.length c0] 24)).alloc (.cells #[.slice a1 X1.dg.length c1, .slice b1 X1.up.length e1] 27)) := (by repeat (first | exact Below.refl _ _ | apply blw_drew | apply blw_alloc | (refine blw_set ?_ (by first | omega | (simp; done) | (simp; omega)) _) | refine below_chain ?_ (by assumption)))
  have hx0 := hx0.below hb0; have hx1 := hx1.below hb0
  have d00 : ((w.alloc (.cells #[.int .i64 p0, .slice a0 st0.length c0] 24)).alloc (.cells #[.slice a1 X1.dg.length c1, .slice b1 X1.up.length e1] 27)).cell? ⟨w.heap.size, 0, none⟩ = some (.int .i64 p0) := by simp [go_sem]
  have d01 : ((w.alloc (.cells #[.int .i64 p0, .slice a0 st0.length c0] 24)).alloc (.cells #[.slice a1 X1.dg.length c1, .slice b1 X1.up.length e1] 27)).cell? ⟨w.heap.size, 1, none⟩ = some (.slice a0 st0.length c0) := by simp [go_sem]
  have d10 : ((w.alloc (.cells #[.int .i64 p0, .slice a0 st0.length c0] 24)).alloc (.cells #[.slice a1 X1.dg.length c1, .slice b1 X1.up.length e1] 27)).cell? ⟨w.heap.size + 1, 0, none⟩ = some (.slice a1 X1.dg.length c1) := by simp [go_sem]
  have d11 : ((w.alloc (.cells #[.int .i64 p0, .slice a0 st0.length c0] 24)).alloc (.cells #[.slice a1 X1.dg.length c1, .slice b1 X1.up.length e1] 27)).cell? ⟨w.heap.size + 1, 1, none⟩ = some (.slice b1 X1.up.length e1) := by simp [go_sem]
  go_wp2_with fail
  refine (szd_c (by omega) (by omega) hb0_).mono ?_; rintro e w1 ⟨rfl, hb1⟩
  have hx0 := hx0.below hb1; have hx1 := hx1.below hb1; have d00 := kept hb1 d00; have d01 := kept hb1 d01; have d10 := kept hb1 d10; have d11 := kept hb1 d11
  simp only [← HZ0.out]
  go_wp2_with fail
  refine (szh_c hx1 hb1_ (by omega) (by omega)).mono ?_; rintro e w2 ⟨rfl, hb2⟩
  have hx0 := hx0.below hb2; have hx1 := hx1.below hb2; have d00 := kept hb2 d00; have d01 := kept hb2 d01; have d10 := kept hb2 d10; have d11 := kept hb2 d11
  simp only [← HZ1.out]
  go_wp2_with fail
  refine region_flow [(false, [(0, 1), (2, 1), (1, 5)]), (false, [(3, 4), (4, 4), (5, 0), (6, 0), (7, 0), (8, 0), (9, 0)])] (by kernel_rfl) ?_
  have hb3 : Below w2.heap.size w2 w2.drew := (by repeat (first | exact Below.refl _ _ | apply blw_drew | apply blw_alloc | (refine blw_set ?_ (by first | omega | (simp; done) | (simp; omega)) _) | refine below_chain ?_ (by assumption)))
  have hx0 := hx0.below hb3; have hx1 := hx1.below hb3; have d00 := kept hb3 d00; have d01 := kept hb3 d01; have d10 := kept hb3 d10; have d11 := kept hb3 d11
  generalize w2.drew = wq3 at *
  refine norm_K fun K hK => ?_
  change wpList _ _ _ [_, _, _] _ _
  go_wp2_with fail
  refine (tod_c hx0 hl0).mono ?_; rintro e w4 ⟨t0, rfl, ht0, hb4⟩
  have hx0 := hx0.below hb4; have hx1 := hx1.below hb4; have d00 := kept hb4 d00; have d01 := kept hb4 d01; have d10 := kept hb4 d10; have d11 := kept hb4 d11
  go_wp2_with fail
  first | (refine hK _ _ ⟨(by repeat (first | exact Below.refl _ _ | apply blw_drew | apply blw_alloc | (refine blw_set ?_ (by first | omega | (simp; done) | (simp; omega)) _) | refine below_chain ?_ (by assumption))), ?_⟩; clear hK K) | refine ⟨(by repeat (first | exact Below.refl _ _ | apply blw_drew | apply blw_alloc | (refine blw_set ?_ (by first | omega | (simp; done) | (simp; omega)) _) | refine below_chain ?_ (by assumption))), ?_⟩
  refine norm_K fun K hK => ?_
  change wpList _ _ _ [_, _, _, _, _, _, _] _ _
  go_wp2_with fail
  refine (toh_c hx1 hl1).mono ?_; rintro e w5 ⟨t1, rfl, ht1, hb5⟩
  have hx0 := hx0.below hb5; have hx1 := hx1.below hb5; have d00 := kept hb5 d00; have d01 := kept hb5 d01; have d10 := kept hb5 d10; have d11 := kept hb5 d11; have ht0 := ht0.below hb5
  go_wp2_with fail
  refine (hS _ _ ht0.el _ ht1.hv).mono ?_; rintro e w6 ⟨v0_, rfl, hs0, hb6⟩
  have hx0 := hx0.below hb6; have hx1 := hx1.below hb6; have d00 := kept hb6 d00; have d01 := kept hb6 d01; have d10 := kept hb6 d10; have d11 := kept hb6 d11; have ht0 := ht0.below hb6; have ht1 := ht1.below hb6
  obtain ⟨sa0, sc0, rfl, _⟩ := id hs0.sl
  go_wp2_with fail
  first | (refine hK _ _ ⟨rfl, ?_⟩; clear hK K) | refine ⟨rfl, ?_⟩
  have hbW3 : Below w.heap.size w w6 := (by repeat (first | exact Below.refl _ _ | apply blw_drew | apply blw_alloc | (refine blw_set ?_ (by first | omega | (simp; done) | (simp; omega)) _) | refine below_chain ?_ (by assumption)))
  obtain ⟨W3, hW3⟩ : ∃ W, W = w6 := ⟨_, rfl⟩
  rw [← hW3] at hbW3 hx0 hx1 d00 d01 d10 d11 hs0 ⊢; clear hW3
  have hx0_ := hx0
  have hx1_ := hx1
  have d00_ := d00
  have d01_ := d01
  have d10_ := d10
  have d11_ := d11
  have hs0_ := hs0
  go_wp2_with fail
  refine (tod_c hx0 hl0).mono ?_; rintro e w7 ⟨t0, rfl, ⟨g0, k0, rfl, ht0⟩, hb7⟩
  have hx0 := hx0.below hb7; have hx1 := hx1.below hb7; have d00 := kept hb7 d00; have d01 := kept hb7 d01; have d10 := kept hb7 d10; have d11 := kept hb7 d11; have hs0 := hs0.below hb7
  have bt0 := ht0.lt; have zt0 := hb7.size; (try simp at bt0); (try simp at zt0)
  have hb8 : Below w7.heap.size w7 (w7.alloc (.cells #[.int .i64 p0, .slice (some ⟨g0, 0, none⟩) st0.length k0] 32)) := (by repeat (first | exact Below.refl _ _ | apply blw_drew | apply blw_alloc | (refine blw_set ?_ (by first | omega | (simp; done) | (simp; omega)) _) | refine below_chain ?_ (by assumption)))
  have hx0 := hx0.below hb8; have hx1 := hx1.below hb8; have d00 := kept hb8 d00; have d01 := kept hb8 d01; have d10 := kept hb8 d10; have d11 := kept hb8 d11; have hs0 := hs0.below hb8; have ht0 := ht0.below hb8
  have e00 : (w7.alloc (.cells #[.int .i64 p0, .slice (some ⟨g0, 0, none⟩) st0.length k0] 32)).cell? ⟨w7.heap.size, 0, none⟩ = some (.int .i64 p0) := by simp [go_sem]
  have e01 : (w7.alloc (.cells #[.int .i64 p0, .slice (some ⟨g0, 0, none⟩) st0.length k0] 32)).cell? ⟨w7.heap.size, 1, none⟩ = some (.slice (some ⟨g0, 0, none⟩) st0.length k0) := by simp [go_sem]
  go_wp2_with fail
  refine (toh_c hx1 hl1).mono ?_; rintro e w9 ⟨t1, rfl, ht1, hb9⟩
  have hx0 := hx0.below hb9; have hx1 := hx1.below hb9; have d00 := kept hb9 d00; have d01 := kept hb9 d01; have d10 := kept hb9 d10; have d11 := kept hb9 d11; have hs0 := hs0.below hb9; have ht0 := ht0.below hb9; have e00 := kept hb9 e00; have e01 := kept hb9 e01
  have hk1 := ht1.rg; have zt1 := hb9.size; (try simp at zt1)
  obtain ⟨td1, tu1, rfl, htd1, htu1⟩ := ht1.hv; obtain ⟨ta1, tc1, rfl, _⟩ := htd1.op; obtain ⟨tb1, te1, rfl, _⟩ := id htu1; clear htd1 htu1
  have hb10 : Below w9.heap.size w9 (w9.alloc (.cells #[.slice ta1 X1.dg.length tc1, .slice tb1 X1.up.length te1] 34)) := (by repeat (first | exact Below.refl _ _ | apply blw_drew | apply blw_alloc | (refine blw_set ?_ (by first | omega | (simp; done) | (simp; omega)) _) | refine below_chain ?_ (by assumption)))
  have hx0 := hx0.below hb10; have hx1 := hx1.below hb10; have d00 := kept hb10 d00; have d01 := kept hb10 d01; have d10 := kept hb10 d10; have d11 := kept hb10 d11; have hs0 := hs0.below hb10; have ht0 := ht0.below hb10; have e00 := kept hb10 e00; have e01 := kept hb10 e01; have ht1 := ht1.below hb10; have hk1 := hk1.below hb10
  have e10 : (w9.alloc (.cells #[.slice ta1 X1.dg.length tc1, .slice tb1 X1.up.length te1] 34)).cell? ⟨w9.heap.size, 0, none⟩ = some (.slice ta1 X1.dg.length tc1) := by simp [go_sem]
  have e11 : (w9.alloc (.cells #[.slice ta1 X1.dg.length tc1, .slice tb1 X1.up.length te1] 34)).cell? ⟨w9.heap.size, 1, none⟩ = some (.slice tb1 X1.up.length te1) := by simp [go_sem]
  go_wp2_with fail
  refine (hI _ _ ht0.el _ ht1.hv).mono ?_; rintro e w11 ⟨v0_, rfl, hg0, hb11⟩
  have hx0 := hx0.below hb11; have hx1 := hx1.below hb11; have d00 := kept hb11 d00; have d01 := kept hb11 d01; have d10 := kept hb11 d10; have d11 := kept hb11 d11; have hs0 := hs0.below hb11; have ht0 := ht0.below hb11; have e00 := kept hb11 e00; have e01 := kept hb11 e01; have ht1 := ht1.below hb11; have hk1 := hk1.below hb11; have e10 := kept hb11 e10; have e11 := kept hb11 e11
  have z6 := hb11.size; (try simp at z6)
  have hq0 := hg0; clear hg0; have bq0 := hq0.blk; (try simp at bq0)
  obtain ⟨ga0, gc0, rfl, _⟩ := id hq0.sl
  go_wp2_with fail
  refine (eqs_c hq0.sl hs0.sl yl0).mono ?_; rintro e w12 ⟨rfl, hb12⟩
  have hx0 := hx0.below hb12; have hx1 := hx1.below hb12; have d00 := kept hb12 d00; have d01 := kept hb12 d01; have d10 := kept hb12 d10; have d11 := kept hb12 d11; have hs0 := hs0.below hb12; have ht0 := ht0.below hb12; have e00 := kept hb12 e00; have e01 := kept hb12 e01; have ht1 := ht1.below hb12; have hk1 := hk1.below hb12; have e10 := kept hb12 e10; have e11 := kept hb12 e11; have hq0 := hq0.below hb12
  go_wp2_with fail
  refine region_flow [(false, [(0, 1), (1, 1), (2, 5)]), (false, [(3, 4), (4, 0)])] (by kernel_rfl) ?_
  have hb13 : Below w12.heap.size w12 w12.drew := (by repeat (first | exact Below.refl _ _ | apply blw_drew | apply blw_alloc | (refine blw_set ?_ (by first | omega | (simp; done) | (simp; omega)) _) | refine below_chain ?_ (by assumption)))
  have hx0 := hx0.below hb13; have hx1 := hx1.below hb13; have d00 := kept hb13 d00; have d01 := kept hb13 d01; have d10 := kept hb13 d10; have d11 := kept hb13 d11; have hs0 := hs0.below hb13; have ht0 := ht0.below hb13; have e00 := kept hb13 e00; have e01 := kept hb13 e01; have ht1 := ht1.below hb13; have hk1 := hk1.below hb13; have e10 := kept hb13 e10; have e11 := kept hb13 e11; have hq0 := hq0.below hb13
  generalize w12.drew = wr0 at *
  refine norm_K fun K hK => ?_
  change wpList _ _ _ [_, _, _] _ _
  go_wp2_with fail
  refine (tod_c hx0 hl0).mono ?_; rintro e w14 ⟨u0, rfl, hu0, hb14⟩
  have hx0 := hx0.below hb14; have hx1 := hx1.below hb14; have d00 := kept hb14 d00; have d01 := kept hb14 d01; have d10 := kept hb14 d10; have d11 := kept hb14 d11; have hs0 := hs0.below hb14; have ht0 := ht0.below hb14; have e00 := kept hb14 e00; have e01 := kept hb14 e01; have ht1 := ht1.below hb14; have hk1 := hk1.below hb14; have e10 := kept hb14 e10; have e11 := kept hb14 e11; have hq0 := hq0.below hb14
  go_wp2_with fail
  first | (refine hK _ _ ⟨hb14, ?_⟩; clear hK K) | refine ⟨hb14, ?_⟩
  refine norm_K fun K hK => ?_
  change wpList _ _ _ [_, _] _ _
  go_wp2_with fail
  refine (eqd_c ht0.sl hu0.sl hl0).mono ?_; rintro e w15 ⟨rfl, hb15⟩
  have hx0 := hx0.below hb15; have hx1 := hx1.below hb15; have d00 := kept hb15 d00; have d01 := kept hb15 d01; have d10 := kept hb15 d10; have d11 := kept hb15 d11; have hs0 := hs0.below hb15; have ht0 := ht0.below hb15; have e00 := kept hb15 e00; have e01 := kept hb15 e01; have ht1 := ht1.below hb15; have hk1 := hk1.below hb15; have e10 := kept hb15 e10; have e11 := kept hb15 e11; have hq0 := hq0.below hb15
  go_wp2_with fail
  first | (refine hK _ _ ⟨rfl, ?_⟩; clear hK K) | refine ⟨rfl, ?_⟩
  go_wp2_with fail
  refine region_flow [(false, [(0, 1), (1, 1), (2, 5)]), (false, [(3, 4), (4, 0)])] (by kernel_rfl) ?_
  have hb16 : Below w15.heap.size w15 w15.drew := (by repeat (first | exact Below.refl _ _ | apply blw_drew | apply blw_alloc | (refine blw_set ?_ (by first | omega | (simp; done) | (simp; omega)) _) | refine below_chain ?_ (by assumption)))
  have hx0 := hx0.below hb16; have hx1 := hx1.below hb16; have d00 := kept hb16 d00; have d01 := kept hb16 d01; have d10 := kept hb16 d10; have d11 := kept hb16 d11; have hs0 := hs0.below hb16; have ht0 := ht0.below hb16; have e00 := kept hb16 e00; have e01 := kept hb16 e01; have ht1 := ht1.below hb16; have hk1 := hk1.below hb16; have e10 := kept hb16 e10; have e11 := kept hb16 e11; have hq0 := hq0.below hb16
  generalize w15.drew = wr1 at *
  refine norm_K fun K hK => ?_
  change wpList _ _ _ [_, _, _] _ _
  go_wp2_with fail
  refine (toh_c hx1 hl1).mono ?_; rintro e w17 ⟨u1, rfl, hu1, hb17⟩
  have hx0 := hx0.below hb17; have hx1 := hx1.below hb17; have d00 := kept hb17 d00; have d01 := kept hb17 d01; have d10 := kept hb17 d10; have d11 := kept hb17 d11; have hs0 := hs0.below hb17; have ht0 := ht0.below hb17; have e00 := kept hb17 e00; have e01 := kept hb17 e01; have ht1 := ht1.below hb17; have hk1 := hk1.below hb17; have e10 := kept hb17 e10; have e11 := kept hb17 e11; have hq0 := hq0.below hb17
  go_wp2_with fail
  first | (refine hK _ _ ⟨hb17, ?_⟩; clear hK K) | refine ⟨hb17, ?_⟩
  refine norm_K fun K hK => ?_
  change wpList _ _ _ [_, _] _ _
  go_wp2_with fail
  refine (eqh_c ht1.hv.hr hu1.hv.hr hl1).mono ?_; rintro e w18 ⟨rfl, hb18⟩
  have hx0 := hx0.below hb18; have hx1 := hx1.below hb18; have d00 := kept hb18 d00; have d01 := kept hb18 d01; have d10 := kept hb18 d10; have d11 := kept hb18 d11; have hs0 := hs0.below hb18; have ht0 := ht0.below hb18; have e00 := kept hb18 e00; have e01 := kept hb18 e01; have ht1 := ht1.below hb18; have hk1 := hk1.below hb18; have e10 := kept hb18 e10; have e11 := kept hb18 e11; have hq0 := hq0.below hb18
  go_wp2_with fail
  first | (refine hK _ _ ⟨rfl, ?_⟩; clear hK K) | refine ⟨rfl, ?_⟩
  go_wp2_with fail
  refine (markd_c (ht0.fr.ow (Nat.le_refl _)) hl0 (by omega) (by omega)).mono ?_; rintro e w19 ⟨rfl, _, hch_⟩
  have hch0 := hch_ g0 (g0 + 1) (fun j hj => by have e : g0 = j := Option.some.inj hj; omega); clear hch_
  have hb19 := hch0.blw (show Below W3.heap.size W3 w18 from (by repeat (first | exact Below.refl _ _ | apply blw_drew | apply blw_alloc | (refine blw_set ?_ (by first | omega | (simp; done) | (simp; omega)) _) | refine below_chain ?_ (by assumption)))) (by first | omega | (simp; done) | (simp; omega))
  have hx0 := hx0_.below hb19
  have hx1 := hx1_.below hb19
  have d00 := kept hb19 d00_
  have d01 := kept hb19 d01_
  have d10 := kept hb19 d10_
  have d11 := kept hb19 d11_
  have hs0 := hs0_.below hb19
  have hk1 := hk1.chg hch0 (by first | omega | (simp; done) | (simp; omega))
  have e10 := hch0.cell e10 (.inr (by first | omega | (simp; done) | (simp; omega)))
  have e11 := hch0.cell e11 (.inr (by first | omega | (simp; done) | (simp; omega)))
  have hq0 := OwI.chg hch0 hq0 (fun g hg => .inr (by have := bq0 g hg; first | omega | (simp; omega)))
  have zw19 : W3.heap.size ≤ w19.heap.size := hb19.size
  go_wp2_with fail
  have hS11 := hl1.h1; have hS12 := hS1.sum
  refine (markh_c hk1 hS1 (by omega) (by omega)).mono ?_; rintro e w20 ⟨rfl, _, hch1⟩
  have hb20 := hch1.blw (show Below W3.heap.size W3 w19 from (by repeat (first | exact Below.refl _ _ | apply blw_drew | apply blw_alloc | (refine blw_set ?_ (by first | omega | (simp; done) | (simp; omega)) _) | refine below_chain ?_ (by assumption)))) (by first | omega | (simp; done) | (simp; omega))
  have hx0 := hx0_.below hb20
  have hx1 := hx1_.below hb20
  have d00 := kept hb20 d00_
  have d01 := kept hb20 d01_
  have d10 := kept hb20 d10_
  have d11 := kept hb20 d11_
  have hs0 := hs0_.below hb20
  have hq0 := OwI.chg hch1 hq0 (fun g hg => .inr (by have := bq0 g hg; first | omega | (simp; omega)))
  have zw20 : W3.heap.size ≤ w20.heap.size := hb20.size
  have hmk : True := trivial
  go_wp2_with fail
  refine (eqs_c hq0.sl hs0.sl yl0).mono ?_; rintro e w21 ⟨rfl, hb21⟩
  have hx0 := hx0.below hb21; have hx1 := hx1.below hb21; have d00 := kept hb21 d00; have d01 := kept hb21 d01; have d10 := kept hb21 d10; have d11 := kept hb21 d11; have hs0 := hs0.below hb21; have hq0 := hq0.below hb21
  go_wp2_with fail
  refine (mark_c hq0 yl0 (by omega) (by omega)).mono ?_; rintro e w22 ⟨rfl, hm0, hgr0⟩
  have hcg0 : Chg W3.heap.size w21.heap.size w21 w22 := Chg.grown hgr0 (fun k hk => by have := bq0 k hk; have := hq0.blk k hk; first | omega | (simp at *; omega))
  have hb22 := hcg0.blw (show Below W3.heap.size W3 w21 from (by repeat (first | exact Below.refl _ _ | apply blw_drew | apply blw_alloc | (refine blw_set ?_ (by first | omega | (simp; done) | (simp; omega)) _) | refine below_chain ?_ (by assumption)))) (Nat.le_refl _)
  have hx0 := hx0_.below hb22
  have hx1 := hx1_.below hb22
  have d00 := kept hb22 d00_
  have d01 := kept hb22 d01_
  have d10 := kept hb22 d10_
  have d11 := kept hb22 d11_
  have hs0 := hs0_.below hb22
  go_wp2_with fail
  refine (held_c (n := y0.length) hm0.sl yl0 (by omega) (by omega)).mono ?_; rintro e w23 ⟨rfl, rfl⟩
  go_wp2_with fail
  refine region_flow [(false, [(0, 1), (2, 1), (1, 5)]), (false, [(3, 4), (4, 4), (5, 0), (6, 0), (7, 0), (8, 0), (9, 0)])] (by kernel_rfl) ?_
  have hb24 : Below w22.heap.size w22 w22.drew := (by repeat (first | exact Below.refl _ _ | apply blw_drew | apply blw_alloc | (refine blw_set ?_ (by first | omega | (simp; done) | (simp; omega)) _) | refine below_chain ?_ (by assumption)))
  have hx0 := hx0.below hb24; have hx1 := hx1.below hb24; have d00 := kept hb24 d00; have d01 := kept hb24 d01; have d10 := kept hb24 d10; have d11 := kept hb24 d11; have hs0 := hs0.below hb24; have hm0 := hm0.below hb24
  generalize w22.drew = wq5 at *
  refine norm_K fun K hK => ?_
  change wpList _ _ _ [_, _, _] _ _
  go_wp2_with fail
  refine (tod_c hx0 hl0).mono ?_; rintro e w25 ⟨t0, rfl, ht0, hb25⟩
  have hx0 := hx0.below hb25; have hx1 := hx1.below hb25; have d00 := kept hb25 d00; have d01 := kept hb25 d01; have d10 := kept hb25 d10; have d11 := kept hb25 d11; have hs0 := hs0.below hb25; have hm0 := hm0.below hb25
  go_wp2_with fail
  first | (refine hK _ _ ⟨(by repeat (first | exact Below.refl _ _ | apply blw_drew | apply blw_alloc | (refine blw_set ?_ (by first | omega | (simp; done) | (simp; omega)) _) | refine below_chain ?_ (by assumption))), ?_⟩; clear hK K) | refine ⟨(by repeat (first | exact Below.refl _ _ | apply blw_drew | apply blw_alloc | (refine blw_set ?_ (by first | omega | (simp; done) | (simp; omega)) _) | refine below_chain ?_ (by assumption))), ?_⟩
  refine norm_K fun K hK => ?_
  change wpList _ _ _ [_, _, _, _, _, _, _] _ _
  go_wp2_with fail
  refine (toh_c hx1 hl1).mono ?_; rintro e w26 ⟨t1, rfl, ht1, hb26⟩
  have hx0 := hx0.below hb26; have hx1 := hx1.below hb26; have d00 := kept hb26 d00; have d01 := kept hb26 d01; have d10 := kept hb26 d10; have d11 := kept hb26 d11; have hs0 := hs0.below hb26; have hm0 := hm0.below hb26; have ht0 := ht0.below hb26
  go_wp2_with fail
  refine (hI _ _ ht0.el _ ht1.hv).mono ?_; rintro e w27 ⟨v0_, rfl, hf0, hb27⟩
  have hx0 := hx0.below hb27; have hx1 := hx1.below hb27; have d00 := kept hb27 d00; have d01 := kept hb27 d01; have d10 := kept hb27 d10; have d11 := kept hb27 d11; have hs0 := hs0.below hb27; have hm0 := hm0.below hb27; have ht0 := ht0.below hb27; have ht1 := ht1.below hb27
  obtain ⟨sa0, sc0, rfl, _⟩ := id hf0.sl
  go_wp2_with fail
  first | (refine hK _ _ ⟨rfl, ?_⟩; clear hK K) | refine ⟨rfl, ?_⟩
  go_wp2_with fail
  refine (eqs_c hf0.sl hs0.sl yl0).mono ?_; rintro e w28 ⟨rfl, hb28⟩
  have hx0 := hx0.below hb28; have hx1 := hx1.below hb28; have d00 := kept hb28 d00; have d01 := kept hb28 d01; have d10 := kept hb28 d10; have d11 := kept hb28 d11; have hs0 := hs0.below hb28; have hm0 := hm0.below hb28; have hf0 := hf0.below hb28
  go_wp2_with fail
  refine (held_c (n := y0.length) hm0.sl yl0 (by omega) (by omega)).mono ?_; rintro e w29 ⟨rfl, rfl⟩
  go_wp2_with fail
  go_ret
  exact ⟨rfl, (by repeat (first | exact Below.refl _ _ | apply blw_drew | apply blw_alloc | (refine blw_set ?_ (by first | omega | (simp; done) | (simp; omega)) _) | refine below_chain ?_ (by assumption)))⟩
end Go.Proofs.YtmplpoccalccoaaGreat
