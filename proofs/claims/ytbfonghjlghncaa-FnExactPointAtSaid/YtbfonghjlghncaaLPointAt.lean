/-
  PointAt: the law.
-/
import Derived.Test.YtbfonghjlghncaaCPointAt
import Derived.Test.YtbfonghjlghncaaLawT
namespace Go.Proofs.Ytbfonghjlghncaa
open Go.RowKit

theorem RPointAt0_len (p0 : Int) (st0 : List Int) (xs1 : List Int) (xs2 : List Int) (_ : st0.length ≤ 1048576) (_ : xs1.length ≤ 1048576) (_ : xs2.length ≤ 1048576) : Hs (RPointAt0 p0 st0 xs1 xs2) := by
  unfold RPointAt0
  split
  · rename_i h
    obtain ⟨hd, hall⟩ := chk3_pos h
    exact isH_hs hd (pointH_is (by have := hd.hp.lo; omega) (hall _ (by simp)) (hall _ (by simp)))
  · exact Hs.none
set_option maxHeartbeats 4000000 in
set_option maxRecDepth 100000 in
theorem law_PointAt {p0 : Int} {x0 : Value} {st0 : List Int} {x1 : Value} {xs1 : List Int} {x2 : Value} {xs2 : List Int} {w : World} (hx0 : Sl w x0 st0) (hb0_ : st0.length ≤ 9223372036854775807) (hx1 : Sl w x1 xs1) (hb1_ : xs1.length ≤ 9223372036854775807) (hx2 : Sl w x2 xs2) (hb2_ : xs2.length ≤ 9223372036854775807) :
    Calls Try.prog 8 #[.agg #[.int .i64 p0, x0], x1, x2] w fun e w' => e = .returned (.bool true) ∧ Below w.heap.size w w' := by
  obtain ⟨a0, c0, rfl, _⟩ := id hx0
  obtain ⟨a1, c1, rfl, _⟩ := id hx1
  obtain ⟨a2, c2, rfl, _⟩ := id hx2
  by_cases hl1 : xs1.length ≤ 1048576
  case neg =>
    go_enter Try.func8, Try.ntmps8
    have hb0 : Below w.heap.size w (w.alloc (.cells #[.int .i64 p0, .slice a0 st0.length c0] 24)) := (by repeat (first | exact Below.refl _ _ | apply blw_drew | apply blw_alloc | (refine blw_set ?_ (by first | omega | (simp; done) | (simp; omega)) _) | refine below_chain ?_ (by assumption)))
    have hx0 := hx0.below hb0; have hx1 := hx1.below hb0; have hx2 := hx2.below hb0
    have d00 : (w.alloc (.cells #[.int .i64 p0, .slice a0 st0.length c0] 24)).cell? ⟨w.heap.size, 0, none⟩ = some (.int .i64 p0) := by simp [go_sem]
    have d01 : (w.alloc (.cells #[.int .i64 p0, .slice a0 st0.length c0] 24)).cell? ⟨w.heap.size, 1, none⟩ = some (.slice a0 st0.length c0) := by simp [go_sem]
    go_wp2_with fail
    go_ret
    exact ⟨rfl, (by repeat (first | exact Below.refl _ _ | apply blw_drew | apply blw_alloc | (refine blw_set ?_ (by first | omega | (simp; done) | (simp; omega)) _) | refine below_chain ?_ (by assumption)))⟩
  by_cases hl2 : xs2.length ≤ 1048576
  case neg =>
    go_enter Try.func8, Try.ntmps8
    have hb0 : Below w.heap.size w (w.alloc (.cells #[.int .i64 p0, .slice a0 st0.length c0] 24)) := (by repeat (first | exact Below.refl _ _ | apply blw_drew | apply blw_alloc | (refine blw_set ?_ (by first | omega | (simp; done) | (simp; omega)) _) | refine below_chain ?_ (by assumption)))
    have hx0 := hx0.below hb0; have hx1 := hx1.below hb0; have hx2 := hx2.below hb0
    have d00 : (w.alloc (.cells #[.int .i64 p0, .slice a0 st0.length c0] 24)).cell? ⟨w.heap.size, 0, none⟩ = some (.int .i64 p0) := by simp [go_sem]
    have d01 : (w.alloc (.cells #[.int .i64 p0, .slice a0 st0.length c0] 24)).cell? ⟨w.heap.size, 1, none⟩ = some (.slice a0 st0.length c0) := by simp [go_sem]
    go_wp2_with fail
    go_ret
    exact ⟨rfl, (by repeat (first | exact Below.refl _ _ | apply blw_drew | apply blw_alloc | (refine blw_set ?_ (by first | omega | (simp; done) | (simp; omega)) _) | refine below_chain ?_ (by assumption)))⟩
  obtain ⟨z0, hz0_⟩ : ∃ z, z = szI 1048576 st0.length := ⟨_, rfl⟩
  have hzb0 := szI_bd (left := 1048576) (n := st0.length) (by omega) (by omega)
  rw [← hz0_] at hzb0
  have HZ0 := Lib.hid hz0_; clear hz0_
  by_cases hs0 : z0 < 0
  case pos =>
    go_enter Try.func8, Try.ntmps8
    have hb0 : Below w.heap.size w (w.alloc (.cells #[.int .i64 p0, .slice a0 st0.length c0] 24)) := (by repeat (first | exact Below.refl _ _ | apply blw_drew | apply blw_alloc | (refine blw_set ?_ (by first | omega | (simp; done) | (simp; omega)) _) | refine below_chain ?_ (by assumption)))
    have hx0 := hx0.below hb0; have hx1 := hx1.below hb0; have hx2 := hx2.below hb0
    have d00 : (w.alloc (.cells #[.int .i64 p0, .slice a0 st0.length c0] 24)).cell? ⟨w.heap.size, 0, none⟩ = some (.int .i64 p0) := by simp [go_sem]
    have d01 : (w.alloc (.cells #[.int .i64 p0, .slice a0 st0.length c0] 24)).cell? ⟨w.heap.size, 1, none⟩ = some (.slice a0 st0.length c0) := by simp [go_sem]
    go_wp2_with fail
    refine (szd_c (by omega) (by omega) hb0_).mono ?_; rintro e w1 ⟨rfl, hb1⟩
    have hx0 := hx0.below hb1; have hx1 := hx1.below hb1; have hx2 := hx2.below hb1; have d00 := kept hb1 d00; have d01 := kept hb1 d01
    simp only [← HZ0.out]
    go_wp2_with fail
    go_ret
    exact ⟨rfl, (by repeat (first | exact Below.refl _ _ | apply blw_drew | apply blw_alloc | (refine blw_set ?_ (by first | omega | (simp; done) | (simp; omega)) _) | refine below_chain ?_ (by assumption)))⟩
  have hl0 : st0.length ≤ 1048576 := szI_pos (left := 1048576) (by omega) (by rw [← HZ0.out]; exact hs0)
  have hI := fun (W : World) (x0 : Value) (hx0 : El W x0 st0) (x1 : Value) (hx1 : El W x1 xs1) (x2 : Value) (hx2 : El W x2 xs2) => iPointAt_c (w := W) (p0 := p0) hx0 hl0 hx1 hl1 hx2 hl2
  have hS := fun (W : World) (x0 : Value) (hx0 : El W x0 st0) (x1 : Value) (hx1 : El W x1 xs1) (x2 : Value) (hx2 : El W x2 xs2) => sPointAt_c (w := W) (p0 := p0) hx0 hl0 hx1 hl1 hx2 hl2
  have yl0 := RPointAt0_len p0 st0 xs1 xs2 hl0 hl1 hl2
  obtain ⟨y0, hy0⟩ : ∃ y, y = RPointAt0 p0 st0 xs1 xs2 := ⟨_, rfl⟩
  obtain ⟨y1, hy1⟩ : ∃ y, y = RPointAt1 p0 st0 xs1 xs2 := ⟨_, rfl⟩
  simp only [← hy0, ← hy1] at hI hS yl0
  clear hy0 hy1
  go_enter Try.func8, Try.ntmps8
  have hb0 : Below w.heap.size w (w.alloc (.cells #[.int .i64 p0, .slice a0 st0.length c0] 24)) := (by repeat (first | exact Below.refl _ _ | apply blw_drew | apply blw_alloc | (refine blw_set ?_ (by first | omega | (simp; done) | (simp; omega)) _) | refine below_chain ?_ (by assumption)))
  have hx0 := hx0.below hb0; have hx1 := hx1.below hb0; have hx2 := hx2.below hb0
  have d00 : (w.alloc (.cells #[.int .i64 p0, .slice a0 st0.length c0] 24)).cell? ⟨w.heap.size, 0, none⟩ = some (.int .i64 p0) := by simp [go_sem]
  have d01 : (w.alloc (.cells #[.int .i64 p0, .slice a0 st0.length c0] 24)).cell? ⟨w.heap.size, 1, none⟩ = some (.slice a0 st0.length c0) := by simp [go_sem]
  go_wp2_with fail
  refine (szd_c (by omega) (by omega) hb0_).mono ?_; rintro e w1 ⟨rfl, hb1⟩
  have hx0 := hx0.below hb1; have hx1 := hx1.below hb1; have hx2 := hx2.below hb1; have d00 := kept hb1 d00; have d01 := kept hb1 d01
  simp only [← HZ0.out]
  go_wp2_with fail
  refine (tod_c hx0 hl0).mono ?_; rintro e w2 ⟨t0, rfl, ht0, hb2⟩
  have hx0 := hx0.below hb2; have hx1 := hx1.below hb2; have hx2 := hx2.below hb2; have d00 := kept hb2 d00; have d01 := kept hb2 d01
  go_wp2_with fail
  refine (to_c hx1 hl1).mono ?_; rintro e w3 ⟨t1, rfl, ht1, hb3⟩
  have hx0 := hx0.below hb3; have hx1 := hx1.below hb3; have hx2 := hx2.below hb3; have d00 := kept hb3 d00; have d01 := kept hb3 d01; have ht0 := ht0.below hb3
  go_wp2_with fail
  refine (to_c hx2 hl2).mono ?_; rintro e w4 ⟨t2, rfl, ht2, hb4⟩
  have hx0 := hx0.below hb4; have hx1 := hx1.below hb4; have hx2 := hx2.below hb4; have d00 := kept hb4 d00; have d01 := kept hb4 d01; have ht0 := ht0.below hb4; have ht1 := ht1.below hb4
  go_wp2_with fail
  refine (hS _ _ ht0.el _ ht1.el _ ht2.el).mono ?_; rintro e w5 ⟨v0_, rfl, hs0, hb5⟩
  have hx0 := hx0.below hb5; have hx1 := hx1.below hb5; have hx2 := hx2.below hb5; have d00 := kept hb5 d00; have d01 := kept hb5 d01; have ht0 := ht0.below hb5; have ht1 := ht1.below hb5; have ht2 := ht2.below hb5
  have hs0 := hs0.hv.hr
  obtain ⟨q3d, q3u, rfl, q3d_, q3u_⟩ := id hs0; obtain ⟨q3a, q3c, rfl, _⟩ := id q3d_; obtain ⟨q3b, q3e, rfl, _⟩ := id q3u_; clear q3d_ q3u_
  have hb6 : Below w5.heap.size w5 (w5.alloc (.cells #[.slice q3a y0.dg.length q3c, .slice q3b y0.up.length q3e] 38)) := (by repeat (first | exact Below.refl _ _ | apply blw_drew | apply blw_alloc | (refine blw_set ?_ (by first | omega | (simp; done) | (simp; omega)) _) | refine below_chain ?_ (by assumption)))
  have hx0 := hx0.below hb6; have hx1 := hx1.below hb6; have hx2 := hx2.below hb6; have d00 := kept hb6 d00; have d01 := kept hb6 d01; have hs0 := hs0.below hb6
  have hsc00 : (w5.alloc (.cells #[.slice q3a y0.dg.length q3c, .slice q3b y0.up.length q3e] 38)).cell? ⟨w5.heap.size, 0, none⟩ = some (.slice q3a y0.dg.length q3c) := by simp [go_sem]
  have hsc01 : (w5.alloc (.cells #[.slice q3a y0.dg.length q3c, .slice q3b y0.up.length q3e] 38)).cell? ⟨w5.heap.size, 1, none⟩ = some (.slice q3b y0.up.length q3e) := by simp [go_sem]
  go_wp2_with fail
  obtain ⟨W3, hW3⟩ : ∃ W, W = (w5.alloc (.cells #[.slice q3a y0.dg.length q3c, .slice q3b y0.up.length q3e] 38)) := ⟨_, rfl⟩
  have hbW3 : Below w.heap.size w W3 := by rw [hW3]; exact (by repeat (first | exact Below.refl _ _ | apply blw_drew | apply blw_alloc | (refine blw_set ?_ (by first | omega | (simp; done) | (simp; omega)) _) | refine below_chain ?_ (by assumption)))
  rw [← hW3] at hx0 hx1 hx2 d00 d01 hs0 hsc00 hsc01 ⊢; clear hW3
  have hx0_ := hx0
  have hx1_ := hx1
  have hx2_ := hx2
  have d00_ := d00
  have d01_ := d01
  have hs0_ := hs0
  have hsc00_ := hsc00
  have hsc01_ := hsc01
  refine (tod_c hx0 hl0).mono ?_; rintro e w7 ⟨t0, rfl, ⟨g0, k0, rfl, ht0⟩, hb7⟩
  have hx0 := hx0.below hb7; have hx1 := hx1.below hb7; have hx2 := hx2.below hb7; have d00 := kept hb7 d00; have d01 := kept hb7 d01; have hs0 := hs0.below hb7; have hsc00 := kept hb7 hsc00; have hsc01 := kept hb7 hsc01
  have bt0 := ht0.lt; have zt0 := hb7.size; (try simp at bt0); (try simp at zt0)
  have hb8 : Below w7.heap.size w7 (w7.alloc (.cells #[.int .i64 p0, .slice (some ⟨g0, 0, none⟩) st0.length k0] 28)) := (by repeat (first | exact Below.refl _ _ | apply blw_drew | apply blw_alloc | (refine blw_set ?_ (by first | omega | (simp; done) | (simp; omega)) _) | refine below_chain ?_ (by assumption)))
  have hx0 := hx0.below hb8; have hx1 := hx1.below hb8; have hx2 := hx2.below hb8; have d00 := kept hb8 d00; have d01 := kept hb8 d01; have hs0 := hs0.below hb8; have hsc00 := kept hb8 hsc00; have hsc01 := kept hb8 hsc01; have ht0 := ht0.below hb8
  have e00 : (w7.alloc (.cells #[.int .i64 p0, .slice (some ⟨g0, 0, none⟩) st0.length k0] 28)).cell? ⟨w7.heap.size, 0, none⟩ = some (.int .i64 p0) := by simp [go_sem]
  have e01 : (w7.alloc (.cells #[.int .i64 p0, .slice (some ⟨g0, 0, none⟩) st0.length k0] 28)).cell? ⟨w7.heap.size, 1, none⟩ = some (.slice (some ⟨g0, 0, none⟩) st0.length k0) := by simp [go_sem]
  go_wp2_with fail
  refine (to_c hx1 hl1).mono ?_; rintro e w9 ⟨t1, rfl, ⟨g1, k1, rfl, ht1⟩, hb9⟩
  have hx0 := hx0.below hb9; have hx1 := hx1.below hb9; have hx2 := hx2.below hb9; have d00 := kept hb9 d00; have d01 := kept hb9 d01; have hs0 := hs0.below hb9; have hsc00 := kept hb9 hsc00; have hsc01 := kept hb9 hsc01; have ht0 := ht0.below hb9; have e00 := kept hb9 e00; have e01 := kept hb9 e01
  have bt1 := ht1.lt; have zt1 := hb9.size; (try simp at bt1); (try simp at zt1)
  go_wp2_with fail
  refine (to_c hx2 hl2).mono ?_; rintro e w10 ⟨t2, rfl, ⟨g2, k2, rfl, ht2⟩, hb10⟩
  have hx0 := hx0.below hb10; have hx1 := hx1.below hb10; have hx2 := hx2.below hb10; have d00 := kept hb10 d00; have d01 := kept hb10 d01; have hs0 := hs0.below hb10; have hsc00 := kept hb10 hsc00; have hsc01 := kept hb10 hsc01; have ht0 := ht0.below hb10; have e00 := kept hb10 e00; have e01 := kept hb10 e01; have ht1 := ht1.below hb10
  have bt2 := ht2.lt; have zt2 := hb10.size; (try simp at bt2); (try simp at zt2)
  go_wp2_with fail
  refine (hI _ _ ht0.el _ ht1.el _ ht2.el).mono ?_; rintro e w11 ⟨v0_, rfl, hg0, hb11⟩
  have hx0 := hx0.below hb11; have hx1 := hx1.below hb11; have hx2 := hx2.below hb11; have d00 := kept hb11 d00; have d01 := kept hb11 d01; have hs0 := hs0.below hb11; have hsc00 := kept hb11 hsc00; have hsc01 := kept hb11 hsc01; have ht0 := ht0.below hb11; have e00 := kept hb11 e00; have e01 := kept hb11 e01; have ht1 := ht1.below hb11; have ht2 := ht2.below hb11
  have z6 := hb11.size; (try simp at z6)
  have hq0 := hg0.rg; clear hg0
  obtain ⟨g0d, g0u, rfl, g0d_, g0u_⟩ := id hq0.hr; obtain ⟨g0a, g0c, rfl, _⟩ := id g0d_; obtain ⟨g0b, g0e, rfl, _⟩ := id g0u_; clear g0d_ g0u_
  have hb12 : Below w11.heap.size w11 (w11.alloc (.cells #[.slice g0a y0.dg.length g0c, .slice g0b y0.up.length g0e] 38)) := (by repeat (first | exact Below.refl _ _ | apply blw_drew | apply blw_alloc | (refine blw_set ?_ (by first | omega | (simp; done) | (simp; omega)) _) | refine below_chain ?_ (by assumption)))
  have hx0 := hx0.below hb12; have hx1 := hx1.below hb12; have hx2 := hx2.below hb12; have d00 := kept hb12 d00; have d01 := kept hb12 d01; have hs0 := hs0.below hb12; have hsc00 := kept hb12 hsc00; have hsc01 := kept hb12 hsc01; have ht0 := ht0.below hb12; have e00 := kept hb12 e00; have e01 := kept hb12 e01; have ht1 := ht1.below hb12; have ht2 := ht2.below hb12; have hq0 := hq0.below hb12
  have g00 : (w11.alloc (.cells #[.slice g0a y0.dg.length g0c, .slice g0b y0.up.length g0e] 38)).cell? ⟨w11.heap.size, 0, none⟩ = some (.slice g0a y0.dg.length g0c) := by simp [go_sem]
  have g01 : (w11.alloc (.cells #[.slice g0a y0.dg.length g0c, .slice g0b y0.up.length g0e] 38)).cell? ⟨w11.heap.size, 1, none⟩ = some (.slice g0b y0.up.length g0e) := by simp [go_sem]
  go_wp2_with fail
  refine (eqh_c hq0.hr hs0 yl0.toHsz).mono ?_; rintro e w13 ⟨rfl, hb13⟩
  have hx0 := hx0.below hb13; have hx1 := hx1.below hb13; have hx2 := hx2.below hb13; have d00 := kept hb13 d00; have d01 := kept hb13 d01; have hs0 := hs0.below hb13; have hsc00 := kept hb13 hsc00; have hsc01 := kept hb13 hsc01; have ht0 := ht0.below hb13; have e00 := kept hb13 e00; have e01 := kept hb13 e01; have ht1 := ht1.below hb13; have ht2 := ht2.below hb13; have hq0 := hq0.below hb13; have g00 := kept hb13 g00; have g01 := kept hb13 g01
  go_wp2_with fail
  refine region_flow [(false, [(0, 1), (1, 1), (2, 5)]), (false, [(3, 4), (4, 0)])] (by kernel_rfl) ?_
  have hb14 : Below w13.heap.size w13 w13.drew := (by repeat (first | exact Below.refl _ _ | apply blw_drew | apply blw_alloc | (refine blw_set ?_ (by first | omega | (simp; done) | (simp; omega)) _) | refine below_chain ?_ (by assumption)))
  have hx0 := hx0.below hb14; have hx1 := hx1.below hb14; have hx2 := hx2.below hb14; have d00 := kept hb14 d00; have d01 := kept hb14 d01; have hs0 := hs0.below hb14; have hsc00 := kept hb14 hsc00; have hsc01 := kept hb14 hsc01; have ht0 := ht0.below hb14; have e00 := kept hb14 e00; have e01 := kept hb14 e01; have ht1 := ht1.below hb14; have ht2 := ht2.below hb14; have hq0 := hq0.below hb14; have g00 := kept hb14 g00; have g01 := kept hb14 g01
  generalize w13.drew = wr0 at *
  refine norm_K fun K hK => ?_
  change wpList _ _ _ [_, _, _] _ _
  go_wp2_with fail
  refine (tod_c hx0 hl0).mono ?_; rintro e w15 ⟨u0, rfl, hu0, hb15⟩
  have hx0 := hx0.below hb15; have hx1 := hx1.below hb15; have hx2 := hx2.below hb15; have d00 := kept hb15 d00; have d01 := kept hb15 d01; have hs0 := hs0.below hb15; have hsc00 := kept hb15 hsc00; have hsc01 := kept hb15 hsc01; have ht0 := ht0.below hb15; have e00 := kept hb15 e00; have e01 := kept hb15 e01; have ht1 := ht1.below hb15; have ht2 := ht2.below hb15; have hq0 := hq0.below hb15; have g00 := kept hb15 g00; have g01 := kept hb15 g01
  go_wp2_with fail
  first | (refine hK _ _ ⟨hb15, ?_⟩; clear hK K) | refine ⟨hb15, ?_⟩
  refine norm_K fun K hK => ?_
  change wpList _ _ _ [_, _] _ _
  go_wp2_with fail
  refine (eqd_c ht0.sl hu0.sl hl0).mono ?_; rintro e w16 ⟨rfl, hb16⟩
  have hx0 := hx0.below hb16; have hx1 := hx1.below hb16; have hx2 := hx2.below hb16; have d00 := kept hb16 d00; have d01 := kept hb16 d01; have hs0 := hs0.below hb16; have hsc00 := kept hb16 hsc00; have hsc01 := kept hb16 hsc01; have ht0 := ht0.below hb16; have e00 := kept hb16 e00; have e01 := kept hb16 e01; have ht1 := ht1.below hb16; have ht2 := ht2.below hb16; have hq0 := hq0.below hb16; have g00 := kept hb16 g00; have g01 := kept hb16 g01
  go_wp2_with fail
  first | (refine hK _ _ ⟨rfl, ?_⟩; clear hK K) | refine ⟨rfl, ?_⟩
  go_wp2_with fail
  refine (to_c hx1 hl1).mono ?_; rintro e w17 ⟨u1, rfl, hu1, hb17⟩
  have hx0 := hx0.below hb17; have hx1 := hx1.below hb17; have hx2 := hx2.below hb17; have d00 := kept hb17 d00; have d01 := kept hb17 d01; have hs0 := hs0.below hb17; have hsc00 := kept hb17 hsc00; have hsc01 := kept hb17 hsc01; have ht0 := ht0.below hb17; have e00 := kept hb17 e00; have e01 := kept hb17 e01; have ht1 := ht1.below hb17; have ht2 := ht2.below hb17; have hq0 := hq0.below hb17; have g00 := kept hb17 g00; have g01 := kept hb17 g01
  go_wp2_with fail
  refine (eqs_c ht1.sl hu1.sl hl1).mono ?_; rintro e w18 ⟨rfl, hb18⟩
  have hx0 := hx0.below hb18; have hx1 := hx1.below hb18; have hx2 := hx2.below hb18; have d00 := kept hb18 d00; have d01 := kept hb18 d01; have hs0 := hs0.below hb18; have hsc00 := kept hb18 hsc00; have hsc01 := kept hb18 hsc01; have ht0 := ht0.below hb18; have e00 := kept hb18 e00; have e01 := kept hb18 e01; have ht1 := ht1.below hb18; have ht2 := ht2.below hb18; have hq0 := hq0.below hb18; have g00 := kept hb18 g00; have g01 := kept hb18 g01
  go_wp2_with fail
  refine (to_c hx2 hl2).mono ?_; rintro e w19 ⟨u2, rfl, hu2, hb19⟩
  have hx0 := hx0.below hb19; have hx1 := hx1.below hb19; have hx2 := hx2.below hb19; have d00 := kept hb19 d00; have d01 := kept hb19 d01; have hs0 := hs0.below hb19; have hsc00 := kept hb19 hsc00; have hsc01 := kept hb19 hsc01; have ht0 := ht0.below hb19; have e00 := kept hb19 e00; have e01 := kept hb19 e01; have ht1 := ht1.below hb19; have ht2 := ht2.below hb19; have hq0 := hq0.below hb19; have g00 := kept hb19 g00; have g01 := kept hb19 g01
  go_wp2_with fail
  refine (eqs_c ht2.sl hu2.sl hl2).mono ?_; rintro e w20 ⟨rfl, hb20⟩
  have hx0 := hx0.below hb20; have hx1 := hx1.below hb20; have hx2 := hx2.below hb20; have d00 := kept hb20 d00; have d01 := kept hb20 d01; have hs0 := hs0.below hb20; have hsc00 := kept hb20 hsc00; have hsc01 := kept hb20 hsc01; have ht0 := ht0.below hb20; have e00 := kept hb20 e00; have e01 := kept hb20 e01; have ht1 := ht1.below hb20; have ht2 := ht2.below hb20; have hq0 := hq0.below hb20; have g00 := kept hb20 g00; have g01 := kept hb20 g01
  go_wp2_with fail
  refine (markd_c (ht0.fr.ow (Nat.le_refl _)) hl0 (by omega) (by omega)).mono ?_; rintro e w21 ⟨rfl, _, hch_⟩
  have hch0 := hch_ g0 (g0 + 1) (fun j hj => by have e : g0 = j := Option.some.inj hj; omega); clear hch_
  have hb21 := hch0.blw (show Below W3.heap.size W3 w20 from (by repeat (first | exact Below.refl _ _ | apply blw_drew | apply blw_alloc | (refine blw_set ?_ (by first | omega | (simp; done) | (simp; omega)) _) | refine below_chain ?_ (by assumption)))) (by first | omega | (simp; done) | (simp; omega))
  have hx0 := hx0_.below hb21
  have hx1 := hx1_.below hb21
  have hx2 := hx2_.below hb21
  have d00 := kept hb21 d00_
  have d01 := kept hb21 d01_
  have hs0 := hs0_.below hb21
  have hsc00 := kept hb21 hsc00_
  have hsc01 := kept hb21 hsc01_
  have ht1 := OwnI.chg hch0 ht1 (.inr (by first | omega | (simp; done) | (simp; omega)))
  have ht2 := OwnI.chg hch0 ht2 (.inr (by first | omega | (simp; done) | (simp; omega)))
  have hq0 := hq0.chg hch0 (by first | omega | (simp; done) | (simp; omega))
  have g00 := hch0.cell g00 (.inr (by first | omega | (simp; done) | (simp; omega)))
  have g01 := hch0.cell g01 (.inr (by first | omega | (simp; done) | (simp; omega)))
  have zw21 : W3.heap.size ≤ w21.heap.size := hb21.size
  go_wp2_with fail
  refine (mark_c (ht1.fr.ow (Nat.le_refl _)) hl1 (by omega) (by omega)).mono ?_; rintro e w22 ⟨rfl, _, hgr_⟩
  have hch1 : Chg g1 (g1 + 1) w21 w22 := Chg.grown hgr_ (fun j hj => by have e : g1 = j := Option.some.inj hj; omega); clear hgr_
  have hb22 := hch1.blw (show Below W3.heap.size W3 w21 from (by repeat (first | exact Below.refl _ _ | apply blw_drew | apply blw_alloc | (refine blw_set ?_ (by first | omega | (simp; done) | (simp; omega)) _) | refine below_chain ?_ (by assumption)))) (by first | omega | (simp; done) | (simp; omega))
  have hx0 := hx0_.below hb22
  have hx1 := hx1_.below hb22
  have hx2 := hx2_.below hb22
  have d00 := kept hb22 d00_
  have d01 := kept hb22 d01_
  have hs0 := hs0_.below hb22
  have hsc00 := kept hb22 hsc00_
  have hsc01 := kept hb22 hsc01_
  have ht2 := OwnI.chg hch1 ht2 (.inr (by first | omega | (simp; done) | (simp; omega)))
  have hq0 := hq0.chg hch1 (by first | omega | (simp; done) | (simp; omega))
  have g00 := hch1.cell g00 (.inr (by first | omega | (simp; done) | (simp; omega)))
  have g01 := hch1.cell g01 (.inr (by first | omega | (simp; done) | (simp; omega)))
  have zw22 : W3.heap.size ≤ w22.heap.size := hb22.size
  go_wp2_with fail
  refine (mark_c (ht2.fr.ow (Nat.le_refl _)) hl2 (by omega) (by omega)).mono ?_; rintro e w23 ⟨rfl, _, hgr_⟩
  have hch2 : Chg g2 (g2 + 1) w22 w23 := Chg.grown hgr_ (fun j hj => by have e : g2 = j := Option.some.inj hj; omega); clear hgr_
  have hb23 := hch2.blw (show Below W3.heap.size W3 w22 from (by repeat (first | exact Below.refl _ _ | apply blw_drew | apply blw_alloc | (refine blw_set ?_ (by first | omega | (simp; done) | (simp; omega)) _) | refine below_chain ?_ (by assumption)))) (by first | omega | (simp; done) | (simp; omega))
  have hx0 := hx0_.below hb23
  have hx1 := hx1_.below hb23
  have hx2 := hx2_.below hb23
  have d00 := kept hb23 d00_
  have d01 := kept hb23 d01_
  have hs0 := hs0_.below hb23
  have hsc00 := kept hb23 hsc00_
  have hsc01 := kept hb23 hsc01_
  have hq0 := hq0.chg hch2 (by first | omega | (simp; done) | (simp; omega))
  have g00 := hch2.cell g00 (.inr (by first | omega | (simp; done) | (simp; omega)))
  have g01 := hch2.cell g01 (.inr (by first | omega | (simp; done) | (simp; omega)))
  have zw23 : W3.heap.size ≤ w23.heap.size := hb23.size
  have hmk : True := trivial
  go_wp2_with fail
  refine (eqh_c hq0.hr hs0 yl0.toHsz).mono ?_; rintro e w24 ⟨rfl, hb24⟩
  have hx0 := hx0.below hb24; have hx1 := hx1.below hb24; have hx2 := hx2.below hb24; have d00 := kept hb24 d00; have d01 := kept hb24 d01; have hs0 := hs0.below hb24; have hsc00 := kept hb24 hsc00; have hsc01 := kept hb24 hsc01; have hq0 := hq0.below hb24; have g00 := kept hb24 g00; have g01 := kept hb24 g01
  go_wp2_with fail
  refine (markh_c hq0 yl0 (by omega) (by omega)).mono ?_; rintro e w25 ⟨rfl, hm0, hcg0⟩
  have hb25 := hcg0.blw (show Below W3.heap.size W3 w24 from (by repeat (first | exact Below.refl _ _ | apply blw_drew | apply blw_alloc | (refine blw_set ?_ (by first | omega | (simp; done) | (simp; omega)) _) | refine below_chain ?_ (by assumption)))) (by first | omega | (simp; done) | (simp; omega))
  have hx0 := hx0_.below hb25
  have hx1 := hx1_.below hb25
  have hx2 := hx2_.below hb25
  have d00 := kept hb25 d00_
  have d01 := kept hb25 d01_
  have hs0 := hs0_.below hb25
  have hsc00 := kept hb25 hsc00_
  have hsc01 := kept hb25 hsc01_
  have g00 := hcg0.cell g00 (.inr (by first | exact Nat.le_refl _ | omega | (simp; omega)))
  have g01 := hcg0.cell g01 (.inr (by first | exact Nat.le_refl _ | omega | (simp; omega)))
  go_wp2_with fail
  refine (heldh_c hm0 yl0 (by omega) (by omega)).mono ?_; rintro e w26 ⟨rfl, hb26⟩
  have hx0 := hx0.below hb26; have hx1 := hx1.below hb26; have hx2 := hx2.below hb26; have d00 := kept hb26 d00; have d01 := kept hb26 d01; have hs0 := hs0.below hb26; have hsc00 := kept hb26 hsc00; have hsc01 := kept hb26 hsc01; have hm0 := hm0.below hb26; have g00 := kept hb26 g00; have g01 := kept hb26 g01
  go_wp2_with fail
  refine (tod_c hx0 hl0).mono ?_; rintro e w27 ⟨t0, rfl, ht0, hb27⟩
  have hx0 := hx0.below hb27; have hx1 := hx1.below hb27; have hx2 := hx2.below hb27; have d00 := kept hb27 d00; have d01 := kept hb27 d01; have hs0 := hs0.below hb27; have hsc00 := kept hb27 hsc00; have hsc01 := kept hb27 hsc01; have hm0 := hm0.below hb27; have g00 := kept hb27 g00; have g01 := kept hb27 g01
  go_wp2_with fail
  refine (to_c hx1 hl1).mono ?_; rintro e w28 ⟨t1, rfl, ht1, hb28⟩
  have hx0 := hx0.below hb28; have hx1 := hx1.below hb28; have hx2 := hx2.below hb28; have d00 := kept hb28 d00; have d01 := kept hb28 d01; have hs0 := hs0.below hb28; have hsc00 := kept hb28 hsc00; have hsc01 := kept hb28 hsc01; have hm0 := hm0.below hb28; have g00 := kept hb28 g00; have g01 := kept hb28 g01; have ht0 := ht0.below hb28
  go_wp2_with fail
  refine (to_c hx2 hl2).mono ?_; rintro e w29 ⟨t2, rfl, ht2, hb29⟩
  have hx0 := hx0.below hb29; have hx1 := hx1.below hb29; have hx2 := hx2.below hb29; have d00 := kept hb29 d00; have d01 := kept hb29 d01; have hs0 := hs0.below hb29; have hsc00 := kept hb29 hsc00; have hsc01 := kept hb29 hsc01; have hm0 := hm0.below hb29; have g00 := kept hb29 g00; have g01 := kept hb29 g01; have ht0 := ht0.below hb29; have ht1 := ht1.below hb29
  go_wp2_with fail
  refine (hI _ _ ht0.el _ ht1.el _ ht2.el).mono ?_; rintro e w30 ⟨v0_, rfl, hf0, hb30⟩
  have hx0 := hx0.below hb30; have hx1 := hx1.below hb30; have hx2 := hx2.below hb30; have d00 := kept hb30 d00; have d01 := kept hb30 d01; have hs0 := hs0.below hb30; have hsc00 := kept hb30 hsc00; have hsc01 := kept hb30 hsc01; have hm0 := hm0.below hb30; have g00 := kept hb30 g00; have g01 := kept hb30 g01; have ht0 := ht0.below hb30; have ht1 := ht1.below hb30; have ht2 := ht2.below hb30
  have hf0 := hf0.hv.hr
  obtain ⟨q5d, q5u, rfl, q5d_, q5u_⟩ := id hf0; obtain ⟨q5a, q5c, rfl, _⟩ := id q5d_; obtain ⟨q5b, q5e, rfl, _⟩ := id q5u_; clear q5d_ q5u_
  have hb31 : Below w30.heap.size w30 (w30.alloc (.cells #[.slice q5a y0.dg.length q5c, .slice q5b y0.up.length q5e] 38)) := (by repeat (first | exact Below.refl _ _ | apply blw_drew | apply blw_alloc | (refine blw_set ?_ (by first | omega | (simp; done) | (simp; omega)) _) | refine below_chain ?_ (by assumption)))
  have hx0 := hx0.below hb31; have hx1 := hx1.below hb31; have hx2 := hx2.below hb31; have d00 := kept hb31 d00; have d01 := kept hb31 d01; have hs0 := hs0.below hb31; have hsc00 := kept hb31 hsc00; have hsc01 := kept hb31 hsc01; have hm0 := hm0.below hb31; have g00 := kept hb31 g00; have g01 := kept hb31 g01; have hf0 := hf0.below hb31
  have hfc00 : (w30.alloc (.cells #[.slice q5a y0.dg.length q5c, .slice q5b y0.up.length q5e] 38)).cell? ⟨w30.heap.size, 0, none⟩ = some (.slice q5a y0.dg.length q5c) := by simp [go_sem]
  have hfc01 : (w30.alloc (.cells #[.slice q5a y0.dg.length q5c, .slice q5b y0.up.length q5e] 38)).cell? ⟨w30.heap.size, 1, none⟩ = some (.slice q5b y0.up.length q5e) := by simp [go_sem]
  go_wp2_with fail
  obtain ⟨W5, hW5⟩ : ∃ W, W = (w30.alloc (.cells #[.slice q5a y0.dg.length q5c, .slice q5b y0.up.length q5e] 38)) := ⟨_, rfl⟩
  have hbW5 : Below w.heap.size w W5 := by rw [hW5]; exact (by repeat (first | exact Below.refl _ _ | apply blw_drew | apply blw_alloc | (refine blw_set ?_ (by first | omega | (simp; done) | (simp; omega)) _) | refine below_chain ?_ (by assumption)))
  rw [← hW5] at hx0 hx1 hx2 d00 d01 hs0 hsc00 hsc01 hm0 g00 g01 hf0 hfc00 hfc01 ⊢; clear hW5
  have hstep : True := trivial
  refine (eqh_c hf0 hs0 yl0.toHsz).mono ?_; rintro e w32 ⟨rfl, hb32⟩
  have hx0 := hx0.below hb32; have hx1 := hx1.below hb32; have hx2 := hx2.below hb32; have d00 := kept hb32 d00; have d01 := kept hb32 d01; have hs0 := hs0.below hb32; have hsc00 := kept hb32 hsc00; have hsc01 := kept hb32 hsc01; have hm0 := hm0.below hb32; have g00 := kept hb32 g00; have g01 := kept hb32 g01; have hf0 := hf0.below hb32; have hfc00 := kept hb32 hfc00; have hfc01 := kept hb32 hfc01
  go_wp2_with fail
  refine (heldh_c hm0 yl0 (by omega) (by omega)).mono ?_; rintro e w33 ⟨rfl, hb33⟩
  have hx0 := hx0.below hb33; have hx1 := hx1.below hb33; have hx2 := hx2.below hb33; have d00 := kept hb33 d00; have d01 := kept hb33 d01; have hs0 := hs0.below hb33; have hsc00 := kept hb33 hsc00; have hsc01 := kept hb33 hsc01; have hm0 := hm0.below hb33; have g00 := kept hb33 g00; have g01 := kept hb33 g01; have hf0 := hf0.below hb33; have hfc00 := kept hb33 hfc00; have hfc01 := kept hb33 hfc01
  go_wp2_with fail
  go_ret
  exact ⟨rfl, (by repeat (first | exact Below.refl _ _ | apply blw_drew | apply blw_alloc | (refine blw_set ?_ (by first | omega | (simp; done) | (simp; omega)) _) | refine below_chain ?_ (by assumption)))⟩
end Go.Proofs.Ytbfonghjlghncaa
