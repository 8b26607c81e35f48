/-
  Collinearity: the program's and the reference's, and the law.
-/
import Derived.Test.YtbllhcceakhhnaaGreatHdD
import Derived.Test.YtbllhcceakhhnaaGreatHcZ
import Derived.Test.YtbllhcceakhhnaaGreatLawE
namespace Go.Proofs.YtbllhcceakhhnaaGreat
open Go.RowKit

def RAreCollinear1 (p0 : Int) (st0 : List Int) (X1 : Her) (X2 : Her) (X3 : Her) : Int := ptsH p0 st0 [X1, X2, X3]
def RAreCollinear0 (p0 : Int) (st0 : List Int) (X1 : Her) (X2 : Her) (X3 : Her) : Bool := if RAreCollinear1 p0 st0 X1 X2 X3 = 0 then (pairH p0 st0 (crossH p0 st0 X1 X2) X3 == 0) else false
set_option maxHeartbeats 2000000 in
set_option maxRecDepth 100000 in
theorem iAreCollinear_c {p0 : Int} {x0 : Value} {st0 : List Int} {x1 : Value} {X1 : Her} {x2 : Value} {X2 : Her} {x3 : Value} {X3 : Her} {w : World} (hx0 : El w x0 st0) (hm0 : st0.length ≤ 1048576) (hx1 : Hv w x1 X1) (hz1 : Hsz X1) (hx2 : Hv w x2 X2) (hz2 : Hsz X2) (hx3 : Hv w x3 X3) (hz3 : Hsz X3) :
    Calls Tryz.prog 15 #[.agg #[.int .i64 p0, x0], x1, x2, x3] w fun e w' => e = .returned (.tuple #[.bool (RAreCollinear0 p0 st0 X1 X2 X3), .int .i64 (RAreCollinear1 p0 st0 X1 X2 X3)]) ∧ Below w.heap.size w w' := by
  obtain ⟨a0, c0, rfl, _⟩ := id hx0.op
  obtain ⟨dv1, uv1, rfl, hd1_, hu1_⟩ := id hx1; obtain ⟨a1, c1, rfl, _⟩ := id hd1_.op; obtain ⟨b1, e1, rfl, _⟩ := id hu1_; clear hd1_ hu1_
  obtain ⟨dv2, uv2, rfl, hd2_, hu2_⟩ := id hx2; obtain ⟨a2, c2, rfl, _⟩ := id hd2_.op; obtain ⟨b2, e2, rfl, _⟩ := id hu2_; clear hd2_ hu2_
  obtain ⟨dv3, uv3, rfl, hd3_, hu3_⟩ := id hx3; obtain ⟨a3, c3, rfl, _⟩ := id hd3_.op; obtain ⟨b3, e3, rfl, _⟩ := id hu3_; clear hd3_ hu3_
  obtain ⟨W, hW⟩ : ∃ W, W = (((((w.alloc (.cells #[.int .i64 p0, .slice a0 st0.length c0] 32)).alloc (.cells #[.slice a1 X1.dg.length c1, .slice b1 X1.up.length e1] 34)).alloc (.cells #[.slice a2 X2.dg.length c2, .slice b2 X2.up.length e2] 34)).alloc (.cells #[.slice a3 X3.dg.length c3, .slice b3 X3.up.length e3] 34)).alloc (.cells #[.slice a1 X1.dg.length c1, .slice b1 X1.up.length e1, .slice a2 X2.dg.length c2, .slice b2 X2.up.length e2, .slice a3 X3.dg.length c3, .slice b3 X3.up.length e3] 34)) := ⟨_, rfl⟩
  have hbW : Below w.heap.size w W := by rw [hW]; exact (by repeat (first | exact Below.refl _ _ | apply blw_drew | apply blw_alloc | (refine blw_set ?_ (by first | omega | (simp; done) | (simp; omega)) _) | refine below_chain ?_ (by assumption)))
  have hx0 := hx0.below hbW
  have hx1 := hx1.below hbW
  have hx2 := hx2.below hbW
  have hx3 := hx3.below hbW
  have d00 : W.cell? ⟨w.heap.size, 0, none⟩ = some (.int .i64 p0) := by rw [hW]; simp [go_sem]
  have d01 : W.cell? ⟨w.heap.size, 1, none⟩ = some (.slice a0 st0.length c0) := by rw [hW]; simp [go_sem]
  have d10 : W.cell? ⟨w.heap.size + 1, 0, none⟩ = some (.slice a1 X1.dg.length c1) := by rw [hW]; simp [go_sem]
  have d11 : W.cell? ⟨w.heap.size + 1, 1, none⟩ = some (.slice b1 X1.up.length e1) := by rw [hW]; simp [go_sem]
  have d20 : W.cell? ⟨w.heap.size + 1 + 1, 0, none⟩ = some (.slice a2 X2.dg.length c2) := by rw [hW]; simp [go_sem]
  have d21 : W.cell? ⟨w.heap.size + 1 + 1, 1, none⟩ = some (.slice b2 X2.up.length e2) := by rw [hW]; simp [go_sem]
  have d30 : W.cell? ⟨w.heap.size + 1 + 1 + 1, 0, none⟩ = some (.slice a3 X3.dg.length c3) := by rw [hW]; simp [go_sem]
  have d31 : W.cell? ⟨w.heap.size + 1 + 1 + 1, 1, none⟩ = some (.slice b3 X3.up.length e3) := by rw [hW]; simp [go_sem]
  have hWs : W.heap.size = w.heap.size + 1 + 1 + 1 + 1 + 1 := by rw [hW]; simp
  have gl : Lh W (.slice (some ⟨w.heap.size + 1 + 1 + 1 + 1, 0, none⟩) 3 3) [X1, X2, X3] := Lh.three hx1 (by rw [hW]; simp [go_sem]) (by rw [hW]; simp [go_sem]) hx2 (by rw [hW]; simp [go_sem]) (by rw [hW]; simp [go_sem]) hx3 (by rw [hW]; simp [go_sem]) (by rw [hW]; simp [go_sem])
  have hcon := chkp_c (p := p0) hx0 hm0 gl (by intro X hX; simp at hX; rcases hX with rfl | rfl | rfl <;> assumption) (by simp)
  have HWs := Lib.hid hWs; clear hWs
  rw [hW] at hcon
  by_cases h0 : ptsH p0 st0 [X1, X2, X3] = 0
  · rw [h0] at hcon
    obtain ⟨⟨hd, hall⟩, hpt⟩ := ptsH_pos h0
    have HPT := Lib.hid hpt; clear hpt
    have hX1 : isH p0 (sz st0.length) X1 = true := by simp at hall; exact hall.1
    have hX2 : isH p0 (sz st0.length) X2 = true := by simp at hall; exact hall.2.1
    have hX3 : isH p0 (sz st0.length) X3 = true := by simp at hall; exact hall.2.2
    clear hall
    have e1 : RAreCollinear1 p0 st0 X1 X2 X3 = 0 := h0
    rw [show RAreCollinear0 p0 st0 X1 X2 X3 = (pairH p0 st0 (crossH p0 st0 X1 X2) X3 == 0) from if_pos e1, e1]
    clear e1
    go_enter Tryz.func15, Tryz.ntmps15
    go_wp2_with fail
    refine hcon.mono ?_; rintro e w1 ⟨rfl, hb1⟩
    rw [← hW] at hb1
    clear hW hcon
    have hx0 := hx0.below hb1; have hx1 := hx1.below hb1; have hx2 := hx2.below hb1; have hx3 := hx3.below hb1; have d00 := kept hb1 d00; have d01 := kept hb1 d01; have d10 := kept hb1 d10; have d11 := kept hb1 d11; have d20 := kept hb1 d20; have d21 := kept hb1 d21; have d30 := kept hb1 d30; have d31 := kept hb1 d31
    have hp1 := hd.hp.lo; have hp2 := hd.hp.hi
    have hC := crossH_is (p := p0) (by omega) hX1 hX2
    go_wp2_with fail
    refine region_flow [(false, [(0, 1), (1, 1), (2, 1), (3, 1), (5, 1), (4, 5)]), (false, [(6, 4), (7, 0), (8, 0), (9, 0)])] (by kernel_rfl) ?_
    refine norm_K fun K hK => ?_
    change wpList _ _ _ [_, _, _, _, _, _] _ _
    have hb22 : Below w1.heap.size w1 w1.drew := (by repeat (first | exact Below.refl _ _ | apply blw_drew | apply blw_alloc | (refine blw_set ?_ (by first | omega | (simp; done) | (simp; omega)) _) | refine below_chain ?_ (by assumption)))
    have hx0 := hx0.below hb22; have hx1 := hx1.below hb22; have hx2 := hx2.below hb22; have hx3 := hx3.below hb22; have d00 := kept hb22 d00; have d01 := kept hb22 d01; have d10 := kept hb22 d10; have d11 := kept hb22 d11; have d20 := kept hb22 d20; have d21 := kept hb22 d21; have d30 := kept hb22 d30; have d31 := kept hb22 d31
    go_wp2_with fail
    refine (cross_c hd hx0 hx1 hX1 hx2 hX2).mono ?_; rintro e w23 ⟨v1, rfl, h1, hb23⟩
    have hx0 := hx0.below hb23; have hx1 := hx1.below hb23; have hx2 := hx2.below hb23; have hx3 := hx3.below hb23; have d00 := kept hb23 d00; have d01 := kept hb23 d01; have d10 := kept hb23 d10; have d11 := kept hb23 d11; have d20 := kept hb23 d20; have d21 := kept hb23 d21; have d30 := kept hb23 d30; have d31 := kept hb23 d31
    go_wp2_with fail
    have hz0 : Below w1.drew.heap.size w1.drew w23 := (by repeat (first | exact Below.refl _ _ | apply blw_drew | apply blw_alloc | (refine blw_set ?_ (by first | omega | (simp; done) | (simp; omega)) _) | refine below_chain ?_ (by assumption)))
    first | (refine hK _ _ ⟨hz0, ?_⟩; clear hK K) | refine ⟨hz0, ?_⟩
    clear hz0
    refine norm_K fun K hK => ?_
    change wpList _ _ _ [_, _, _, _] _ _
    go_wp2_with fail
    refine (pairing_c hd hx0 h1.hv hC hx3 hX3).mono ?_; rintro e w24 ⟨rfl, hb24⟩
    have hx0 := hx0.below hb24; have hx1 := hx1.below hb24; have hx2 := hx2.below hb24; have hx3 := hx3.below hb24; have d00 := kept hb24 d00; have d01 := kept hb24 d01; have d10 := kept hb24 d10; have d11 := kept hb24 d11; have d20 := kept hb24 d20; have d21 := kept hb24 d21; have d30 := kept hb24 d30; have d31 := kept hb24 d31; have h1 := h1.below hb24
    go_wp2_with fail
    first | (refine hK _ _ ⟨rfl, ?_⟩; clear hK K) | refine ⟨rfl, ?_⟩
    go_wp2_with fail
    go_ret2
    exact ⟨rfl, (by repeat (first | exact Below.refl _ _ | apply blw_drew | apply blw_alloc | (refine blw_set ?_ (by first | omega | (simp; done) | (simp; omega)) _) | refine below_chain ?_ (by assumption)))⟩
  · have e1 : RAreCollinear1 p0 st0 X1 X2 X3 = ptsH p0 st0 [X1, X2, X3] := rfl
    rw [show RAreCollinear0 p0 st0 X1 X2 X3 = false from if_neg (by rw [e1]; exact h0), e1]; clear e1
    obtain ⟨k, hk⟩ : ∃ k, k = ptsH p0 st0 [X1, X2, X3] := ⟨_, rfl⟩
    rw [← hk] at h0 hcon ⊢
    clear hk
    have hne : (k == 0) = false := by simpa using h0
    go_enter Tryz.func15, Tryz.ntmps15
    go_wp2_with fail
    refine hcon.mono ?_; rintro e w1 ⟨rfl, hb1⟩
    rw [← hW] at hb1
    clear hW hcon
    go_wp2_with fail
    go_ret2
    exact ⟨rfl, (by repeat (first | exact Below.refl _ _ | apply blw_drew | apply blw_alloc | (refine blw_set ?_ (by first | omega | (simp; done) | (simp; omega)) _) | refine below_chain ?_ (by assumption)))⟩
set_option maxHeartbeats 2000000 in
set_option maxRecDepth 100000 in
theorem sAreCollinear_c {p0 : Int} {x0 : Value} {st0 : List Int} {x1 : Value} {X1 : Her} {x2 : Value} {X2 : Her} {x3 : Value} {X3 : Her} {w : World} (hx0 : El w x0 st0) (hm0 : st0.length ≤ 1048576) (hx1 : Hv w x1 X1) (hz1 : Hsz X1) (hx2 : Hv w x2 X2) (hz2 : Hsz X2) (hx3 : Hv w x3 X3) (hz3 : Hsz X3) :
    Calls Tryz.prog 14 #[.agg #[.int .i64 p0, x0], x1, x2, x3] w fun e w' => e = .returned (.tuple #[.bool (RAreCollinear0 p0 st0 X1 X2 X3), .int .i64 (RAreCollinear1 p0 st0 X1 X2 X3)]) ∧ Below w.heap.size w w' := by
  obtain ⟨a0, c0, rfl, _⟩ := id hx0.op
  obtain ⟨dv1, uv1, rfl, hd1_, hu1_⟩ := id hx1; obtain ⟨a1, c1, rfl, _⟩ := id hd1_.op; obtain ⟨b1, e1, rfl, _⟩ := id hu1_; clear hd1_ hu1_
  obtain ⟨dv2, uv2, rfl, hd2_, hu2_⟩ := id hx2; obtain ⟨a2, c2, rfl, _⟩ := id hd2_.op; obtain ⟨b2, e2, rfl, _⟩ := id hu2_; clear hd2_ hu2_
  obtain ⟨dv3, uv3, rfl, hd3_, hu3_⟩ := id hx3; obtain ⟨a3, c3, rfl, _⟩ := id hd3_.op; obtain ⟨b3, e3, rfl, _⟩ := id hu3_; clear hd3_ hu3_
  obtain ⟨W, hW⟩ : ∃ W, W = (((((w.alloc (.cells #[.int .i64 p0, .slice a0 st0.length c0] 32)).alloc (.cells #[.slice a1 X1.dg.length c1, .slice b1 X1.up.length e1] 34)).alloc (.cells #[.slice a2 X2.dg.length c2, .slice b2 X2.up.length e2] 34)).alloc (.cells #[.slice a3 X3.dg.length c3, .slice b3 X3.up.length e3] 34)).alloc (.cells #[.slice a1 X1.dg.length c1, .slice b1 X1.up.length e1, .slice a2 X2.dg.length c2, .slice b2 X2.up.length e2, .slice a3 X3.dg.length c3, .slice b3 X3.up.length e3] 34)) := ⟨_, rfl⟩
  have hbW : Below w.heap.size w W := by rw [hW]; exact (by repeat (first | exact Below.refl _ _ | apply blw_drew | apply blw_alloc | (refine blw_set ?_ (by first | omega | (simp; done) | (simp; omega)) _) | refine below_chain ?_ (by assumption)))
  have hx0 := hx0.below hbW
  have hx1 := hx1.below hbW
  have hx2 := hx2.below hbW
  have hx3 := hx3.below hbW
  have d00 : W.cell? ⟨w.heap.size, 0, none⟩ = some (.int .i64 p0) := by rw [hW]; simp [go_sem]
  have d01 : W.cell? ⟨w.heap.size, 1, none⟩ = some (.slice a0 st0.length c0) := by rw [hW]; simp [go_sem]
  have d10 : W.cell? ⟨w.heap.size + 1, 0, none⟩ = some (.slice a1 X1.dg.length c1) := by rw [hW]; simp [go_sem]
  have d11 : W.cell? ⟨w.heap.size + 1, 1, none⟩ = some (.slice b1 X1.up.length e1) := by rw [hW]; simp [go_sem]
  have d20 : W.cell? ⟨w.heap.size + 1 + 1, 0, none⟩ = some (.slice a2 X2.dg.length c2) := by rw [hW]; simp [go_sem]
  have d21 : W.cell? ⟨w.heap.size + 1 + 1, 1, none⟩ = some (.slice b2 X2.up.length e2) := by rw [hW]; simp [go_sem]
  have d30 : W.cell? ⟨w.heap.size + 1 + 1 + 1, 0, none⟩ = some (.slice a3 X3.dg.length c3) := by rw [hW]; simp [go_sem]
  have d31 : W.cell? ⟨w.heap.size + 1 + 1 + 1, 1, none⟩ = some (.slice b3 X3.up.length e3) := by rw [hW]; simp [go_sem]
  have hWs : W.heap.size = w.heap.size + 1 + 1 + 1 + 1 + 1 := by rw [hW]; simp
  have gl : Lh W (.slice (some ⟨w.heap.size + 1 + 1 + 1 + 1, 0, none⟩) 3 3) [X1, X2, X3] := Lh.three hx1 (by rw [hW]; simp [go_sem]) (by rw [hW]; simp [go_sem]) hx2 (by rw [hW]; simp [go_sem]) (by rw [hW]; simp [go_sem]) hx3 (by rw [hW]; simp [go_sem]) (by rw [hW]; simp [go_sem])
  have hcon := sl17p_c (p := p0) hx0 hm0 gl (by intro X hX; simp at hX; rcases hX with rfl | rfl | rfl <;> assumption) (by simp)
  have HWs := Lib.hid hWs; clear hWs
  rw [hW] at hcon
  by_cases h0 : ptsH p0 st0 [X1, X2, X3] = 0
  · rw [h0] at hcon
    obtain ⟨⟨hd, hall⟩, hpt⟩ := ptsH_pos h0
    have HPT := Lib.hid hpt; clear hpt
    have hX1 : isH p0 (sz st0.length) X1 = true := by simp at hall; exact hall.1
    have hX2 : isH p0 (sz st0.length) X2 = true := by simp at hall; exact hall.2.1
    have hX3 : isH p0 (sz st0.length) X3 = true := by simp at hall; exact hall.2.2
    clear hall
    have e1 : RAreCollinear1 p0 st0 X1 X2 X3 = 0 := h0
    rw [show RAreCollinear0 p0 st0 X1 X2 X3 = (pairH p0 st0 (crossH p0 st0 X1 X2) X3 == 0) from if_pos e1, e1]
    clear e1
    go_enter Tryz.func14, Tryz.ntmps14
    go_wp2_with fail
    refine hcon.mono ?_; rintro e w1 ⟨rfl, hb1⟩
    rw [← hW] at hb1
    clear hW hcon
    have hx0 := hx0.below hb1; have hx1 := hx1.below hb1; have hx2 := hx2.below hb1; have hx3 := hx3.below hb1; have d00 := kept hb1 d00; have d01 := kept hb1 d01; have d10 := kept hb1 d10; have d11 := kept hb1 d11; have d20 := kept hb1 d20; have d21 := kept hb1 d21; have d30 := kept hb1 d30; have d31 := kept hb1 d31
    have hp1 := hd.hp.lo; have hp2 := hd.hp.hi
    have hC := crossH_is (p := p0) (by omega) hX1 hX2
    go_wp2_with fail
    refine region_flow [(false, [(0, 0), (1, 1), (2, 1), (3, 1), (4, 1), (5, 1), (7, 1), (6, 5)]), (false, [(8, 5)]), (false, [(9, 4), (10, 0), (11, 0), (12, 0)])] (by kernel_rfl) ?_
    refine norm_K fun K hK => ?_
    change wpList _ _ _ [_, _, _, _, _, _, _, _] _ _
    have hb22 : Below w1.heap.size w1 w1.drew := (by repeat (first | exact Below.refl _ _ | apply blw_drew | apply blw_alloc | (refine blw_set ?_ (by first | omega | (simp; done) | (simp; omega)) _) | refine below_chain ?_ (by assumption)))
    have hx0 := hx0.below hb22; have hx1 := hx1.below hb22; have hx2 := hx2.below hb22; have hx3 := hx3.below hb22; have d00 := kept hb22 d00; have d01 := kept hb22 d01; have d10 := kept hb22 d10; have d11 := kept hb22 d11; have d20 := kept hb22 d20; have d21 := kept hb22 d21; have d30 := kept hb22 d30; have d31 := kept hb22 d31
    have hJ := jordanH_is (p := p0) (by omega) hC hX3
    go_wp2_with fail
    refine (scross_c hd hx0 hx1 hX1 hx2 hX2).mono ?_; rintro e w23 ⟨v1, rfl, h1, hb23⟩
    have hx0 := hx0.below hb23; have hx1 := hx1.below hb23; have hx2 := hx2.below hb23; have hx3 := hx3.below hb23; have d00 := kept hb23 d00; have d01 := kept hb23 d01; have d10 := kept hb23 d10; have d11 := kept hb23 d11; have d20 := kept hb23 d20; have d21 := kept hb23 d21; have d30 := kept hb23 d30; have d31 := kept hb23 d31
    go_wp2_with fail
    have hz0 : Below w1.drew.heap.size w1.drew w23 := (by repeat (first | exact Below.refl _ _ | apply blw_drew | apply blw_alloc | (refine blw_set ?_ (by first | omega | (simp; done) | (simp; omega)) _) | refine below_chain ?_ (by assumption)))
    first | (refine hK _ _ ⟨hz0, ?_⟩; clear hK K) | refine ⟨hz0, ?_⟩
    clear hz0
    refine norm_K fun K hK => ?_
    change wpList _ _ _ [_] _ _
    go_wp2_with fail
    refine (stimes16_c hd hx0 h1.hv hC hx3 hX3).mono ?_; rintro e w24 ⟨v2, rfl, h2, hb24⟩
    have hx0 := hx0.below hb24; have hx1 := hx1.below hb24; have hx2 := hx2.below hb24; have hx3 := hx3.below hb24; have d00 := kept hb24 d00; have d01 := kept hb24 d01; have d10 := kept hb24 d10; have d11 := kept hb24 d11; have d20 := kept hb24 d20; have d21 := kept hb24 d21; have d30 := kept hb24 d30; have d31 := kept hb24 d31; have h1 := h1.below hb24
    go_wp2_with fail
    have hz1 : Below w1.drew.heap.size w1.drew w24 := (by repeat (first | exact Below.refl _ _ | apply blw_drew | apply blw_alloc | (refine blw_set ?_ (by first | omega | (simp; done) | (simp; omega)) _) | refine below_chain ?_ (by assumption)))
    first | (refine hK _ _ ⟨hz1, ?_⟩; clear hK K) | refine ⟨hz1, ?_⟩
    clear hz1
    refine norm_K fun K hK => ?_
    change wpList _ _ _ [_, _, _, _] _ _
    go_wp2_with fail
    refine (strace_c hd.hp h2.hv hJ).mono ?_; rintro e w25 ⟨rfl, hb25⟩
    have hx0 := hx0.below hb25; have hx1 := hx1.below hb25; have hx2 := hx2.below hb25; have hx3 := hx3.below hb25; have d00 := kept hb25 d00; have d01 := kept hb25 d01; have d10 := kept hb25 d10; have d11 := kept hb25 d11; have d20 := kept hb25 d20; have d21 := kept hb25 d21; have d30 := kept hb25 d30; have d31 := kept hb25 d31; have h1 := h1.below hb25; have h2 := h2.below hb25
    go_wp2_with fail
    first | (refine hK _ _ ⟨rfl, ?_⟩; clear hK K) | refine ⟨rfl, ?_⟩
    go_wp2_with fail
    go_ret2
    exact ⟨rfl, (by repeat (first | exact Below.refl _ _ | apply blw_drew | apply blw_alloc | (refine blw_set ?_ (by first | omega | (simp; done) | (simp; omega)) _) | refine below_chain ?_ (by assumption)))⟩
  · have e1 : RAreCollinear1 p0 st0 X1 X2 X3 = ptsH p0 st0 [X1, X2, X3] := rfl
    rw [show RAreCollinear0 p0 st0 X1 X2 X3 = false from if_neg (by rw [e1]; exact h0), e1]; clear e1
    obtain ⟨k, hk⟩ : ∃ k, k = ptsH p0 st0 [X1, X2, X3] := ⟨_, rfl⟩
    rw [← hk] at h0 hcon ⊢
    clear hk
    have hne : (k == 0) = false := by simpa using h0
    go_enter Tryz.func14, Tryz.ntmps14
    go_wp2_with fail
    refine hcon.mono ?_; rintro e w1 ⟨rfl, hb1⟩
    rw [← hW] at hb1
    clear hW hcon
    go_wp2_with fail
    go_ret2
    exact ⟨rfl, (by repeat (first | exact Below.refl _ _ | apply blw_drew | apply blw_alloc | (refine blw_set ?_ (by first | omega | (simp; done) | (simp; omega)) _) | refine below_chain ?_ (by assumption)))⟩
set_option maxHeartbeats 2000000 in
set_option maxRecDepth 100000 in
theorem law_AreCollinear {p0 : Int} {x0 : Value} {st0 : List Int} {x1 : Value} {X1 : Her} {x2 : Value} {X2 : Her} {x3 : Value} {X3 : Her} {w : World} (hx0 : Sl w x0 st0) (hb0_ : st0.length ≤ 9223372036854775807) (hx1 : Hr w x1 X1) (hb1_ : Hbig X1) (hx2 : Hr w x2 X2) (hb2_ : Hbig X2) (hx3 : Hr w x3 X3) (hb3_ : Hbig X3) :
    Calls Tryz.prog 4 #[.agg #[.int .i64 p0, x0], x1, x2, x3] w fun e w' => e = .returned (.bool true) ∧ Below w.heap.size w w' := by
  obtain ⟨a0, c0, rfl, _⟩ := id hx0
  obtain ⟨dv1, uv1, rfl, hd1, hu1⟩ := id hx1
  obtain ⟨a1, c1, rfl, _⟩ := id hd1; obtain ⟨b1, e1, rfl, _⟩ := id hu1; clear hd1 hu1
  obtain ⟨dv2, uv2, rfl, hd2, hu2⟩ := id hx2
  obtain ⟨a2, c2, rfl, _⟩ := id hd2; obtain ⟨b2, e2, rfl, _⟩ := id hu2; clear hd2 hu2
  obtain ⟨dv3, uv3, rfl, hd3, hu3⟩ := id hx3
  obtain ⟨a3, c3, rfl, _⟩ := id hd3; obtain ⟨b3, e3, rfl, _⟩ := id hu3; clear hd3 hu3
  obtain ⟨z0, hz0_⟩ : ∃ z, z = szI 1048576 st0.length := ⟨_, rfl⟩
  have hzb0 := szI_bd (left := 1048576) (n := st0.length) (by omega) (by omega)
  rw [← hz0_] at hzb0
  have HZ0 := Lib.hid hz0_; clear hz0_
  by_cases hs0 : z0 < 0
  case pos =>
    go_enter Tryz.func4, Tryz.ntmps4
    have hb0 : Below w.heap.size w ((((w.alloc (.cells #[.int .i64 p0, .slice a0 st0.length c0] 24)).alloc (.cells #[.slice a1 X1.dg.length c1, .slice b1 X1.up.length e1] 27)).alloc (.cells #[.slice a2 X2.dg.length c2, .slice b2 X2.up.length e2] 27)).alloc (.cells #[.slice a3 X3.dg.length c3, .slice b3 X3.up.length e3] 27)) := (by repeat (first | exact Below.refl _ _ | apply blw_drew | apply blw_alloc | (refine blw_set ?_ (by first | omega | (simp; done) | (simp; omega)) _) | refine below_chain ?_ (by assumption)))
    have hx0 := hx0.below hb0; have hx1 := hx1.below hb0; have hx2 := hx2.below hb0; have hx3 := hx3.below hb0
    have d00 : ((((w.alloc (.cells #[.int .i64 p0, .slice a0 st0.length c0] 24)).alloc (.cells #[.slice a1 X1.dg.length c1, .slice b1 X1.up.length e1] 27)).alloc (.cells #[.slice a2 X2.dg.length c2, .slice b2 X2.up.length e2] 27)).alloc (.cells #[.slice a3 X3.dg.length c3, .slice b3 X3.up.length e3] 27)).cell? ⟨w.heap.size, 0, none⟩ = some (.int .i64 p0) := by simp [go_sem]
    have d01 : ((((w.alloc (.cells #[.int .i64 p0, .slice a0 st0.length c0] 24)).alloc (.cells #[.slice a1 X1.dg.length c1, .slice b1 X1.up.length e1] 27)).alloc (.cells #[.slice a2 X2.dg.length c2, .slice b2 X2.up.length e2] 27)).alloc (.cells #[.slice a3 X3.dg.length c3, .slice b3 X3.up.length e3] 27)).cell? ⟨w.heap.size, 1, none⟩ = some (.slice a0 st0.length c0) := by simp [go_sem]
    have d10 : ((((w.alloc (.cells #[.int .i64 p0, .slice a0 st0.length c0] 24)).alloc (.cells #[.slice a1 X1.dg.length c1, .slice b1 X1.up.length e1] 27)).alloc (.cells #[.slice a2 X2.dg.length c2, .slice b2 X2.up.length e2] 27)).alloc (.cells #[.slice a3 X3.dg.length c3, .slice b3 X3.up.length e3] 27)).cell? ⟨w.heap.size + 1, 0, none⟩ = some (.slice a1 X1.dg.length c1) := by simp [go_sem]
    have d11 : ((((w.alloc (.cells #[.int .i64 p0, .slice a0 st0.length c0] 24)).alloc (.cells #[.slice a1 X1.dg.length c1, .slice b1 X1.up.length e1] 27)).alloc (.cells #[.slice a2 X2.dg.length c2, .slice b2 X2.up.length e2] 27)).alloc (.cells #[.slice a3 X3.dg.length c3, .slice b3 X3.up.length e3] 27)).cell? ⟨w.heap.size + 1, 1, none⟩ = some (.slice b1 X1.up.length e1) := by simp [go_sem]
    have d20 : ((((w.alloc (.cells #[.int .i64 p0, .slice a0 st0.length c0] 24)).alloc (.cells #[.slice a1 X1.dg.length c1, .slice b1 X1.up.length e1] 27)).alloc (.cells #[.slice a2 X2.dg.length c2, .slice b2 X2.up.length e2] 27)).alloc (.cells #[.slice a3 X3.dg.length c3, .slice b3 X3.up.length e3] 27)).cell? ⟨w.heap.size + 1 + 1, 0, none⟩ = some (.slice a2 X2.dg.length c2) := by simp [go_sem]
    have d21 : ((((w.alloc (.cells #[.int .i64 p0, .slice a0 st0.length c0] 24)).alloc (.cells #[.slice a1 X1.dg.length c1, .slice b1 X1.up.length e1] 27)).alloc (.cells #[.slice a2 X2.dg.length c2, .slice b2 X2.up.length e2] 27)).alloc (.cells #[.slice a3 X3.dg.length c3, .slice b3 X3.up.length e3] 27)).cell? ⟨w.heap.size + 1 + 1, 1, none⟩ = some (.slice b2 X2.up.length e2) := by simp [go_sem]
    have d30 : ((((w.alloc (.cells #[.int .i64 p0, .slice a0 st0.length c0] 24)).alloc (.cells #[.slice a1 X1.dg.length c1, .slice b1 X1.up.length e1] 27)).alloc (.cells #[.slice a2 X2.dg.length c2, .slice b2 X2.up.length e2] 27)).alloc (.cells #[.slice a3 X3.dg.length c3, .slice b3 X3.up.length e3] 27)).cell? ⟨w.heap.size + 1 + 1 + 1, 0, none⟩ = some (.slice a3 X3.dg.length c3) := by simp [go_sem]
    have d31 : ((((w.alloc (.cells #[.int .i64 p0, .slice a0 st0.length c0] 24)).alloc (.cells #[.slice a1 X1.dg.length c1, .slice b1 X1.up.length e1] 27)).alloc (.cells #[.slice a2 X2.dg.length c2, .slice b2 X2.up.length e2] 27)).alloc (.cells #[.slice a3 X3.dg.length c3, .slice b3 X3.up.length e3] 27)).cell? ⟨w.heap.size + 1 + 1 + 1, 1, none⟩ = some (.slice b3 X3.up.length e3) := by simp [go_sem]
    go_wp2_with fail
    refine (szd_c (by omega) (by omega) hb0_).mono ?_; rintro e w1 ⟨rfl, hb1⟩
    have hx0 := hx0.below hb1; have hx1 := hx1.below hb1; have hx2 := hx2.below hb1; have hx3 := hx3.below hb1; have d00 := kept hb1 d00; have d01 := kept hb1 d01; have d10 := kept hb1 d10; have d11 := kept hb1 d11; have d20 := kept hb1 d20; have d21 := kept hb1 d21; have d30 := kept hb1 d30; have d31 := kept hb1 d31
    simp only [← HZ0.out]
    go_wp2_with fail
    go_ret
    exact ⟨rfl, (by repeat (first | exact Below.refl _ _ | apply blw_drew | apply blw_alloc | (refine blw_set ?_ (by first | omega | (simp; done) | (simp; omega)) _) | refine below_chain ?_ (by assumption)))⟩
  have hl0 : st0.length ≤ 1048576 := szI_pos (left := 1048576) (by omega) (by rw [← HZ0.out]; exact hs0)
  obtain ⟨z1, hz1_⟩ : ∃ z, z = szH z0 X1 := ⟨_, rfl⟩
  have hzb1 := szH_bd (left := z0) (X := X1) (by omega) (by omega)
  rw [← hz1_] at hzb1
  have HZ1 := Lib.hid hz1_; clear hz1_
  by_cases hs1 : z1 < 0
  case pos =>
    go_enter Tryz.func4, Tryz.ntmps4
    have hb0 : Below w.heap.size w ((((w.alloc (.cells #[.int .i64 p0, .slice a0 st0.length c0] 24)).alloc (.cells #[.slice a1 X1.dg.length c1, .slice b1 X1.up.length e1] 27)).alloc (.cells #[.slice a2 X2.dg.length c2, .slice b2 X2.up.length e2] 27)).alloc (.cells #[.slice a3 X3.dg.length c3, .slice b3 X3.up.length e3] 27)) := (by repeat (first | exact Below.refl _ _ | apply blw_drew | apply blw_alloc | (refine blw_set ?_ (by first | omega | (simp; done) | (simp; omega)) _) | refine below_chain ?_ (by assumption)))
    have hx0 := hx0.below hb0; have hx1 := hx1.below hb0; have hx2 := hx2.below hb0; have hx3 := hx3.below hb0
    have d00 : ((((w.alloc (.cells #[.int .i64 p0, .slice a0 st0.length c0] 24)).alloc (.cells #[.slice a1 X1.dg.length c1, .slice b1 X1.up.length e1] 27)).alloc (.cells #[.slice a2 X2.dg.length c2, .slice b2 X2.up.length e2] 27)).alloc (.cells #[.slice a3 X3.dg.length c3, .slice b3 X3.up.length e3] 27)).cell? ⟨w.heap.size, 0, none⟩ = some (.int .i64 p0) := by simp [go_sem]
    have d01 : ((((w.alloc (.cells #[.int .i64 p0, .slice a0 st0.length c0] 24)).alloc (.cells #[.slice a1 X1.dg.length c1, .slice b1 X1.up.length e1] 27)).alloc (.cells #[.slice a2 X2.dg.length c2, .slice b2 X2.up.length e2] 27)).alloc (.cells #[.slice a3 X3.dg.length c3, .slice b3 X3.up.length e3] 27)).cell? ⟨w.heap.size, 1, none⟩ = some (.slice a0 st0.length c0) := by simp [go_sem]
    have d10 : ((((w.alloc (.cells #[.int .i64 p0, .slice a0 st0.length c0] 24)).alloc (.cells #[.slice a1 X1.dg.length c1, .slice b1 X1.up.length e1] 27)).alloc (.cells #[.slice a2 X2.dg.length c2, .slice b2 X2.up.length e2] 27)).alloc (.cells #[.slice a3 X3.dg.length c3, .slice b3 X3.up.length e3] 27)).cell? ⟨w.heap.size + 1, 0, none⟩ = some (.slice a1 X1.dg.length c1) := by simp [go_sem]
    have d11 : ((((w.alloc (.cells #[.int .i64 p0, .slice a0 st0.length c0] 24)).alloc (.cells #[.slice a1 X1.dg.length c1, .slice b1 X1.up.length e1] 27)).alloc (.cells #[.slice a2 X2.dg.length c2, .slice b2 X2.up.length e2] 27)).alloc (.cells #[.slice a3 X3.dg.length c3, .slice b3 X3.up.length e3] 27)).cell? ⟨w.heap.size + 1, 1, none⟩ = some (.slice b1 X1.up.length e1) := by simp [go_sem]
    have d20 : ((((w.alloc (.cells #[.int .i64 p0, .slice a0 st0.length c0] 24)).alloc (.cells #[.slice a1 X1.dg.length c1, .slice b1 X1.up.length e1] 27)).alloc (.cells #[.slice a2 X2.dg.length c2, .slice b2 X2.up.length e2] 27)).alloc (.cells #[.slice a3 X3.dg.length c3, .slice b3 X3.up.length e3] 27)).cell? ⟨w.heap.size + 1 + 1, 0, none⟩ = some (.slice a2 X2.dg.length c2) := by simp [go_sem]
    have d21 : ((((w.alloc (.cells #[.int .i64 p0, .slice a0 st0.length c0] 24)).alloc (.cells #[.slice a1 X1.dg.length c1, .slice b1 X1.up.length e1] 27)).alloc (.cells #[.slice a2 X2.dg.length c2, .slice b2 X2.up.length e2] 27)).alloc (.cells #[.slice a3 X3.dg.length c3, .slice b3 X3.up.length e3] 27)).cell? ⟨w.heap.size + 1 + 1, 1, none⟩ = some (.slice b2 X2.up.length e2) := by simp [go_sem]
    have d30 : ((((w.alloc (.cells #[.int .i64 p0, .slice a0 st0.length c0] 24)).alloc (.cells #[.slice a1 X1.dg.length c1, .slice b1 X1.up.length e1] 27)).alloc (.cells #[.slice a2 X2.dg.length c2, .slice b2 X2.up.length e2] 27)).alloc (.cells #[.slice a3 X3.dg.length c3, .slice b3 X3.up.length e3] 27)).cell? ⟨w.heap.size + 1 + 1 + 1, 0, none⟩ = some (.slice a3 X3.dg.length c3) := by simp [go_sem]
    have d31 : ((((w.alloc (.cells #[.int .i64 p0, .slice a0 st0.length c0] 24)).alloc (.cells #[.slice a1 X1.dg.length c1, .slice b1 X1.up.length e1] 27)).alloc (.cells #[.slice a2 X2.dg.length c2, .slice b2 X2.up.length e2] 27)).alloc (.cells #[.slice a3 X3.dg.length c3, .slice b3 X3.up.length e3] 27)).cell? ⟨w.heap.size + 1 + 1 + 1, 1, none⟩ = some (.slice b3 X3.up.length e3) := by simp [go_sem]
    go_wp2_with fail
    refine (szd_c (by omega) (by omega) hb0_).mono ?_; rintro e w1 ⟨rfl, hb1⟩
    have hx0 := hx0.below hb1; have hx1 := hx1.below hb1; have hx2 := hx2.below hb1; have hx3 := hx3.below hb1; have d00 := kept hb1 d00; have d01 := kept hb1 d01; have d10 := kept hb1 d10; have d11 := kept hb1 d11; have d20 := kept hb1 d20; have d21 := kept hb1 d21; have d30 := kept hb1 d30; have d31 := kept hb1 d31
    simp only [← HZ0.out]
    go_wp2_with fail
    refine (szh_c hx1 hb1_ (by omega) (by omega)).mono ?_; rintro e w2 ⟨rfl, hb2⟩
    have hx0 := hx0.below hb2; have hx1 := hx1.below hb2; have hx2 := hx2.below hb2; have hx3 := hx3.below hb2; have d00 := kept hb2 d00; have d01 := kept hb2 d01; have d10 := kept hb2 d10; have d11 := kept hb2 d11; have d20 := kept hb2 d20; have d21 := kept hb2 d21; have d30 := kept hb2 d30; have d31 := kept hb2 d31
    simp only [← HZ1.out]
    go_wp2_with fail
    go_ret
    exact ⟨rfl, (by repeat (first | exact Below.refl _ _ | apply blw_drew | apply blw_alloc | (refine blw_set ?_ (by first | omega | (simp; done) | (simp; omega)) _) | refine below_chain ?_ (by assumption)))⟩
  have hl1 : Hsz X1 := szH_pos (left := z0) (by omega) (by omega) (by rw [← HZ1.out]; exact hs1)
  obtain ⟨z2, hz2_⟩ : ∃ z, z = szH z1 X2 := ⟨_, rfl⟩
  have hzb2 := szH_bd (left := z1) (X := X2) (by omega) (by omega)
  rw [← hz2_] at hzb2
  have HZ2 := Lib.hid hz2_; clear hz2_
  by_cases hs2 : z2 < 0
  case pos =>
    go_enter Tryz.func4, Tryz.ntmps4
    have hb0 : Below w.heap.size w ((((w.alloc (.cells #[.int .i64 p0, .slice a0 st0.length c0] 24)).alloc (.cells #[.slice a1 X1.dg.length c1, .slice b1 X1.up.length e1] 27)).alloc (.cells #[.slice a2 X2.dg.length c2, .slice b2 X2.up.length e2] 27)).alloc (.cells #[.slice a3 X3.dg.length c3, .slice b3 X3.up.length e3] 27)) := (by repeat (first | exact Below.refl _ _ | apply blw_drew | apply blw_alloc | (refine blw_set ?_ (by first | omega | (simp; done) | (simp; omega)) _) | refine below_chain ?_ (by assumption)))
    have hx0 := hx0.below hb0; have hx1 := hx1.below hb0; have hx2 := hx2.below hb0; have hx3 := hx3.below hb0
    have d00 : ((((w.alloc (.cells #[.int .i64 p0, .slice a0 st0.length c0] 24)).alloc (.cells #[.slice a1 X1.dg.length c1, .slice b1 X1.up.length e1] 27)).alloc (.cells #[.slice a2 X2.dg.length c2, .slice b2 X2.up.length e2] 27)).alloc (.cells #[.slice a3 X3.dg.length c3, .slice b3 X3.up.length e3] 27)).cell? ⟨w.heap.size, 0, none⟩ = some (.int .i64 p0) := by simp [go_sem]
    have d01 : ((((w.alloc (.cells #[.int .i64 p0, .slice a0 st0.length c0] 24)).alloc (.cells #[.slice a1 X1.dg.length c1, .slice b1 X1.up.length e1] 27)).alloc (.cells #[.slice a2 X2.dg.length c2, .slice b2 X2.up.length e2] 27)).alloc (.cells #[.slice a3 X3.dg.length c3, .slice b3 X3.up.length e3] 27)).cell? ⟨w.heap.size, 1, none⟩ = some (.slice a0 st0.length c0) := by simp [go_sem]
    have d10 : ((((w.alloc (.cells #[.int .i64 p0, .slice a0 st0.length c0] 24)).alloc (.cells #[.slice a1 X1.dg.length c1, .slice b1 X1.up.length e1] 27)).alloc (.cells #[.slice a2 X2.dg.length c2, .slice b2 X2.up.length e2] 27)).alloc (.cells #[.slice a3 X3.dg.length c3, .slice b3 X3.up.length e3] 27)).cell? ⟨w.heap.size + 1, 0, none⟩ = some (.slice a1 X1.dg.length c1) := by simp [go_sem]
    have d11 : ((((w.alloc (.cells #[.int .i64 p0, .slice a0 st0.length c0] 24)).alloc (.cells #[.slice a1 X1.dg.length c1, .slice b1 X1.up.length e1] 27)).alloc (.cells #[.slice a2 X2.dg.length c2, .slice b2 X2.up.length e2] 27)).alloc (.cells #[.slice a3 X3.dg.length c3, .slice b3 X3.up.length e3] 27)).cell? ⟨w.heap.size + 1, 1, none⟩ = some (.slice b1 X1.up.length e1) := by simp [go_sem]
    have d20 : ((((w.alloc (.cells #[.int .i64 p0, .slice a0 st0.length c0] 24)).alloc (.cells #[.slice a1 X1.dg.length c1, .slice b1 X1.up.length e1] 27)).alloc (.cells #[.slice a2 X2.dg.length c2, .slice b2 X2.up.length e2] 27)).alloc (.cells #[.slice a3 X3.dg.length c3, .slice b3 X3.up.length e3] 27)).cell? ⟨w.heap.size + 1 + 1, 0, none⟩ = some (.slice a2 X2.dg.length c2) := by simp [go_sem]
    have d21 : ((((w.alloc (.cells #[.int .i64 p0, .slice a0 st0.length c0] 24)).alloc (.cells #[.slice a1 X1.dg.length c1, .slice b1 X1.up.length e1] 27)).alloc (.cells #[.slice a2 X2.dg.length c2, .slice b2 X2.up.length e2] 27)).alloc (.cells #[.slice a3 X3.dg.length c3, .slice b3 X3.up.length e3] 27)).cell? ⟨w.heap.size + 1 + 1, 1, none⟩ = some (.slice b2 X2.up.length e2) := by simp [go_sem]
    have d30 : ((((w.alloc (.cells #[.int .i64 p0, .slice a0 st0.length c0] 24)).alloc (.cells #[.slice a1 X1.dg.length c1, .slice b1 X1.up.length e1] 27)).alloc (.cells #[.slice a2 X2.dg.length c2, .slice b2 X2.up.length e2] 27)).alloc (.cells #[.slice a3 X3.dg.length c3, .slice b3 X3.up.length e3] 27)).cell? ⟨w.heap.size + 1 + 1 + 1, 0, none⟩ = some (.slice a3 X3.dg.length c3) := by simp [go_sem]
    have d31 : ((((w.alloc (.cells #[.int .i64 p0, .slice a0 st0.length c0] 24)).alloc (.cells #[.slice a1 X1.dg.length c1, .slice b1 X1.up.length e1] 27)).alloc (.cells #[.slice a2 X2.dg.length c2, .slice b2 X2.up.length e2] 27)).alloc (.cells #[.slice a3 X3.dg.length c3, .slice b3 X3.up.length e3] 27)).cell? ⟨w.heap.size + 1 + 1 + 1, 1, none⟩ = some (.slice b3 X3.up.length e3) := by simp [go_sem]
    go_wp2_with fail
    refine (szd_c (by omega) (by omega) hb0_).mono ?_; rintro e w1 ⟨rfl, hb1⟩
    have hx0 := hx0.below hb1; have hx1 := hx1.below hb1; have hx2 := hx2.below hb1; have hx3 := hx3.below hb1; have d00 := kept hb1 d00; have d01 := kept hb1 d01; have d10 := kept hb1 d10; have d11 := kept hb1 d11; have d20 := kept hb1 d20; have d21 := kept hb1 d21; have d30 := kept hb1 d30; have d31 := kept hb1 d31
    simp only [← HZ0.out]
    go_wp2_with fail
    refine (szh_c hx1 hb1_ (by omega) (by omega)).mono ?_; rintro e w2 ⟨rfl, hb2⟩
    have hx0 := hx0.below hb2; have hx1 := hx1.below hb2; have hx2 := hx2.below hb2; have hx3 := hx3.below hb2; have d00 := kept hb2 d00; have d01 := kept hb2 d01; have d10 := kept hb2 d10; have d11 := kept hb2 d11; have d20 := kept hb2 d20; have d21 := kept hb2 d21; have d30 := kept hb2 d30; have d31 := kept hb2 d31
    simp only [← HZ1.out]
    go_wp2_with fail
    refine (szh_c hx2 hb2_ (by omega) (by omega)).mono ?_; rintro e w3 ⟨rfl, hb3⟩
    have hx0 := hx0.below hb3; have hx1 := hx1.below hb3; have hx2 := hx2.below hb3; have hx3 := hx3.below hb3; have d00 := kept hb3 d00; have d01 := kept hb3 d01; have d10 := kept hb3 d10; have d11 := kept hb3 d11; have d20 := kept hb3 d20; have d21 := kept hb3 d21; have d30 := kept hb3 d30; have d31 := kept hb3 d31
    simp only [← HZ2.out]
    go_wp2_with fail
    go_ret
    exact ⟨rfl, (by repeat (first | exact Below.refl _ _ | apply blw_drew | apply blw_alloc | (refine blw_set ?_ (by first | omega | (simp; done) | (simp; omega)) _) | refine below_chain ?_ (by assumption)))⟩
  have hl2 : Hsz X2 := szH_pos (left := z1) (by omega) (by omega) (by rw [← HZ2.out]; exact hs2)
  obtain ⟨z3, hz3_⟩ : ∃ z, z = szH z2 X3 := ⟨_, rfl⟩
  have hzb3 := szH_bd (left := z2) (X := X3) (by omega) (by omega)
  rw [← hz3_] at hzb3
  have HZ3 := Lib.hid hz3_; clear hz3_
  by_cases hs3 : z3 < 0
  case pos =>
    go_enter Tryz.func4, Tryz.ntmps4
    have hb0 : Below w.heap.size w ((((w.alloc (.cells #[.int .i64 p0, .slice a0 st0.length c0] 24)).alloc (.cells #[.slice a1 X1.dg.length c1, .slice b1 X1.up.length e1] 27)).alloc (.cells #[.slice a2 X2.dg.length c2, .slice b2 X2.up.length e2] 27)).alloc (.cells #[.slice a3 X3.dg.length c3, .slice b3 X3.up.length e3] 27)) := (by repeat (first | exact Below.refl _ _ | apply blw_drew | apply blw_alloc | (refine blw_set ?_ (by first | omega | (simp; done) | (simp; omega)) _) | refine below_chain ?_ (by assumption)))
    have hx0 := hx0.below hb0; have hx1 := hx1.below hb0; have hx2 := hx2.below hb0; have hx3 := hx3.below hb0
    have d00 : ((((w.alloc (.cells #[.int .i64 p0, .slice a0 st0.length c0] 24)).alloc (.cells #[.slice a1 X1.dg.length c1, .slice b1 X1.up.length e1] 27)).alloc (.cells #[.slice a2 X2.dg.length c2, .slice b2 X2.up.length e2] 27)).alloc (.cells #[.slice a3 X3.dg.length c3, .slice b3 X3.up.length e3] 27)).cell? ⟨w.heap.size, 0, none⟩ = some (.int .i64 p0) := by simp [go_sem]
    have d01 : ((((w.alloc (.cells #[.int .i64 p0, .slice a0 st0.length c0] 24)).alloc (.cells #[.slice a1 X1.dg.length c1, .slice b1 X1.up.length e1] 27)).alloc (.cells #[.slice a2 X2.dg.length c2, .slice b2 X2.up.length e2] 27)).alloc (.cells #[.slice a3 X3.dg.length c3, .slice b3 X3.up.length e3] 27)).cell? ⟨w.heap.size, 1, none⟩ = some (.slice a0 st0.length c0) := by simp [go_sem]
    have d10 : ((((w.alloc (.cells #[.int .i64 p0, .slice a0 st0.length c0] 24)).alloc (.cells #[.slice a1 X1.dg.length c1, .slice b1 X1.up.length e1] 27)).alloc (.cells #[.slice a2 X2.dg.length c2, .slice b2 X2.up.length e2] 27)).alloc (.cells #[.slice a3 X3.dg.length c3, .slice b3 X3.up.length e3] 27)).cell? ⟨w.heap.size + 1, 0, none⟩ = some (.slice a1 X1.dg.length c1) := by simp [go_sem]
    have d11 : ((((w.alloc (.cells #[.int .i64 p0, .slice a0 st0.length c0] 24)).alloc (.cells #[.slice a1 X1.dg.length c1, .slice b1 X1.up.length e1] 27)).alloc (.cells #[.slice a2 X2.dg.length c2, .slice b2 X2.up.length e2] 27)).alloc (.cells #[.slice a3 X3.dg.length c3, .slice b3 X3.up.length e3] 27)).cell? ⟨w.heap.size + 1, 1, none⟩ = some (.slice b1 X1.up.length e1) := by simp [go_sem]
    have d20 : ((((w.alloc (.cells #[.int .i64 p0, .slice a0 st0.length c0] 24)).alloc (.cells #[.slice a1 X1.dg.length c1, .slice b1 X1.up.length e1] 27)).alloc (.cells #[.slice a2 X2.dg.length c2, .slice b2 X2.up.length e2] 27)).alloc (.cells #[.slice a3 X3.dg.length c3, .slice b3 X3.up.length e3] 27)).cell? ⟨w.heap.size + 1 + 1, 0, none⟩ = some (.slice a2 X2.dg.length c2) := by simp [go_sem]
    have d21 : ((((w.alloc (.cells #[.int .i64 p0, .slice a0 st0.length c0] 24)).alloc (.cells #[.slice a1 X1.dg.length c1, .slice b1 X1.up.length e1] 27)).alloc (.cells #[.slice a2 X2.dg.length c2, .slice b2 X2.up.length e2] 27)).alloc (.cells #[.slice a3 X3.dg.length c3, .slice b3 X3.up.length e3] 27)).cell? ⟨w.heap.size + 1 + 1, 1, none⟩ = some (.slice b2 X2.up.length e2) := by simp [go_sem]
    have d30 : ((((w.alloc (.cells #[.int .i64 p0, .slice a0 st0.length c0] 24)).alloc (.cells #[.slice a1 X1.dg.length c1, .slice b1 X1.up.length e1] 27)).alloc (.cells #[.slice a2 X2.dg.length c2, .slice b2 X2.up.length e2] 27)).alloc (.cells #[.slice a3 X3.dg.length c3, .slice b3 X3.up.length e3] 27)).cell? ⟨w.heap.size + 1 + 1 + 1, 0, none⟩ = some (.slice a3 X3.dg.length c3) := by simp [go_sem]
    have d31 : ((((w.alloc (.cells #[.int .i64 p0, .slice a0 st0.length c0] 24)).alloc (.cells #[.slice a1 X1.dg.length c1, .slice b1 X1.up.length e1] 27)).alloc (.cells #[.slice a2 X2.dg.length c2, .slice b2 X2.up.length e2] 27)).alloc (.cells #[.slice a3 X3.dg.length c3, .slice b3 X3.up.length e3] 27)).cell? ⟨w.heap.size + 1 + 1 + 1, 1, none⟩ = some (.slice b3 X3.up.length e3) := by simp [go_sem]
    go_wp2_with fail
    refine (szd_c (by omega) (by omega) hb0_).mono ?_; rintro e w1 ⟨rfl, hb1⟩
    have hx0 := hx0.below hb1; have hx1 := hx1.below hb1; have hx2 := hx2.below hb1; have hx3 := hx3.below hb1; have d00 := kept hb1 d00; have d01 := kept hb1 d01; have d10 := kept hb1 d10; have d11 := kept hb1 d11; have d20 := kept hb1 d20; have d21 := kept hb1 d21; have d30 := kept hb1 d30; have d31 := kept hb1 d31
    simp only [← HZ0.out]
    go_wp2_with fail
    refine (szh_c hx1 hb1_ (by omega) (by omega)).mono ?_; rintro e w2 ⟨rfl, hb2⟩
    have hx0 := hx0.below hb2; have hx1 := hx1.below hb2; have hx2 := hx2.below hb2; have hx3 := hx3.below hb2; have d00 := kept hb2 d00; have d01 := kept hb2 d01; have d10 := kept hb2 d10; have d11 := kept hb2 d11; have d20 := kept hb2 d20; have d21 := kept hb2 d21; have d30 := kept hb2 d30; have d31 := kept hb2 d31
    simp only [← HZ1.out]
    go_wp2_with fail
    refine (szh_c hx2 hb2_ (by omega) (by omega)).mono ?_; rintro e w3 ⟨rfl, hb3⟩
    have hx0 := hx0.below hb3; have hx1 := hx1.below hb3; have hx2 := hx2.below hb3; have hx3 := hx3.below hb3; have d00 := kept hb3 d00; have d01 := kept hb3 d01; have d10 := kept hb3 d10; have d11 := kept hb3 d11; have d20 := kept hb3 d20; have d21 := kept hb3 d21; have d30 := kept hb3 d30; have d31 := kept hb3 d31
    simp only [← HZ2.out]
    go_wp2_with fail
    refine (szh_c hx3 hb3_ (by omega) (by omega)).mono ?_; rintro e w4 ⟨rfl, hb4⟩
    have hx0 := hx0.below hb4; have hx1 := hx1.below hb4; have hx2 := hx2.below hb4; have hx3 := hx3.below hb4; have d00 := kept hb4 d00; have d01 := kept hb4 d01; have d10 := kept hb4 d10; have d11 := kept hb4 d11; have d20 := kept hb4 d20; have d21 := kept hb4 d21; have d30 := kept hb4 d30; have d31 := kept hb4 d31
    simp only [← HZ3.out]
    go_wp2_with fail
    go_ret
    exact ⟨rfl, (by repeat (first | exact Below.refl _ _ | apply blw_drew | apply blw_alloc | (refine blw_set ?_ (by first | omega | (simp; done) | (simp; omega)) _) | refine below_chain ?_ (by assumption)))⟩
  have hl3 : Hsz X3 := szH_pos (left := z2) (by omega) (by omega) (by rw [← HZ3.out]; exact hs3)
  have hI := fun (W : World) (x0 : Value) (hx0 : El W x0 st0) (x1 : Value) (hx1 : Hv W x1 X1) (x2 : Value) (hx2 : Hv W x2 X2) (x3 : Value) (hx3 : Hv W x3 X3) => iAreCollinear_c (w := W) (p0 := p0) hx0 hl0 hx1 hl1 hx2 hl2 hx3 hl3
  have hS := fun (W : World) (x0 : Value) (hx0 : El W x0 st0) (x1 : Value) (hx1 : Hv W x1 X1) (x2 : Value) (hx2 : Hv W x2 X2) (x3 : Value) (hx3 : Hv W x3 X3) => sAreCollinear_c (w := W) (p0 := p0) hx0 hl0 hx1 hl1 hx2 hl2 hx3 hl3
  obtain ⟨y0, hy0⟩ : ∃ y, y = RAreCollinear0 p0 st0 X1 X2 X3 := ⟨_, rfl⟩
  obtain ⟨y1, hy1⟩ : ∃ y, y = RAreCollinear1 p0 st0 X1 X2 X3 := ⟨_, rfl⟩
  simp only [← hy0, ← hy1] at hI hS 
  clear hy0 hy1
  go_enter Tryz.func4, Tryz.ntmps4
  have hb0 : Below w.heap.size w ((((w.alloc (.cells #[.int .i64 p0, .slice a0 st0.length c0] 24)).alloc (.cells #[.slice a1 X1.dg.length c1, .slice b1 X1.up.length e1] 27)).alloc (.cells #[.slice a2 X2.dg.length c2, .slice b2 X2.up.length e2] 27)).alloc (.cells #[.slice a3 X3.dg.length c3, .slice b3 X3.up.length e3] 27)) := (by repeat (first | exact Below.refl _ _ | apply blw_drew | apply blw_alloc | (refine blw_set ?_ (by first | omega | (simp; done) | (simp; omega)) _) | refine below_chain ?_ (by assumption)))
  have hx0 := hx0.below hb0; have hx1 := hx1.below hb0; have hx2 := hx2.below hb0; have hx3 := hx3.below hb0
  have d00 : ((((w.alloc (.cells #[.int .i64 p0, .slice a0 st0.length c0] 24)).alloc (.cells #[.slice a1 X1.dg.length c1, .slice b1 X1.up.length e1] 27)).alloc (.cells #[.slice a2 X2.dg.length c2, .slice b2 X2.up.length e2] 27)).alloc (.cells #[.slice a3 X3.dg.length c3, .slice b3 X3.up.length e3] 27)).cell? ⟨w.heap.size, 0, none⟩ = some (.int .i64 p0) := by simp [go_sem]
  have d01 : ((((w.alloc (.cells #[.int .i64 p0, .slice a0 st0.length c0] 24)).alloc (.cells #[.slice a1 X1.dg.length c1, .slice b1 X1.up.length e1] 27)).alloc (.cells #[.slice a2 X2.dg.length c2, .slice b2 X2.up.length e2] 27)).alloc (.cells #[.slice a3 X3.dg.length c3, .slice b3 X3.up.length e3] 27)).cell? ⟨w.heap.size, 1, none⟩ = some (.slice a0 st0.length c0) := by simp [go_sem]
  have d10 : ((((w.alloc (.cells #[.int .i64 p0, .slice a0 st0.length c0] 24)).alloc (.cells #[.slice a1 X1.dg.length c1, .slice b1 X1.up.length e1] 27)).alloc (.cells #[.slice a2 X2.dg.length c2, .slice b2 X2.up.length e2] 27)).alloc (.cells #[.slice a3 X3.dg.length c3, .slice b3 X3.up.length e3] 27)).cell? ⟨w.heap.size + 1, 0, none⟩ = some (.slice a1 X1.dg.length c1) := by simp [go_sem]
  have d11 : ((((w.alloc (.cells #[.int .i64 p0, .slice a0 st0.length c0] 24)).alloc (.cells #[.slice a1 X1.dg.length c1, .slice b1 X1.up.length e1] 27)).alloc (.cells #[.slice a2 X2.dg.length c2, .slice b2 X2.up.length e2] 27)).alloc (.cells #[.slice a3 X3.dg.length c3, .slice b3 X3.up.length e3] 27)).cell? ⟨w.heap.size + 1, 1, none⟩ = some (.slice b1 X1.up.length e1) := by simp [go_sem]
  have d20 : ((((w.alloc (.cells #[.int .i64 p0, .slice a0 st0.length c0] 24)).alloc (.cells #[.slice a1 X1.dg.length c1, .slice b1 X1.up.length e1] 27)).alloc (.cells #[.slice a2 X2.dg.length c2, .slice b2 X2.up.length e2] 27)).alloc (.cells #[.slice a3 X3.dg.length c3, .slice b3 X3.up.length e3] 27)).cell? ⟨w.heap.size + 1 + 1, 0, none⟩ = some (.slice a2 X2.dg.length c2) := by simp [go_sem]
  have d21 : ((((w.alloc (.cells #[.int .i64 p0, .slice a0 st0.length c0] 24)).alloc (.cells #[.slice a1 X1.dg.length c1, .slice b1 X1.up.length e1] 27)).alloc (.cells #[.slice a2 X2.dg.length c2, .slice b2 X2.up.length e2] 27)).alloc (.cells #[.slice a3 X3.dg.length c3, .slice b3 X3.up.length e3] 27)).cell? ⟨w.heap.size + 1 + 1, 1, none⟩ = some (.slice b2 X2.up.length e2) := by simp [go_sem]
  have d30 : ((((w.alloc (.cells #[.int .i64 p0, .slice a0 st0.length c0] 24)).alloc (.cells #[.slice a1 X1.dg.length c1, .slice b1 X1.up.length e1] 27)).alloc (.cells #[.slice a2 X2.dg.length c2, .slice b2 X2.up.length e2] 27)).alloc (.cells #[.slice a3 X3.dg.length c3, .slice b3 X3.up.length e3] 27)).cell? ⟨w.heap.size + 1 + 1 + 1, 0, none⟩ = some (.slice a3 X3.dg.length c3) := by simp [go_sem]
  have d31 : ((((w.alloc (.cells #[.int .i64 p0, .slice a0 st0.length c0] 24)).alloc (.cells #[.slice a1 X1.dg.length c1, .slice b1 X1.up.length e1] 27)).alloc (.cells #[.slice a2 X2.dg.length c2, .slice b2 X2.up.length e2] 27)).alloc (.cells #[.slice a3 X3.dg.length c3, .slice b3 X3.up.length e3] 27)).cell? ⟨w.heap.size + 1 + 1 + 1, 1, none⟩ = some (.slice b3 X3.up.length e3) := by simp [go_sem]
  go_wp2_with fail
  refine (szd_c (by omega) (by omega) hb0_).mono ?_; rintro e w1 ⟨rfl, hb1⟩
  have hx0 := hx0.below hb1; have hx1 := hx1.below hb1; have hx2 := hx2.below hb1; have hx3 := hx3.below hb1; have d00 := kept hb1 d00; have d01 := kept hb1 d01; have d10 := kept hb1 d10; have d11 := kept hb1 d11; have d20 := kept hb1 d20; have d21 := kept hb1 d21; have d30 := kept hb1 d30; have d31 := kept hb1 d31
  simp only [← HZ0.out]
  go_wp2_with fail
  refine (szh_c hx1 hb1_ (by omega) (by omega)).mono ?_; rintro e w2 ⟨rfl, hb2⟩
  have hx0 := hx0.below hb2; have hx1 := hx1.below hb2; have hx2 := hx2.below hb2; have hx3 := hx3.below hb2; have d00 := kept hb2 d00; have d01 := kept hb2 d01; have d10 := kept hb2 d10; have d11 := kept hb2 d11; have d20 := kept hb2 d20; have d21 := kept hb2 d21; have d30 := kept hb2 d30; have d31 := kept hb2 d31
  simp only [← HZ1.out]
  go_wp2_with fail
  refine (szh_c hx2 hb2_ (by omega) (by omega)).mono ?_; rintro e w3 ⟨rfl, hb3⟩
  have hx0 := hx0.below hb3; have hx1 := hx1.below hb3; have hx2 := hx2.below hb3; have hx3 := hx3.below hb3; have d00 := kept hb3 d00; have d01 := kept hb3 d01; have d10 := kept hb3 d10; have d11 := kept hb3 d11; have d20 := kept hb3 d20; have d21 := kept hb3 d21; have d30 := kept hb3 d30; have d31 := kept hb3 d31
  simp only [← HZ2.out]
  go_wp2_with fail
  refine (szh_c hx3 hb3_ (by omega) (by omega)).mono ?_; rintro e w4 ⟨rfl, hb4⟩
  have hx0 := hx0.below hb4; have hx1 := hx1.below hb4; have hx2 := hx2.below hb4; have hx3 := hx3.below hb4; have d00 := kept hb4 d00; have d01 := kept hb4 d01; have d10 := kept hb4 d10; have d11 := kept hb4 d11; have d20 := kept hb4 d20; have d21 := kept hb4 d21; have d30 := kept hb4 d30; have d31 := kept hb4 d31
  simp only [← HZ3.out]
  go_wp2_with fail
  refine region_flow [(false, [(0, 1), (2, 1), (4, 1), (6, 1), (1, 5)]), (false, [(3, 5)]), (false, [(5, 5)]), (false, [(7, 4), (8, 4), (9, 0), (10, 0), (11, 0), (12, 0), (13, 0)])] (by kernel_rfl) ?_
  refine norm_K fun K hK => ?_
  change wpList _ _ _ [_, _, _, _, _] _ _
  have hb5 : Below w4.heap.size w4 w4.drew := (by repeat (first | exact Below.refl _ _ | apply blw_drew | apply blw_alloc | (refine blw_set ?_ (by first | omega | (simp; done) | (simp; omega)) _) | refine below_chain ?_ (by assumption)))
  have hx0 := hx0.below hb5; have hx1 := hx1.below hb5; have hx2 := hx2.below hb5; have hx3 := hx3.below hb5; have d00 := kept hb5 d00; have d01 := kept hb5 d01; have d10 := kept hb5 d10; have d11 := kept hb5 d11; have d20 := kept hb5 d20; have d21 := kept hb5 d21; have d30 := kept hb5 d30; have d31 := kept hb5 d31
  go_wp2_with fail
  refine (tod_c hx0 hl0).mono ?_; rintro e w6 ⟨t0, rfl, ht0, hb6⟩
  have hx0 := hx0.below hb6; have hx1 := hx1.below hb6; have hx2 := hx2.below hb6; have hx3 := hx3.below hb6; have d00 := kept hb6 d00; have d01 := kept hb6 d01; have d10 := kept hb6 d10; have d11 := kept hb6 d11; have d20 := kept hb6 d20; have d21 := kept hb6 d21; have d30 := kept hb6 d30; have d31 := kept hb6 d31
  go_wp2_with fail
  have hq0 : Below w4.drew.heap.size w4.drew w6 := (by repeat (first | exact Below.refl _ _ | apply blw_drew | apply blw_alloc | (refine blw_set ?_ (by first | omega | (simp; done) | (simp; omega)) _) | refine below_chain ?_ (by assumption)))
  first | (refine hK _ _ ⟨hq0, ?_⟩; clear hK K) | refine ⟨hq0, ?_⟩
  clear hq0
  refine norm_K fun K hK => ?_
  change wpList _ _ _ [_] _ _
  go_wp2_with fail
  refine (toh_c hx1 hl1).mono ?_; rintro e w7 ⟨t1, rfl, ht1, hb7⟩
  have hx0 := hx0.below hb7; have hx1 := hx1.below hb7; have hx2 := hx2.below hb7; have hx3 := hx3.below hb7; have d00 := kept hb7 d00; have d01 := kept hb7 d01; have d10 := kept hb7 d10; have d11 := kept hb7 d11; have d20 := kept hb7 d20; have d21 := kept hb7 d21; have d30 := kept hb7 d30; have d31 := kept hb7 d31; have ht0 := ht0.below hb7
  go_wp2_with fail
  have hq1 : Below w4.drew.heap.size w4.drew w7 := (by repeat (first | exact Below.refl _ _ | apply blw_drew | apply blw_alloc | (refine blw_set ?_ (by first | omega | (simp; done) | (simp; omega)) _) | refine below_chain ?_ (by assumption)))
  first | (refine hK _ _ ⟨hq1, ?_⟩; clear hK K) | refine ⟨hq1, ?_⟩
  clear hq1
  refine norm_K fun K hK => ?_
  change wpList _ _ _ [_] _ _
  go_wp2_with fail
  refine (toh_c hx2 hl2).mono ?_; rintro e w8 ⟨t2, rfl, ht2, hb8⟩
  have hx0 := hx0.below hb8; have hx1 := hx1.below hb8; have hx2 := hx2.below hb8; have hx3 := hx3.below hb8; have d00 := kept hb8 d00; have d01 := kept hb8 d01; have d10 := kept hb8 d10; have d11 := kept hb8 d11; have d20 := kept hb8 d20; have d21 := kept hb8 d21; have d30 := kept hb8 d30; have d31 := kept hb8 d31; have ht0 := ht0.below hb8; have ht1 := ht1.below hb8
  go_wp2_with fail
  have hq2 : Below w4.drew.heap.size w4.drew w8 := (by repeat (first | exact Below.refl _ _ | apply blw_drew | apply blw_alloc | (refine blw_set ?_ (by first | omega | (simp; done) | (simp; omega)) _) | refine below_chain ?_ (by assumption)))
  first | (refine hK _ _ ⟨hq2, ?_⟩; clear hK K) | refine ⟨hq2, ?_⟩
  clear hq2
  refine norm_K fun K hK => ?_
  change wpList _ _ _ [_, _, _, _, _, _, _] _ _
  go_wp2_with fail
  refine (toh_c hx3 hl3).mono ?_; rintro e w9 ⟨t3, rfl, ht3, hb9⟩
  have hx0 := hx0.below hb9; have hx1 := hx1.below hb9; have hx2 := hx2.below hb9; have hx3 := hx3.below hb9; have d00 := kept hb9 d00; have d01 := kept hb9 d01; have d10 := kept hb9 d10; have d11 := kept hb9 d11; have d20 := kept hb9 d20; have d21 := kept hb9 d21; have d30 := kept hb9 d30; have d31 := kept hb9 d31; have ht0 := ht0.below hb9; have ht1 := ht1.below hb9; have ht2 := ht2.below hb9
  go_wp2_with fail
  refine (hS _ _ ht0.el _ ht1.hv _ ht2.hv _ ht3.hv).mono ?_; rintro e w10 ⟨rfl, hb10⟩
  have hx0 := hx0.below hb10; have hx1 := hx1.below hb10; have hx2 := hx2.below hb10; have hx3 := hx3.below hb10; have d00 := kept hb10 d00; have d01 := kept hb10 d01; have d10 := kept hb10 d10; have d11 := kept hb10 d11; have d20 := kept hb10 d20; have d21 := kept hb10 d21; have d30 := kept hb10 d30; have d31 := kept hb10 d31; have ht0 := ht0.below hb10; have ht1 := ht1.below hb10; have ht2 := ht2.below hb10; have ht3 := ht3.below hb10
  go_wp2_with fail
  first | (refine hK _ _ ⟨rfl, ?_⟩; clear hK K) | refine ⟨rfl, ?_⟩
  go_wp2_with fail
  refine (tod_c hx0 hl0).mono ?_; rintro e w11 ⟨t0, rfl, ⟨g0, k0, rfl, ht0⟩, hb11⟩
  have hx0 := hx0.below hb11; have hx1 := hx1.below hb11; have hx2 := hx2.below hb11; have hx3 := hx3.below hb11; have d00 := kept hb11 d00; have d01 := kept hb11 d01; have d10 := kept hb11 d10; have d11 := kept hb11 d11; have d20 := kept hb11 d20; have d21 := kept hb11 d21; have d30 := kept hb11 d30; have d31 := kept hb11 d31
  have hb12 : Below w11.heap.size w11 (w11.alloc (.cells #[.int .i64 p0, .slice (some ⟨g0, 0, none⟩) st0.length k0] 32)) := (by repeat (first | exact Below.refl _ _ | apply blw_drew | apply blw_alloc | (refine blw_set ?_ (by first | omega | (simp; done) | (simp; omega)) _) | refine below_chain ?_ (by assumption)))
  have hx0 := hx0.below hb12; have hx1 := hx1.below hb12; have hx2 := hx2.below hb12; have hx3 := hx3.below hb12; have d00 := kept hb12 d00; have d01 := kept hb12 d01; have d10 := kept hb12 d10; have d11 := kept hb12 d11; have d20 := kept hb12 d20; have d21 := kept hb12 d21; have d30 := kept hb12 d30; have d31 := kept hb12 d31; have ht0 := ht0.below hb12
  have e00 : (w11.alloc (.cells #[.int .i64 p0, .slice (some ⟨g0, 0, none⟩) st0.length k0] 32)).cell? ⟨w11.heap.size, 0, none⟩ = some (.int .i64 p0) := by simp [go_sem]
  have e01 : (w11.alloc (.cells #[.int .i64 p0, .slice (some ⟨g0, 0, none⟩) st0.length k0] 32)).cell? ⟨w11.heap.size, 1, none⟩ = some (.slice (some ⟨g0, 0, none⟩) st0.length k0) := by simp [go_sem]
  go_wp2_with fail
  refine (toh_c hx1 hl1).mono ?_; rintro e w13 ⟨t1, rfl, ht1, hb13⟩
  have hx0 := hx0.below hb13; have hx1 := hx1.below hb13; have hx2 := hx2.below hb13; have hx3 := hx3.below hb13; have d00 := kept hb13 d00; have d01 := kept hb13 d01; have d10 := kept hb13 d10; have d11 := kept hb13 d11; have d20 := kept hb13 d20; have d21 := kept hb13 d21; have d30 := kept hb13 d30; have d31 := kept hb13 d31; have ht0 := ht0.below hb13; have e00 := kept hb13 e00; have e01 := kept hb13 e01
  obtain ⟨td1, tu1, rfl, htd1, htu1⟩ := ht1.hv; obtain ⟨ta1, tc1, rfl, _⟩ := htd1.op; obtain ⟨tb1, te1, rfl, _⟩ := id htu1; clear htd1 htu1
  have hb14 : Below w13.heap.size w13 (w13.alloc (.cells #[.slice ta1 X1.dg.length tc1, .slice tb1 X1.up.length te1] 34)) := (by repeat (first | exact Below.refl _ _ | apply blw_drew | apply blw_alloc | (refine blw_set ?_ (by first | omega | (simp; done) | (simp; omega)) _) | refine below_chain ?_ (by assumption)))
  have hx0 := hx0.below hb14; have hx1 := hx1.below hb14; have hx2 := hx2.below hb14; have hx3 := hx3.below hb14; have d00 := kept hb14 d00; have d01 := kept hb14 d01; have d10 := kept hb14 d10; have d11 := kept hb14 d11; have d20 := kept hb14 d20; have d21 := kept hb14 d21; have d30 := kept hb14 d30; have d31 := kept hb14 d31; have ht0 := ht0.below hb14; have e00 := kept hb14 e00; have e01 := kept hb14 e01; have ht1 := ht1.below hb14
  have e10 : (w13.alloc (.cells #[.slice ta1 X1.dg.length tc1, .slice tb1 X1.up.length te1] 34)).cell? ⟨w13.heap.size, 0, none⟩ = some (.slice ta1 X1.dg.length tc1) := by simp [go_sem]
  have e11 : (w13.alloc (.cells #[.slice ta1 X1.dg.length tc1, .slice tb1 X1.up.length te1] 34)).cell? ⟨w13.heap.size, 1, none⟩ = some (.slice tb1 X1.up.length te1) := by simp [go_sem]
  go_wp2_with fail
  refine (toh_c hx2 hl2).mono ?_; rintro e w15 ⟨t2, rfl, ht2, hb15⟩
  have hx0 := hx0.below hb15; have hx1 := hx1.below hb15; have hx2 := hx2.below hb15; have hx3 := hx3.below hb15; have d00 := kept hb15 d00; have d01 := kept hb15 d01; have d10 := kept hb15 d10; have d11 := kept hb15 d11; have d20 := kept hb15 d20; have d21 := kept hb15 d21; have d30 := kept hb15 d30; have d31 := kept hb15 d31; have ht0 := ht0.below hb15; have e00 := kept hb15 e00; have e01 := kept hb15 e01; have ht1 := ht1.below hb15; have e10 := kept hb15 e10; have e11 := kept hb15 e11
  obtain ⟨td2, tu2, rfl, htd2, htu2⟩ := ht2.hv; obtain ⟨ta2, tc2, rfl, _⟩ := htd2.op; obtain ⟨tb2, te2, rfl, _⟩ := id htu2; clear htd2 htu2
  have hb16 : Below w15.heap.size w15 (w15.alloc (.cells #[.slice ta2 X2.dg.length tc2, .slice tb2 X2.up.length te2] 34)) := (by repeat (first | exact Below.refl _ _ | apply blw_drew | apply blw_alloc | (refine blw_set ?_ (by first | omega | (simp; done) | (simp; omega)) _) | refine below_chain ?_ (by assumption)))
  have hx0 := hx0.below hb16; have hx1 := hx1.below hb16; have hx2 := hx2.below hb16; have hx3 := hx3.below hb16; have d00 := kept hb16 d00; have d01 := kept hb16 d01; have d10 := kept hb16 d10; have d11 := kept hb16 d11; have d20 := kept hb16 d20; have d21 := kept hb16 d21; have d30 := kept hb16 d30; have d31 := kept hb16 d31; have ht0 := ht0.below hb16; have e00 := kept hb16 e00; have e01 := kept hb16 e01; have ht1 := ht1.below hb16; have e10 := kept hb16 e10; have e11 := kept hb16 e11; have ht2 := ht2.below hb16
  have e20 : (w15.alloc (.cells #[.slice ta2 X2.dg.length tc2, .slice tb2 X2.up.length te2] 34)).cell? ⟨w15.heap.size, 0, none⟩ = some (.slice ta2 X2.dg.length tc2) := by simp [go_sem]
  have e21 : (w15.alloc (.cells #[.slice ta2 X2.dg.length tc2, .slice tb2 X2.up.length te2] 34)).cell? ⟨w15.heap.size, 1, none⟩ = some (.slice tb2 X2.up.length te2) := by simp [go_sem]
  go_wp2_with fail
  refine (toh_c hx3 hl3).mono ?_; rintro e w17 ⟨t3, rfl, ht3, hb17⟩
  have hx0 := hx0.below hb17; have hx1 := hx1.below hb17; have hx2 := hx2.below hb17; have hx3 := hx3.below hb17; have d00 := kept hb17 d00; have d01 := kept hb17 d01; have d10 := kept hb17 d10; have d11 := kept hb17 d11; have d20 := kept hb17 d20; have d21 := kept hb17 d21; have d30 := kept hb17 d30; have d31 := kept hb17 d31; have ht0 := ht0.below hb17; have e00 := kept hb17 e00; have e01 := kept hb17 e01; have ht1 := ht1.below hb17; have e10 := kept hb17 e10; have e11 := kept hb17 e11; have ht2 := ht2.below hb17; have e20 := kept hb17 e20; have e21 := kept hb17 e21
  obtain ⟨td3, tu3, rfl, htd3, htu3⟩ := ht3.hv; obtain ⟨ta3, tc3, rfl, _⟩ := htd3.op; obtain ⟨tb3, te3, rfl, _⟩ := id htu3; clear htd3 htu3
  have hb18 : Below w17.heap.size w17 (w17.alloc (.cells #[.slice ta3 X3.dg.length tc3, .slice tb3 X3.up.length te3] 34)) := (by repeat (first | exact Below.refl _ _ | apply blw_drew | apply blw_alloc | (refine blw_set ?_ (by first | omega | (simp; done) | (simp; omega)) _) | refine below_chain ?_ (by assumption)))
  have hx0 := hx0.below hb18; have hx1 := hx1.below hb18; have hx2 := hx2.below hb18; have hx3 := hx3.below hb18; have d00 := kept hb18 d00; have d01 := kept hb18 d01; have d10 := kept hb18 d10; have d11 := kept hb18 d11; have d20 := kept hb18 d20; have d21 := kept hb18 d21; have d30 := kept hb18 d30; have d31 := kept hb18 d31; have ht0 := ht0.below hb18; have e00 := kept hb18 e00; have e01 := kept hb18 e01; have ht1 := ht1.below hb18; have e10 := kept hb18 e10; have e11 := kept hb18 e11; have ht2 := ht2.below hb18; have e20 := kept hb18 e20; have e21 := kept hb18 e21; have ht3 := ht3.below hb18
  have e30 : (w17.alloc (.cells #[.slice ta3 X3.dg.length tc3, .slice tb3 X3.up.length te3] 34)).cell? ⟨w17.heap.size, 0, none⟩ = some (.slice ta3 X3.dg.length tc3) := by simp [go_sem]
  have e31 : (w17.alloc (.cells #[.slice ta3 X3.dg.length tc3, .slice tb3 X3.up.length te3] 34)).cell? ⟨w17.heap.size, 1, none⟩ = some (.slice tb3 X3.up.length te3) := by simp [go_sem]
  go_wp2_with fail
  refine (hI _ _ ht0.el _ ht1.hv _ ht2.hv _ ht3.hv).mono ?_; rintro e w19 ⟨rfl, hb19⟩
  have hx0 := hx0.below hb19; have hx1 := hx1.below hb19; have hx2 := hx2.below hb19; have hx3 := hx3.below hb19; have d00 := kept hb19 d00; have d01 := kept hb19 d01; have d10 := kept hb19 d10; have d11 := kept hb19 d11; have d20 := kept hb19 d20; have d21 := kept hb19 d21; have d30 := kept hb19 d30; have d31 := kept hb19 d31; have ht0 := ht0.below hb19; have e00 := kept hb19 e00; have e01 := kept hb19 e01; have ht1 := ht1.below hb19; have e10 := kept hb19 e10; have e11 := kept hb19 e11; have ht2 := ht2.below hb19; have e20 := kept hb19 e20; have e21 := kept hb19 e21; have ht3 := ht3.below hb19; have e30 := kept hb19 e30; have e31 := kept hb19 e31
  go_wp2_with fail
  refine region_flow [(false, [(0, 1), (1, 1), (2, 5)]), (false, [(3, 4), (4, 0)])] (by kernel_rfl) ?_
  refine norm_K fun K hK => ?_
  change wpList _ _ _ [_, _, _] _ _
  have hb20 : Below w19.heap.size w19 w19.drew := (by repeat (first | exact Below.refl _ _ | apply blw_drew | apply blw_alloc | (refine blw_set ?_ (by first | omega | (simp; done) | (simp; omega)) _) | refine below_chain ?_ (by assumption)))
  have hx0 := hx0.below hb20; have hx1 := hx1.below hb20; have hx2 := hx2.below hb20; have hx3 := hx3.below hb20; have d00 := kept hb20 d00; have d01 := kept hb20 d01; have d10 := kept hb20 d10; have d11 := kept hb20 d11; have d20 := kept hb20 d20; have d21 := kept hb20 d21; have d30 := kept hb20 d30; have d31 := kept hb20 d31; have ht0 := ht0.below hb20; have e00 := kept hb20 e00; have e01 := kept hb20 e01; have ht1 := ht1.below hb20; have e10 := kept hb20 e10; have e11 := kept hb20 e11; have ht2 := ht2.below hb20; have e20 := kept hb20 e20; have e21 := kept hb20 e21; have ht3 := ht3.below hb20; have e30 := kept hb20 e30; have e31 := kept hb20 e31
  go_wp2_with fail
  refine (tod_c hx0 hl0).mono ?_; rintro e w21 ⟨u0, rfl, hu0, hb21⟩
  have hx0 := hx0.below hb21; have hx1 := hx1.below hb21; have hx2 := hx2.below hb21; have hx3 := hx3.below hb21; have d00 := kept hb21 d00; have d01 := kept hb21 d01; have d10 := kept hb21 d10; have d11 := kept hb21 d11; have d20 := kept hb21 d20; have d21 := kept hb21 d21; have d30 := kept hb21 d30; have d31 := kept hb21 d31; have ht0 := ht0.below hb21; have e00 := kept hb21 e00; have e01 := kept hb21 e01; have ht1 := ht1.below hb21; have e10 := kept hb21 e10; have e11 := kept hb21 e11; have ht2 := ht2.below hb21; have e20 := kept hb21 e20; have e21 := kept hb21 e21; have ht3 := ht3.below hb21; have e30 := kept hb21 e30; have e31 := kept hb21 e31
  go_wp2_with fail
  first | (refine hK _ _ ⟨hb21, ?_⟩; clear hK K) | refine ⟨hb21, ?_⟩
  refine norm_K fun K hK => ?_
  change wpList _ _ _ [_, _] _ _
  go_wp2_with fail
  refine (eqd_c ht0.sl hu0.sl hl0).mono ?_; rintro e w22 ⟨rfl, hb22⟩
  have hx0 := hx0.below hb22; have hx1 := hx1.below hb22; have hx2 := hx2.below hb22; have hx3 := hx3.below hb22; have d00 := kept hb22 d00; have d01 := kept hb22 d01; have d10 := kept hb22 d10; have d11 := kept hb22 d11; have d20 := kept hb22 d20; have d21 := kept hb22 d21; have d30 := kept hb22 d30; have d31 := kept hb22 d31; have ht0 := ht0.below hb22; have e00 := kept hb22 e00; have e01 := kept hb22 e01; have ht1 := ht1.below hb22; have e10 := kept hb22 e10; have e11 := kept hb22 e11; have ht2 := ht2.below hb22; have e20 := kept hb22 e20; have e21 := kept hb22 e21; have ht3 := ht3.below hb22; have e30 := kept hb22 e30; have e31 := kept hb22 e31
  go_wp2_with fail
  first | (refine hK _ _ ⟨rfl, ?_⟩; clear hK K) | refine ⟨rfl, ?_⟩
  go_wp2_with fail
  refine region_flow [(false, [(0, 1), (1, 1), (2, 5)]), (false, [(3, 4), (4, 0)])] (by kernel_rfl) ?_
  refine norm_K fun K hK => ?_
  change wpList _ _ _ [_, _, _] _ _
  have hb23 : Below w22.heap.size w22 w22.drew := (by repeat (first | exact Below.refl _ _ | apply blw_drew | apply blw_alloc | (refine blw_set ?_ (by first | omega | (simp; done) | (simp; omega)) _) | refine below_chain ?_ (by assumption)))
  have hx0 := hx0.below hb23; have hx1 := hx1.below hb23; have hx2 := hx2.below hb23; have hx3 := hx3.below hb23; have d00 := kept hb23 d00; have d01 := kept hb23 d01; have d10 := kept hb23 d10; have d11 := kept hb23 d11; have d20 := kept hb23 d20; have d21 := kept hb23 d21; have d30 := kept hb23 d30; have d31 := kept hb23 d31; have ht0 := ht0.below hb23; have e00 := kept hb23 e00; have e01 := kept hb23 e01; have ht1 := ht1.below hb23; have e10 := kept hb23 e10; have e11 := kept hb23 e11; have ht2 := ht2.below hb23; have e20 := kept hb23 e20; have e21 := kept hb23 e21; have ht3 := ht3.below hb23; have e30 := kept hb23 e30; have e31 := kept hb23 e31
  go_wp2_with fail
  refine (toh_c hx1 hl1).mono ?_; rintro e w24 ⟨u1, rfl, hu1, hb24⟩
  have hx0 := hx0.below hb24; have hx1 := hx1.below hb24; have hx2 := hx2.below hb24; have hx3 := hx3.below hb24; have d00 := kept hb24 d00; have d01 := kept hb24 d01; have d10 := kept hb24 d10; have d11 := kept hb24 d11; have d20 := kept hb24 d20; have d21 := kept hb24 d21; have d30 := kept hb24 d30; have d31 := kept hb24 d31; have ht0 := ht0.below hb24; have e00 := kept hb24 e00; have e01 := kept hb24 e01; have ht1 := ht1.below hb24; have e10 := kept hb24 e10; have e11 := kept hb24 e11; have ht2 := ht2.below hb24; have e20 := kept hb24 e20; have e21 := kept hb24 e21; have ht3 := ht3.below hb24; have e30 := kept hb24 e30; have e31 := kept hb24 e31
  go_wp2_with fail
  first | (refine hK _ _ ⟨hb24, ?_⟩; clear hK K) | refine ⟨hb24, ?_⟩
  refine norm_K fun K hK => ?_
  change wpList _ _ _ [_, _] _ _
  go_wp2_with fail
  refine (eqh_c ht1.hv.hr hu1.hv.hr hl1).mono ?_; rintro e w25 ⟨rfl, hb25⟩
  have hx0 := hx0.below hb25; have hx1 := hx1.below hb25; have hx2 := hx2.below hb25; have hx3 := hx3.below hb25; have d00 := kept hb25 d00; have d01 := kept hb25 d01; have d10 := kept hb25 d10; have d11 := kept hb25 d11; have d20 := kept hb25 d20; have d21 := kept hb25 d21; have d30 := kept hb25 d30; have d31 := kept hb25 d31; have ht0 := ht0.below hb25; have e00 := kept hb25 e00; have e01 := kept hb25 e01; have ht1 := ht1.below hb25; have e10 := kept hb25 e10; have e11 := kept hb25 e11; have ht2 := ht2.below hb25; have e20 := kept hb25 e20; have e21 := kept hb25 e21; have ht3 := ht3.below hb25; have e30 := kept hb25 e30; have e31 := kept hb25 e31
  go_wp2_with fail
  first | (refine hK _ _ ⟨rfl, ?_⟩; clear hK K) | refine ⟨rfl, ?_⟩
  go_wp2_with fail
  refine region_flow [(false, [(0, 1), (1, 1), (2, 5)]), (false, [(3, 4), (4, 0)])] (by kernel_rfl) ?_
  refine norm_K fun K hK => ?_
  change wpList _ _ _ [_, _, _] _ _
  have hb26 : Below w25.heap.size w25 w25.drew := (by repeat (first | exact Below.refl _ _ | apply blw_drew | apply blw_alloc | (refine blw_set ?_ (by first | omega | (simp; done) | (simp; omega)) _) | refine below_chain ?_ (by assumption)))
  have hx0 := hx0.below hb26; have hx1 := hx1.below hb26; have hx2 := hx2.below hb26; have hx3 := hx3.below hb26; have d00 := kept hb26 d00; have d01 := kept hb26 d01; have d10 := kept hb26 d10; have d11 := kept hb26 d11; have d20 := kept hb26 d20; have d21 := kept hb26 d21; have d30 := kept hb26 d30; have d31 := kept hb26 d31; have ht0 := ht0.below hb26; have e00 := kept hb26 e00; have e01 := kept hb26 e01; have ht1 := ht1.below hb26; have e10 := kept hb26 e10; have e11 := kept hb26 e11; have ht2 := ht2.below hb26; have e20 := kept hb26 e20; have e21 := kept hb26 e21; have ht3 := ht3.below hb26; have e30 := kept hb26 e30; have e31 := kept hb26 e31
  go_wp2_with fail
  refine (toh_c hx2 hl2).mono ?_; rintro e w27 ⟨u2, rfl, hu2, hb27⟩
  have hx0 := hx0.below hb27; have hx1 := hx1.below hb27; have hx2 := hx2.below hb27; have hx3 := hx3.below hb27; have d00 := kept hb27 d00; have d01 := kept hb27 d01; have d10 := kept hb27 d10; have d11 := kept hb27 d11; have d20 := kept hb27 d20; have d21 := kept hb27 d21; have d30 := kept hb27 d30; have d31 := kept hb27 d31; have ht0 := ht0.below hb27; have e00 := kept hb27 e00; have e01 := kept hb27 e01; have ht1 := ht1.below hb27; have e10 := kept hb27 e10; have e11 := kept hb27 e11; have ht2 := ht2.below hb27; have e20 := kept hb27 e20; have e21 := kept hb27 e21; have ht3 := ht3.below hb27; have e30 := kept hb27 e30; have e31 := kept hb27 e31
  go_wp2_with fail
  first | (refine hK _ _ ⟨hb27, ?_⟩; clear hK K) | refine ⟨hb27, ?_⟩
  refine norm_K fun K hK => ?_
  change wpList _ _ _ [_, _] _ _
  go_wp2_with fail
  refine (eqh_c ht2.hv.hr hu2.hv.hr hl2).mono ?_; rintro e w28 ⟨rfl, hb28⟩
  have hx0 := hx0.below hb28; have hx1 := hx1.below hb28; have hx2 := hx2.below hb28; have hx3 := hx3.below hb28; have d00 := kept hb28 d00; have d01 := kept hb28 d01; have d10 := kept hb28 d10; have d11 := kept hb28 d11; have d20 := kept hb28 d20; have d21 := kept hb28 d21; have d30 := kept hb28 d30; have d31 := kept hb28 d31; have ht0 := ht0.below hb28; have e00 := kept hb28 e00; have e01 := kept hb28 e01; have ht1 := ht1.below hb28; have e10 := kept hb28 e10; have e11 := kept hb28 e11; have ht2 := ht2.below hb28; have e20 := kept hb28 e20; have e21 := kept hb28 e21; have ht3 := ht3.below hb28; have e30 := kept hb28 e30; have e31 := kept hb28 e31
  go_wp2_with fail
  first | (refine hK _ _ ⟨rfl, ?_⟩; clear hK K) | refine ⟨rfl, ?_⟩
  go_wp2_with fail
  refine region_flow [(false, [(0, 1), (1, 1), (2, 5)]), (false, [(3, 4), (4, 0)])] (by kernel_rfl) ?_
  refine norm_K fun K hK => ?_
  change wpList _ _ _ [_, _, _] _ _
  have hb29 : Below w28.heap.size w28 w28.drew := (by repeat (first | exact Below.refl _ _ | apply blw_drew | apply blw_alloc | (refine blw_set ?_ (by first | omega | (simp; done) | (simp; omega)) _) | refine below_chain ?_ (by assumption)))
  have hx0 := hx0.below hb29; have hx1 := hx1.below hb29; have hx2 := hx2.below hb29; have hx3 := hx3.below hb29; have d00 := kept hb29 d00; have d01 := kept hb29 d01; have d10 := kept hb29 d10; have d11 := kept hb29 d11; have d20 := kept hb29 d20; have d21 := kept hb29 d21; have d30 := kept hb29 d30; have d31 := kept hb29 d31; have ht0 := ht0.below hb29; have e00 := kept hb29 e00; have e01 := kept hb29 e01; have ht1 := ht1.below hb29; have e10 := kept hb29 e10; have e11 := kept hb29 e11; have ht2 := ht2.below hb29; have e20 := kept hb29 e20; have e21 := kept hb29 e21; have ht3 := ht3.below hb29; have e30 := kept hb29 e30; have e31 := kept hb29 e31
  go_wp2_with fail
  refine (toh_c hx3 hl3).mono ?_; rintro e w30 ⟨u3, rfl, hu3, hb30⟩
  have hx0 := hx0.below hb30; have hx1 := hx1.below hb30; have hx2 := hx2.below hb30; have hx3 := hx3.below hb30; have d00 := kept hb30 d00; have d01 := kept hb30 d01; have d10 := kept hb30 d10; have d11 := kept hb30 d11; have d20 := kept hb30 d20; have d21 := kept hb30 d21; have d30 := kept hb30 d30; have d31 := kept hb30 d31; have ht0 := ht0.below hb30; have e00 := kept hb30 e00; have e01 := kept hb30 e01; have ht1 := ht1.below hb30; have e10 := kept hb30 e10; have e11 := kept hb30 e11; have ht2 := ht2.below hb30; have e20 := kept hb30 e20; have e21 := kept hb30 e21; have ht3 := ht3.below hb30; have e30 := kept hb30 e30; have e31 := kept hb30 e31
  go_wp2_with fail
  first | (refine hK _ _ ⟨hb30, ?_⟩; clear hK K) | refine ⟨hb30, ?_⟩
  refine norm_K fun K hK => ?_
  change wpList _ _ _ [_, _] _ _
  go_wp2_with fail
  refine (eqh_c ht3.hv.hr hu3.hv.hr hl3).mono ?_; rintro e w31 ⟨rfl, hb31⟩
  have hx0 := hx0.below hb31; have hx1 := hx1.below hb31; have hx2 := hx2.below hb31; have hx3 := hx3.below hb31; have d00 := kept hb31 d00; have d01 := kept hb31 d01; have d10 := kept hb31 d10; have d11 := kept hb31 d11; have d20 := kept hb31 d20; have d21 := kept hb31 d21; have d30 := kept hb31 d30; have d31 := kept hb31 d31; have ht0 := ht0.below hb31; have e00 := kept hb31 e00; have e01 := kept hb31 e01; have ht1 := ht1.below hb31; have e10 := kept hb31 e10; have e11 := kept hb31 e11; have ht2 := ht2.below hb31; have e20 := kept hb31 e20; have e21 := kept hb31 e21; have ht3 := ht3.below hb31; have e30 := kept hb31 e30; have e31 := kept hb31 e31
  go_wp2_with fail
  first | (refine hK _ _ ⟨rfl, ?_⟩; clear hK K) | refine ⟨rfl, ?_⟩
  go_wp2_with fail
  go_ret
  exact ⟨rfl, (by repeat (first | exact Below.refl _ _ | apply blw_drew | apply blw_alloc | (refine blw_set ?_ (by first | omega | (simp; done) | (simp; omega)) _) | refine below_chain ?_ (by assumption)))⟩
end Go.Proofs.YtbllhcceakhhnaaGreat
