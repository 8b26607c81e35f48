/- Texts joined for a claim: LAreCollinear, FlowP. -/
import Derived.Test.YtgcelfnjijhmkaaGreatJbp
import Derived.Test.YtgcelfnjijhmkaaGreatHcZ
import Derived.Test.YtgcelfnjijhmkaaGreatJbc
import Derived.Test.YtgcelfnjijhmkaaGreatFlow
/-
  Collinearity: the program's and the reference's, and the law.
-/
namespace Go.Proofs.YtgcelfnjijhmkaaGreat
open Go.RowKit

def RAreCollinear1 (p0 : Int) (st0 : List Int) (X1 : Her) (X2 : Her) (X3 : Her) : Int := ptsH p0 st0 [X1, X2, X3]
def RAreCollinear0 (p0 : Int) (st0 : List Int) (X1 : Her) (X2 : Her) (X3 : Her) : Bool := if RAreCollinear1 p0 st0 X1 X2 X3 = 0 then (pairH p0 st0 (crossH p0 st0 X1 X2) X3 == 0) else false
set_option maxHeartbeats 2000000 in
set_option maxRecDepth 100000 in
theorem iAreCollinear_c {p0 : Int} {x0 : Value} {st0 : List Int} {x1 : Value} {X1 : Her} {x2 : Value} {X2 : Her} {x3 : Value} {X3 : Her} {w : World} (hx0 : El w x0 st0) (hm0 : st0.length ≤ 1048576) (hx1 : Hv w x1 X1) (hz1 : Hsz X1) (hx2 : Hv w x2 X2) (hz2 : Hsz X2) (hx3 : Hv w x3 X3) (hz3 : Hsz X3) :
    Calls Tryz.prog 27 #[.agg #[.int .i64 p0, x0], x1, x2, x3] w fun e w' => e = .returned (.tuple #[.bool (RAreCollinear0 p0 st0 X1 X2 X3), .int .i64 (RAreCollinear1 p0 st0 X1 X2 X3)]) ∧ Below w.heap.size w w' := by
  obtain ⟨a0, c0, rfl, _⟩ := id hx0.op
  obtain ⟨dv1, uv1, rfl, hd1_, hu1_⟩ := id hx1; obtain ⟨a1, c1, rfl, _⟩ := id hd1_.op; obtain ⟨b1, e1, rfl, _⟩ := id hu1_; clear hd1_ hu1_
  obtain ⟨dv2, uv2, rfl, hd2_, hu2_⟩ := id hx2; obtain ⟨a2, c2, rfl, _⟩ := id hd2_.op; obtain ⟨b2, e2, rfl, _⟩ := id hu2_; clear hd2_ hu2_
  obtain ⟨dv3, uv3, rfl, hd3_, hu3_⟩ := id hx3; obtain ⟨a3, c3, rfl, _⟩ := id hd3_.op; obtain ⟨b3, e3, rfl, _⟩ := id hu3_; clear hd3_ hu3_
  obtain ⟨W, hW⟩ : ∃ W, W = (((((w.alloc (.cells #[.int .i64 p0, .slice a0 st0.length c0] 26)).alloc (.cells #[.slice a1 X1.dg.length c1, .slice b1 X1.up.length e1] 31)).alloc (.cells #[.slice a2 X2.dg.length c2, .slice b2 X2.up.length e2] 31)).alloc (.cells #[.slice a3 X3.dg.length c3, .slice b3 X3.up.length e3] 31)).alloc (.cells #[.slice a1 X1.dg.length c1, .slice b1 X1.up.length e1, .slice a2 X2.dg.length c2, .slice b2 X2.up.length e2, .slice a3 X3.dg.length c3, .slice b3 X3.up.length e3] 31)) := ⟨_, rfl⟩
  have hbW : Below w.heap.size w W := by rw [hW]; exact (by repeat (first | exact Below.refl _ _ | apply blw_drew | apply blw_alloc | (refine blw_set ?_ (by first | omega | simp <;> omega) _) | refine below_chain ?_ (by assumption)))
  have hx0 := hx0.below hbW
  have hx1 := hx1.below hbW
  have hx2 := hx2.below hbW
  have hx3 := hx3.below hbW
  have d00 : W.cell? ⟨w.heap.size, 0, none⟩ = some (.int .i64 p0) := by rw [hW]; simp [go_sem]
  have d01 : W.cell? ⟨w.heap.size, 1, none⟩ = some (.slice a0 st0.length c0) := by rw [hW]; simp [go_sem]
  have d10 : W.cell? ⟨w.heap.size + 1, 0, none⟩ = some (.slice a1 X1.dg.length c1) := by rw [hW]; simp [go_sem]
  have d11 : W.cell? ⟨w.heap.size + 1, 1, none⟩ = some (.slice b1 X1.up.length e1) := by rw [hW]; simp [go_sem]
  have d20 : W.cell? ⟨w.heap.size + 1 + 1, 0, none⟩ = some (.slice a2 X2.dg.length c2) := by rw [hW]; simp [go_sem]
  have d21 : W.cell? ⟨w.heap.size + 1 + 1, 1, none⟩ = some (.slice b2 X2.up.length e2) := by rw [hW]; simp [go_sem]
  have d30 : W.cell? ⟨w.heap.size + 1 + 1 + 1, 0, none⟩ = some (.slice a3 X3.dg.length c3) := by rw [hW]; simp [go_sem]
  have d31 : W.cell? ⟨w.heap.size + 1 + 1 + 1, 1, none⟩ = some (.slice b3 X3.up.length e3) := by rw [hW]; simp [go_sem]
  have hWs : W.heap.size = w.heap.size + 1 + 1 + 1 + 1 + 1 := by rw [hW]; simp
  have gl : Lh W (.slice (some ⟨w.heap.size + 1 + 1 + 1 + 1, 0, none⟩) 3 3) [X1, X2, X3] := Lh.three hx1 (by rw [hW]; simp [go_sem]) (by rw [hW]; simp [go_sem]) hx2 (by rw [hW]; simp [go_sem]) (by rw [hW]; simp [go_sem]) hx3 (by rw [hW]; simp [go_sem]) (by rw [hW]; simp [go_sem])
  have hcon := chkp_c (p := p0) hx0 hm0 gl (by intro X hX; simp at hX; rcases hX with rfl | rfl | rfl <;> assumption) (by simp)
  have HWs := Lib.hid hWs; clear hWs
  rw [hW] at hcon
  by_cases h0 : ptsH p0 st0 [X1, X2, X3] = 0
  · rw [h0] at hcon
    obtain ⟨⟨hd, hall⟩, hpt⟩ := ptsH_pos h0
    have HPT := Lib.hid hpt; clear hpt
    have hX1 : isH p0 (sz st0.length) X1 = true := by simp at hall; exact hall.1
    have hX2 : isH p0 (sz st0.length) X2 = true := by simp at hall; exact hall.2.1
    have hX3 : isH p0 (sz st0.length) X3 = true := by simp at hall; exact hall.2.2
    clear hall
    have e1 : RAreCollinear1 p0 st0 X1 X2 X3 = 0 := h0
    rw [show RAreCollinear0 p0 st0 X1 X2 X3 = (pairH p0 st0 (crossH p0 st0 X1 X2) X3 == 0) from if_pos e1, e1]
    clear e1
    go_enter Tryz.func27, Tryz.ntmps27
    go_wp2_with fail
    refine hcon.mono ?_; rintro e w1 ⟨rfl, hb1⟩
    rw [← hW] at hb1
    clear hW hcon
    have hx0 := hx0.below hb1; have hx1 := hx1.below hb1; have hx2 := hx2.below hb1; have hx3 := hx3.below hb1; have d00 := kept hb1 d00; have d01 := kept hb1 d01; have d10 := kept hb1 d10; have d11 := kept hb1 d11; have d20 := kept hb1 d20; have d21 := kept hb1 d21; have d30 := kept hb1 d30; have d31 := kept hb1 d31
    have hp1 := hd.hp.lo; have hp2 := hd.hp.hi
    have hC := crossH_is (p := p0) (by omega) hX1 hX2
    go_wp2_with fail
    refine region_flow [(false, [(0, 1), (1, 1), (2, 1), (3, 1), (5, 1), (4, 5)]), (false, [(6, 4), (7, 0), (8, 0), (9, 0)])] (by kernel_rfl) ?_
    refine norm_K fun K hK => ?_
    change wpList _ _ _ [_, _, _, _, _, _] _ _
    have hb22 : Below w1.heap.size w1 w1.drew := (by repeat (first | exact Below.refl _ _ | apply blw_drew | apply blw_alloc | (refine blw_set ?_ (by first | omega | simp <;> omega) _) | refine below_chain ?_ (by assumption)))
    have hx0 := hx0.below hb22; have hx1 := hx1.below hb22; have hx2 := hx2.below hb22; have hx3 := hx3.below hb22; have d00 := kept hb22 d00; have d01 := kept hb22 d01; have d10 := kept hb22 d10; have d11 := kept hb22 d11; have d20 := kept hb22 d20; have d21 := kept hb22 d21; have d30 := kept hb22 d30; have d31 := kept hb22 d31
    go_wp2_with fail
    refine (cross_c hd hx0 hx1 hX1 hx2 hX2).mono ?_; rintro e w23 ⟨v1, rfl, h1, hb23⟩
    have hx0 := hx0.below hb23; have hx1 := hx1.below hb23; have hx2 := hx2.below hb23; have hx3 := hx3.below hb23; have d00 := kept hb23 d00; have d01 := kept hb23 d01; have d10 := kept hb23 d10; have d11 := kept hb23 d11; have d20 := kept hb23 d20; have d21 := kept hb23 d21; have d30 := kept hb23 d30; have d31 := kept hb23 d31
    go_wp2_with fail
    have hz0 : Below w1.drew.heap.size w1.drew w23 := (by repeat (first | exact Below.refl _ _ | apply blw_drew | apply blw_alloc | (refine blw_set ?_ (by first | omega | simp <;> omega) _) | refine below_chain ?_ (by assumption)))
    first | (refine hK _ _ ⟨hz0, ?_⟩; clear hK K) | refine ⟨hz0, ?_⟩
    clear hz0
    refine norm_K fun K hK => ?_
    change wpList _ _ _ [_, _, _, _] _ _
    go_wp2_with fail
    refine (pairing_c hd hx0 h1.hv hC hx3 hX3).mono ?_; rintro e w24 ⟨rfl, hb24⟩
    have hx0 := hx0.below hb24; have hx1 := hx1.below hb24; have hx2 := hx2.below hb24; have hx3 := hx3.below hb24; have d00 := kept hb24 d00; have d01 := kept hb24 d01; have d10 := kept hb24 d10; have d11 := kept hb24 d11; have d20 := kept hb24 d20; have d21 := kept hb24 d21; have d30 := kept hb24 d30; have d31 := kept hb24 d31; have h1 := h1.below hb24
    go_wp2_with fail
    first | (refine hK _ _ ⟨rfl, ?_⟩; clear hK K) | refine ⟨rfl, ?_⟩
    go_wp2_with fail
    go_ret2
    exact ⟨rfl, (by repeat (first | exact Below.refl _ _ | apply blw_drew | apply blw_alloc | (refine blw_set ?_ (by first | omega | simp <;> omega) _) | refine below_chain ?_ (by assumption)))⟩
  · have e1 : RAreCollinear1 p0 st0 X1 X2 X3 = ptsH p0 st0 [X1, X2, X3] := rfl
    rw [show RAreCollinear0 p0 st0 X1 X2 X3 = false from if_neg (by rw [e1]; exact h0), e1]; clear e1
    obtain ⟨k, hk⟩ : ∃ k, k = ptsH p0 st0 [X1, X2, X3] := ⟨_, rfl⟩
    rw [← hk] at h0 hcon ⊢
    clear hk
    have hne : (k == 0) = false := by simpa using h0
    go_enter Tryz.func27, Tryz.ntmps27
    go_wp2_with fail
    refine hcon.mono ?_; rintro e w1 ⟨rfl, hb1⟩
    rw [← hW] at hb1
    clear hW hcon
    go_wp2_with fail
    go_ret2
    exact ⟨rfl, (by repeat (first | exact Below.refl _ _ | apply blw_drew | apply blw_alloc | (refine blw_set ?_ (by first | omega | simp <;> omega) _) | refine below_chain ?_ (by assumption)))⟩
set_option maxHeartbeats 2000000 in
set_option maxRecDepth 100000 in
theorem sAreCollinear_c {p0 : Int} {x0 : Value} {st0 : List Int} {x1 : Value} {X1 : Her} {x2 : Value} {X2 : Her} {x3 : Value} {X3 : Her} {w : World} (hx0 : El w x0 st0) (hm0 : st0.length ≤ 1048576) (hx1 : Hv w x1 X1) (hz1 : Hsz X1) (hx2 : Hv w x2 X2) (hz2 : Hsz X2) (hx3 : Hv w x3 X3) (hz3 : Hsz X3) :
    Calls Tryz.prog 28 #[.agg #[.int .i64 p0, x0], x1, x2, x3] w fun e w' => e = .returned (.tuple #[.bool (RAreCollinear0 p0 st0 X1 X2 X3), .int .i64 (RAreCollinear1 p0 st0 X1 X2 X3)]) ∧ Below w.heap.size w w' := by
  obtain ⟨a0, c0, rfl, _⟩ := id hx0.op
  obtain ⟨dv1, uv1, rfl, hd1_, hu1_⟩ := id hx1; obtain ⟨a1, c1, rfl, _⟩ := id hd1_.op; obtain ⟨b1, e1, rfl, _⟩ := id hu1_; clear hd1_ hu1_
  obtain ⟨dv2, uv2, rfl, hd2_, hu2_⟩ := id hx2; obtain ⟨a2, c2, rfl, _⟩ := id hd2_.op; obtain ⟨b2, e2, rfl, _⟩ := id hu2_; clear hd2_ hu2_
  obtain ⟨dv3, uv3, rfl, hd3_, hu3_⟩ := id hx3; obtain ⟨a3, c3, rfl, _⟩ := id hd3_.op; obtain ⟨b3, e3, rfl, _⟩ := id hu3_; clear hd3_ hu3_
  obtain ⟨W, hW⟩ : ∃ W, W = (((((w.alloc (.cells #[.int .i64 p0, .slice a0 st0.length c0] 26)).alloc (.cells #[.slice a1 X1.dg.length c1, .slice b1 X1.up.length e1] 31)).alloc (.cells #[.slice a2 X2.dg.length c2, .slice b2 X2.up.length e2] 31)).alloc (.cells #[.slice a3 X3.dg.length c3, .slice b3 X3.up.length e3] 31)).alloc (.cells #[.slice a1 X1.dg.length c1, .slice b1 X1.up.length e1, .slice a2 X2.dg.length c2, .slice b2 X2.up.length e2, .slice a3 X3.dg.length c3, .slice b3 X3.up.length e3] 31)) := ⟨_, rfl⟩
  have hbW : Below w.heap.size w W := by rw [hW]; exact (by repeat (first | exact Below.refl _ _ | apply blw_drew | apply blw_alloc | (refine blw_set ?_ (by first | omega | simp <;> omega) _) | refine below_chain ?_ (by assumption)))
  have hx0 := hx0.below hbW
  have hx1 := hx1.below hbW
  have hx2 := hx2.below hbW
  have hx3 := hx3.below hbW
  have d00 : W.cell? ⟨w.heap.size, 0, none⟩ = some (.int .i64 p0) := by rw [hW]; simp [go_sem]
  have d01 : W.cell? ⟨w.heap.size, 1, none⟩ = some (.slice a0 st0.length c0) := by rw [hW]; simp [go_sem]
  have d10 : W.cell? ⟨w.heap.size + 1, 0, none⟩ = some (.slice a1 X1.dg.length c1) := by rw [hW]; simp [go_sem]
  have d11 : W.cell? ⟨w.heap.size + 1, 1, none⟩ = some (.slice b1 X1.up.length e1) := by rw [hW]; simp [go_sem]
  have d20 : W.cell? ⟨w.heap.size + 1 + 1, 0, none⟩ = some (.slice a2 X2.dg.length c2) := by rw [hW]; simp [go_sem]
  have d21 : W.cell? ⟨w.heap.size + 1 + 1, 1, none⟩ = some (.slice b2 X2.up.length e2) := by rw [hW]; simp [go_sem]
  have d30 : W.cell? ⟨w.heap.size + 1 + 1 + 1, 0, none⟩ = some (.slice a3 X3.dg.length c3) := by rw [hW]; simp [go_sem]
  have d31 : W.cell? ⟨w.heap.size + 1 + 1 + 1, 1, none⟩ = some (.slice b3 X3.up.length e3) := by rw [hW]; simp [go_sem]
  have hWs : W.heap.size = w.heap.size + 1 + 1 + 1 + 1 + 1 := by rw [hW]; simp
  have gl : Lh W (.slice (some ⟨w.heap.size + 1 + 1 + 1 + 1, 0, none⟩) 3 3) [X1, X2, X3] := Lh.three hx1 (by rw [hW]; simp [go_sem]) (by rw [hW]; simp [go_sem]) hx2 (by rw [hW]; simp [go_sem]) (by rw [hW]; simp [go_sem]) hx3 (by rw [hW]; simp [go_sem]) (by rw [hW]; simp [go_sem])
  have hcon := sl17p_c (p := p0) hx0 hm0 gl (by intro X hX; simp at hX; rcases hX with rfl | rfl | rfl <;> assumption) (by simp)
  have HWs := Lib.hid hWs; clear hWs
  rw [hW] at hcon
  by_cases h0 : ptsH p0 st0 [X1, X2, X3] = 0
  · rw [h0] at hcon
    obtain ⟨⟨hd, hall⟩, hpt⟩ := ptsH_pos h0
    have HPT := Lib.hid hpt; clear hpt
    have hX1 : isH p0 (sz st0.length) X1 = true := by simp at hall; exact hall.1
    have hX2 : isH p0 (sz st0.length) X2 = true := by simp at hall; exact hall.2.1
    have hX3 : isH p0 (sz st0.length) X3 = true := by simp at hall; exact hall.2.2
    clear hall
    have e1 : RAreCollinear1 p0 st0 X1 X2 X3 = 0 := h0
    rw [show RAreCollinear0 p0 st0 X1 X2 X3 = (pairH p0 st0 (crossH p0 st0 X1 X2) X3 == 0) from if_pos e1, e1]
    clear e1
    go_enter Tryz.func28, Tryz.ntmps28
    go_wp2_with fail
    refine hcon.mono ?_; rintro e w1 ⟨rfl, hb1⟩
    rw [← hW] at hb1
    clear hW hcon
    have hx0 := hx0.below hb1; have hx1 := hx1.below hb1; have hx2 := hx2.below hb1; have hx3 := hx3.below hb1; have d00 := kept hb1 d00; have d01 := kept hb1 d01; have d10 := kept hb1 d10; have d11 := kept hb1 d11; have d20 := kept hb1 d20; have d21 := kept hb1 d21; have d30 := kept hb1 d30; have d31 := kept hb1 d31
    have hp1 := hd.hp.lo; have hp2 := hd.hp.hi
    have hC := crossH_is (p := p0) (by omega) hX1 hX2
    go_wp2_with fail
    refine region_flow [(false, [(0, 0), (1, 1), (2, 1), (3, 1), (4, 1), (5, 1), (7, 1), (6, 5)]), (false, [(8, 5)]), (false, [(9, 4), (10, 0), (11, 0), (12, 0)])] (by kernel_rfl) ?_
    refine norm_K fun K hK => ?_
    change wpList _ _ _ [_, _, _, _, _, _, _, _] _ _
    have hb22 : Below w1.heap.size w1 w1.drew := (by repeat (first | exact Below.refl _ _ | apply blw_drew | apply blw_alloc | (refine blw_set ?_ (by first | omega | simp <;> omega) _) | refine below_chain ?_ (by assumption)))
    have hx0 := hx0.below hb22; have hx1 := hx1.below hb22; have hx2 := hx2.below hb22; have hx3 := hx3.below hb22; have d00 := kept hb22 d00; have d01 := kept hb22 d01; have d10 := kept hb22 d10; have d11 := kept hb22 d11; have d20 := kept hb22 d20; have d21 := kept hb22 d21; have d30 := kept hb22 d30; have d31 := kept hb22 d31
    have hJ := jordanH_is (p := p0) (by omega) hC hX3
    go_wp2_with fail
    refine (scross_c hd hx0 hx1 hX1 hx2 hX2).mono ?_; rintro e w23 ⟨v1, rfl, h1, hb23⟩
    have hx0 := hx0.below hb23; have hx1 := hx1.below hb23; have hx2 := hx2.below hb23; have hx3 := hx3.below hb23; have d00 := kept hb23 d00; have d01 := kept hb23 d01; have d10 := kept hb23 d10; have d11 := kept hb23 d11; have d20 := kept hb23 d20; have d21 := kept hb23 d21; have d30 := kept hb23 d30; have d31 := kept hb23 d31
    go_wp2_with fail
    have hz0 : Below w1.drew.heap.size w1.drew w23 := (by repeat (first | exact Below.refl _ _ | apply blw_drew | apply blw_alloc | (refine blw_set ?_ (by first | omega | simp <;> omega) _) | refine below_chain ?_ (by assumption)))
    first | (refine hK _ _ ⟨hz0, ?_⟩; clear hK K) | refine ⟨hz0, ?_⟩
    clear hz0
    refine norm_K fun K hK => ?_
    change wpList _ _ _ [_] _ _
    go_wp2_with fail
    refine (stimes16_c hd hx0 h1.hv hC hx3 hX3).mono ?_; rintro e w24 ⟨v2, rfl, h2, hb24⟩
    have hx0 := hx0.below hb24; have hx1 := hx1.below hb24; have hx2 := hx2.below hb24; have hx3 := hx3.below hb24; have d00 := kept hb24 d00; have d01 := kept hb24 d01; have d10 := kept hb24 d10; have d11 := kept hb24 d11; have d20 := kept hb24 d20; have d21 := kept hb24 d21; have d30 := kept hb24 d30; have d31 := kept hb24 d31; have h1 := h1.below hb24
    go_wp2_with fail
    have hz1 : Below w1.drew.heap.size w1.drew w24 := (by repeat (first | exact Below.refl _ _ | apply blw_drew | apply blw_alloc | (refine blw_set ?_ (by first | omega | simp <;> omega) _) | refine below_chain ?_ (by assumption)))
    first | (refine hK _ _ ⟨hz1, ?_⟩; clear hK K) | refine ⟨hz1, ?_⟩
    clear hz1
    refine norm_K fun K hK => ?_
    change wpList _ _ _ [_, _, _, _] _ _
    go_wp2_with fail
    refine (strace_c hd.hp h2.hv hJ).mono ?_; rintro e w25 ⟨rfl, hb25⟩
    have hx0 := hx0.below hb25; have hx1 := hx1.below hb25; have hx2 := hx2.below hb25; have hx3 := hx3.below hb25; have d00 := kept hb25 d00; have d01 := kept hb25 d01; have d10 := kept hb25 d10; have d11 := kept hb25 d11; have d20 := kept hb25 d20; have d21 := kept hb25 d21; have d30 := kept hb25 d30; have d31 := kept hb25 d31; have h1 := h1.below hb25; have h2 := h2.below hb25
    go_wp2_with fail
    first | (refine hK _ _ ⟨rfl, ?_⟩; clear hK K) | refine ⟨rfl, ?_⟩
    go_wp2_with fail
    go_ret2
    exact ⟨rfl, (by repeat (first | exact Below.refl _ _ | apply blw_drew | apply blw_alloc | (refine blw_set ?_ (by first | omega | simp <;> omega) _) | refine below_chain ?_ (by assumption)))⟩
  · have e1 : RAreCollinear1 p0 st0 X1 X2 X3 = ptsH p0 st0 [X1, X2, X3] := rfl
    rw [show RAreCollinear0 p0 st0 X1 X2 X3 = false from if_neg (by rw [e1]; exact h0), e1]; clear e1
    obtain ⟨k, hk⟩ : ∃ k, k = ptsH p0 st0 [X1, X2, X3] := ⟨_, rfl⟩
    rw [← hk] at h0 hcon ⊢
    clear hk
    have hne : (k == 0) = false := by simpa using h0
    go_enter Tryz.func28, Tryz.ntmps28
    go_wp2_with fail
    refine hcon.mono ?_; rintro e w1 ⟨rfl, hb1⟩
    rw [← hW] at hb1
    clear hW hcon
    go_wp2_with fail
    go_ret2
    exact ⟨rfl, (by repeat (first | exact Below.refl _ _ | apply blw_drew | apply blw_alloc | (refine blw_set ?_ (by first | omega | simp <;> omega) _) | refine below_chain ?_ (by assumption)))⟩

end Go.Proofs.YtgcelfnjijhmkaaGreat
/-
  Regions that draw their order, with many operations: that an operation waits for a load is shown by a path, not by a search. Plain lemmas over any program.
-/
namespace Go.Proofs.YtgcelfnjijhmkaaGreat
open Go.RowKit

section
variable {P : Program} {ops : Array Oper}
end
end Go.Proofs.YtgcelfnjijhmkaaGreat
