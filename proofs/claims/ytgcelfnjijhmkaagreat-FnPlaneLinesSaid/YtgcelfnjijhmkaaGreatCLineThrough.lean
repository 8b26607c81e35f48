/-
  LineThrough: the program's and the reference's.
-/
import Derived.Test.YtgcelfnjijhmkaaGreatHdA
import Derived.Test.YtgcelfnjijhmkaaGreatHcZ
import Derived.Test.YtgcelfnjijhmkaaGreatJbc
import Derived.Test.YtgcelfnjijhmkaaGreatJao
namespace Go.Proofs.YtgcelfnjijhmkaaGreat
open Go.RowKit

def RLineThrough1 (p0 : Int) (st0 : List Int) (X1 : Her) (X2 : Her) : Int := if ptsH p0 st0 [X1, X2] = 0 then (if isZ (numsH (crossH p0 st0 X1 X2)) = true then 5 else 0) else ptsH p0 st0 [X1, X2]
def RLineThrough0 (p0 : Int) (st0 : List Int) (X1 : Her) (X2 : Her) : Her := if RLineThrough1 p0 st0 X1 X2 = 0 then crossH p0 st0 X1 X2 else ⟨[], []⟩
set_option maxHeartbeats 2000000 in
set_option maxRecDepth 100000 in
theorem iLineThrough_c {p0 : Int} {x0 : Value} {st0 : List Int} {x1 : Value} {X1 : Her} {x2 : Value} {X2 : Her} {w : World} (hx0 : El w x0 st0) (hm0 : st0.length ≤ 1048576) (hx1 : Hv w x1 X1) (hz1 : Hsz X1) (hx2 : Hv w x2 X2) (hz2 : Hsz X2) :
    Calls Tryz.prog 23 #[.agg #[.int .i64 p0, x0], x1, x2] w fun e w' => ∃ v0, e = .returned (.tuple #[v0, .int .i64 (RLineThrough1 p0 st0 X1 X2)]) ∧ OwH w' w.heap.size v0 (RLineThrough0 p0 st0 X1 X2) ∧ Below w.heap.size w w' := by
  obtain ⟨a0, c0, rfl, _⟩ := id hx0.op
  obtain ⟨dv1, uv1, rfl, hd1_, hu1_⟩ := id hx1; obtain ⟨a1, c1, rfl, _⟩ := id hd1_.op; obtain ⟨b1, e1, rfl, _⟩ := id hu1_; clear hd1_ hu1_
  obtain ⟨dv2, uv2, rfl, hd2_, hu2_⟩ := id hx2; obtain ⟨a2, c2, rfl, _⟩ := id hd2_.op; obtain ⟨b2, e2, rfl, _⟩ := id hu2_; clear hd2_ hu2_
  obtain ⟨W, hW⟩ : ∃ W, W = (((((w.alloc (.cells #[.int .i64 p0, .slice a0 st0.length c0] 26)).alloc (.cells #[.slice a1 X1.dg.length c1, .slice b1 X1.up.length e1] 31)).alloc (.cells #[.slice a2 X2.dg.length c2, .slice b2 X2.up.length e2] 31)).alloc (.cells #[.slice none 0 0, .slice none 0 0] 31)).alloc (.cells #[.slice a1 X1.dg.length c1, .slice b1 X1.up.length e1, .slice a2 X2.dg.length c2, .slice b2 X2.up.length e2] 31)) := ⟨_, rfl⟩
  have hbW : Below w.heap.size w W := by rw [hW]; exact (by repeat (first | exact Below.refl _ _ | apply blw_drew | apply blw_alloc | (refine blw_set ?_ (by first | omega | simp <;> omega) _) | refine below_chain ?_ (by assumption)))
  have hx0 := hx0.below hbW
  have hx1 := hx1.below hbW
  have hx2 := hx2.below hbW
  have d00 : W.cell? ⟨w.heap.size, 0, none⟩ = some (.int .i64 p0) := by rw [hW]; simp [go_sem]
  have d01 : W.cell? ⟨w.heap.size, 1, none⟩ = some (.slice a0 st0.length c0) := by rw [hW]; simp [go_sem]
  have d10 : W.cell? ⟨w.heap.size + 1, 0, none⟩ = some (.slice a1 X1.dg.length c1) := by rw [hW]; simp [go_sem]
  have d11 : W.cell? ⟨w.heap.size + 1, 1, none⟩ = some (.slice b1 X1.up.length e1) := by rw [hW]; simp [go_sem]
  have d20 : W.cell? ⟨w.heap.size + 1 + 1, 0, none⟩ = some (.slice a2 X2.dg.length c2) := by rw [hW]; simp [go_sem]
  have d21 : W.cell? ⟨w.heap.size + 1 + 1, 1, none⟩ = some (.slice b2 X2.up.length e2) := by rw [hW]; simp [go_sem]
  have hr : Bx W (w.heap.size + 1 + 1 + 1) (.slice none 0 0) (.slice none 0 0) := by rw [hW]; exact Bx.below (by unfold Bx; rw [show w.heap.size + 1 + 1 + 1 = (((w.alloc (.cells #[.int .i64 p0, .slice a0 st0.length c0] 26)).alloc (.cells #[.slice a1 X1.dg.length c1, .slice b1 X1.up.length e1] 31)).alloc (.cells #[.slice a2 X2.dg.length c2, .slice b2 X2.up.length e2] 31)).heap.size by simp]; exact heap_alloc_new _ _) (by repeat (first | exact Below.refl _ _ | apply blw_drew | apply blw_alloc | (refine blw_set ?_ (by first | omega | simp <;> omega) _) | refine below_chain ?_ (by assumption)))
  have hWs : W.heap.size = w.heap.size + 1 + 1 + 1 + 1 + 1 := by rw [hW]; simp
  have gl : Lh W (.slice (some ⟨w.heap.size + 1 + 1 + 1 + 1, 0, none⟩) 2 2) [X1, X2] := Lh.two hx1 (by rw [hW]; simp [go_sem]) (by rw [hW]; simp [go_sem]) hx2 (by rw [hW]; simp [go_sem]) (by rw [hW]; simp [go_sem])
  have hcon := chkp_c (p := p0) hx0 hm0 gl (by intro X hX; simp at hX; rcases hX with rfl | rfl <;> assumption) (by simp)
  have HWs := Lib.hid hWs; clear hWs
  rw [hW] at hcon
  by_cases h0 : ptsH p0 st0 [X1, X2] = 0
  · rw [h0] at hcon
    obtain ⟨⟨hd, hall⟩, hpt⟩ := ptsH_pos h0
    have HPT := Lib.hid hpt; clear hpt
    have hX1 : isH p0 (sz st0.length) X1 = true := by simp at hall; exact hall.1
    have hX2 : isH p0 (sz st0.length) X2 = true := by simp at hall; exact hall.2
    clear hall
    have hp1 := hd.hp.lo; have hp2 := hd.hp.hi; have hsz := sz_le hd
    have hC := crossH_is (p := p0) (by omega) hX1 hX2
    have l1 := nums_lt hC hsz.2
    cases h2 : isZ (numsH (crossH p0 st0 X1 X2))
    · skip
      have e1 : RLineThrough1 p0 st0 X1 X2 = 0 := by unfold RLineThrough1; rw [if_pos h0, if_neg (by rw [h2]; decide)]
      rw [show RLineThrough0 p0 st0 X1 X2 = crossH p0 st0 X1 X2 from if_pos e1, e1]
      clear e1
      go_enter Tryz.func23, Tryz.ntmps23
      go_wp2_with fail
      refine hcon.mono ?_; rintro e w1 ⟨rfl, hb1⟩
      rw [← hW] at hb1
      clear hW hcon
      have hx0 := hx0.below hb1; have hx1 := hx1.below hb1; have hx2 := hx2.below hb1; have d00 := kept hb1 d00; have d01 := kept hb1 d01; have d10 := kept hb1 d10; have d11 := kept hb1 d11; have d20 := kept hb1 d20; have d21 := kept hb1 d21; have hr := hr.below hb1
      go_wp2_with fail
      refine (cross_c hd hx0 hx1 hX1 hx2 hX2).mono ?_; rintro e w22 ⟨v1, rfl, h1, hb22⟩
      have hx0 := hx0.below hb22; have hx1 := hx1.below hb22; have hx2 := hx2.below hb22; have d00 := kept hb22 d00; have d01 := kept hb22 d01; have d10 := kept hb22 d10; have d11 := kept hb22 d11; have d20 := kept hb22 d20; have d21 := kept hb22 d21; have hr := hr.below hb22
      obtain ⟨d1_, u1_, us1, rfl, ⟨g1, k1_, rfl, q1⟩, hu1, hne1⟩ := id h1; obtain ⟨g2, k2_, rfl, hq_⟩ := id hu1; clear hq_ q1
      have hul : us1.length = 3 := by obtain ⟨_, _, _, _, h, _⟩ := hu1; exact h
      have HU := Lib.hid hul; clear hul
      have hzA : w1.heap.size ≤ w22.heap.size := (below_le (by repeat (first | exact Below.refl _ _ | apply blw_drew | apply blw_alloc | (refine blw_set ?_ (by first | omega | simp <;> omega) _) | refine below_chain ?_ (by assumption))))
      go_wp2_with fail
      have hb23 : Below w22.heap.size w22 (w22.alloc (.cells #[.slice (some ⟨g1, 0, none⟩) (crossH p0 st0 X1 X2).dg.length k1_, .slice (some ⟨g2, 0, none⟩) us1.length k2_] 31)) := (by repeat (first | exact Below.refl _ _ | apply blw_drew | apply blw_alloc | (refine blw_set ?_ (by first | omega | simp <;> omega) _) | refine below_chain ?_ (by assumption)))
      have hx0 := hx0.below hb23; have hx1 := hx1.below hb23; have hx2 := hx2.below hb23; have d00 := kept hb23 d00; have d01 := kept hb23 d01; have d10 := kept hb23 d10; have d11 := kept hb23 d11; have d20 := kept hb23 d20; have d21 := kept hb23 d21; have hr := hr.below hb23; have h1 := h1.below hb23
      have hN : Bx ((w22.alloc (.cells #[.slice (some ⟨g1, 0, none⟩) (crossH p0 st0 X1 X2).dg.length k1_, .slice (some ⟨g2, 0, none⟩) us1.length k2_] 31))) w22.heap.size _ _ := heap_alloc_new w22 _
      have n0 := hN.c0; have n1 := hN.c1
      go_wp2_with fail
      refine (nums_c h1.hv hC hsz.1 hsz.2).mono ?_; rintro e w24 ⟨v2, rfl, h2_, hb24⟩
      have hx0 := hx0.below hb24; have hx1 := hx1.below hb24; have hx2 := hx2.below hb24; have d00 := kept hb24 d00; have d01 := kept hb24 d01; have d10 := kept hb24 d10; have d11 := kept hb24 d11; have d20 := kept hb24 d20; have d21 := kept hb24 d21; have hr := hr.below hb24; have h1 := h1.below hb24; have n0 := kept hb24 n0; have n1 := kept hb24 n1
      go_wp2_with fail
      refine (iszero_c h2_.sl (by omega)).mono ?_; rintro e w25 ⟨rfl, rfl⟩
      have hu3 : (crossH p0 st0 X1 X2).up.length = 3 := (isH_parts (crossH_is (p := p0) (by omega) hX1 hX2)).2.2.1
      have hu4 : (crossH p0 st0 X1 X2).dg.length = 3 := (isH_parts (crossH_is (p := p0) (by omega) hX1 hX2)).1
      have hz1_ : w.heap.size + 1 + 1 + 1 + 1 + 1 ≤ w1.heap.size := by have := hb1.size; have := HWs.out; omega
      have rc0 := hr.c0; have rc1 := hr.c1; have rf0 := hr.f0; have rf1 := hr.f1
      go_wp2_with fail
      refine bodyPost_ret (v := .tuple #[.agg #[.slice (some ⟨g1, 0, none⟩) (crossH p0 st0 X1 X2).dg.length k1_, .slice (some ⟨g2, 0, none⟩) us1.length k2_], .int .i64 0]) (by simp [results, Tryz.results23, go_sem, rc0, rc1, HU.out, hu3, hu4]) rfl ⟨_, rfl, .inr ?_, ?_⟩
      · exact ((h1.set_ (by first | omega | simp <;> omega) _).set_ (by first | omega | simp <;> omega) _).more (by omega)
      · exact blw_set (blw_set (by repeat (first | exact Below.refl _ _ | apply blw_drew | apply blw_alloc | (refine blw_set ?_ (by first | omega | simp <;> omega) _) | refine below_chain ?_ (by assumption))) (by first | omega | simp <;> omega) _) (by first | omega | simp <;> omega) _
    · skip
      have e1 : RLineThrough1 p0 st0 X1 X2 = 5 := by unfold RLineThrough1; rw [if_pos h0, if_pos h2]
      rw [show RLineThrough0 p0 st0 X1 X2 = ⟨[], []⟩ from if_neg (by rw [e1]; decide), e1]
      clear e1
      go_enter Tryz.func23, Tryz.ntmps23
      go_wp2_with fail
      refine hcon.mono ?_; rintro e w1 ⟨rfl, hb1⟩
      rw [← hW] at hb1
      clear hW hcon
      have hx0 := hx0.below hb1; have hx1 := hx1.below hb1; have hx2 := hx2.below hb1; have d00 := kept hb1 d00; have d01 := kept hb1 d01; have d10 := kept hb1 d10; have d11 := kept hb1 d11; have d20 := kept hb1 d20; have d21 := kept hb1 d21; have hr := hr.below hb1
      go_wp2_with fail
      refine (cross_c hd hx0 hx1 hX1 hx2 hX2).mono ?_; rintro e w22 ⟨v1, rfl, h1, hb22⟩
      have hx0 := hx0.below hb22; have hx1 := hx1.below hb22; have hx2 := hx2.below hb22; have d00 := kept hb22 d00; have d01 := kept hb22 d01; have d10 := kept hb22 d10; have d11 := kept hb22 d11; have d20 := kept hb22 d20; have d21 := kept hb22 d21; have hr := hr.below hb22
      obtain ⟨d1_, u1_, us1, rfl, ⟨g1, k1_, rfl, q1⟩, hu1, hne1⟩ := id h1; obtain ⟨g2, k2_, rfl, hq_⟩ := id hu1; clear hq_ q1
      have hul : us1.length = 3 := by obtain ⟨_, _, _, _, h, _⟩ := hu1; exact h
      have HU := Lib.hid hul; clear hul
      have hzA : w1.heap.size ≤ w22.heap.size := (below_le (by repeat (first | exact Below.refl _ _ | apply blw_drew | apply blw_alloc | (refine blw_set ?_ (by first | omega | simp <;> omega) _) | refine below_chain ?_ (by assumption))))
      go_wp2_with fail
      have hb23 : Below w22.heap.size w22 (w22.alloc (.cells #[.slice (some ⟨g1, 0, none⟩) (crossH p0 st0 X1 X2).dg.length k1_, .slice (some ⟨g2, 0, none⟩) us1.length k2_] 31)) := (by repeat (first | exact Below.refl _ _ | apply blw_drew | apply blw_alloc | (refine blw_set ?_ (by first | omega | simp <;> omega) _) | refine below_chain ?_ (by assumption)))
      have hx0 := hx0.below hb23; have hx1 := hx1.below hb23; have hx2 := hx2.below hb23; have d00 := kept hb23 d00; have d01 := kept hb23 d01; have d10 := kept hb23 d10; have d11 := kept hb23 d11; have d20 := kept hb23 d20; have d21 := kept hb23 d21; have hr := hr.below hb23; have h1 := h1.below hb23
      have hN : Bx ((w22.alloc (.cells #[.slice (some ⟨g1, 0, none⟩) (crossH p0 st0 X1 X2).dg.length k1_, .slice (some ⟨g2, 0, none⟩) us1.length k2_] 31))) w22.heap.size _ _ := heap_alloc_new w22 _
      have n0 := hN.c0; have n1 := hN.c1
      go_wp2_with fail
      refine (nums_c h1.hv hC hsz.1 hsz.2).mono ?_; rintro e w24 ⟨v2, rfl, h2_, hb24⟩
      have hx0 := hx0.below hb24; have hx1 := hx1.below hb24; have hx2 := hx2.below hb24; have d00 := kept hb24 d00; have d01 := kept hb24 d01; have d10 := kept hb24 d10; have d11 := kept hb24 d11; have d20 := kept hb24 d20; have d21 := kept hb24 d21; have hr := hr.below hb24; have h1 := h1.below hb24; have n0 := kept hb24 n0; have n1 := kept hb24 n1
      go_wp2_with fail
      refine (iszero_c h2_.sl (by omega)).mono ?_; rintro e w25 ⟨rfl, rfl⟩
      have rc0 := hr.c0; have rc1 := hr.c1; have rf0 := hr.f0; have rf1 := hr.f1
      go_wp2_with fail
      refine bodyPost_ret (v := .tuple #[.agg #[.slice none 0 0, .slice none 0 0], .int .i64 5]) (by simp [results, Tryz.results23, go_sem, rc0, rc1]) rfl ⟨_, rfl, .inl ⟨rfl, rfl⟩, ?_⟩
      exact blw_set (blw_set (by repeat (first | exact Below.refl _ _ | apply blw_drew | apply blw_alloc | (refine blw_set ?_ (by first | omega | simp <;> omega) _) | refine below_chain ?_ (by assumption))) (by first | omega | simp <;> omega) _) (by first | omega | simp <;> omega) _
  · have e1 : RLineThrough1 p0 st0 X1 X2 = ptsH p0 st0 [X1, X2] := by unfold RLineThrough1; rw [if_neg h0]
    rw [show RLineThrough0 p0 st0 X1 X2 = ⟨[], []⟩ from if_neg (by rw [e1]; exact h0), e1]; clear e1
    obtain ⟨k, hk⟩ : ∃ k, k = ptsH p0 st0 [X1, X2] := ⟨_, rfl⟩
    rw [← hk] at h0 hcon ⊢
    clear hk
    have hne : (k == 0) = false := by simpa using h0
    go_enter Tryz.func23, Tryz.ntmps23
    go_wp2_with fail
    refine hcon.mono ?_; rintro e w1 ⟨rfl, hb1⟩
    rw [← hW] at hb1
    clear hW hcon
    have hr := hr.below hb1
    have rc0 := hr.c0; have rc1 := hr.c1; have rf0 := hr.f0; have rf1 := hr.f1
    go_wp2_with fail
    refine bodyPost_ret (v := .tuple #[.agg #[.slice none 0 0, .slice none 0 0], .int .i64 k]) (by simp [results, Tryz.results23, go_sem, rc0, rc1]) rfl ⟨_, rfl, .inl ⟨rfl, rfl⟩, ?_⟩
    exact blw_set (blw_set (by repeat (first | exact Below.refl _ _ | apply blw_drew | apply blw_alloc | (refine blw_set ?_ (by first | omega | simp <;> omega) _) | refine below_chain ?_ (by assumption))) (by first | omega | simp <;> omega) _) (by first | omega | simp <;> omega) _
set_option maxHeartbeats 2000000 in
set_option maxRecDepth 100000 in
theorem sLineThrough_c {p0 : Int} {x0 : Value} {st0 : List Int} {x1 : Value} {X1 : Her} {x2 : Value} {X2 : Her} {w : World} (hx0 : El w x0 st0) (hm0 : st0.length ≤ 1048576) (hx1 : Hv w x1 X1) (hz1 : Hsz X1) (hx2 : Hv w x2 X2) (hz2 : Hsz X2) :
    Calls Tryz.prog 24 #[.agg #[.int .i64 p0, x0], x1, x2] w fun e w' => ∃ v0, e = .returned (.tuple #[v0, .int .i64 (RLineThrough1 p0 st0 X1 X2)]) ∧ OwH w' w.heap.size v0 (RLineThrough0 p0 st0 X1 X2) ∧ Below w.heap.size w w' := by
  obtain ⟨a0, c0, rfl, _⟩ := id hx0.op
  obtain ⟨dv1, uv1, rfl, hd1_, hu1_⟩ := id hx1; obtain ⟨a1, c1, rfl, _⟩ := id hd1_.op; obtain ⟨b1, e1, rfl, _⟩ := id hu1_; clear hd1_ hu1_
  obtain ⟨dv2, uv2, rfl, hd2_, hu2_⟩ := id hx2; obtain ⟨a2, c2, rfl, _⟩ := id hd2_.op; obtain ⟨b2, e2, rfl, _⟩ := id hu2_; clear hd2_ hu2_
  obtain ⟨W, hW⟩ : ∃ W, W = (((((w.alloc (.cells #[.int .i64 p0, .slice a0 st0.length c0] 26)).alloc (.cells #[.slice a1 X1.dg.length c1, .slice b1 X1.up.length e1] 31)).alloc (.cells #[.slice a2 X2.dg.length c2, .slice b2 X2.up.length e2] 31)).alloc (.cells #[.slice none 0 0, .slice none 0 0] 31)).alloc (.cells #[.slice a1 X1.dg.length c1, .slice b1 X1.up.length e1, .slice a2 X2.dg.length c2, .slice b2 X2.up.length e2] 31)) := ⟨_, rfl⟩
  have hbW : Below w.heap.size w W := by rw [hW]; exact (by repeat (first | exact Below.refl _ _ | apply blw_drew | apply blw_alloc | (refine blw_set ?_ (by first | omega | simp <;> omega) _) | refine below_chain ?_ (by assumption)))
  have hx0 := hx0.below hbW
  have hx1 := hx1.below hbW
  have hx2 := hx2.below hbW
  have d00 : W.cell? ⟨w.heap.size, 0, none⟩ = some (.int .i64 p0) := by rw [hW]; simp [go_sem]
  have d01 : W.cell? ⟨w.heap.size, 1, none⟩ = some (.slice a0 st0.length c0) := by rw [hW]; simp [go_sem]
  have d10 : W.cell? ⟨w.heap.size + 1, 0, none⟩ = some (.slice a1 X1.dg.length c1) := by rw [hW]; simp [go_sem]
  have d11 : W.cell? ⟨w.heap.size + 1, 1, none⟩ = some (.slice b1 X1.up.length e1) := by rw [hW]; simp [go_sem]
  have d20 : W.cell? ⟨w.heap.size + 1 + 1, 0, none⟩ = some (.slice a2 X2.dg.length c2) := by rw [hW]; simp [go_sem]
  have d21 : W.cell? ⟨w.heap.size + 1 + 1, 1, none⟩ = some (.slice b2 X2.up.length e2) := by rw [hW]; simp [go_sem]
  have hr : Bx W (w.heap.size + 1 + 1 + 1) (.slice none 0 0) (.slice none 0 0) := by rw [hW]; exact Bx.below (by unfold Bx; rw [show w.heap.size + 1 + 1 + 1 = (((w.alloc (.cells #[.int .i64 p0, .slice a0 st0.length c0] 26)).alloc (.cells #[.slice a1 X1.dg.length c1, .slice b1 X1.up.length e1] 31)).alloc (.cells #[.slice a2 X2.dg.length c2, .slice b2 X2.up.length e2] 31)).heap.size by simp]; exact heap_alloc_new _ _) (by repeat (first | exact Below.refl _ _ | apply blw_drew | apply blw_alloc | (refine blw_set ?_ (by first | omega | simp <;> omega) _) | refine below_chain ?_ (by assumption)))
  have hWs : W.heap.size = w.heap.size + 1 + 1 + 1 + 1 + 1 := by rw [hW]; simp
  have gl : Lh W (.slice (some ⟨w.heap.size + 1 + 1 + 1 + 1, 0, none⟩) 2 2) [X1, X2] := Lh.two hx1 (by rw [hW]; simp [go_sem]) (by rw [hW]; simp [go_sem]) hx2 (by rw [hW]; simp [go_sem]) (by rw [hW]; simp [go_sem])
  have hcon := sl17p_c (p := p0) hx0 hm0 gl (by intro X hX; simp at hX; rcases hX with rfl | rfl <;> assumption) (by simp)
  have HWs := Lib.hid hWs; clear hWs
  rw [hW] at hcon
  by_cases h0 : ptsH p0 st0 [X1, X2] = 0
  · rw [h0] at hcon
    obtain ⟨⟨hd, hall⟩, hpt⟩ := ptsH_pos h0
    have HPT := Lib.hid hpt; clear hpt
    have hX1 : isH p0 (sz st0.length) X1 = true := by simp at hall; exact hall.1
    have hX2 : isH p0 (sz st0.length) X2 = true := by simp at hall; exact hall.2
    clear hall
    have hp1 := hd.hp.lo; have hp2 := hd.hp.hi; have hsz := sz_le hd
    have hC := crossH_is (p := p0) (by omega) hX1 hX2
    have l1 := nums_lt hC hsz.2
    cases h2 : isZ (numsH (crossH p0 st0 X1 X2))
    · skip
      have e1 : RLineThrough1 p0 st0 X1 X2 = 0 := by unfold RLineThrough1; rw [if_pos h0, if_neg (by rw [h2]; decide)]
      rw [show RLineThrough0 p0 st0 X1 X2 = crossH p0 st0 X1 X2 from if_pos e1, e1]
      clear e1
      go_enter Tryz.func24, Tryz.ntmps24
      go_wp2_with fail
      refine hcon.mono ?_; rintro e w1 ⟨rfl, hb1⟩
      rw [← hW] at hb1
      clear hW hcon
      have hx0 := hx0.below hb1; have hx1 := hx1.below hb1; have hx2 := hx2.below hb1; have d00 := kept hb1 d00; have d01 := kept hb1 d01; have d10 := kept hb1 d10; have d11 := kept hb1 d11; have d20 := kept hb1 d20; have d21 := kept hb1 d21; have hr := hr.below hb1
      go_wp2_with fail
      refine (scross_c hd hx0 hx1 hX1 hx2 hX2).mono ?_; rintro e w22 ⟨v1, rfl, h1, hb22⟩
      have hx0 := hx0.below hb22; have hx1 := hx1.below hb22; have hx2 := hx2.below hb22; have d00 := kept hb22 d00; have d01 := kept hb22 d01; have d10 := kept hb22 d10; have d11 := kept hb22 d11; have d20 := kept hb22 d20; have d21 := kept hb22 d21; have hr := hr.below hb22
      obtain ⟨d1_, u1_, us1, rfl, ⟨g1, k1_, rfl, q1⟩, hu1, hne1⟩ := id h1; obtain ⟨g2, k2_, rfl, hq_⟩ := id hu1; clear hq_ q1
      have hul : us1.length = 3 := by obtain ⟨_, _, _, _, h, _⟩ := hu1; exact h
      have HU := Lib.hid hul; clear hul
      have hzA : w1.heap.size ≤ w22.heap.size := (below_le (by repeat (first | exact Below.refl _ _ | apply blw_drew | apply blw_alloc | (refine blw_set ?_ (by first | omega | simp <;> omega) _) | refine below_chain ?_ (by assumption))))
      go_wp2_with fail
      have hb23 : Below w22.heap.size w22 (w22.alloc (.cells #[.slice (some ⟨g1, 0, none⟩) (crossH p0 st0 X1 X2).dg.length k1_, .slice (some ⟨g2, 0, none⟩) us1.length k2_] 31)) := (by repeat (first | exact Below.refl _ _ | apply blw_drew | apply blw_alloc | (refine blw_set ?_ (by first | omega | simp <;> omega) _) | refine below_chain ?_ (by assumption)))
      have hx0 := hx0.below hb23; have hx1 := hx1.below hb23; have hx2 := hx2.below hb23; have d00 := kept hb23 d00; have d01 := kept hb23 d01; have d10 := kept hb23 d10; have d11 := kept hb23 d11; have d20 := kept hb23 d20; have d21 := kept hb23 d21; have hr := hr.below hb23; have h1 := h1.below hb23
      have hN : Bx ((w22.alloc (.cells #[.slice (some ⟨g1, 0, none⟩) (crossH p0 st0 X1 X2).dg.length k1_, .slice (some ⟨g2, 0, none⟩) us1.length k2_] 31))) w22.heap.size _ _ := heap_alloc_new w22 _
      have n0 := hN.c0; have n1 := hN.c1
      go_wp2_with fail
      refine (szero_c h1.hv hC hsz.2).mono ?_; rintro e w24 ⟨rfl, hb24⟩
      have hx0 := hx0.below hb24; have hx1 := hx1.below hb24; have hx2 := hx2.below hb24; have d00 := kept hb24 d00; have d01 := kept hb24 d01; have d10 := kept hb24 d10; have d11 := kept hb24 d11; have d20 := kept hb24 d20; have d21 := kept hb24 d21; have hr := hr.below hb24; have h1 := h1.below hb24; have n0 := kept hb24 n0; have n1 := kept hb24 n1
      have hu3 : (crossH p0 st0 X1 X2).up.length = 3 := (isH_parts (crossH_is (p := p0) (by omega) hX1 hX2)).2.2.1
      have hu4 : (crossH p0 st0 X1 X2).dg.length = 3 := (isH_parts (crossH_is (p := p0) (by omega) hX1 hX2)).1
      have hz1_ : w.heap.size + 1 + 1 + 1 + 1 + 1 ≤ w1.heap.size := by have := hb1.size; have := HWs.out; omega
      have rc0 := hr.c0; have rc1 := hr.c1; have rf0 := hr.f0; have rf1 := hr.f1
      go_wp2_with fail
      refine bodyPost_ret (v := .tuple #[.agg #[.slice (some ⟨g1, 0, none⟩) (crossH p0 st0 X1 X2).dg.length k1_, .slice (some ⟨g2, 0, none⟩) us1.length k2_], .int .i64 0]) (by simp [results, Tryz.results24, go_sem, rc0, rc1, HU.out, hu3, hu4]) rfl ⟨_, rfl, .inr ?_, ?_⟩
      · exact ((h1.set_ (by first | omega | simp <;> omega) _).set_ (by first | omega | simp <;> omega) _).more (by omega)
      · exact blw_set (blw_set (by repeat (first | exact Below.refl _ _ | apply blw_drew | apply blw_alloc | (refine blw_set ?_ (by first | omega | simp <;> omega) _) | refine below_chain ?_ (by assumption))) (by first | omega | simp <;> omega) _) (by first | omega | simp <;> omega) _
    · skip
      have e1 : RLineThrough1 p0 st0 X1 X2 = 5 := by unfold RLineThrough1; rw [if_pos h0, if_pos h2]
      rw [show RLineThrough0 p0 st0 X1 X2 = ⟨[], []⟩ from if_neg (by rw [e1]; decide), e1]
      clear e1
      go_enter Tryz.func24, Tryz.ntmps24
      go_wp2_with fail
      refine hcon.mono ?_; rintro e w1 ⟨rfl, hb1⟩
      rw [← hW] at hb1
      clear hW hcon
      have hx0 := hx0.below hb1; have hx1 := hx1.below hb1; have hx2 := hx2.below hb1; have d00 := kept hb1 d00; have d01 := kept hb1 d01; have d10 := kept hb1 d10; have d11 := kept hb1 d11; have d20 := kept hb1 d20; have d21 := kept hb1 d21; have hr := hr.below hb1
      go_wp2_with fail
      refine (scross_c hd hx0 hx1 hX1 hx2 hX2).mono ?_; rintro e w22 ⟨v1, rfl, h1, hb22⟩
      have hx0 := hx0.below hb22; have hx1 := hx1.below hb22; have hx2 := hx2.below hb22; have d00 := kept hb22 d00; have d01 := kept hb22 d01; have d10 := kept hb22 d10; have d11 := kept hb22 d11; have d20 := kept hb22 d20; have d21 := kept hb22 d21; have hr := hr.below hb22
      obtain ⟨d1_, u1_, us1, rfl, ⟨g1, k1_, rfl, q1⟩, hu1, hne1⟩ := id h1; obtain ⟨g2, k2_, rfl, hq_⟩ := id hu1; clear hq_ q1
      have hul : us1.length = 3 := by obtain ⟨_, _, _, _, h, _⟩ := hu1; exact h
      have HU := Lib.hid hul; clear hul
      have hzA : w1.heap.size ≤ w22.heap.size := (below_le (by repeat (first | exact Below.refl _ _ | apply blw_drew | apply blw_alloc | (refine blw_set ?_ (by first | omega | simp <;> omega) _) | refine below_chain ?_ (by assumption))))
      go_wp2_with fail
      have hb23 : Below w22.heap.size w22 (w22.alloc (.cells #[.slice (some ⟨g1, 0, none⟩) (crossH p0 st0 X1 X2).dg.length k1_, .slice (some ⟨g2, 0, none⟩) us1.length k2_] 31)) := (by repeat (first | exact Below.refl _ _ | apply blw_drew | apply blw_alloc | (refine blw_set ?_ (by first | omega | simp <;> omega) _) | refine below_chain ?_ (by assumption)))
      have hx0 := hx0.below hb23; have hx1 := hx1.below hb23; have hx2 := hx2.below hb23; have d00 := kept hb23 d00; have d01 := kept hb23 d01; have d10 := kept hb23 d10; have d11 := kept hb23 d11; have d20 := kept hb23 d20; have d21 := kept hb23 d21; have hr := hr.below hb23; have h1 := h1.below hb23
      have hN : Bx ((w22.alloc (.cells #[.slice (some ⟨g1, 0, none⟩) (crossH p0 st0 X1 X2).dg.length k1_, .slice (some ⟨g2, 0, none⟩) us1.length k2_] 31))) w22.heap.size _ _ := heap_alloc_new w22 _
      have n0 := hN.c0; have n1 := hN.c1
      go_wp2_with fail
      refine (szero_c h1.hv hC hsz.2).mono ?_; rintro e w24 ⟨rfl, hb24⟩
      have hx0 := hx0.below hb24; have hx1 := hx1.below hb24; have hx2 := hx2.below hb24; have d00 := kept hb24 d00; have d01 := kept hb24 d01; have d10 := kept hb24 d10; have d11 := kept hb24 d11; have d20 := kept hb24 d20; have d21 := kept hb24 d21; have hr := hr.below hb24; have h1 := h1.below hb24; have n0 := kept hb24 n0; have n1 := kept hb24 n1
      have rc0 := hr.c0; have rc1 := hr.c1; have rf0 := hr.f0; have rf1 := hr.f1
      go_wp2_with fail
      refine bodyPost_ret (v := .tuple #[.agg #[.slice none 0 0, .slice none 0 0], .int .i64 5]) (by simp [results, Tryz.results24, go_sem, rc0, rc1]) rfl ⟨_, rfl, .inl ⟨rfl, rfl⟩, ?_⟩
      exact blw_set (blw_set (by repeat (first | exact Below.refl _ _ | apply blw_drew | apply blw_alloc | (refine blw_set ?_ (by first | omega | simp <;> omega) _) | refine below_chain ?_ (by assumption))) (by first | omega | simp <;> omega) _) (by first | omega | simp <;> omega) _
  · have e1 : RLineThrough1 p0 st0 X1 X2 = ptsH p0 st0 [X1, X2] := by unfold RLineThrough1; rw [if_neg h0]
    rw [show RLineThrough0 p0 st0 X1 X2 = ⟨[], []⟩ from if_neg (by rw [e1]; exact h0), e1]; clear e1
    obtain ⟨k, hk⟩ : ∃ k, k = ptsH p0 st0 [X1, X2] := ⟨_, rfl⟩
    rw [← hk] at h0 hcon ⊢
    clear hk
    have hne : (k == 0) = false := by simpa using h0
    go_enter Tryz.func24, Tryz.ntmps24
    go_wp2_with fail
    refine hcon.mono ?_; rintro e w1 ⟨rfl, hb1⟩
    rw [← hW] at hb1
    clear hW hcon
    have hr := hr.below hb1
    have rc0 := hr.c0; have rc1 := hr.c1; have rf0 := hr.f0; have rf1 := hr.f1
    go_wp2_with fail
    refine bodyPost_ret (v := .tuple #[.agg #[.slice none 0 0, .slice none 0 0], .int .i64 k]) (by simp [results, Tryz.results24, go_sem, rc0, rc1]) rfl ⟨_, rfl, .inl ⟨rfl, rfl⟩, ?_⟩
    exact blw_set (blw_set (by repeat (first | exact Below.refl _ _ | apply blw_drew | apply blw_alloc | (refine blw_set ?_ (by first | omega | simp <;> omega) _) | refine below_chain ?_ (by assumption))) (by first | omega | simp <;> omega) _) (by first | omega | simp <;> omega) _
end Go.Proofs.YtgcelfnjijhmkaaGreat
