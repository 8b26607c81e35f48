/-
  CoordinatesOf: the program's and the reference's.
-/
import Derived.Test.YtgcelfnjijhmkaaGreatHdA
import Derived.Test.YtgcelfnjijhmkaaGreatJbb
import Derived.Test.YtgcelfnjijhmkaaGreatJan
namespace Go.Proofs.YtgcelfnjijhmkaaGreat
open Go.RowKit

def RCoordinatesOf2 (p0 : Int) (st0 : List Int) (X1 : Her) : Int := if ptsH p0 st0 [X1] = 0 then (if X1.d 2 = 0 then 5 else 0) else ptsH p0 st0 [X1]
def RCoordinatesOf0 (p0 : Int) (st0 : List Int) (X1 : Her) : List Int := if RCoordinatesOf2 p0 st0 X1 = 0 then conjL p0 ((multH p0 X1 (invL p0 (X1.d 2))).r 1) else []
def RCoordinatesOf1 (p0 : Int) (st0 : List Int) (X1 : Her) : List Int := if RCoordinatesOf2 p0 st0 X1 = 0 then (multH p0 X1 (invL p0 (X1.d 2))).r 0 else []
set_option maxHeartbeats 2000000 in
set_option maxRecDepth 100000 in
theorem iCoordinatesOf_c {p0 : Int} {x0 : Value} {st0 : List Int} {x1 : Value} {X1 : Her} {w : World} (hx0 : El w x0 st0) (hm0 : st0.length ≤ 1048576) (hx1 : Hv w x1 X1) (hz1 : Hsz X1) :
    Calls Tryz.prog 10 #[.agg #[.int .i64 p0, x0], x1] w fun e w' => ∃ v0, ∃ v1, e = .returned (.tuple #[v0, v1, .int .i64 (RCoordinatesOf2 p0 st0 X1)]) ∧ OwI w' w.heap.size v0 (RCoordinatesOf0 p0 st0 X1) ∧ OwI w' w.heap.size v1 (RCoordinatesOf1 p0 st0 X1) ∧ Apt v0 v1 ∧ Below w.heap.size w w' := by
  obtain ⟨a0, c0, rfl, _⟩ := id hx0.op
  obtain ⟨dv1, uv1, rfl, hd1_, hu1_⟩ := id hx1; obtain ⟨a1, c1, rfl, _⟩ := id hd1_.op; obtain ⟨b1, e1, rfl, _⟩ := id hu1_; clear hd1_ hu1_
  obtain ⟨W, hW⟩ : ∃ W, W = (((w.alloc (.cells #[.int .i64 p0, .slice a0 st0.length c0] 26)).alloc (.cells #[.slice a1 X1.dg.length c1, .slice b1 X1.up.length e1] 31)).alloc (.cells #[.slice a1 X1.dg.length c1, .slice b1 X1.up.length e1] 31)) := ⟨_, rfl⟩
  have hbW : Below w.heap.size w W := by rw [hW]; exact (by repeat (first | exact .refl _ _ | apply bwD | apply bwA | (refine bwS ?_ (by first | omega | simp <;> omega) _) | refine bwC ?_ (by assumption)))
  have hx0 := hx0.below hbW
  have hx1 := hx1.below hbW
  have d00 : W.cell? ⟨w.heap.size, 0, none⟩ = some (.int .i64 p0) := by rw [hW]; simp [go_sem]
  have d01 : W.cell? ⟨w.heap.size, 1, none⟩ = some (.slice a0 st0.length c0) := by rw [hW]; simp [go_sem]
  have d10 : W.cell? ⟨w.heap.size + 1, 0, none⟩ = some (.slice a1 X1.dg.length c1) := by rw [hW]; simp [go_sem]
  have d11 : W.cell? ⟨w.heap.size + 1, 1, none⟩ = some (.slice b1 X1.up.length e1) := by rw [hW]; simp [go_sem]
  have hWs : W.heap.size = w.heap.size + 1 + 1 + 1 := by rw [hW]; simp
  have gl : Lh W (.slice (some ⟨w.heap.size + 1 + 1, 0, none⟩) 1 1) [X1] := Lh.one hx1 (by rw [hW]; simp [go_sem]) (by rw [hW]; simp [go_sem])
  have hcon := chkp_c (p := p0) hx0 hm0 gl (by intro X hX; simp at hX; subst hX; exact hz1) (by simp)
  have HWs := Lib.hid hWs; clear hWs
  rw [hW] at hcon
  by_cases h0 : ptsH p0 st0 [X1] = 0
  · rw [h0] at hcon
    obtain ⟨⟨hd, hall⟩, hpt⟩ := ptsH_pos h0
    have HPT := Lib.hid hpt; clear hpt
    have hX1 : isH p0 (sz st0.length) X1 = true := by simp at hall; exact hall
    clear hall
    have hp1 := hd.hp.lo; have hp2 := hd.hp.hi; have hsz := sz_le hd
    have hbx : Bx W (w.heap.size + 1) (.slice a1 X1.dg.length c1) (.slice b1 X1.up.length e1) := by rw [hW]; exact Bx.below (by unfold Bx; rw [show w.heap.size + 1 = (w.alloc (.cells #[.int .i64 p0, .slice a0 st0.length c0] 26)).heap.size by simp]; exact heap_alloc_new _ _) (by repeat (first | exact .refl _ _ | apply bwD | apply bwA | (refine bwS ?_ (by first | omega | simp <;> omega) _) | refine bwC ?_ (by assumption)))
    by_cases h2 : X1.d 2 = 0
    · skip
      have e1 : RCoordinatesOf2 p0 st0 X1 = 5 := by unfold RCoordinatesOf2; rw [if_pos h0, if_pos h2]
      rw [show RCoordinatesOf0 p0 st0 X1 = [] from if_neg (by rw [e1]; decide), show RCoordinatesOf1 p0 st0 X1 = [] from if_neg (by rw [e1]; decide), e1]
      clear e1
      obtain ⟨a1_, b1_, c1_, u1_, v1_, t1_, bd1, od1, cd1, bu1, ou1, cu1, r1_, s1_, q1_, rfl, e_, ba1, bb1, bc1_, eu1, ev1, et1, ca1, cb1, cc1, cr1, cs1, cq1, er1, es1, eq1, kd1, ku1⟩ := Hv.op3 hx1 hX1
      cases e_
      change c1_ = 0 at h2
      clear kd1 ku1
      go_enter Tryz.func10, Tryz.ntmps10
      go_wp2_with fail
      refine hcon.mono ?_; rintro e w1 ⟨rfl, hb1⟩
      rw [← hW] at hb1
      clear hW hcon
      have hx0 := hx0.below hb1; have hx1 := hx1.below hb1; have d00 := kept hb1 d00; have d01 := kept hb1 d01; have d10 := kept hb1 d10; have d11 := kept hb1 d11; have ca1 := kept hb1 ca1; have cb1 := kept hb1 cb1; have cc1 := kept hb1 cc1; have cr1 := kept hb1 cr1; have cs1 := kept hb1 cs1; have cq1 := kept hb1 cq1; have er1 := er1.below hb1; have es1 := es1.below hb1; have eq1 := eq1.below hb1
      skip
      go_wp2_with fail
      go_ret3
      exact ⟨_, _, rfl, .inl ⟨rfl, rfl⟩, .inl ⟨rfl, rfl⟩, .inl rfl, (by repeat (first | exact .refl _ _ | apply bwD | apply bwA | (refine bwS ?_ (by first | omega | simp <;> omega) _) | refine bwC ?_ (by assumption)))⟩
    · skip
      have e1 : RCoordinatesOf2 p0 st0 X1 = 0 := by unfold RCoordinatesOf2; rw [if_pos h0, if_neg h2]
      rw [show RCoordinatesOf0 p0 st0 X1 = conjL p0 ((multH p0 X1 (invL p0 (X1.d 2))).r 1) from if_pos e1, show RCoordinatesOf1 p0 st0 X1 = (multH p0 X1 (invL p0 (X1.d 2))).r 0 from if_pos e1, e1]
      clear e1
      obtain ⟨Z, hZ_⟩ : ∃ Z, Z = (multH p0 X1 (invL p0 (X1.d 2))) := ⟨_, rfl⟩
      rw [← hZ_]
      obtain ⟨a1_, b1_, c1_, u1_, v1_, t1_, bd1, od1, cd1, bu1, ou1, cu1, r1_, s1_, q1_, rfl, e_, ba1, bb1, bc1_, eu1, ev1, et1, ca1, cb1, cc1, cr1, cs1, cq1, er1, es1, eq1, kd1, ku1⟩ := Hv.op3 hx1 hX1
      cases e_
      change ¬ c1_ = 0 at h2
      change Z = multH p0 ⟨[a1_, b1_, c1_], [u1_, v1_, t1_]⟩ (invL p0 c1_) at hZ_
      have hZ : isH p0 (sz st0.length) Z = true := by rw [hZ_]; exact multH_is (by omega) hX1
      have HZ := Lib.hid hZ_; clear hZ_
      have hL := invL_fp (p := p0) (a := c1_) (by omega)
      have hne_ : (c1_ == 0) = false := by simpa using h2
      clear kd1 ku1
      go_enter Tryz.func10, Tryz.ntmps10
      go_wp2_with fail
      refine hcon.mono ?_; rintro e w1 ⟨rfl, hb1⟩
      rw [← hW] at hb1
      clear hW hcon
      have hx0 := hx0.below hb1; have hx1 := hx1.below hb1; have d00 := kept hb1 d00; have d01 := kept hb1 d01; have d10 := kept hb1 d10; have d11 := kept hb1 d11; have ca1 := kept hb1 ca1; have cb1 := kept hb1 cb1; have cc1 := kept hb1 cc1; have cr1 := kept hb1 cr1; have cs1 := kept hb1 cs1; have cq1 := kept hb1 cq1; have er1 := er1.below hb1; have es1 := es1.below hb1; have eq1 := eq1.below hb1
      go_upto_region 6 with fail
      go_cut [8] (fun s_ wx => ∃ N d u, s_ = .pointer (some ⟨N, 0, none⟩) ∧ w1.heap.size ≤ N ∧ Bx wx N d u ∧ FrH wx w1.heap.size (.agg #[d, u]) (Z) ∧ Below w1.heap.size w1 wx)
      case first =>
        refine region_tq [(0, 1), (1, 1), (2, 1), (4, 0), (5, 1), (6, 0), (7, 1)] (.two 3 5 (.two 8 5 (.two 9 5 (.lin [(false, [(10, 5)]), (false, [(11, 4)])]) 10 5 (.lin [(false, [(9, 4), (11, 4)])])) 10 5 (.lin [(false, [(8, 5)]), (false, [(9, 4), (11, 4)])])) 10 5 (.lin [(false, [(3, 5)]), (false, [(8, 5)]), (false, [(9, 4), (11, 4)])])) (by kernel_rfl) ?_
        refine norm_K fun K hK => ?_
        change wpList _ _ _ [_, _, _, _, _, _, _] _ _
        go_wp2_with fail
        have hbq : Below w1.heap.size w1 w1.drew := (by repeat (first | exact .refl _ _ | apply bwD | apply bwA | (refine bwS ?_ (by first | omega | simp <;> omega) _) | refine bwC ?_ (by assumption)))
        have hx0 := hx0.below hbq; have hx1 := hx1.below hbq; have d00 := kept hbq d00; have d01 := kept hbq d01; have d10 := kept hbq d10; have d11 := kept hbq d11; have ca1 := kept hbq ca1; have cb1 := kept hbq cb1; have cc1 := kept hbq cc1; have cr1 := kept hbq cr1; have cs1 := kept hbq cs1; have cq1 := kept hbq cq1; have er1 := er1.below hbq; have es1 := es1.below hbq; have eq1 := eq1.below hbq
        have szq : w1.heap.size = w1.drew.heap.size := rfl
        generalize w1.drew = wq at *
        refine hK _ _ ?_; clear hK K
        refine ⟨?_, ?_⟩
        · skip
          refine norm_K fun K hK => ?_
          change wpList _ _ _ [_] _ _
          go_wp2_with fail
          refine (dfield_c).mono ?_; rintro e w41 ⟨rfl, hb41⟩
          have hx0 := hx0.below hb41; have hx1 := hx1.below hb41; have d00 := kept hb41 d00; have d01 := kept hb41 d01; have d10 := kept hb41 d10; have d11 := kept hb41 d11; have ca1 := kept hb41 ca1; have cb1 := kept hb41 cb1; have cc1 := kept hb41 cc1; have cr1 := kept hb41 cr1; have cs1 := kept hb41 cs1; have cq1 := kept hb41 cq1; have er1 := er1.below hb41; have es1 := es1.below hb41; have eq1 := eq1.below hb41
          have sz41 : wq.heap.size ≤ w41.heap.size := hb41.size
          go_wp2_with fail
          first | (refine hK _ _ ⟨(by repeat (first | exact .refl _ _ | apply bwD | apply bwA | (refine bwS ?_ (by first | omega | simp <;> omega) _) | refine bwC ?_ (by assumption))), ?_⟩; clear hK K) | refine ⟨(by repeat (first | exact .refl _ _ | apply bwD | apply bwA | (refine bwS ?_ (by first | omega | simp <;> omega) _) | refine bwC ?_ (by assumption))), ?_⟩
          refine ⟨?_, ?_⟩
          · skip
            refine norm_K fun K hK => ?_
            change wpList _ _ _ [_] _ _
            go_wp2_with fail
            refine (inv_c (p := p0) (a := c1_) (by omega) (by omega) (by omega) (by omega)).mono ?_; rintro e w42 ⟨rfl, rfl⟩
            go_wp2_with fail
            first | (refine hK _ _ ⟨(by repeat (first | exact .refl _ _ | apply bwD | apply bwA | (refine bwS ?_ (by first | omega | simp <;> omega) _) | refine bwC ?_ (by assumption))), ?_⟩; clear hK K) | refine ⟨(by repeat (first | exact .refl _ _ | apply bwD | apply bwA | (refine bwS ?_ (by first | omega | simp <;> omega) _) | refine bwC ?_ (by assumption))), ?_⟩
            refine ⟨?_, ?_⟩
            · skip
              refine norm_K fun K hK => ?_
              change wpList _ _ _ [_] _ _
              go_wp2_with fail
              refine (mult_c (k := invL p0 c1_) hd hx0 hx1 hX1 (by omega) (by omega)).mono ?_; rintro e w43 ⟨v3, rfl, h3, hb43⟩
              have hx0 := hx0.below hb43; have hx1 := hx1.below hb43; have d00 := kept hb43 d00; have d01 := kept hb43 d01; have d10 := kept hb43 d10; have d11 := kept hb43 d11; have ca1 := kept hb43 ca1; have cb1 := kept hb43 cb1; have cc1 := kept hb43 cc1; have cr1 := kept hb43 cr1; have cs1 := kept hb43 cs1; have cq1 := kept hb43 cq1; have er1 := er1.below hb43; have es1 := es1.below hb43; have eq1 := eq1.below hb43
              have sz43 : w41.heap.size ≤ w43.heap.size := hb43.size
              rw [← HZ.out] at h3
              obtain ⟨dq, uq, usq, rfl, ⟨g2, k2_, rfl, q2⟩, hu2_, hne2⟩ := id h3; obtain ⟨g3, k3_, rfl, hq3_⟩ := id hu2_; clear hq3_ hu2_ q2
              go_wp2_with fail
              first | (refine hK _ _ ⟨(by repeat (first | exact .refl _ _ | apply bwD | apply bwA | (refine bwS ?_ (by first | omega | simp <;> omega) _) | refine bwC ?_ (by assumption))), ?_⟩; clear hK K) | refine ⟨(by repeat (first | exact .refl _ _ | apply bwD | apply bwA | (refine bwS ?_ (by first | omega | simp <;> omega) _) | refine bwC ?_ (by assumption))), ?_⟩
              refine norm_K fun K hK => ?_
              change wpList _ _ _ [_] _ _
              go_wp2_with fail
              have hb44 : Below w43.heap.size w43 (w43.alloc (.cells #[.slice none 0 0, .slice none 0 0] 31)) := (by repeat (first | exact .refl _ _ | apply bwD | apply bwA | (refine bwS ?_ (by first | omega | simp <;> omega) _) | refine bwC ?_ (by assumption)))
              have h3A := h3; have hbA := hb44
              have hx0 := hx0.below hb44; have hx1 := hx1.below hb44; have d00 := kept hb44 d00; have d01 := kept hb44 d01; have d10 := kept hb44 d10; have d11 := kept hb44 d11; have ca1 := kept hb44 ca1; have cb1 := kept hb44 cb1; have cc1 := kept hb44 cc1; have cr1 := kept hb44 cr1; have cs1 := kept hb44 cs1; have cq1 := kept hb44 cq1; have er1 := er1.below hb44; have es1 := es1.below hb44; have eq1 := eq1.below hb44; have h3 := h3.below hb44
              have hN : Bx (w43.alloc (.cells #[.slice none 0 0, .slice none 0 0] 31)) w43.heap.size (.slice none 0 0) (.slice none 0 0) := heap_alloc_new _ _
              have sz44 : w43.heap.size + 1 = (w43.alloc (.cells #[.slice none 0 0, .slice none 0 0] 31)).heap.size := by simp
              go_wp2_with fail
              obtain ⟨w44, hw_⟩ : ∃ x, x = (w43.alloc (.cells #[.slice none 0 0, .slice none 0 0] 31)) := ⟨_, rfl⟩
              rw [← hw_] at hb44 sz44 hx0 hx1 d00 d01 d10 d11 ca1 cb1 cc1 cr1 cs1 cq1 er1 es1 eq1 h3 hN hbA ⊢; clear hw_
              go_wp2_with fail
              first | (refine hK _ _ ⟨(by repeat (first | exact .refl _ _ | apply bwD | apply bwA | (refine bwS ?_ (by first | omega | simp <;> omega) _) | refine bwC ?_ (by assumption))), ?_⟩; clear hK K) | refine ⟨(by repeat (first | exact .refl _ _ | apply bwD | apply bwA | (refine bwS ?_ (by first | omega | simp <;> omega) _) | refine bwC ?_ (by assumption))), ?_⟩
              refine norm_K fun K hK => ?_
              change wpList _ _ _ [_] _ _
              have rc0 := hN.c0; have rc1 := hN.c1; have rf0 := hN.f0; have rf1 := hN.f1
              go_wp2_with fail
              first | (refine hK _ _ ⟨rfl, ?_⟩; clear hK K) | refine ⟨rfl, ?_⟩
              go_wp2_with fail
              go_meet
              case rel => exact ⟨w43.heap.size, _, _, rfl, by omega, (hN.set0 _).set1 _, (h3A.below (bwS (p := ⟨w43.heap.size, 1, none⟩) (bwS (p := ⟨w43.heap.size, 0, none⟩) hbA (Nat.le_refl _) _) (Nat.le_refl _) _)).more (by omega), (by repeat (first | exact .refl _ _ | apply bwD | apply bwA | (refine bwS ?_ (by first | omega | simp <;> omega) _) | refine bwC ?_ (by assumption)))⟩
            · skip
              refine norm_K fun K hK => ?_
              change wpList _ _ _ [_] _ _
              go_wp2_with fail
              have hb43 : Below w41.heap.size w41 (w41.alloc (.cells #[.slice none 0 0, .slice none 0 0] 31)) := (by repeat (first | exact .refl _ _ | apply bwD | apply bwA | (refine bwS ?_ (by first | omega | simp <;> omega) _) | refine bwC ?_ (by assumption)))
              have hx0 := hx0.below hb43; have hx1 := hx1.below hb43; have d00 := kept hb43 d00; have d01 := kept hb43 d01; have d10 := kept hb43 d10; have d11 := kept hb43 d11; have ca1 := kept hb43 ca1; have cb1 := kept hb43 cb1; have cc1 := kept hb43 cc1; have cr1 := kept hb43 cr1; have cs1 := kept hb43 cs1; have cq1 := kept hb43 cq1; have er1 := er1.below hb43; have es1 := es1.below hb43; have eq1 := eq1.below hb43
              have hN : Bx (w41.alloc (.cells #[.slice none 0 0, .slice none 0 0] 31)) w41.heap.size (.slice none 0 0) (.slice none 0 0) := heap_alloc_new _ _
              have sz43 : w41.heap.size + 1 = (w41.alloc (.cells #[.slice none 0 0, .slice none 0 0] 31)).heap.size := by simp
              go_wp2_with fail
              obtain ⟨w43, hw_⟩ : ∃ x, x = (w41.alloc (.cells #[.slice none 0 0, .slice none 0 0] 31)) := ⟨_, rfl⟩
              rw [← hw_] at hb43 sz43 hx0 hx1 d00 d01 d10 d11 ca1 cb1 cc1 cr1 cs1 cq1 er1 es1 eq1 hN ⊢; clear hw_
              go_wp2_with fail
              first | (refine hK _ _ ⟨(by repeat (first | exact .refl _ _ | apply bwD | apply bwA | (refine bwS ?_ (by first | omega | simp <;> omega) _) | refine bwC ?_ (by assumption))), ?_⟩; clear hK K) | refine ⟨(by repeat (first | exact .refl _ _ | apply bwD | apply bwA | (refine bwS ?_ (by first | omega | simp <;> omega) _) | refine bwC ?_ (by assumption))), ?_⟩
              refine norm_K fun K hK => ?_
              change wpList _ _ _ [_, _] _ _
              go_wp2_with fail
              refine (mult_c (k := invL p0 c1_) hd hx0 hx1 hX1 (by omega) (by omega)).mono ?_; rintro e w44 ⟨v3, rfl, h3, hb44⟩
              have hx0 := hx0.below hb44; have hx1 := hx1.below hb44; have d00 := kept hb44 d00; have d01 := kept hb44 d01; have d10 := kept hb44 d10; have d11 := kept hb44 d11; have ca1 := kept hb44 ca1; have cb1 := kept hb44 cb1; have cc1 := kept hb44 cc1; have cr1 := kept hb44 cr1; have cs1 := kept hb44 cs1; have cq1 := kept hb44 cq1; have er1 := er1.below hb44; have es1 := es1.below hb44; have eq1 := eq1.below hb44; have hN := hN.below hb44
              have sz44 : w43.heap.size ≤ w44.heap.size := hb44.size
              rw [← HZ.out] at h3
              obtain ⟨dq, uq, usq, rfl, ⟨g2, k2_, rfl, q2⟩, hu2_, hne2⟩ := id h3; obtain ⟨g3, k3_, rfl, hq3_⟩ := id hu2_; clear hq3_ hu2_ q2
              have rc0 := hN.c0; have rc1 := hN.c1; have rf0 := hN.f0; have rf1 := hN.f1
              go_wp2_with fail
              first | (refine hK _ _ ⟨rfl, ?_⟩; clear hK K) | refine ⟨rfl, ?_⟩
              go_wp2_with fail
              go_meet
              case rel => exact ⟨w41.heap.size, _, _, rfl, by omega, (hN.set0 _).set1 _, ((h3.set_ (p := ⟨w41.heap.size, 0, none⟩) (show w41.heap.size < _ by omega) _).set_ (p := ⟨w41.heap.size, 1, none⟩) (show w41.heap.size < _ by omega) _).more (by omega), (by repeat (first | exact .refl _ _ | apply bwD | apply bwA | (refine bwS ?_ (by first | omega | simp <;> omega) _) | refine bwC ?_ (by assumption)))⟩
          · skip
            refine norm_K fun K hK => ?_
            change wpList _ _ _ [_] _ _
            go_wp2_with fail
            have hb42 : Below w41.heap.size w41 (w41.alloc (.cells #[.slice none 0 0, .slice none 0 0] 31)) := (by repeat (first | exact .refl _ _ | apply bwD | apply bwA | (refine bwS ?_ (by first | omega | simp <;> omega) _) | refine bwC ?_ (by assumption)))
            have hx0 := hx0.below hb42; have hx1 := hx1.below hb42; have d00 := kept hb42 d00; have d01 := kept hb42 d01; have d10 := kept hb42 d10; have d11 := kept hb42 d11; have ca1 := kept hb42 ca1; have cb1 := kept hb42 cb1; have cc1 := kept hb42 cc1; have cr1 := kept hb42 cr1; have cs1 := kept hb42 cs1; have cq1 := kept hb42 cq1; have er1 := er1.below hb42; have es1 := es1.below hb42; have eq1 := eq1.below hb42
            have hN : Bx (w41.alloc (.cells #[.slice none 0 0, .slice none 0 0] 31)) w41.heap.size (.slice none 0 0) (.slice none 0 0) := heap_alloc_new _ _
            have sz42 : w41.heap.size + 1 = (w41.alloc (.cells #[.slice none 0 0, .slice none 0 0] 31)).heap.size := by simp
            go_wp2_with fail
            obtain ⟨w42, hw_⟩ : ∃ x, x = (w41.alloc (.cells #[.slice none 0 0, .slice none 0 0] 31)) := ⟨_, rfl⟩
            rw [← hw_] at hb42 sz42 hx0 hx1 d00 d01 d10 d11 ca1 cb1 cc1 cr1 cs1 cq1 er1 es1 eq1 hN ⊢; clear hw_
            go_wp2_with fail
            first | (refine hK _ _ ⟨(by repeat (first | exact .refl _ _ | apply bwD | apply bwA | (refine bwS ?_ (by first | omega | simp <;> omega) _) | refine bwC ?_ (by assumption))), ?_⟩; clear hK K) | refine ⟨(by repeat (first | exact .refl _ _ | apply bwD | apply bwA | (refine bwS ?_ (by first | omega | simp <;> omega) _) | refine bwC ?_ (by assumption))), ?_⟩
            refine norm_K fun K hK => ?_
            change wpList _ _ _ [_] _ _
            go_wp2_with fail
            refine (inv_c (p := p0) (a := c1_) (by omega) (by omega) (by omega) (by omega)).mono ?_; rintro e w43 ⟨rfl, rfl⟩
            go_wp2_with fail
            first | (refine hK _ _ ⟨(by repeat (first | exact .refl _ _ | apply bwD | apply bwA | (refine bwS ?_ (by first | omega | simp <;> omega) _) | refine bwC ?_ (by assumption))), ?_⟩; clear hK K) | refine ⟨(by repeat (first | exact .refl _ _ | apply bwD | apply bwA | (refine bwS ?_ (by first | omega | simp <;> omega) _) | refine bwC ?_ (by assumption))), ?_⟩
            refine norm_K fun K hK => ?_
            change wpList _ _ _ [_, _] _ _
            go_wp2_with fail
            refine (mult_c (k := invL p0 c1_) hd hx0 hx1 hX1 (by omega) (by omega)).mono ?_; rintro e w44 ⟨v3, rfl, h3, hb44⟩
            have hx0 := hx0.below hb44; have hx1 := hx1.below hb44; have d00 := kept hb44 d00; have d01 := kept hb44 d01; have d10 := kept hb44 d10; have d11 := kept hb44 d11; have ca1 := kept hb44 ca1; have cb1 := kept hb44 cb1; have cc1 := kept hb44 cc1; have cr1 := kept hb44 cr1; have cs1 := kept hb44 cs1; have cq1 := kept hb44 cq1; have er1 := er1.below hb44; have es1 := es1.below hb44; have eq1 := eq1.below hb44; have hN := hN.below hb44
            have sz44 : w42.heap.size ≤ w44.heap.size := hb44.size
            rw [← HZ.out] at h3
            obtain ⟨dq, uq, usq, rfl, ⟨g2, k2_, rfl, q2⟩, hu2_, hne2⟩ := id h3; obtain ⟨g3, k3_, rfl, hq3_⟩ := id hu2_; clear hq3_ hu2_ q2
            have rc0 := hN.c0; have rc1 := hN.c1; have rf0 := hN.f0; have rf1 := hN.f1
            go_wp2_with fail
            first | (refine hK _ _ ⟨rfl, ?_⟩; clear hK K) | refine ⟨rfl, ?_⟩
            go_wp2_with fail
            go_meet
            case rel => exact ⟨w41.heap.size, _, _, rfl, by omega, (hN.set0 _).set1 _, ((h3.set_ (p := ⟨w41.heap.size, 0, none⟩) (show w41.heap.size < _ by omega) _).set_ (p := ⟨w41.heap.size, 1, none⟩) (show w41.heap.size < _ by omega) _).more (by omega), (by repeat (first | exact .refl _ _ | apply bwD | apply bwA | (refine bwS ?_ (by first | omega | simp <;> omega) _) | refine bwC ?_ (by assumption)))⟩
        · skip
          refine norm_K fun K hK => ?_
          change wpList _ _ _ [_] _ _
          go_wp2_with fail
          have hb41 : Below wq.heap.size wq (wq.alloc (.cells #[.slice none 0 0, .slice none 0 0] 31)) := (by repeat (first | exact .refl _ _ | apply bwD | apply bwA | (refine bwS ?_ (by first | omega | simp <;> omega) _) | refine bwC ?_ (by assumption)))
          have hx0 := hx0.below hb41; have hx1 := hx1.below hb41; have d00 := kept hb41 d00; have d01 := kept hb41 d01; have d10 := kept hb41 d10; have d11 := kept hb41 d11; have ca1 := kept hb41 ca1; have cb1 := kept hb41 cb1; have cc1 := kept hb41 cc1; have cr1 := kept hb41 cr1; have cs1 := kept hb41 cs1; have cq1 := kept hb41 cq1; have er1 := er1.below hb41; have es1 := es1.below hb41; have eq1 := eq1.below hb41
          have hN : Bx (wq.alloc (.cells #[.slice none 0 0, .slice none 0 0] 31)) wq.heap.size (.slice none 0 0) (.slice none 0 0) := heap_alloc_new _ _
          have sz41 : wq.heap.size + 1 = (wq.alloc (.cells #[.slice none 0 0, .slice none 0 0] 31)).heap.size := by simp
          go_wp2_with fail
          obtain ⟨w41, hw_⟩ : ∃ x, x = (wq.alloc (.cells #[.slice none 0 0, .slice none 0 0] 31)) := ⟨_, rfl⟩
          rw [← hw_] at hb41 sz41 hx0 hx1 d00 d01 d10 d11 ca1 cb1 cc1 cr1 cs1 cq1 er1 es1 eq1 hN ⊢; clear hw_
          go_wp2_with fail
          first | (refine hK _ _ ⟨(by repeat (first | exact .refl _ _ | apply bwD | apply bwA | (refine bwS ?_ (by first | omega | simp <;> omega) _) | refine bwC ?_ (by assumption))), ?_⟩; clear hK K) | refine ⟨(by repeat (first | exact .refl _ _ | apply bwD | apply bwA | (refine bwS ?_ (by first | omega | simp <;> omega) _) | refine bwC ?_ (by assumption))), ?_⟩
          refine norm_K fun K hK => ?_
          change wpList _ _ _ [_] _ _
          go_wp2_with fail
          refine (dfield_c).mono ?_; rintro e w42 ⟨rfl, hb42⟩
          have hx0 := hx0.below hb42; have hx1 := hx1.below hb42; have d00 := kept hb42 d00; have d01 := kept hb42 d01; have d10 := kept hb42 d10; have d11 := kept hb42 d11; have ca1 := kept hb42 ca1; have cb1 := kept hb42 cb1; have cc1 := kept hb42 cc1; have cr1 := kept hb42 cr1; have cs1 := kept hb42 cs1; have cq1 := kept hb42 cq1; have er1 := er1.below hb42; have es1 := es1.below hb42; have eq1 := eq1.below hb42; have hN := hN.below hb42
          have sz42 : w41.heap.size ≤ w42.heap.size := hb42.size
          go_wp2_with fail
          first | (refine hK _ _ ⟨(by repeat (first | exact .refl _ _ | apply bwD | apply bwA | (refine bwS ?_ (by first | omega | simp <;> omega) _) | refine bwC ?_ (by assumption))), ?_⟩; clear hK K) | refine ⟨(by repeat (first | exact .refl _ _ | apply bwD | apply bwA | (refine bwS ?_ (by first | omega | simp <;> omega) _) | refine bwC ?_ (by assumption))), ?_⟩
          refine norm_K fun K hK => ?_
          change wpList _ _ _ [_] _ _
          go_wp2_with fail
          refine (inv_c (p := p0) (a := c1_) (by omega) (by omega) (by omega) (by omega)).mono ?_; rintro e w43 ⟨rfl, rfl⟩
          go_wp2_with fail
          first | (refine hK _ _ ⟨(by repeat (first | exact .refl _ _ | apply bwD | apply bwA | (refine bwS ?_ (by first | omega | simp <;> omega) _) | refine bwC ?_ (by assumption))), ?_⟩; clear hK K) | refine ⟨(by repeat (first | exact .refl _ _ | apply bwD | apply bwA | (refine bwS ?_ (by first | omega | simp <;> omega) _) | refine bwC ?_ (by assumption))), ?_⟩
          refine norm_K fun K hK => ?_
          change wpList _ _ _ [_, _] _ _
          go_wp2_with fail
          refine (mult_c (k := invL p0 c1_) hd hx0 hx1 hX1 (by omega) (by omega)).mono ?_; rintro e w44 ⟨v3, rfl, h3, hb44⟩
          have hx0 := hx0.below hb44; have hx1 := hx1.below hb44; have d00 := kept hb44 d00; have d01 := kept hb44 d01; have d10 := kept hb44 d10; have d11 := kept hb44 d11; have ca1 := kept hb44 ca1; have cb1 := kept hb44 cb1; have cc1 := kept hb44 cc1; have cr1 := kept hb44 cr1; have cs1 := kept hb44 cs1; have cq1 := kept hb44 cq1; have er1 := er1.below hb44; have es1 := es1.below hb44; have eq1 := eq1.below hb44; have hN := hN.below hb44
          have sz44 : w42.heap.size ≤ w44.heap.size := hb44.size
          rw [← HZ.out] at h3
          obtain ⟨dq, uq, usq, rfl, ⟨g2, k2_, rfl, q2⟩, hu2_, hne2⟩ := id h3; obtain ⟨g3, k3_, rfl, hq3_⟩ := id hu2_; clear hq3_ hu2_ q2
          have rc0 := hN.c0; have rc1 := hN.c1; have rf0 := hN.f0; have rf1 := hN.f1
          go_wp2_with fail
          first | (refine hK _ _ ⟨rfl, ?_⟩; clear hK K) | refine ⟨rfl, ?_⟩
          go_wp2_with fail
          go_meet
          case rel => exact ⟨wq.heap.size, _, _, rfl, by omega, (hN.set0 _).set1 _, ((h3.set_ (p := ⟨wq.heap.size, 0, none⟩) (show wq.heap.size < _ by omega) _).set_ (p := ⟨wq.heap.size, 1, none⟩) (show wq.heap.size < _ by omega) _).more (by omega), (by repeat (first | exact .refl _ _ | apply bwD | apply bwA | (refine bwS ?_ (by first | omega | simp <;> omega) _) | refine bwC ?_ (by assumption)))⟩
      case' rest => skip
      obtain ⟨N0, dN, uN, rfl, hN0, hN, hF, hbC⟩ := hcut
      have hx0 := hx0.below hbC; have hx1 := hx1.below hbC; have d00 := kept hbC d00; have d01 := kept hbC d01; have d10 := kept hbC d10; have d11 := kept hbC d11; have ca1 := kept hbC ca1; have cb1 := kept hbC cb1; have cc1 := kept hbC cc1; have cr1 := kept hbC cr1; have cs1 := kept hbC cs1; have cq1 := kept hbC cq1; have er1 := er1.below hbC; have es1 := es1.below hbC; have eq1 := eq1.below hbC
      have n0 := hN.c0; have n1 := hN.c1
      clear hN
      obtain ⟨az, bz, cz, uz, vz, tz, gz, kz, gy, ky, z0, z1, z2, ez1_, ez2_, ⟨evu, evv, evt⟩, ⟨y0, y1, y2⟩, f0_, f1_, f2_, ⟨_, _, rfl⟩, ⟨_, _, rfl⟩, _⟩ := FrH.op3 hF hZ
      cases ez2_
      subst ez1_
      have LZ := Lib.hid evv.1; have LU := Lib.hid evu.1; have fz := evv.2; clear y2 f2_ evt
      go_wp2_with fail
      refine region_flow [(false, [(0, 1), (2, 0), (3, 1), (4, 0), (5, 1), (7, 0), (8, 1), (9, 0), (10, 1), (1, 5)]), (false, [(6, 5)]), (false, [(11, 0), (12, 0), (13, 0)])] (by kernel_rfl) ?_
      refine norm_K fun K hK => ?_
      change wpList _ _ _ [_, _, _, _, _, _, _, _, _, _] _ _
      have hb21 : Below wc.heap.size wc wc.drew := (by repeat (first | exact .refl _ _ | apply bwD | apply bwA | (refine bwS ?_ (by first | omega | simp <;> omega) _) | refine bwC ?_ (by assumption)))
      have hx0 := hx0.below hb21; have d00 := kept hb21 d00; have d01 := kept hb21 d01; have n0 := kept hb21 n0; have n1 := kept hb21 n1; have y0 := kept hb21 y0; have y1 := kept hb21 y1; have f0_ := f0_.below hb21; have f1_ := f1_.below hb21
      generalize wc.drew = wq at *
      go_wp2_with fail
      refine (dfield_c).mono ?_; rintro e w22 ⟨rfl, hb22⟩
      have hx0 := hx0.below hb22; have d00 := kept hb22 d00; have d01 := kept hb22 d01; have n0 := kept hb22 n0; have n1 := kept hb22 n1; have y0 := kept hb22 y0; have y1 := kept hb22 y1; have f0_ := f0_.below hb22; have f1_ := f1_.below hb22
      go_wp2_with fail
      have hz0 : Below wq.heap.size wq w22 := (by repeat (first | exact .refl _ _ | apply bwD | apply bwA | (refine bwS ?_ (by first | omega | simp <;> omega) _) | refine bwC ?_ (by assumption)))
      first | (refine hK _ _ ⟨hz0, ?_⟩; clear hK K) | refine ⟨hz0, ?_⟩
      clear hz0
      refine norm_K fun K hK => ?_
      change wpList _ _ _ [_] _ _
      have f0B := f0_
      have hzq_ : w.heap.size ≤ w1.heap.size := (show Below w.heap.size w w1 from (by repeat (first | exact .refl _ _ | apply bwD | apply bwA | (refine bwS ?_ (by first | omega | simp <;> omega) _) | refine bwC ?_ (by assumption)))).size
      have hzc_ : w1.heap.size ≤ (w22).heap.size := (below_le (by repeat (first | exact .refl _ _ | apply bwD | apply bwA | (refine bwS ?_ (by first | omega | simp <;> omega) _) | refine bwC ?_ (by assumption))))
      go_wp2_with fail
      refine (conj_c (by omega) (by omega) f1_.el (by rw [LZ.out]; omega) fz (by rw [LZ.out]; omega)).mono ?_; rintro e w23 ⟨v5, rfl, h5, hb23⟩
      have hx0 := hx0.below hb23; have d00 := kept hb23 d00; have d01 := kept hb23 d01; have n0 := kept hb23 n0; have n1 := kept hb23 n1; have y0 := kept hb23 y0; have y1 := kept hb23 y1; have f0_ := f0_.below hb23; have f1_ := f1_.below hb23
      go_wp2_with fail
      have hz1 : Below wq.heap.size wq w23 := (by repeat (first | exact .refl _ _ | apply bwD | apply bwA | (refine bwS ?_ (by first | omega | simp <;> omega) _) | refine bwC ?_ (by assumption)))
      first | (refine hK _ _ ⟨hz1, ?_⟩; clear hK K) | refine ⟨hz1, ?_⟩
      clear hz1
      refine norm_K fun K hK => ?_
      change wpList _ _ _ [_, _, _] _ _
      go_wp2_with fail
      first | (refine hK _ _ ⟨rfl, ?_⟩; clear hK K) | refine ⟨rfl, ?_⟩
      go_wp2_with fail
      go_ret3
      exact ⟨_, _, rfl, (h5.more (by omega)).ow (Nat.le_refl _), (f0_.more (by omega)).ow (Nat.le_refl _), (Apt.fr f0B h5 (Nat.le_refl _)).sw, (by repeat (first | exact .refl _ _ | apply bwD | apply bwA | (refine bwS ?_ (by first | omega | simp <;> omega) _) | refine bwC ?_ (by assumption)))⟩
  · have e1 : RCoordinatesOf2 p0 st0 X1 = ptsH p0 st0 [X1] := by unfold RCoordinatesOf2; rw [if_neg h0]
    rw [show RCoordinatesOf0 p0 st0 X1 = [] from if_neg (by rw [e1]; exact h0), show RCoordinatesOf1 p0 st0 X1 = [] from if_neg (by rw [e1]; exact h0), e1]; clear e1
    obtain ⟨k, hk⟩ : ∃ k, k = ptsH p0 st0 [X1] := ⟨_, rfl⟩
    rw [← hk] at h0 hcon ⊢
    clear hk
    have hne : (k == 0) = false := by simpa using h0
    go_enter Tryz.func10, Tryz.ntmps10
    go_wp2_with fail
    refine hcon.mono ?_; rintro e w1 ⟨rfl, hb1⟩
    rw [← hW] at hb1
    clear hW hcon
    go_wp2_with fail
    go_ret3
    exact ⟨_, _, rfl, .inl ⟨rfl, rfl⟩, .inl ⟨rfl, rfl⟩, .inl rfl, (by repeat (first | exact .refl _ _ | apply bwD | apply bwA | (refine bwS ?_ (by first | omega | simp <;> omega) _) | refine bwC ?_ (by assumption)))⟩
end Go.Proofs.YtgcelfnjijhmkaaGreat
