/-
  QuadraticMap: the program's and the reference's.
-/
import Derived.Test.YtacfanjejaellaaGreatJbv
import Derived.Test.YtacfanjejaellaaGreatJbh
import Derived.Test.YtacfanjejaellaaGreatJar
namespace Go.Proofs.YtacfanjejaellaaGreat
open Go.RowKit

def quadH (p : Int) (st : List Int) (X Y : Her) : Her := sumH p (multH p (jordanH p st X (jordanH p st X Y)) 2) (-1) (jordanH p st (jordanH p st X X) Y)
theorem quadH_is {p : Int} {st : List Int} {X Y : Her} (hp : 2 ≤ p) (hX : isH p (sz st.length) X = true) (hY : isH p (sz st.length) Y = true) : isH p (sz st.length) (quadH p st X Y) = true :=
  sumH_is (by omega) (multH_is (by omega) (jordanH_is hp hX (jordanH_is hp hX hY))) (jordanH_is hp (jordanH_is hp hX hX) hY)
def RQuadraticMap1 (p0 : Int) (st0 : List Int) (X1 : Her) (X2 : Her) : Int := chkH p0 st0 [X1, X2]
def RQuadraticMap0 (p0 : Int) (st0 : List Int) (X1 : Her) (X2 : Her) : Her := if RQuadraticMap1 p0 st0 X1 X2 = 0 then quadH p0 st0 X1 X2 else ⟨[], []⟩
set_option maxHeartbeats 2000000 in
set_option maxRecDepth 100000 in
theorem iQuadraticMap_c {p0 : Int} {x0 : Value} {st0 : List Int} {x1 : Value} {X1 : Her} {x2 : Value} {X2 : Her} {w : World} (hx0 : El w x0 st0) (hm0 : st0.length ≤ 1048576) (hx1 : Hv w x1 X1) (hz1 : Hsz X1) (hx2 : Hv w x2 X2) (hz2 : Hsz X2) :
    Calls Tryz.prog 25 #[.agg #[.int .i64 p0, x0], x1, x2] w fun e w' => ∃ v0, e = .returned (.tuple #[v0, .int .i64 (RQuadraticMap1 p0 st0 X1 X2)]) ∧ OwH w' w.heap.size v0 (RQuadraticMap0 p0 st0 X1 X2) ∧ Below w.heap.size w w' := by
  obtain ⟨a0, c0, rfl, _⟩ := id hx0.op
  obtain ⟨dv1, uv1, rfl, hd1_, hu1_⟩ := id hx1; obtain ⟨a1, c1, rfl, _⟩ := id hd1_.op; obtain ⟨b1, e1, rfl, _⟩ := id hu1_; clear hd1_ hu1_
  obtain ⟨dv2, uv2, rfl, hd2_, hu2_⟩ := id hx2; obtain ⟨a2, c2, rfl, _⟩ := id hd2_.op; obtain ⟨b2, e2, rfl, _⟩ := id hu2_; clear hd2_ hu2_
  obtain ⟨W, hW⟩ : ∃ W, W = (((((w.alloc (.cells #[.int .i64 p0, .slice a0 st0.length c0] 26)).alloc (.cells #[.slice a1 X1.dg.length c1, .slice b1 X1.up.length e1] 31)).alloc (.cells #[.slice a2 X2.dg.length c2, .slice b2 X2.up.length e2] 31)).alloc (.cells #[.slice none 0 0, .slice none 0 0] 31)).alloc (.cells #[.slice a1 X1.dg.length c1, .slice b1 X1.up.length e1, .slice a2 X2.dg.length c2, .slice b2 X2.up.length e2] 31)) := ⟨_, rfl⟩
  have hbW : Below w.heap.size w W := by rw [hW]; exact (by repeat (first | exact Below.refl _ _ | apply blw_drew | apply blw_alloc | (refine blw_set ?_ (by first | omega | (simp; done) | (simp; omega)) _) | refine below_chain ?_ (by assumption)))
  have hx0 := hx0.below hbW
  have hx1 := hx1.below hbW
  have hx2 := hx2.below hbW
  have d00 : W.cell? ⟨w.heap.size, 0, none⟩ = some (.int .i64 p0) := by rw [hW]; simp [go_sem]
  have d01 : W.cell? ⟨w.heap.size, 1, none⟩ = some (.slice a0 st0.length c0) := by rw [hW]; simp [go_sem]
  have d10 : W.cell? ⟨w.heap.size + 1, 0, none⟩ = some (.slice a1 X1.dg.length c1) := by rw [hW]; simp [go_sem]
  have d11 : W.cell? ⟨w.heap.size + 1, 1, none⟩ = some (.slice b1 X1.up.length e1) := by rw [hW]; simp [go_sem]
  have d20 : W.cell? ⟨w.heap.size + 1 + 1, 0, none⟩ = some (.slice a2 X2.dg.length c2) := by rw [hW]; simp [go_sem]
  have d21 : W.cell? ⟨w.heap.size + 1 + 1, 1, none⟩ = some (.slice b2 X2.up.length e2) := by rw [hW]; simp [go_sem]
  have hr : Bx W (w.heap.size + 1 + 1 + 1) (.slice none 0 0) (.slice none 0 0) := by rw [hW]; exact Bx.below (by unfold Bx; rw [show w.heap.size + 1 + 1 + 1 = (((w.alloc (.cells #[.int .i64 p0, .slice a0 st0.length c0] 26)).alloc (.cells #[.slice a1 X1.dg.length c1, .slice b1 X1.up.length e1] 31)).alloc (.cells #[.slice a2 X2.dg.length c2, .slice b2 X2.up.length e2] 31)).heap.size by simp]; exact heap_alloc_new _ _) (by repeat (first | exact Below.refl _ _ | apply blw_drew | apply blw_alloc | (refine blw_set ?_ (by first | omega | (simp; done) | (simp; omega)) _) | refine below_chain ?_ (by assumption)))
  have hWs : W.heap.size = w.heap.size + 1 + 1 + 1 + 1 + 1 := by rw [hW]; simp
  have gl : Lh W (.slice (some ⟨w.heap.size + 1 + 1 + 1 + 1, 0, none⟩) 2 2) [X1, X2] := Lh.two hx1 (by rw [hW]; simp [go_sem]) (by rw [hW]; simp [go_sem]) hx2 (by rw [hW]; simp [go_sem]) (by rw [hW]; simp [go_sem])
  have hcon := chkh_c (p := p0) hx0 hm0 gl (by intro X hX; simp at hX; rcases hX with rfl | rfl <;> assumption) (by simp)
  have HWs := Lib.hid hWs; clear hWs
  rw [hW] at hcon
  by_cases h0 : chkH p0 st0 [X1, X2] = 0
  · rw [h0] at hcon
    obtain ⟨hd, hall⟩ := chkH_pos h0
    have hX1 : isH p0 (sz st0.length) X1 = true := by simp at hall; exact hall.1
    have hX2 : isH p0 (sz st0.length) X2 = true := by simp at hall; exact hall.2
    clear hall
    have e1 : RQuadraticMap1 p0 st0 X1 X2 = 0 := h0
    rw [show RQuadraticMap0 p0 st0 X1 X2 = quadH p0 st0 X1 X2 from if_pos e1, e1]
    clear e1
    go_enter Tryz.func25, Tryz.ntmps25
    go_wp2_with fail
    refine hcon.mono ?_; rintro e w1 ⟨rfl, hb1⟩
    rw [← hW] at hb1
    clear hW hcon
    have hx0 := hx0.below hb1; have hx1 := hx1.below hb1; have hx2 := hx2.below hb1; have d00 := kept hb1 d00; have d01 := kept hb1 d01; have d10 := kept hb1 d10; have d11 := kept hb1 d11; have d20 := kept hb1 d20; have d21 := kept hb1 d21; have hr := hr.below hb1
    have hp1 := hd.hp.lo; have hp2 := hd.hp.hi; have hsz := sz_le hd
    have i1 := jordanH_is (p := p0) (by omega) hX1 hX2
    have i2 := jordanH_is (p := p0) (by omega) hX1 i1
    have i3 := multH_is (p := p0) (k := 2) (by omega) i2
    have i4 := jordanH_is (p := p0) (by omega) hX1 hX1
    have i5 := jordanH_is (p := p0) (by omega) i4 hX2
    go_upto_region 4 with fail
    go_cut [9] (fun s_ wx => ∃ N d u, s_ = .pointer (some ⟨N, 0, none⟩) ∧ w1.heap.size ≤ N ∧ Bx wx N d u ∧ FrH wx w1.heap.size (.agg #[d, u]) (multH p0 (jordanH p0 st0 X1 (jordanH p0 st0 X1 X2)) 2) ∧ Below w1.heap.size w1 wx)
    case first =>
      refine region_tq [(0, 1), (1, 1), (2, 1), (3, 1), (4, 1), (5, 1)] (.two 6 5 (.two 7 5 (.two 8 5 (.lin [(false, [(9, 5)]), (false, [(10, 4)])]) 9 5 (.lin [(false, [(8, 4), (10, 4)])])) 9 5 (.lin [(false, [(7, 5)]), (false, [(8, 4), (10, 4)])])) 9 5 (.lin [(false, [(6, 5)]), (false, [(7, 5)]), (false, [(8, 4), (10, 4)])])) (by kernel_rfl) ?_
      refine norm_K fun K hK => ?_
      change wpList _ _ _ [_, _, _, _, _, _] _ _
      go_wp2_with fail
      have hbq : Below w1.heap.size w1 w1.drew := (by repeat (first | exact Below.refl _ _ | apply blw_drew | apply blw_alloc | (refine blw_set ?_ (by first | omega | (simp; done) | (simp; omega)) _) | refine below_chain ?_ (by assumption)))
      have hx0 := hx0.below hbq; have hx1 := hx1.below hbq; have hx2 := hx2.below hbq; have hr := hr.below hbq; have d00 := kept hbq d00; have d01 := kept hbq d01; have d10 := kept hbq d10; have d11 := kept hbq d11; have d20 := kept hbq d20; have d21 := kept hbq d21
      have szq : w1.heap.size = w1.drew.heap.size := rfl
      generalize w1.drew = wq at *
      refine hK _ _ ?_; clear hK K
      refine ⟨?_, ?_⟩
      · skip
        refine norm_K fun K hK => ?_
        change wpList _ _ _ [_] _ _
        go_wp2_with fail
        refine (jordan_c hd hx0 hx1 hX1 hx2 hX2).mono ?_; rintro e w41 ⟨v1, rfl, h1, hb41⟩
        have hx0 := hx0.below hb41; have hx1 := hx1.below hb41; have hx2 := hx2.below hb41; have hr := hr.below hb41; have d00 := kept hb41 d00; have d01 := kept hb41 d01; have d10 := kept hb41 d10; have d11 := kept hb41 d11; have d20 := kept hb41 d20; have d21 := kept hb41 d21
        have sz41 : wq.heap.size ≤ w41.heap.size := hb41.size
        go_wp2_with fail
        first | (refine hK _ _ ⟨(by repeat (first | exact Below.refl _ _ | apply blw_drew | apply blw_alloc | (refine blw_set ?_ (by first | omega | (simp; done) | (simp; omega)) _) | refine below_chain ?_ (by assumption))), ?_⟩; clear hK K) | refine ⟨(by repeat (first | exact Below.refl _ _ | apply blw_drew | apply blw_alloc | (refine blw_set ?_ (by first | omega | (simp; done) | (simp; omega)) _) | refine below_chain ?_ (by assumption))), ?_⟩
        refine ⟨?_, ?_⟩
        · skip
          refine norm_K fun K hK => ?_
          change wpList _ _ _ [_] _ _
          go_wp2_with fail
          refine (jordan_c hd hx0 hx1 hX1 h1.hv i1).mono ?_; rintro e w42 ⟨v2, rfl, h2, hb42⟩
          have hx0 := hx0.below hb42; have hx1 := hx1.below hb42; have hx2 := hx2.below hb42; have hr := hr.below hb42; have d00 := kept hb42 d00; have d01 := kept hb42 d01; have d10 := kept hb42 d10; have d11 := kept hb42 d11; have d20 := kept hb42 d20; have d21 := kept hb42 d21; have h1 := h1.below hb42
          have sz42 : w41.heap.size ≤ w42.heap.size := hb42.size
          go_wp2_with fail
          first | (refine hK _ _ ⟨(by repeat (first | exact Below.refl _ _ | apply blw_drew | apply blw_alloc | (refine blw_set ?_ (by first | omega | (simp; done) | (simp; omega)) _) | refine below_chain ?_ (by assumption))), ?_⟩; clear hK K) | refine ⟨(by repeat (first | exact Below.refl _ _ | apply blw_drew | apply blw_alloc | (refine blw_set ?_ (by first | omega | (simp; done) | (simp; omega)) _) | refine below_chain ?_ (by assumption))), ?_⟩
          refine ⟨?_, ?_⟩
          · skip
            refine norm_K fun K hK => ?_
            change wpList _ _ _ [_] _ _
            go_wp2_with fail
            refine (mult_c (k := 2) hd hx0 h2.hv i2 (by decide) (by decide)).mono ?_; rintro e w43 ⟨v3, rfl, h3, hb43⟩
            have hx0 := hx0.below hb43; have hx1 := hx1.below hb43; have hx2 := hx2.below hb43; have hr := hr.below hb43; have d00 := kept hb43 d00; have d01 := kept hb43 d01; have d10 := kept hb43 d10; have d11 := kept hb43 d11; have d20 := kept hb43 d20; have d21 := kept hb43 d21; have h1 := h1.below hb43; have h2 := h2.below hb43
            have sz43 : w42.heap.size ≤ w43.heap.size := hb43.size
            obtain ⟨dq, uq, usq, rfl, ⟨g2, k2_, rfl, q2⟩, hu2_, hne2⟩ := id h3; obtain ⟨g3, k3_, rfl, hq3_⟩ := id hu2_; clear hq3_ hu2_ q2
            go_wp2_with fail
            first | (refine hK _ _ ⟨(by repeat (first | exact Below.refl _ _ | apply blw_drew | apply blw_alloc | (refine blw_set ?_ (by first | omega | (simp; done) | (simp; omega)) _) | refine below_chain ?_ (by assumption))), ?_⟩; clear hK K) | refine ⟨(by repeat (first | exact Below.refl _ _ | apply blw_drew | apply blw_alloc | (refine blw_set ?_ (by first | omega | (simp; done) | (simp; omega)) _) | refine below_chain ?_ (by assumption))), ?_⟩
            refine norm_K fun K hK => ?_
            change wpList _ _ _ [_] _ _
            go_wp2_with fail
            have hb44 : Below w43.heap.size w43 (w43.alloc (.cells #[.slice none 0 0, .slice none 0 0] 31)) := (by repeat (first | exact Below.refl _ _ | apply blw_drew | apply blw_alloc | (refine blw_set ?_ (by first | omega | (simp; done) | (simp; omega)) _) | refine below_chain ?_ (by assumption)))
            have h3A := h3; have hbA := hb44
            have hx0 := hx0.below hb44; have hx1 := hx1.below hb44; have hx2 := hx2.below hb44; have hr := hr.below hb44; have d00 := kept hb44 d00; have d01 := kept hb44 d01; have d10 := kept hb44 d10; have d11 := kept hb44 d11; have d20 := kept hb44 d20; have d21 := kept hb44 d21; have h1 := h1.below hb44; have h2 := h2.below hb44; have h3 := h3.below hb44
            have hN : Bx (w43.alloc (.cells #[.slice none 0 0, .slice none 0 0] 31)) w43.heap.size (.slice none 0 0) (.slice none 0 0) := heap_alloc_new _ _
            have sz44 : w43.heap.size + 1 = (w43.alloc (.cells #[.slice none 0 0, .slice none 0 0] 31)).heap.size := by simp
            go_wp2_with fail
            obtain ⟨w44, hw_⟩ : ∃ x, x = (w43.alloc (.cells #[.slice none 0 0, .slice none 0 0] 31)) := ⟨_, rfl⟩
            rw [← hw_] at hb44 sz44 hx0 hx1 hx2 hr d00 d01 d10 d11 d20 d21 h1 h2 h3 hN hbA ⊢; clear hw_
            go_wp2_with fail
            first | (refine hK _ _ ⟨(by repeat (first | exact Below.refl _ _ | apply blw_drew | apply blw_alloc | (refine blw_set ?_ (by first | omega | (simp; done) | (simp; omega)) _) | refine below_chain ?_ (by assumption))), ?_⟩; clear hK K) | refine ⟨(by repeat (first | exact Below.refl _ _ | apply blw_drew | apply blw_alloc | (refine blw_set ?_ (by first | omega | (simp; done) | (simp; omega)) _) | refine below_chain ?_ (by assumption))), ?_⟩
            refine norm_K fun K hK => ?_
            change wpList _ _ _ [_] _ _
            have rc0 := hN.c0; have rc1 := hN.c1; have rf0 := hN.f0; have rf1 := hN.f1
            go_wp2_with fail
            first | (refine hK _ _ ⟨rfl, ?_⟩; clear hK K) | refine ⟨rfl, ?_⟩
            go_wp2_with fail
            go_meet
            case rel => exact ⟨w43.heap.size, _, _, rfl, by omega, (hN.set0 _).set1 _, (h3A.below (blw_set (p := ⟨w43.heap.size, 1, none⟩) (blw_set (p := ⟨w43.heap.size, 0, none⟩) hbA (Nat.le_refl _) _) (Nat.le_refl _) _)).more (by omega), (by repeat (first | exact Below.refl _ _ | apply blw_drew | apply blw_alloc | (refine blw_set ?_ (by first | omega | (simp; done) | (simp; omega)) _) | refine below_chain ?_ (by assumption)))⟩
          · skip
            refine norm_K fun K hK => ?_
            change wpList _ _ _ [_] _ _
            go_wp2_with fail
            have hb43 : Below w42.heap.size w42 (w42.alloc (.cells #[.slice none 0 0, .slice none 0 0] 31)) := (by repeat (first | exact Below.refl _ _ | apply blw_drew | apply blw_alloc | (refine blw_set ?_ (by first | omega | (simp; done) | (simp; omega)) _) | refine below_chain ?_ (by assumption)))
            have hx0 := hx0.below hb43; have hx1 := hx1.below hb43; have hx2 := hx2.below hb43; have hr := hr.below hb43; have d00 := kept hb43 d00; have d01 := kept hb43 d01; have d10 := kept hb43 d10; have d11 := kept hb43 d11; have d20 := kept hb43 d20; have d21 := kept hb43 d21; have h1 := h1.below hb43; have h2 := h2.below hb43
            have hN : Bx (w42.alloc (.cells #[.slice none 0 0, .slice none 0 0] 31)) w42.heap.size (.slice none 0 0) (.slice none 0 0) := heap_alloc_new _ _
            have sz43 : w42.heap.size + 1 = (w42.alloc (.cells #[.slice none 0 0, .slice none 0 0] 31)).heap.size := by simp
            go_wp2_with fail
            obtain ⟨w43, hw_⟩ : ∃ x, x = (w42.alloc (.cells #[.slice none 0 0, .slice none 0 0] 31)) := ⟨_, rfl⟩
            rw [← hw_] at hb43 sz43 hx0 hx1 hx2 hr d00 d01 d10 d11 d20 d21 h1 h2 hN ⊢; clear hw_
            go_wp2_with fail
            first | (refine hK _ _ ⟨(by repeat (first | exact Below.refl _ _ | apply blw_drew | apply blw_alloc | (refine blw_set ?_ (by first | omega | (simp; done) | (simp; omega)) _) | refine below_chain ?_ (by assumption))), ?_⟩; clear hK K) | refine ⟨(by repeat (first | exact Below.refl _ _ | apply blw_drew | apply blw_alloc | (refine blw_set ?_ (by first | omega | (simp; done) | (simp; omega)) _) | refine below_chain ?_ (by assumption))), ?_⟩
            refine norm_K fun K hK => ?_
            change wpList _ _ _ [_, _] _ _
            go_wp2_with fail
            refine (mult_c (k := 2) hd hx0 h2.hv i2 (by decide) (by decide)).mono ?_; rintro e w44 ⟨v3, rfl, h3, hb44⟩
            have hx0 := hx0.below hb44; have hx1 := hx1.below hb44; have hx2 := hx2.below hb44; have hr := hr.below hb44; have d00 := kept hb44 d00; have d01 := kept hb44 d01; have d10 := kept hb44 d10; have d11 := kept hb44 d11; have d20 := kept hb44 d20; have d21 := kept hb44 d21; have h1 := h1.below hb44; have h2 := h2.below hb44; have hN := hN.below hb44
            have sz44 : w43.heap.size ≤ w44.heap.size := hb44.size
            obtain ⟨dq, uq, usq, rfl, ⟨g2, k2_, rfl, q2⟩, hu2_, hne2⟩ := id h3; obtain ⟨g3, k3_, rfl, hq3_⟩ := id hu2_; clear hq3_ hu2_ q2
            have rc0 := hN.c0; have rc1 := hN.c1; have rf0 := hN.f0; have rf1 := hN.f1
            go_wp2_with fail
            first | (refine hK _ _ ⟨rfl, ?_⟩; clear hK K) | refine ⟨rfl, ?_⟩
            go_wp2_with fail
            go_meet
            case rel => exact ⟨w42.heap.size, _, _, rfl, by omega, (hN.set0 _).set1 _, ((h3.set_ (p := ⟨w42.heap.size, 0, none⟩) (show w42.heap.size < _ by omega) _).set_ (p := ⟨w42.heap.size, 1, none⟩) (show w42.heap.size < _ by omega) _).more (by omega), (by repeat (first | exact Below.refl _ _ | apply blw_drew | apply blw_alloc | (refine blw_set ?_ (by first | omega | (simp; done) | (simp; omega)) _) | refine below_chain ?_ (by assumption)))⟩
        · skip
          refine norm_K fun K hK => ?_
          change wpList _ _ _ [_] _ _
          go_wp2_with fail
          have hb42 : Below w41.heap.size w41 (w41.alloc (.cells #[.slice none 0 0, .slice none 0 0] 31)) := (by repeat (first | exact Below.refl _ _ | apply blw_drew | apply blw_alloc | (refine blw_set ?_ (by first | omega | (simp; done) | (simp; omega)) _) | refine below_chain ?_ (by assumption)))
          have hx0 := hx0.below hb42; have hx1 := hx1.below hb42; have hx2 := hx2.below hb42; have hr := hr.below hb42; have d00 := kept hb42 d00; have d01 := kept hb42 d01; have d10 := kept hb42 d10; have d11 := kept hb42 d11; have d20 := kept hb42 d20; have d21 := kept hb42 d21; have h1 := h1.below hb42
          have hN : Bx (w41.alloc (.cells #[.slice none 0 0, .slice none 0 0] 31)) w41.heap.size (.slice none 0 0) (.slice none 0 0) := heap_alloc_new _ _
          have sz42 : w41.heap.size + 1 = (w41.alloc (.cells #[.slice none 0 0, .slice none 0 0] 31)).heap.size := by simp
          go_wp2_with fail
          obtain ⟨w42, hw_⟩ : ∃ x, x = (w41.alloc (.cells #[.slice none 0 0, .slice none 0 0] 31)) := ⟨_, rfl⟩
          rw [← hw_] at hb42 sz42 hx0 hx1 hx2 hr d00 d01 d10 d11 d20 d21 h1 hN ⊢; clear hw_
          go_wp2_with fail
          first | (refine hK _ _ ⟨(by repeat (first | exact Below.refl _ _ | apply blw_drew | apply blw_alloc | (refine blw_set ?_ (by first | omega | (simp; done) | (simp; omega)) _) | refine below_chain ?_ (by assumption))), ?_⟩; clear hK K) | refine ⟨(by repeat (first | exact Below.refl _ _ | apply blw_drew | apply blw_alloc | (refine blw_set ?_ (by first | omega | (simp; done) | (simp; omega)) _) | refine below_chain ?_ (by assumption))), ?_⟩
          refine norm_K fun K hK => ?_
          change wpList _ _ _ [_] _ _
          go_wp2_with fail
          refine (jordan_c hd hx0 hx1 hX1 h1.hv i1).mono ?_; rintro e w43 ⟨v2, rfl, h2, hb43⟩
          have hx0 := hx0.below hb43; have hx1 := hx1.below hb43; have hx2 := hx2.below hb43; have hr := hr.below hb43; have d00 := kept hb43 d00; have d01 := kept hb43 d01; have d10 := kept hb43 d10; have d11 := kept hb43 d11; have d20 := kept hb43 d20; have d21 := kept hb43 d21; have h1 := h1.below hb43; have hN := hN.below hb43
          have sz43 : w42.heap.size ≤ w43.heap.size := hb43.size
          go_wp2_with fail
          first | (refine hK _ _ ⟨(by repeat (first | exact Below.refl _ _ | apply blw_drew | apply blw_alloc | (refine blw_set ?_ (by first | omega | (simp; done) | (simp; omega)) _) | refine below_chain ?_ (by assumption))), ?_⟩; clear hK K) | refine ⟨(by repeat (first | exact Below.refl _ _ | apply blw_drew | apply blw_alloc | (refine blw_set ?_ (by first | omega | (simp; done) | (simp; omega)) _) | refine below_chain ?_ (by assumption))), ?_⟩
          refine norm_K fun K hK => ?_
          change wpList _ _ _ [_, _] _ _
          go_wp2_with fail
          refine (mult_c (k := 2) hd hx0 h2.hv i2 (by decide) (by decide)).mono ?_; rintro e w44 ⟨v3, rfl, h3, hb44⟩
          have hx0 := hx0.below hb44; have hx1 := hx1.below hb44; have hx2 := hx2.below hb44; have hr := hr.below hb44; have d00 := kept hb44 d00; have d01 := kept hb44 d01; have d10 := kept hb44 d10; have d11 := kept hb44 d11; have d20 := kept hb44 d20; have d21 := kept hb44 d21; have h1 := h1.below hb44; have hN := hN.below hb44; have h2 := h2.below hb44
          have sz44 : w43.heap.size ≤ w44.heap.size := hb44.size
          obtain ⟨dq, uq, usq, rfl, ⟨g2, k2_, rfl, q2⟩, hu2_, hne2⟩ := id h3; obtain ⟨g3, k3_, rfl, hq3_⟩ := id hu2_; clear hq3_ hu2_ q2
          have rc0 := hN.c0; have rc1 := hN.c1; have rf0 := hN.f0; have rf1 := hN.f1
          go_wp2_with fail
          first | (refine hK _ _ ⟨rfl, ?_⟩; clear hK K) | refine ⟨rfl, ?_⟩
          go_wp2_with fail
          go_meet
          case rel => exact ⟨w41.heap.size, _, _, rfl, by omega, (hN.set0 _).set1 _, ((h3.set_ (p := ⟨w41.heap.size, 0, none⟩) (show w41.heap.size < _ by omega) _).set_ (p := ⟨w41.heap.size, 1, none⟩) (show w41.heap.size < _ by omega) _).more (by omega), (by repeat (first | exact Below.refl _ _ | apply blw_drew | apply blw_alloc | (refine blw_set ?_ (by first | omega | (simp; done) | (simp; omega)) _) | refine below_chain ?_ (by assumption)))⟩
      · skip
        refine norm_K fun K hK => ?_
        change wpList _ _ _ [_] _ _
        go_wp2_with fail
        have hb41 : Below wq.heap.size wq (wq.alloc (.cells #[.slice none 0 0, .slice none 0 0] 31)) := (by repeat (first | exact Below.refl _ _ | apply blw_drew | apply blw_alloc | (refine blw_set ?_ (by first | omega | (simp; done) | (simp; omega)) _) | refine below_chain ?_ (by assumption)))
        have hx0 := hx0.below hb41; have hx1 := hx1.below hb41; have hx2 := hx2.below hb41; have hr := hr.below hb41; have d00 := kept hb41 d00; have d01 := kept hb41 d01; have d10 := kept hb41 d10; have d11 := kept hb41 d11; have d20 := kept hb41 d20; have d21 := kept hb41 d21
        have hN : Bx (wq.alloc (.cells #[.slice none 0 0, .slice none 0 0] 31)) wq.heap.size (.slice none 0 0) (.slice none 0 0) := heap_alloc_new _ _
        have sz41 : wq.heap.size + 1 = (wq.alloc (.cells #[.slice none 0 0, .slice none 0 0] 31)).heap.size := by simp
        go_wp2_with fail
        obtain ⟨w41, hw_⟩ : ∃ x, x = (wq.alloc (.cells #[.slice none 0 0, .slice none 0 0] 31)) := ⟨_, rfl⟩
        rw [← hw_] at hb41 sz41 hx0 hx1 hx2 hr d00 d01 d10 d11 d20 d21 hN ⊢; clear hw_
        go_wp2_with fail
        first | (refine hK _ _ ⟨(by repeat (first | exact Below.refl _ _ | apply blw_drew | apply blw_alloc | (refine blw_set ?_ (by first | omega | (simp; done) | (simp; omega)) _) | refine below_chain ?_ (by assumption))), ?_⟩; clear hK K) | refine ⟨(by repeat (first | exact Below.refl _ _ | apply blw_drew | apply blw_alloc | (refine blw_set ?_ (by first | omega | (simp; done) | (simp; omega)) _) | refine below_chain ?_ (by assumption))), ?_⟩
        refine norm_K fun K hK => ?_
        change wpList _ _ _ [_] _ _
        go_wp2_with fail
        refine (jordan_c hd hx0 hx1 hX1 hx2 hX2).mono ?_; rintro e w42 ⟨v1, rfl, h1, hb42⟩
        have hx0 := hx0.below hb42; have hx1 := hx1.below hb42; have hx2 := hx2.below hb42; have hr := hr.below hb42; have d00 := kept hb42 d00; have d01 := kept hb42 d01; have d10 := kept hb42 d10; have d11 := kept hb42 d11; have d20 := kept hb42 d20; have d21 := kept hb42 d21; have hN := hN.below hb42
        have sz42 : w41.heap.size ≤ w42.heap.size := hb42.size
        go_wp2_with fail
        first | (refine hK _ _ ⟨(by repeat (first | exact Below.refl _ _ | apply blw_drew | apply blw_alloc | (refine blw_set ?_ (by first | omega | (simp; done) | (simp; omega)) _) | refine below_chain ?_ (by assumption))), ?_⟩; clear hK K) | refine ⟨(by repeat (first | exact Below.refl _ _ | apply blw_drew | apply blw_alloc | (refine blw_set ?_ (by first | omega | (simp; done) | (simp; omega)) _) | refine below_chain ?_ (by assumption))), ?_⟩
        refine norm_K fun K hK => ?_
        change wpList _ _ _ [_] _ _
        go_wp2_with fail
        refine (jordan_c hd hx0 hx1 hX1 h1.hv i1).mono ?_; rintro e w43 ⟨v2, rfl, h2, hb43⟩
        have hx0 := hx0.below hb43; have hx1 := hx1.below hb43; have hx2 := hx2.below hb43; have hr := hr.below hb43; have d00 := kept hb43 d00; have d01 := kept hb43 d01; have d10 := kept hb43 d10; have d11 := kept hb43 d11; have d20 := kept hb43 d20; have d21 := kept hb43 d21; have hN := hN.below hb43; have h1 := h1.below hb43
        have sz43 : w42.heap.size ≤ w43.heap.size := hb43.size
        go_wp2_with fail
        first | (refine hK _ _ ⟨(by repeat (first | exact Below.refl _ _ | apply blw_drew | apply blw_alloc | (refine blw_set ?_ (by first | omega | (simp; done) | (simp; omega)) _) | refine below_chain ?_ (by assumption))), ?_⟩; clear hK K) | refine ⟨(by repeat (first | exact Below.refl _ _ | apply blw_drew | apply blw_alloc | (refine blw_set ?_ (by first | omega | (simp; done) | (simp; omega)) _) | refine below_chain ?_ (by assumption))), ?_⟩
        refine norm_K fun K hK => ?_
        change wpList _ _ _ [_, _] _ _
        go_wp2_with fail
        refine (mult_c (k := 2) hd hx0 h2.hv i2 (by decide) (by decide)).mono ?_; rintro e w44 ⟨v3, rfl, h3, hb44⟩
        have hx0 := hx0.below hb44; have hx1 := hx1.below hb44; have hx2 := hx2.below hb44; have hr := hr.below hb44; have d00 := kept hb44 d00; have d01 := kept hb44 d01; have d10 := kept hb44 d10; have d11 := kept hb44 d11; have d20 := kept hb44 d20; have d21 := kept hb44 d21; have hN := hN.below hb44; have h1 := h1.below hb44; have h2 := h2.below hb44
        have sz44 : w43.heap.size ≤ w44.heap.size := hb44.size
        obtain ⟨dq, uq, usq, rfl, ⟨g2, k2_, rfl, q2⟩, hu2_, hne2⟩ := id h3; obtain ⟨g3, k3_, rfl, hq3_⟩ := id hu2_; clear hq3_ hu2_ q2
        have rc0 := hN.c0; have rc1 := hN.c1; have rf0 := hN.f0; have rf1 := hN.f1
        go_wp2_with fail
        first | (refine hK _ _ ⟨rfl, ?_⟩; clear hK K) | refine ⟨rfl, ?_⟩
        go_wp2_with fail
        go_meet
        case rel => exact ⟨wq.heap.size, _, _, rfl, by omega, (hN.set0 _).set1 _, ((h3.set_ (p := ⟨wq.heap.size, 0, none⟩) (show wq.heap.size < _ by omega) _).set_ (p := ⟨wq.heap.size, 1, none⟩) (show wq.heap.size < _ by omega) _).more (by omega), (by repeat (first | exact Below.refl _ _ | apply blw_drew | apply blw_alloc | (refine blw_set ?_ (by first | omega | (simp; done) | (simp; omega)) _) | refine below_chain ?_ (by assumption)))⟩
    case' rest => skip
    obtain ⟨N0, dN, uN, rfl, hN0, hN, hF, hbC⟩ := hcut
    have hx0 := hx0.below hbC; have hx1 := hx1.below hbC; have hx2 := hx2.below hbC; have hr := hr.below hbC; have d00 := kept hbC d00; have d01 := kept hbC d01; have d10 := kept hbC d10; have d11 := kept hbC d11; have d20 := kept hbC d20; have d21 := kept hbC d21
    have n0 := hN.c0; have n1 := hN.c1
    clear hN
    go_wp2_with fail
    refine region_flow [(false, [(0, 1), (1, 1), (2, 1), (3, 1), (4, 1), (5, 1), (7, 1), (6, 5)]), (false, [(8, 5)]), (false, [(9, 4), (10, 4), (11, 0)])] (by kernel_rfl) ?_
    refine norm_K fun K hK => ?_
    change wpList _ _ _ [_, _, _, _, _, _, _, _] _ _
    have hb21 : Below wc.heap.size wc wc.drew := (by repeat (first | exact Below.refl _ _ | apply blw_drew | apply blw_alloc | (refine blw_set ?_ (by first | omega | (simp; done) | (simp; omega)) _) | refine below_chain ?_ (by assumption)))
    have hx0 := hx0.below hb21; have hx1 := hx1.below hb21; have hx2 := hx2.below hb21; have hr := hr.below hb21; have d00 := kept hb21 d00; have d01 := kept hb21 d01; have d10 := kept hb21 d10; have d11 := kept hb21 d11; have d20 := kept hb21 d20; have d21 := kept hb21 d21; have hF := hF.below hb21; have n0 := kept hb21 n0; have n1 := kept hb21 n1
    generalize wc.drew = wq at *
    have hzq_ : w1.heap.size ≤ wq.heap.size := (below_le (by repeat (first | exact Below.refl _ _ | apply blw_drew | apply blw_alloc | (refine blw_set ?_ (by first | omega | (simp; done) | (simp; omega)) _) | refine below_chain ?_ (by assumption))))
    go_wp2_with fail
    refine (jordan_c hd hx0 hx1 hX1 hx1 hX1).mono ?_; rintro e w22 ⟨v4, rfl, h4, hb22⟩
    have hx0 := hx0.below hb22; have hx1 := hx1.below hb22; have hx2 := hx2.below hb22; have hr := hr.below hb22; have d00 := kept hb22 d00; have d01 := kept hb22 d01; have d10 := kept hb22 d10; have d11 := kept hb22 d11; have d20 := kept hb22 d20; have d21 := kept hb22 d21; have hF := hF.below hb22; have n0 := kept hb22 n0; have n1 := kept hb22 n1
    go_wp2_with fail
    have hz0 : Below wq.heap.size wq w22 := (by repeat (first | exact Below.refl _ _ | apply blw_drew | apply blw_alloc | (refine blw_set ?_ (by first | omega | (simp; done) | (simp; omega)) _) | refine below_chain ?_ (by assumption)))
    first | (refine hK _ _ ⟨hz0, ?_⟩; clear hK K) | refine ⟨hz0, ?_⟩
    clear hz0
    refine norm_K fun K hK => ?_
    change wpList _ _ _ [_] _ _
    go_wp2_with fail
    refine (jordan_c hd hx0 h4.hv i4 hx2 hX2).mono ?_; rintro e w23 ⟨v5, rfl, h5, hb23⟩
    have hx0 := hx0.below hb23; have hx1 := hx1.below hb23; have hx2 := hx2.below hb23; have hr := hr.below hb23; have d00 := kept hb23 d00; have d01 := kept hb23 d01; have d10 := kept hb23 d10; have d11 := kept hb23 d11; have d20 := kept hb23 d20; have d21 := kept hb23 d21; have hF := hF.below hb23; have n0 := kept hb23 n0; have n1 := kept hb23 n1; have h4 := h4.below hb23
    go_wp2_with fail
    have hz1 : Below wq.heap.size wq w23 := (by repeat (first | exact Below.refl _ _ | apply blw_drew | apply blw_alloc | (refine blw_set ?_ (by first | omega | (simp; done) | (simp; omega)) _) | refine below_chain ?_ (by assumption)))
    first | (refine hK _ _ ⟨hz1, ?_⟩; clear hK K) | refine ⟨hz1, ?_⟩
    clear hz1
    refine norm_K fun K hK => ?_
    change wpList _ _ _ [_, _, _] _ _
    have hzc_ : w1.heap.size ≤ (w23).heap.size := (below_le (by repeat (first | exact Below.refl _ _ | apply blw_drew | apply blw_alloc | (refine blw_set ?_ (by first | omega | (simp; done) | (simp; omega)) _) | refine below_chain ?_ (by assumption))))
    (try simp at hzc_)
    go_wp2_with fail
    refine (jsum_c (k := -1) hd hx0 hF.hv i3 h5.hv i5 (by decide) (by decide)).mono ?_; rintro e w24 ⟨v, rfl, hv, hb24⟩
    have hx0 := hx0.below hb24; have hx1 := hx1.below hb24; have hx2 := hx2.below hb24; have hr := hr.below hb24; have d00 := kept hb24 d00; have d01 := kept hb24 d01; have d10 := kept hb24 d10; have d11 := kept hb24 d11; have d20 := kept hb24 d20; have d21 := kept hb24 d21; have hF := hF.below hb24; have n0 := kept hb24 n0; have n1 := kept hb24 n1; have h4 := h4.below hb24; have h5 := h5.below hb24
    change FrH _ _ _ (quadH p0 st0 X1 X2) at hv
    obtain ⟨d, u, us, rfl, ⟨g1, cap1, rfl, h1⟩, hu, hne⟩ := id hv
    obtain ⟨g2, cap2, rfl, _⟩ := id hu
    have hul : us.length = 3 := by obtain ⟨_, _, _, _, h, _⟩ := hu; exact h
    have HU := Lib.hid hul; clear hul
    have hu3 : (quadH p0 st0 X1 X2).up.length = 3 := (isH_parts (quadH_is (p := p0) (by omega) hX1 hX2)).2.2.1
    have hu4 : (quadH p0 st0 X1 X2).dg.length = 3 := (isH_parts (quadH_is (p := p0) (by omega) hX1 hX2)).1
    have hz1_ : w.heap.size + 1 + 1 + 1 + 1 + 1 ≤ w1.heap.size := by have := hb1.size; have := HWs.out; omega
    have rc0 := hr.c0; have rc1 := hr.c1; have rf0 := hr.f0; have rf1 := hr.f1
    go_wp2_with fail
    first | (refine hK _ _ ⟨rfl, ?_⟩; clear hK K) | refine ⟨rfl, ?_⟩
    go_wp2_with fail
    refine bodyPost_ret (v := .tuple #[.agg #[.slice (some ⟨g1, 0, none⟩) (quadH p0 st0 X1 X2).dg.length cap1, .slice (some ⟨g2, 0, none⟩) us.length cap2], .int .i64 0]) (by simp [results, Tryz.results25, go_sem, rc0, rc1, HU.out, hu3, hu4]) rfl ⟨_, rfl, .inr ?_, ?_⟩
    · exact ((hv.set_ (by first | omega | (simp; done) | (simp; omega)) _).set_ (by first | omega | (simp; done) | (simp; omega)) _).more (below_le (by repeat (first | exact Below.refl _ _ | apply blw_drew | apply blw_alloc | (refine blw_set ?_ (by first | omega | (simp; done) | (simp; omega)) _) | refine below_chain ?_ (by assumption))))
    · exact blw_set (blw_set (by repeat (first | exact Below.refl _ _ | apply blw_drew | apply blw_alloc | (refine blw_set ?_ (by first | omega | (simp; done) | (simp; omega)) _) | refine below_chain ?_ (by assumption))) (by first | omega | (simp; done) | (simp; omega)) _) (by first | omega | (simp; done) | (simp; omega)) _
  · have e1 : RQuadraticMap1 p0 st0 X1 X2 = chkH p0 st0 [X1, X2] := rfl
    rw [show RQuadraticMap0 p0 st0 X1 X2 = ⟨[], []⟩ from if_neg (by rw [e1]; exact h0), e1]; clear e1
    obtain ⟨k, hk⟩ : ∃ k, k = chkH p0 st0 [X1, X2] := ⟨_, rfl⟩
    rw [← hk] at h0 hcon ⊢
    clear hk
    have hne : (k == 0) = false := by simpa using h0
    go_enter Tryz.func25, Tryz.ntmps25
    go_wp2_with fail
    refine hcon.mono ?_; rintro e w1 ⟨rfl, hb1⟩
    rw [← hW] at hb1
    clear hW hcon
    have hr := hr.below hb1
    have rc0 := hr.c0; have rc1 := hr.c1; have rf0 := hr.f0; have rf1 := hr.f1
    go_wp2_with fail
    refine bodyPost_ret (v := .tuple #[.agg #[.slice none 0 0, .slice none 0 0], .int .i64 k]) (by simp [results, Tryz.results25, go_sem, rc0, rc1]) rfl ⟨_, rfl, .inl ⟨rfl, rfl⟩, ?_⟩
    exact blw_set (blw_set (by repeat (first | exact Below.refl _ _ | apply blw_drew | apply blw_alloc | (refine blw_set ?_ (by first | omega | (simp; done) | (simp; omega)) _) | refine below_chain ?_ (by assumption))) (by first | omega | (simp; done) | (simp; omega)) _) (by first | omega | (simp; done) | (simp; omega)) _
set_option maxHeartbeats 2000000 in
set_option maxRecDepth 100000 in
theorem sQuadraticMap_c {p0 : Int} {x0 : Value} {st0 : List Int} {x1 : Value} {X1 : Her} {x2 : Value} {X2 : Her} {w : World} (hx0 : El w x0 st0) (hm0 : st0.length ≤ 1048576) (hx1 : Hv w x1 X1) (hz1 : Hsz X1) (hx2 : Hv w x2 X2) (hz2 : Hsz X2) :
    Calls Tryz.prog 26 #[.agg #[.int .i64 p0, x0], x1, x2] w fun e w' => ∃ v0, e = .returned (.tuple #[v0, .int .i64 (RQuadraticMap1 p0 st0 X1 X2)]) ∧ OwH w' w.heap.size v0 (RQuadraticMap0 p0 st0 X1 X2) ∧ Below w.heap.size w w' := by
  obtain ⟨a0, c0, rfl, _⟩ := id hx0.op
  obtain ⟨dv1, uv1, rfl, hd1_, hu1_⟩ := id hx1; obtain ⟨a1, c1, rfl, _⟩ := id hd1_.op; obtain ⟨b1, e1, rfl, _⟩ := id hu1_; clear hd1_ hu1_
  obtain ⟨dv2, uv2, rfl, hd2_, hu2_⟩ := id hx2; obtain ⟨a2, c2, rfl, _⟩ := id hd2_.op; obtain ⟨b2, e2, rfl, _⟩ := id hu2_; clear hd2_ hu2_
  obtain ⟨W, hW⟩ : ∃ W, W = (((((w.alloc (.cells #[.int .i64 p0, .slice a0 st0.length c0] 26)).alloc (.cells #[.slice a1 X1.dg.length c1, .slice b1 X1.up.length e1] 31)).alloc (.cells #[.slice a2 X2.dg.length c2, .slice b2 X2.up.length e2] 31)).alloc (.cells #[.slice none 0 0, .slice none 0 0] 31)).alloc (.cells #[.slice a1 X1.dg.length c1, .slice b1 X1.up.length e1, .slice a2 X2.dg.length c2, .slice b2 X2.up.length e2] 31)) := ⟨_, rfl⟩
  have hbW : Below w.heap.size w W := by rw [hW]; exact (by repeat (first | exact Below.refl _ _ | apply blw_drew | apply blw_alloc | (refine blw_set ?_ (by first | omega | (simp; done) | (simp; omega)) _) | refine below_chain ?_ (by assumption)))
  have hx0 := hx0.below hbW
  have hx1 := hx1.below hbW
  have hx2 := hx2.below hbW
  have d00 : W.cell? ⟨w.heap.size, 0, none⟩ = some (.int .i64 p0) := by rw [hW]; simp [go_sem]
  have d01 : W.cell? ⟨w.heap.size, 1, none⟩ = some (.slice a0 st0.length c0) := by rw [hW]; simp [go_sem]
  have d10 : W.cell? ⟨w.heap.size + 1, 0, none⟩ = some (.slice a1 X1.dg.length c1) := by rw [hW]; simp [go_sem]
  have d11 : W.cell? ⟨w.heap.size + 1, 1, none⟩ = some (.slice b1 X1.up.length e1) := by rw [hW]; simp [go_sem]
  have d20 : W.cell? ⟨w.heap.size + 1 + 1, 0, none⟩ = some (.slice a2 X2.dg.length c2) := by rw [hW]; simp [go_sem]
  have d21 : W.cell? ⟨w.heap.size + 1 + 1, 1, none⟩ = some (.slice b2 X2.up.length e2) := by rw [hW]; simp [go_sem]
  have hr : Bx W (w.heap.size + 1 + 1 + 1) (.slice none 0 0) (.slice none 0 0) := by rw [hW]; exact Bx.below (by unfold Bx; rw [show w.heap.size + 1 + 1 + 1 = (((w.alloc (.cells #[.int .i64 p0, .slice a0 st0.length c0] 26)).alloc (.cells #[.slice a1 X1.dg.length c1, .slice b1 X1.up.length e1] 31)).alloc (.cells #[.slice a2 X2.dg.length c2, .slice b2 X2.up.length e2] 31)).heap.size by simp]; exact heap_alloc_new _ _) (by repeat (first | exact Below.refl _ _ | apply blw_drew | apply blw_alloc | (refine blw_set ?_ (by first | omega | (simp; done) | (simp; omega)) _) | refine below_chain ?_ (by assumption)))
  have hWs : W.heap.size = w.heap.size + 1 + 1 + 1 + 1 + 1 := by rw [hW]; simp
  have gl : Lh W (.slice (some ⟨w.heap.size + 1 + 1 + 1 + 1, 0, none⟩) 2 2) [X1, X2] := Lh.two hx1 (by rw [hW]; simp [go_sem]) (by rw [hW]; simp [go_sem]) hx2 (by rw [hW]; simp [go_sem]) (by rw [hW]; simp [go_sem])
  have hcon := sl16_c (p := p0) hx0 hm0 gl (by intro X hX; simp at hX; rcases hX with rfl | rfl <;> assumption) (by simp)
  have HWs := Lib.hid hWs; clear hWs
  rw [hW] at hcon
  by_cases h0 : chkH p0 st0 [X1, X2] = 0
  · rw [h0] at hcon
    obtain ⟨hd, hall⟩ := chkH_pos h0
    have hX1 : isH p0 (sz st0.length) X1 = true := by simp at hall; exact hall.1
    have hX2 : isH p0 (sz st0.length) X2 = true := by simp at hall; exact hall.2
    clear hall
    have e1 : RQuadraticMap1 p0 st0 X1 X2 = 0 := h0
    rw [show RQuadraticMap0 p0 st0 X1 X2 = quadH p0 st0 X1 X2 from if_pos e1, e1]
    clear e1
    go_enter Tryz.func26, Tryz.ntmps26
    go_wp2_with fail
    refine hcon.mono ?_; rintro e w1 ⟨rfl, hb1⟩
    rw [← hW] at hb1
    clear hW hcon
    have hx0 := hx0.below hb1; have hx1 := hx1.below hb1; have hx2 := hx2.below hb1; have d00 := kept hb1 d00; have d01 := kept hb1 d01; have d10 := kept hb1 d10; have d11 := kept hb1 d11; have d20 := kept hb1 d20; have d21 := kept hb1 d21; have hr := hr.below hb1
    have hp1 := hd.hp.lo; have hp2 := hd.hp.hi; have hsz := sz_le hd
    have i1 := jordanH_is (p := p0) (by omega) hX1 hX2
    have i2 := jordanH_is (p := p0) (by omega) hX1 i1
    have i3 := multH_is (p := p0) (k := 2) (by omega) i2
    have i4 := jordanH_is (p := p0) (by omega) hX1 hX1
    have i5 := jordanH_is (p := p0) (by omega) i4 hX2
    have HN1 := Lib.hid (fun X Y => sumH_neg (p := p0) (X := X) (Y := Y))
    go_upto_region 4 with fail
    go_cut [9] (fun s_ wx => ∃ N d u, s_ = .pointer (some ⟨N, 0, none⟩) ∧ w1.heap.size ≤ N ∧ Bx wx N d u ∧ FrH wx w1.heap.size (.agg #[d, u]) (multH p0 (jordanH p0 st0 X1 (jordanH p0 st0 X1 X2)) 2) ∧ Below w1.heap.size w1 wx)
    case first =>
      refine region_tq [(0, 1), (1, 1), (2, 1), (3, 1), (4, 1), (5, 1)] (.two 6 5 (.two 7 5 (.two 8 5 (.lin [(false, [(9, 5)]), (false, [(10, 4)])]) 9 5 (.lin [(false, [(8, 4), (10, 4)])])) 9 5 (.lin [(false, [(7, 5)]), (false, [(8, 4), (10, 4)])])) 9 5 (.lin [(false, [(6, 5)]), (false, [(7, 5)]), (false, [(8, 4), (10, 4)])])) (by kernel_rfl) ?_
      refine norm_K fun K hK => ?_
      change wpList _ _ _ [_, _, _, _, _, _] _ _
      go_wp2_with fail
      have hbq : Below w1.heap.size w1 w1.drew := (by repeat (first | exact Below.refl _ _ | apply blw_drew | apply blw_alloc | (refine blw_set ?_ (by first | omega | (simp; done) | (simp; omega)) _) | refine below_chain ?_ (by assumption)))
      have hx0 := hx0.below hbq; have hx1 := hx1.below hbq; have hx2 := hx2.below hbq; have hr := hr.below hbq; have d00 := kept hbq d00; have d01 := kept hbq d01; have d10 := kept hbq d10; have d11 := kept hbq d11; have d20 := kept hbq d20; have d21 := kept hbq d21
      have szq : w1.heap.size = w1.drew.heap.size := rfl
      generalize w1.drew = wq at *
      refine hK _ _ ?_; clear hK K
      refine ⟨?_, ?_⟩
      · skip
        refine norm_K fun K hK => ?_
        change wpList _ _ _ [_] _ _
        go_wp2_with fail
        refine (stimes16_c hd hx0 hx1 hX1 hx2 hX2).mono ?_; rintro e w41 ⟨v1, rfl, h1, hb41⟩
        have hx0 := hx0.below hb41; have hx1 := hx1.below hb41; have hx2 := hx2.below hb41; have hr := hr.below hb41; have d00 := kept hb41 d00; have d01 := kept hb41 d01; have d10 := kept hb41 d10; have d11 := kept hb41 d11; have d20 := kept hb41 d20; have d21 := kept hb41 d21
        have sz41 : wq.heap.size ≤ w41.heap.size := hb41.size
        go_wp2_with fail
        first | (refine hK _ _ ⟨(by repeat (first | exact Below.refl _ _ | apply blw_drew | apply blw_alloc | (refine blw_set ?_ (by first | omega | (simp; done) | (simp; omega)) _) | refine below_chain ?_ (by assumption))), ?_⟩; clear hK K) | refine ⟨(by repeat (first | exact Below.refl _ _ | apply blw_drew | apply blw_alloc | (refine blw_set ?_ (by first | omega | (simp; done) | (simp; omega)) _) | refine below_chain ?_ (by assumption))), ?_⟩
        refine ⟨?_, ?_⟩
        · skip
          refine norm_K fun K hK => ?_
          change wpList _ _ _ [_] _ _
          go_wp2_with fail
          refine (stimes16_c hd hx0 hx1 hX1 h1.hv i1).mono ?_; rintro e w42 ⟨v2, rfl, h2, hb42⟩
          have hx0 := hx0.below hb42; have hx1 := hx1.below hb42; have hx2 := hx2.below hb42; have hr := hr.below hb42; have d00 := kept hb42 d00; have d01 := kept hb42 d01; have d10 := kept hb42 d10; have d11 := kept hb42 d11; have d20 := kept hb42 d20; have d21 := kept hb42 d21; have h1 := h1.below hb42
          have sz42 : w41.heap.size ≤ w42.heap.size := hb42.size
          go_wp2_with fail
          first | (refine hK _ _ ⟨(by repeat (first | exact Below.refl _ _ | apply blw_drew | apply blw_alloc | (refine blw_set ?_ (by first | omega | (simp; done) | (simp; omega)) _) | refine below_chain ?_ (by assumption))), ?_⟩; clear hK K) | refine ⟨(by repeat (first | exact Below.refl _ _ | apply blw_drew | apply blw_alloc | (refine blw_set ?_ (by first | omega | (simp; done) | (simp; omega)) _) | refine below_chain ?_ (by assumption))), ?_⟩
          refine ⟨?_, ?_⟩
          · skip
            refine norm_K fun K hK => ?_
            change wpList _ _ _ [_] _ _
            go_wp2_with fail
            refine (sscale16_c (k := 2) hd hx0 h2.hv i2 (by decide) (by decide)).mono ?_; rintro e w43 ⟨v3, rfl, h3, hb43⟩
            have hx0 := hx0.below hb43; have hx1 := hx1.below hb43; have hx2 := hx2.below hb43; have hr := hr.below hb43; have d00 := kept hb43 d00; have d01 := kept hb43 d01; have d10 := kept hb43 d10; have d11 := kept hb43 d11; have d20 := kept hb43 d20; have d21 := kept hb43 d21; have h1 := h1.below hb43; have h2 := h2.below hb43
            have sz43 : w42.heap.size ≤ w43.heap.size := hb43.size
            obtain ⟨dq, uq, usq, rfl, ⟨g2, k2_, rfl, q2⟩, hu2_, hne2⟩ := id h3; obtain ⟨g3, k3_, rfl, hq3_⟩ := id hu2_; clear hq3_ hu2_ q2
            go_wp2_with fail
            first | (refine hK _ _ ⟨(by repeat (first | exact Below.refl _ _ | apply blw_drew | apply blw_alloc | (refine blw_set ?_ (by first | omega | (simp; done) | (simp; omega)) _) | refine below_chain ?_ (by assumption))), ?_⟩; clear hK K) | refine ⟨(by repeat (first | exact Below.refl _ _ | apply blw_drew | apply blw_alloc | (refine blw_set ?_ (by first | omega | (simp; done) | (simp; omega)) _) | refine below_chain ?_ (by assumption))), ?_⟩
            refine norm_K fun K hK => ?_
            change wpList _ _ _ [_] _ _
            go_wp2_with fail
            have hb44 : Below w43.heap.size w43 (w43.alloc (.cells #[.slice none 0 0, .slice none 0 0] 31)) := (by repeat (first | exact Below.refl _ _ | apply blw_drew | apply blw_alloc | (refine blw_set ?_ (by first | omega | (simp; done) | (simp; omega)) _) | refine below_chain ?_ (by assumption)))
            have h3A := h3; have hbA := hb44
            have hx0 := hx0.below hb44; have hx1 := hx1.below hb44; have hx2 := hx2.below hb44; have hr := hr.below hb44; have d00 := kept hb44 d00; have d01 := kept hb44 d01; have d10 := kept hb44 d10; have d11 := kept hb44 d11; have d20 := kept hb44 d20; have d21 := kept hb44 d21; have h1 := h1.below hb44; have h2 := h2.below hb44; have h3 := h3.below hb44
            have hN : Bx (w43.alloc (.cells #[.slice none 0 0, .slice none 0 0] 31)) w43.heap.size (.slice none 0 0) (.slice none 0 0) := heap_alloc_new _ _
            have sz44 : w43.heap.size + 1 = (w43.alloc (.cells #[.slice none 0 0, .slice none 0 0] 31)).heap.size := by simp
            go_wp2_with fail
            obtain ⟨w44, hw_⟩ : ∃ x, x = (w43.alloc (.cells #[.slice none 0 0, .slice none 0 0] 31)) := ⟨_, rfl⟩
            rw [← hw_] at hb44 sz44 hx0 hx1 hx2 hr d00 d01 d10 d11 d20 d21 h1 h2 h3 hN hbA ⊢; clear hw_
            go_wp2_with fail
            first | (refine hK _ _ ⟨(by repeat (first | exact Below.refl _ _ | apply blw_drew | apply blw_alloc | (refine blw_set ?_ (by first | omega | (simp; done) | (simp; omega)) _) | refine below_chain ?_ (by assumption))), ?_⟩; clear hK K) | refine ⟨(by repeat (first | exact Below.refl _ _ | apply blw_drew | apply blw_alloc | (refine blw_set ?_ (by first | omega | (simp; done) | (simp; omega)) _) | refine below_chain ?_ (by assumption))), ?_⟩
            refine norm_K fun K hK => ?_
            change wpList _ _ _ [_] _ _
            have rc0 := hN.c0; have rc1 := hN.c1; have rf0 := hN.f0; have rf1 := hN.f1
            go_wp2_with fail
            first | (refine hK _ _ ⟨rfl, ?_⟩; clear hK K) | refine ⟨rfl, ?_⟩
            go_wp2_with fail
            go_meet
            case rel => exact ⟨w43.heap.size, _, _, rfl, by omega, (hN.set0 _).set1 _, (h3A.below (blw_set (p := ⟨w43.heap.size, 1, none⟩) (blw_set (p := ⟨w43.heap.size, 0, none⟩) hbA (Nat.le_refl _) _) (Nat.le_refl _) _)).more (by omega), (by repeat (first | exact Below.refl _ _ | apply blw_drew | apply blw_alloc | (refine blw_set ?_ (by first | omega | (simp; done) | (simp; omega)) _) | refine below_chain ?_ (by assumption)))⟩
          · skip
            refine norm_K fun K hK => ?_
            change wpList _ _ _ [_] _ _
            go_wp2_with fail
            have hb43 : Below w42.heap.size w42 (w42.alloc (.cells #[.slice none 0 0, .slice none 0 0] 31)) := (by repeat (first | exact Below.refl _ _ | apply blw_drew | apply blw_alloc | (refine blw_set ?_ (by first | omega | (simp; done) | (simp; omega)) _) | refine below_chain ?_ (by assumption)))
            have hx0 := hx0.below hb43; have hx1 := hx1.below hb43; have hx2 := hx2.below hb43; have hr := hr.below hb43; have d00 := kept hb43 d00; have d01 := kept hb43 d01; have d10 := kept hb43 d10; have d11 := kept hb43 d11; have d20 := kept hb43 d20; have d21 := kept hb43 d21; have h1 := h1.below hb43; have h2 := h2.below hb43
            have hN : Bx (w42.alloc (.cells #[.slice none 0 0, .slice none 0 0] 31)) w42.heap.size (.slice none 0 0) (.slice none 0 0) := heap_alloc_new _ _
            have sz43 : w42.heap.size + 1 = (w42.alloc (.cells #[.slice none 0 0, .slice none 0 0] 31)).heap.size := by simp
            go_wp2_with fail
            obtain ⟨w43, hw_⟩ : ∃ x, x = (w42.alloc (.cells #[.slice none 0 0, .slice none 0 0] 31)) := ⟨_, rfl⟩
            rw [← hw_] at hb43 sz43 hx0 hx1 hx2 hr d00 d01 d10 d11 d20 d21 h1 h2 hN ⊢; clear hw_
            go_wp2_with fail
            first | (refine hK _ _ ⟨(by repeat (first | exact Below.refl _ _ | apply blw_drew | apply blw_alloc | (refine blw_set ?_ (by first | omega | (simp; done) | (simp; omega)) _) | refine below_chain ?_ (by assumption))), ?_⟩; clear hK K) | refine ⟨(by repeat (first | exact Below.refl _ _ | apply blw_drew | apply blw_alloc | (refine blw_set ?_ (by first | omega | (simp; done) | (simp; omega)) _) | refine below_chain ?_ (by assumption))), ?_⟩
            refine norm_K fun K hK => ?_
            change wpList _ _ _ [_, _] _ _
            go_wp2_with fail
            refine (sscale16_c (k := 2) hd hx0 h2.hv i2 (by decide) (by decide)).mono ?_; rintro e w44 ⟨v3, rfl, h3, hb44⟩
            have hx0 := hx0.below hb44; have hx1 := hx1.below hb44; have hx2 := hx2.below hb44; have hr := hr.below hb44; have d00 := kept hb44 d00; have d01 := kept hb44 d01; have d10 := kept hb44 d10; have d11 := kept hb44 d11; have d20 := kept hb44 d20; have d21 := kept hb44 d21; have h1 := h1.below hb44; have h2 := h2.below hb44; have hN := hN.below hb44
            have sz44 : w43.heap.size ≤ w44.heap.size := hb44.size
            obtain ⟨dq, uq, usq, rfl, ⟨g2, k2_, rfl, q2⟩, hu2_, hne2⟩ := id h3; obtain ⟨g3, k3_, rfl, hq3_⟩ := id hu2_; clear hq3_ hu2_ q2
            have rc0 := hN.c0; have rc1 := hN.c1; have rf0 := hN.f0; have rf1 := hN.f1
            go_wp2_with fail
            first | (refine hK _ _ ⟨rfl, ?_⟩; clear hK K) | refine ⟨rfl, ?_⟩
            go_wp2_with fail
            go_meet
            case rel => exact ⟨w42.heap.size, _, _, rfl, by omega, (hN.set0 _).set1 _, ((h3.set_ (p := ⟨w42.heap.size, 0, none⟩) (show w42.heap.size < _ by omega) _).set_ (p := ⟨w42.heap.size, 1, none⟩) (show w42.heap.size < _ by omega) _).more (by omega), (by repeat (first | exact Below.refl _ _ | apply blw_drew | apply blw_alloc | (refine blw_set ?_ (by first | omega | (simp; done) | (simp; omega)) _) | refine below_chain ?_ (by assumption)))⟩
        · skip
          refine norm_K fun K hK => ?_
          change wpList _ _ _ [_] _ _
          go_wp2_with fail
          have hb42 : Below w41.heap.size w41 (w41.alloc (.cells #[.slice none 0 0, .slice none 0 0] 31)) := (by repeat (first | exact Below.refl _ _ | apply blw_drew | apply blw_alloc | (refine blw_set ?_ (by first | omega | (simp; done) | (simp; omega)) _) | refine below_chain ?_ (by assumption)))
          have hx0 := hx0.below hb42; have hx1 := hx1.below hb42; have hx2 := hx2.below hb42; have hr := hr.below hb42; have d00 := kept hb42 d00; have d01 := kept hb42 d01; have d10 := kept hb42 d10; have d11 := kept hb42 d11; have d20 := kept hb42 d20; have d21 := kept hb42 d21; have h1 := h1.below hb42
          have hN : Bx (w41.alloc (.cells #[.slice none 0 0, .slice none 0 0] 31)) w41.heap.size (.slice none 0 0) (.slice none 0 0) := heap_alloc_new _ _
          have sz42 : w41.heap.size + 1 = (w41.alloc (.cells #[.slice none 0 0, .slice none 0 0] 31)).heap.size := by simp
          go_wp2_with fail
          obtain ⟨w42, hw_⟩ : ∃ x, x = (w41.alloc (.cells #[.slice none 0 0, .slice none 0 0] 31)) := ⟨_, rfl⟩
          rw [← hw_] at hb42 sz42 hx0 hx1 hx2 hr d00 d01 d10 d11 d20 d21 h1 hN ⊢; clear hw_
          go_wp2_with fail
          first | (refine hK _ _ ⟨(by repeat (first | exact Below.refl _ _ | apply blw_drew | apply blw_alloc | (refine blw_set ?_ (by first | omega | (simp; done) | (simp; omega)) _) | refine below_chain ?_ (by assumption))), ?_⟩; clear hK K) | refine ⟨(by repeat (first | exact Below.refl _ _ | apply blw_drew | apply blw_alloc | (refine blw_set ?_ (by first | omega | (simp; done) | (simp; omega)) _) | refine below_chain ?_ (by assumption))), ?_⟩
          refine norm_K fun K hK => ?_
          change wpList _ _ _ [_] _ _
          go_wp2_with fail
          refine (stimes16_c hd hx0 hx1 hX1 h1.hv i1).mono ?_; rintro e w43 ⟨v2, rfl, h2, hb43⟩
          have hx0 := hx0.below hb43; have hx1 := hx1.below hb43; have hx2 := hx2.below hb43; have hr := hr.below hb43; have d00 := kept hb43 d00; have d01 := kept hb43 d01; have d10 := kept hb43 d10; have d11 := kept hb43 d11; have d20 := kept hb43 d20; have d21 := kept hb43 d21; have h1 := h1.below hb43; have hN := hN.below hb43
          have sz43 : w42.heap.size ≤ w43.heap.size := hb43.size
          go_wp2_with fail
          first | (refine hK _ _ ⟨(by repeat (first | exact Below.refl _ _ | apply blw_drew | apply blw_alloc | (refine blw_set ?_ (by first | omega | (simp; done) | (simp; omega)) _) | refine below_chain ?_ (by assumption))), ?_⟩; clear hK K) | refine ⟨(by repeat (first | exact Below.refl _ _ | apply blw_drew | apply blw_alloc | (refine blw_set ?_ (by first | omega | (simp; done) | (simp; omega)) _) | refine below_chain ?_ (by assumption))), ?_⟩
          refine norm_K fun K hK => ?_
          change wpList _ _ _ [_, _] _ _
          go_wp2_with fail
          refine (sscale16_c (k := 2) hd hx0 h2.hv i2 (by decide) (by decide)).mono ?_; rintro e w44 ⟨v3, rfl, h3, hb44⟩
          have hx0 := hx0.below hb44; have hx1 := hx1.below hb44; have hx2 := hx2.below hb44; have hr := hr.below hb44; have d00 := kept hb44 d00; have d01 := kept hb44 d01; have d10 := kept hb44 d10; have d11 := kept hb44 d11; have d20 := kept hb44 d20; have d21 := kept hb44 d21; have h1 := h1.below hb44; have hN := hN.below hb44; have h2 := h2.below hb44
          have sz44 : w43.heap.size ≤ w44.heap.size := hb44.size
          obtain ⟨dq, uq, usq, rfl, ⟨g2, k2_, rfl, q2⟩, hu2_, hne2⟩ := id h3; obtain ⟨g3, k3_, rfl, hq3_⟩ := id hu2_; clear hq3_ hu2_ q2
          have rc0 := hN.c0; have rc1 := hN.c1; have rf0 := hN.f0; have rf1 := hN.f1
          go_wp2_with fail
          first | (refine hK _ _ ⟨rfl, ?_⟩; clear hK K) | refine ⟨rfl, ?_⟩
          go_wp2_with fail
          go_meet
          case rel => exact ⟨w41.heap.size, _, _, rfl, by omega, (hN.set0 _).set1 _, ((h3.set_ (p := ⟨w41.heap.size, 0, none⟩) (show w41.heap.size < _ by omega) _).set_ (p := ⟨w41.heap.size, 1, none⟩) (show w41.heap.size < _ by omega) _).more (by omega), (by repeat (first | exact Below.refl _ _ | apply blw_drew | apply blw_alloc | (refine blw_set ?_ (by first | omega | (simp; done) | (simp; omega)) _) | refine below_chain ?_ (by assumption)))⟩
      · skip
        refine norm_K fun K hK => ?_
        change wpList _ _ _ [_] _ _
        go_wp2_with fail
        have hb41 : Below wq.heap.size wq (wq.alloc (.cells #[.slice none 0 0, .slice none 0 0] 31)) := (by repeat (first | exact Below.refl _ _ | apply blw_drew | apply blw_alloc | (refine blw_set ?_ (by first | omega | (simp; done) | (simp; omega)) _) | refine below_chain ?_ (by assumption)))
        have hx0 := hx0.below hb41; have hx1 := hx1.below hb41; have hx2 := hx2.below hb41; have hr := hr.below hb41; have d00 := kept hb41 d00; have d01 := kept hb41 d01; have d10 := kept hb41 d10; have d11 := kept hb41 d11; have d20 := kept hb41 d20; have d21 := kept hb41 d21
        have hN : Bx (wq.alloc (.cells #[.slice none 0 0, .slice none 0 0] 31)) wq.heap.size (.slice none 0 0) (.slice none 0 0) := heap_alloc_new _ _
        have sz41 : wq.heap.size + 1 = (wq.alloc (.cells #[.slice none 0 0, .slice none 0 0] 31)).heap.size := by simp
        go_wp2_with fail
        obtain ⟨w41, hw_⟩ : ∃ x, x = (wq.alloc (.cells #[.slice none 0 0, .slice none 0 0] 31)) := ⟨_, rfl⟩
        rw [← hw_] at hb41 sz41 hx0 hx1 hx2 hr d00 d01 d10 d11 d20 d21 hN ⊢; clear hw_
        go_wp2_with fail
        first | (refine hK _ _ ⟨(by repeat (first | exact Below.refl _ _ | apply blw_drew | apply blw_alloc | (refine blw_set ?_ (by first | omega | (simp; done) | (simp; omega)) _) | refine below_chain ?_ (by assumption))), ?_⟩; clear hK K) | refine ⟨(by repeat (first | exact Below.refl _ _ | apply blw_drew | apply blw_alloc | (refine blw_set ?_ (by first | omega | (simp; done) | (simp; omega)) _) | refine below_chain ?_ (by assumption))), ?_⟩
        refine norm_K fun K hK => ?_
        change wpList _ _ _ [_] _ _
        go_wp2_with fail
        refine (stimes16_c hd hx0 hx1 hX1 hx2 hX2).mono ?_; rintro e w42 ⟨v1, rfl, h1, hb42⟩
        have hx0 := hx0.below hb42; have hx1 := hx1.below hb42; have hx2 := hx2.below hb42; have hr := hr.below hb42; have d00 := kept hb42 d00; have d01 := kept hb42 d01; have d10 := kept hb42 d10; have d11 := kept hb42 d11; have d20 := kept hb42 d20; have d21 := kept hb42 d21; have hN := hN.below hb42
        have sz42 : w41.heap.size ≤ w42.heap.size := hb42.size
        go_wp2_with fail
        first | (refine hK _ _ ⟨(by repeat (first | exact Below.refl _ _ | apply blw_drew | apply blw_alloc | (refine blw_set ?_ (by first | omega | (simp; done) | (simp; omega)) _) | refine below_chain ?_ (by assumption))), ?_⟩; clear hK K) | refine ⟨(by repeat (first | exact Below.refl _ _ | apply blw_drew | apply blw_alloc | (refine blw_set ?_ (by first | omega | (simp; done) | (simp; omega)) _) | refine below_chain ?_ (by assumption))), ?_⟩
        refine norm_K fun K hK => ?_
        change wpList _ _ _ [_] _ _
        go_wp2_with fail
        refine (stimes16_c hd hx0 hx1 hX1 h1.hv i1).mono ?_; rintro e w43 ⟨v2, rfl, h2, hb43⟩
        have hx0 := hx0.below hb43; have hx1 := hx1.below hb43; have hx2 := hx2.below hb43; have hr := hr.below hb43; have d00 := kept hb43 d00; have d01 := kept hb43 d01; have d10 := kept hb43 d10; have d11 := kept hb43 d11; have d20 := kept hb43 d20; have d21 := kept hb43 d21; have hN := hN.below hb43; have h1 := h1.below hb43
        have sz43 : w42.heap.size ≤ w43.heap.size := hb43.size
        go_wp2_with fail
        first | (refine hK _ _ ⟨(by repeat (first | exact Below.refl _ _ | apply blw_drew | apply blw_alloc | (refine blw_set ?_ (by first | omega | (simp; done) | (simp; omega)) _) | refine below_chain ?_ (by assumption))), ?_⟩; clear hK K) | refine ⟨(by repeat (first | exact Below.refl _ _ | apply blw_drew | apply blw_alloc | (refine blw_set ?_ (by first | omega | (simp; done) | (simp; omega)) _) | refine below_chain ?_ (by assumption))), ?_⟩
        refine norm_K fun K hK => ?_
        change wpList _ _ _ [_, _] _ _
        go_wp2_with fail
        refine (sscale16_c (k := 2) hd hx0 h2.hv i2 (by decide) (by decide)).mono ?_; rintro e w44 ⟨v3, rfl, h3, hb44⟩
        have hx0 := hx0.below hb44; have hx1 := hx1.below hb44; have hx2 := hx2.below hb44; have hr := hr.below hb44; have d00 := kept hb44 d00; have d01 := kept hb44 d01; have d10 := kept hb44 d10; have d11 := kept hb44 d11; have d20 := kept hb44 d20; have d21 := kept hb44 d21; have hN := hN.below hb44; have h1 := h1.below hb44; have h2 := h2.below hb44
        have sz44 : w43.heap.size ≤ w44.heap.size := hb44.size
        obtain ⟨dq, uq, usq, rfl, ⟨g2, k2_, rfl, q2⟩, hu2_, hne2⟩ := id h3; obtain ⟨g3, k3_, rfl, hq3_⟩ := id hu2_; clear hq3_ hu2_ q2
        have rc0 := hN.c0; have rc1 := hN.c1; have rf0 := hN.f0; have rf1 := hN.f1
        go_wp2_with fail
        first | (refine hK _ _ ⟨rfl, ?_⟩; clear hK K) | refine ⟨rfl, ?_⟩
        go_wp2_with fail
        go_meet
        case rel => exact ⟨wq.heap.size, _, _, rfl, by omega, (hN.set0 _).set1 _, ((h3.set_ (p := ⟨wq.heap.size, 0, none⟩) (show wq.heap.size < _ by omega) _).set_ (p := ⟨wq.heap.size, 1, none⟩) (show wq.heap.size < _ by omega) _).more (by omega), (by repeat (first | exact Below.refl _ _ | apply blw_drew | apply blw_alloc | (refine blw_set ?_ (by first | omega | (simp; done) | (simp; omega)) _) | refine below_chain ?_ (by assumption)))⟩
    case' rest => skip
    obtain ⟨N0, dN, uN, rfl, hN0, hN, hF, hbC⟩ := hcut
    have hx0 := hx0.below hbC; have hx1 := hx1.below hbC; have hx2 := hx2.below hbC; have hr := hr.below hbC; have d00 := kept hbC d00; have d01 := kept hbC d01; have d10 := kept hbC d10; have d11 := kept hbC d11; have d20 := kept hbC d20; have d21 := kept hbC d21
    have n0 := hN.c0; have n1 := hN.c1
    clear hN
    go_wp2_with fail
    refine region_flow [(false, [(0, 0), (1, 1), (2, 1), (3, 0), (4, 1), (5, 0), (6, 1), (7, 1), (8, 1), (9, 1), (11, 1), (10, 5)]), (false, [(12, 5)]), (false, [(13, 4), (14, 4), (15, 0)])] (by kernel_rfl) ?_
    refine norm_K fun K hK => ?_
    change wpList _ _ _ [_, _, _, _, _, _, _, _, _, _, _, _] _ _
    have hb21 : Below wc.heap.size wc wc.drew := (by repeat (first | exact Below.refl _ _ | apply blw_drew | apply blw_alloc | (refine blw_set ?_ (by first | omega | (simp; done) | (simp; omega)) _) | refine below_chain ?_ (by assumption)))
    have hx0 := hx0.below hb21; have hx1 := hx1.below hb21; have hx2 := hx2.below hb21; have hr := hr.below hb21; have d00 := kept hb21 d00; have d01 := kept hb21 d01; have d10 := kept hb21 d10; have d11 := kept hb21 d11; have d20 := kept hb21 d20; have d21 := kept hb21 d21; have hF := hF.below hb21; have n0 := kept hb21 n0; have n1 := kept hb21 n1
    generalize wc.drew = wq at *
    have hzq_ : w1.heap.size ≤ wq.heap.size := (below_le (by repeat (first | exact Below.refl _ _ | apply blw_drew | apply blw_alloc | (refine blw_set ?_ (by first | omega | (simp; done) | (simp; omega)) _) | refine below_chain ?_ (by assumption))))
    go_wp2_with fail
    refine (stimes16_c hd hx0 hx1 hX1 hx1 hX1).mono ?_; rintro e w22 ⟨v4, rfl, h4, hb22⟩
    have hx0 := hx0.below hb22; have hx1 := hx1.below hb22; have hx2 := hx2.below hb22; have hr := hr.below hb22; have d00 := kept hb22 d00; have d01 := kept hb22 d01; have d10 := kept hb22 d10; have d11 := kept hb22 d11; have d20 := kept hb22 d20; have d21 := kept hb22 d21; have hF := hF.below hb22; have n0 := kept hb22 n0; have n1 := kept hb22 n1
    go_wp2_with fail
    have hz0 : Below wq.heap.size wq w22 := (by repeat (first | exact Below.refl _ _ | apply blw_drew | apply blw_alloc | (refine blw_set ?_ (by first | omega | (simp; done) | (simp; omega)) _) | refine below_chain ?_ (by assumption)))
    first | (refine hK _ _ ⟨hz0, ?_⟩; clear hK K) | refine ⟨hz0, ?_⟩
    clear hz0
    refine norm_K fun K hK => ?_
    change wpList _ _ _ [_] _ _
    go_wp2_with fail
    refine (stimes16_c hd hx0 h4.hv i4 hx2 hX2).mono ?_; rintro e w23 ⟨v5, rfl, h5, hb23⟩
    have hx0 := hx0.below hb23; have hx1 := hx1.below hb23; have hx2 := hx2.below hb23; have hr := hr.below hb23; have d00 := kept hb23 d00; have d01 := kept hb23 d01; have d10 := kept hb23 d10; have d11 := kept hb23 d11; have d20 := kept hb23 d20; have d21 := kept hb23 d21; have hF := hF.below hb23; have n0 := kept hb23 n0; have n1 := kept hb23 n1; have h4 := h4.below hb23
    go_wp2_with fail
    have hz1 : Below wq.heap.size wq w23 := (by repeat (first | exact Below.refl _ _ | apply blw_drew | apply blw_alloc | (refine blw_set ?_ (by first | omega | (simp; done) | (simp; omega)) _) | refine below_chain ?_ (by assumption)))
    first | (refine hK _ _ ⟨hz1, ?_⟩; clear hK K) | refine ⟨hz1, ?_⟩
    clear hz1
    refine norm_K fun K hK => ?_
    change wpList _ _ _ [_, _, _] _ _
    have hzc_ : w1.heap.size ≤ (w23).heap.size := (below_le (by repeat (first | exact Below.refl _ _ | apply blw_drew | apply blw_alloc | (refine blw_set ?_ (by first | omega | (simp; done) | (simp; omega)) _) | refine below_chain ?_ (by assumption))))
    (try simp at hzc_)
    go_wp2_with fail
    refine (ssum_c (k := p0 - 1) (by omega) (by omega) hF.hv i3 h5.hv i5 (by omega) (by omega) (by omega)).mono ?_; rintro e w24 ⟨v, rfl, hv, hb24⟩
    have hx0 := hx0.below hb24; have hx1 := hx1.below hb24; have hx2 := hx2.below hb24; have hr := hr.below hb24; have d00 := kept hb24 d00; have d01 := kept hb24 d01; have d10 := kept hb24 d10; have d11 := kept hb24 d11; have d20 := kept hb24 d20; have d21 := kept hb24 d21; have hF := hF.below hb24; have n0 := kept hb24 n0; have n1 := kept hb24 n1; have h4 := h4.below hb24; have h5 := h5.below hb24
    rw [HN1.out] at hv
    change FrH _ _ _ (quadH p0 st0 X1 X2) at hv
    obtain ⟨d, u, us, rfl, ⟨g1, cap1, rfl, h1⟩, hu, hne⟩ := id hv
    obtain ⟨g2, cap2, rfl, _⟩ := id hu
    have hul : us.length = 3 := by obtain ⟨_, _, _, _, h, _⟩ := hu; exact h
    have HU := Lib.hid hul; clear hul
    have hu3 : (quadH p0 st0 X1 X2).up.length = 3 := (isH_parts (quadH_is (p := p0) (by omega) hX1 hX2)).2.2.1
    have hu4 : (quadH p0 st0 X1 X2).dg.length = 3 := (isH_parts (quadH_is (p := p0) (by omega) hX1 hX2)).1
    have hz1_ : w.heap.size + 1 + 1 + 1 + 1 + 1 ≤ w1.heap.size := by have := hb1.size; have := HWs.out; omega
    have rc0 := hr.c0; have rc1 := hr.c1; have rf0 := hr.f0; have rf1 := hr.f1
    go_wp2_with fail
    first | (refine hK _ _ ⟨rfl, ?_⟩; clear hK K) | refine ⟨rfl, ?_⟩
    go_wp2_with fail
    refine bodyPost_ret (v := .tuple #[.agg #[.slice (some ⟨g1, 0, none⟩) (quadH p0 st0 X1 X2).dg.length cap1, .slice (some ⟨g2, 0, none⟩) us.length cap2], .int .i64 0]) (by simp [results, Tryz.results26, go_sem, rc0, rc1, HU.out, hu3, hu4]) rfl ⟨_, rfl, .inr ?_, ?_⟩
    · exact ((hv.set_ (by first | omega | (simp; done) | (simp; omega)) _).set_ (by first | omega | (simp; done) | (simp; omega)) _).more (below_le (by repeat (first | exact Below.refl _ _ | apply blw_drew | apply blw_alloc | (refine blw_set ?_ (by first | omega | (simp; done) | (simp; omega)) _) | refine below_chain ?_ (by assumption))))
    · exact blw_set (blw_set (by repeat (first | exact Below.refl _ _ | apply blw_drew | apply blw_alloc | (refine blw_set ?_ (by first | omega | (simp; done) | (simp; omega)) _) | refine below_chain ?_ (by assumption))) (by first | omega | (simp; done) | (simp; omega)) _) (by first | omega | (simp; done) | (simp; omega)) _
  · have e1 : RQuadraticMap1 p0 st0 X1 X2 = chkH p0 st0 [X1, X2] := rfl
    rw [show RQuadraticMap0 p0 st0 X1 X2 = ⟨[], []⟩ from if_neg (by rw [e1]; exact h0), e1]; clear e1
    obtain ⟨k, hk⟩ : ∃ k, k = chkH p0 st0 [X1, X2] := ⟨_, rfl⟩
    rw [← hk] at h0 hcon ⊢
    clear hk
    have hne : (k == 0) = false := by simpa using h0
    go_enter Tryz.func26, Tryz.ntmps26
    go_wp2_with fail
    refine hcon.mono ?_; rintro e w1 ⟨rfl, hb1⟩
    rw [← hW] at hb1
    clear hW hcon
    have hr := hr.below hb1
    have rc0 := hr.c0; have rc1 := hr.c1; have rf0 := hr.f0; have rf1 := hr.f1
    go_wp2_with fail
    refine bodyPost_ret (v := .tuple #[.agg #[.slice none 0 0, .slice none 0 0], .int .i64 k]) (by simp [results, Tryz.results26, go_sem, rc0, rc1]) rfl ⟨_, rfl, .inl ⟨rfl, rfl⟩, ?_⟩
    exact blw_set (blw_set (by repeat (first | exact Below.refl _ _ | apply blw_drew | apply blw_alloc | (refine blw_set ?_ (by first | omega | (simp; done) | (simp; omega)) _) | refine below_chain ?_ (by assumption))) (by first | omega | (simp; done) | (simp; omega)) _) (by first | omega | (simp; done) | (simp; omega)) _
end Go.Proofs.YtacfanjejaellaaGreat
