/- Texts joined for a claim: LPointAt, LNormalPoint, LIsPoint, LIsPrimitive, FlowP. -/
import Derived.Test.YtgcelfnjijhmkaaGreatCPointAt
import Derived.Test.YtgcelfnjijhmkaaGreatJbq
import Derived.Test.YtgcelfnjijhmkaaGreatHcW
import Derived.Test.YtgcelfnjijhmkaaGreatJbb
import Derived.Test.YtgcelfnjijhmkaaGreatJbn
import Derived.Test.YtgcelfnjijhmkaaGreatFlow
/-
  PointAt: the law.
-/
namespace Go.Proofs.YtgcelfnjijhmkaaGreat
open Go.RowKit

theorem RPointAt0_len (p0 : Int) (st0 : List Int) (xs1 : List Int) (xs2 : List Int) (_ : st0.length ≤ 1048576) (_ : xs1.length ≤ 1048576) (_ : xs2.length ≤ 1048576) : Hs (RPointAt0 p0 st0 xs1 xs2) := by
  unfold RPointAt0
  split
  · rename_i h
    obtain ⟨hd, hall⟩ := chk3_pos h
    exact isH_hs hd (pointH_is (by have := hd.hp.lo; omega) (hall _ (by simp)) (hall _ (by simp)))
  · exact Hs.none

end Go.Proofs.YtgcelfnjijhmkaaGreat
/-
  NormalPoint: the law.
-/
namespace Go.Proofs.YtgcelfnjijhmkaaGreat
open Go.RowKit

theorem RNormalPoint0_len (p0 : Int) (st0 : List Int) (X1 : Her) (_ : st0.length ≤ 1048576) (_ : Hsz X1) : Hs (RNormalPoint0 p0 st0 X1) := by
  unfold RNormalPoint0
  split
  · rename_i h
    have h0 := h
    obtain ⟨hd, hall⟩ := (ptsH_pos h0).1
    simp at hall
    exact isH_hs hd (multH_is (by have := hd.hp.lo; omega) hall)
  · exact Hs.none

end Go.Proofs.YtgcelfnjijhmkaaGreat
/-
  Points: the program's and the reference's, and the law.
-/
namespace Go.Proofs.YtgcelfnjijhmkaaGreat
open Go.RowKit

def RIsPoint1 (p : Int) (st : List Int) (X : Her) : Int := chkH p st [X]
def RIsPoint0 (p : Int) (st : List Int) (X : Her) : Bool := if chkH p st [X] = 0 then rankH p st X == 1 else false
theorem iIsPoint_c {p0 : Int} {x0 : Value} {st0 : List Int} {x1 : Value} {X1 : Her} {w : World} (hx0 : El w x0 st0) (hm0 : st0.length ≤ 1048576) (hx1 : Hv w x1 X1) (hz1 : Hsz X1) :
    Calls Tryz.prog 11 #[.agg #[.int .i64 p0, x0], x1] w fun e w' => e = .returned (.tuple #[.bool (RIsPoint0 p0 st0 X1), .int .i64 (RIsPoint1 p0 st0 X1)]) ∧ Below w.heap.size w w' := by
  obtain ⟨a0, c0, rfl, _⟩ := id hx0.op
  obtain ⟨dv1, uv1, rfl, hd1_, hu1_⟩ := id hx1; obtain ⟨a1, c1, rfl, _⟩ := id hd1_.op; obtain ⟨b1, e1, rfl, _⟩ := id hu1_; clear hd1_ hu1_
  obtain ⟨W, hW⟩ : ∃ W, W = (((w.alloc (.cells #[.int .i64 p0, .slice a0 st0.length c0] 26)).alloc (.cells #[.slice a1 X1.dg.length c1, .slice b1 X1.up.length e1] 31)).alloc (.cells #[.slice a1 X1.dg.length c1, .slice b1 X1.up.length e1] 31)) := ⟨_, rfl⟩
  have hbW : Below w.heap.size w W := by rw [hW]; exact (by repeat (first | exact .refl _ _ | apply bwD | apply bwA | (refine bwS ?_ (by first | omega | simp <;> omega) _) | refine bwC ?_ (by assumption)))
  have hx0 := hx0.below hbW
  have hx1 := hx1.below hbW
  have d00 : W.cell? ⟨w.heap.size, 0, none⟩ = some (.int .i64 p0) := by rw [hW]; simp [go_sem]
  have d01 : W.cell? ⟨w.heap.size, 1, none⟩ = some (.slice a0 st0.length c0) := by rw [hW]; simp [go_sem]
  have d10 : W.cell? ⟨w.heap.size + 1, 0, none⟩ = some (.slice a1 X1.dg.length c1) := by rw [hW]; simp [go_sem]
  have d11 : W.cell? ⟨w.heap.size + 1, 1, none⟩ = some (.slice b1 X1.up.length e1) := by rw [hW]; simp [go_sem]
  have gl : Lh W (.slice (some ⟨w.heap.size + 1 + 1, 0, none⟩) 1 1) [X1] := Lh.one hx1 (by rw [hW]; simp [go_sem]) (by rw [hW]; simp [go_sem])
  have hcon := chkh_c (p := p0) hx0 hm0 gl (by intro X hX; simp at hX; subst hX; exact hz1) (by simp)
  rw [hW] at hcon
  by_cases h0 : chkH p0 st0 [X1] = 0
  · rw [h0] at hcon
    obtain ⟨hd, hall⟩ := chkH_pos h0
    have hX1 : isH p0 (sz st0.length) X1 = true := by simp at hall; exact hall
    rw [show RIsPoint0 p0 st0 X1 = (rankH p0 st0 X1 == 1) from if_pos h0, show RIsPoint1 p0 st0 X1 = 0 from h0]
    clear hall
    go_enter Tryz.func11, Tryz.ntmps11
    go_wp2_with fail
    refine hcon.mono ?_; rintro e w1 ⟨rfl, hb1⟩
    rw [← hW] at hb1
    clear hW hcon
    have hx0 := hx0.below hb1; have hx1 := hx1.below hb1; have d00 := kept hb1 d00; have d01 := kept hb1 d01; have d10 := kept hb1 d10; have d11 := kept hb1 d11
    go_wp2_with fail
    refine (rank_c hd hx0 hx1 hX1).mono ?_; rintro e w22 ⟨rfl, hb22⟩
    have hx0 := hx0.below hb22; have hx1 := hx1.below hb22; have d00 := kept hb22 d00; have d01 := kept hb22 d01; have d10 := kept hb22 d10; have d11 := kept hb22 d11
    go_wp2_with fail
    go_ret2
    exact ⟨rfl, (by repeat (first | exact .refl _ _ | apply bwD | apply bwA | (refine bwS ?_ (by first | omega | simp <;> omega) _) | refine bwC ?_ (by assumption)))⟩
  · rw [show RIsPoint0 p0 st0 X1 = false from if_neg h0, show RIsPoint1 p0 st0 X1 = chkH p0 st0 [X1] from rfl]
    obtain ⟨k, hk⟩ : ∃ k, k = chkH p0 st0 [X1] := ⟨_, rfl⟩
    rw [← hk] at h0 hcon ⊢
    clear hk
    have hne : (k == 0) = false := by simpa using h0
    go_enter Tryz.func11, Tryz.ntmps11
    go_wp2_with fail
    refine hcon.mono ?_; rintro e w1 ⟨rfl, hb1⟩
    rw [← hW] at hb1
    clear hW hcon
    go_wp2_with fail
    go_ret2
    exact ⟨rfl, (by repeat (first | exact .refl _ _ | apply bwD | apply bwA | (refine bwS ?_ (by first | omega | simp <;> omega) _) | refine bwC ?_ (by assumption)))⟩

end Go.Proofs.YtgcelfnjijhmkaaGreat
/-
  Primitive idempotents: the program's and the reference's, and the law.
-/
namespace Go.Proofs.YtgcelfnjijhmkaaGreat
open Go.RowKit

set_option maxHeartbeats 2000000 in
set_option maxRecDepth 100000 in
theorem iprim_c {p0 : Int} {x0 x1 : Value} {st0 : List Int} {X1 : Her} {w : World} (hd : Dok p0 st0) (hx0 : El w x0 st0) (hx1 : Hv w x1 X1) (hX1 : isH p0 (sz st0.length) X1 = true) :
    Calls Tryz.prog 47 #[.agg #[.int .i64 p0, x0], x1] w fun e w' => e = .returned (.bool (primH p0 st0 X1)) ∧ Below w.heap.size w w' := by
  have hp1 := hd.hp.lo
  obtain ⟨a0, c0, rfl, _⟩ := id hx0.op
  obtain ⟨dv1, uv1, rfl, hd1_, hu1_⟩ := id hx1; obtain ⟨a1, c1, rfl, _⟩ := id hd1_.op; obtain ⟨b1, e1, rfl, _⟩ := id hu1_; clear hd1_ hu1_
  obtain ⟨bi, hbi⟩ : ∃ b, b = idemH p0 st0 X1 := ⟨_, rfl⟩
  obtain ⟨rk, hrk⟩ : ∃ r, r = rankH p0 st0 X1 := ⟨_, rfl⟩
  obtain ⟨tr, htr⟩ : ∃ r, r = traceH p0 X1 := ⟨_, rfl⟩
  have hP : primH p0 st0 X1 = (bi && (decide (rk = 1) && decide (tr = 1))) := by rw [hbi, hrk, htr]; rfl
  rw [hP]; clear hP
  have HI := Lib.hid hbi; have HRK := Lib.hid hrk; have HTR := Lib.hid htr; clear hbi hrk htr
  cases bi
  case' false =>
    go_enter Tryz.func47, Tryz.ntmps47
    have hb0 : Below w.heap.size w ((w.alloc (.cells #[.int .i64 p0, .slice a0 st0.length c0] 26)).alloc (.cells #[.slice a1 X1.dg.length c1, .slice b1 X1.up.length e1] 31)) := (by repeat (first | exact .refl _ _ | apply bwD | apply bwA | (refine bwS ?_ (by first | omega | simp <;> omega) _) | refine bwC ?_ (by assumption)))
    have hx0 := hx0.below hb0; have hx1 := hx1.below hb0
    have d00 : ((w.alloc (.cells #[.int .i64 p0, .slice a0 st0.length c0] 26)).alloc (.cells #[.slice a1 X1.dg.length c1, .slice b1 X1.up.length e1] 31)).cell? ⟨w.heap.size, 0, none⟩ = some (.int .i64 p0) := by simp [go_sem]
    have d01 : ((w.alloc (.cells #[.int .i64 p0, .slice a0 st0.length c0] 26)).alloc (.cells #[.slice a1 X1.dg.length c1, .slice b1 X1.up.length e1] 31)).cell? ⟨w.heap.size, 1, none⟩ = some (.slice a0 st0.length c0) := by simp [go_sem]
    have d10 : ((w.alloc (.cells #[.int .i64 p0, .slice a0 st0.length c0] 26)).alloc (.cells #[.slice a1 X1.dg.length c1, .slice b1 X1.up.length e1] 31)).cell? ⟨w.heap.size + 1, 0, none⟩ = some (.slice a1 X1.dg.length c1) := by simp [go_sem]
    have d11 : ((w.alloc (.cells #[.int .i64 p0, .slice a0 st0.length c0] 26)).alloc (.cells #[.slice a1 X1.dg.length c1, .slice b1 X1.up.length e1] 31)).cell? ⟨w.heap.size + 1, 1, none⟩ = some (.slice b1 X1.up.length e1) := by simp [go_sem]
    go_wp2_with fail
    refine (idem_c hd hx0 hx1 hX1).mono ?_; rintro e w1 ⟨rfl, hb1⟩
    have hx0 := hx0.below hb1; have hx1 := hx1.below hb1; have d00 := kept hb1 d00; have d01 := kept hb1 d01; have d10 := kept hb1 d10; have d11 := kept hb1 d11
    rw [← HI.out]
    go_wp2_with fail
    go_ret
    exact ⟨rfl, (by repeat (first | exact .refl _ _ | apply bwD | apply bwA | (refine bwS ?_ (by first | omega | simp <;> omega) _) | refine bwC ?_ (by assumption)))⟩
  by_cases hr1 : rk = 1
  case' neg =>
    have hne_ : (rk == 1) = false := by simpa using hr1
    have hdd : decide (rk = 1) = false := decide_eq_false hr1
    rw [hdd]; clear hdd hr1
    go_enter Tryz.func47, Tryz.ntmps47
    have hb0 : Below w.heap.size w ((w.alloc (.cells #[.int .i64 p0, .slice a0 st0.length c0] 26)).alloc (.cells #[.slice a1 X1.dg.length c1, .slice b1 X1.up.length e1] 31)) := (by repeat (first | exact .refl _ _ | apply bwD | apply bwA | (refine bwS ?_ (by first | omega | simp <;> omega) _) | refine bwC ?_ (by assumption)))
    have hx0 := hx0.below hb0; have hx1 := hx1.below hb0
    have d00 : ((w.alloc (.cells #[.int .i64 p0, .slice a0 st0.length c0] 26)).alloc (.cells #[.slice a1 X1.dg.length c1, .slice b1 X1.up.length e1] 31)).cell? ⟨w.heap.size, 0, none⟩ = some (.int .i64 p0) := by simp [go_sem]
    have d01 : ((w.alloc (.cells #[.int .i64 p0, .slice a0 st0.length c0] 26)).alloc (.cells #[.slice a1 X1.dg.length c1, .slice b1 X1.up.length e1] 31)).cell? ⟨w.heap.size, 1, none⟩ = some (.slice a0 st0.length c0) := by simp [go_sem]
    have d10 : ((w.alloc (.cells #[.int .i64 p0, .slice a0 st0.length c0] 26)).alloc (.cells #[.slice a1 X1.dg.length c1, .slice b1 X1.up.length e1] 31)).cell? ⟨w.heap.size + 1, 0, none⟩ = some (.slice a1 X1.dg.length c1) := by simp [go_sem]
    have d11 : ((w.alloc (.cells #[.int .i64 p0, .slice a0 st0.length c0] 26)).alloc (.cells #[.slice a1 X1.dg.length c1, .slice b1 X1.up.length e1] 31)).cell? ⟨w.heap.size + 1, 1, none⟩ = some (.slice b1 X1.up.length e1) := by simp [go_sem]
    go_wp2_with fail
    refine (idem_c hd hx0 hx1 hX1).mono ?_; rintro e w1 ⟨rfl, hb1⟩
    have hx0 := hx0.below hb1; have hx1 := hx1.below hb1; have d00 := kept hb1 d00; have d01 := kept hb1 d01; have d10 := kept hb1 d10; have d11 := kept hb1 d11
    rw [← HI.out]
    go_wp2_with fail
    refine (rank_c hd hx0 hx1 hX1).mono ?_; rintro e w2 ⟨rfl, hb2⟩
    have hx0 := hx0.below hb2; have hx1 := hx1.below hb2; have d00 := kept hb2 d00; have d01 := kept hb2 d01; have d10 := kept hb2 d10; have d11 := kept hb2 d11
    rw [← HRK.out]
    go_wp2_with fail
    go_ret
    exact ⟨rfl, (by repeat (first | exact .refl _ _ | apply bwD | apply bwA | (refine bwS ?_ (by first | omega | simp <;> omega) _) | refine bwC ?_ (by assumption)))⟩
  subst hr1
  go_enter Tryz.func47, Tryz.ntmps47
  have hb0 : Below w.heap.size w ((w.alloc (.cells #[.int .i64 p0, .slice a0 st0.length c0] 26)).alloc (.cells #[.slice a1 X1.dg.length c1, .slice b1 X1.up.length e1] 31)) := (by repeat (first | exact .refl _ _ | apply bwD | apply bwA | (refine bwS ?_ (by first | omega | simp <;> omega) _) | refine bwC ?_ (by assumption)))
  have hx0 := hx0.below hb0; have hx1 := hx1.below hb0
  have d00 : ((w.alloc (.cells #[.int .i64 p0, .slice a0 st0.length c0] 26)).alloc (.cells #[.slice a1 X1.dg.length c1, .slice b1 X1.up.length e1] 31)).cell? ⟨w.heap.size, 0, none⟩ = some (.int .i64 p0) := by simp [go_sem]
  have d01 : ((w.alloc (.cells #[.int .i64 p0, .slice a0 st0.length c0] 26)).alloc (.cells #[.slice a1 X1.dg.length c1, .slice b1 X1.up.length e1] 31)).cell? ⟨w.heap.size, 1, none⟩ = some (.slice a0 st0.length c0) := by simp [go_sem]
  have d10 : ((w.alloc (.cells #[.int .i64 p0, .slice a0 st0.length c0] 26)).alloc (.cells #[.slice a1 X1.dg.length c1, .slice b1 X1.up.length e1] 31)).cell? ⟨w.heap.size + 1, 0, none⟩ = some (.slice a1 X1.dg.length c1) := by simp [go_sem]
  have d11 : ((w.alloc (.cells #[.int .i64 p0, .slice a0 st0.length c0] 26)).alloc (.cells #[.slice a1 X1.dg.length c1, .slice b1 X1.up.length e1] 31)).cell? ⟨w.heap.size + 1, 1, none⟩ = some (.slice b1 X1.up.length e1) := by simp [go_sem]
  go_wp2_with fail
  refine (idem_c hd hx0 hx1 hX1).mono ?_; rintro e w1 ⟨rfl, hb1⟩
  have hx0 := hx0.below hb1; have hx1 := hx1.below hb1; have d00 := kept hb1 d00; have d01 := kept hb1 d01; have d10 := kept hb1 d10; have d11 := kept hb1 d11
  rw [← HI.out]
  go_wp2_with fail
  refine (rank_c hd hx0 hx1 hX1).mono ?_; rintro e w2 ⟨rfl, hb2⟩
  have hx0 := hx0.below hb2; have hx1 := hx1.below hb2; have d00 := kept hb2 d00; have d01 := kept hb2 d01; have d10 := kept hb2 d10; have d11 := kept hb2 d11
  rw [← HRK.out]
  go_wp2_with fail
  refine (jtrace_c hd hx0 hx1 hX1).mono ?_; rintro e w3 ⟨rfl, hb3⟩
  have hx0 := hx0.below hb3; have hx1 := hx1.below hb3; have d00 := kept hb3 d00; have d01 := kept hb3 d01; have d10 := kept hb3 d10; have d11 := kept hb3 d11
  rw [← HTR.out]
  go_wp2_with fail
  go_ret
  exact ⟨by first | rfl | (simp; done) | (simp; rfl), (by repeat (first | exact .refl _ _ | apply bwD | apply bwA | (refine bwS ?_ (by first | omega | simp <;> omega) _) | refine bwC ?_ (by assumption)))⟩
def RIsPrimitive1 (p0 : Int) (st0 : List Int) (X1 : Her) : Int := chkH p0 st0 [X1]
def RIsPrimitive0 (p0 : Int) (st0 : List Int) (X1 : Her) : Bool := if RIsPrimitive1 p0 st0 X1 = 0 then primH p0 st0 X1 else false
set_option maxHeartbeats 2000000 in
set_option maxRecDepth 100000 in
theorem iIsPrimitive_c {p0 : Int} {x0 : Value} {st0 : List Int} {x1 : Value} {X1 : Her} {w : World} (hx0 : El w x0 st0) (hm0 : st0.length ≤ 1048576) (hx1 : Hv w x1 X1) (hz1 : Hsz X1) :
    Calls Tryz.prog 21 #[.agg #[.int .i64 p0, x0], x1] w fun e w' => e = .returned (.tuple #[.bool (RIsPrimitive0 p0 st0 X1), .int .i64 (RIsPrimitive1 p0 st0 X1)]) ∧ Below w.heap.size w w' := by
  obtain ⟨a0, c0, rfl, _⟩ := id hx0.op
  obtain ⟨dv1, uv1, rfl, hd1_, hu1_⟩ := id hx1; obtain ⟨a1, c1, rfl, _⟩ := id hd1_.op; obtain ⟨b1, e1, rfl, _⟩ := id hu1_; clear hd1_ hu1_
  obtain ⟨W, hW⟩ : ∃ W, W = (((w.alloc (.cells #[.int .i64 p0, .slice a0 st0.length c0] 26)).alloc (.cells #[.slice a1 X1.dg.length c1, .slice b1 X1.up.length e1] 31)).alloc (.cells #[.slice a1 X1.dg.length c1, .slice b1 X1.up.length e1] 31)) := ⟨_, rfl⟩
  have hbW : Below w.heap.size w W := by rw [hW]; exact (by repeat (first | exact .refl _ _ | apply bwD | apply bwA | (refine bwS ?_ (by first | omega | simp <;> omega) _) | refine bwC ?_ (by assumption)))
  have hx0 := hx0.below hbW
  have hx1 := hx1.below hbW
  have d00 : W.cell? ⟨w.heap.size, 0, none⟩ = some (.int .i64 p0) := by rw [hW]; simp [go_sem]
  have d01 : W.cell? ⟨w.heap.size, 1, none⟩ = some (.slice a0 st0.length c0) := by rw [hW]; simp [go_sem]
  have d10 : W.cell? ⟨w.heap.size + 1, 0, none⟩ = some (.slice a1 X1.dg.length c1) := by rw [hW]; simp [go_sem]
  have d11 : W.cell? ⟨w.heap.size + 1, 1, none⟩ = some (.slice b1 X1.up.length e1) := by rw [hW]; simp [go_sem]
  have hWs : W.heap.size = w.heap.size + 1 + 1 + 1 := by rw [hW]; simp
  have gl : Lh W (.slice (some ⟨w.heap.size + 1 + 1, 0, none⟩) 1 1) [X1] := Lh.one hx1 (by rw [hW]; simp [go_sem]) (by rw [hW]; simp [go_sem])
  have hcon := chkh_c (p := p0) hx0 hm0 gl (by intro X hX; simp at hX; subst hX; exact hz1) (by simp)
  have HWs := Lib.hid hWs; clear hWs
  rw [hW] at hcon
  by_cases h0 : chkH p0 st0 [X1] = 0
  · rw [h0] at hcon
    obtain ⟨hd, hall⟩ := chkH_pos h0
    have hX1 : isH p0 (sz st0.length) X1 = true := by simp at hall; exact hall
    clear hall
    have e1 : RIsPrimitive1 p0 st0 X1 = 0 := h0
    rw [show RIsPrimitive0 p0 st0 X1 = primH p0 st0 X1 from if_pos e1, e1]
    clear e1
    go_enter Tryz.func21, Tryz.ntmps21
    go_wp2_with fail
    refine hcon.mono ?_; rintro e w1 ⟨rfl, hb1⟩
    rw [← hW] at hb1
    clear hW hcon
    have hx0 := hx0.below hb1; have hx1 := hx1.below hb1; have d00 := kept hb1 d00; have d01 := kept hb1 d01; have d10 := kept hb1 d10; have d11 := kept hb1 d11
    go_wp2_with fail
    refine (iprim_c hd hx0 hx1 hX1).mono ?_; rintro e w22 ⟨rfl, hb22⟩
    have hx0 := hx0.below hb22; have hx1 := hx1.below hb22; have d00 := kept hb22 d00; have d01 := kept hb22 d01; have d10 := kept hb22 d10; have d11 := kept hb22 d11
    go_wp2_with fail
    go_ret2
    exact ⟨rfl, (by repeat (first | exact .refl _ _ | apply bwD | apply bwA | (refine bwS ?_ (by first | omega | simp <;> omega) _) | refine bwC ?_ (by assumption)))⟩
  · have e1 : RIsPrimitive1 p0 st0 X1 = chkH p0 st0 [X1] := rfl
    rw [show RIsPrimitive0 p0 st0 X1 = false from if_neg (by rw [e1]; exact h0), e1]; clear e1
    obtain ⟨k, hk⟩ : ∃ k, k = chkH p0 st0 [X1] := ⟨_, rfl⟩
    rw [← hk] at h0 hcon ⊢
    clear hk
    have hne : (k == 0) = false := by simpa using h0
    go_enter Tryz.func21, Tryz.ntmps21
    go_wp2_with fail
    refine hcon.mono ?_; rintro e w1 ⟨rfl, hb1⟩
    rw [← hW] at hb1
    clear hW hcon
    go_wp2_with fail
    go_ret2
    exact ⟨rfl, (by repeat (first | exact .refl _ _ | apply bwD | apply bwA | (refine bwS ?_ (by first | omega | simp <;> omega) _) | refine bwC ?_ (by assumption)))⟩

end Go.Proofs.YtgcelfnjijhmkaaGreat
/-
  Regions that draw their order, with many operations: that an operation waits for a load is shown by a path, not by a search. Plain lemmas over any program.
-/
namespace Go.Proofs.YtgcelfnjijhmkaaGreat
open Go.RowKit

section
variable {P : Program} {ops : Array Oper}
end
end Go.Proofs.YtgcelfnjijhmkaaGreat
