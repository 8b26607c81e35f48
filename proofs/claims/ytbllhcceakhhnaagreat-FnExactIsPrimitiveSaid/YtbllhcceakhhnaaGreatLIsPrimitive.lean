/-
  Primitive idempotents: the program's and the reference's, and the law.
-/
import Derived.Test.YtbllhcceakhhnaaGreatHdD
import Derived.Test.YtbllhcceakhhnaaGreatLawE
namespace Go.Proofs.YtbllhcceakhhnaaGreat
open Go.RowKit

set_option maxHeartbeats 2000000 in
set_option maxRecDepth 100000 in
theorem prim_c {p0 : Int} {x0 x1 : Value} {st0 : List Int} {X1 : Her} {w : World} (hd : Dok p0 st0) (hx0 : El w x0 st0) (hx1 : Hv w x1 X1) (hX1 : isH p0 (sz st0.length) X1 = true) :
    Calls Tryz.prog 30 #[.agg #[.int .i64 p0, x0], x1] w fun e w' => e = .returned (.bool (primH p0 st0 X1)) ∧ Below w.heap.size w w' := by
  have hp1 := hd.hp.lo
  obtain ⟨a0, c0, rfl, _⟩ := id hx0.op
  obtain ⟨dv1, uv1, rfl, hd1_, hu1_⟩ := id hx1; obtain ⟨a1, c1, rfl, _⟩ := id hd1_.op; obtain ⟨b1, e1, rfl, _⟩ := id hu1_; clear hd1_ hu1_
  obtain ⟨bi, hbi⟩ : ∃ b, b = idemH p0 st0 X1 := ⟨_, rfl⟩
  obtain ⟨rk, hrk⟩ : ∃ r, r = rankH p0 st0 X1 := ⟨_, rfl⟩
  obtain ⟨tr, htr⟩ : ∃ r, r = traceH p0 X1 := ⟨_, rfl⟩
  have hP : primH p0 st0 X1 = (bi && (decide (rk = 1) && decide (tr = 1))) := by rw [hbi, hrk, htr]; rfl
  rw [hP]; clear hP
  have HI := Lib.hid hbi; have HRK := Lib.hid hrk; have HTR := Lib.hid htr; clear hbi hrk htr
  cases bi
  case' false =>
    go_enter Tryz.func30, Tryz.ntmps30
    have hb0 : Below w.heap.size w ((w.alloc (.cells #[.int .i64 p0, .slice a0 st0.length c0] 32)).alloc (.cells #[.slice a1 X1.dg.length c1, .slice b1 X1.up.length e1] 34)) := (by repeat (first | exact Below.refl _ _ | apply blw_drew | apply blw_alloc | (refine blw_set ?_ (by first | omega | (simp; done) | (simp; omega)) _) | refine below_chain ?_ (by assumption)))
    have hx0 := hx0.below hb0; have hx1 := hx1.below hb0
    have d00 : ((w.alloc (.cells #[.int .i64 p0, .slice a0 st0.length c0] 32)).alloc (.cells #[.slice a1 X1.dg.length c1, .slice b1 X1.up.length e1] 34)).cell? ⟨w.heap.size, 0, none⟩ = some (.int .i64 p0) := by simp [go_sem]
    have d01 : ((w.alloc (.cells #[.int .i64 p0, .slice a0 st0.length c0] 32)).alloc (.cells #[.slice a1 X1.dg.length c1, .slice b1 X1.up.length e1] 34)).cell? ⟨w.heap.size, 1, none⟩ = some (.slice a0 st0.length c0) := by simp [go_sem]
    have d10 : ((w.alloc (.cells #[.int .i64 p0, .slice a0 st0.length c0] 32)).alloc (.cells #[.slice a1 X1.dg.length c1, .slice b1 X1.up.length e1] 34)).cell? ⟨w.heap.size + 1, 0, none⟩ = some (.slice a1 X1.dg.length c1) := by simp [go_sem]
    have d11 : ((w.alloc (.cells #[.int .i64 p0, .slice a0 st0.length c0] 32)).alloc (.cells #[.slice a1 X1.dg.length c1, .slice b1 X1.up.length e1] 34)).cell? ⟨w.heap.size + 1, 1, none⟩ = some (.slice b1 X1.up.length e1) := by simp [go_sem]
    go_wp2_with fail
    refine (idem_c hd hx0 hx1 hX1).mono ?_; rintro e w1 ⟨rfl, hb1⟩
    have hx0 := hx0.below hb1; have hx1 := hx1.below hb1; have d00 := kept hb1 d00; have d01 := kept hb1 d01; have d10 := kept hb1 d10; have d11 := kept hb1 d11
    rw [← HI.out]
    go_wp2_with fail
    go_ret
    exact ⟨rfl, (by repeat (first | exact Below.refl _ _ | apply blw_drew | apply blw_alloc | (refine blw_set ?_ (by first | omega | (simp; done) | (simp; omega)) _) | refine below_chain ?_ (by assumption)))⟩
  by_cases hr1 : rk = 1
  case' neg =>
    have hne_ : (rk == 1) = false := by simpa using hr1
    have hdd : decide (rk = 1) = false := decide_eq_false hr1
    rw [hdd]; clear hdd hr1
    go_enter Tryz.func30, Tryz.ntmps30
    have hb0 : Below w.heap.size w ((w.alloc (.cells #[.int .i64 p0, .slice a0 st0.length c0] 32)).alloc (.cells #[.slice a1 X1.dg.length c1, .slice b1 X1.up.length e1] 34)) := (by repeat (first | exact Below.refl _ _ | apply blw_drew | apply blw_alloc | (refine blw_set ?_ (by first | omega | (simp; done) | (simp; omega)) _) | refine below_chain ?_ (by assumption)))
    have hx0 := hx0.below hb0; have hx1 := hx1.below hb0
    have d00 : ((w.alloc (.cells #[.int .i64 p0, .slice a0 st0.length c0] 32)).alloc (.cells #[.slice a1 X1.dg.length c1, .slice b1 X1.up.length e1] 34)).cell? ⟨w.heap.size, 0, none⟩ = some (.int .i64 p0) := by simp [go_sem]
    have d01 : ((w.alloc (.cells #[.int .i64 p0, .slice a0 st0.length c0] 32)).alloc (.cells #[.slice a1 X1.dg.length c1, .slice b1 X1.up.length e1] 34)).cell? ⟨w.heap.size, 1, none⟩ = some (.slice a0 st0.length c0) := by simp [go_sem]
    have d10 : ((w.alloc (.cells #[.int .i64 p0, .slice a0 st0.length c0] 32)).alloc (.cells #[.slice a1 X1.dg.length c1, .slice b1 X1.up.length e1] 34)).cell? ⟨w.heap.size + 1, 0, none⟩ = some (.slice a1 X1.dg.length c1) := by simp [go_sem]
    have d11 : ((w.alloc (.cells #[.int .i64 p0, .slice a0 st0.length c0] 32)).alloc (.cells #[.slice a1 X1.dg.length c1, .slice b1 X1.up.length e1] 34)).cell? ⟨w.heap.size + 1, 1, none⟩ = some (.slice b1 X1.up.length e1) := by simp [go_sem]
    go_wp2_with fail
    refine (idem_c hd hx0 hx1 hX1).mono ?_; rintro e w1 ⟨rfl, hb1⟩
    have hx0 := hx0.below hb1; have hx1 := hx1.below hb1; have d00 := kept hb1 d00; have d01 := kept hb1 d01; have d10 := kept hb1 d10; have d11 := kept hb1 d11
    rw [← HI.out]
    go_wp2_with fail
    refine (rank_c hd hx0 hx1 hX1).mono ?_; rintro e w2 ⟨rfl, hb2⟩
    have hx0 := hx0.below hb2; have hx1 := hx1.below hb2; have d00 := kept hb2 d00; have d01 := kept hb2 d01; have d10 := kept hb2 d10; have d11 := kept hb2 d11
    rw [← HRK.out]
    go_wp2_with fail
    go_ret
    exact ⟨rfl, (by repeat (first | exact Below.refl _ _ | apply blw_drew | apply blw_alloc | (refine blw_set ?_ (by first | omega | (simp; done) | (simp; omega)) _) | refine below_chain ?_ (by assumption)))⟩
  subst hr1
  go_enter Tryz.func30, Tryz.ntmps30
  have hb0 : Below w.heap.size w ((w.alloc (.cells #[.int .i64 p0, .slice a0 st0.length c0] 32)).alloc (.cells #[.slice a1 X1.dg.length c1, .slice b1 X1.up.length e1] 34)) := (by repeat (first | exact Below.refl _ _ | apply blw_drew | apply blw_alloc | (refine blw_set ?_ (by first | omega | (simp; done) | (simp; omega)) _) | refine below_chain ?_ (by assumption)))
  have hx0 := hx0.below hb0; have hx1 := hx1.below hb0
  have d00 : ((w.alloc (.cells #[.int .i64 p0, .slice a0 st0.length c0] 32)).alloc (.cells #[.slice a1 X1.dg.length c1, .slice b1 X1.up.length e1] 34)).cell? ⟨w.heap.size, 0, none⟩ = some (.int .i64 p0) := by simp [go_sem]
  have d01 : ((w.alloc (.cells #[.int .i64 p0, .slice a0 st0.length c0] 32)).alloc (.cells #[.slice a1 X1.dg.length c1, .slice b1 X1.up.length e1] 34)).cell? ⟨w.heap.size, 1, none⟩ = some (.slice a0 st0.length c0) := by simp [go_sem]
  have d10 : ((w.alloc (.cells #[.int .i64 p0, .slice a0 st0.length c0] 32)).alloc (.cells #[.slice a1 X1.dg.length c1, .slice b1 X1.up.length e1] 34)).cell? ⟨w.heap.size + 1, 0, none⟩ = some (.slice a1 X1.dg.length c1) := by simp [go_sem]
  have d11 : ((w.alloc (.cells #[.int .i64 p0, .slice a0 st0.length c0] 32)).alloc (.cells #[.slice a1 X1.dg.length c1, .slice b1 X1.up.length e1] 34)).cell? ⟨w.heap.size + 1, 1, none⟩ = some (.slice b1 X1.up.length e1) := by simp [go_sem]
  go_wp2_with fail
  refine (idem_c hd hx0 hx1 hX1).mono ?_; rintro e w1 ⟨rfl, hb1⟩
  have hx0 := hx0.below hb1; have hx1 := hx1.below hb1; have d00 := kept hb1 d00; have d01 := kept hb1 d01; have d10 := kept hb1 d10; have d11 := kept hb1 d11
  rw [← HI.out]
  go_wp2_with fail
  refine (rank_c hd hx0 hx1 hX1).mono ?_; rintro e w2 ⟨rfl, hb2⟩
  have hx0 := hx0.below hb2; have hx1 := hx1.below hb2; have d00 := kept hb2 d00; have d01 := kept hb2 d01; have d10 := kept hb2 d10; have d11 := kept hb2 d11
  rw [← HRK.out]
  go_wp2_with fail
  refine (jtrace_c hd hx0 hx1 hX1).mono ?_; rintro e w3 ⟨rfl, hb3⟩
  have hx0 := hx0.below hb3; have hx1 := hx1.below hb3; have d00 := kept hb3 d00; have d01 := kept hb3 d01; have d10 := kept hb3 d10; have d11 := kept hb3 d11
  rw [← HTR.out]
  go_wp2_with fail
  go_ret
  exact ⟨by first | rfl | (simp; done) | (simp; rfl), (by repeat (first | exact Below.refl _ _ | apply blw_drew | apply blw_alloc | (refine blw_set ?_ (by first | omega | (simp; done) | (simp; omega)) _) | refine below_chain ?_ (by assumption)))⟩
def RIsPrimitive1 (p0 : Int) (st0 : List Int) (X1 : Her) : Int := chkH p0 st0 [X1]
def RIsPrimitive0 (p0 : Int) (st0 : List Int) (X1 : Her) : Bool := if RIsPrimitive1 p0 st0 X1 = 0 then primH p0 st0 X1 else false
set_option maxHeartbeats 2000000 in
set_option maxRecDepth 100000 in
theorem iIsPrimitive_c {p0 : Int} {x0 : Value} {st0 : List Int} {x1 : Value} {X1 : Her} {w : World} (hx0 : El w x0 st0) (hm0 : st0.length ≤ 1048576) (hx1 : Hv w x1 X1) (hz1 : Hsz X1) :
    Calls Tryz.prog 11 #[.agg #[.int .i64 p0, x0], x1] w fun e w' => e = .returned (.tuple #[.bool (RIsPrimitive0 p0 st0 X1), .int .i64 (RIsPrimitive1 p0 st0 X1)]) ∧ Below w.heap.size w w' := by
  obtain ⟨a0, c0, rfl, _⟩ := id hx0.op
  obtain ⟨dv1, uv1, rfl, hd1_, hu1_⟩ := id hx1; obtain ⟨a1, c1, rfl, _⟩ := id hd1_.op; obtain ⟨b1, e1, rfl, _⟩ := id hu1_; clear hd1_ hu1_
  obtain ⟨W, hW⟩ : ∃ W, W = (((w.alloc (.cells #[.int .i64 p0, .slice a0 st0.length c0] 32)).alloc (.cells #[.slice a1 X1.dg.length c1, .slice b1 X1.up.length e1] 34)).alloc (.cells #[.slice a1 X1.dg.length c1, .slice b1 X1.up.length e1] 34)) := ⟨_, rfl⟩
  have hbW : Below w.heap.size w W := by rw [hW]; exact (by repeat (first | exact Below.refl _ _ | apply blw_drew | apply blw_alloc | (refine blw_set ?_ (by first | omega | (simp; done) | (simp; omega)) _) | refine below_chain ?_ (by assumption)))
  have hx0 := hx0.below hbW
  have hx1 := hx1.below hbW
  have d00 : W.cell? ⟨w.heap.size, 0, none⟩ = some (.int .i64 p0) := by rw [hW]; simp [go_sem]
  have d01 : W.cell? ⟨w.heap.size, 1, none⟩ = some (.slice a0 st0.length c0) := by rw [hW]; simp [go_sem]
  have d10 : W.cell? ⟨w.heap.size + 1, 0, none⟩ = some (.slice a1 X1.dg.length c1) := by rw [hW]; simp [go_sem]
  have d11 : W.cell? ⟨w.heap.size + 1, 1, none⟩ = some (.slice b1 X1.up.length e1) := by rw [hW]; simp [go_sem]
  have hWs : W.heap.size = w.heap.size + 1 + 1 + 1 := by rw [hW]; simp
  have gl : Lh W (.slice (some ⟨w.heap.size + 1 + 1, 0, none⟩) 1 1) [X1] := Lh.one hx1 (by rw [hW]; simp [go_sem]) (by rw [hW]; simp [go_sem])
  have hcon := chkh_c (p := p0) hx0 hm0 gl (by intro X hX; simp at hX; subst hX; exact hz1) (by simp)
  have HWs := Lib.hid hWs; clear hWs
  rw [hW] at hcon
  by_cases h0 : chkH p0 st0 [X1] = 0
  · rw [h0] at hcon
    obtain ⟨hd, hall⟩ := chkH_pos h0
    have hX1 : isH p0 (sz st0.length) X1 = true := by simp at hall; exact hall
    clear hall
    have e1 : RIsPrimitive1 p0 st0 X1 = 0 := h0
    rw [show RIsPrimitive0 p0 st0 X1 = primH p0 st0 X1 from if_pos e1, e1]
    clear e1
    go_enter Tryz.func11, Tryz.ntmps11
    go_wp2_with fail
    refine hcon.mono ?_; rintro e w1 ⟨rfl, hb1⟩
    rw [← hW] at hb1
    clear hW hcon
    have hx0 := hx0.below hb1; have hx1 := hx1.below hb1; have d00 := kept hb1 d00; have d01 := kept hb1 d01; have d10 := kept hb1 d10; have d11 := kept hb1 d11
    go_wp2_with fail
    refine (prim_c hd hx0 hx1 hX1).mono ?_; rintro e w22 ⟨rfl, hb22⟩
    have hx0 := hx0.below hb22; have hx1 := hx1.below hb22; have d00 := kept hb22 d00; have d01 := kept hb22 d01; have d10 := kept hb22 d10; have d11 := kept hb22 d11
    go_wp2_with fail
    go_ret2
    exact ⟨rfl, (by repeat (first | exact Below.refl _ _ | apply blw_drew | apply blw_alloc | (refine blw_set ?_ (by first | omega | (simp; done) | (simp; omega)) _) | refine below_chain ?_ (by assumption)))⟩
  · have e1 : RIsPrimitive1 p0 st0 X1 = chkH p0 st0 [X1] := rfl
    rw [show RIsPrimitive0 p0 st0 X1 = false from if_neg (by rw [e1]; exact h0), e1]; clear e1
    obtain ⟨k, hk⟩ : ∃ k, k = chkH p0 st0 [X1] := ⟨_, rfl⟩
    rw [← hk] at h0 hcon ⊢
    clear hk
    have hne : (k == 0) = false := by simpa using h0
    go_enter Tryz.func11, Tryz.ntmps11
    go_wp2_with fail
    refine hcon.mono ?_; rintro e w1 ⟨rfl, hb1⟩
    rw [← hW] at hb1
    clear hW hcon
    go_wp2_with fail
    go_ret2
    exact ⟨rfl, (by repeat (first | exact Below.refl _ _ | apply blw_drew | apply blw_alloc | (refine blw_set ?_ (by first | omega | (simp; done) | (simp; omega)) _) | refine below_chain ?_ (by assumption)))⟩
set_option maxHeartbeats 2000000 in
set_option maxRecDepth 100000 in
theorem sIsPrimitive_c {p0 : Int} {x0 : Value} {st0 : List Int} {x1 : Value} {X1 : Her} {w : World} (hx0 : El w x0 st0) (hm0 : st0.length ≤ 1048576) (hx1 : Hv w x1 X1) (hz1 : Hsz X1) :
    Calls Tryz.prog 8 #[.agg #[.int .i64 p0, x0], x1] w fun e w' => e = .returned (.tuple #[.bool (RIsPrimitive0 p0 st0 X1), .int .i64 (RIsPrimitive1 p0 st0 X1)]) ∧ Below w.heap.size w w' := by
  obtain ⟨a0, c0, rfl, _⟩ := id hx0.op
  obtain ⟨dv1, uv1, rfl, hd1_, hu1_⟩ := id hx1; obtain ⟨a1, c1, rfl, _⟩ := id hd1_.op; obtain ⟨b1, e1, rfl, _⟩ := id hu1_; clear hd1_ hu1_
  obtain ⟨W, hW⟩ : ∃ W, W = (((w.alloc (.cells #[.int .i64 p0, .slice a0 st0.length c0] 32)).alloc (.cells #[.slice a1 X1.dg.length c1, .slice b1 X1.up.length e1] 34)).alloc (.cells #[.slice a1 X1.dg.length c1, .slice b1 X1.up.length e1] 34)) := ⟨_, rfl⟩
  have hbW : Below w.heap.size w W := by rw [hW]; exact (by repeat (first | exact Below.refl _ _ | apply blw_drew | apply blw_alloc | (refine blw_set ?_ (by first | omega | (simp; done) | (simp; omega)) _) | refine below_chain ?_ (by assumption)))
  have hx0 := hx0.below hbW
  have hx1 := hx1.below hbW
  have d00 : W.cell? ⟨w.heap.size, 0, none⟩ = some (.int .i64 p0) := by rw [hW]; simp [go_sem]
  have d01 : W.cell? ⟨w.heap.size, 1, none⟩ = some (.slice a0 st0.length c0) := by rw [hW]; simp [go_sem]
  have d10 : W.cell? ⟨w.heap.size + 1, 0, none⟩ = some (.slice a1 X1.dg.length c1) := by rw [hW]; simp [go_sem]
  have d11 : W.cell? ⟨w.heap.size + 1, 1, none⟩ = some (.slice b1 X1.up.length e1) := by rw [hW]; simp [go_sem]
  have hWs : W.heap.size = w.heap.size + 1 + 1 + 1 := by rw [hW]; simp
  have gl : Lh W (.slice (some ⟨w.heap.size + 1 + 1, 0, none⟩) 1 1) [X1] := Lh.one hx1 (by rw [hW]; simp [go_sem]) (by rw [hW]; simp [go_sem])
  have hcon := sl16_c (p := p0) hx0 hm0 gl (by intro X hX; simp at hX; subst hX; exact hz1) (by simp)
  have HWs := Lib.hid hWs; clear hWs
  rw [hW] at hcon
  by_cases h0 : chkH p0 st0 [X1] = 0
  · rw [h0] at hcon
    obtain ⟨hd, hall⟩ := chkH_pos h0
    have hX1 : isH p0 (sz st0.length) X1 = true := by simp at hall; exact hall
    clear hall
    have hp1 := hd.hp.lo; have hp2 := hd.hp.hi
    obtain ⟨bi, hbi⟩ : ∃ b, b = idemH p0 st0 X1 := ⟨_, rfl⟩
    obtain ⟨rk, hrk⟩ : ∃ r, r = rankH p0 st0 X1 := ⟨_, rfl⟩
    obtain ⟨tr, htr⟩ : ∃ r, r = traceH p0 X1 := ⟨_, rfl⟩
    have hP : primH p0 st0 X1 = (bi && (decide (rk = 1) && decide (tr = 1))) := by rw [hbi, hrk, htr]; rfl
    cases bi
    · skip
      have e1 : RIsPrimitive1 p0 st0 X1 = 0 := h0
      rw [show RIsPrimitive0 p0 st0 X1 = primH p0 st0 X1 from if_pos e1, e1]
      clear e1
      rw [hP]; clear hP
      have HI := Lib.hid hbi; have HRK := Lib.hid hrk; have HTR := Lib.hid htr; clear hbi hrk htr
      go_enter Tryz.func8, Tryz.ntmps8
      go_wp2_with fail
      refine hcon.mono ?_; rintro e w1 ⟨rfl, hb1⟩
      rw [← hW] at hb1
      clear hW hcon
      have hx0 := hx0.below hb1; have hx1 := hx1.below hb1; have d00 := kept hb1 d00; have d01 := kept hb1 d01; have d10 := kept hb1 d10; have d11 := kept hb1 d11
      go_wp2_with fail
      refine (sidem_c hd hx0 hx1 hX1).mono ?_; rintro e w22 ⟨rfl, hb22⟩
      have hx0 := hx0.below hb22; have hx1 := hx1.below hb22; have d00 := kept hb22 d00; have d01 := kept hb22 d01; have d10 := kept hb22 d10; have d11 := kept hb22 d11
      rw [← HI.out]
      go_wp2_with fail
      go_ret2
      exact ⟨rfl, (by repeat (first | exact Below.refl _ _ | apply blw_drew | apply blw_alloc | (refine blw_set ?_ (by first | omega | (simp; done) | (simp; omega)) _) | refine below_chain ?_ (by assumption)))⟩
    by_cases hr1 : rk = 1
    · subst hr1
      have e1 : RIsPrimitive1 p0 st0 X1 = 0 := h0
      rw [show RIsPrimitive0 p0 st0 X1 = primH p0 st0 X1 from if_pos e1, e1]
      clear e1
      rw [hP]; clear hP
      have HI := Lib.hid hbi; have HRK := Lib.hid hrk; have HTR := Lib.hid htr; clear hbi hrk htr
      go_enter Tryz.func8, Tryz.ntmps8
      go_wp2_with fail
      refine hcon.mono ?_; rintro e w1 ⟨rfl, hb1⟩
      rw [← hW] at hb1
      clear hW hcon
      have hx0 := hx0.below hb1; have hx1 := hx1.below hb1; have d00 := kept hb1 d00; have d01 := kept hb1 d01; have d10 := kept hb1 d10; have d11 := kept hb1 d11
      go_wp2_with fail
      refine (sidem_c hd hx0 hx1 hX1).mono ?_; rintro e w22 ⟨rfl, hb22⟩
      have hx0 := hx0.below hb22; have hx1 := hx1.below hb22; have d00 := kept hb22 d00; have d01 := kept hb22 d01; have d10 := kept hb22 d10; have d11 := kept hb22 d11
      rw [← HI.out]
      go_wp2_with fail
      refine (srank_c hd hx0 hx1 hX1).mono ?_; rintro e w23 ⟨rfl, hb23⟩
      have hx0 := hx0.below hb23; have hx1 := hx1.below hb23; have d00 := kept hb23 d00; have d01 := kept hb23 d01; have d10 := kept hb23 d10; have d11 := kept hb23 d11
      rw [← HRK.out]
      go_wp2_with fail
      refine (strace_c hd.hp hx1 hX1).mono ?_; rintro e w24 ⟨rfl, hb24⟩
      have hx0 := hx0.below hb24; have hx1 := hx1.below hb24; have d00 := kept hb24 d00; have d01 := kept hb24 d01; have d10 := kept hb24 d10; have d11 := kept hb24 d11
      rw [← HTR.out]
      go_wp2_with fail
      go_ret2
      exact ⟨by first | rfl | (simp; done) | (simp; rfl), (by repeat (first | exact Below.refl _ _ | apply blw_drew | apply blw_alloc | (refine blw_set ?_ (by first | omega | (simp; done) | (simp; omega)) _) | refine below_chain ?_ (by assumption)))⟩
    · have hne_ : (rk == 1) = false := by simpa using hr1
      have hdd : decide (rk = 1) = false := decide_eq_false hr1
      have e1 : RIsPrimitive1 p0 st0 X1 = 0 := h0
      rw [show RIsPrimitive0 p0 st0 X1 = primH p0 st0 X1 from if_pos e1, e1]
      clear e1
      rw [hP, hdd]; clear hP hdd hr1
      have HI := Lib.hid hbi; have HRK := Lib.hid hrk; have HTR := Lib.hid htr; clear hbi hrk htr
      go_enter Tryz.func8, Tryz.ntmps8
      go_wp2_with fail
      refine hcon.mono ?_; rintro e w1 ⟨rfl, hb1⟩
      rw [← hW] at hb1
      clear hW hcon
      have hx0 := hx0.below hb1; have hx1 := hx1.below hb1; have d00 := kept hb1 d00; have d01 := kept hb1 d01; have d10 := kept hb1 d10; have d11 := kept hb1 d11
      go_wp2_with fail
      refine (sidem_c hd hx0 hx1 hX1).mono ?_; rintro e w22 ⟨rfl, hb22⟩
      have hx0 := hx0.below hb22; have hx1 := hx1.below hb22; have d00 := kept hb22 d00; have d01 := kept hb22 d01; have d10 := kept hb22 d10; have d11 := kept hb22 d11
      rw [← HI.out]
      go_wp2_with fail
      refine (srank_c hd hx0 hx1 hX1).mono ?_; rintro e w23 ⟨rfl, hb23⟩
      have hx0 := hx0.below hb23; have hx1 := hx1.below hb23; have d00 := kept hb23 d00; have d01 := kept hb23 d01; have d10 := kept hb23 d10; have d11 := kept hb23 d11
      rw [← HRK.out]
      go_wp2_with fail
      go_ret2
      exact ⟨rfl, (by repeat (first | exact Below.refl _ _ | apply blw_drew | apply blw_alloc | (refine blw_set ?_ (by first | omega | (simp; done) | (simp; omega)) _) | refine below_chain ?_ (by assumption)))⟩
  · have e1 : RIsPrimitive1 p0 st0 X1 = chkH p0 st0 [X1] := by first | (unfold RIsPrimitive1; rw [if_neg h0]; done) | rfl
    rw [show RIsPrimitive0 p0 st0 X1 = false from if_neg (by rw [e1]; exact h0), e1]; clear e1
    obtain ⟨k, hk⟩ : ∃ k, k = chkH p0 st0 [X1] := ⟨_, rfl⟩
    rw [← hk] at h0 hcon ⊢
    clear hk
    have hne : (k == 0) = false := by simpa using h0
    go_enter Tryz.func8, Tryz.ntmps8
    go_wp2_with fail
    refine hcon.mono ?_; rintro e w1 ⟨rfl, hb1⟩
    rw [← hW] at hb1
    clear hW hcon
    go_wp2_with fail
    go_ret2
    exact ⟨rfl, (by repeat (first | exact Below.refl _ _ | apply blw_drew | apply blw_alloc | (refine blw_set ?_ (by first | omega | (simp; done) | (simp; omega)) _) | refine below_chain ?_ (by assumption)))⟩
set_option maxHeartbeats 2000000 in
set_option maxRecDepth 100000 in
theorem law_IsPrimitive {p0 : Int} {x0 : Value} {st0 : List Int} {x1 : Value} {X1 : Her} {w : World} (hx0 : Sl w x0 st0) (hb0_ : st0.length ≤ 9223372036854775807) (hx1 : Hr w x1 X1) (hb1_ : Hbig X1) :
    Calls Tryz.prog 3 #[.agg #[.int .i64 p0, x0], x1] w fun e w' => e = .returned (.bool true) ∧ Below w.heap.size w w' := by
  obtain ⟨a0, c0, rfl, _⟩ := id hx0
  obtain ⟨dv1, uv1, rfl, hd1, hu1⟩ := id hx1
  obtain ⟨a1, c1, rfl, _⟩ := id hd1; obtain ⟨b1, e1, rfl, _⟩ := id hu1; clear hd1 hu1
  obtain ⟨z0, hz0_⟩ : ∃ z, z = szI 1048576 st0.length := ⟨_, rfl⟩
  have hzb0 := szI_bd (left := 1048576) (n := st0.length) (by omega) (by omega)
  rw [← hz0_] at hzb0
  have HZ0 := Lib.hid hz0_; clear hz0_
  by_cases hs0 : z0 < 0
  case pos =>
    go_enter Tryz.func3, Tryz.ntmps3
    have hb0 : Below w.heap.size w ((w.alloc (.cells #[.int .i64 p0, .slice a0 st0.length c0] 24)).alloc (.cells #[.slice a1 X1.dg.length c1, .slice b1 X1.up.length e1] 27)) := (by repeat (first | exact Below.refl _ _ | apply blw_drew | apply blw_alloc | (refine blw_set ?_ (by first | omega | (simp; done) | (simp; omega)) _) | refine below_chain ?_ (by assumption)))
    have hx0 := hx0.below hb0; have hx1 := hx1.below hb0
    have d00 : ((w.alloc (.cells #[.int .i64 p0, .slice a0 st0.length c0] 24)).alloc (.cells #[.slice a1 X1.dg.length c1, .slice b1 X1.up.length e1] 27)).cell? ⟨w.heap.size, 0, none⟩ = some (.int .i64 p0) := by simp [go_sem]
    have d01 : ((w.alloc (.cells #[.int .i64 p0, .slice a0 st0.length c0] 24)).alloc (.cells #[.slice a1 X1.dg.length c1, .slice b1 X1.up.length e1] 27)).cell? ⟨w.heap.size, 1, none⟩ = some (.slice a0 st0.length c0) := by simp [go_sem]
    have d10 : ((w.alloc (.cells #[.int .i64 p0, .slice a0 st0.length c0] 24)).alloc (.cells #[.slice a1 X1.dg.length c1, .slice b1 X1.up.length e1] 27)).cell? ⟨w.heap.size + 1, 0, none⟩ = some (.slice a1 X1.dg.length c1) := by simp [go_sem]
    have d11 : ((w.alloc (.cells #[.int .i64 p0, .slice a0 st0.length c0] 24)).alloc (.cells #[.slice a1 X1.dg.length c1, .slice b1 X1.up.length e1] 27)).cell? ⟨w.heap.size + 1, 1, none⟩ = some (.slice b1 X1.up.length e1) := by simp [go_sem]
    go_wp2_with fail
    refine (szd_c (by omega) (by omega) hb0_).mono ?_; rintro e w1 ⟨rfl, hb1⟩
    have hx0 := hx0.below hb1; have hx1 := hx1.below hb1; have d00 := kept hb1 d00; have d01 := kept hb1 d01; have d10 := kept hb1 d10; have d11 := kept hb1 d11
    simp only [← HZ0.out]
    go_wp2_with fail
    go_ret
    exact ⟨rfl, (by repeat (first | exact Below.refl _ _ | apply blw_drew | apply blw_alloc | (refine blw_set ?_ (by first | omega | (simp; done) | (simp; omega)) _) | refine below_chain ?_ (by assumption)))⟩
  have hl0 : st0.length ≤ 1048576 := szI_pos (left := 1048576) (by omega) (by rw [← HZ0.out]; exact hs0)
  obtain ⟨z1, hz1_⟩ : ∃ z, z = szH z0 X1 := ⟨_, rfl⟩
  have hzb1 := szH_bd (left := z0) (X := X1) (by omega) (by omega)
  rw [← hz1_] at hzb1
  have HZ1 := Lib.hid hz1_; clear hz1_
  by_cases hs1 : z1 < 0
  case pos =>
    go_enter Tryz.func3, Tryz.ntmps3
    have hb0 : Below w.heap.size w ((w.alloc (.cells #[.int .i64 p0, .slice a0 st0.length c0] 24)).alloc (.cells #[.slice a1 X1.dg.length c1, .slice b1 X1.up.length e1] 27)) := (by repeat (first | exact Below.refl _ _ | apply blw_drew | apply blw_alloc | (refine blw_set ?_ (by first | omega | (simp; done) | (simp; omega)) _) | refine below_chain ?_ (by assumption)))
    have hx0 := hx0.below hb0; have hx1 := hx1.below hb0
    have d00 : ((w.alloc (.cells #[.int .i64 p0, .slice a0 st0.length c0] 24)).alloc (.cells #[.slice a1 X1.dg.length c1, .slice b1 X1.up.length e1] 27)).cell? ⟨w.heap.size, 0, none⟩ = some (.int .i64 p0) := by simp [go_sem]
    have d01 : ((w.alloc (.cells #[.int .i64 p0, .slice a0 st0.length c0] 24)).alloc (.cells #[.slice a1 X1.dg.length c1, .slice b1 X1.up.length e1] 27)).cell? ⟨w.heap.size, 1, none⟩ = some (.slice a0 st0.length c0) := by simp [go_sem]
    have d10 : ((w.alloc (.cells #[.int .i64 p0, .slice a0 st0.length c0] 24)).alloc (.cells #[.slice a1 X1.dg.length c1, .slice b1 X1.up.length e1] 27)).cell? ⟨w.heap.size + 1, 0, none⟩ = some (.slice a1 X1.dg.length c1) := by simp [go_sem]
    have d11 : ((w.alloc (.cells #[.int .i64 p0, .slice a0 st0.length c0] 24)).alloc (.cells #[.slice a1 X1.dg.length c1, .slice b1 X1.up.length e1] 27)).cell? ⟨w.heap.size + 1, 1, none⟩ = some (.slice b1 X1.up.length e1) := by simp [go_sem]
    go_wp2_with fail
    refine (szd_c (by omega) (by omega) hb0_).mono ?_; rintro e w1 ⟨rfl, hb1⟩
    have hx0 := hx0.below hb1; have hx1 := hx1.below hb1; have d00 := kept hb1 d00; have d01 := kept hb1 d01; have d10 := kept hb1 d10; have d11 := kept hb1 d11
    simp only [← HZ0.out]
    go_wp2_with fail
    refine (szh_c hx1 hb1_ (by omega) (by omega)).mono ?_; rintro e w2 ⟨rfl, hb2⟩
    have hx0 := hx0.below hb2; have hx1 := hx1.below hb2; have d00 := kept hb2 d00; have d01 := kept hb2 d01; have d10 := kept hb2 d10; have d11 := kept hb2 d11
    simp only [← HZ1.out]
    go_wp2_with fail
    go_ret
    exact ⟨rfl, (by repeat (first | exact Below.refl _ _ | apply blw_drew | apply blw_alloc | (refine blw_set ?_ (by first | omega | (simp; done) | (simp; omega)) _) | refine below_chain ?_ (by assumption)))⟩
  have hl1 : Hsz X1 := szH_pos (left := z0) (by omega) (by omega) (by rw [← HZ1.out]; exact hs1)
  have hI := fun (W : World) (x0 : Value) (hx0 : El W x0 st0) (x1 : Value) (hx1 : Hv W x1 X1) => iIsPrimitive_c (w := W) (p0 := p0) hx0 hl0 hx1 hl1
  have hS := fun (W : World) (x0 : Value) (hx0 : El W x0 st0) (x1 : Value) (hx1 : Hv W x1 X1) => sIsPrimitive_c (w := W) (p0 := p0) hx0 hl0 hx1 hl1
  obtain ⟨y0, hy0⟩ : ∃ y, y = RIsPrimitive0 p0 st0 X1 := ⟨_, rfl⟩
  obtain ⟨y1, hy1⟩ : ∃ y, y = RIsPrimitive1 p0 st0 X1 := ⟨_, rfl⟩
  simp only [← hy0, ← hy1] at hI hS 
  clear hy0 hy1
  go_enter Tryz.func3, Tryz.ntmps3
  have hb0 : Below w.heap.size w ((w.alloc (.cells #[.int .i64 p0, .slice a0 st0.length c0] 24)).alloc (.cells #[.slice a1 X1.dg.length c1, .slice b1 X1.up.length e1] 27)) := (by repeat (first | exact Below.refl _ _ | apply blw_drew | apply blw_alloc | (refine blw_set ?_ (by first | omega | (simp; done) | (simp; omega)) _) | refine below_chain ?_ (by assumption)))
  have hx0 := hx0.below hb0; have hx1 := hx1.below hb0
  have d00 : ((w.alloc (.cells #[.int .i64 p0, .slice a0 st0.length c0] 24)).alloc (.cells #[.slice a1 X1.dg.length c1, .slice b1 X1.up.length e1] 27)).cell? ⟨w.heap.size, 0, none⟩ = some (.int .i64 p0) := by simp [go_sem]
  have d01 : ((w.alloc (.cells #[.int .i64 p0, .slice a0 st0.length c0] 24)).alloc (.cells #[.slice a1 X1.dg.length c1, .slice b1 X1.up.length e1] 27)).cell? ⟨w.heap.size, 1, none⟩ = some (.slice a0 st0.length c0) := by simp [go_sem]
  have d10 : ((w.alloc (.cells #[.int .i64 p0, .slice a0 st0.length c0] 24)).alloc (.cells #[.slice a1 X1.dg.length c1, .slice b1 X1.up.length e1] 27)).cell? ⟨w.heap.size + 1, 0, none⟩ = some (.slice a1 X1.dg.length c1) := by simp [go_sem]
  have d11 : ((w.alloc (.cells #[.int .i64 p0, .slice a0 st0.length c0] 24)).alloc (.cells #[.slice a1 X1.dg.length c1, .slice b1 X1.up.length e1] 27)).cell? ⟨w.heap.size + 1, 1, none⟩ = some (.slice b1 X1.up.length e1) := by simp [go_sem]
  go_wp2_with fail
  refine (szd_c (by omega) (by omega) hb0_).mono ?_; rintro e w1 ⟨rfl, hb1⟩
  have hx0 := hx0.below hb1; have hx1 := hx1.below hb1; have d00 := kept hb1 d00; have d01 := kept hb1 d01; have d10 := kept hb1 d10; have d11 := kept hb1 d11
  simp only [← HZ0.out]
  go_wp2_with fail
  refine (szh_c hx1 hb1_ (by omega) (by omega)).mono ?_; rintro e w2 ⟨rfl, hb2⟩
  have hx0 := hx0.below hb2; have hx1 := hx1.below hb2; have d00 := kept hb2 d00; have d01 := kept hb2 d01; have d10 := kept hb2 d10; have d11 := kept hb2 d11
  simp only [← HZ1.out]
  go_wp2_with fail
  refine region_flow [(false, [(0, 1), (2, 1), (1, 5)]), (false, [(3, 4), (4, 4), (5, 0), (6, 0), (7, 0), (8, 0), (9, 0)])] (by kernel_rfl) ?_
  refine norm_K fun K hK => ?_
  change wpList _ _ _ [_, _, _] _ _
  have hb3 : Below w2.heap.size w2 w2.drew := (by repeat (first | exact Below.refl _ _ | apply blw_drew | apply blw_alloc | (refine blw_set ?_ (by first | omega | (simp; done) | (simp; omega)) _) | refine below_chain ?_ (by assumption)))
  have hx0 := hx0.below hb3; have hx1 := hx1.below hb3; have d00 := kept hb3 d00; have d01 := kept hb3 d01; have d10 := kept hb3 d10; have d11 := kept hb3 d11
  go_wp2_with fail
  refine (tod_c hx0 hl0).mono ?_; rintro e w4 ⟨t0, rfl, ht0, hb4⟩
  have hx0 := hx0.below hb4; have hx1 := hx1.below hb4; have d00 := kept hb4 d00; have d01 := kept hb4 d01; have d10 := kept hb4 d10; have d11 := kept hb4 d11
  go_wp2_with fail
  have hq0 : Below w2.drew.heap.size w2.drew w4 := (by repeat (first | exact Below.refl _ _ | apply blw_drew | apply blw_alloc | (refine blw_set ?_ (by first | omega | (simp; done) | (simp; omega)) _) | refine below_chain ?_ (by assumption)))
  first | (refine hK _ _ ⟨hq0, ?_⟩; clear hK K) | refine ⟨hq0, ?_⟩
  clear hq0
  refine norm_K fun K hK => ?_
  change wpList _ _ _ [_, _, _, _, _, _, _] _ _
  go_wp2_with fail
  refine (toh_c hx1 hl1).mono ?_; rintro e w5 ⟨t1, rfl, ht1, hb5⟩
  have hx0 := hx0.below hb5; have hx1 := hx1.below hb5; have d00 := kept hb5 d00; have d01 := kept hb5 d01; have d10 := kept hb5 d10; have d11 := kept hb5 d11; have ht0 := ht0.below hb5
  go_wp2_with fail
  refine (hS _ _ ht0.el _ ht1.hv).mono ?_; rintro e w6 ⟨rfl, hb6⟩
  have hx0 := hx0.below hb6; have hx1 := hx1.below hb6; have d00 := kept hb6 d00; have d01 := kept hb6 d01; have d10 := kept hb6 d10; have d11 := kept hb6 d11; have ht0 := ht0.below hb6; have ht1 := ht1.below hb6
  go_wp2_with fail
  first | (refine hK _ _ ⟨rfl, ?_⟩; clear hK K) | refine ⟨rfl, ?_⟩
  go_wp2_with fail
  refine (tod_c hx0 hl0).mono ?_; rintro e w7 ⟨t0, rfl, ⟨g0, k0, rfl, ht0⟩, hb7⟩
  have hx0 := hx0.below hb7; have hx1 := hx1.below hb7; have d00 := kept hb7 d00; have d01 := kept hb7 d01; have d10 := kept hb7 d10; have d11 := kept hb7 d11
  have hb8 : Below w7.heap.size w7 (w7.alloc (.cells #[.int .i64 p0, .slice (some ⟨g0, 0, none⟩) st0.length k0] 32)) := (by repeat (first | exact Below.refl _ _ | apply blw_drew | apply blw_alloc | (refine blw_set ?_ (by first | omega | (simp; done) | (simp; omega)) _) | refine below_chain ?_ (by assumption)))
  have hx0 := hx0.below hb8; have hx1 := hx1.below hb8; have d00 := kept hb8 d00; have d01 := kept hb8 d01; have d10 := kept hb8 d10; have d11 := kept hb8 d11; have ht0 := ht0.below hb8
  have e00 : (w7.alloc (.cells #[.int .i64 p0, .slice (some ⟨g0, 0, none⟩) st0.length k0] 32)).cell? ⟨w7.heap.size, 0, none⟩ = some (.int .i64 p0) := by simp [go_sem]
  have e01 : (w7.alloc (.cells #[.int .i64 p0, .slice (some ⟨g0, 0, none⟩) st0.length k0] 32)).cell? ⟨w7.heap.size, 1, none⟩ = some (.slice (some ⟨g0, 0, none⟩) st0.length k0) := by simp [go_sem]
  go_wp2_with fail
  refine (toh_c hx1 hl1).mono ?_; rintro e w9 ⟨t1, rfl, ht1, hb9⟩
  have hx0 := hx0.below hb9; have hx1 := hx1.below hb9; have d00 := kept hb9 d00; have d01 := kept hb9 d01; have d10 := kept hb9 d10; have d11 := kept hb9 d11; have ht0 := ht0.below hb9; have e00 := kept hb9 e00; have e01 := kept hb9 e01
  obtain ⟨td1, tu1, rfl, htd1, htu1⟩ := ht1.hv; obtain ⟨ta1, tc1, rfl, _⟩ := htd1.op; obtain ⟨tb1, te1, rfl, _⟩ := id htu1; clear htd1 htu1
  have hb10 : Below w9.heap.size w9 (w9.alloc (.cells #[.slice ta1 X1.dg.length tc1, .slice tb1 X1.up.length te1] 34)) := (by repeat (first | exact Below.refl _ _ | apply blw_drew | apply blw_alloc | (refine blw_set ?_ (by first | omega | (simp; done) | (simp; omega)) _) | refine below_chain ?_ (by assumption)))
  have hx0 := hx0.below hb10; have hx1 := hx1.below hb10; have d00 := kept hb10 d00; have d01 := kept hb10 d01; have d10 := kept hb10 d10; have d11 := kept hb10 d11; have ht0 := ht0.below hb10; have e00 := kept hb10 e00; have e01 := kept hb10 e01; have ht1 := ht1.below hb10
  have e10 : (w9.alloc (.cells #[.slice ta1 X1.dg.length tc1, .slice tb1 X1.up.length te1] 34)).cell? ⟨w9.heap.size, 0, none⟩ = some (.slice ta1 X1.dg.length tc1) := by simp [go_sem]
  have e11 : (w9.alloc (.cells #[.slice ta1 X1.dg.length tc1, .slice tb1 X1.up.length te1] 34)).cell? ⟨w9.heap.size, 1, none⟩ = some (.slice tb1 X1.up.length te1) := by simp [go_sem]
  go_wp2_with fail
  refine (hI _ _ ht0.el _ ht1.hv).mono ?_; rintro e w11 ⟨rfl, hb11⟩
  have hx0 := hx0.below hb11; have hx1 := hx1.below hb11; have d00 := kept hb11 d00; have d01 := kept hb11 d01; have d10 := kept hb11 d10; have d11 := kept hb11 d11; have ht0 := ht0.below hb11; have e00 := kept hb11 e00; have e01 := kept hb11 e01; have ht1 := ht1.below hb11; have e10 := kept hb11 e10; have e11 := kept hb11 e11
  go_wp2_with fail
  refine region_flow [(false, [(0, 1), (1, 1), (2, 5)]), (false, [(3, 4), (4, 0)])] (by kernel_rfl) ?_
  refine norm_K fun K hK => ?_
  change wpList _ _ _ [_, _, _] _ _
  have hb12 : Below w11.heap.size w11 w11.drew := (by repeat (first | exact Below.refl _ _ | apply blw_drew | apply blw_alloc | (refine blw_set ?_ (by first | omega | (simp; done) | (simp; omega)) _) | refine below_chain ?_ (by assumption)))
  have hx0 := hx0.below hb12; have hx1 := hx1.below hb12; have d00 := kept hb12 d00; have d01 := kept hb12 d01; have d10 := kept hb12 d10; have d11 := kept hb12 d11; have ht0 := ht0.below hb12; have e00 := kept hb12 e00; have e01 := kept hb12 e01; have ht1 := ht1.below hb12; have e10 := kept hb12 e10; have e11 := kept hb12 e11
  go_wp2_with fail
  refine (tod_c hx0 hl0).mono ?_; rintro e w13 ⟨u0, rfl, hu0, hb13⟩
  have hx0 := hx0.below hb13; have hx1 := hx1.below hb13; have d00 := kept hb13 d00; have d01 := kept hb13 d01; have d10 := kept hb13 d10; have d11 := kept hb13 d11; have ht0 := ht0.below hb13; have e00 := kept hb13 e00; have e01 := kept hb13 e01; have ht1 := ht1.below hb13; have e10 := kept hb13 e10; have e11 := kept hb13 e11
  go_wp2_with fail
  first | (refine hK _ _ ⟨hb13, ?_⟩; clear hK K) | refine ⟨hb13, ?_⟩
  refine norm_K fun K hK => ?_
  change wpList _ _ _ [_, _] _ _
  go_wp2_with fail
  refine (eqd_c ht0.sl hu0.sl hl0).mono ?_; rintro e w14 ⟨rfl, hb14⟩
  have hx0 := hx0.below hb14; have hx1 := hx1.below hb14; have d00 := kept hb14 d00; have d01 := kept hb14 d01; have d10 := kept hb14 d10; have d11 := kept hb14 d11; have ht0 := ht0.below hb14; have e00 := kept hb14 e00; have e01 := kept hb14 e01; have ht1 := ht1.below hb14; have e10 := kept hb14 e10; have e11 := kept hb14 e11
  go_wp2_with fail
  first | (refine hK _ _ ⟨rfl, ?_⟩; clear hK K) | refine ⟨rfl, ?_⟩
  go_wp2_with fail
  refine region_flow [(false, [(0, 1), (1, 1), (2, 5)]), (false, [(3, 4), (4, 0)])] (by kernel_rfl) ?_
  refine norm_K fun K hK => ?_
  change wpList _ _ _ [_, _, _] _ _
  have hb15 : Below w14.heap.size w14 w14.drew := (by repeat (first | exact Below.refl _ _ | apply blw_drew | apply blw_alloc | (refine blw_set ?_ (by first | omega | (simp; done) | (simp; omega)) _) | refine below_chain ?_ (by assumption)))
  have hx0 := hx0.below hb15; have hx1 := hx1.below hb15; have d00 := kept hb15 d00; have d01 := kept hb15 d01; have d10 := kept hb15 d10; have d11 := kept hb15 d11; have ht0 := ht0.below hb15; have e00 := kept hb15 e00; have e01 := kept hb15 e01; have ht1 := ht1.below hb15; have e10 := kept hb15 e10; have e11 := kept hb15 e11
  go_wp2_with fail
  refine (toh_c hx1 hl1).mono ?_; rintro e w16 ⟨u1, rfl, hu1, hb16⟩
  have hx0 := hx0.below hb16; have hx1 := hx1.below hb16; have d00 := kept hb16 d00; have d01 := kept hb16 d01; have d10 := kept hb16 d10; have d11 := kept hb16 d11; have ht0 := ht0.below hb16; have e00 := kept hb16 e00; have e01 := kept hb16 e01; have ht1 := ht1.below hb16; have e10 := kept hb16 e10; have e11 := kept hb16 e11
  go_wp2_with fail
  first | (refine hK _ _ ⟨hb16, ?_⟩; clear hK K) | refine ⟨hb16, ?_⟩
  refine norm_K fun K hK => ?_
  change wpList _ _ _ [_, _] _ _
  go_wp2_with fail
  refine (eqh_c ht1.hv.hr hu1.hv.hr hl1).mono ?_; rintro e w17 ⟨rfl, hb17⟩
  have hx0 := hx0.below hb17; have hx1 := hx1.below hb17; have d00 := kept hb17 d00; have d01 := kept hb17 d01; have d10 := kept hb17 d10; have d11 := kept hb17 d11; have ht0 := ht0.below hb17; have e00 := kept hb17 e00; have e01 := kept hb17 e01; have ht1 := ht1.below hb17; have e10 := kept hb17 e10; have e11 := kept hb17 e11
  go_wp2_with fail
  first | (refine hK _ _ ⟨rfl, ?_⟩; clear hK K) | refine ⟨rfl, ?_⟩
  go_wp2_with fail
  go_ret
  exact ⟨rfl, (by repeat (first | exact Below.refl _ _ | apply blw_drew | apply blw_alloc | (refine blw_set ?_ (by first | omega | (simp; done) | (simp; omega)) _) | refine below_chain ?_ (by assumption)))⟩
end Go.Proofs.YtbllhcceakhhnaaGreat
