/-
  Idempotents of points: the program's and the reference's, and the law.
-/
import Derived.Test.YtbllhcceakhhnaaGreatOcI
import Derived.Test.YtbllhcceakhhnaaGreatTreeB
import Derived.Test.YtbllhcceakhhnaaGreatLawE
import Derived.Test.YtbllhcceakhhnaaGreatLawT
import Derived.Test.YtbllhcceakhhnaaGreatMarkI
namespace Go.Proofs.YtbllhcceakhhnaaGreat
open Go.RowKit

set_option maxHeartbeats 2000000 in
set_option maxRecDepth 100000 in
theorem prim_c {p0 : Int} {x0 x1 : Value} {st0 : List Int} {X1 : Her} {w : World} (hd : Dok p0 st0) (hx0 : El w x0 st0) (hx1 : Hv w x1 X1) (hX1 : isH p0 (sz st0.length) X1 = true) :
    Calls Tryz.prog 30 #[.agg #[.int .i64 p0, x0], x1] w fun e w' => e = .returned (.bool (primH p0 st0 X1)) ∧ Below w.heap.size w w' := by
  have hp1 := hd.hp.lo
  obtain ⟨a0, c0, rfl, _⟩ := id hx0.op
  obtain ⟨dv1, uv1, rfl, hd1_, hu1_⟩ := id hx1; obtain ⟨a1, c1, rfl, _⟩ := id hd1_.op; obtain ⟨b1, e1, rfl, _⟩ := id hu1_; clear hd1_ hu1_
  obtain ⟨bi, hbi⟩ : ∃ b, b = idemH p0 st0 X1 := ⟨_, rfl⟩
  obtain ⟨rk, hrk⟩ : ∃ r, r = rankH p0 st0 X1 := ⟨_, rfl⟩
  obtain ⟨tr, htr⟩ : ∃ r, r = traceH p0 X1 := ⟨_, rfl⟩
  have hP : primH p0 st0 X1 = (bi && (decide (rk = 1) && decide (tr = 1))) := by rw [hbi, hrk, htr]; rfl
  rw [hP]; clear hP
  have HI := Lib.hid hbi; have HRK := Lib.hid hrk; have HTR := Lib.hid htr; clear hbi hrk htr
  cases bi
  case' false =>
    go_enter Tryz.func30, Tryz.ntmps30
    have hb0 : Below w.heap.size w ((w.alloc (.cells #[.int .i64 p0, .slice a0 st0.length c0] 32)).alloc (.cells #[.slice a1 X1.dg.length c1, .slice b1 X1.up.length e1] 34)) := (by repeat (first | exact Below.refl _ _ | apply blw_drew | apply blw_alloc | (refine blw_set ?_ (by first | omega | (simp; done) | (simp; omega)) _) | refine below_chain ?_ (by assumption)))
    have hx0 := hx0.below hb0; have hx1 := hx1.below hb0
    have d00 : ((w.alloc (.cells #[.int .i64 p0, .slice a0 st0.length c0] 32)).alloc (.cells #[.slice a1 X1.dg.length c1, .slice b1 X1.up.length e1] 34)).cell? ⟨w.heap.size, 0, none⟩ = some (.int .i64 p0) := by simp [go_sem]
    have d01 : ((w.alloc (.cells #[.int .i64 p0, .slice a0 st0.length c0] 32)).alloc (.cells #[.slice a1 X1.dg.length c1, .slice b1 X1.up.length e1] 34)).cell? ⟨w.heap.size, 1, none⟩ = some (.slice a0 st0.length c0) := by simp [go_sem]
    have d10 : ((w.alloc (.cells #[.int .i64 p0, .slice a0 st0.length c0] 32)).alloc (.cells #[.slice a1 X1.dg.length c1, .slice b1 X1.up.length e1] 34)).cell? ⟨w.heap.size + 1, 0, none⟩ = some (.slice a1 X1.dg.length c1) := by simp [go_sem]
    have d11 : ((w.alloc (.cells #[.int .i64 p0, .slice a0 st0.length c0] 32)).alloc (.cells #[.slice a1 X1.dg.length c1, .slice b1 X1.up.length e1] 34)).cell? ⟨w.heap.size + 1, 1, none⟩ = some (.slice b1 X1.up.length e1) := by simp [go_sem]
    go_wp2_with fail
    refine (idem_c hd hx0 hx1 hX1).mono ?_; rintro e w1 ⟨rfl, hb1⟩
    have hx0 := hx0.below hb1; have hx1 := hx1.below hb1; have d00 := kept hb1 d00; have d01 := kept hb1 d01; have d10 := kept hb1 d10; have d11 := kept hb1 d11
    rw [← HI.out]
    go_wp2_with fail
    go_ret
    exact ⟨rfl, (by repeat (first | exact Below.refl _ _ | apply blw_drew | apply blw_alloc | (refine blw_set ?_ (by first | omega | (simp; done) | (simp; omega)) _) | refine below_chain ?_ (by assumption)))⟩
  by_cases hr1 : rk = 1
  case' neg =>
    have hne_ : (rk == 1) = false := by simpa using hr1
    have hdd : decide (rk = 1) = false := decide_eq_false hr1
    rw [hdd]; clear hdd hr1
    go_enter Tryz.func30, Tryz.ntmps30
    have hb0 : Below w.heap.size w ((w.alloc (.cells #[.int .i64 p0, .slice a0 st0.length c0] 32)).alloc (.cells #[.slice a1 X1.dg.length c1, .slice b1 X1.up.length e1] 34)) := (by repeat (first | exact Below.refl _ _ | apply blw_drew | apply blw_alloc | (refine blw_set ?_ (by first | omega | (simp; done) | (simp; omega)) _) | refine below_chain ?_ (by assumption)))
    have hx0 := hx0.below hb0; have hx1 := hx1.below hb0
    have d00 : ((w.alloc (.cells #[.int .i64 p0, .slice a0 st0.length c0] 32)).alloc (.cells #[.slice a1 X1.dg.length c1, .slice b1 X1.up.length e1] 34)).cell? ⟨w.heap.size, 0, none⟩ = some (.int .i64 p0) := by simp [go_sem]
    have d01 : ((w.alloc (.cells #[.int .i64 p0, .slice a0 st0.length c0] 32)).alloc (.cells #[.slice a1 X1.dg.length c1, .slice b1 X1.up.length e1] 34)).cell? ⟨w.heap.size, 1, none⟩ = some (.slice a0 st0.length c0) := by simp [go_sem]
    have d10 : ((w.alloc (.cells #[.int .i64 p0, .slice a0 st0.length c0] 32)).alloc (.cells #[.slice a1 X1.dg.length c1, .slice b1 X1.up.length e1] 34)).cell? ⟨w.heap.size + 1, 0, none⟩ = some (.slice a1 X1.dg.length c1) := by simp [go_sem]
    have d11 : ((w.alloc (.cells #[.int .i64 p0, .slice a0 st0.length c0] 32)).alloc (.cells #[.slice a1 X1.dg.length c1, .slice b1 X1.up.length e1] 34)).cell? ⟨w.heap.size + 1, 1, none⟩ = some (.slice b1 X1.up.length e1) := by simp [go_sem]
    go_wp2_with fail
    refine (idem_c hd hx0 hx1 hX1).mono ?_; rintro e w1 ⟨rfl, hb1⟩
    have hx0 := hx0.below hb1; have hx1 := hx1.below hb1; have d00 := kept hb1 d00; have d01 := kept hb1 d01; have d10 := kept hb1 d10; have d11 := kept hb1 d11
    rw [← HI.out]
    go_wp2_with fail
    refine (rank_c hd hx0 hx1 hX1).mono ?_; rintro e w2 ⟨rfl, hb2⟩
    have hx0 := hx0.below hb2; have hx1 := hx1.below hb2; have d00 := kept hb2 d00; have d01 := kept hb2 d01; have d10 := kept hb2 d10; have d11 := kept hb2 d11
    rw [← HRK.out]
    go_wp2_with fail
    go_ret
    exact ⟨rfl, (by repeat (first | exact Below.refl _ _ | apply blw_drew | apply blw_alloc | (refine blw_set ?_ (by first | omega | (simp; done) | (simp; omega)) _) | refine below_chain ?_ (by assumption)))⟩
  subst hr1
  go_enter Tryz.func30, Tryz.ntmps30
  have hb0 : Below w.heap.size w ((w.alloc (.cells #[.int .i64 p0, .slice a0 st0.length c0] 32)).alloc (.cells #[.slice a1 X1.dg.length c1, .slice b1 X1.up.length e1] 34)) := (by repeat (first | exact Below.refl _ _ | apply blw_drew | apply blw_alloc | (refine blw_set ?_ (by first | omega | (simp; done) | (simp; omega)) _) | refine below_chain ?_ (by assumption)))
  have hx0 := hx0.below hb0; have hx1 := hx1.below hb0
  have d00 : ((w.alloc (.cells #[.int .i64 p0, .slice a0 st0.length c0] 32)).alloc (.cells #[.slice a1 X1.dg.length c1, .slice b1 X1.up.length e1] 34)).cell? ⟨w.heap.size, 0, none⟩ = some (.int .i64 p0) := by simp [go_sem]
  have d01 : ((w.alloc (.cells #[.int .i64 p0, .slice a0 st0.length c0] 32)).alloc (.cells #[.slice a1 X1.dg.length c1, .slice b1 X1.up.length e1] 34)).cell? ⟨w.heap.size, 1, none⟩ = some (.slice a0 st0.length c0) := by simp [go_sem]
  have d10 : ((w.alloc (.cells #[.int .i64 p0, .slice a0 st0.length c0] 32)).alloc (.cells #[.slice a1 X1.dg.length c1, .slice b1 X1.up.length e1] 34)).cell? ⟨w.heap.size + 1, 0, none⟩ = some (.slice a1 X1.dg.length c1) := by simp [go_sem]
  have d11 : ((w.alloc (.cells #[.int .i64 p0, .slice a0 st0.length c0] 32)).alloc (.cells #[.slice a1 X1.dg.length c1, .slice b1 X1.up.length e1] 34)).cell? ⟨w.heap.size + 1, 1, none⟩ = some (.slice b1 X1.up.length e1) := by simp [go_sem]
  go_wp2_with fail
  refine (idem_c hd hx0 hx1 hX1).mono ?_; rintro e w1 ⟨rfl, hb1⟩
  have hx0 := hx0.below hb1; have hx1 := hx1.below hb1; have d00 := kept hb1 d00; have d01 := kept hb1 d01; have d10 := kept hb1 d10; have d11 := kept hb1 d11
  rw [← HI.out]
  go_wp2_with fail
  refine (rank_c hd hx0 hx1 hX1).mono ?_; rintro e w2 ⟨rfl, hb2⟩
  have hx0 := hx0.below hb2; have hx1 := hx1.below hb2; have d00 := kept hb2 d00; have d01 := kept hb2 d01; have d10 := kept hb2 d10; have d11 := kept hb2 d11
  rw [← HRK.out]
  go_wp2_with fail
  refine (jtrace_c hd hx0 hx1 hX1).mono ?_; rintro e w3 ⟨rfl, hb3⟩
  have hx0 := hx0.below hb3; have hx1 := hx1.below hb3; have d00 := kept hb3 d00; have d01 := kept hb3 d01; have d10 := kept hb3 d10; have d11 := kept hb3 d11
  rw [← HTR.out]
  go_wp2_with fail
  go_ret
  exact ⟨by first | rfl | (simp; done) | (simp; rfl), (by repeat (first | exact Below.refl _ _ | apply blw_drew | apply blw_alloc | (refine blw_set ?_ (by first | omega | (simp; done) | (simp; omega)) _) | refine below_chain ?_ (by assumption)))⟩
def RIdempotentOf1 (p0 : Int) (st0 : List Int) (X1 : Her) : Int := if chkH p0 st0 [X1] = 0 then (if traceH p0 X1 = 0 then 5 else if isPt p0 st0 X1 = true then 0 else 5) else chkH p0 st0 [X1]
def RIdempotentOf0 (p0 : Int) (st0 : List Int) (X1 : Her) : Her := if RIdempotentOf1 p0 st0 X1 = 0 then multH p0 X1 (invL p0 (traceH p0 X1)) else ⟨[], []⟩
theorem trace_fp {p : Int} {X : Her} (hp : 1 ≤ p) : 0 ≤ traceH p X ∧ traceH p X < p := by unfold traceH; exact mod_fp2 hp
theorem prim_pt {p : Int} {st : List Int} {X : Her} (hd : Dok p st) (hX : isH p (sz st.length) X = true) (ht : traceH p X ≠ 0) : primH p st (multH p X (invL p (traceH p X))) = isPt p st X := by
  have h := idem_prim hd hX ht
  cases h2 : isPt p st X
  · have h3 : ¬ rankH p st X = 1 := fun e => by unfold isPt at h2; rw [e] at h2; exact absurd h2 (by decide)
    cases h4 : primH p st (multH p X (invL p (traceH p X)))
    · rfl
    · exact absurd (h.1 h4) h3
  · exact h.2 (by simpa [isPt] using h2)
theorem pts_one {p : Int} {st : List Int} {X : Her} (h : chkH p st [X] = 0) : ptsH p st [X] = if isPt p st X = true then 0 else 5 := by
  unfold ptsH
  rw [if_pos h]
  simp
theorem pts_non {p : Int} {st : List Int} {X : Her} (h : ¬ chkH p st [X] = 0) : ptsH p st [X] = chkH p st [X] := if_neg h
set_option maxHeartbeats 2000000 in
set_option maxRecDepth 100000 in
theorem iIdempotentOf_c {p0 : Int} {x0 : Value} {st0 : List Int} {x1 : Value} {X1 : Her} {w : World} (hx0 : El w x0 st0) (hm0 : st0.length ≤ 1048576) (hx1 : Hv w x1 X1) (hz1 : Hsz X1) :
    Calls Tryz.prog 17 #[.agg #[.int .i64 p0, x0], x1] w fun e w' => ∃ v0, e = .returned (.tuple #[v0, .int .i64 (RIdempotentOf1 p0 st0 X1)]) ∧ OwH w' w.heap.size v0 (RIdempotentOf0 p0 st0 X1) ∧ Below w.heap.size w w' := by
  obtain ⟨a0, c0, rfl, _⟩ := id hx0.op
  obtain ⟨dv1, uv1, rfl, hd1_, hu1_⟩ := id hx1; obtain ⟨a1, c1, rfl, _⟩ := id hd1_.op; obtain ⟨b1, e1, rfl, _⟩ := id hu1_; clear hd1_ hu1_
  obtain ⟨W, hW⟩ : ∃ W, W = ((((w.alloc (.cells #[.int .i64 p0, .slice a0 st0.length c0] 32)).alloc (.cells #[.slice a1 X1.dg.length c1, .slice b1 X1.up.length e1] 34)).alloc (.cells #[.slice none 0 0, .slice none 0 0] 34)).alloc (.cells #[.slice a1 X1.dg.length c1, .slice b1 X1.up.length e1] 34)) := ⟨_, rfl⟩
  have hbW : Below w.heap.size w W := by rw [hW]; exact (by repeat (first | exact Below.refl _ _ | apply blw_drew | apply blw_alloc | (refine blw_set ?_ (by first | omega | (simp; done) | (simp; omega)) _) | refine below_chain ?_ (by assumption)))
  have hx0 := hx0.below hbW
  have hx1 := hx1.below hbW
  have d00 : W.cell? ⟨w.heap.size, 0, none⟩ = some (.int .i64 p0) := by rw [hW]; simp [go_sem]
  have d01 : W.cell? ⟨w.heap.size, 1, none⟩ = some (.slice a0 st0.length c0) := by rw [hW]; simp [go_sem]
  have d10 : W.cell? ⟨w.heap.size + 1, 0, none⟩ = some (.slice a1 X1.dg.length c1) := by rw [hW]; simp [go_sem]
  have d11 : W.cell? ⟨w.heap.size + 1, 1, none⟩ = some (.slice b1 X1.up.length e1) := by rw [hW]; simp [go_sem]
  have hr : Bx W (w.heap.size + 1 + 1) (.slice none 0 0) (.slice none 0 0) := by rw [hW]; exact Bx.below (by unfold Bx; rw [show w.heap.size + 1 + 1 = ((w.alloc (.cells #[.int .i64 p0, .slice a0 st0.length c0] 32)).alloc (.cells #[.slice a1 X1.dg.length c1, .slice b1 X1.up.length e1] 34)).heap.size by simp]; exact heap_alloc_new _ _) (by repeat (first | exact Below.refl _ _ | apply blw_drew | apply blw_alloc | (refine blw_set ?_ (by first | omega | (simp; done) | (simp; omega)) _) | refine below_chain ?_ (by assumption)))
  have hWs : W.heap.size = w.heap.size + 1 + 1 + 1 + 1 := by rw [hW]; simp
  have gl : Lh W (.slice (some ⟨w.heap.size + 1 + 1 + 1, 0, none⟩) 1 1) [X1] := Lh.one hx1 (by rw [hW]; simp [go_sem]) (by rw [hW]; simp [go_sem])
  have hcon := chkh_c (p := p0) hx0 hm0 gl (by intro X hX; simp at hX; subst hX; exact hz1) (by simp)
  have HWs := Lib.hid hWs; clear hWs
  rw [hW] at hcon
  by_cases h0 : chkH p0 st0 [X1] = 0
  · rw [h0] at hcon
    obtain ⟨hd, hall⟩ := chkH_pos h0
    have hX1 : isH p0 (sz st0.length) X1 = true := by simp at hall; exact hall
    clear hall
    have hp1 := hd.hp.lo; have hp2 := hd.hp.hi
    have hT := trace_fp (p := p0) (X := X1) (by omega)
    obtain ⟨q, hq_⟩ : ∃ q, q = traceH p0 X1 := ⟨_, rfl⟩
    have HQ := Lib.hid hq_
    by_cases h2 : traceH p0 X1 = 0
    · have h2q : q = 0 := hq_.trans h2
      clear hq_
      have e1 : RIdempotentOf1 p0 st0 X1 = 5 := by unfold RIdempotentOf1; rw [if_pos h0, if_pos h2]
      rw [show RIdempotentOf0 p0 st0 X1 = ⟨[], []⟩ from if_neg (by rw [e1]; decide), e1]
      clear e1
      go_enter Tryz.func17, Tryz.ntmps17
      go_wp2_with fail
      refine hcon.mono ?_; rintro e w1 ⟨rfl, hb1⟩
      rw [← hW] at hb1
      clear hW hcon
      have hx0 := hx0.below hb1; have hx1 := hx1.below hb1; have d00 := kept hb1 d00; have d01 := kept hb1 d01; have d10 := kept hb1 d10; have d11 := kept hb1 d11; have hr := hr.below hb1
      clear h2 hT
      go_wp2_with fail
      refine (jtrace_c hd hx0 hx1 hX1).mono ?_; rintro e w22 ⟨rfl, hb22⟩
      have hx0 := hx0.below hb22; have hx1 := hx1.below hb22; have d00 := kept hb22 d00; have d01 := kept hb22 d01; have d10 := kept hb22 d10; have d11 := kept hb22 d11; have hr := hr.below hb22
      rw [← HQ.out]
      have rc0 := hr.c0; have rc1 := hr.c1; have rf0 := hr.f0; have rf1 := hr.f1
      go_wp2_with fail
      refine bodyPost_ret (v := .tuple #[.agg #[.slice none 0 0, .slice none 0 0], .int .i64 5]) (by simp [results, Tryz.results17, go_sem, rc0, rc1]) rfl ⟨_, rfl, .inl ⟨rfl, rfl⟩, ?_⟩
      exact blw_set (blw_set (by repeat (first | exact Below.refl _ _ | apply blw_drew | apply blw_alloc | (refine blw_set ?_ (by first | omega | (simp; done) | (simp; omega)) _) | refine below_chain ?_ (by assumption))) (by first | omega | (simp; done) | (simp; omega)) _) (by first | omega | (simp; done) | (simp; omega)) _
    · have h2q : ¬ q = 0 := fun e => h2 (hq_.symm.trans e)
      have hne_ : (q == 0) = false := by simpa using h2q
      have hqb : 1 ≤ q ∧ q < p0 := by rw [← hq_] at hT; omega
      have hL := invL_fp (p := p0) (a := q) (by omega)
      have hM := multH_is (p := p0) (k := invL p0 q) (by omega) hX1
      have hPP := prim_pt hd hX1 h2
      rw [← hq_] at hPP
      clear hq_
      cases h3 : isPt p0 st0 X1
      · skip
        have e1 : RIdempotentOf1 p0 st0 X1 = 5 := by unfold RIdempotentOf1; rw [if_pos h0, if_neg h2, if_neg (by rw [h3]; decide)]
        rw [show RIdempotentOf0 p0 st0 X1 = ⟨[], []⟩ from if_neg (by rw [e1]; decide), e1]
        clear e1
        go_enter Tryz.func17, Tryz.ntmps17
        go_wp2_with fail
        refine hcon.mono ?_; rintro e w1 ⟨rfl, hb1⟩
        rw [← hW] at hb1
        clear hW hcon
        have hx0 := hx0.below hb1; have hx1 := hx1.below hb1; have d00 := kept hb1 d00; have d01 := kept hb1 d01; have d10 := kept hb1 d10; have d11 := kept hb1 d11; have hr := hr.below hb1
        rw [h3] at hPP
        have HPP := Lib.hid hPP; clear hPP h3
        clear h2 hT
        go_wp2_with fail
        refine (jtrace_c hd hx0 hx1 hX1).mono ?_; rintro e w22 ⟨rfl, hb22⟩
        have hx0 := hx0.below hb22; have hx1 := hx1.below hb22; have d00 := kept hb22 d00; have d01 := kept hb22 d01; have d10 := kept hb22 d10; have d11 := kept hb22 d11; have hr := hr.below hb22
        rw [← HQ.out]
        have hz0_ : w1.heap.size ≤ (w22).heap.size := (below_le (by repeat (first | exact Below.refl _ _ | apply blw_drew | apply blw_alloc | (refine blw_set ?_ (by first | omega | (simp; done) | (simp; omega)) _) | refine below_chain ?_ (by assumption))))
        have hbw0 : Below w.heap.size w w22 := (by repeat (first | exact Below.refl _ _ | apply blw_drew | apply blw_alloc | (refine blw_set ?_ (by first | omega | (simp; done) | (simp; omega)) _) | refine below_chain ?_ (by assumption)))
        go_upto_region 7 with fail
        obtain ⟨W0, hW0⟩ : ∃ W, W = w22 := ⟨_, rfl⟩
        rw [← hW0] at hbw0 hx0 hx1 d00 d01 d10 d11 hr hz0_ ⊢
        clear hW0
        go_cut [8] (fun s_ wx => ∃ N d u, s_ = .pointer (some ⟨N, 0, none⟩) ∧ W0.heap.size ≤ N ∧ Bx wx N d u ∧ FrH wx W0.heap.size (.agg #[d, u]) (multH p0 X1 (invL p0 q)) ∧ Below W0.heap.size W0 wx)
        case first =>
          refine region_tq [(0, 1), (1, 1), (2, 1), (4, 0)] (.two 3 5 (.two 5 5 (.two 6 5 (.lin [(false, [(7, 5)]), (false, [(8, 4)])]) 7 5 (.lin [(false, [(6, 4), (8, 4)])])) 7 5 (.lin [(false, [(5, 5)]), (false, [(6, 4), (8, 4)])])) 7 5 (.lin [(false, [(3, 5)]), (false, [(5, 5)]), (false, [(6, 4), (8, 4)])])) (by kernel_rfl) ?_
          refine norm_K fun K hK => ?_
          change wpList _ _ _ [_, _, _, _] _ _
          go_wp2_with fail
          have hbq : Below W0.heap.size W0 W0.drew := (by repeat (first | exact Below.refl _ _ | apply blw_drew | apply blw_alloc | (refine blw_set ?_ (by first | omega | (simp; done) | (simp; omega)) _) | refine below_chain ?_ (by assumption)))
          have hx0 := hx0.below hbq; have hx1 := hx1.below hbq; have hr := hr.below hbq; have d00 := kept hbq d00; have d01 := kept hbq d01; have d10 := kept hbq d10; have d11 := kept hbq d11
          have szq : W0.heap.size = W0.drew.heap.size := rfl
          generalize W0.drew = wq at *
          refine hK _ _ ?_; clear hK K
          refine ⟨?_, ?_⟩
          · skip
            refine norm_K fun K hK => ?_
            change wpList _ _ _ [_] _ _
            go_wp2_with fail
            refine (dfield_c).mono ?_; rintro e w41 ⟨rfl, hb41⟩
            have hx0 := hx0.below hb41; have hx1 := hx1.below hb41; have hr := hr.below hb41; have d00 := kept hb41 d00; have d01 := kept hb41 d01; have d10 := kept hb41 d10; have d11 := kept hb41 d11
            have sz41 : wq.heap.size ≤ w41.heap.size := hb41.size
            go_wp2_with fail
            first | (refine hK _ _ ⟨(by repeat (first | exact Below.refl _ _ | apply blw_drew | apply blw_alloc | (refine blw_set ?_ (by first | omega | (simp; done) | (simp; omega)) _) | refine below_chain ?_ (by assumption))), ?_⟩; clear hK K) | refine ⟨(by repeat (first | exact Below.refl _ _ | apply blw_drew | apply blw_alloc | (refine blw_set ?_ (by first | omega | (simp; done) | (simp; omega)) _) | refine below_chain ?_ (by assumption))), ?_⟩
            refine ⟨?_, ?_⟩
            · skip
              refine norm_K fun K hK => ?_
              change wpList _ _ _ [_] _ _
              go_wp2_with fail
              refine (inv_c (p := p0) (a := q) (by omega) (by omega) (by omega) (by omega)).mono ?_; rintro e w42 ⟨rfl, rfl⟩
              go_wp2_with fail
              first | (refine hK _ _ ⟨(by repeat (first | exact Below.refl _ _ | apply blw_drew | apply blw_alloc | (refine blw_set ?_ (by first | omega | (simp; done) | (simp; omega)) _) | refine below_chain ?_ (by assumption))), ?_⟩; clear hK K) | refine ⟨(by repeat (first | exact Below.refl _ _ | apply blw_drew | apply blw_alloc | (refine blw_set ?_ (by first | omega | (simp; done) | (simp; omega)) _) | refine below_chain ?_ (by assumption))), ?_⟩
              refine ⟨?_, ?_⟩
              · skip
                refine norm_K fun K hK => ?_
                change wpList _ _ _ [_] _ _
                go_wp2_with fail
                refine (mult_c (k := invL p0 q) hd hx0 hx1 hX1 (by omega) (by omega)).mono ?_; rintro e w43 ⟨v3, rfl, h3_, hb43⟩
                have hx0 := hx0.below hb43; have hx1 := hx1.below hb43; have hr := hr.below hb43; have d00 := kept hb43 d00; have d01 := kept hb43 d01; have d10 := kept hb43 d10; have d11 := kept hb43 d11
                have sz43 : w41.heap.size ≤ w43.heap.size := hb43.size
                obtain ⟨dq, uq, usq, rfl, ⟨g2, k2_, rfl, q2⟩, hu2_, hne2⟩ := id h3_; obtain ⟨g3, k3_, rfl, hq3_⟩ := id hu2_; clear hq3_ hu2_ q2
                go_wp2_with fail
                first | (refine hK _ _ ⟨(by repeat (first | exact Below.refl _ _ | apply blw_drew | apply blw_alloc | (refine blw_set ?_ (by first | omega | (simp; done) | (simp; omega)) _) | refine below_chain ?_ (by assumption))), ?_⟩; clear hK K) | refine ⟨(by repeat (first | exact Below.refl _ _ | apply blw_drew | apply blw_alloc | (refine blw_set ?_ (by first | omega | (simp; done) | (simp; omega)) _) | refine below_chain ?_ (by assumption))), ?_⟩
                refine norm_K fun K hK => ?_
                change wpList _ _ _ [_] _ _
                go_wp2_with fail
                have hb44 : Below w43.heap.size w43 (w43.alloc (.cells #[.slice none 0 0, .slice none 0 0] 34)) := (by repeat (first | exact Below.refl _ _ | apply blw_drew | apply blw_alloc | (refine blw_set ?_ (by first | omega | (simp; done) | (simp; omega)) _) | refine below_chain ?_ (by assumption)))
                have h3_A := h3_; have hbA := hb44
                have hx0 := hx0.below hb44; have hx1 := hx1.below hb44; have hr := hr.below hb44; have d00 := kept hb44 d00; have d01 := kept hb44 d01; have d10 := kept hb44 d10; have d11 := kept hb44 d11; have h3_ := h3_.below hb44
                have hN : Bx (w43.alloc (.cells #[.slice none 0 0, .slice none 0 0] 34)) w43.heap.size (.slice none 0 0) (.slice none 0 0) := heap_alloc_new _ _
                have sz44 : w43.heap.size + 1 = (w43.alloc (.cells #[.slice none 0 0, .slice none 0 0] 34)).heap.size := by simp
                go_wp2_with fail
                obtain ⟨w44, hw_⟩ : ∃ x, x = (w43.alloc (.cells #[.slice none 0 0, .slice none 0 0] 34)) := ⟨_, rfl⟩
                rw [← hw_] at hb44 sz44 hx0 hx1 hr d00 d01 d10 d11 h3_ hN hbA ⊢; clear hw_
                go_wp2_with fail
                first | (refine hK _ _ ⟨(by repeat (first | exact Below.refl _ _ | apply blw_drew | apply blw_alloc | (refine blw_set ?_ (by first | omega | (simp; done) | (simp; omega)) _) | refine below_chain ?_ (by assumption))), ?_⟩; clear hK K) | refine ⟨(by repeat (first | exact Below.refl _ _ | apply blw_drew | apply blw_alloc | (refine blw_set ?_ (by first | omega | (simp; done) | (simp; omega)) _) | refine below_chain ?_ (by assumption))), ?_⟩
                refine norm_K fun K hK => ?_
                change wpList _ _ _ [_] _ _
                have rc0 := hN.c0; have rc1 := hN.c1; have rf0 := hN.f0; have rf1 := hN.f1
                go_wp2_with fail
                first | (refine hK _ _ ⟨rfl, ?_⟩; clear hK K) | refine ⟨rfl, ?_⟩
                go_wp2_with fail
                go_meet
                case rel => exact ⟨w43.heap.size, _, _, rfl, by omega, (hN.set0 _).set1 _, (h3_A.below (blw_set (p := ⟨w43.heap.size, 1, none⟩) (blw_set (p := ⟨w43.heap.size, 0, none⟩) hbA (Nat.le_refl _) _) (Nat.le_refl _) _)).more (by omega), (by repeat (first | exact Below.refl _ _ | apply blw_drew | apply blw_alloc | (refine blw_set ?_ (by first | omega | (simp; done) | (simp; omega)) _) | refine below_chain ?_ (by assumption)))⟩
              · skip
                refine norm_K fun K hK => ?_
                change wpList _ _ _ [_] _ _
                go_wp2_with fail
                have hb43 : Below w41.heap.size w41 (w41.alloc (.cells #[.slice none 0 0, .slice none 0 0] 34)) := (by repeat (first | exact Below.refl _ _ | apply blw_drew | apply blw_alloc | (refine blw_set ?_ (by first | omega | (simp; done) | (simp; omega)) _) | refine below_chain ?_ (by assumption)))
                have hx0 := hx0.below hb43; have hx1 := hx1.below hb43; have hr := hr.below hb43; have d00 := kept hb43 d00; have d01 := kept hb43 d01; have d10 := kept hb43 d10; have d11 := kept hb43 d11
                have hN : Bx (w41.alloc (.cells #[.slice none 0 0, .slice none 0 0] 34)) w41.heap.size (.slice none 0 0) (.slice none 0 0) := heap_alloc_new _ _
                have sz43 : w41.heap.size + 1 = (w41.alloc (.cells #[.slice none 0 0, .slice none 0 0] 34)).heap.size := by simp
                go_wp2_with fail
                obtain ⟨w43, hw_⟩ : ∃ x, x = (w41.alloc (.cells #[.slice none 0 0, .slice none 0 0] 34)) := ⟨_, rfl⟩
                rw [← hw_] at hb43 sz43 hx0 hx1 hr d00 d01 d10 d11 hN ⊢; clear hw_
                go_wp2_with fail
                first | (refine hK _ _ ⟨(by repeat (first | exact Below.refl _ _ | apply blw_drew | apply blw_alloc | (refine blw_set ?_ (by first | omega | (simp; done) | (simp; omega)) _) | refine below_chain ?_ (by assumption))), ?_⟩; clear hK K) | refine ⟨(by repeat (first | exact Below.refl _ _ | apply blw_drew | apply blw_alloc | (refine blw_set ?_ (by first | omega | (simp; done) | (simp; omega)) _) | refine below_chain ?_ (by assumption))), ?_⟩
                refine norm_K fun K hK => ?_
                change wpList _ _ _ [_, _] _ _
                go_wp2_with fail
                refine (mult_c (k := invL p0 q) hd hx0 hx1 hX1 (by omega) (by omega)).mono ?_; rintro e w44 ⟨v3, rfl, h3_, hb44⟩
                have hx0 := hx0.below hb44; have hx1 := hx1.below hb44; have hr := hr.below hb44; have d00 := kept hb44 d00; have d01 := kept hb44 d01; have d10 := kept hb44 d10; have d11 := kept hb44 d11; have hN := hN.below hb44
                have sz44 : w43.heap.size ≤ w44.heap.size := hb44.size
                obtain ⟨dq, uq, usq, rfl, ⟨g2, k2_, rfl, q2⟩, hu2_, hne2⟩ := id h3_; obtain ⟨g3, k3_, rfl, hq3_⟩ := id hu2_; clear hq3_ hu2_ q2
                have rc0 := hN.c0; have rc1 := hN.c1; have rf0 := hN.f0; have rf1 := hN.f1
                go_wp2_with fail
                first | (refine hK _ _ ⟨rfl, ?_⟩; clear hK K) | refine ⟨rfl, ?_⟩
                go_wp2_with fail
                go_meet
                case rel => exact ⟨w41.heap.size, _, _, rfl, by omega, (hN.set0 _).set1 _, ((h3_.set_ (p := ⟨w41.heap.size, 0, none⟩) (show w41.heap.size < _ by omega) _).set_ (p := ⟨w41.heap.size, 1, none⟩) (show w41.heap.size < _ by omega) _).more (by omega), (by repeat (first | exact Below.refl _ _ | apply blw_drew | apply blw_alloc | (refine blw_set ?_ (by first | omega | (simp; done) | (simp; omega)) _) | refine below_chain ?_ (by assumption)))⟩
            · skip
              refine norm_K fun K hK => ?_
              change wpList _ _ _ [_] _ _
              go_wp2_with fail
              have hb42 : Below w41.heap.size w41 (w41.alloc (.cells #[.slice none 0 0, .slice none 0 0] 34)) := (by repeat (first | exact Below.refl _ _ | apply blw_drew | apply blw_alloc | (refine blw_set ?_ (by first | omega | (simp; done) | (simp; omega)) _) | refine below_chain ?_ (by assumption)))
              have hx0 := hx0.below hb42; have hx1 := hx1.below hb42; have hr := hr.below hb42; have d00 := kept hb42 d00; have d01 := kept hb42 d01; have d10 := kept hb42 d10; have d11 := kept hb42 d11
              have hN : Bx (w41.alloc (.cells #[.slice none 0 0, .slice none 0 0] 34)) w41.heap.size (.slice none 0 0) (.slice none 0 0) := heap_alloc_new _ _
              have sz42 : w41.heap.size + 1 = (w41.alloc (.cells #[.slice none 0 0, .slice none 0 0] 34)).heap.size := by simp
              go_wp2_with fail
              obtain ⟨w42, hw_⟩ : ∃ x, x = (w41.alloc (.cells #[.slice none 0 0, .slice none 0 0] 34)) := ⟨_, rfl⟩
              rw [← hw_] at hb42 sz42 hx0 hx1 hr d00 d01 d10 d11 hN ⊢; clear hw_
              go_wp2_with fail
              first | (refine hK _ _ ⟨(by repeat (first | exact Below.refl _ _ | apply blw_drew | apply blw_alloc | (refine blw_set ?_ (by first | omega | (simp; done) | (simp; omega)) _) | refine below_chain ?_ (by assumption))), ?_⟩; clear hK K) | refine ⟨(by repeat (first | exact Below.refl _ _ | apply blw_drew | apply blw_alloc | (refine blw_set ?_ (by first | omega | (simp; done) | (simp; omega)) _) | refine below_chain ?_ (by assumption))), ?_⟩
              refine norm_K fun K hK => ?_
              change wpList _ _ _ [_] _ _
              go_wp2_with fail
              refine (inv_c (p := p0) (a := q) (by omega) (by omega) (by omega) (by omega)).mono ?_; rintro e w43 ⟨rfl, rfl⟩
              go_wp2_with fail
              first | (refine hK _ _ ⟨(by repeat (first | exact Below.refl _ _ | apply blw_drew | apply blw_alloc | (refine blw_set ?_ (by first | omega | (simp; done) | (simp; omega)) _) | refine below_chain ?_ (by assumption))), ?_⟩; clear hK K) | refine ⟨(by repeat (first | exact Below.refl _ _ | apply blw_drew | apply blw_alloc | (refine blw_set ?_ (by first | omega | (simp; done) | (simp; omega)) _) | refine below_chain ?_ (by assumption))), ?_⟩
              refine norm_K fun K hK => ?_
              change wpList _ _ _ [_, _] _ _
              go_wp2_with fail
              refine (mult_c (k := invL p0 q) hd hx0 hx1 hX1 (by omega) (by omega)).mono ?_; rintro e w44 ⟨v3, rfl, h3_, hb44⟩
              have hx0 := hx0.below hb44; have hx1 := hx1.below hb44; have hr := hr.below hb44; have d00 := kept hb44 d00; have d01 := kept hb44 d01; have d10 := kept hb44 d10; have d11 := kept hb44 d11; have hN := hN.below hb44
              have sz44 : w42.heap.size ≤ w44.heap.size := hb44.size
              obtain ⟨dq, uq, usq, rfl, ⟨g2, k2_, rfl, q2⟩, hu2_, hne2⟩ := id h3_; obtain ⟨g3, k3_, rfl, hq3_⟩ := id hu2_; clear hq3_ hu2_ q2
              have rc0 := hN.c0; have rc1 := hN.c1; have rf0 := hN.f0; have rf1 := hN.f1
              go_wp2_with fail
              first | (refine hK _ _ ⟨rfl, ?_⟩; clear hK K) | refine ⟨rfl, ?_⟩
              go_wp2_with fail
              go_meet
              case rel => exact ⟨w41.heap.size, _, _, rfl, by omega, (hN.set0 _).set1 _, ((h3_.set_ (p := ⟨w41.heap.size, 0, none⟩) (show w41.heap.size < _ by omega) _).set_ (p := ⟨w41.heap.size, 1, none⟩) (show w41.heap.size < _ by omega) _).more (by omega), (by repeat (first | exact Below.refl _ _ | apply blw_drew | apply blw_alloc | (refine blw_set ?_ (by first | omega | (simp; done) | (simp; omega)) _) | refine below_chain ?_ (by assumption)))⟩
          · skip
            refine norm_K fun K hK => ?_
            change wpList _ _ _ [_] _ _
            go_wp2_with fail
            have hb41 : Below wq.heap.size wq (wq.alloc (.cells #[.slice none 0 0, .slice none 0 0] 34)) := (by repeat (first | exact Below.refl _ _ | apply blw_drew | apply blw_alloc | (refine blw_set ?_ (by first | omega | (simp; done) | (simp; omega)) _) | refine below_chain ?_ (by assumption)))
            have hx0 := hx0.below hb41; have hx1 := hx1.below hb41; have hr := hr.below hb41; have d00 := kept hb41 d00; have d01 := kept hb41 d01; have d10 := kept hb41 d10; have d11 := kept hb41 d11
            have hN : Bx (wq.alloc (.cells #[.slice none 0 0, .slice none 0 0] 34)) wq.heap.size (.slice none 0 0) (.slice none 0 0) := heap_alloc_new _ _
            have sz41 : wq.heap.size + 1 = (wq.alloc (.cells #[.slice none 0 0, .slice none 0 0] 34)).heap.size := by simp
            go_wp2_with fail
            obtain ⟨w41, hw_⟩ : ∃ x, x = (wq.alloc (.cells #[.slice none 0 0, .slice none 0 0] 34)) := ⟨_, rfl⟩
            rw [← hw_] at hb41 sz41 hx0 hx1 hr d00 d01 d10 d11 hN ⊢; clear hw_
            go_wp2_with fail
            first | (refine hK _ _ ⟨(by repeat (first | exact Below.refl _ _ | apply blw_drew | apply blw_alloc | (refine blw_set ?_ (by first | omega | (simp; done) | (simp; omega)) _) | refine below_chain ?_ (by assumption))), ?_⟩; clear hK K) | refine ⟨(by repeat (first | exact Below.refl _ _ | apply blw_drew | apply blw_alloc | (refine blw_set ?_ (by first | omega | (simp; done) | (simp; omega)) _) | refine below_chain ?_ (by assumption))), ?_⟩
            refine norm_K fun K hK => ?_
            change wpList _ _ _ [_] _ _
            go_wp2_with fail
            refine (dfield_c).mono ?_; rintro e w42 ⟨rfl, hb42⟩
            have hx0 := hx0.below hb42; have hx1 := hx1.below hb42; have hr := hr.below hb42; have d00 := kept hb42 d00; have d01 := kept hb42 d01; have d10 := kept hb42 d10; have d11 := kept hb42 d11; have hN := hN.below hb42
            have sz42 : w41.heap.size ≤ w42.heap.size := hb42.size
            go_wp2_with fail
            first | (refine hK _ _ ⟨(by repeat (first | exact Below.refl _ _ | apply blw_drew | apply blw_alloc | (refine blw_set ?_ (by first | omega | (simp; done) | (simp; omega)) _) | refine below_chain ?_ (by assumption))), ?_⟩; clear hK K) | refine ⟨(by repeat (first | exact Below.refl _ _ | apply blw_drew | apply blw_alloc | (refine blw_set ?_ (by first | omega | (simp; done) | (simp; omega)) _) | refine below_chain ?_ (by assumption))), ?_⟩
            refine norm_K fun K hK => ?_
            change wpList _ _ _ [_] _ _
            go_wp2_with fail
            refine (inv_c (p := p0) (a := q) (by omega) (by omega) (by omega) (by omega)).mono ?_; rintro e w43 ⟨rfl, rfl⟩
            go_wp2_with fail
            first | (refine hK _ _ ⟨(by repeat (first | exact Below.refl _ _ | apply blw_drew | apply blw_alloc | (refine blw_set ?_ (by first | omega | (simp; done) | (simp; omega)) _) | refine below_chain ?_ (by assumption))), ?_⟩; clear hK K) | refine ⟨(by repeat (first | exact Below.refl _ _ | apply blw_drew | apply blw_alloc | (refine blw_set ?_ (by first | omega | (simp; done) | (simp; omega)) _) | refine below_chain ?_ (by assumption))), ?_⟩
            refine norm_K fun K hK => ?_
            change wpList _ _ _ [_, _] _ _
            go_wp2_with fail
            refine (mult_c (k := invL p0 q) hd hx0 hx1 hX1 (by omega) (by omega)).mono ?_; rintro e w44 ⟨v3, rfl, h3_, hb44⟩
            have hx0 := hx0.below hb44; have hx1 := hx1.below hb44; have hr := hr.below hb44; have d00 := kept hb44 d00; have d01 := kept hb44 d01; have d10 := kept hb44 d10; have d11 := kept hb44 d11; have hN := hN.below hb44
            have sz44 : w42.heap.size ≤ w44.heap.size := hb44.size
            obtain ⟨dq, uq, usq, rfl, ⟨g2, k2_, rfl, q2⟩, hu2_, hne2⟩ := id h3_; obtain ⟨g3, k3_, rfl, hq3_⟩ := id hu2_; clear hq3_ hu2_ q2
            have rc0 := hN.c0; have rc1 := hN.c1; have rf0 := hN.f0; have rf1 := hN.f1
            go_wp2_with fail
            first | (refine hK _ _ ⟨rfl, ?_⟩; clear hK K) | refine ⟨rfl, ?_⟩
            go_wp2_with fail
            go_meet
            case rel => exact ⟨wq.heap.size, _, _, rfl, by omega, (hN.set0 _).set1 _, ((h3_.set_ (p := ⟨wq.heap.size, 0, none⟩) (show wq.heap.size < _ by omega) _).set_ (p := ⟨wq.heap.size, 1, none⟩) (show wq.heap.size < _ by omega) _).more (by omega), (by repeat (first | exact Below.refl _ _ | apply blw_drew | apply blw_alloc | (refine blw_set ?_ (by first | omega | (simp; done) | (simp; omega)) _) | refine below_chain ?_ (by assumption)))⟩
        case' rest => skip
        obtain ⟨N0, dN, uN, rfl, hN0, hN, hF, hbC⟩ := hcut
        have hx0 := hx0.below hbC; have hx1 := hx1.below hbC; have hr := hr.below hbC; have d00 := kept hbC d00; have d01 := kept hbC d01; have d10 := kept hbC d10; have d11 := kept hbC d11
        have n0 := hN.c0; have n1 := hN.c1
        obtain ⟨d1_, u1_, us1, e1_, ⟨g1, k1_, rfl, q1⟩, hu1, hne1⟩ := id hF; cases e1_; obtain ⟨g2, k2_, rfl, hq_⟩ := id hu1; clear hq_ q1 hN
        have hul : us1.length = 3 := by obtain ⟨_, _, _, _, h, _⟩ := hu1; exact h
        have HU := Lib.hid hul; clear hul
        go_wp2_with fail
        refine (prim_c hd hx0 hF.hv hM).mono ?_; rintro e w21 ⟨rfl, hb21⟩
        have hx0 := hx0.below hb21; have hx1 := hx1.below hb21; have hr := hr.below hb21; have d00 := kept hb21 d00; have d01 := kept hb21 d01; have d10 := kept hb21 d10; have d11 := kept hb21 d11; have hF := hF.below hb21; have n0 := kept hb21 n0; have n1 := kept hb21 n1
        rw [HPP.out]
        have rc0 := hr.c0; have rc1 := hr.c1; have rf0 := hr.f0; have rf1 := hr.f1
        go_wp2_with fail
        refine bodyPost_ret (v := .tuple #[.agg #[.slice none 0 0, .slice none 0 0], .int .i64 5]) (by simp [results, Tryz.results17, go_sem, rc0, rc1]) rfl ⟨_, rfl, .inl ⟨rfl, rfl⟩, ?_⟩
        exact blw_set (blw_set (by repeat (first | exact Below.refl _ _ | apply blw_drew | apply blw_alloc | (refine blw_set ?_ (by first | omega | (simp; done) | (simp; omega)) _) | refine below_chain ?_ (by assumption))) (by first | omega | (simp; done) | (simp; omega)) _) (by first | omega | (simp; done) | (simp; omega)) _
      · skip
        have e1 : RIdempotentOf1 p0 st0 X1 = 0 := by unfold RIdempotentOf1; rw [if_pos h0, if_neg h2, if_pos h3]
        rw [show RIdempotentOf0 p0 st0 X1 = multH p0 X1 (invL p0 (traceH p0 X1)) from if_pos e1, e1]
        clear e1
        rw [← HQ.out]
        go_enter Tryz.func17, Tryz.ntmps17
        go_wp2_with fail
        refine hcon.mono ?_; rintro e w1 ⟨rfl, hb1⟩
        rw [← hW] at hb1
        clear hW hcon
        have hx0 := hx0.below hb1; have hx1 := hx1.below hb1; have d00 := kept hb1 d00; have d01 := kept hb1 d01; have d10 := kept hb1 d10; have d11 := kept hb1 d11; have hr := hr.below hb1
        rw [h3] at hPP
        have HPP := Lib.hid hPP; clear hPP h3
        clear h2 hT
        go_wp2_with fail
        refine (jtrace_c hd hx0 hx1 hX1).mono ?_; rintro e w22 ⟨rfl, hb22⟩
        have hx0 := hx0.below hb22; have hx1 := hx1.below hb22; have d00 := kept hb22 d00; have d01 := kept hb22 d01; have d10 := kept hb22 d10; have d11 := kept hb22 d11; have hr := hr.below hb22
        rw [← HQ.out]
        have hz0_ : w1.heap.size ≤ (w22).heap.size := (below_le (by repeat (first | exact Below.refl _ _ | apply blw_drew | apply blw_alloc | (refine blw_set ?_ (by first | omega | (simp; done) | (simp; omega)) _) | refine below_chain ?_ (by assumption))))
        have hbw0 : Below w.heap.size w w22 := (by repeat (first | exact Below.refl _ _ | apply blw_drew | apply blw_alloc | (refine blw_set ?_ (by first | omega | (simp; done) | (simp; omega)) _) | refine below_chain ?_ (by assumption)))
        go_upto_region 7 with fail
        obtain ⟨W0, hW0⟩ : ∃ W, W = w22 := ⟨_, rfl⟩
        rw [← hW0] at hbw0 hx0 hx1 d00 d01 d10 d11 hr hz0_ ⊢
        clear hW0
        go_cut [8] (fun s_ wx => ∃ N d u, s_ = .pointer (some ⟨N, 0, none⟩) ∧ W0.heap.size ≤ N ∧ Bx wx N d u ∧ FrH wx W0.heap.size (.agg #[d, u]) (multH p0 X1 (invL p0 q)) ∧ Below W0.heap.size W0 wx)
        case first =>
          refine region_tq [(0, 1), (1, 1), (2, 1), (4, 0)] (.two 3 5 (.two 5 5 (.two 6 5 (.lin [(false, [(7, 5)]), (false, [(8, 4)])]) 7 5 (.lin [(false, [(6, 4), (8, 4)])])) 7 5 (.lin [(false, [(5, 5)]), (false, [(6, 4), (8, 4)])])) 7 5 (.lin [(false, [(3, 5)]), (false, [(5, 5)]), (false, [(6, 4), (8, 4)])])) (by kernel_rfl) ?_
          refine norm_K fun K hK => ?_
          change wpList _ _ _ [_, _, _, _] _ _
          go_wp2_with fail
          have hbq : Below W0.heap.size W0 W0.drew := (by repeat (first | exact Below.refl _ _ | apply blw_drew | apply blw_alloc | (refine blw_set ?_ (by first | omega | (simp; done) | (simp; omega)) _) | refine below_chain ?_ (by assumption)))
          have hx0 := hx0.below hbq; have hx1 := hx1.below hbq; have hr := hr.below hbq; have d00 := kept hbq d00; have d01 := kept hbq d01; have d10 := kept hbq d10; have d11 := kept hbq d11
          have szq : W0.heap.size = W0.drew.heap.size := rfl
          generalize W0.drew = wq at *
          refine hK _ _ ?_; clear hK K
          refine ⟨?_, ?_⟩
          · skip
            refine norm_K fun K hK => ?_
            change wpList _ _ _ [_] _ _
            go_wp2_with fail
            refine (dfield_c).mono ?_; rintro e w41 ⟨rfl, hb41⟩
            have hx0 := hx0.below hb41; have hx1 := hx1.below hb41; have hr := hr.below hb41; have d00 := kept hb41 d00; have d01 := kept hb41 d01; have d10 := kept hb41 d10; have d11 := kept hb41 d11
            have sz41 : wq.heap.size ≤ w41.heap.size := hb41.size
            go_wp2_with fail
            first | (refine hK _ _ ⟨(by repeat (first | exact Below.refl _ _ | apply blw_drew | apply blw_alloc | (refine blw_set ?_ (by first | omega | (simp; done) | (simp; omega)) _) | refine below_chain ?_ (by assumption))), ?_⟩; clear hK K) | refine ⟨(by repeat (first | exact Below.refl _ _ | apply blw_drew | apply blw_alloc | (refine blw_set ?_ (by first | omega | (simp; done) | (simp; omega)) _) | refine below_chain ?_ (by assumption))), ?_⟩
            refine ⟨?_, ?_⟩
            · skip
              refine norm_K fun K hK => ?_
              change wpList _ _ _ [_] _ _
              go_wp2_with fail
              refine (inv_c (p := p0) (a := q) (by omega) (by omega) (by omega) (by omega)).mono ?_; rintro e w42 ⟨rfl, rfl⟩
              go_wp2_with fail
              first | (refine hK _ _ ⟨(by repeat (first | exact Below.refl _ _ | apply blw_drew | apply blw_alloc | (refine blw_set ?_ (by first | omega | (simp; done) | (simp; omega)) _) | refine below_chain ?_ (by assumption))), ?_⟩; clear hK K) | refine ⟨(by repeat (first | exact Below.refl _ _ | apply blw_drew | apply blw_alloc | (refine blw_set ?_ (by first | omega | (simp; done) | (simp; omega)) _) | refine below_chain ?_ (by assumption))), ?_⟩
              refine ⟨?_, ?_⟩
              · skip
                refine norm_K fun K hK => ?_
                change wpList _ _ _ [_] _ _
                go_wp2_with fail
                refine (mult_c (k := invL p0 q) hd hx0 hx1 hX1 (by omega) (by omega)).mono ?_; rintro e w43 ⟨v3, rfl, h3_, hb43⟩
                have hx0 := hx0.below hb43; have hx1 := hx1.below hb43; have hr := hr.below hb43; have d00 := kept hb43 d00; have d01 := kept hb43 d01; have d10 := kept hb43 d10; have d11 := kept hb43 d11
                have sz43 : w41.heap.size ≤ w43.heap.size := hb43.size
                obtain ⟨dq, uq, usq, rfl, ⟨g2, k2_, rfl, q2⟩, hu2_, hne2⟩ := id h3_; obtain ⟨g3, k3_, rfl, hq3_⟩ := id hu2_; clear hq3_ hu2_ q2
                go_wp2_with fail
                first | (refine hK _ _ ⟨(by repeat (first | exact Below.refl _ _ | apply blw_drew | apply blw_alloc | (refine blw_set ?_ (by first | omega | (simp; done) | (simp; omega)) _) | refine below_chain ?_ (by assumption))), ?_⟩; clear hK K) | refine ⟨(by repeat (first | exact Below.refl _ _ | apply blw_drew | apply blw_alloc | (refine blw_set ?_ (by first | omega | (simp; done) | (simp; omega)) _) | refine below_chain ?_ (by assumption))), ?_⟩
                refine norm_K fun K hK => ?_
                change wpList _ _ _ [_] _ _
                go_wp2_with fail
                have hb44 : Below w43.heap.size w43 (w43.alloc (.cells #[.slice none 0 0, .slice none 0 0] 34)) := (by repeat (first | exact Below.refl _ _ | apply blw_drew | apply blw_alloc | (refine blw_set ?_ (by first | omega | (simp; done) | (simp; omega)) _) | refine below_chain ?_ (by assumption)))
                have h3_A := h3_; have hbA := hb44
                have hx0 := hx0.below hb44; have hx1 := hx1.below hb44; have hr := hr.below hb44; have d00 := kept hb44 d00; have d01 := kept hb44 d01; have d10 := kept hb44 d10; have d11 := kept hb44 d11; have h3_ := h3_.below hb44
                have hN : Bx (w43.alloc (.cells #[.slice none 0 0, .slice none 0 0] 34)) w43.heap.size (.slice none 0 0) (.slice none 0 0) := heap_alloc_new _ _
                have sz44 : w43.heap.size + 1 = (w43.alloc (.cells #[.slice none 0 0, .slice none 0 0] 34)).heap.size := by simp
                go_wp2_with fail
                obtain ⟨w44, hw_⟩ : ∃ x, x = (w43.alloc (.cells #[.slice none 0 0, .slice none 0 0] 34)) := ⟨_, rfl⟩
                rw [← hw_] at hb44 sz44 hx0 hx1 hr d00 d01 d10 d11 h3_ hN hbA ⊢; clear hw_
                go_wp2_with fail
                first | (refine hK _ _ ⟨(by repeat (first | exact Below.refl _ _ | apply blw_drew | apply blw_alloc | (refine blw_set ?_ (by first | omega | (simp; done) | (simp; omega)) _) | refine below_chain ?_ (by assumption))), ?_⟩; clear hK K) | refine ⟨(by repeat (first | exact Below.refl _ _ | apply blw_drew | apply blw_alloc | (refine blw_set ?_ (by first | omega | (simp; done) | (simp; omega)) _) | refine below_chain ?_ (by assumption))), ?_⟩
                refine norm_K fun K hK => ?_
                change wpList _ _ _ [_] _ _
                have rc0 := hN.c0; have rc1 := hN.c1; have rf0 := hN.f0; have rf1 := hN.f1
                go_wp2_with fail
                first | (refine hK _ _ ⟨rfl, ?_⟩; clear hK K) | refine ⟨rfl, ?_⟩
                go_wp2_with fail
                go_meet
                case rel => exact ⟨w43.heap.size, _, _, rfl, by omega, (hN.set0 _).set1 _, (h3_A.below (blw_set (p := ⟨w43.heap.size, 1, none⟩) (blw_set (p := ⟨w43.heap.size, 0, none⟩) hbA (Nat.le_refl _) _) (Nat.le_refl _) _)).more (by omega), (by repeat (first | exact Below.refl _ _ | apply blw_drew | apply blw_alloc | (refine blw_set ?_ (by first | omega | (simp; done) | (simp; omega)) _) | refine below_chain ?_ (by assumption)))⟩
              · skip
                refine norm_K fun K hK => ?_
                change wpList _ _ _ [_] _ _
                go_wp2_with fail
                have hb43 : Below w41.heap.size w41 (w41.alloc (.cells #[.slice none 0 0, .slice none 0 0] 34)) := (by repeat (first | exact Below.refl _ _ | apply blw_drew | apply blw_alloc | (refine blw_set ?_ (by first | omega | (simp; done) | (simp; omega)) _) | refine below_chain ?_ (by assumption)))
                have hx0 := hx0.below hb43; have hx1 := hx1.below hb43; have hr := hr.below hb43; have d00 := kept hb43 d00; have d01 := kept hb43 d01; have d10 := kept hb43 d10; have d11 := kept hb43 d11
                have hN : Bx (w41.alloc (.cells #[.slice none 0 0, .slice none 0 0] 34)) w41.heap.size (.slice none 0 0) (.slice none 0 0) := heap_alloc_new _ _
                have sz43 : w41.heap.size + 1 = (w41.alloc (.cells #[.slice none 0 0, .slice none 0 0] 34)).heap.size := by simp
                go_wp2_with fail
                obtain ⟨w43, hw_⟩ : ∃ x, x = (w41.alloc (.cells #[.slice none 0 0, .slice none 0 0] 34)) := ⟨_, rfl⟩
                rw [← hw_] at hb43 sz43 hx0 hx1 hr d00 d01 d10 d11 hN ⊢; clear hw_
                go_wp2_with fail
                first | (refine hK _ _ ⟨(by repeat (first | exact Below.refl _ _ | apply blw_drew | apply blw_alloc | (refine blw_set ?_ (by first | omega | (simp; done) | (simp; omega)) _) | refine below_chain ?_ (by assumption))), ?_⟩; clear hK K) | refine ⟨(by repeat (first | exact Below.refl _ _ | apply blw_drew | apply blw_alloc | (refine blw_set ?_ (by first | omega | (simp; done) | (simp; omega)) _) | refine below_chain ?_ (by assumption))), ?_⟩
                refine norm_K fun K hK => ?_
                change wpList _ _ _ [_, _] _ _
                go_wp2_with fail
                refine (mult_c (k := invL p0 q) hd hx0 hx1 hX1 (by omega) (by omega)).mono ?_; rintro e w44 ⟨v3, rfl, h3_, hb44⟩
                have hx0 := hx0.below hb44; have hx1 := hx1.below hb44; have hr := hr.below hb44; have d00 := kept hb44 d00; have d01 := kept hb44 d01; have d10 := kept hb44 d10; have d11 := kept hb44 d11; have hN := hN.below hb44
                have sz44 : w43.heap.size ≤ w44.heap.size := hb44.size
                obtain ⟨dq, uq, usq, rfl, ⟨g2, k2_, rfl, q2⟩, hu2_, hne2⟩ := id h3_; obtain ⟨g3, k3_, rfl, hq3_⟩ := id hu2_; clear hq3_ hu2_ q2
                have rc0 := hN.c0; have rc1 := hN.c1; have rf0 := hN.f0; have rf1 := hN.f1
                go_wp2_with fail
                first | (refine hK _ _ ⟨rfl, ?_⟩; clear hK K) | refine ⟨rfl, ?_⟩
                go_wp2_with fail
                go_meet
                case rel => exact ⟨w41.heap.size, _, _, rfl, by omega, (hN.set0 _).set1 _, ((h3_.set_ (p := ⟨w41.heap.size, 0, none⟩) (show w41.heap.size < _ by omega) _).set_ (p := ⟨w41.heap.size, 1, none⟩) (show w41.heap.size < _ by omega) _).more (by omega), (by repeat (first | exact Below.refl _ _ | apply blw_drew | apply blw_alloc | (refine blw_set ?_ (by first | omega | (simp; done) | (simp; omega)) _) | refine below_chain ?_ (by assumption)))⟩
            · skip
              refine norm_K fun K hK => ?_
              change wpList _ _ _ [_] _ _
              go_wp2_with fail
              have hb42 : Below w41.heap.size w41 (w41.alloc (.cells #[.slice none 0 0, .slice none 0 0] 34)) := (by repeat (first | exact Below.refl _ _ | apply blw_drew | apply blw_alloc | (refine blw_set ?_ (by first | omega | (simp; done) | (simp; omega)) _) | refine below_chain ?_ (by assumption)))
              have hx0 := hx0.below hb42; have hx1 := hx1.below hb42; have hr := hr.below hb42; have d00 := kept hb42 d00; have d01 := kept hb42 d01; have d10 := kept hb42 d10; have d11 := kept hb42 d11
              have hN : Bx (w41.alloc (.cells #[.slice none 0 0, .slice none 0 0] 34)) w41.heap.size (.slice none 0 0) (.slice none 0 0) := heap_alloc_new _ _
              have sz42 : w41.heap.size + 1 = (w41.alloc (.cells #[.slice none 0 0, .slice none 0 0] 34)).heap.size := by simp
              go_wp2_with fail
              obtain ⟨w42, hw_⟩ : ∃ x, x = (w41.alloc (.cells #[.slice none 0 0, .slice none 0 0] 34)) := ⟨_, rfl⟩
              rw [← hw_] at hb42 sz42 hx0 hx1 hr d00 d01 d10 d11 hN ⊢; clear hw_
              go_wp2_with fail
              first | (refine hK _ _ ⟨(by repeat (first | exact Below.refl _ _ | apply blw_drew | apply blw_alloc | (refine blw_set ?_ (by first | omega | (simp; done) | (simp; omega)) _) | refine below_chain ?_ (by assumption))), ?_⟩; clear hK K) | refine ⟨(by repeat (first | exact Below.refl _ _ | apply blw_drew | apply blw_alloc | (refine blw_set ?_ (by first | omega | (simp; done) | (simp; omega)) _) | refine below_chain ?_ (by assumption))), ?_⟩
              refine norm_K fun K hK => ?_
              change wpList _ _ _ [_] _ _
              go_wp2_with fail
              refine (inv_c (p := p0) (a := q) (by omega) (by omega) (by omega) (by omega)).mono ?_; rintro e w43 ⟨rfl, rfl⟩
              go_wp2_with fail
              first | (refine hK _ _ ⟨(by repeat (first | exact Below.refl _ _ | apply blw_drew | apply blw_alloc | (refine blw_set ?_ (by first | omega | (simp; done) | (simp; omega)) _) | refine below_chain ?_ (by assumption))), ?_⟩; clear hK K) | refine ⟨(by repeat (first | exact Below.refl _ _ | apply blw_drew | apply blw_alloc | (refine blw_set ?_ (by first | omega | (simp; done) | (simp; omega)) _) | refine below_chain ?_ (by assumption))), ?_⟩
              refine norm_K fun K hK => ?_
              change wpList _ _ _ [_, _] _ _
              go_wp2_with fail
              refine (mult_c (k := invL p0 q) hd hx0 hx1 hX1 (by omega) (by omega)).mono ?_; rintro e w44 ⟨v3, rfl, h3_, hb44⟩
              have hx0 := hx0.below hb44; have hx1 := hx1.below hb44; have hr := hr.below hb44; have d00 := kept hb44 d00; have d01 := kept hb44 d01; have d10 := kept hb44 d10; have d11 := kept hb44 d11; have hN := hN.below hb44
              have sz44 : w42.heap.size ≤ w44.heap.size := hb44.size
              obtain ⟨dq, uq, usq, rfl, ⟨g2, k2_, rfl, q2⟩, hu2_, hne2⟩ := id h3_; obtain ⟨g3, k3_, rfl, hq3_⟩ := id hu2_; clear hq3_ hu2_ q2
              have rc0 := hN.c0; have rc1 := hN.c1; have rf0 := hN.f0; have rf1 := hN.f1
              go_wp2_with fail
              first | (refine hK _ _ ⟨rfl, ?_⟩; clear hK K) | refine ⟨rfl, ?_⟩
              go_wp2_with fail
              go_meet
              case rel => exact ⟨w41.heap.size, _, _, rfl, by omega, (hN.set0 _).set1 _, ((h3_.set_ (p := ⟨w41.heap.size, 0, none⟩) (show w41.heap.size < _ by omega) _).set_ (p := ⟨w41.heap.size, 1, none⟩) (show w41.heap.size < _ by omega) _).more (by omega), (by repeat (first | exact Below.refl _ _ | apply blw_drew | apply blw_alloc | (refine blw_set ?_ (by first | omega | (simp; done) | (simp; omega)) _) | refine below_chain ?_ (by assumption)))⟩
          · skip
            refine norm_K fun K hK => ?_
            change wpList _ _ _ [_] _ _
            go_wp2_with fail
            have hb41 : Below wq.heap.size wq (wq.alloc (.cells #[.slice none 0 0, .slice none 0 0] 34)) := (by repeat (first | exact Below.refl _ _ | apply blw_drew | apply blw_alloc | (refine blw_set ?_ (by first | omega | (simp; done) | (simp; omega)) _) | refine below_chain ?_ (by assumption)))
            have hx0 := hx0.below hb41; have hx1 := hx1.below hb41; have hr := hr.below hb41; have d00 := kept hb41 d00; have d01 := kept hb41 d01; have d10 := kept hb41 d10; have d11 := kept hb41 d11
            have hN : Bx (wq.alloc (.cells #[.slice none 0 0, .slice none 0 0] 34)) wq.heap.size (.slice none 0 0) (.slice none 0 0) := heap_alloc_new _ _
            have sz41 : wq.heap.size + 1 = (wq.alloc (.cells #[.slice none 0 0, .slice none 0 0] 34)).heap.size := by simp
            go_wp2_with fail
            obtain ⟨w41, hw_⟩ : ∃ x, x = (wq.alloc (.cells #[.slice none 0 0, .slice none 0 0] 34)) := ⟨_, rfl⟩
            rw [← hw_] at hb41 sz41 hx0 hx1 hr d00 d01 d10 d11 hN ⊢; clear hw_
            go_wp2_with fail
            first | (refine hK _ _ ⟨(by repeat (first | exact Below.refl _ _ | apply blw_drew | apply blw_alloc | (refine blw_set ?_ (by first | omega | (simp; done) | (simp; omega)) _) | refine below_chain ?_ (by assumption))), ?_⟩; clear hK K) | refine ⟨(by repeat (first | exact Below.refl _ _ | apply blw_drew | apply blw_alloc | (refine blw_set ?_ (by first | omega | (simp; done) | (simp; omega)) _) | refine below_chain ?_ (by assumption))), ?_⟩
            refine norm_K fun K hK => ?_
            change wpList _ _ _ [_] _ _
            go_wp2_with fail
            refine (dfield_c).mono ?_; rintro e w42 ⟨rfl, hb42⟩
            have hx0 := hx0.below hb42; have hx1 := hx1.below hb42; have hr := hr.below hb42; have d00 := kept hb42 d00; have d01 := kept hb42 d01; have d10 := kept hb42 d10; have d11 := kept hb42 d11; have hN := hN.below hb42
            have sz42 : w41.heap.size ≤ w42.heap.size := hb42.size
            go_wp2_with fail
            first | (refine hK _ _ ⟨(by repeat (first | exact Below.refl _ _ | apply blw_drew | apply blw_alloc | (refine blw_set ?_ (by first | omega | (simp; done) | (simp; omega)) _) | refine below_chain ?_ (by assumption))), ?_⟩; clear hK K) | refine ⟨(by repeat (first | exact Below.refl _ _ | apply blw_drew | apply blw_alloc | (refine blw_set ?_ (by first | omega | (simp; done) | (simp; omega)) _) | refine below_chain ?_ (by assumption))), ?_⟩
            refine norm_K fun K hK => ?_
            change wpList _ _ _ [_] _ _
            go_wp2_with fail
            refine (inv_c (p := p0) (a := q) (by omega) (by omega) (by omega) (by omega)).mono ?_; rintro e w43 ⟨rfl, rfl⟩
            go_wp2_with fail
            first | (refine hK _ _ ⟨(by repeat (first | exact Below.refl _ _ | apply blw_drew | apply blw_alloc | (refine blw_set ?_ (by first | omega | (simp; done) | (simp; omega)) _) | refine below_chain ?_ (by assumption))), ?_⟩; clear hK K) | refine ⟨(by repeat (first | exact Below.refl _ _ | apply blw_drew | apply blw_alloc | (refine blw_set ?_ (by first | omega | (simp; done) | (simp; omega)) _) | refine below_chain ?_ (by assumption))), ?_⟩
            refine norm_K fun K hK => ?_
            change wpList _ _ _ [_, _] _ _
            go_wp2_with fail
            refine (mult_c (k := invL p0 q) hd hx0 hx1 hX1 (by omega) (by omega)).mono ?_; rintro e w44 ⟨v3, rfl, h3_, hb44⟩
            have hx0 := hx0.below hb44; have hx1 := hx1.below hb44; have hr := hr.below hb44; have d00 := kept hb44 d00; have d01 := kept hb44 d01; have d10 := kept hb44 d10; have d11 := kept hb44 d11; have hN := hN.below hb44
            have sz44 : w42.heap.size ≤ w44.heap.size := hb44.size
            obtain ⟨dq, uq, usq, rfl, ⟨g2, k2_, rfl, q2⟩, hu2_, hne2⟩ := id h3_; obtain ⟨g3, k3_, rfl, hq3_⟩ := id hu2_; clear hq3_ hu2_ q2
            have rc0 := hN.c0; have rc1 := hN.c1; have rf0 := hN.f0; have rf1 := hN.f1
            go_wp2_with fail
            first | (refine hK _ _ ⟨rfl, ?_⟩; clear hK K) | refine ⟨rfl, ?_⟩
            go_wp2_with fail
            go_meet
            case rel => exact ⟨wq.heap.size, _, _, rfl, by omega, (hN.set0 _).set1 _, ((h3_.set_ (p := ⟨wq.heap.size, 0, none⟩) (show wq.heap.size < _ by omega) _).set_ (p := ⟨wq.heap.size, 1, none⟩) (show wq.heap.size < _ by omega) _).more (by omega), (by repeat (first | exact Below.refl _ _ | apply blw_drew | apply blw_alloc | (refine blw_set ?_ (by first | omega | (simp; done) | (simp; omega)) _) | refine below_chain ?_ (by assumption)))⟩
        case' rest => skip
        obtain ⟨N0, dN, uN, rfl, hN0, hN, hF, hbC⟩ := hcut
        have hx0 := hx0.below hbC; have hx1 := hx1.below hbC; have hr := hr.below hbC; have d00 := kept hbC d00; have d01 := kept hbC d01; have d10 := kept hbC d10; have d11 := kept hbC d11
        have n0 := hN.c0; have n1 := hN.c1
        obtain ⟨d1_, u1_, us1, e1_, ⟨g1, k1_, rfl, q1⟩, hu1, hne1⟩ := id hF; cases e1_; obtain ⟨g2, k2_, rfl, hq_⟩ := id hu1; clear hq_ q1 hN
        have hul : us1.length = 3 := by obtain ⟨_, _, _, _, h, _⟩ := hu1; exact h
        have HU := Lib.hid hul; clear hul
        go_wp2_with fail
        refine (prim_c hd hx0 hF.hv hM).mono ?_; rintro e w21 ⟨rfl, hb21⟩
        have hx0 := hx0.below hb21; have hx1 := hx1.below hb21; have hr := hr.below hb21; have d00 := kept hb21 d00; have d01 := kept hb21 d01; have d10 := kept hb21 d10; have d11 := kept hb21 d11; have hF := hF.below hb21; have n0 := kept hb21 n0; have n1 := kept hb21 n1
        rw [HPP.out]
        have hu3 : (multH p0 X1 (invL p0 q)).up.length = 3 := (isH_parts (hM)).2.2.1
        have hu4 : (multH p0 X1 (invL p0 q)).dg.length = 3 := (isH_parts (hM)).1
        have hz1_ : w.heap.size + 1 + 1 + 1 + 1 ≤ w1.heap.size := by have := hb1.size; have := HWs.out; omega
        have rc0 := hr.c0; have rc1 := hr.c1; have rf0 := hr.f0; have rf1 := hr.f1
        go_wp2_with fail
        refine bodyPost_ret (v := .tuple #[.agg #[.slice (some ⟨g1, 0, none⟩) (multH p0 X1 (invL p0 q)).dg.length k1_, .slice (some ⟨g2, 0, none⟩) us1.length k2_], .int .i64 0]) (by simp [results, Tryz.results17, go_sem, rc0, rc1, HU.out, hu3, hu4]) rfl ⟨_, rfl, .inr ?_, ?_⟩
        · exact ((hF.set_ (by first | omega | (simp; done) | (simp; omega)) _).set_ (by first | omega | (simp; done) | (simp; omega)) _).more (by omega)
        · exact blw_set (blw_set (by repeat (first | exact Below.refl _ _ | apply blw_drew | apply blw_alloc | (refine blw_set ?_ (by first | omega | (simp; done) | (simp; omega)) _) | refine below_chain ?_ (by assumption))) (by first | omega | (simp; done) | (simp; omega)) _) (by first | omega | (simp; done) | (simp; omega)) _
  · have e1 : RIdempotentOf1 p0 st0 X1 = chkH p0 st0 [X1] := by first | (unfold RIdempotentOf1; rw [if_neg h0]; done) | rfl
    rw [show RIdempotentOf0 p0 st0 X1 = ⟨[], []⟩ from if_neg (by rw [e1]; exact h0), e1]; clear e1
    obtain ⟨k, hk⟩ : ∃ k, k = chkH p0 st0 [X1] := ⟨_, rfl⟩
    rw [← hk] at h0 hcon ⊢
    clear hk
    have hne : (k == 0) = false := by simpa using h0
    go_enter Tryz.func17, Tryz.ntmps17
    go_wp2_with fail
    refine hcon.mono ?_; rintro e w1 ⟨rfl, hb1⟩
    rw [← hW] at hb1
    clear hW hcon
    have hr := hr.below hb1
    have rc0 := hr.c0; have rc1 := hr.c1; have rf0 := hr.f0; have rf1 := hr.f1
    go_wp2_with fail
    refine bodyPost_ret (v := .tuple #[.agg #[.slice none 0 0, .slice none 0 0], .int .i64 k]) (by simp [results, Tryz.results17, go_sem, rc0, rc1]) rfl ⟨_, rfl, .inl ⟨rfl, rfl⟩, ?_⟩
    exact blw_set (blw_set (by repeat (first | exact Below.refl _ _ | apply blw_drew | apply blw_alloc | (refine blw_set ?_ (by first | omega | (simp; done) | (simp; omega)) _) | refine below_chain ?_ (by assumption))) (by first | omega | (simp; done) | (simp; omega)) _) (by first | omega | (simp; done) | (simp; omega)) _
set_option maxHeartbeats 2000000 in
set_option maxRecDepth 100000 in
theorem sIdempotentOf_c {p0 : Int} {x0 : Value} {st0 : List Int} {x1 : Value} {X1 : Her} {w : World} (hx0 : El w x0 st0) (hm0 : st0.length ≤ 1048576) (hx1 : Hv w x1 X1) (hz1 : Hsz X1) :
    Calls Tryz.prog 16 #[.agg #[.int .i64 p0, x0], x1] w fun e w' => ∃ v0, e = .returned (.tuple #[v0, .int .i64 (RIdempotentOf1 p0 st0 X1)]) ∧ OwH w' w.heap.size v0 (RIdempotentOf0 p0 st0 X1) ∧ Below w.heap.size w w' := by
  obtain ⟨a0, c0, rfl, _⟩ := id hx0.op
  obtain ⟨dv1, uv1, rfl, hd1_, hu1_⟩ := id hx1; obtain ⟨a1, c1, rfl, _⟩ := id hd1_.op; obtain ⟨b1, e1, rfl, _⟩ := id hu1_; clear hd1_ hu1_
  obtain ⟨W, hW⟩ : ∃ W, W = ((((w.alloc (.cells #[.int .i64 p0, .slice a0 st0.length c0] 32)).alloc (.cells #[.slice a1 X1.dg.length c1, .slice b1 X1.up.length e1] 34)).alloc (.cells #[.slice none 0 0, .slice none 0 0] 34)).alloc (.cells #[.slice a1 X1.dg.length c1, .slice b1 X1.up.length e1] 34)) := ⟨_, rfl⟩
  have hbW : Below w.heap.size w W := by rw [hW]; exact (by repeat (first | exact Below.refl _ _ | apply blw_drew | apply blw_alloc | (refine blw_set ?_ (by first | omega | (simp; done) | (simp; omega)) _) | refine below_chain ?_ (by assumption)))
  have hx0 := hx0.below hbW
  have hx1 := hx1.below hbW
  have d00 : W.cell? ⟨w.heap.size, 0, none⟩ = some (.int .i64 p0) := by rw [hW]; simp [go_sem]
  have d01 : W.cell? ⟨w.heap.size, 1, none⟩ = some (.slice a0 st0.length c0) := by rw [hW]; simp [go_sem]
  have d10 : W.cell? ⟨w.heap.size + 1, 0, none⟩ = some (.slice a1 X1.dg.length c1) := by rw [hW]; simp [go_sem]
  have d11 : W.cell? ⟨w.heap.size + 1, 1, none⟩ = some (.slice b1 X1.up.length e1) := by rw [hW]; simp [go_sem]
  have hr : Bx W (w.heap.size + 1 + 1) (.slice none 0 0) (.slice none 0 0) := by rw [hW]; exact Bx.below (by unfold Bx; rw [show w.heap.size + 1 + 1 = ((w.alloc (.cells #[.int .i64 p0, .slice a0 st0.length c0] 32)).alloc (.cells #[.slice a1 X1.dg.length c1, .slice b1 X1.up.length e1] 34)).heap.size by simp]; exact heap_alloc_new _ _) (by repeat (first | exact Below.refl _ _ | apply blw_drew | apply blw_alloc | (refine blw_set ?_ (by first | omega | (simp; done) | (simp; omega)) _) | refine below_chain ?_ (by assumption)))
  have hWs : W.heap.size = w.heap.size + 1 + 1 + 1 + 1 := by rw [hW]; simp
  have gl : Lh W (.slice (some ⟨w.heap.size + 1 + 1 + 1, 0, none⟩) 1 1) [X1] := Lh.one hx1 (by rw [hW]; simp [go_sem]) (by rw [hW]; simp [go_sem])
  have hcon := sl17p_c (p := p0) hx0 hm0 gl (by intro X hX; simp at hX; subst hX; exact hz1) (by simp)
  have HWs := Lib.hid hWs; clear hWs
  rw [hW] at hcon
  by_cases h0 : chkH p0 st0 [X1] = 0
  · skip
    obtain ⟨hd, hall⟩ := chkH_pos h0
    have hX1 : isH p0 (sz st0.length) X1 = true := by simp at hall; exact hall
    clear hall
    have hp1 := hd.hp.lo; have hp2 := hd.hp.hi
    have hT := trace_fp (p := p0) (X := X1) (by omega)
    obtain ⟨q, hq_⟩ : ∃ q, q = traceH p0 X1 := ⟨_, rfl⟩
    have HQ := Lib.hid hq_
    by_cases h2 : traceH p0 X1 = 0
    · have h2q : q = 0 := hq_.trans h2
      clear hq_
      rw [pts_one h0] at hcon
      cases h3 : isPt p0 st0 X1
      · rw [h3] at hcon
        have e1 : RIdempotentOf1 p0 st0 X1 = 5 := by unfold RIdempotentOf1; rw [if_pos h0, if_pos h2]
        rw [show RIdempotentOf0 p0 st0 X1 = ⟨[], []⟩ from if_neg (by rw [e1]; decide), e1]
        clear e1
        go_enter Tryz.func16, Tryz.ntmps16
        go_wp2_with fail
        refine hcon.mono ?_; rintro e w1 ⟨rfl, hb1⟩
        rw [← hW] at hb1
        clear hW hcon
        have hx0 := hx0.below hb1; have hx1 := hx1.below hb1; have d00 := kept hb1 d00; have d01 := kept hb1 d01; have d10 := kept hb1 d10; have d11 := kept hb1 d11; have hr := hr.below hb1
        skip
        have rc0 := hr.c0; have rc1 := hr.c1; have rf0 := hr.f0; have rf1 := hr.f1
        go_wp2_with fail
        refine bodyPost_ret (v := .tuple #[.agg #[.slice none 0 0, .slice none 0 0], .int .i64 5]) (by simp [results, Tryz.results16, go_sem, rc0, rc1]) rfl ⟨_, rfl, .inl ⟨rfl, rfl⟩, ?_⟩
        exact blw_set (blw_set (by repeat (first | exact Below.refl _ _ | apply blw_drew | apply blw_alloc | (refine blw_set ?_ (by first | omega | (simp; done) | (simp; omega)) _) | refine below_chain ?_ (by assumption))) (by first | omega | (simp; done) | (simp; omega)) _) (by first | omega | (simp; done) | (simp; omega)) _
      · rw [h3] at hcon
        have e1 : RIdempotentOf1 p0 st0 X1 = 5 := by unfold RIdempotentOf1; rw [if_pos h0, if_pos h2]
        rw [show RIdempotentOf0 p0 st0 X1 = ⟨[], []⟩ from if_neg (by rw [e1]; decide), e1]
        clear e1
        go_enter Tryz.func16, Tryz.ntmps16
        go_wp2_with fail
        refine hcon.mono ?_; rintro e w1 ⟨rfl, hb1⟩
        rw [← hW] at hb1
        clear hW hcon
        have hx0 := hx0.below hb1; have hx1 := hx1.below hb1; have d00 := kept hb1 d00; have d01 := kept hb1 d01; have d10 := kept hb1 d10; have d11 := kept hb1 d11; have hr := hr.below hb1
        clear h2 hT h3
        go_wp2_with fail
        refine (strace_c hd.hp hx1 hX1).mono ?_; rintro e w22 ⟨rfl, hb22⟩
        have hx0 := hx0.below hb22; have hx1 := hx1.below hb22; have d00 := kept hb22 d00; have d01 := kept hb22 d01; have d10 := kept hb22 d10; have d11 := kept hb22 d11; have hr := hr.below hb22
        rw [← HQ.out]
        have rc0 := hr.c0; have rc1 := hr.c1; have rf0 := hr.f0; have rf1 := hr.f1
        go_wp2_with fail
        refine bodyPost_ret (v := .tuple #[.agg #[.slice none 0 0, .slice none 0 0], .int .i64 5]) (by simp [results, Tryz.results16, go_sem, rc0, rc1]) rfl ⟨_, rfl, .inl ⟨rfl, rfl⟩, ?_⟩
        exact blw_set (blw_set (by repeat (first | exact Below.refl _ _ | apply blw_drew | apply blw_alloc | (refine blw_set ?_ (by first | omega | (simp; done) | (simp; omega)) _) | refine below_chain ?_ (by assumption))) (by first | omega | (simp; done) | (simp; omega)) _) (by first | omega | (simp; done) | (simp; omega)) _
    · have h2q : ¬ q = 0 := fun e => h2 (hq_.symm.trans e)
      have hne_ : (q == 0) = false := by simpa using h2q
      have hqb : 1 ≤ q ∧ q < p0 := by rw [← hq_] at hT; omega
      have hL := invL_fp (p := p0) (a := q) (by omega)
      have hM := multH_is (p := p0) (k := invL p0 q) (by omega) hX1
      have hPP := prim_pt hd hX1 h2
      rw [← hq_] at hPP
      clear hq_
      cases h3 : isPt p0 st0 X1
      · rw [pts_one h0, h3] at hcon
        have e1 : RIdempotentOf1 p0 st0 X1 = 5 := by unfold RIdempotentOf1; rw [if_pos h0, if_neg h2, if_neg (by rw [h3]; decide)]
        rw [show RIdempotentOf0 p0 st0 X1 = ⟨[], []⟩ from if_neg (by rw [e1]; decide), e1]
        clear e1
        go_enter Tryz.func16, Tryz.ntmps16
        go_wp2_with fail
        refine hcon.mono ?_; rintro e w1 ⟨rfl, hb1⟩
        rw [← hW] at hb1
        clear hW hcon
        have hx0 := hx0.below hb1; have hx1 := hx1.below hb1; have d00 := kept hb1 d00; have d01 := kept hb1 d01; have d10 := kept hb1 d10; have d11 := kept hb1 d11; have hr := hr.below hb1
        skip
        have rc0 := hr.c0; have rc1 := hr.c1; have rf0 := hr.f0; have rf1 := hr.f1
        go_wp2_with fail
        refine bodyPost_ret (v := .tuple #[.agg #[.slice none 0 0, .slice none 0 0], .int .i64 5]) (by simp [results, Tryz.results16, go_sem, rc0, rc1]) rfl ⟨_, rfl, .inl ⟨rfl, rfl⟩, ?_⟩
        exact blw_set (blw_set (by repeat (first | exact Below.refl _ _ | apply blw_drew | apply blw_alloc | (refine blw_set ?_ (by first | omega | (simp; done) | (simp; omega)) _) | refine below_chain ?_ (by assumption))) (by first | omega | (simp; done) | (simp; omega)) _) (by first | omega | (simp; done) | (simp; omega)) _
      · rw [pts_one h0, h3] at hcon
        have e1 : RIdempotentOf1 p0 st0 X1 = 0 := by unfold RIdempotentOf1; rw [if_pos h0, if_neg h2, if_pos h3]
        rw [show RIdempotentOf0 p0 st0 X1 = multH p0 X1 (invL p0 (traceH p0 X1)) from if_pos e1, e1]
        clear e1
        rw [← HQ.out]
        go_enter Tryz.func16, Tryz.ntmps16
        go_wp2_with fail
        refine hcon.mono ?_; rintro e w1 ⟨rfl, hb1⟩
        rw [← hW] at hb1
        clear hW hcon
        have hx0 := hx0.below hb1; have hx1 := hx1.below hb1; have d00 := kept hb1 d00; have d01 := kept hb1 d01; have d10 := kept hb1 d10; have d11 := kept hb1 d11; have hr := hr.below hb1
        clear h2 hT h3 hPP
        go_wp2_with fail
        refine (strace_c hd.hp hx1 hX1).mono ?_; rintro e w22 ⟨rfl, hb22⟩
        have hx0 := hx0.below hb22; have hx1 := hx1.below hb22; have d00 := kept hb22 d00; have d01 := kept hb22 d01; have d10 := kept hb22 d10; have d11 := kept hb22 d11; have hr := hr.below hb22
        rw [← HQ.out]
        go_wp2_with fail
        refine region_flow [(false, [(0, 1), (1, 0), (2, 1), (3, 0), (4, 1), (5, 1), (8, 1), (6, 5)]), (false, [(7, 5)]), (false, [(9, 4), (10, 4), (11, 0)])] (by kernel_rfl) ?_
        refine norm_K fun K hK => ?_
        change wpList _ _ _ [_, _, _, _, _, _, _, _] _ _
        have hb23 : Below w22.heap.size w22 w22.drew := (by repeat (first | exact Below.refl _ _ | apply blw_drew | apply blw_alloc | (refine blw_set ?_ (by first | omega | (simp; done) | (simp; omega)) _) | refine below_chain ?_ (by assumption)))
        have hx0 := hx0.below hb23; have hx1 := hx1.below hb23; have d00 := kept hb23 d00; have d01 := kept hb23 d01; have d10 := kept hb23 d10; have d11 := kept hb23 d11; have hr := hr.below hb23
        generalize w22.drew = wq at *
        have hzq_ : w1.heap.size ≤ wq.heap.size := (below_le (by repeat (first | exact Below.refl _ _ | apply blw_drew | apply blw_alloc | (refine blw_set ?_ (by first | omega | (simp; done) | (simp; omega)) _) | refine below_chain ?_ (by assumption))))
        go_wp2_with fail
        refine (strace_c hd.hp hx1 hX1).mono ?_; rintro e w24 ⟨rfl, hb24⟩
        have hx0 := hx0.below hb24; have hx1 := hx1.below hb24; have d00 := kept hb24 d00; have d01 := kept hb24 d01; have d10 := kept hb24 d10; have d11 := kept hb24 d11; have hr := hr.below hb24
        rw [← HQ.out]
        go_wp2_with fail
        have hz0 : Below wq.heap.size wq w24 := (by repeat (first | exact Below.refl _ _ | apply blw_drew | apply blw_alloc | (refine blw_set ?_ (by first | omega | (simp; done) | (simp; omega)) _) | refine below_chain ?_ (by assumption)))
        first | (refine hK _ _ ⟨hz0, ?_⟩; clear hK K) | refine ⟨hz0, ?_⟩
        clear hz0
        refine norm_K fun K hK => ?_
        change wpList _ _ _ [_] _ _
        go_wp2_with fail
        refine (sinv_c (p := p0) (a := q) hd.hp hqb.1 hqb.2).mono ?_; rintro e w25 ⟨rfl, rfl⟩
        go_wp2_with fail
        have hz1 : Below wq.heap.size wq w24 := (by repeat (first | exact Below.refl _ _ | apply blw_drew | apply blw_alloc | (refine blw_set ?_ (by first | omega | (simp; done) | (simp; omega)) _) | refine below_chain ?_ (by assumption)))
        first | (refine hK _ _ ⟨hz1, ?_⟩; clear hK K) | refine ⟨hz1, ?_⟩
        clear hz1
        refine norm_K fun K hK => ?_
        change wpList _ _ _ [_, _, _] _ _
        have hzc_ : w1.heap.size ≤ (w24).heap.size := (below_le (by repeat (first | exact Below.refl _ _ | apply blw_drew | apply blw_alloc | (refine blw_set ?_ (by first | omega | (simp; done) | (simp; omega)) _) | refine below_chain ?_ (by assumption))))
        (try simp at hzc_)
        go_wp2_with fail
        refine (sscale16_c (k := invL p0 q) hd hx0 hx1 hX1 (by omega) (by omega)).mono ?_; rintro e w26 ⟨v, rfl, hv, hb26⟩
        have hx0 := hx0.below hb26; have hx1 := hx1.below hb26; have d00 := kept hb26 d00; have d01 := kept hb26 d01; have d10 := kept hb26 d10; have d11 := kept hb26 d11; have hr := hr.below hb26
        obtain ⟨d, u, us, rfl, ⟨g1, cap1, rfl, h1⟩, hu, hne⟩ := id hv
        obtain ⟨g2, cap2, rfl, _⟩ := id hu
        have hul : us.length = 3 := by obtain ⟨_, _, _, _, h, _⟩ := hu; exact h
        have HU := Lib.hid hul; clear hul
        have hu3 : (multH p0 X1 (invL p0 q)).up.length = 3 := (isH_parts (hM)).2.2.1
        have hu4 : (multH p0 X1 (invL p0 q)).dg.length = 3 := (isH_parts (hM)).1
        have hz1_ : w.heap.size + 1 + 1 + 1 + 1 ≤ w1.heap.size := by have := hb1.size; have := HWs.out; omega
        have rc0 := hr.c0; have rc1 := hr.c1; have rf0 := hr.f0; have rf1 := hr.f1
        go_wp2_with fail
        first | (refine hK _ _ ⟨rfl, ?_⟩; clear hK K) | refine ⟨rfl, ?_⟩
        go_wp2_with fail
        refine bodyPost_ret (v := .tuple #[.agg #[.slice (some ⟨g1, 0, none⟩) (multH p0 X1 (invL p0 q)).dg.length cap1, .slice (some ⟨g2, 0, none⟩) us.length cap2], .int .i64 0]) (by simp [results, Tryz.results16, go_sem, rc0, rc1, HU.out, hu3, hu4]) rfl ⟨_, rfl, .inr ?_, ?_⟩
        · exact ((hv.set_ (by first | omega | (simp; done) | (simp; omega)) _).set_ (by first | omega | (simp; done) | (simp; omega)) _).more (below_le (by repeat (first | exact Below.refl _ _ | apply blw_drew | apply blw_alloc | (refine blw_set ?_ (by first | omega | (simp; done) | (simp; omega)) _) | refine below_chain ?_ (by assumption))))
        · exact blw_set (blw_set (by repeat (first | exact Below.refl _ _ | apply blw_drew | apply blw_alloc | (refine blw_set ?_ (by first | omega | (simp; done) | (simp; omega)) _) | refine below_chain ?_ (by assumption))) (by first | omega | (simp; done) | (simp; omega)) _) (by first | omega | (simp; done) | (simp; omega)) _
  · have e1 : RIdempotentOf1 p0 st0 X1 = chkH p0 st0 [X1] := by first | (unfold RIdempotentOf1; rw [if_neg h0]; done) | rfl
    rw [show RIdempotentOf0 p0 st0 X1 = ⟨[], []⟩ from if_neg (by rw [e1]; exact h0), e1]; clear e1
    obtain ⟨k, hk⟩ : ∃ k, k = chkH p0 st0 [X1] := ⟨_, rfl⟩
    rw [pts_non h0] at hcon
    rw [← hk] at h0 hcon ⊢
    clear hk
    have hne : (k == 0) = false := by simpa using h0
    go_enter Tryz.func16, Tryz.ntmps16
    go_wp2_with fail
    refine hcon.mono ?_; rintro e w1 ⟨rfl, hb1⟩
    rw [← hW] at hb1
    clear hW hcon
    have hr := hr.below hb1
    have rc0 := hr.c0; have rc1 := hr.c1; have rf0 := hr.f0; have rf1 := hr.f1
    go_wp2_with fail
    refine bodyPost_ret (v := .tuple #[.agg #[.slice none 0 0, .slice none 0 0], .int .i64 k]) (by simp [results, Tryz.results16, go_sem, rc0, rc1]) rfl ⟨_, rfl, .inl ⟨rfl, rfl⟩, ?_⟩
    exact blw_set (blw_set (by repeat (first | exact Below.refl _ _ | apply blw_drew | apply blw_alloc | (refine blw_set ?_ (by first | omega | (simp; done) | (simp; omega)) _) | refine below_chain ?_ (by assumption))) (by first | omega | (simp; done) | (simp; omega)) _) (by first | omega | (simp; done) | (simp; omega)) _
theorem RIdempotentOf0_len (p0 : Int) (st0 : List Int) (X1 : Her) (_ : st0.length ≤ 1048576) (_ : Hsz X1) : Hs (RIdempotentOf0 p0 st0 X1) := by
  unfold RIdempotentOf0
  split
  · rename_i h
    have h0 : chkH p0 st0 [X1] = 0 := by
      unfold RIdempotentOf1 at h
      split at h
      · assumption
      · exact absurd h (by assumption)
    obtain ⟨hd, hall⟩ := chkH_pos h0
    simp at hall
    exact isH_hs hd (multH_is (by have := hd.hp.lo; omega) hall)
  · exact Hs.none
set_option maxHeartbeats 4000000 in
set_option maxRecDepth 100000 in
theorem law_IdempotentOf {p0 : Int} {x0 : Value} {st0 : List Int} {x1 : Value} {X1 : Her} {w : World} (hx0 : Sl w x0 st0) (hb0_ : st0.length ≤ 9223372036854775807) (hx1 : Hr w x1 X1) (hb1_ : Hbig X1) :
    Calls Tryz.prog 5 #[.agg #[.int .i64 p0, x0], x1] w fun e w' => e = .returned (.bool true) ∧ Below w.heap.size w w' := by
  obtain ⟨a0, c0, rfl, _⟩ := id hx0
  obtain ⟨dv1, uv1, rfl, hd1, hu1⟩ := id hx1
  obtain ⟨a1, c1, rfl, _⟩ := id hd1; obtain ⟨b1, e1, rfl, _⟩ := id hu1; clear hd1 hu1
  obtain ⟨z0, hz0_⟩ : ∃ z, z = szI 1048576 st0.length := ⟨_, rfl⟩
  have hzb0 := szI_bd (left := 1048576) (n := st0.length) (by omega) (by omega)
  rw [← hz0_] at hzb0
  have HZ0 := Lib.hid hz0_; clear hz0_
  by_cases hs0 : z0 < 0
  case pos =>
    go_enter Tryz.func5, Tryz.ntmps5
    have hb0 : Below w.heap.size w ((w.alloc (.cells #[.int .i64 p0, .slice a0 st0.length c0] 24)).alloc (.cells #[.slice a1 X1.dg.length c1, .slice b1 X1.up.length e1] 27)) := (by repeat (first | exact Below.refl _ _ | apply blw_drew | apply blw_alloc | (refine blw_set ?_ (by first | omega | (simp; done) | (simp; omega)) _) | refine below_chain ?_ (by assumption)))
    have hx0 := hx0.below hb0; have hx1 := hx1.below hb0
    have d00 : ((w.alloc (.cells #[.int .i64 p0, .slice a0 st0.length c0] 24)).alloc (.cells #[.slice a1 X1.dg.length c1, .slice b1 X1.up.length e1] 27)).cell? ⟨w.heap.size, 0, none⟩ = some (.int .i64 p0) := by simp [go_sem]
    have d01 : ((w.alloc (.cells #[.int .i64 p0, .slice a0 st0.length c0] 24)).alloc (.cells #[.slice a1 X1.dg.length c1, .slice b1 X1.up.length e1] 27)).cell? ⟨w.heap.size, 1, none⟩ = some (.slice a0 st0.length c0) := by simp [go_sem]
    have d10 : ((w.alloc (.cells #[.int .i64 p0, .slice a0 st0.length c0] 24)).alloc (.cells #[.slice a1 X1.dg.length c1, .slice b1 X1.up.length e1] 27)).cell? ⟨w.heap.size + 1, 0, none⟩ = some (.slice a1 X1.dg.length c1) := by simp [go_sem]
    have d11 : ((w.alloc (.cells #[.int .i64 p0, .slice a0 st0.length c0] 24)).alloc (.cells #[.slice a1 X1.dg.length c1, .slice b1 X1.up.length e1] 27)).cell? ⟨w.heap.size + 1, 1, none⟩ = some (.slice b1 X1.up.length e1) := by simp [go_sem]
    go_wp2_with fail
    refine (szd_c (by omega) (by omega) hb0_).mono ?_; rintro e w1 ⟨rfl, hb1⟩
    have hx0 := hx0.below hb1; have hx1 := hx1.below hb1; have d00 := kept hb1 d00; have d01 := kept hb1 d01; have d10 := kept hb1 d10; have d11 := kept hb1 d11
    simp only [← HZ0.out]
    go_wp2_with fail
    go_ret
    exact ⟨rfl, (by repeat (first | exact Below.refl _ _ | apply blw_drew | apply blw_alloc | (refine blw_set ?_ (by first | omega | (simp; done) | (simp; omega)) _) | refine below_chain ?_ (by assumption)))⟩
  have hl0 : st0.length ≤ 1048576 := szI_pos (left := 1048576) (by omega) (by rw [← HZ0.out]; exact hs0)
  obtain ⟨z1, hz1_⟩ : ∃ z, z = szH z0 X1 := ⟨_, rfl⟩
  have hzb1 := szH_bd (left := z0) (X := X1) (by omega) (by omega)
  rw [← hz1_] at hzb1
  have HZ1 := Lib.hid hz1_; clear hz1_
  by_cases hs1 : z1 < 0
  case pos =>
    go_enter Tryz.func5, Tryz.ntmps5
    have hb0 : Below w.heap.size w ((w.alloc (.cells #[.int .i64 p0, .slice a0 st0.length c0] 24)).alloc (.cells #[.slice a1 X1.dg.length c1, .slice b1 X1.up.length e1] 27)) := (by repeat (first | exact Below.refl _ _ | apply blw_drew | apply blw_alloc | (refine blw_set ?_ (by first | omega | (simp; done) | (simp; omega)) _) | refine below_chain ?_ (by assumption)))
    have hx0 := hx0.below hb0; have hx1 := hx1.below hb0
    have d00 : ((w.alloc (.cells #[.int .i64 p0, .slice a0 st0.length c0] 24)).alloc (.cells #[.slice a1 X1.dg.length c1, .slice b1 X1.up.length e1] 27)).cell? ⟨w.heap.size, 0, none⟩ = some (.int .i64 p0) := by simp [go_sem]
    have d01 : ((w.alloc (.cells #[.int .i64 p0, .slice a0 st0.length c0] 24)).alloc (.cells #[.slice a1 X1.dg.length c1, .slice b1 X1.up.length e1] 27)).cell? ⟨w.heap.size, 1, none⟩ = some (.slice a0 st0.length c0) := by simp [go_sem]
    have d10 : ((w.alloc (.cells #[.int .i64 p0, .slice a0 st0.length c0] 24)).alloc (.cells #[.slice a1 X1.dg.length c1, .slice b1 X1.up.length e1] 27)).cell? ⟨w.heap.size + 1, 0, none⟩ = some (.slice a1 X1.dg.length c1) := by simp [go_sem]
    have d11 : ((w.alloc (.cells #[.int .i64 p0, .slice a0 st0.length c0] 24)).alloc (.cells #[.slice a1 X1.dg.length c1, .slice b1 X1.up.length e1] 27)).cell? ⟨w.heap.size + 1, 1, none⟩ = some (.slice b1 X1.up.length e1) := by simp [go_sem]
    go_wp2_with fail
    refine (szd_c (by omega) (by omega) hb0_).mono ?_; rintro e w1 ⟨rfl, hb1⟩
    have hx0 := hx0.below hb1; have hx1 := hx1.below hb1; have d00 := kept hb1 d00; have d01 := kept hb1 d01; have d10 := kept hb1 d10; have d11 := kept hb1 d11
    simp only [← HZ0.out]
    go_wp2_with fail
    refine (szh_c hx1 hb1_ (by omega) (by omega)).mono ?_; rintro e w2 ⟨rfl, hb2⟩
    have hx0 := hx0.below hb2; have hx1 := hx1.below hb2; have d00 := kept hb2 d00; have d01 := kept hb2 d01; have d10 := kept hb2 d10; have d11 := kept hb2 d11
    simp only [← HZ1.out]
    go_wp2_with fail
    go_ret
    exact ⟨rfl, (by repeat (first | exact Below.refl _ _ | apply blw_drew | apply blw_alloc | (refine blw_set ?_ (by first | omega | (simp; done) | (simp; omega)) _) | refine below_chain ?_ (by assumption)))⟩
  have hl1 : Hsz X1 := szH_pos (left := z0) (by omega) (by omega) (by rw [← HZ1.out]; exact hs1)
  have hS1 : Hs X1 := szH_hs (left := z0) (by omega) (by omega) (by rw [← HZ1.out]; exact hs1)
  have hI := fun (W : World) (x0 : Value) (hx0 : El W x0 st0) (x1 : Value) (hx1 : Hv W x1 X1) => iIdempotentOf_c (w := W) (p0 := p0) hx0 hl0 hx1 hl1
  have hS := fun (W : World) (x0 : Value) (hx0 : El W x0 st0) (x1 : Value) (hx1 : Hv W x1 X1) => sIdempotentOf_c (w := W) (p0 := p0) hx0 hl0 hx1 hl1
  have yl0 := RIdempotentOf0_len p0 st0 X1 hl0 hl1
  obtain ⟨y0, hy0⟩ : ∃ y, y = RIdempotentOf0 p0 st0 X1 := ⟨_, rfl⟩
  obtain ⟨y1, hy1⟩ : ∃ y, y = RIdempotentOf1 p0 st0 X1 := ⟨_, rfl⟩
  simp only [← hy0, ← hy1] at hI hS yl0
  clear hy0 hy1
  go_enter Tryz.func5, Tryz.ntmps5
  have hb0 : Below w.heap.size w ((w.alloc (.cells #[.int .i64 p0, .slice a0 st0.length c0] 24)).alloc (.cells #[.slice a1 X1.dg.length c1, .slice b1 X1.up.length e1] 27)) := (by repeat (first | exact Below.refl _ _ | apply blw_drew | apply blw_alloc | (refine blw_set ?_ (by first | omega | (simp; done) | (simp; omega)) _) | refine below_chain ?_ (by assumption)))
  have hx0 := hx0.below hb0; have hx1 := hx1.below hb0
  have d00 : ((w.alloc (.cells #[.int .i64 p0, .slice a0 st0.length c0] 24)).alloc (.cells #[.slice a1 X1.dg.length c1, .slice b1 X1.up.length e1] 27)).cell? ⟨w.heap.size, 0, none⟩ = some (.int .i64 p0) := by simp [go_sem]
  have d01 : ((w.alloc (.cells #[.int .i64 p0, .slice a0 st0.length c0] 24)).alloc (.cells #[.slice a1 X1.dg.length c1, .slice b1 X1.up.length e1] 27)).cell? ⟨w.heap.size, 1, none⟩ = some (.slice a0 st0.length c0) := by simp [go_sem]
  have d10 : ((w.alloc (.cells #[.int .i64 p0, .slice a0 st0.length c0] 24)).alloc (.cells #[.slice a1 X1.dg.length c1, .slice b1 X1.up.length e1] 27)).cell? ⟨w.heap.size + 1, 0, none⟩ = some (.slice a1 X1.dg.length c1) := by simp [go_sem]
  have d11 : ((w.alloc (.cells #[.int .i64 p0, .slice a0 st0.length c0] 24)).alloc (.cells #[.slice a1 X1.dg.length c1, .slice b1 X1.up.length e1] 27)).cell? ⟨w.heap.size + 1, 1, none⟩ = some (.slice b1 X1.up.length e1) := by simp [go_sem]
  go_wp2_with fail
  refine (szd_c (by omega) (by omega) hb0_).mono ?_; rintro e w1 ⟨rfl, hb1⟩
  have hx0 := hx0.below hb1; have hx1 := hx1.below hb1; have d00 := kept hb1 d00; have d01 := kept hb1 d01; have d10 := kept hb1 d10; have d11 := kept hb1 d11
  simp only [← HZ0.out]
  go_wp2_with fail
  refine (szh_c hx1 hb1_ (by omega) (by omega)).mono ?_; rintro e w2 ⟨rfl, hb2⟩
  have hx0 := hx0.below hb2; have hx1 := hx1.below hb2; have d00 := kept hb2 d00; have d01 := kept hb2 d01; have d10 := kept hb2 d10; have d11 := kept hb2 d11
  simp only [← HZ1.out]
  go_upto_region 8 with fail
  go_cut [6, 7] (fun s6 s7 wx => ∃ N d u, s6 = .pointer (some ⟨N, 0, none⟩) ∧ s7 = .int .i64 y1 ∧ Bx wx N d u ∧ Hr wx (.agg #[d, u]) y0 ∧ Below w2.heap.size w2 wx)
  case first =>
    refine region_tree [(0, 1), (2, 1)] (.two 1 5 (.two 3 5 (.two 4 5 (.lin [(false, [(5, 0), (6, 0), (7, 0), (8, 5)]), (false, [(9, 4), (10, 0)])]) 8 5 (.lin [(false, [(4, 4), (5, 0), (6, 0), (7, 0), (9, 4), (10, 0)])])) 8 5 (.lin [(false, [(3, 4), (4, 4), (5, 0), (6, 0), (7, 0), (9, 4), (10, 0)])])) 8 5 (.lin [(false, [(1, 5)]), (false, [(3, 4), (4, 4), (5, 0), (6, 0), (7, 0), (9, 4), (10, 0)])])) (by kernel_rfl) ?_
    refine norm_K fun K hK => ?_
    change wpList _ _ _ [_, _] _ _
    go_wp2_with fail
    have hb3 : Below w2.heap.size w2 w2.drew := (by repeat (first | exact Below.refl _ _ | apply blw_drew | apply blw_alloc | (refine blw_set ?_ (by first | omega | (simp; done) | (simp; omega)) _) | refine below_chain ?_ (by assumption)))
    have hx0 := hx0.below hb3; have hx1 := hx1.below hb3; have d00 := kept hb3 d00; have d01 := kept hb3 d01; have d10 := kept hb3 d10; have d11 := kept hb3 d11
    generalize w2.drew = wq3 at *
    refine hK _ _ ?_; clear hK K
    refine ⟨?_, ?_⟩
    · skip
      refine norm_K fun K hK => ?_
      change wpList _ _ _ [_] _ _
      go_wp2_with fail
      refine (tod_c hx0 hl0).mono ?_; rintro e w4 ⟨t0, rfl, ht0, hb4⟩
      have hx0 := hx0.below hb4; have hx1 := hx1.below hb4; have d00 := kept hb4 d00; have d01 := kept hb4 d01; have d10 := kept hb4 d10; have d11 := kept hb4 d11
      go_wp2_with fail
      first | (refine hK _ _ ⟨(by repeat (first | exact Below.refl _ _ | apply blw_drew | apply blw_alloc | (refine blw_set ?_ (by first | omega | (simp; done) | (simp; omega)) _) | refine below_chain ?_ (by assumption))), ?_⟩; clear hK K) | refine ⟨(by repeat (first | exact Below.refl _ _ | apply blw_drew | apply blw_alloc | (refine blw_set ?_ (by first | omega | (simp; done) | (simp; omega)) _) | refine below_chain ?_ (by assumption))), ?_⟩
      refine ⟨?_, ?_⟩
      · skip
        refine norm_K fun K hK => ?_
        change wpList _ _ _ [_] _ _
        go_wp2_with fail
        refine (toh_c hx1 hl1).mono ?_; rintro e w5 ⟨t1, rfl, ht1, hb5⟩
        have hx0 := hx0.below hb5; have hx1 := hx1.below hb5; have d00 := kept hb5 d00; have d01 := kept hb5 d01; have d10 := kept hb5 d10; have d11 := kept hb5 d11; have ht0 := ht0.below hb5
        go_wp2_with fail
        first | (refine hK _ _ ⟨(by repeat (first | exact Below.refl _ _ | apply blw_drew | apply blw_alloc | (refine blw_set ?_ (by first | omega | (simp; done) | (simp; omega)) _) | refine below_chain ?_ (by assumption))), ?_⟩; clear hK K) | refine ⟨(by repeat (first | exact Below.refl _ _ | apply blw_drew | apply blw_alloc | (refine blw_set ?_ (by first | omega | (simp; done) | (simp; omega)) _) | refine below_chain ?_ (by assumption))), ?_⟩
        refine ⟨?_, ?_⟩
        · skip
          refine norm_K fun K hK => ?_
          change wpList _ _ _ [_] _ _
          go_wp2_with fail
          refine (hS _ _ ht0.el _ ht1.hv).mono ?_; rintro e w6 ⟨v0_, rfl, hs0, hb6⟩
          have hx0 := hx0.below hb6; have hx1 := hx1.below hb6; have d00 := kept hb6 d00; have d01 := kept hb6 d01; have d10 := kept hb6 d10; have d11 := kept hb6 d11; have ht0 := ht0.below hb6; have ht1 := ht1.below hb6
          have hsK := hs0
          obtain ⟨sd, su, rfl, sd_, su_⟩ := hs0.hv.hr; obtain ⟨sa, sc, rfl, _⟩ := id sd_; obtain ⟨sb, se, rfl, _⟩ := id su_; clear sd_ su_
          go_wp2_with fail
          first | (refine hK _ _ ⟨(by repeat (first | exact Below.refl _ _ | apply blw_drew | apply blw_alloc | (refine blw_set ?_ (by first | omega | (simp; done) | (simp; omega)) _) | refine below_chain ?_ (by assumption))), ?_⟩; clear hK K) | refine ⟨(by repeat (first | exact Below.refl _ _ | apply blw_drew | apply blw_alloc | (refine blw_set ?_ (by first | omega | (simp; done) | (simp; omega)) _) | refine below_chain ?_ (by assumption))), ?_⟩
          refine norm_K fun K hK => ?_
          change wpList _ _ _ [_, _, _, _] _ _
          go_wp2_with fail
          have hb7 : Below w6.heap.size w6 (w6.alloc (.cells #[.slice none 0 0, .slice none 0 0] 34)) := (by repeat (first | exact Below.refl _ _ | apply blw_drew | apply blw_alloc | (refine blw_set ?_ (by first | omega | (simp; done) | (simp; omega)) _) | refine below_chain ?_ (by assumption)))
          have hx0 := hx0.below hb7; have hx1 := hx1.below hb7; have d00 := kept hb7 d00; have d01 := kept hb7 d01; have d10 := kept hb7 d10; have d11 := kept hb7 d11; have ht0 := ht0.below hb7; have ht1 := ht1.below hb7; have hs0 := hs0.below hb7
          have hN : Bx (w6.alloc (.cells #[.slice none 0 0, .slice none 0 0] 34)) w6.heap.size (.slice none 0 0) (.slice none 0 0) := heap_alloc_new _ _
          have hNz : w2.heap.size ≤ w6.heap.size := (below_le (by repeat (first | exact Below.refl _ _ | apply blw_drew | apply blw_alloc | (refine blw_set ?_ (by first | omega | (simp; done) | (simp; omega)) _) | refine below_chain ?_ (by assumption))))
          have hNs : w6.heap.size < (w6.alloc (.cells #[.slice none 0 0, .slice none 0 0] 34)).heap.size := by simp
          go_wp2_with fail
          first | (refine hK _ _ ⟨(by repeat (first | exact Below.refl _ _ | apply blw_drew | apply blw_alloc | (refine blw_set ?_ (by first | omega | (simp; done) | (simp; omega)) _) | refine below_chain ?_ (by assumption))), ?_⟩; clear hK K) | refine ⟨(by repeat (first | exact Below.refl _ _ | apply blw_drew | apply blw_alloc | (refine blw_set ?_ (by first | omega | (simp; done) | (simp; omega)) _) | refine below_chain ?_ (by assumption))), ?_⟩
          refine norm_K fun K hK => ?_
          change wpList _ _ _ [_, _] _ _
          have n0 := hN.c0; have n1 := hN.c1; have n2 := hN.f0; have n3 := hN.f1
          go_wp2_with fail
          first | (refine hK _ _ ⟨rfl, ?_⟩; clear hK K) | refine ⟨rfl, ?_⟩
          go_wp2_with fail
          go_meet
          case rel => exact ⟨_, _, _, rfl, rfl, (by first | exact (hN.set0 _).set1 _ | exact heap_alloc_new _ _), (by first | exact ((hs0.set_ (by first | omega | (simp; done) | (simp; omega)) _).set_ (by first | omega | (simp; done) | (simp; omega)) _).hv.hr | exact (hsK.below (by repeat (first | exact Below.refl _ _ | apply blw_drew | apply blw_alloc | (refine blw_set ?_ (by first | omega | (simp; done) | (simp; omega)) _) | refine below_chain ?_ (by assumption)))).hv.hr), (by repeat (first | exact Below.refl _ _ | apply blw_drew | apply blw_alloc | (refine blw_set ?_ (by first | omega | (simp; done) | (simp; omega)) _) | refine below_chain ?_ (by assumption)))⟩
        · skip
          refine norm_K fun K hK => ?_
          change wpList _ _ _ [_] _ _
          go_wp2_with fail
          have hb6 : Below w5.heap.size w5 (w5.alloc (.cells #[.slice none 0 0, .slice none 0 0] 34)) := (by repeat (first | exact Below.refl _ _ | apply blw_drew | apply blw_alloc | (refine blw_set ?_ (by first | omega | (simp; done) | (simp; omega)) _) | refine below_chain ?_ (by assumption)))
          have hx0 := hx0.below hb6; have hx1 := hx1.below hb6; have d00 := kept hb6 d00; have d01 := kept hb6 d01; have d10 := kept hb6 d10; have d11 := kept hb6 d11; have ht0 := ht0.below hb6; have ht1 := ht1.below hb6
          have hN : Bx (w5.alloc (.cells #[.slice none 0 0, .slice none 0 0] 34)) w5.heap.size (.slice none 0 0) (.slice none 0 0) := heap_alloc_new _ _
          have hNz : w2.heap.size ≤ w5.heap.size := (below_le (by repeat (first | exact Below.refl _ _ | apply blw_drew | apply blw_alloc | (refine blw_set ?_ (by first | omega | (simp; done) | (simp; omega)) _) | refine below_chain ?_ (by assumption))))
          have hNs : w5.heap.size < (w5.alloc (.cells #[.slice none 0 0, .slice none 0 0] 34)).heap.size := by simp
          go_wp2_with fail
          first | (refine hK _ _ ⟨(by repeat (first | exact Below.refl _ _ | apply blw_drew | apply blw_alloc | (refine blw_set ?_ (by first | omega | (simp; done) | (simp; omega)) _) | refine below_chain ?_ (by assumption))), ?_⟩; clear hK K) | refine ⟨(by repeat (first | exact Below.refl _ _ | apply blw_drew | apply blw_alloc | (refine blw_set ?_ (by first | omega | (simp; done) | (simp; omega)) _) | refine below_chain ?_ (by assumption))), ?_⟩
          refine norm_K fun K hK => ?_
          change wpList _ _ _ [_, _, _, _, _, _] _ _
          go_wp2_with fail
          refine (hS _ _ ht0.el _ ht1.hv).mono ?_; rintro e w7 ⟨v0_, rfl, hs0, hb7⟩
          have hx0 := hx0.below hb7; have hx1 := hx1.below hb7; have d00 := kept hb7 d00; have d01 := kept hb7 d01; have d10 := kept hb7 d10; have d11 := kept hb7 d11; have ht0 := ht0.below hb7; have ht1 := ht1.below hb7; have hN := hN.below hb7
          have hsK := hs0
          obtain ⟨sd, su, rfl, sd_, su_⟩ := hs0.hv.hr; obtain ⟨sa, sc, rfl, _⟩ := id sd_; obtain ⟨sb, se, rfl, _⟩ := id su_; clear sd_ su_
          have hNs := Nat.lt_of_lt_of_le hNs hb7.size
          have n0 := hN.c0; have n1 := hN.c1; have n2 := hN.f0; have n3 := hN.f1
          go_wp2_with fail
          first | (refine hK _ _ ⟨rfl, ?_⟩; clear hK K) | refine ⟨rfl, ?_⟩
          go_wp2_with fail
          go_meet
          case rel => exact ⟨_, _, _, rfl, rfl, (by first | exact (hN.set0 _).set1 _ | exact heap_alloc_new _ _), (by first | exact ((hs0.set_ (by first | omega | (simp; done) | (simp; omega)) _).set_ (by first | omega | (simp; done) | (simp; omega)) _).hv.hr | exact (hsK.below (by repeat (first | exact Below.refl _ _ | apply blw_drew | apply blw_alloc | (refine blw_set ?_ (by first | omega | (simp; done) | (simp; omega)) _) | refine below_chain ?_ (by assumption)))).hv.hr), (by repeat (first | exact Below.refl _ _ | apply blw_drew | apply blw_alloc | (refine blw_set ?_ (by first | omega | (simp; done) | (simp; omega)) _) | refine below_chain ?_ (by assumption)))⟩
      · skip
        refine norm_K fun K hK => ?_
        change wpList _ _ _ [_] _ _
        go_wp2_with fail
        have hb5 : Below w4.heap.size w4 (w4.alloc (.cells #[.slice none 0 0, .slice none 0 0] 34)) := (by repeat (first | exact Below.refl _ _ | apply blw_drew | apply blw_alloc | (refine blw_set ?_ (by first | omega | (simp; done) | (simp; omega)) _) | refine below_chain ?_ (by assumption)))
        have hx0 := hx0.below hb5; have hx1 := hx1.below hb5; have d00 := kept hb5 d00; have d01 := kept hb5 d01; have d10 := kept hb5 d10; have d11 := kept hb5 d11; have ht0 := ht0.below hb5
        have hN : Bx (w4.alloc (.cells #[.slice none 0 0, .slice none 0 0] 34)) w4.heap.size (.slice none 0 0) (.slice none 0 0) := heap_alloc_new _ _
        have hNz : w2.heap.size ≤ w4.heap.size := (below_le (by repeat (first | exact Below.refl _ _ | apply blw_drew | apply blw_alloc | (refine blw_set ?_ (by first | omega | (simp; done) | (simp; omega)) _) | refine below_chain ?_ (by assumption))))
        have hNs : w4.heap.size < (w4.alloc (.cells #[.slice none 0 0, .slice none 0 0] 34)).heap.size := by simp
        go_wp2_with fail
        first | (refine hK _ _ ⟨(by repeat (first | exact Below.refl _ _ | apply blw_drew | apply blw_alloc | (refine blw_set ?_ (by first | omega | (simp; done) | (simp; omega)) _) | refine below_chain ?_ (by assumption))), ?_⟩; clear hK K) | refine ⟨(by repeat (first | exact Below.refl _ _ | apply blw_drew | apply blw_alloc | (refine blw_set ?_ (by first | omega | (simp; done) | (simp; omega)) _) | refine below_chain ?_ (by assumption))), ?_⟩
        refine norm_K fun K hK => ?_
        change wpList _ _ _ [_, _, _, _, _, _, _] _ _
        go_wp2_with fail
        refine (toh_c hx1 hl1).mono ?_; rintro e w6 ⟨t1, rfl, ht1, hb6⟩
        have hx0 := hx0.below hb6; have hx1 := hx1.below hb6; have d00 := kept hb6 d00; have d01 := kept hb6 d01; have d10 := kept hb6 d10; have d11 := kept hb6 d11; have ht0 := ht0.below hb6; have hN := hN.below hb6
        have hNs := Nat.lt_of_lt_of_le hNs hb6.size
        go_wp2_with fail
        refine (hS _ _ ht0.el _ ht1.hv).mono ?_; rintro e w7 ⟨v0_, rfl, hs0, hb7⟩
        have hx0 := hx0.below hb7; have hx1 := hx1.below hb7; have d00 := kept hb7 d00; have d01 := kept hb7 d01; have d10 := kept hb7 d10; have d11 := kept hb7 d11; have ht0 := ht0.below hb7; have hN := hN.below hb7; have ht1 := ht1.below hb7
        have hsK := hs0
        obtain ⟨sd, su, rfl, sd_, su_⟩ := hs0.hv.hr; obtain ⟨sa, sc, rfl, _⟩ := id sd_; obtain ⟨sb, se, rfl, _⟩ := id su_; clear sd_ su_
        have hNs := Nat.lt_of_lt_of_le hNs hb7.size
        have n0 := hN.c0; have n1 := hN.c1; have n2 := hN.f0; have n3 := hN.f1
        go_wp2_with fail
        first | (refine hK _ _ ⟨rfl, ?_⟩; clear hK K) | refine ⟨rfl, ?_⟩
        go_wp2_with fail
        go_meet
        case rel => exact ⟨_, _, _, rfl, rfl, (by first | exact (hN.set0 _).set1 _ | exact heap_alloc_new _ _), (by first | exact ((hs0.set_ (by first | omega | (simp; done) | (simp; omega)) _).set_ (by first | omega | (simp; done) | (simp; omega)) _).hv.hr | exact (hsK.below (by repeat (first | exact Below.refl _ _ | apply blw_drew | apply blw_alloc | (refine blw_set ?_ (by first | omega | (simp; done) | (simp; omega)) _) | refine below_chain ?_ (by assumption)))).hv.hr), (by repeat (first | exact Below.refl _ _ | apply blw_drew | apply blw_alloc | (refine blw_set ?_ (by first | omega | (simp; done) | (simp; omega)) _) | refine below_chain ?_ (by assumption)))⟩
    · skip
      refine norm_K fun K hK => ?_
      change wpList _ _ _ [_] _ _
      go_wp2_with fail
      have hb4 : Below wq3.heap.size wq3 (wq3.alloc (.cells #[.slice none 0 0, .slice none 0 0] 34)) := (by repeat (first | exact Below.refl _ _ | apply blw_drew | apply blw_alloc | (refine blw_set ?_ (by first | omega | (simp; done) | (simp; omega)) _) | refine below_chain ?_ (by assumption)))
      have hx0 := hx0.below hb4; have hx1 := hx1.below hb4; have d00 := kept hb4 d00; have d01 := kept hb4 d01; have d10 := kept hb4 d10; have d11 := kept hb4 d11
      have hN : Bx (wq3.alloc (.cells #[.slice none 0 0, .slice none 0 0] 34)) wq3.heap.size (.slice none 0 0) (.slice none 0 0) := heap_alloc_new _ _
      have hNz : w2.heap.size ≤ wq3.heap.size := (below_le (by repeat (first | exact Below.refl _ _ | apply blw_drew | apply blw_alloc | (refine blw_set ?_ (by first | omega | (simp; done) | (simp; omega)) _) | refine below_chain ?_ (by assumption))))
      have hNs : wq3.heap.size < (wq3.alloc (.cells #[.slice none 0 0, .slice none 0 0] 34)).heap.size := by simp
      go_wp2_with fail
      first | (refine hK _ _ ⟨(by repeat (first | exact Below.refl _ _ | apply blw_drew | apply blw_alloc | (refine blw_set ?_ (by first | omega | (simp; done) | (simp; omega)) _) | refine below_chain ?_ (by assumption))), ?_⟩; clear hK K) | refine ⟨(by repeat (first | exact Below.refl _ _ | apply blw_drew | apply blw_alloc | (refine blw_set ?_ (by first | omega | (simp; done) | (simp; omega)) _) | refine below_chain ?_ (by assumption))), ?_⟩
      refine norm_K fun K hK => ?_
      change wpList _ _ _ [_] _ _
      go_wp2_with fail
      refine (tod_c hx0 hl0).mono ?_; rintro e w5 ⟨t0, rfl, ht0, hb5⟩
      have hx0 := hx0.below hb5; have hx1 := hx1.below hb5; have d00 := kept hb5 d00; have d01 := kept hb5 d01; have d10 := kept hb5 d10; have d11 := kept hb5 d11; have hN := hN.below hb5
      have hNs := Nat.lt_of_lt_of_le hNs hb5.size
      go_wp2_with fail
      first | (refine hK _ _ ⟨(by repeat (first | exact Below.refl _ _ | apply blw_drew | apply blw_alloc | (refine blw_set ?_ (by first | omega | (simp; done) | (simp; omega)) _) | refine below_chain ?_ (by assumption))), ?_⟩; clear hK K) | refine ⟨(by repeat (first | exact Below.refl _ _ | apply blw_drew | apply blw_alloc | (refine blw_set ?_ (by first | omega | (simp; done) | (simp; omega)) _) | refine below_chain ?_ (by assumption))), ?_⟩
      refine norm_K fun K hK => ?_
      change wpList _ _ _ [_, _, _, _, _, _, _] _ _
      go_wp2_with fail
      refine (toh_c hx1 hl1).mono ?_; rintro e w6 ⟨t1, rfl, ht1, hb6⟩
      have hx0 := hx0.below hb6; have hx1 := hx1.below hb6; have d00 := kept hb6 d00; have d01 := kept hb6 d01; have d10 := kept hb6 d10; have d11 := kept hb6 d11; have hN := hN.below hb6; have ht0 := ht0.below hb6
      have hNs := Nat.lt_of_lt_of_le hNs hb6.size
      go_wp2_with fail
      refine (hS _ _ ht0.el _ ht1.hv).mono ?_; rintro e w7 ⟨v0_, rfl, hs0, hb7⟩
      have hx0 := hx0.below hb7; have hx1 := hx1.below hb7; have d00 := kept hb7 d00; have d01 := kept hb7 d01; have d10 := kept hb7 d10; have d11 := kept hb7 d11; have hN := hN.below hb7; have ht0 := ht0.below hb7; have ht1 := ht1.below hb7
      have hsK := hs0
      obtain ⟨sd, su, rfl, sd_, su_⟩ := hs0.hv.hr; obtain ⟨sa, sc, rfl, _⟩ := id sd_; obtain ⟨sb, se, rfl, _⟩ := id su_; clear sd_ su_
      have hNs := Nat.lt_of_lt_of_le hNs hb7.size
      have n0 := hN.c0; have n1 := hN.c1; have n2 := hN.f0; have n3 := hN.f1
      go_wp2_with fail
      first | (refine hK _ _ ⟨rfl, ?_⟩; clear hK K) | refine ⟨rfl, ?_⟩
      go_wp2_with fail
      go_meet
      case rel => exact ⟨_, _, _, rfl, rfl, (by first | exact (hN.set0 _).set1 _ | exact heap_alloc_new _ _), (by first | exact ((hs0.set_ (by first | omega | (simp; done) | (simp; omega)) _).set_ (by first | omega | (simp; done) | (simp; omega)) _).hv.hr | exact (hsK.below (by repeat (first | exact Below.refl _ _ | apply blw_drew | apply blw_alloc | (refine blw_set ?_ (by first | omega | (simp; done) | (simp; omega)) _) | refine below_chain ?_ (by assumption)))).hv.hr), (by repeat (first | exact Below.refl _ _ | apply blw_drew | apply blw_alloc | (refine blw_set ?_ (by first | omega | (simp; done) | (simp; omega)) _) | refine below_chain ?_ (by assumption)))⟩
  case' rest => skip
  obtain ⟨N3, D3, U3, rfl, rfl, hN3, hs0, hb3r⟩ := hcut
  have hx0 := hx0.below hb3r; have hx1 := hx1.below hb3r; have d00 := kept hb3r d00; have d01 := kept hb3r d01; have d10 := kept hb3r d10; have d11 := kept hb3r d11
  have hsc00 := hN3.c0; have hsc01 := hN3.c1; clear hN3
  obtain ⟨_, _, e_, q3d_, q3u_⟩ := id hs0; cases e_; obtain ⟨q3a, q3c, rfl, _⟩ := id q3d_; obtain ⟨q3b, q3e, rfl, _⟩ := id q3u_; clear q3d_ q3u_
  have hbW3 : Below w.heap.size w wc := (by repeat (first | exact Below.refl _ _ | apply blw_drew | apply blw_alloc | (refine blw_set ?_ (by first | omega | (simp; done) | (simp; omega)) _) | refine below_chain ?_ (by assumption)))
  obtain ⟨W3, hW3⟩ : ∃ W, W = wc := ⟨_, rfl⟩
  rw [← hW3] at hbW3 hb3r hx0 hx1 d00 d01 d10 d11 hs0 hsc00 hsc01 ⊢; clear hW3
  have hx0_ := hx0
  have hx1_ := hx1
  have d00_ := d00
  have d01_ := d01
  have d10_ := d10
  have d11_ := d11
  have hs0_ := hs0
  have hsc00_ := hsc00
  have hsc01_ := hsc01
  go_wp2_with fail
  refine (tod_c hx0 hl0).mono ?_; rintro e w3 ⟨t0, rfl, ⟨g0, k0, rfl, ht0⟩, hb3⟩
  have hx0 := hx0.below hb3; have hx1 := hx1.below hb3; have d00 := kept hb3 d00; have d01 := kept hb3 d01; have d10 := kept hb3 d10; have d11 := kept hb3 d11; have hs0 := hs0.below hb3; have hsc00 := kept hb3 hsc00; have hsc01 := kept hb3 hsc01
  have bt0 := ht0.lt; have zt0 := hb3.size; (try simp at bt0); (try simp at zt0)
  have hb4 : Below w3.heap.size w3 (w3.alloc (.cells #[.int .i64 p0, .slice (some ⟨g0, 0, none⟩) st0.length k0] 32)) := (by repeat (first | exact Below.refl _ _ | apply blw_drew | apply blw_alloc | (refine blw_set ?_ (by first | omega | (simp; done) | (simp; omega)) _) | refine below_chain ?_ (by assumption)))
  have hx0 := hx0.below hb4; have hx1 := hx1.below hb4; have d00 := kept hb4 d00; have d01 := kept hb4 d01; have d10 := kept hb4 d10; have d11 := kept hb4 d11; have hs0 := hs0.below hb4; have hsc00 := kept hb4 hsc00; have hsc01 := kept hb4 hsc01; have ht0 := ht0.below hb4
  have e00 : (w3.alloc (.cells #[.int .i64 p0, .slice (some ⟨g0, 0, none⟩) st0.length k0] 32)).cell? ⟨w3.heap.size, 0, none⟩ = some (.int .i64 p0) := by simp [go_sem]
  have e01 : (w3.alloc (.cells #[.int .i64 p0, .slice (some ⟨g0, 0, none⟩) st0.length k0] 32)).cell? ⟨w3.heap.size, 1, none⟩ = some (.slice (some ⟨g0, 0, none⟩) st0.length k0) := by simp [go_sem]
  go_wp2_with fail
  refine (toh_c hx1 hl1).mono ?_; rintro e w5 ⟨t1, rfl, ht1, hb5⟩
  have hx0 := hx0.below hb5; have hx1 := hx1.below hb5; have d00 := kept hb5 d00; have d01 := kept hb5 d01; have d10 := kept hb5 d10; have d11 := kept hb5 d11; have hs0 := hs0.below hb5; have hsc00 := kept hb5 hsc00; have hsc01 := kept hb5 hsc01; have ht0 := ht0.below hb5; have e00 := kept hb5 e00; have e01 := kept hb5 e01
  have hk1 := ht1.rg; have zt1 := hb5.size; (try simp at zt1)
  obtain ⟨td1, tu1, rfl, htd1, htu1⟩ := ht1.hv; obtain ⟨ta1, tc1, rfl, _⟩ := htd1.op; obtain ⟨tb1, te1, rfl, _⟩ := id htu1; clear htd1 htu1
  have hb6 : Below w5.heap.size w5 (w5.alloc (.cells #[.slice ta1 X1.dg.length tc1, .slice tb1 X1.up.length te1] 34)) := (by repeat (first | exact Below.refl _ _ | apply blw_drew | apply blw_alloc | (refine blw_set ?_ (by first | omega | (simp; done) | (simp; omega)) _) | refine below_chain ?_ (by assumption)))
  have hx0 := hx0.below hb6; have hx1 := hx1.below hb6; have d00 := kept hb6 d00; have d01 := kept hb6 d01; have d10 := kept hb6 d10; have d11 := kept hb6 d11; have hs0 := hs0.below hb6; have hsc00 := kept hb6 hsc00; have hsc01 := kept hb6 hsc01; have ht0 := ht0.below hb6; have e00 := kept hb6 e00; have e01 := kept hb6 e01; have ht1 := ht1.below hb6; have hk1 := hk1.below hb6
  have e10 : (w5.alloc (.cells #[.slice ta1 X1.dg.length tc1, .slice tb1 X1.up.length te1] 34)).cell? ⟨w5.heap.size, 0, none⟩ = some (.slice ta1 X1.dg.length tc1) := by simp [go_sem]
  have e11 : (w5.alloc (.cells #[.slice ta1 X1.dg.length tc1, .slice tb1 X1.up.length te1] 34)).cell? ⟨w5.heap.size, 1, none⟩ = some (.slice tb1 X1.up.length te1) := by simp [go_sem]
  go_wp2_with fail
  refine (hI _ _ ht0.el _ ht1.hv).mono ?_; rintro e w7 ⟨v0_, rfl, hg0, hb7⟩
  have hx0 := hx0.below hb7; have hx1 := hx1.below hb7; have d00 := kept hb7 d00; have d01 := kept hb7 d01; have d10 := kept hb7 d10; have d11 := kept hb7 d11; have hs0 := hs0.below hb7; have hsc00 := kept hb7 hsc00; have hsc01 := kept hb7 hsc01; have ht0 := ht0.below hb7; have e00 := kept hb7 e00; have e01 := kept hb7 e01; have ht1 := ht1.below hb7; have hk1 := hk1.below hb7; have e10 := kept hb7 e10; have e11 := kept hb7 e11
  have z6 := hb7.size; (try simp at z6)
  have hq0 := hg0.rg; clear hg0
  obtain ⟨g0d, g0u, rfl, g0d_, g0u_⟩ := id hq0.hr; obtain ⟨g0a, g0c, rfl, _⟩ := id g0d_; obtain ⟨g0b, g0e, rfl, _⟩ := id g0u_; clear g0d_ g0u_
  have hb8 : Below w7.heap.size w7 (w7.alloc (.cells #[.slice g0a y0.dg.length g0c, .slice g0b y0.up.length g0e] 34)) := (by repeat (first | exact Below.refl _ _ | apply blw_drew | apply blw_alloc | (refine blw_set ?_ (by first | omega | (simp; done) | (simp; omega)) _) | refine below_chain ?_ (by assumption)))
  have hx0 := hx0.below hb8; have hx1 := hx1.below hb8; have d00 := kept hb8 d00; have d01 := kept hb8 d01; have d10 := kept hb8 d10; have d11 := kept hb8 d11; have hs0 := hs0.below hb8; have hsc00 := kept hb8 hsc00; have hsc01 := kept hb8 hsc01; have ht0 := ht0.below hb8; have e00 := kept hb8 e00; have e01 := kept hb8 e01; have ht1 := ht1.below hb8; have hk1 := hk1.below hb8; have e10 := kept hb8 e10; have e11 := kept hb8 e11; have hq0 := hq0.below hb8
  have g00 : (w7.alloc (.cells #[.slice g0a y0.dg.length g0c, .slice g0b y0.up.length g0e] 34)).cell? ⟨w7.heap.size, 0, none⟩ = some (.slice g0a y0.dg.length g0c) := by simp [go_sem]
  have g01 : (w7.alloc (.cells #[.slice g0a y0.dg.length g0c, .slice g0b y0.up.length g0e] 34)).cell? ⟨w7.heap.size, 1, none⟩ = some (.slice g0b y0.up.length g0e) := by simp [go_sem]
  go_wp2_with fail
  refine (eqh_c hq0.hr hs0 yl0.toHsz).mono ?_; rintro e w9 ⟨rfl, hb9⟩
  have hx0 := hx0.below hb9; have hx1 := hx1.below hb9; have d00 := kept hb9 d00; have d01 := kept hb9 d01; have d10 := kept hb9 d10; have d11 := kept hb9 d11; have hs0 := hs0.below hb9; have hsc00 := kept hb9 hsc00; have hsc01 := kept hb9 hsc01; have ht0 := ht0.below hb9; have e00 := kept hb9 e00; have e01 := kept hb9 e01; have ht1 := ht1.below hb9; have hk1 := hk1.below hb9; have e10 := kept hb9 e10; have e11 := kept hb9 e11; have hq0 := hq0.below hb9; have g00 := kept hb9 g00; have g01 := kept hb9 g01
  go_wp2_with fail
  refine region_flow [(false, [(0, 1), (1, 1), (2, 5)]), (false, [(3, 4), (4, 0)])] (by kernel_rfl) ?_
  have hb10 : Below w9.heap.size w9 w9.drew := (by repeat (first | exact Below.refl _ _ | apply blw_drew | apply blw_alloc | (refine blw_set ?_ (by first | omega | (simp; done) | (simp; omega)) _) | refine below_chain ?_ (by assumption)))
  have hx0 := hx0.below hb10; have hx1 := hx1.below hb10; have d00 := kept hb10 d00; have d01 := kept hb10 d01; have d10 := kept hb10 d10; have d11 := kept hb10 d11; have hs0 := hs0.below hb10; have hsc00 := kept hb10 hsc00; have hsc01 := kept hb10 hsc01; have ht0 := ht0.below hb10; have e00 := kept hb10 e00; have e01 := kept hb10 e01; have ht1 := ht1.below hb10; have hk1 := hk1.below hb10; have e10 := kept hb10 e10; have e11 := kept hb10 e11; have hq0 := hq0.below hb10; have g00 := kept hb10 g00; have g01 := kept hb10 g01
  generalize w9.drew = wr0 at *
  refine norm_K fun K hK => ?_
  change wpList _ _ _ [_, _, _] _ _
  go_wp2_with fail
  refine (tod_c hx0 hl0).mono ?_; rintro e w11 ⟨u0, rfl, hu0, hb11⟩
  have hx0 := hx0.below hb11; have hx1 := hx1.below hb11; have d00 := kept hb11 d00; have d01 := kept hb11 d01; have d10 := kept hb11 d10; have d11 := kept hb11 d11; have hs0 := hs0.below hb11; have hsc00 := kept hb11 hsc00; have hsc01 := kept hb11 hsc01; have ht0 := ht0.below hb11; have e00 := kept hb11 e00; have e01 := kept hb11 e01; have ht1 := ht1.below hb11; have hk1 := hk1.below hb11; have e10 := kept hb11 e10; have e11 := kept hb11 e11; have hq0 := hq0.below hb11; have g00 := kept hb11 g00; have g01 := kept hb11 g01
  go_wp2_with fail
  first | (refine hK _ _ ⟨hb11, ?_⟩; clear hK K) | refine ⟨hb11, ?_⟩
  refine norm_K fun K hK => ?_
  change wpList _ _ _ [_, _] _ _
  go_wp2_with fail
  refine (eqd_c ht0.sl hu0.sl hl0).mono ?_; rintro e w12 ⟨rfl, hb12⟩
  have hx0 := hx0.below hb12; have hx1 := hx1.below hb12; have d00 := kept hb12 d00; have d01 := kept hb12 d01; have d10 := kept hb12 d10; have d11 := kept hb12 d11; have hs0 := hs0.below hb12; have hsc00 := kept hb12 hsc00; have hsc01 := kept hb12 hsc01; have ht0 := ht0.below hb12; have e00 := kept hb12 e00; have e01 := kept hb12 e01; have ht1 := ht1.below hb12; have hk1 := hk1.below hb12; have e10 := kept hb12 e10; have e11 := kept hb12 e11; have hq0 := hq0.below hb12; have g00 := kept hb12 g00; have g01 := kept hb12 g01
  go_wp2_with fail
  first | (refine hK _ _ ⟨rfl, ?_⟩; clear hK K) | refine ⟨rfl, ?_⟩
  go_wp2_with fail
  refine region_flow [(false, [(0, 1), (1, 1), (2, 5)]), (false, [(3, 4), (4, 0)])] (by kernel_rfl) ?_
  have hb13 : Below w12.heap.size w12 w12.drew := (by repeat (first | exact Below.refl _ _ | apply blw_drew | apply blw_alloc | (refine blw_set ?_ (by first | omega | (simp; done) | (simp; omega)) _) | refine below_chain ?_ (by assumption)))
  have hx0 := hx0.below hb13; have hx1 := hx1.below hb13; have d00 := kept hb13 d00; have d01 := kept hb13 d01; have d10 := kept hb13 d10; have d11 := kept hb13 d11; have hs0 := hs0.below hb13; have hsc00 := kept hb13 hsc00; have hsc01 := kept hb13 hsc01; have ht0 := ht0.below hb13; have e00 := kept hb13 e00; have e01 := kept hb13 e01; have ht1 := ht1.below hb13; have hk1 := hk1.below hb13; have e10 := kept hb13 e10; have e11 := kept hb13 e11; have hq0 := hq0.below hb13; have g00 := kept hb13 g00; have g01 := kept hb13 g01
  generalize w12.drew = wr1 at *
  refine norm_K fun K hK => ?_
  change wpList _ _ _ [_, _, _] _ _
  go_wp2_with fail
  refine (toh_c hx1 hl1).mono ?_; rintro e w14 ⟨u1, rfl, hu1, hb14⟩
  have hx0 := hx0.below hb14; have hx1 := hx1.below hb14; have d00 := kept hb14 d00; have d01 := kept hb14 d01; have d10 := kept hb14 d10; have d11 := kept hb14 d11; have hs0 := hs0.below hb14; have hsc00 := kept hb14 hsc00; have hsc01 := kept hb14 hsc01; have ht0 := ht0.below hb14; have e00 := kept hb14 e00; have e01 := kept hb14 e01; have ht1 := ht1.below hb14; have hk1 := hk1.below hb14; have e10 := kept hb14 e10; have e11 := kept hb14 e11; have hq0 := hq0.below hb14; have g00 := kept hb14 g00; have g01 := kept hb14 g01
  go_wp2_with fail
  first | (refine hK _ _ ⟨hb14, ?_⟩; clear hK K) | refine ⟨hb14, ?_⟩
  refine norm_K fun K hK => ?_
  change wpList _ _ _ [_, _] _ _
  go_wp2_with fail
  refine (eqh_c ht1.hv.hr hu1.hv.hr hl1).mono ?_; rintro e w15 ⟨rfl, hb15⟩
  have hx0 := hx0.below hb15; have hx1 := hx1.below hb15; have d00 := kept hb15 d00; have d01 := kept hb15 d01; have d10 := kept hb15 d10; have d11 := kept hb15 d11; have hs0 := hs0.below hb15; have hsc00 := kept hb15 hsc00; have hsc01 := kept hb15 hsc01; have ht0 := ht0.below hb15; have e00 := kept hb15 e00; have e01 := kept hb15 e01; have ht1 := ht1.below hb15; have hk1 := hk1.below hb15; have e10 := kept hb15 e10; have e11 := kept hb15 e11; have hq0 := hq0.below hb15; have g00 := kept hb15 g00; have g01 := kept hb15 g01
  go_wp2_with fail
  first | (refine hK _ _ ⟨rfl, ?_⟩; clear hK K) | refine ⟨rfl, ?_⟩
  go_wp2_with fail
  refine (markd_c (ht0.fr.ow (Nat.le_refl _)) hl0 (by omega) (by omega)).mono ?_; rintro e w16 ⟨rfl, _, hch_⟩
  have hch0 := hch_ g0 (g0 + 1) (fun j hj => by have e : g0 = j := Option.some.inj hj; omega); clear hch_
  have hb16 := hch0.blw (show Below W3.heap.size W3 w15 from (by repeat (first | exact Below.refl _ _ | apply blw_drew | apply blw_alloc | (refine blw_set ?_ (by first | omega | (simp; done) | (simp; omega)) _) | refine below_chain ?_ (by assumption)))) (by first | omega | (simp; done) | (simp; omega))
  have hx0 := hx0_.below hb16
  have hx1 := hx1_.below hb16
  have d00 := kept hb16 d00_
  have d01 := kept hb16 d01_
  have d10 := kept hb16 d10_
  have d11 := kept hb16 d11_
  have hs0 := hs0_.below hb16
  have hsc00 := kept hb16 hsc00_
  have hsc01 := kept hb16 hsc01_
  have hk1 := hk1.chg hch0 (by first | omega | (simp; done) | (simp; omega))
  have e10 := hch0.cell e10 (.inr (by first | omega | (simp; done) | (simp; omega)))
  have e11 := hch0.cell e11 (.inr (by first | omega | (simp; done) | (simp; omega)))
  have hq0 := hq0.chg hch0 (by first | omega | (simp; done) | (simp; omega))
  have g00 := hch0.cell g00 (.inr (by first | omega | (simp; done) | (simp; omega)))
  have g01 := hch0.cell g01 (.inr (by first | omega | (simp; done) | (simp; omega)))
  have zw16 : W3.heap.size ≤ w16.heap.size := hb16.size
  go_wp2_with fail
  have hS11 := hl1.h1; have hS12 := hS1.sum
  refine (markh_c hk1 hS1 (by omega) (by omega)).mono ?_; rintro e w17 ⟨rfl, _, hch1⟩
  have hb17 := hch1.blw (show Below W3.heap.size W3 w16 from (by repeat (first | exact Below.refl _ _ | apply blw_drew | apply blw_alloc | (refine blw_set ?_ (by first | omega | (simp; done) | (simp; omega)) _) | refine below_chain ?_ (by assumption)))) (by first | omega | (simp; done) | (simp; omega))
  have hx0 := hx0_.below hb17
  have hx1 := hx1_.below hb17
  have d00 := kept hb17 d00_
  have d01 := kept hb17 d01_
  have d10 := kept hb17 d10_
  have d11 := kept hb17 d11_
  have hs0 := hs0_.below hb17
  have hsc00 := kept hb17 hsc00_
  have hsc01 := kept hb17 hsc01_
  have hq0 := hq0.chg hch1 (by first | omega | (simp; done) | (simp; omega))
  have g00 := hch1.cell g00 (.inr (by first | omega | (simp; done) | (simp; omega)))
  have g01 := hch1.cell g01 (.inr (by first | omega | (simp; done) | (simp; omega)))
  have zw17 : W3.heap.size ≤ w17.heap.size := hb17.size
  have hmk : True := trivial
  go_wp2_with fail
  refine (eqh_c hq0.hr hs0 yl0.toHsz).mono ?_; rintro e w18 ⟨rfl, hb18⟩
  have hx0 := hx0.below hb18; have hx1 := hx1.below hb18; have d00 := kept hb18 d00; have d01 := kept hb18 d01; have d10 := kept hb18 d10; have d11 := kept hb18 d11; have hs0 := hs0.below hb18; have hsc00 := kept hb18 hsc00; have hsc01 := kept hb18 hsc01; have hq0 := hq0.below hb18; have g00 := kept hb18 g00; have g01 := kept hb18 g01
  go_wp2_with fail
  refine (markh_c hq0 yl0 (by omega) (by omega)).mono ?_; rintro e w19 ⟨rfl, hm0, hcg0⟩
  have hb19 := hcg0.blw (show Below W3.heap.size W3 w18 from (by repeat (first | exact Below.refl _ _ | apply blw_drew | apply blw_alloc | (refine blw_set ?_ (by first | omega | (simp; done) | (simp; omega)) _) | refine below_chain ?_ (by assumption)))) (by first | omega | (simp; done) | (simp; omega))
  have hx0 := hx0_.below hb19
  have hx1 := hx1_.below hb19
  have d00 := kept hb19 d00_
  have d01 := kept hb19 d01_
  have d10 := kept hb19 d10_
  have d11 := kept hb19 d11_
  have hs0 := hs0_.below hb19
  have hsc00 := kept hb19 hsc00_
  have hsc01 := kept hb19 hsc01_
  have g00 := hcg0.cell g00 (.inr (by first | exact Nat.le_refl _ | omega | (simp; omega)))
  have g01 := hcg0.cell g01 (.inr (by first | exact Nat.le_refl _ | omega | (simp; omega)))
  go_wp2_with fail
  refine (heldh_c hm0 yl0 (by omega) (by omega)).mono ?_; rintro e w20 ⟨rfl, hb20⟩
  have hx0 := hx0.below hb20; have hx1 := hx1.below hb20; have d00 := kept hb20 d00; have d01 := kept hb20 d01; have d10 := kept hb20 d10; have d11 := kept hb20 d11; have hs0 := hs0.below hb20; have hsc00 := kept hb20 hsc00; have hsc01 := kept hb20 hsc01; have hm0 := hm0.below hb20; have g00 := kept hb20 g00; have g01 := kept hb20 g01
  go_upto_region 31 with fail
  go_cut [15, 16] (fun s15 s16 wx => ∃ N d u, s15 = .pointer (some ⟨N, 0, none⟩) ∧ s16 = .int .i64 y1 ∧ Bx wx N d u ∧ Hr wx (.agg #[d, u]) y0 ∧ Below w20.heap.size w20 wx)
  case first =>
    refine region_tree [(0, 1), (2, 1)] (.two 1 5 (.two 3 5 (.two 4 5 (.lin [(false, [(5, 0), (6, 0), (7, 0), (8, 5)]), (false, [(9, 4), (10, 0)])]) 8 5 (.lin [(false, [(4, 4), (5, 0), (6, 0), (7, 0), (9, 4), (10, 0)])])) 8 5 (.lin [(false, [(3, 4), (4, 4), (5, 0), (6, 0), (7, 0), (9, 4), (10, 0)])])) 8 5 (.lin [(false, [(1, 5)]), (false, [(3, 4), (4, 4), (5, 0), (6, 0), (7, 0), (9, 4), (10, 0)])])) (by kernel_rfl) ?_
    refine norm_K fun K hK => ?_
    change wpList _ _ _ [_, _] _ _
    go_wp2_with fail
    have hb21 : Below w20.heap.size w20 w20.drew := (by repeat (first | exact Below.refl _ _ | apply blw_drew | apply blw_alloc | (refine blw_set ?_ (by first | omega | (simp; done) | (simp; omega)) _) | refine below_chain ?_ (by assumption)))
    have hx0 := hx0.below hb21; have hx1 := hx1.below hb21; have d00 := kept hb21 d00; have d01 := kept hb21 d01; have d10 := kept hb21 d10; have d11 := kept hb21 d11; have hs0 := hs0.below hb21; have hsc00 := kept hb21 hsc00; have hsc01 := kept hb21 hsc01; have hm0 := hm0.below hb21; have g00 := kept hb21 g00; have g01 := kept hb21 g01
    generalize w20.drew = wq5 at *
    refine hK _ _ ?_; clear hK K
    refine ⟨?_, ?_⟩
    · skip
      refine norm_K fun K hK => ?_
      change wpList _ _ _ [_] _ _
      go_wp2_with fail
      refine (tod_c hx0 hl0).mono ?_; rintro e w22 ⟨t0, rfl, ht0, hb22⟩
      have hx0 := hx0.below hb22; have hx1 := hx1.below hb22; have d00 := kept hb22 d00; have d01 := kept hb22 d01; have d10 := kept hb22 d10; have d11 := kept hb22 d11; have hs0 := hs0.below hb22; have hsc00 := kept hb22 hsc00; have hsc01 := kept hb22 hsc01; have hm0 := hm0.below hb22; have g00 := kept hb22 g00; have g01 := kept hb22 g01
      go_wp2_with fail
      first | (refine hK _ _ ⟨(by repeat (first | exact Below.refl _ _ | apply blw_drew | apply blw_alloc | (refine blw_set ?_ (by first | omega | (simp; done) | (simp; omega)) _) | refine below_chain ?_ (by assumption))), ?_⟩; clear hK K) | refine ⟨(by repeat (first | exact Below.refl _ _ | apply blw_drew | apply blw_alloc | (refine blw_set ?_ (by first | omega | (simp; done) | (simp; omega)) _) | refine below_chain ?_ (by assumption))), ?_⟩
      refine ⟨?_, ?_⟩
      · skip
        refine norm_K fun K hK => ?_
        change wpList _ _ _ [_] _ _
        go_wp2_with fail
        refine (toh_c hx1 hl1).mono ?_; rintro e w23 ⟨t1, rfl, ht1, hb23⟩
        have hx0 := hx0.below hb23; have hx1 := hx1.below hb23; have d00 := kept hb23 d00; have d01 := kept hb23 d01; have d10 := kept hb23 d10; have d11 := kept hb23 d11; have hs0 := hs0.below hb23; have hsc00 := kept hb23 hsc00; have hsc01 := kept hb23 hsc01; have hm0 := hm0.below hb23; have g00 := kept hb23 g00; have g01 := kept hb23 g01; have ht0 := ht0.below hb23
        go_wp2_with fail
        first | (refine hK _ _ ⟨(by repeat (first | exact Below.refl _ _ | apply blw_drew | apply blw_alloc | (refine blw_set ?_ (by first | omega | (simp; done) | (simp; omega)) _) | refine below_chain ?_ (by assumption))), ?_⟩; clear hK K) | refine ⟨(by repeat (first | exact Below.refl _ _ | apply blw_drew | apply blw_alloc | (refine blw_set ?_ (by first | omega | (simp; done) | (simp; omega)) _) | refine below_chain ?_ (by assumption))), ?_⟩
        refine ⟨?_, ?_⟩
        · skip
          refine norm_K fun K hK => ?_
          change wpList _ _ _ [_] _ _
          go_wp2_with fail
          refine (hI _ _ ht0.el _ ht1.hv).mono ?_; rintro e w24 ⟨v0_, rfl, hf0, hb24⟩
          have hx0 := hx0.below hb24; have hx1 := hx1.below hb24; have d00 := kept hb24 d00; have d01 := kept hb24 d01; have d10 := kept hb24 d10; have d11 := kept hb24 d11; have hs0 := hs0.below hb24; have hsc00 := kept hb24 hsc00; have hsc01 := kept hb24 hsc01; have hm0 := hm0.below hb24; have g00 := kept hb24 g00; have g01 := kept hb24 g01; have ht0 := ht0.below hb24; have ht1 := ht1.below hb24
          have hsK := hf0
          obtain ⟨sd, su, rfl, sd_, su_⟩ := hf0.hv.hr; obtain ⟨sa, sc, rfl, _⟩ := id sd_; obtain ⟨sb, se, rfl, _⟩ := id su_; clear sd_ su_
          go_wp2_with fail
          first | (refine hK _ _ ⟨(by repeat (first | exact Below.refl _ _ | apply blw_drew | apply blw_alloc | (refine blw_set ?_ (by first | omega | (simp; done) | (simp; omega)) _) | refine below_chain ?_ (by assumption))), ?_⟩; clear hK K) | refine ⟨(by repeat (first | exact Below.refl _ _ | apply blw_drew | apply blw_alloc | (refine blw_set ?_ (by first | omega | (simp; done) | (simp; omega)) _) | refine below_chain ?_ (by assumption))), ?_⟩
          refine norm_K fun K hK => ?_
          change wpList _ _ _ [_, _, _, _] _ _
          go_wp2_with fail
          have hb25 : Below w24.heap.size w24 (w24.alloc (.cells #[.slice none 0 0, .slice none 0 0] 34)) := (by repeat (first | exact Below.refl _ _ | apply blw_drew | apply blw_alloc | (refine blw_set ?_ (by first | omega | (simp; done) | (simp; omega)) _) | refine below_chain ?_ (by assumption)))
          have hx0 := hx0.below hb25; have hx1 := hx1.below hb25; have d00 := kept hb25 d00; have d01 := kept hb25 d01; have d10 := kept hb25 d10; have d11 := kept hb25 d11; have hs0 := hs0.below hb25; have hsc00 := kept hb25 hsc00; have hsc01 := kept hb25 hsc01; have hm0 := hm0.below hb25; have g00 := kept hb25 g00; have g01 := kept hb25 g01; have ht0 := ht0.below hb25; have ht1 := ht1.below hb25; have hf0 := hf0.below hb25
          have hN : Bx (w24.alloc (.cells #[.slice none 0 0, .slice none 0 0] 34)) w24.heap.size (.slice none 0 0) (.slice none 0 0) := heap_alloc_new _ _
          have hNz : w20.heap.size ≤ w24.heap.size := (below_le (by repeat (first | exact Below.refl _ _ | apply blw_drew | apply blw_alloc | (refine blw_set ?_ (by first | omega | (simp; done) | (simp; omega)) _) | refine below_chain ?_ (by assumption))))
          have hNs : w24.heap.size < (w24.alloc (.cells #[.slice none 0 0, .slice none 0 0] 34)).heap.size := by simp
          go_wp2_with fail
          first | (refine hK _ _ ⟨(by repeat (first | exact Below.refl _ _ | apply blw_drew | apply blw_alloc | (refine blw_set ?_ (by first | omega | (simp; done) | (simp; omega)) _) | refine below_chain ?_ (by assumption))), ?_⟩; clear hK K) | refine ⟨(by repeat (first | exact Below.refl _ _ | apply blw_drew | apply blw_alloc | (refine blw_set ?_ (by first | omega | (simp; done) | (simp; omega)) _) | refine below_chain ?_ (by assumption))), ?_⟩
          refine norm_K fun K hK => ?_
          change wpList _ _ _ [_, _] _ _
          have n0 := hN.c0; have n1 := hN.c1; have n2 := hN.f0; have n3 := hN.f1
          go_wp2_with fail
          first | (refine hK _ _ ⟨rfl, ?_⟩; clear hK K) | refine ⟨rfl, ?_⟩
          go_wp2_with fail
          go_meet
          case rel => exact ⟨_, _, _, rfl, rfl, (by first | exact (hN.set0 _).set1 _ | exact heap_alloc_new _ _), (by first | exact ((hf0.set_ (by first | omega | (simp; done) | (simp; omega)) _).set_ (by first | omega | (simp; done) | (simp; omega)) _).hv.hr | exact (hsK.below (by repeat (first | exact Below.refl _ _ | apply blw_drew | apply blw_alloc | (refine blw_set ?_ (by first | omega | (simp; done) | (simp; omega)) _) | refine below_chain ?_ (by assumption)))).hv.hr), (by repeat (first | exact Below.refl _ _ | apply blw_drew | apply blw_alloc | (refine blw_set ?_ (by first | omega | (simp; done) | (simp; omega)) _) | refine below_chain ?_ (by assumption)))⟩
        · skip
          refine norm_K fun K hK => ?_
          change wpList _ _ _ [_] _ _
          go_wp2_with fail
          have hb24 : Below w23.heap.size w23 (w23.alloc (.cells #[.slice none 0 0, .slice none 0 0] 34)) := (by repeat (first | exact Below.refl _ _ | apply blw_drew | apply blw_alloc | (refine blw_set ?_ (by first | omega | (simp; done) | (simp; omega)) _) | refine below_chain ?_ (by assumption)))
          have hx0 := hx0.below hb24; have hx1 := hx1.below hb24; have d00 := kept hb24 d00; have d01 := kept hb24 d01; have d10 := kept hb24 d10; have d11 := kept hb24 d11; have hs0 := hs0.below hb24; have hsc00 := kept hb24 hsc00; have hsc01 := kept hb24 hsc01; have hm0 := hm0.below hb24; have g00 := kept hb24 g00; have g01 := kept hb24 g01; have ht0 := ht0.below hb24; have ht1 := ht1.below hb24
          have hN : Bx (w23.alloc (.cells #[.slice none 0 0, .slice none 0 0] 34)) w23.heap.size (.slice none 0 0) (.slice none 0 0) := heap_alloc_new _ _
          have hNz : w20.heap.size ≤ w23.heap.size := (below_le (by repeat (first | exact Below.refl _ _ | apply blw_drew | apply blw_alloc | (refine blw_set ?_ (by first | omega | (simp; done) | (simp; omega)) _) | refine below_chain ?_ (by assumption))))
          have hNs : w23.heap.size < (w23.alloc (.cells #[.slice none 0 0, .slice none 0 0] 34)).heap.size := by simp
          go_wp2_with fail
          first | (refine hK _ _ ⟨(by repeat (first | exact Below.refl _ _ | apply blw_drew | apply blw_alloc | (refine blw_set ?_ (by first | omega | (simp; done) | (simp; omega)) _) | refine below_chain ?_ (by assumption))), ?_⟩; clear hK K) | refine ⟨(by repeat (first | exact Below.refl _ _ | apply blw_drew | apply blw_alloc | (refine blw_set ?_ (by first | omega | (simp; done) | (simp; omega)) _) | refine below_chain ?_ (by assumption))), ?_⟩
          refine norm_K fun K hK => ?_
          change wpList _ _ _ [_, _, _, _, _, _] _ _
          go_wp2_with fail
          refine (hI _ _ ht0.el _ ht1.hv).mono ?_; rintro e w25 ⟨v0_, rfl, hf0, hb25⟩
          have hx0 := hx0.below hb25; have hx1 := hx1.below hb25; have d00 := kept hb25 d00; have d01 := kept hb25 d01; have d10 := kept hb25 d10; have d11 := kept hb25 d11; have hs0 := hs0.below hb25; have hsc00 := kept hb25 hsc00; have hsc01 := kept hb25 hsc01; have hm0 := hm0.below hb25; have g00 := kept hb25 g00; have g01 := kept hb25 g01; have ht0 := ht0.below hb25; have ht1 := ht1.below hb25; have hN := hN.below hb25
          have hsK := hf0
          obtain ⟨sd, su, rfl, sd_, su_⟩ := hf0.hv.hr; obtain ⟨sa, sc, rfl, _⟩ := id sd_; obtain ⟨sb, se, rfl, _⟩ := id su_; clear sd_ su_
          have hNs := Nat.lt_of_lt_of_le hNs hb25.size
          have n0 := hN.c0; have n1 := hN.c1; have n2 := hN.f0; have n3 := hN.f1
          go_wp2_with fail
          first | (refine hK _ _ ⟨rfl, ?_⟩; clear hK K) | refine ⟨rfl, ?_⟩
          go_wp2_with fail
          go_meet
          case rel => exact ⟨_, _, _, rfl, rfl, (by first | exact (hN.set0 _).set1 _ | exact heap_alloc_new _ _), (by first | exact ((hf0.set_ (by first | omega | (simp; done) | (simp; omega)) _).set_ (by first | omega | (simp; done) | (simp; omega)) _).hv.hr | exact (hsK.below (by repeat (first | exact Below.refl _ _ | apply blw_drew | apply blw_alloc | (refine blw_set ?_ (by first | omega | (simp; done) | (simp; omega)) _) | refine below_chain ?_ (by assumption)))).hv.hr), (by repeat (first | exact Below.refl _ _ | apply blw_drew | apply blw_alloc | (refine blw_set ?_ (by first | omega | (simp; done) | (simp; omega)) _) | refine below_chain ?_ (by assumption)))⟩
      · skip
        refine norm_K fun K hK => ?_
        change wpList _ _ _ [_] _ _
        go_wp2_with fail
        have hb23 : Below w22.heap.size w22 (w22.alloc (.cells #[.slice none 0 0, .slice none 0 0] 34)) := (by repeat (first | exact Below.refl _ _ | apply blw_drew | apply blw_alloc | (refine blw_set ?_ (by first | omega | (simp; done) | (simp; omega)) _) | refine below_chain ?_ (by assumption)))
        have hx0 := hx0.below hb23; have hx1 := hx1.below hb23; have d00 := kept hb23 d00; have d01 := kept hb23 d01; have d10 := kept hb23 d10; have d11 := kept hb23 d11; have hs0 := hs0.below hb23; have hsc00 := kept hb23 hsc00; have hsc01 := kept hb23 hsc01; have hm0 := hm0.below hb23; have g00 := kept hb23 g00; have g01 := kept hb23 g01; have ht0 := ht0.below hb23
        have hN : Bx (w22.alloc (.cells #[.slice none 0 0, .slice none 0 0] 34)) w22.heap.size (.slice none 0 0) (.slice none 0 0) := heap_alloc_new _ _
        have hNz : w20.heap.size ≤ w22.heap.size := (below_le (by repeat (first | exact Below.refl _ _ | apply blw_drew | apply blw_alloc | (refine blw_set ?_ (by first | omega | (simp; done) | (simp; omega)) _) | refine below_chain ?_ (by assumption))))
        have hNs : w22.heap.size < (w22.alloc (.cells #[.slice none 0 0, .slice none 0 0] 34)).heap.size := by simp
        go_wp2_with fail
        first | (refine hK _ _ ⟨(by repeat (first | exact Below.refl _ _ | apply blw_drew | apply blw_alloc | (refine blw_set ?_ (by first | omega | (simp; done) | (simp; omega)) _) | refine below_chain ?_ (by assumption))), ?_⟩; clear hK K) | refine ⟨(by repeat (first | exact Below.refl _ _ | apply blw_drew | apply blw_alloc | (refine blw_set ?_ (by first | omega | (simp; done) | (simp; omega)) _) | refine below_chain ?_ (by assumption))), ?_⟩
        refine norm_K fun K hK => ?_
        change wpList _ _ _ [_, _, _, _, _, _, _] _ _
        go_wp2_with fail
        refine (toh_c hx1 hl1).mono ?_; rintro e w24 ⟨t1, rfl, ht1, hb24⟩
        have hx0 := hx0.below hb24; have hx1 := hx1.below hb24; have d00 := kept hb24 d00; have d01 := kept hb24 d01; have d10 := kept hb24 d10; have d11 := kept hb24 d11; have hs0 := hs0.below hb24; have hsc00 := kept hb24 hsc00; have hsc01 := kept hb24 hsc01; have hm0 := hm0.below hb24; have g00 := kept hb24 g00; have g01 := kept hb24 g01; have ht0 := ht0.below hb24; have hN := hN.below hb24
        have hNs := Nat.lt_of_lt_of_le hNs hb24.size
        go_wp2_with fail
        refine (hI _ _ ht0.el _ ht1.hv).mono ?_; rintro e w25 ⟨v0_, rfl, hf0, hb25⟩
        have hx0 := hx0.below hb25; have hx1 := hx1.below hb25; have d00 := kept hb25 d00; have d01 := kept hb25 d01; have d10 := kept hb25 d10; have d11 := kept hb25 d11; have hs0 := hs0.below hb25; have hsc00 := kept hb25 hsc00; have hsc01 := kept hb25 hsc01; have hm0 := hm0.below hb25; have g00 := kept hb25 g00; have g01 := kept hb25 g01; have ht0 := ht0.below hb25; have hN := hN.below hb25; have ht1 := ht1.below hb25
        have hsK := hf0
        obtain ⟨sd, su, rfl, sd_, su_⟩ := hf0.hv.hr; obtain ⟨sa, sc, rfl, _⟩ := id sd_; obtain ⟨sb, se, rfl, _⟩ := id su_; clear sd_ su_
        have hNs := Nat.lt_of_lt_of_le hNs hb25.size
        have n0 := hN.c0; have n1 := hN.c1; have n2 := hN.f0; have n3 := hN.f1
        go_wp2_with fail
        first | (refine hK _ _ ⟨rfl, ?_⟩; clear hK K) | refine ⟨rfl, ?_⟩
        go_wp2_with fail
        go_meet
        case rel => exact ⟨_, _, _, rfl, rfl, (by first | exact (hN.set0 _).set1 _ | exact heap_alloc_new _ _), (by first | exact ((hf0.set_ (by first | omega | (simp; done) | (simp; omega)) _).set_ (by first | omega | (simp; done) | (simp; omega)) _).hv.hr | exact (hsK.below (by repeat (first | exact Below.refl _ _ | apply blw_drew | apply blw_alloc | (refine blw_set ?_ (by first | omega | (simp; done) | (simp; omega)) _) | refine below_chain ?_ (by assumption)))).hv.hr), (by repeat (first | exact Below.refl _ _ | apply blw_drew | apply blw_alloc | (refine blw_set ?_ (by first | omega | (simp; done) | (simp; omega)) _) | refine below_chain ?_ (by assumption)))⟩
    · skip
      refine norm_K fun K hK => ?_
      change wpList _ _ _ [_] _ _
      go_wp2_with fail
      have hb22 : Below wq5.heap.size wq5 (wq5.alloc (.cells #[.slice none 0 0, .slice none 0 0] 34)) := (by repeat (first | exact Below.refl _ _ | apply blw_drew | apply blw_alloc | (refine blw_set ?_ (by first | omega | (simp; done) | (simp; omega)) _) | refine below_chain ?_ (by assumption)))
      have hx0 := hx0.below hb22; have hx1 := hx1.below hb22; have d00 := kept hb22 d00; have d01 := kept hb22 d01; have d10 := kept hb22 d10; have d11 := kept hb22 d11; have hs0 := hs0.below hb22; have hsc00 := kept hb22 hsc00; have hsc01 := kept hb22 hsc01; have hm0 := hm0.below hb22; have g00 := kept hb22 g00; have g01 := kept hb22 g01
      have hN : Bx (wq5.alloc (.cells #[.slice none 0 0, .slice none 0 0] 34)) wq5.heap.size (.slice none 0 0) (.slice none 0 0) := heap_alloc_new _ _
      have hNz : w20.heap.size ≤ wq5.heap.size := (below_le (by repeat (first | exact Below.refl _ _ | apply blw_drew | apply blw_alloc | (refine blw_set ?_ (by first | omega | (simp; done) | (simp; omega)) _) | refine below_chain ?_ (by assumption))))
      have hNs : wq5.heap.size < (wq5.alloc (.cells #[.slice none 0 0, .slice none 0 0] 34)).heap.size := by simp
      go_wp2_with fail
      first | (refine hK _ _ ⟨(by repeat (first | exact Below.refl _ _ | apply blw_drew | apply blw_alloc | (refine blw_set ?_ (by first | omega | (simp; done) | (simp; omega)) _) | refine below_chain ?_ (by assumption))), ?_⟩; clear hK K) | refine ⟨(by repeat (first | exact Below.refl _ _ | apply blw_drew | apply blw_alloc | (refine blw_set ?_ (by first | omega | (simp; done) | (simp; omega)) _) | refine below_chain ?_ (by assumption))), ?_⟩
      refine norm_K fun K hK => ?_
      change wpList _ _ _ [_] _ _
      go_wp2_with fail
      refine (tod_c hx0 hl0).mono ?_; rintro e w23 ⟨t0, rfl, ht0, hb23⟩
      have hx0 := hx0.below hb23; have hx1 := hx1.below hb23; have d00 := kept hb23 d00; have d01 := kept hb23 d01; have d10 := kept hb23 d10; have d11 := kept hb23 d11; have hs0 := hs0.below hb23; have hsc00 := kept hb23 hsc00; have hsc01 := kept hb23 hsc01; have hm0 := hm0.below hb23; have g00 := kept hb23 g00; have g01 := kept hb23 g01; have hN := hN.below hb23
      have hNs := Nat.lt_of_lt_of_le hNs hb23.size
      go_wp2_with fail
      first | (refine hK _ _ ⟨(by repeat (first | exact Below.refl _ _ | apply blw_drew | apply blw_alloc | (refine blw_set ?_ (by first | omega | (simp; done) | (simp; omega)) _) | refine below_chain ?_ (by assumption))), ?_⟩; clear hK K) | refine ⟨(by repeat (first | exact Below.refl _ _ | apply blw_drew | apply blw_alloc | (refine blw_set ?_ (by first | omega | (simp; done) | (simp; omega)) _) | refine below_chain ?_ (by assumption))), ?_⟩
      refine norm_K fun K hK => ?_
      change wpList _ _ _ [_, _, _, _, _, _, _] _ _
      go_wp2_with fail
      refine (toh_c hx1 hl1).mono ?_; rintro e w24 ⟨t1, rfl, ht1, hb24⟩
      have hx0 := hx0.below hb24; have hx1 := hx1.below hb24; have d00 := kept hb24 d00; have d01 := kept hb24 d01; have d10 := kept hb24 d10; have d11 := kept hb24 d11; have hs0 := hs0.below hb24; have hsc00 := kept hb24 hsc00; have hsc01 := kept hb24 hsc01; have hm0 := hm0.below hb24; have g00 := kept hb24 g00; have g01 := kept hb24 g01; have hN := hN.below hb24; have ht0 := ht0.below hb24
      have hNs := Nat.lt_of_lt_of_le hNs hb24.size
      go_wp2_with fail
      refine (hI _ _ ht0.el _ ht1.hv).mono ?_; rintro e w25 ⟨v0_, rfl, hf0, hb25⟩
      have hx0 := hx0.below hb25; have hx1 := hx1.below hb25; have d00 := kept hb25 d00; have d01 := kept hb25 d01; have d10 := kept hb25 d10; have d11 := kept hb25 d11; have hs0 := hs0.below hb25; have hsc00 := kept hb25 hsc00; have hsc01 := kept hb25 hsc01; have hm0 := hm0.below hb25; have g00 := kept hb25 g00; have g01 := kept hb25 g01; have hN := hN.below hb25; have ht0 := ht0.below hb25; have ht1 := ht1.below hb25
      have hsK := hf0
      obtain ⟨sd, su, rfl, sd_, su_⟩ := hf0.hv.hr; obtain ⟨sa, sc, rfl, _⟩ := id sd_; obtain ⟨sb, se, rfl, _⟩ := id su_; clear sd_ su_
      have hNs := Nat.lt_of_lt_of_le hNs hb25.size
      have n0 := hN.c0; have n1 := hN.c1; have n2 := hN.f0; have n3 := hN.f1
      go_wp2_with fail
      first | (refine hK _ _ ⟨rfl, ?_⟩; clear hK K) | refine ⟨rfl, ?_⟩
      go_wp2_with fail
      go_meet
      case rel => exact ⟨_, _, _, rfl, rfl, (by first | exact (hN.set0 _).set1 _ | exact heap_alloc_new _ _), (by first | exact ((hf0.set_ (by first | omega | (simp; done) | (simp; omega)) _).set_ (by first | omega | (simp; done) | (simp; omega)) _).hv.hr | exact (hsK.below (by repeat (first | exact Below.refl _ _ | apply blw_drew | apply blw_alloc | (refine blw_set ?_ (by first | omega | (simp; done) | (simp; omega)) _) | refine below_chain ?_ (by assumption)))).hv.hr), (by repeat (first | exact Below.refl _ _ | apply blw_drew | apply blw_alloc | (refine blw_set ?_ (by first | omega | (simp; done) | (simp; omega)) _) | refine below_chain ?_ (by assumption)))⟩
  case' rest => skip
  obtain ⟨N5, D5, U5, rfl, rfl, hN5, hf0, hb5r⟩ := hcut
  have hx0 := hx0.below hb5r; have hx1 := hx1.below hb5r; have d00 := kept hb5r d00; have d01 := kept hb5r d01; have d10 := kept hb5r d10; have d11 := kept hb5r d11; have hs0 := hs0.below hb5r; have hsc00 := kept hb5r hsc00; have hsc01 := kept hb5r hsc01; have hm0 := hm0.below hb5r; have g00 := kept hb5r g00; have g01 := kept hb5r g01
  have hfc00 := hN5.c0; have hfc01 := hN5.c1; clear hN5
  obtain ⟨_, _, e_, q5d_, q5u_⟩ := id hf0; cases e_; obtain ⟨q5a, q5c, rfl, _⟩ := id q5d_; obtain ⟨q5b, q5e, rfl, _⟩ := id q5u_; clear q5d_ q5u_
  have hbW5 : Below w.heap.size w wc := (by repeat (first | exact Below.refl _ _ | apply blw_drew | apply blw_alloc | (refine blw_set ?_ (by first | omega | (simp; done) | (simp; omega)) _) | refine below_chain ?_ (by assumption)))
  obtain ⟨W5, hW5⟩ : ∃ W, W = wc := ⟨_, rfl⟩
  rw [← hW5] at hbW5 hb5r hx0 hx1 d00 d01 d10 d11 hs0 hsc00 hsc01 hm0 g00 g01 hf0 hfc00 hfc01 ⊢; clear hW5
  go_wp2_with fail
  refine (eqh_c hf0 hs0 yl0.toHsz).mono ?_; rintro e w21 ⟨rfl, hb21⟩
  have hx0 := hx0.below hb21; have hx1 := hx1.below hb21; have d00 := kept hb21 d00; have d01 := kept hb21 d01; have d10 := kept hb21 d10; have d11 := kept hb21 d11; have hs0 := hs0.below hb21; have hsc00 := kept hb21 hsc00; have hsc01 := kept hb21 hsc01; have hm0 := hm0.below hb21; have g00 := kept hb21 g00; have g01 := kept hb21 g01; have hf0 := hf0.below hb21; have hfc00 := kept hb21 hfc00; have hfc01 := kept hb21 hfc01
  go_wp2_with fail
  refine (heldh_c hm0 yl0 (by omega) (by omega)).mono ?_; rintro e w22 ⟨rfl, hb22⟩
  have hx0 := hx0.below hb22; have hx1 := hx1.below hb22; have d00 := kept hb22 d00; have d01 := kept hb22 d01; have d10 := kept hb22 d10; have d11 := kept hb22 d11; have hs0 := hs0.below hb22; have hsc00 := kept hb22 hsc00; have hsc01 := kept hb22 hsc01; have hm0 := hm0.below hb22; have g00 := kept hb22 g00; have g01 := kept hb22 g01; have hf0 := hf0.below hb22; have hfc00 := kept hb22 hfc00; have hfc01 := kept hb22 hfc01
  go_wp2_with fail
  go_ret
  exact ⟨rfl, (by repeat (first | exact Below.refl _ _ | apply blw_drew | apply blw_alloc | (refine blw_set ?_ (by first | omega | (simp; done) | (simp; omega)) _) | refine below_chain ?_ (by assumption)))⟩
end Go.Proofs.YtbllhcceakhhnaaGreat
