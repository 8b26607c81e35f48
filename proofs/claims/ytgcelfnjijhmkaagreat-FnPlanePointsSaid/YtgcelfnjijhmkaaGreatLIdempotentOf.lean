/-
  Idempotents of points: the program's and the reference's, and the law.
-/
import Derived.Test.YtgcelfnjijhmkaaGreatJbn
import Derived.Test.YtgcelfnjijhmkaaGreatJbb
import Derived.Test.YtgcelfnjijhmkaaGreatJbq
import Derived.Test.YtgcelfnjijhmkaaGreatJan
namespace Go.Proofs.YtgcelfnjijhmkaaGreat
open Go.RowKit

set_option maxHeartbeats 2000000 in
set_option maxRecDepth 100000 in
theorem prim_c {p0 : Int} {x0 x1 : Value} {st0 : List Int} {X1 : Her} {w : World} (hd : Dok p0 st0) (hx0 : El w x0 st0) (hx1 : Hv w x1 X1) (hX1 : isH p0 (sz st0.length) X1 = true) :
    Calls Tryz.prog 47 #[.agg #[.int .i64 p0, x0], x1] w fun e w' => e = .returned (.bool (primH p0 st0 X1)) ∧ Below w.heap.size w w' := by
  have hp1 := hd.hp.lo
  obtain ⟨a0, c0, rfl, _⟩ := id hx0.op
  obtain ⟨dv1, uv1, rfl, hd1_, hu1_⟩ := id hx1; obtain ⟨a1, c1, rfl, _⟩ := id hd1_.op; obtain ⟨b1, e1, rfl, _⟩ := id hu1_; clear hd1_ hu1_
  obtain ⟨bi, hbi⟩ : ∃ b, b = idemH p0 st0 X1 := ⟨_, rfl⟩
  obtain ⟨rk, hrk⟩ : ∃ r, r = rankH p0 st0 X1 := ⟨_, rfl⟩
  obtain ⟨tr, htr⟩ : ∃ r, r = traceH p0 X1 := ⟨_, rfl⟩
  have hP : primH p0 st0 X1 = (bi && (decide (rk = 1) && decide (tr = 1))) := by rw [hbi, hrk, htr]; rfl
  rw [hP]; clear hP
  have HI := Lib.hid hbi; have HRK := Lib.hid hrk; have HTR := Lib.hid htr; clear hbi hrk htr
  cases bi
  case' false =>
    go_enter Tryz.func47, Tryz.ntmps47
    have hb0 : Below w.heap.size w ((w.alloc (.cells #[.int .i64 p0, .slice a0 st0.length c0] 26)).alloc (.cells #[.slice a1 X1.dg.length c1, .slice b1 X1.up.length e1] 31)) := (by repeat (first | exact .refl _ _ | apply bwD | apply bwA | (refine bwS ?_ (by first | omega | simp <;> omega) _) | refine bwC ?_ (by assumption)))
    have hx0 := hx0.below hb0; have hx1 := hx1.below hb0
    have d00 : ((w.alloc (.cells #[.int .i64 p0, .slice a0 st0.length c0] 26)).alloc (.cells #[.slice a1 X1.dg.length c1, .slice b1 X1.up.length e1] 31)).cell? ⟨w.heap.size, 0, none⟩ = some (.int .i64 p0) := by simp [go_sem]
    have d01 : ((w.alloc (.cells #[.int .i64 p0, .slice a0 st0.length c0] 26)).alloc (.cells #[.slice a1 X1.dg.length c1, .slice b1 X1.up.length e1] 31)).cell? ⟨w.heap.size, 1, none⟩ = some (.slice a0 st0.length c0) := by simp [go_sem]
    have d10 : ((w.alloc (.cells #[.int .i64 p0, .slice a0 st0.length c0] 26)).alloc (.cells #[.slice a1 X1.dg.length c1, .slice b1 X1.up.length e1] 31)).cell? ⟨w.heap.size + 1, 0, none⟩ = some (.slice a1 X1.dg.length c1) := by simp [go_sem]
    have d11 : ((w.alloc (.cells #[.int .i64 p0, .slice a0 st0.length c0] 26)).alloc (.cells #[.slice a1 X1.dg.length c1, .slice b1 X1.up.length e1] 31)).cell? ⟨w.heap.size + 1, 1, none⟩ = some (.slice b1 X1.up.length e1) := by simp [go_sem]
    go_wp2_with fail
    refine (idem_c hd hx0 hx1 hX1).mono ?_; rintro e w1 ⟨rfl, hb1⟩
    have hx0 := hx0.below hb1; have hx1 := hx1.below hb1; have d00 := kept hb1 d00; have d01 := kept hb1 d01; have d10 := kept hb1 d10; have d11 := kept hb1 d11
    rw [← HI.out]
    go_wp2_with fail
    go_ret
    exact ⟨rfl, (by repeat (first | exact .refl _ _ | apply bwD | apply bwA | (refine bwS ?_ (by first | omega | simp <;> omega) _) | refine bwC ?_ (by assumption)))⟩
  by_cases hr1 : rk = 1
  case' neg =>
    have hne_ : (rk == 1) = false := by simpa using hr1
    have hdd : decide (rk = 1) = false := decide_eq_false hr1
    rw [hdd]; clear hdd hr1
    go_enter Tryz.func47, Tryz.ntmps47
    have hb0 : Below w.heap.size w ((w.alloc (.cells #[.int .i64 p0, .slice a0 st0.length c0] 26)).alloc (.cells #[.slice a1 X1.dg.length c1, .slice b1 X1.up.length e1] 31)) := (by repeat (first | exact .refl _ _ | apply bwD | apply bwA | (refine bwS ?_ (by first | omega | simp <;> omega) _) | refine bwC ?_ (by assumption)))
    have hx0 := hx0.below hb0; have hx1 := hx1.below hb0
    have d00 : ((w.alloc (.cells #[.int .i64 p0, .slice a0 st0.length c0] 26)).alloc (.cells #[.slice a1 X1.dg.length c1, .slice b1 X1.up.length e1] 31)).cell? ⟨w.heap.size, 0, none⟩ = some (.int .i64 p0) := by simp [go_sem]
    have d01 : ((w.alloc (.cells #[.int .i64 p0, .slice a0 st0.length c0] 26)).alloc (.cells #[.slice a1 X1.dg.length c1, .slice b1 X1.up.length e1] 31)).cell? ⟨w.heap.size, 1, none⟩ = some (.slice a0 st0.length c0) := by simp [go_sem]
    have d10 : ((w.alloc (.cells #[.int .i64 p0, .slice a0 st0.length c0] 26)).alloc (.cells #[.slice a1 X1.dg.length c1, .slice b1 X1.up.length e1] 31)).cell? ⟨w.heap.size + 1, 0, none⟩ = some (.slice a1 X1.dg.length c1) := by simp [go_sem]
    have d11 : ((w.alloc (.cells #[.int .i64 p0, .slice a0 st0.length c0] 26)).alloc (.cells #[.slice a1 X1.dg.length c1, .slice b1 X1.up.length e1] 31)).cell? ⟨w.heap.size + 1, 1, none⟩ = some (.slice b1 X1.up.length e1) := by simp [go_sem]
    go_wp2_with fail
    refine (idem_c hd hx0 hx1 hX1).mono ?_; rintro e w1 ⟨rfl, hb1⟩
    have hx0 := hx0.below hb1; have hx1 := hx1.below hb1; have d00 := kept hb1 d00; have d01 := kept hb1 d01; have d10 := kept hb1 d10; have d11 := kept hb1 d11
    rw [← HI.out]
    go_wp2_with fail
    refine (rank_c hd hx0 hx1 hX1).mono ?_; rintro e w2 ⟨rfl, hb2⟩
    have hx0 := hx0.below hb2; have hx1 := hx1.below hb2; have d00 := kept hb2 d00; have d01 := kept hb2 d01; have d10 := kept hb2 d10; have d11 := kept hb2 d11
    rw [← HRK.out]
    go_wp2_with fail
    go_ret
    exact ⟨rfl, (by repeat (first | exact .refl _ _ | apply bwD | apply bwA | (refine bwS ?_ (by first | omega | simp <;> omega) _) | refine bwC ?_ (by assumption)))⟩
  subst hr1
  go_enter Tryz.func47, Tryz.ntmps47
  have hb0 : Below w.heap.size w ((w.alloc (.cells #[.int .i64 p0, .slice a0 st0.length c0] 26)).alloc (.cells #[.slice a1 X1.dg.length c1, .slice b1 X1.up.length e1] 31)) := (by repeat (first | exact .refl _ _ | apply bwD | apply bwA | (refine bwS ?_ (by first | omega | simp <;> omega) _) | refine bwC ?_ (by assumption)))
  have hx0 := hx0.below hb0; have hx1 := hx1.below hb0
  have d00 : ((w.alloc (.cells #[.int .i64 p0, .slice a0 st0.length c0] 26)).alloc (.cells #[.slice a1 X1.dg.length c1, .slice b1 X1.up.length e1] 31)).cell? ⟨w.heap.size, 0, none⟩ = some (.int .i64 p0) := by simp [go_sem]
  have d01 : ((w.alloc (.cells #[.int .i64 p0, .slice a0 st0.length c0] 26)).alloc (.cells #[.slice a1 X1.dg.length c1, .slice b1 X1.up.length e1] 31)).cell? ⟨w.heap.size, 1, none⟩ = some (.slice a0 st0.length c0) := by simp [go_sem]
  have d10 : ((w.alloc (.cells #[.int .i64 p0, .slice a0 st0.length c0] 26)).alloc (.cells #[.slice a1 X1.dg.length c1, .slice b1 X1.up.length e1] 31)).cell? ⟨w.heap.size + 1, 0, none⟩ = some (.slice a1 X1.dg.length c1) := by simp [go_sem]
  have d11 : ((w.alloc (.cells #[.int .i64 p0, .slice a0 st0.length c0] 26)).alloc (.cells #[.slice a1 X1.dg.length c1, .slice b1 X1.up.length e1] 31)).cell? ⟨w.heap.size + 1, 1, none⟩ = some (.slice b1 X1.up.length e1) := by simp [go_sem]
  go_wp2_with fail
  refine (idem_c hd hx0 hx1 hX1).mono ?_; rintro e w1 ⟨rfl, hb1⟩
  have hx0 := hx0.below hb1; have hx1 := hx1.below hb1; have d00 := kept hb1 d00; have d01 := kept hb1 d01; have d10 := kept hb1 d10; have d11 := kept hb1 d11
  rw [← HI.out]
  go_wp2_with fail
  refine (rank_c hd hx0 hx1 hX1).mono ?_; rintro e w2 ⟨rfl, hb2⟩
  have hx0 := hx0.below hb2; have hx1 := hx1.below hb2; have d00 := kept hb2 d00; have d01 := kept hb2 d01; have d10 := kept hb2 d10; have d11 := kept hb2 d11
  rw [← HRK.out]
  go_wp2_with fail
  refine (jtrace_c hd hx0 hx1 hX1).mono ?_; rintro e w3 ⟨rfl, hb3⟩
  have hx0 := hx0.below hb3; have hx1 := hx1.below hb3; have d00 := kept hb3 d00; have d01 := kept hb3 d01; have d10 := kept hb3 d10; have d11 := kept hb3 d11
  rw [← HTR.out]
  go_wp2_with fail
  go_ret
  exact ⟨by first | rfl | (simp; done) | (simp; rfl), (by repeat (first | exact .refl _ _ | apply bwD | apply bwA | (refine bwS ?_ (by first | omega | simp <;> omega) _) | refine bwC ?_ (by assumption)))⟩
def RIdempotentOf1 (p0 : Int) (st0 : List Int) (X1 : Her) : Int := if chkH p0 st0 [X1] = 0 then (if traceH p0 X1 = 0 then 5 else if isPt p0 st0 X1 = true then 0 else 5) else chkH p0 st0 [X1]
def RIdempotentOf0 (p0 : Int) (st0 : List Int) (X1 : Her) : Her := if RIdempotentOf1 p0 st0 X1 = 0 then multH p0 X1 (invL p0 (traceH p0 X1)) else ⟨[], []⟩
theorem trace_fp {p : Int} {X : Her} (hp : 1 ≤ p) : 0 ≤ traceH p X ∧ traceH p X < p := by unfold traceH; exact mod_fp2 hp
theorem prim_pt {p : Int} {st : List Int} {X : Her} (hd : Dok p st) (hX : isH p (sz st.length) X = true) (ht : traceH p X ≠ 0) : primH p st (multH p X (invL p (traceH p X))) = isPt p st X := by
  have h := idem_prim hd hX ht
  cases h2 : isPt p st X
  · have h3 : ¬ rankH p st X = 1 := fun e => by unfold isPt at h2; rw [e] at h2; exact absurd h2 (by decide)
    cases h4 : primH p st (multH p X (invL p (traceH p X)))
    · rfl
    · exact absurd (h.1 h4) h3
  · exact h.2 (by simpa [isPt] using h2)
theorem pts_one {p : Int} {st : List Int} {X : Her} (h : chkH p st [X] = 0) : ptsH p st [X] = if isPt p st X = true then 0 else 5 := by
  unfold ptsH
  rw [if_pos h]
  simp
theorem pts_non {p : Int} {st : List Int} {X : Her} (h : ¬ chkH p st [X] = 0) : ptsH p st [X] = chkH p st [X] := if_neg h
set_option maxHeartbeats 2000000 in
set_option maxRecDepth 100000 in
theorem iIdempotentOf_c {p0 : Int} {x0 : Value} {st0 : List Int} {x1 : Value} {X1 : Her} {w : World} (hx0 : El w x0 st0) (hm0 : st0.length ≤ 1048576) (hx1 : Hv w x1 X1) (hz1 : Hsz X1) :
    Calls Tryz.prog 14 #[.agg #[.int .i64 p0, x0], x1] w fun e w' => ∃ v0, e = .returned (.tuple #[v0, .int .i64 (RIdempotentOf1 p0 st0 X1)]) ∧ OwH w' w.heap.size v0 (RIdempotentOf0 p0 st0 X1) ∧ Below w.heap.size w w' := by
  obtain ⟨a0, c0, rfl, _⟩ := id hx0.op
  obtain ⟨dv1, uv1, rfl, hd1_, hu1_⟩ := id hx1; obtain ⟨a1, c1, rfl, _⟩ := id hd1_.op; obtain ⟨b1, e1, rfl, _⟩ := id hu1_; clear hd1_ hu1_
  obtain ⟨W, hW⟩ : ∃ W, W = ((((w.alloc (.cells #[.int .i64 p0, .slice a0 st0.length c0] 26)).alloc (.cells #[.slice a1 X1.dg.length c1, .slice b1 X1.up.length e1] 31)).alloc (.cells #[.slice none 0 0, .slice none 0 0] 31)).alloc (.cells #[.slice a1 X1.dg.length c1, .slice b1 X1.up.length e1] 31)) := ⟨_, rfl⟩
  have hbW : Below w.heap.size w W := by rw [hW]; exact (by repeat (first | exact .refl _ _ | apply bwD | apply bwA | (refine bwS ?_ (by first | omega | simp <;> omega) _) | refine bwC ?_ (by assumption)))
  have hx0 := hx0.below hbW
  have hx1 := hx1.below hbW
  have d00 : W.cell? ⟨w.heap.size, 0, none⟩ = some (.int .i64 p0) := by rw [hW]; simp [go_sem]
  have d01 : W.cell? ⟨w.heap.size, 1, none⟩ = some (.slice a0 st0.length c0) := by rw [hW]; simp [go_sem]
  have d10 : W.cell? ⟨w.heap.size + 1, 0, none⟩ = some (.slice a1 X1.dg.length c1) := by rw [hW]; simp [go_sem]
  have d11 : W.cell? ⟨w.heap.size + 1, 1, none⟩ = some (.slice b1 X1.up.length e1) := by rw [hW]; simp [go_sem]
  have hr : Bx W (w.heap.size + 1 + 1) (.slice none 0 0) (.slice none 0 0) := by rw [hW]; exact Bx.below (by unfold Bx; rw [show w.heap.size + 1 + 1 = ((w.alloc (.cells #[.int .i64 p0, .slice a0 st0.length c0] 26)).alloc (.cells #[.slice a1 X1.dg.length c1, .slice b1 X1.up.length e1] 31)).heap.size by simp]; exact heap_alloc_new _ _) (by repeat (first | exact .refl _ _ | apply bwD | apply bwA | (refine bwS ?_ (by first | omega | simp <;> omega) _) | refine bwC ?_ (by assumption)))
  have hWs : W.heap.size = w.heap.size + 1 + 1 + 1 + 1 := by rw [hW]; simp
  have gl : Lh W (.slice (some ⟨w.heap.size + 1 + 1 + 1, 0, none⟩) 1 1) [X1] := Lh.one hx1 (by rw [hW]; simp [go_sem]) (by rw [hW]; simp [go_sem])
  have hcon := chkh_c (p := p0) hx0 hm0 gl (by intro X hX; simp at hX; subst hX; exact hz1) (by simp)
  have HWs := Lib.hid hWs; clear hWs
  rw [hW] at hcon
  by_cases h0 : chkH p0 st0 [X1] = 0
  · rw [h0] at hcon
    obtain ⟨hd, hall⟩ := chkH_pos h0
    have hX1 : isH p0 (sz st0.length) X1 = true := by simp at hall; exact hall
    clear hall
    have hp1 := hd.hp.lo; have hp2 := hd.hp.hi
    have hT := trace_fp (p := p0) (X := X1) (by omega)
    obtain ⟨q, hq_⟩ : ∃ q, q = traceH p0 X1 := ⟨_, rfl⟩
    have HQ := Lib.hid hq_
    by_cases h2 : traceH p0 X1 = 0
    · have h2q : q = 0 := hq_.trans h2
      clear hq_
      have e1 : RIdempotentOf1 p0 st0 X1 = 5 := by unfold RIdempotentOf1; rw [if_pos h0, if_pos h2]
      rw [show RIdempotentOf0 p0 st0 X1 = ⟨[], []⟩ from if_neg (by rw [e1]; decide), e1]
      clear e1
      go_enter Tryz.func14, Tryz.ntmps14
      go_wp2_with fail
      refine hcon.mono ?_; rintro e w1 ⟨rfl, hb1⟩
      rw [← hW] at hb1
      clear hW hcon
      have hx0 := hx0.below hb1; have hx1 := hx1.below hb1; have d00 := kept hb1 d00; have d01 := kept hb1 d01; have d10 := kept hb1 d10; have d11 := kept hb1 d11; have hr := hr.below hb1
      clear h2 hT
      go_wp2_with fail
      refine (jtrace_c hd hx0 hx1 hX1).mono ?_; rintro e w22 ⟨rfl, hb22⟩
      have hx0 := hx0.below hb22; have hx1 := hx1.below hb22; have d00 := kept hb22 d00; have d01 := kept hb22 d01; have d10 := kept hb22 d10; have d11 := kept hb22 d11; have hr := hr.below hb22
      rw [← HQ.out]
      have rc0 := hr.c0; have rc1 := hr.c1; have rf0 := hr.f0; have rf1 := hr.f1
      go_wp2_with fail
      refine bodyPost_ret (v := .tuple #[.agg #[.slice none 0 0, .slice none 0 0], .int .i64 5]) (by simp [results, Tryz.results14, go_sem, rc0, rc1]) rfl ⟨_, rfl, .inl ⟨rfl, rfl⟩, ?_⟩
      exact bwS (bwS (by repeat (first | exact .refl _ _ | apply bwD | apply bwA | (refine bwS ?_ (by first | omega | simp <;> omega) _) | refine bwC ?_ (by assumption))) (by first | omega | simp <;> omega) _) (by first | omega | simp <;> omega) _
    · have h2q : ¬ q = 0 := fun e => h2 (hq_.symm.trans e)
      have hne_ : (q == 0) = false := by simpa using h2q
      have hqb : 1 ≤ q ∧ q < p0 := by rw [← hq_] at hT; omega
      have hL := invL_fp (p := p0) (a := q) (by omega)
      have hM := multH_is (p := p0) (k := invL p0 q) (by omega) hX1
      have hPP := prim_pt hd hX1 h2
      rw [← hq_] at hPP
      clear hq_
      cases h3 : isPt p0 st0 X1
      · skip
        have e1 : RIdempotentOf1 p0 st0 X1 = 5 := by unfold RIdempotentOf1; rw [if_pos h0, if_neg h2, if_neg (by rw [h3]; decide)]
        rw [show RIdempotentOf0 p0 st0 X1 = ⟨[], []⟩ from if_neg (by rw [e1]; decide), e1]
        clear e1
        go_enter Tryz.func14, Tryz.ntmps14
        go_wp2_with fail
        refine hcon.mono ?_; rintro e w1 ⟨rfl, hb1⟩
        rw [← hW] at hb1
        clear hW hcon
        have hx0 := hx0.below hb1; have hx1 := hx1.below hb1; have d00 := kept hb1 d00; have d01 := kept hb1 d01; have d10 := kept hb1 d10; have d11 := kept hb1 d11; have hr := hr.below hb1
        rw [h3] at hPP
        have HPP := Lib.hid hPP; clear hPP h3
        clear h2 hT
        go_wp2_with fail
        refine (jtrace_c hd hx0 hx1 hX1).mono ?_; rintro e w22 ⟨rfl, hb22⟩
        have hx0 := hx0.below hb22; have hx1 := hx1.below hb22; have d00 := kept hb22 d00; have d01 := kept hb22 d01; have d10 := kept hb22 d10; have d11 := kept hb22 d11; have hr := hr.below hb22
        rw [← HQ.out]
        have hz0_ : w1.heap.size ≤ (w22).heap.size := (below_le (by repeat (first | exact .refl _ _ | apply bwD | apply bwA | (refine bwS ?_ (by first | omega | simp <;> omega) _) | refine bwC ?_ (by assumption))))
        have hbw0 : Below w.heap.size w w22 := (by repeat (first | exact .refl _ _ | apply bwD | apply bwA | (refine bwS ?_ (by first | omega | simp <;> omega) _) | refine bwC ?_ (by assumption)))
        go_upto_region 7 with fail
        obtain ⟨W0, hW0⟩ : ∃ W, W = w22 := ⟨_, rfl⟩
        rw [← hW0] at hbw0 hx0 hx1 d00 d01 d10 d11 hr hz0_ ⊢
        clear hW0
        go_cut [8] (fun s_ wx => ∃ N d u, s_ = .pointer (some ⟨N, 0, none⟩) ∧ W0.heap.size ≤ N ∧ Bx wx N d u ∧ FrH wx W0.heap.size (.agg #[d, u]) (multH p0 X1 (invL p0 q)) ∧ Below W0.heap.size W0 wx)
        case first =>
          refine region_tq [(0, 1), (1, 1), (2, 1), (4, 0)] (.two 3 5 (.two 5 5 (.two 6 5 (.lin [(false, [(7, 5)]), (false, [(8, 4)])]) 7 5 (.lin [(false, [(6, 4), (8, 4)])])) 7 5 (.lin [(false, [(5, 5)]), (false, [(6, 4), (8, 4)])])) 7 5 (.lin [(false, [(3, 5)]), (false, [(5, 5)]), (false, [(6, 4), (8, 4)])])) (by kernel_rfl) ?_
          refine norm_K fun K hK => ?_
          change wpList _ _ _ [_, _, _, _] _ _
          go_wp2_with fail
          have hbq : Below W0.heap.size W0 W0.drew := (by repeat (first | exact .refl _ _ | apply bwD | apply bwA | (refine bwS ?_ (by first | omega | simp <;> omega) _) | refine bwC ?_ (by assumption)))
          have hx0 := hx0.below hbq; have hx1 := hx1.below hbq; have hr := hr.below hbq; have d00 := kept hbq d00; have d01 := kept hbq d01; have d10 := kept hbq d10; have d11 := kept hbq d11
          have szq : W0.heap.size = W0.drew.heap.size := rfl
          generalize W0.drew = wq at *
          refine hK _ _ ?_; clear hK K
          refine ⟨?_, ?_⟩
          · skip
            refine norm_K fun K hK => ?_
            change wpList _ _ _ [_] _ _
            go_wp2_with fail
            refine (dfield_c).mono ?_; rintro e w41 ⟨rfl, hb41⟩
            have hx0 := hx0.below hb41; have hx1 := hx1.below hb41; have hr := hr.below hb41; have d00 := kept hb41 d00; have d01 := kept hb41 d01; have d10 := kept hb41 d10; have d11 := kept hb41 d11
            have sz41 : wq.heap.size ≤ w41.heap.size := hb41.size
            go_wp2_with fail
            first | (refine hK _ _ ⟨(by repeat (first | exact .refl _ _ | apply bwD | apply bwA | (refine bwS ?_ (by first | omega | simp <;> omega) _) | refine bwC ?_ (by assumption))), ?_⟩; clear hK K) | refine ⟨(by repeat (first | exact .refl _ _ | apply bwD | apply bwA | (refine bwS ?_ (by first | omega | simp <;> omega) _) | refine bwC ?_ (by assumption))), ?_⟩
            refine ⟨?_, ?_⟩
            · skip
              refine norm_K fun K hK => ?_
              change wpList _ _ _ [_] _ _
              go_wp2_with fail
              refine (inv_c (p := p0) (a := q) (by omega) (by omega) (by omega) (by omega)).mono ?_; rintro e w42 ⟨rfl, rfl⟩
              go_wp2_with fail
              first | (refine hK _ _ ⟨(by repeat (first | exact .refl _ _ | apply bwD | apply bwA | (refine bwS ?_ (by first | omega | simp <;> omega) _) | refine bwC ?_ (by assumption))), ?_⟩; clear hK K) | refine ⟨(by repeat (first | exact .refl _ _ | apply bwD | apply bwA | (refine bwS ?_ (by first | omega | simp <;> omega) _) | refine bwC ?_ (by assumption))), ?_⟩
              refine ⟨?_, ?_⟩
              · skip
                refine norm_K fun K hK => ?_
                change wpList _ _ _ [_] _ _
                go_wp2_with fail
                refine (mult_c (k := invL p0 q) hd hx0 hx1 hX1 (by omega) (by omega)).mono ?_; rintro e w43 ⟨v3, rfl, h3_, hb43⟩
                have hx0 := hx0.below hb43; have hx1 := hx1.below hb43; have hr := hr.below hb43; have d00 := kept hb43 d00; have d01 := kept hb43 d01; have d10 := kept hb43 d10; have d11 := kept hb43 d11
                have sz43 : w41.heap.size ≤ w43.heap.size := hb43.size
                obtain ⟨dq, uq, usq, rfl, ⟨g2, k2_, rfl, q2⟩, hu2_, hne2⟩ := id h3_; obtain ⟨g3, k3_, rfl, hq3_⟩ := id hu2_; clear hq3_ hu2_ q2
                go_wp2_with fail
                first | (refine hK _ _ ⟨(by repeat (first | exact .refl _ _ | apply bwD | apply bwA | (refine bwS ?_ (by first | omega | simp <;> omega) _) | refine bwC ?_ (by assumption))), ?_⟩; clear hK K) | refine ⟨(by repeat (first | exact .refl _ _ | apply bwD | apply bwA | (refine bwS ?_ (by first | omega | simp <;> omega) _) | refine bwC ?_ (by assumption))), ?_⟩
                refine norm_K fun K hK => ?_
                change wpList _ _ _ [_] _ _
                go_wp2_with fail
                have hb44 : Below w43.heap.size w43 (w43.alloc (.cells #[.slice none 0 0, .slice none 0 0] 31)) := (by repeat (first | exact .refl _ _ | apply bwD | apply bwA | (refine bwS ?_ (by first | omega | simp <;> omega) _) | refine bwC ?_ (by assumption)))
                have h3_A := h3_; have hbA := hb44
                have hx0 := hx0.below hb44; have hx1 := hx1.below hb44; have hr := hr.below hb44; have d00 := kept hb44 d00; have d01 := kept hb44 d01; have d10 := kept hb44 d10; have d11 := kept hb44 d11; have h3_ := h3_.below hb44
                have hN : Bx (w43.alloc (.cells #[.slice none 0 0, .slice none 0 0] 31)) w43.heap.size (.slice none 0 0) (.slice none 0 0) := heap_alloc_new _ _
                have sz44 : w43.heap.size + 1 = (w43.alloc (.cells #[.slice none 0 0, .slice none 0 0] 31)).heap.size := by simp
                go_wp2_with fail
                obtain ⟨w44, hw_⟩ : ∃ x, x = (w43.alloc (.cells #[.slice none 0 0, .slice none 0 0] 31)) := ⟨_, rfl⟩
                rw [← hw_] at hb44 sz44 hx0 hx1 hr d00 d01 d10 d11 h3_ hN hbA ⊢; clear hw_
                go_wp2_with fail
                first | (refine hK _ _ ⟨(by repeat (first | exact .refl _ _ | apply bwD | apply bwA | (refine bwS ?_ (by first | omega | simp <;> omega) _) | refine bwC ?_ (by assumption))), ?_⟩; clear hK K) | refine ⟨(by repeat (first | exact .refl _ _ | apply bwD | apply bwA | (refine bwS ?_ (by first | omega | simp <;> omega) _) | refine bwC ?_ (by assumption))), ?_⟩
                refine norm_K fun K hK => ?_
                change wpList _ _ _ [_] _ _
                have rc0 := hN.c0; have rc1 := hN.c1; have rf0 := hN.f0; have rf1 := hN.f1
                go_wp2_with fail
                first | (refine hK _ _ ⟨rfl, ?_⟩; clear hK K) | refine ⟨rfl, ?_⟩
                go_wp2_with fail
                go_meet
                case rel => exact ⟨w43.heap.size, _, _, rfl, by omega, (hN.set0 _).set1 _, (h3_A.below (bwS (p := ⟨w43.heap.size, 1, none⟩) (bwS (p := ⟨w43.heap.size, 0, none⟩) hbA (Nat.le_refl _) _) (Nat.le_refl _) _)).more (by omega), (by repeat (first | exact .refl _ _ | apply bwD | apply bwA | (refine bwS ?_ (by first | omega | simp <;> omega) _) | refine bwC ?_ (by assumption)))⟩
              · skip
                refine norm_K fun K hK => ?_
                change wpList _ _ _ [_] _ _
                go_wp2_with fail
                have hb43 : Below w41.heap.size w41 (w41.alloc (.cells #[.slice none 0 0, .slice none 0 0] 31)) := (by repeat (first | exact .refl _ _ | apply bwD | apply bwA | (refine bwS ?_ (by first | omega | simp <;> omega) _) | refine bwC ?_ (by assumption)))
                have hx0 := hx0.below hb43; have hx1 := hx1.below hb43; have hr := hr.below hb43; have d00 := kept hb43 d00; have d01 := kept hb43 d01; have d10 := kept hb43 d10; have d11 := kept hb43 d11
                have hN : Bx (w41.alloc (.cells #[.slice none 0 0, .slice none 0 0] 31)) w41.heap.size (.slice none 0 0) (.slice none 0 0) := heap_alloc_new _ _
                have sz43 : w41.heap.size + 1 = (w41.alloc (.cells #[.slice none 0 0, .slice none 0 0] 31)).heap.size := by simp
                go_wp2_with fail
                obtain ⟨w43, hw_⟩ : ∃ x, x = (w41.alloc (.cells #[.slice none 0 0, .slice none 0 0] 31)) := ⟨_, rfl⟩
                rw [← hw_] at hb43 sz43 hx0 hx1 hr d00 d01 d10 d11 hN ⊢; clear hw_
                go_wp2_with fail
                first | (refine hK _ _ ⟨(by repeat (first | exact .refl _ _ | apply bwD | apply bwA | (refine bwS ?_ (by first | omega | simp <;> omega) _) | refine bwC ?_ (by assumption))), ?_⟩; clear hK K) | refine ⟨(by repeat (first | exact .refl _ _ | apply bwD | apply bwA | (refine bwS ?_ (by first | omega | simp <;> omega) _) | refine bwC ?_ (by assumption))), ?_⟩
                refine norm_K fun K hK => ?_
                change wpList _ _ _ [_, _] _ _
                go_wp2_with fail
                refine (mult_c (k := invL p0 q) hd hx0 hx1 hX1 (by omega) (by omega)).mono ?_; rintro e w44 ⟨v3, rfl, h3_, hb44⟩
                have hx0 := hx0.below hb44; have hx1 := hx1.below hb44; have hr := hr.below hb44; have d00 := kept hb44 d00; have d01 := kept hb44 d01; have d10 := kept hb44 d10; have d11 := kept hb44 d11; have hN := hN.below hb44
                have sz44 : w43.heap.size ≤ w44.heap.size := hb44.size
                obtain ⟨dq, uq, usq, rfl, ⟨g2, k2_, rfl, q2⟩, hu2_, hne2⟩ := id h3_; obtain ⟨g3, k3_, rfl, hq3_⟩ := id hu2_; clear hq3_ hu2_ q2
                have rc0 := hN.c0; have rc1 := hN.c1; have rf0 := hN.f0; have rf1 := hN.f1
                go_wp2_with fail
                first | (refine hK _ _ ⟨rfl, ?_⟩; clear hK K) | refine ⟨rfl, ?_⟩
                go_wp2_with fail
                go_meet
                case rel => exact ⟨w41.heap.size, _, _, rfl, by omega, (hN.set0 _).set1 _, ((h3_.set_ (p := ⟨w41.heap.size, 0, none⟩) (show w41.heap.size < _ by omega) _).set_ (p := ⟨w41.heap.size, 1, none⟩) (show w41.heap.size < _ by omega) _).more (by omega), (by repeat (first | exact .refl _ _ | apply bwD | apply bwA | (refine bwS ?_ (by first | omega | simp <;> omega) _) | refine bwC ?_ (by assumption)))⟩
            · skip
              refine norm_K fun K hK => ?_
              change wpList _ _ _ [_] _ _
              go_wp2_with fail
              have hb42 : Below w41.heap.size w41 (w41.alloc (.cells #[.slice none 0 0, .slice none 0 0] 31)) := (by repeat (first | exact .refl _ _ | apply bwD | apply bwA | (refine bwS ?_ (by first | omega | simp <;> omega) _) | refine bwC ?_ (by assumption)))
              have hx0 := hx0.below hb42; have hx1 := hx1.below hb42; have hr := hr.below hb42; have d00 := kept hb42 d00; have d01 := kept hb42 d01; have d10 := kept hb42 d10; have d11 := kept hb42 d11
              have hN : Bx (w41.alloc (.cells #[.slice none 0 0, .slice none 0 0] 31)) w41.heap.size (.slice none 0 0) (.slice none 0 0) := heap_alloc_new _ _
              have sz42 : w41.heap.size + 1 = (w41.alloc (.cells #[.slice none 0 0, .slice none 0 0] 31)).heap.size := by simp
              go_wp2_with fail
              obtain ⟨w42, hw_⟩ : ∃ x, x = (w41.alloc (.cells #[.slice none 0 0, .slice none 0 0] 31)) := ⟨_, rfl⟩
              rw [← hw_] at hb42 sz42 hx0 hx1 hr d00 d01 d10 d11 hN ⊢; clear hw_
              go_wp2_with fail
              first | (refine hK _ _ ⟨(by repeat (first | exact .refl _ _ | apply bwD | apply bwA | (refine bwS ?_ (by first | omega | simp <;> omega) _) | refine bwC ?_ (by assumption))), ?_⟩; clear hK K) | refine ⟨(by repeat (first | exact .refl _ _ | apply bwD | apply bwA | (refine bwS ?_ (by first | omega | simp <;> omega) _) | refine bwC ?_ (by assumption))), ?_⟩
              refine norm_K fun K hK => ?_
              change wpList _ _ _ [_] _ _
              go_wp2_with fail
              refine (inv_c (p := p0) (a := q) (by omega) (by omega) (by omega) (by omega)).mono ?_; rintro e w43 ⟨rfl, rfl⟩
              go_wp2_with fail
              first | (refine hK _ _ ⟨(by repeat (first | exact .refl _ _ | apply bwD | apply bwA | (refine bwS ?_ (by first | omega | simp <;> omega) _) | refine bwC ?_ (by assumption))), ?_⟩; clear hK K) | refine ⟨(by repeat (first | exact .refl _ _ | apply bwD | apply bwA | (refine bwS ?_ (by first | omega | simp <;> omega) _) | refine bwC ?_ (by assumption))), ?_⟩
              refine norm_K fun K hK => ?_
              change wpList _ _ _ [_, _] _ _
              go_wp2_with fail
              refine (mult_c (k := invL p0 q) hd hx0 hx1 hX1 (by omega) (by omega)).mono ?_; rintro e w44 ⟨v3, rfl, h3_, hb44⟩
              have hx0 := hx0.below hb44; have hx1 := hx1.below hb44; have hr := hr.below hb44; have d00 := kept hb44 d00; have d01 := kept hb44 d01; have d10 := kept hb44 d10; have d11 := kept hb44 d11; have hN := hN.below hb44
              have sz44 : w42.heap.size ≤ w44.heap.size := hb44.size
              obtain ⟨dq, uq, usq, rfl, ⟨g2, k2_, rfl, q2⟩, hu2_, hne2⟩ := id h3_; obtain ⟨g3, k3_, rfl, hq3_⟩ := id hu2_; clear hq3_ hu2_ q2
              have rc0 := hN.c0; have rc1 := hN.c1; have rf0 := hN.f0; have rf1 := hN.f1
              go_wp2_with fail
              first | (refine hK _ _ ⟨rfl, ?_⟩; clear hK K) | refine ⟨rfl, ?_⟩
              go_wp2_with fail
              go_meet
              case rel => exact ⟨w41.heap.size, _, _, rfl, by omega, (hN.set0 _).set1 _, ((h3_.set_ (p := ⟨w41.heap.size, 0, none⟩) (show w41.heap.size < _ by omega) _).set_ (p := ⟨w41.heap.size, 1, none⟩) (show w41.heap.size < _ by omega) _).more (by omega), (by repeat (first | exact .refl _ _ | apply bwD | apply bwA | (refine bwS ?_ (by first | omega | simp <;> omega) _) | refine bwC ?_ (by assumption)))⟩
          · skip
            refine norm_K fun K hK => ?_
            change wpList _ _ _ [_] _ _
            go_wp2_with fail
            have hb41 : Below wq.heap.size wq (wq.alloc (.cells #[.slice none 0 0, .slice none 0 0] 31)) := (by repeat (first | exact .refl _ _ | apply bwD | apply bwA | (refine bwS ?_ (by first | omega | simp <;> omega) _) | refine bwC ?_ (by assumption)))
            have hx0 := hx0.below hb41; have hx1 := hx1.below hb41; have hr := hr.below hb41; have d00 := kept hb41 d00; have d01 := kept hb41 d01; have d10 := kept hb41 d10; have d11 := kept hb41 d11
            have hN : Bx (wq.alloc (.cells #[.slice none 0 0, .slice none 0 0] 31)) wq.heap.size (.slice none 0 0) (.slice none 0 0) := heap_alloc_new _ _
            have sz41 : wq.heap.size + 1 = (wq.alloc (.cells #[.slice none 0 0, .slice none 0 0] 31)).heap.size := by simp
            go_wp2_with fail
            obtain ⟨w41, hw_⟩ : ∃ x, x = (wq.alloc (.cells #[.slice none 0 0, .slice none 0 0] 31)) := ⟨_, rfl⟩
            rw [← hw_] at hb41 sz41 hx0 hx1 hr d00 d01 d10 d11 hN ⊢; clear hw_
            go_wp2_with fail
            first | (refine hK _ _ ⟨(by repeat (first | exact .refl _ _ | apply bwD | apply bwA | (refine bwS ?_ (by first | omega | simp <;> omega) _) | refine bwC ?_ (by assumption))), ?_⟩; clear hK K) | refine ⟨(by repeat (first | exact .refl _ _ | apply bwD | apply bwA | (refine bwS ?_ (by first | omega | simp <;> omega) _) | refine bwC ?_ (by assumption))), ?_⟩
            refine norm_K fun K hK => ?_
            change wpList _ _ _ [_] _ _
            go_wp2_with fail
            refine (dfield_c).mono ?_; rintro e w42 ⟨rfl, hb42⟩
            have hx0 := hx0.below hb42; have hx1 := hx1.below hb42; have hr := hr.below hb42; have d00 := kept hb42 d00; have d01 := kept hb42 d01; have d10 := kept hb42 d10; have d11 := kept hb42 d11; have hN := hN.below hb42
            have sz42 : w41.heap.size ≤ w42.heap.size := hb42.size
            go_wp2_with fail
            first | (refine hK _ _ ⟨(by repeat (first | exact .refl _ _ | apply bwD | apply bwA | (refine bwS ?_ (by first | omega | simp <;> omega) _) | refine bwC ?_ (by assumption))), ?_⟩; clear hK K) | refine ⟨(by repeat (first | exact .refl _ _ | apply bwD | apply bwA | (refine bwS ?_ (by first | omega | simp <;> omega) _) | refine bwC ?_ (by assumption))), ?_⟩
            refine norm_K fun K hK => ?_
            change wpList _ _ _ [_] _ _
            go_wp2_with fail
            refine (inv_c (p := p0) (a := q) (by omega) (by omega) (by omega) (by omega)).mono ?_; rintro e w43 ⟨rfl, rfl⟩
            go_wp2_with fail
            first | (refine hK _ _ ⟨(by repeat (first | exact .refl _ _ | apply bwD | apply bwA | (refine bwS ?_ (by first | omega | simp <;> omega) _) | refine bwC ?_ (by assumption))), ?_⟩; clear hK K) | refine ⟨(by repeat (first | exact .refl _ _ | apply bwD | apply bwA | (refine bwS ?_ (by first | omega | simp <;> omega) _) | refine bwC ?_ (by assumption))), ?_⟩
            refine norm_K fun K hK => ?_
            change wpList _ _ _ [_, _] _ _
            go_wp2_with fail
            refine (mult_c (k := invL p0 q) hd hx0 hx1 hX1 (by omega) (by omega)).mono ?_; rintro e w44 ⟨v3, rfl, h3_, hb44⟩
            have hx0 := hx0.below hb44; have hx1 := hx1.below hb44; have hr := hr.below hb44; have d00 := kept hb44 d00; have d01 := kept hb44 d01; have d10 := kept hb44 d10; have d11 := kept hb44 d11; have hN := hN.below hb44
            have sz44 : w42.heap.size ≤ w44.heap.size := hb44.size
            obtain ⟨dq, uq, usq, rfl, ⟨g2, k2_, rfl, q2⟩, hu2_, hne2⟩ := id h3_; obtain ⟨g3, k3_, rfl, hq3_⟩ := id hu2_; clear hq3_ hu2_ q2
            have rc0 := hN.c0; have rc1 := hN.c1; have rf0 := hN.f0; have rf1 := hN.f1
            go_wp2_with fail
            first | (refine hK _ _ ⟨rfl, ?_⟩; clear hK K) | refine ⟨rfl, ?_⟩
            go_wp2_with fail
            go_meet
            case rel => exact ⟨wq.heap.size, _, _, rfl, by omega, (hN.set0 _).set1 _, ((h3_.set_ (p := ⟨wq.heap.size, 0, none⟩) (show wq.heap.size < _ by omega) _).set_ (p := ⟨wq.heap.size, 1, none⟩) (show wq.heap.size < _ by omega) _).more (by omega), (by repeat (first | exact .refl _ _ | apply bwD | apply bwA | (refine bwS ?_ (by first | omega | simp <;> omega) _) | refine bwC ?_ (by assumption)))⟩
        case' rest => skip
        obtain ⟨N0, dN, uN, rfl, hN0, hN, hF, hbC⟩ := hcut
        have hx0 := hx0.below hbC; have hx1 := hx1.below hbC; have hr := hr.below hbC; have d00 := kept hbC d00; have d01 := kept hbC d01; have d10 := kept hbC d10; have d11 := kept hbC d11
        have n0 := hN.c0; have n1 := hN.c1
        obtain ⟨d1_, u1_, us1, e1_, ⟨g1, k1_, rfl, q1⟩, hu1, hne1⟩ := id hF; cases e1_; obtain ⟨g2, k2_, rfl, hq_⟩ := id hu1; clear hq_ q1 hN
        have hul : us1.length = 3 := by obtain ⟨_, _, _, _, h, _⟩ := hu1; exact h
        have HU := Lib.hid hul; clear hul
        go_wp2_with fail
        refine (prim_c hd hx0 hF.hv hM).mono ?_; rintro e w21 ⟨rfl, hb21⟩
        have hx0 := hx0.below hb21; have hx1 := hx1.below hb21; have hr := hr.below hb21; have d00 := kept hb21 d00; have d01 := kept hb21 d01; have d10 := kept hb21 d10; have d11 := kept hb21 d11; have hF := hF.below hb21; have n0 := kept hb21 n0; have n1 := kept hb21 n1
        rw [HPP.out]
        have rc0 := hr.c0; have rc1 := hr.c1; have rf0 := hr.f0; have rf1 := hr.f1
        go_wp2_with fail
        refine bodyPost_ret (v := .tuple #[.agg #[.slice none 0 0, .slice none 0 0], .int .i64 5]) (by simp [results, Tryz.results14, go_sem, rc0, rc1]) rfl ⟨_, rfl, .inl ⟨rfl, rfl⟩, ?_⟩
        exact bwS (bwS (by repeat (first | exact .refl _ _ | apply bwD | apply bwA | (refine bwS ?_ (by first | omega | simp <;> omega) _) | refine bwC ?_ (by assumption))) (by first | omega | simp <;> omega) _) (by first | omega | simp <;> omega) _
      · skip
        have e1 : RIdempotentOf1 p0 st0 X1 = 0 := by unfold RIdempotentOf1; rw [if_pos h0, if_neg h2, if_pos h3]
        rw [show RIdempotentOf0 p0 st0 X1 = multH p0 X1 (invL p0 (traceH p0 X1)) from if_pos e1, e1]
        clear e1
        rw [← HQ.out]
        go_enter Tryz.func14, Tryz.ntmps14
        go_wp2_with fail
        refine hcon.mono ?_; rintro e w1 ⟨rfl, hb1⟩
        rw [← hW] at hb1
        clear hW hcon
        have hx0 := hx0.below hb1; have hx1 := hx1.below hb1; have d00 := kept hb1 d00; have d01 := kept hb1 d01; have d10 := kept hb1 d10; have d11 := kept hb1 d11; have hr := hr.below hb1
        rw [h3] at hPP
        have HPP := Lib.hid hPP; clear hPP h3
        clear h2 hT
        go_wp2_with fail
        refine (jtrace_c hd hx0 hx1 hX1).mono ?_; rintro e w22 ⟨rfl, hb22⟩
        have hx0 := hx0.below hb22; have hx1 := hx1.below hb22; have d00 := kept hb22 d00; have d01 := kept hb22 d01; have d10 := kept hb22 d10; have d11 := kept hb22 d11; have hr := hr.below hb22
        rw [← HQ.out]
        have hz0_ : w1.heap.size ≤ (w22).heap.size := (below_le (by repeat (first | exact .refl _ _ | apply bwD | apply bwA | (refine bwS ?_ (by first | omega | simp <;> omega) _) | refine bwC ?_ (by assumption))))
        have hbw0 : Below w.heap.size w w22 := (by repeat (first | exact .refl _ _ | apply bwD | apply bwA | (refine bwS ?_ (by first | omega | simp <;> omega) _) | refine bwC ?_ (by assumption)))
        go_upto_region 7 with fail
        obtain ⟨W0, hW0⟩ : ∃ W, W = w22 := ⟨_, rfl⟩
        rw [← hW0] at hbw0 hx0 hx1 d00 d01 d10 d11 hr hz0_ ⊢
        clear hW0
        go_cut [8] (fun s_ wx => ∃ N d u, s_ = .pointer (some ⟨N, 0, none⟩) ∧ W0.heap.size ≤ N ∧ Bx wx N d u ∧ FrH wx W0.heap.size (.agg #[d, u]) (multH p0 X1 (invL p0 q)) ∧ Below W0.heap.size W0 wx)
        case first =>
          refine region_tq [(0, 1), (1, 1), (2, 1), (4, 0)] (.two 3 5 (.two 5 5 (.two 6 5 (.lin [(false, [(7, 5)]), (false, [(8, 4)])]) 7 5 (.lin [(false, [(6, 4), (8, 4)])])) 7 5 (.lin [(false, [(5, 5)]), (false, [(6, 4), (8, 4)])])) 7 5 (.lin [(false, [(3, 5)]), (false, [(5, 5)]), (false, [(6, 4), (8, 4)])])) (by kernel_rfl) ?_
          refine norm_K fun K hK => ?_
          change wpList _ _ _ [_, _, _, _] _ _
          go_wp2_with fail
          have hbq : Below W0.heap.size W0 W0.drew := (by repeat (first | exact .refl _ _ | apply bwD | apply bwA | (refine bwS ?_ (by first | omega | simp <;> omega) _) | refine bwC ?_ (by assumption)))
          have hx0 := hx0.below hbq; have hx1 := hx1.below hbq; have hr := hr.below hbq; have d00 := kept hbq d00; have d01 := kept hbq d01; have d10 := kept hbq d10; have d11 := kept hbq d11
          have szq : W0.heap.size = W0.drew.heap.size := rfl
          generalize W0.drew = wq at *
          refine hK _ _ ?_; clear hK K
          refine ⟨?_, ?_⟩
          · skip
            refine norm_K fun K hK => ?_
            change wpList _ _ _ [_] _ _
            go_wp2_with fail
            refine (dfield_c).mono ?_; rintro e w41 ⟨rfl, hb41⟩
            have hx0 := hx0.below hb41; have hx1 := hx1.below hb41; have hr := hr.below hb41; have d00 := kept hb41 d00; have d01 := kept hb41 d01; have d10 := kept hb41 d10; have d11 := kept hb41 d11
            have sz41 : wq.heap.size ≤ w41.heap.size := hb41.size
            go_wp2_with fail
            first | (refine hK _ _ ⟨(by repeat (first | exact .refl _ _ | apply bwD | apply bwA | (refine bwS ?_ (by first | omega | simp <;> omega) _) | refine bwC ?_ (by assumption))), ?_⟩; clear hK K) | refine ⟨(by repeat (first | exact .refl _ _ | apply bwD | apply bwA | (refine bwS ?_ (by first | omega | simp <;> omega) _) | refine bwC ?_ (by assumption))), ?_⟩
            refine ⟨?_, ?_⟩
            · skip
              refine norm_K fun K hK => ?_
              change wpList _ _ _ [_] _ _
              go_wp2_with fail
              refine (inv_c (p := p0) (a := q) (by omega) (by omega) (by omega) (by omega)).mono ?_; rintro e w42 ⟨rfl, rfl⟩
              go_wp2_with fail
              first | (refine hK _ _ ⟨(by repeat (first | exact .refl _ _ | apply bwD | apply bwA | (refine bwS ?_ (by first | omega | simp <;> omega) _) | refine bwC ?_ (by assumption))), ?_⟩; clear hK K) | refine ⟨(by repeat (first | exact .refl _ _ | apply bwD | apply bwA | (refine bwS ?_ (by first | omega | simp <;> omega) _) | refine bwC ?_ (by assumption))), ?_⟩
              refine ⟨?_, ?_⟩
              · skip
                refine norm_K fun K hK => ?_
                change wpList _ _ _ [_] _ _
                go_wp2_with fail
                refine (mult_c (k := invL p0 q) hd hx0 hx1 hX1 (by omega) (by omega)).mono ?_; rintro e w43 ⟨v3, rfl, h3_, hb43⟩
                have hx0 := hx0.below hb43; have hx1 := hx1.below hb43; have hr := hr.below hb43; have d00 := kept hb43 d00; have d01 := kept hb43 d01; have d10 := kept hb43 d10; have d11 := kept hb43 d11
                have sz43 : w41.heap.size ≤ w43.heap.size := hb43.size
                obtain ⟨dq, uq, usq, rfl, ⟨g2, k2_, rfl, q2⟩, hu2_, hne2⟩ := id h3_; obtain ⟨g3, k3_, rfl, hq3_⟩ := id hu2_; clear hq3_ hu2_ q2
                go_wp2_with fail
                first | (refine hK _ _ ⟨(by repeat (first | exact .refl _ _ | apply bwD | apply bwA | (refine bwS ?_ (by first | omega | simp <;> omega) _) | refine bwC ?_ (by assumption))), ?_⟩; clear hK K) | refine ⟨(by repeat (first | exact .refl _ _ | apply bwD | apply bwA | (refine bwS ?_ (by first | omega | simp <;> omega) _) | refine bwC ?_ (by assumption))), ?_⟩
                refine norm_K fun K hK => ?_
                change wpList _ _ _ [_] _ _
                go_wp2_with fail
                have hb44 : Below w43.heap.size w43 (w43.alloc (.cells #[.slice none 0 0, .slice none 0 0] 31)) := (by repeat (first | exact .refl _ _ | apply bwD | apply bwA | (refine bwS ?_ (by first | omega | simp <;> omega) _) | refine bwC ?_ (by assumption)))
                have h3_A := h3_; have hbA := hb44
                have hx0 := hx0.below hb44; have hx1 := hx1.below hb44; have hr := hr.below hb44; have d00 := kept hb44 d00; have d01 := kept hb44 d01; have d10 := kept hb44 d10; have d11 := kept hb44 d11; have h3_ := h3_.below hb44
                have hN : Bx (w43.alloc (.cells #[.slice none 0 0, .slice none 0 0] 31)) w43.heap.size (.slice none 0 0) (.slice none 0 0) := heap_alloc_new _ _
                have sz44 : w43.heap.size + 1 = (w43.alloc (.cells #[.slice none 0 0, .slice none 0 0] 31)).heap.size := by simp
                go_wp2_with fail
                obtain ⟨w44, hw_⟩ : ∃ x, x = (w43.alloc (.cells #[.slice none 0 0, .slice none 0 0] 31)) := ⟨_, rfl⟩
                rw [← hw_] at hb44 sz44 hx0 hx1 hr d00 d01 d10 d11 h3_ hN hbA ⊢; clear hw_
                go_wp2_with fail
                first | (refine hK _ _ ⟨(by repeat (first | exact .refl _ _ | apply bwD | apply bwA | (refine bwS ?_ (by first | omega | simp <;> omega) _) | refine bwC ?_ (by assumption))), ?_⟩; clear hK K) | refine ⟨(by repeat (first | exact .refl _ _ | apply bwD | apply bwA | (refine bwS ?_ (by first | omega | simp <;> omega) _) | refine bwC ?_ (by assumption))), ?_⟩
                refine norm_K fun K hK => ?_
                change wpList _ _ _ [_] _ _
                have rc0 := hN.c0; have rc1 := hN.c1; have rf0 := hN.f0; have rf1 := hN.f1
                go_wp2_with fail
                first | (refine hK _ _ ⟨rfl, ?_⟩; clear hK K) | refine ⟨rfl, ?_⟩
                go_wp2_with fail
                go_meet
                case rel => exact ⟨w43.heap.size, _, _, rfl, by omega, (hN.set0 _).set1 _, (h3_A.below (bwS (p := ⟨w43.heap.size, 1, none⟩) (bwS (p := ⟨w43.heap.size, 0, none⟩) hbA (Nat.le_refl _) _) (Nat.le_refl _) _)).more (by omega), (by repeat (first | exact .refl _ _ | apply bwD | apply bwA | (refine bwS ?_ (by first | omega | simp <;> omega) _) | refine bwC ?_ (by assumption)))⟩
              · skip
                refine norm_K fun K hK => ?_
                change wpList _ _ _ [_] _ _
                go_wp2_with fail
                have hb43 : Below w41.heap.size w41 (w41.alloc (.cells #[.slice none 0 0, .slice none 0 0] 31)) := (by repeat (first | exact .refl _ _ | apply bwD | apply bwA | (refine bwS ?_ (by first | omega | simp <;> omega) _) | refine bwC ?_ (by assumption)))
                have hx0 := hx0.below hb43; have hx1 := hx1.below hb43; have hr := hr.below hb43; have d00 := kept hb43 d00; have d01 := kept hb43 d01; have d10 := kept hb43 d10; have d11 := kept hb43 d11
                have hN : Bx (w41.alloc (.cells #[.slice none 0 0, .slice none 0 0] 31)) w41.heap.size (.slice none 0 0) (.slice none 0 0) := heap_alloc_new _ _
                have sz43 : w41.heap.size + 1 = (w41.alloc (.cells #[.slice none 0 0, .slice none 0 0] 31)).heap.size := by simp
                go_wp2_with fail
                obtain ⟨w43, hw_⟩ : ∃ x, x = (w41.alloc (.cells #[.slice none 0 0, .slice none 0 0] 31)) := ⟨_, rfl⟩
                rw [← hw_] at hb43 sz43 hx0 hx1 hr d00 d01 d10 d11 hN ⊢; clear hw_
                go_wp2_with fail
                first | (refine hK _ _ ⟨(by repeat (first | exact .refl _ _ | apply bwD | apply bwA | (refine bwS ?_ (by first | omega | simp <;> omega) _) | refine bwC ?_ (by assumption))), ?_⟩; clear hK K) | refine ⟨(by repeat (first | exact .refl _ _ | apply bwD | apply bwA | (refine bwS ?_ (by first | omega | simp <;> omega) _) | refine bwC ?_ (by assumption))), ?_⟩
                refine norm_K fun K hK => ?_
                change wpList _ _ _ [_, _] _ _
                go_wp2_with fail
                refine (mult_c (k := invL p0 q) hd hx0 hx1 hX1 (by omega) (by omega)).mono ?_; rintro e w44 ⟨v3, rfl, h3_, hb44⟩
                have hx0 := hx0.below hb44; have hx1 := hx1.below hb44; have hr := hr.below hb44; have d00 := kept hb44 d00; have d01 := kept hb44 d01; have d10 := kept hb44 d10; have d11 := kept hb44 d11; have hN := hN.below hb44
                have sz44 : w43.heap.size ≤ w44.heap.size := hb44.size
                obtain ⟨dq, uq, usq, rfl, ⟨g2, k2_, rfl, q2⟩, hu2_, hne2⟩ := id h3_; obtain ⟨g3, k3_, rfl, hq3_⟩ := id hu2_; clear hq3_ hu2_ q2
                have rc0 := hN.c0; have rc1 := hN.c1; have rf0 := hN.f0; have rf1 := hN.f1
                go_wp2_with fail
                first | (refine hK _ _ ⟨rfl, ?_⟩; clear hK K) | refine ⟨rfl, ?_⟩
                go_wp2_with fail
                go_meet
                case rel => exact ⟨w41.heap.size, _, _, rfl, by omega, (hN.set0 _).set1 _, ((h3_.set_ (p := ⟨w41.heap.size, 0, none⟩) (show w41.heap.size < _ by omega) _).set_ (p := ⟨w41.heap.size, 1, none⟩) (show w41.heap.size < _ by omega) _).more (by omega), (by repeat (first | exact .refl _ _ | apply bwD | apply bwA | (refine bwS ?_ (by first | omega | simp <;> omega) _) | refine bwC ?_ (by assumption)))⟩
            · skip
              refine norm_K fun K hK => ?_
              change wpList _ _ _ [_] _ _
              go_wp2_with fail
              have hb42 : Below w41.heap.size w41 (w41.alloc (.cells #[.slice none 0 0, .slice none 0 0] 31)) := (by repeat (first | exact .refl _ _ | apply bwD | apply bwA | (refine bwS ?_ (by first | omega | simp <;> omega) _) | refine bwC ?_ (by assumption)))
              have hx0 := hx0.below hb42; have hx1 := hx1.below hb42; have hr := hr.below hb42; have d00 := kept hb42 d00; have d01 := kept hb42 d01; have d10 := kept hb42 d10; have d11 := kept hb42 d11
              have hN : Bx (w41.alloc (.cells #[.slice none 0 0, .slice none 0 0] 31)) w41.heap.size (.slice none 0 0) (.slice none 0 0) := heap_alloc_new _ _
              have sz42 : w41.heap.size + 1 = (w41.alloc (.cells #[.slice none 0 0, .slice none 0 0] 31)).heap.size := by simp
              go_wp2_with fail
              obtain ⟨w42, hw_⟩ : ∃ x, x = (w41.alloc (.cells #[.slice none 0 0, .slice none 0 0] 31)) := ⟨_, rfl⟩
              rw [← hw_] at hb42 sz42 hx0 hx1 hr d00 d01 d10 d11 hN ⊢; clear hw_
              go_wp2_with fail
              first | (refine hK _ _ ⟨(by repeat (first | exact .refl _ _ | apply bwD | apply bwA | (refine bwS ?_ (by first | omega | simp <;> omega) _) | refine bwC ?_ (by assumption))), ?_⟩; clear hK K) | refine ⟨(by repeat (first | exact .refl _ _ | apply bwD | apply bwA | (refine bwS ?_ (by first | omega | simp <;> omega) _) | refine bwC ?_ (by assumption))), ?_⟩
              refine norm_K fun K hK => ?_
              change wpList _ _ _ [_] _ _
              go_wp2_with fail
              refine (inv_c (p := p0) (a := q) (by omega) (by omega) (by omega) (by omega)).mono ?_; rintro e w43 ⟨rfl, rfl⟩
              go_wp2_with fail
              first | (refine hK _ _ ⟨(by repeat (first | exact .refl _ _ | apply bwD | apply bwA | (refine bwS ?_ (by first | omega | simp <;> omega) _) | refine bwC ?_ (by assumption))), ?_⟩; clear hK K) | refine ⟨(by repeat (first | exact .refl _ _ | apply bwD | apply bwA | (refine bwS ?_ (by first | omega | simp <;> omega) _) | refine bwC ?_ (by assumption))), ?_⟩
              refine norm_K fun K hK => ?_
              change wpList _ _ _ [_, _] _ _
              go_wp2_with fail
              refine (mult_c (k := invL p0 q) hd hx0 hx1 hX1 (by omega) (by omega)).mono ?_; rintro e w44 ⟨v3, rfl, h3_, hb44⟩
              have hx0 := hx0.below hb44; have hx1 := hx1.below hb44; have hr := hr.below hb44; have d00 := kept hb44 d00; have d01 := kept hb44 d01; have d10 := kept hb44 d10; have d11 := kept hb44 d11; have hN := hN.below hb44
              have sz44 : w42.heap.size ≤ w44.heap.size := hb44.size
              obtain ⟨dq, uq, usq, rfl, ⟨g2, k2_, rfl, q2⟩, hu2_, hne2⟩ := id h3_; obtain ⟨g3, k3_, rfl, hq3_⟩ := id hu2_; clear hq3_ hu2_ q2
              have rc0 := hN.c0; have rc1 := hN.c1; have rf0 := hN.f0; have rf1 := hN.f1
              go_wp2_with fail
              first | (refine hK _ _ ⟨rfl, ?_⟩; clear hK K) | refine ⟨rfl, ?_⟩
              go_wp2_with fail
              go_meet
              case rel => exact ⟨w41.heap.size, _, _, rfl, by omega, (hN.set0 _).set1 _, ((h3_.set_ (p := ⟨w41.heap.size, 0, none⟩) (show w41.heap.size < _ by omega) _).set_ (p := ⟨w41.heap.size, 1, none⟩) (show w41.heap.size < _ by omega) _).more (by omega), (by repeat (first | exact .refl _ _ | apply bwD | apply bwA | (refine bwS ?_ (by first | omega | simp <;> omega) _) | refine bwC ?_ (by assumption)))⟩
          · skip
            refine norm_K fun K hK => ?_
            change wpList _ _ _ [_] _ _
            go_wp2_with fail
            have hb41 : Below wq.heap.size wq (wq.alloc (.cells #[.slice none 0 0, .slice none 0 0] 31)) := (by repeat (first | exact .refl _ _ | apply bwD | apply bwA | (refine bwS ?_ (by first | omega | simp <;> omega) _) | refine bwC ?_ (by assumption)))
            have hx0 := hx0.below hb41; have hx1 := hx1.below hb41; have hr := hr.below hb41; have d00 := kept hb41 d00; have d01 := kept hb41 d01; have d10 := kept hb41 d10; have d11 := kept hb41 d11
            have hN : Bx (wq.alloc (.cells #[.slice none 0 0, .slice none 0 0] 31)) wq.heap.size (.slice none 0 0) (.slice none 0 0) := heap_alloc_new _ _
            have sz41 : wq.heap.size + 1 = (wq.alloc (.cells #[.slice none 0 0, .slice none 0 0] 31)).heap.size := by simp
            go_wp2_with fail
            obtain ⟨w41, hw_⟩ : ∃ x, x = (wq.alloc (.cells #[.slice none 0 0, .slice none 0 0] 31)) := ⟨_, rfl⟩
            rw [← hw_] at hb41 sz41 hx0 hx1 hr d00 d01 d10 d11 hN ⊢; clear hw_
            go_wp2_with fail
            first | (refine hK _ _ ⟨(by repeat (first | exact .refl _ _ | apply bwD | apply bwA | (refine bwS ?_ (by first | omega | simp <;> omega) _) | refine bwC ?_ (by assumption))), ?_⟩; clear hK K) | refine ⟨(by repeat (first | exact .refl _ _ | apply bwD | apply bwA | (refine bwS ?_ (by first | omega | simp <;> omega) _) | refine bwC ?_ (by assumption))), ?_⟩
            refine norm_K fun K hK => ?_
            change wpList _ _ _ [_] _ _
            go_wp2_with fail
            refine (dfield_c).mono ?_; rintro e w42 ⟨rfl, hb42⟩
            have hx0 := hx0.below hb42; have hx1 := hx1.below hb42; have hr := hr.below hb42; have d00 := kept hb42 d00; have d01 := kept hb42 d01; have d10 := kept hb42 d10; have d11 := kept hb42 d11; have hN := hN.below hb42
            have sz42 : w41.heap.size ≤ w42.heap.size := hb42.size
            go_wp2_with fail
            first | (refine hK _ _ ⟨(by repeat (first | exact .refl _ _ | apply bwD | apply bwA | (refine bwS ?_ (by first | omega | simp <;> omega) _) | refine bwC ?_ (by assumption))), ?_⟩; clear hK K) | refine ⟨(by repeat (first | exact .refl _ _ | apply bwD | apply bwA | (refine bwS ?_ (by first | omega | simp <;> omega) _) | refine bwC ?_ (by assumption))), ?_⟩
            refine norm_K fun K hK => ?_
            change wpList _ _ _ [_] _ _
            go_wp2_with fail
            refine (inv_c (p := p0) (a := q) (by omega) (by omega) (by omega) (by omega)).mono ?_; rintro e w43 ⟨rfl, rfl⟩
            go_wp2_with fail
            first | (refine hK _ _ ⟨(by repeat (first | exact .refl _ _ | apply bwD | apply bwA | (refine bwS ?_ (by first | omega | simp <;> omega) _) | refine bwC ?_ (by assumption))), ?_⟩; clear hK K) | refine ⟨(by repeat (first | exact .refl _ _ | apply bwD | apply bwA | (refine bwS ?_ (by first | omega | simp <;> omega) _) | refine bwC ?_ (by assumption))), ?_⟩
            refine norm_K fun K hK => ?_
            change wpList _ _ _ [_, _] _ _
            go_wp2_with fail
            refine (mult_c (k := invL p0 q) hd hx0 hx1 hX1 (by omega) (by omega)).mono ?_; rintro e w44 ⟨v3, rfl, h3_, hb44⟩
            have hx0 := hx0.below hb44; have hx1 := hx1.below hb44; have hr := hr.below hb44; have d00 := kept hb44 d00; have d01 := kept hb44 d01; have d10 := kept hb44 d10; have d11 := kept hb44 d11; have hN := hN.below hb44
            have sz44 : w42.heap.size ≤ w44.heap.size := hb44.size
            obtain ⟨dq, uq, usq, rfl, ⟨g2, k2_, rfl, q2⟩, hu2_, hne2⟩ := id h3_; obtain ⟨g3, k3_, rfl, hq3_⟩ := id hu2_; clear hq3_ hu2_ q2
            have rc0 := hN.c0; have rc1 := hN.c1; have rf0 := hN.f0; have rf1 := hN.f1
            go_wp2_with fail
            first | (refine hK _ _ ⟨rfl, ?_⟩; clear hK K) | refine ⟨rfl, ?_⟩
            go_wp2_with fail
            go_meet
            case rel => exact ⟨wq.heap.size, _, _, rfl, by omega, (hN.set0 _).set1 _, ((h3_.set_ (p := ⟨wq.heap.size, 0, none⟩) (show wq.heap.size < _ by omega) _).set_ (p := ⟨wq.heap.size, 1, none⟩) (show wq.heap.size < _ by omega) _).more (by omega), (by repeat (first | exact .refl _ _ | apply bwD | apply bwA | (refine bwS ?_ (by first | omega | simp <;> omega) _) | refine bwC ?_ (by assumption)))⟩
        case' rest => skip
        obtain ⟨N0, dN, uN, rfl, hN0, hN, hF, hbC⟩ := hcut
        have hx0 := hx0.below hbC; have hx1 := hx1.below hbC; have hr := hr.below hbC; have d00 := kept hbC d00; have d01 := kept hbC d01; have d10 := kept hbC d10; have d11 := kept hbC d11
        have n0 := hN.c0; have n1 := hN.c1
        obtain ⟨d1_, u1_, us1, e1_, ⟨g1, k1_, rfl, q1⟩, hu1, hne1⟩ := id hF; cases e1_; obtain ⟨g2, k2_, rfl, hq_⟩ := id hu1; clear hq_ q1 hN
        have hul : us1.length = 3 := by obtain ⟨_, _, _, _, h, _⟩ := hu1; exact h
        have HU := Lib.hid hul; clear hul
        go_wp2_with fail
        refine (prim_c hd hx0 hF.hv hM).mono ?_; rintro e w21 ⟨rfl, hb21⟩
        have hx0 := hx0.below hb21; have hx1 := hx1.below hb21; have hr := hr.below hb21; have d00 := kept hb21 d00; have d01 := kept hb21 d01; have d10 := kept hb21 d10; have d11 := kept hb21 d11; have hF := hF.below hb21; have n0 := kept hb21 n0; have n1 := kept hb21 n1
        rw [HPP.out]
        have hu3 : (multH p0 X1 (invL p0 q)).up.length = 3 := (isH_parts (hM)).2.2.1
        have hu4 : (multH p0 X1 (invL p0 q)).dg.length = 3 := (isH_parts (hM)).1
        have hz1_ : w.heap.size + 1 + 1 + 1 + 1 ≤ w1.heap.size := by have := hb1.size; have := HWs.out; omega
        have rc0 := hr.c0; have rc1 := hr.c1; have rf0 := hr.f0; have rf1 := hr.f1
        go_wp2_with fail
        refine bodyPost_ret (v := .tuple #[.agg #[.slice (some ⟨g1, 0, none⟩) (multH p0 X1 (invL p0 q)).dg.length k1_, .slice (some ⟨g2, 0, none⟩) us1.length k2_], .int .i64 0]) (by simp [results, Tryz.results14, go_sem, rc0, rc1, HU.out, hu3, hu4]) rfl ⟨_, rfl, .inr ?_, ?_⟩
        · exact ((hF.set_ (by first | omega | simp <;> omega) _).set_ (by first | omega | simp <;> omega) _).more (by omega)
        · exact bwS (bwS (by repeat (first | exact .refl _ _ | apply bwD | apply bwA | (refine bwS ?_ (by first | omega | simp <;> omega) _) | refine bwC ?_ (by assumption))) (by first | omega | simp <;> omega) _) (by first | omega | simp <;> omega) _
  · have e1 : RIdempotentOf1 p0 st0 X1 = chkH p0 st0 [X1] := by first | (unfold RIdempotentOf1; rw [if_neg h0]; done) | rfl
    rw [show RIdempotentOf0 p0 st0 X1 = ⟨[], []⟩ from if_neg (by rw [e1]; exact h0), e1]; clear e1
    obtain ⟨k, hk⟩ : ∃ k, k = chkH p0 st0 [X1] := ⟨_, rfl⟩
    rw [← hk] at h0 hcon ⊢
    clear hk
    have hne : (k == 0) = false := by simpa using h0
    go_enter Tryz.func14, Tryz.ntmps14
    go_wp2_with fail
    refine hcon.mono ?_; rintro e w1 ⟨rfl, hb1⟩
    rw [← hW] at hb1
    clear hW hcon
    have hr := hr.below hb1
    have rc0 := hr.c0; have rc1 := hr.c1; have rf0 := hr.f0; have rf1 := hr.f1
    go_wp2_with fail
    refine bodyPost_ret (v := .tuple #[.agg #[.slice none 0 0, .slice none 0 0], .int .i64 k]) (by simp [results, Tryz.results14, go_sem, rc0, rc1]) rfl ⟨_, rfl, .inl ⟨rfl, rfl⟩, ?_⟩
    exact bwS (bwS (by repeat (first | exact .refl _ _ | apply bwD | apply bwA | (refine bwS ?_ (by first | omega | simp <;> omega) _) | refine bwC ?_ (by assumption))) (by first | omega | simp <;> omega) _) (by first | omega | simp <;> omega) _
set_option maxHeartbeats 2000000 in
set_option maxRecDepth 100000 in
theorem sIdempotentOf_c {p0 : Int} {x0 : Value} {st0 : List Int} {x1 : Value} {X1 : Her} {w : World} (hx0 : El w x0 st0) (hm0 : st0.length ≤ 1048576) (hx1 : Hv w x1 X1) (hz1 : Hsz X1) :
    Calls Tryz.prog 15 #[.agg #[.int .i64 p0, x0], x1] w fun e w' => ∃ v0, e = .returned (.tuple #[v0, .int .i64 (RIdempotentOf1 p0 st0 X1)]) ∧ OwH w' w.heap.size v0 (RIdempotentOf0 p0 st0 X1) ∧ Below w.heap.size w w' := by
  obtain ⟨a0, c0, rfl, _⟩ := id hx0.op
  obtain ⟨dv1, uv1, rfl, hd1_, hu1_⟩ := id hx1; obtain ⟨a1, c1, rfl, _⟩ := id hd1_.op; obtain ⟨b1, e1, rfl, _⟩ := id hu1_; clear hd1_ hu1_
  obtain ⟨W, hW⟩ : ∃ W, W = ((((w.alloc (.cells #[.int .i64 p0, .slice a0 st0.length c0] 26)).alloc (.cells #[.slice a1 X1.dg.length c1, .slice b1 X1.up.length e1] 31)).alloc (.cells #[.slice none 0 0, .slice none 0 0] 31)).alloc (.cells #[.slice a1 X1.dg.length c1, .slice b1 X1.up.length e1] 31)) := ⟨_, rfl⟩
  have hbW : Below w.heap.size w W := by rw [hW]; exact (by repeat (first | exact .refl _ _ | apply bwD | apply bwA | (refine bwS ?_ (by first | omega | simp <;> omega) _) | refine bwC ?_ (by assumption)))
  have hx0 := hx0.below hbW
  have hx1 := hx1.below hbW
  have d00 : W.cell? ⟨w.heap.size, 0, none⟩ = some (.int .i64 p0) := by rw [hW]; simp [go_sem]
  have d01 : W.cell? ⟨w.heap.size, 1, none⟩ = some (.slice a0 st0.length c0) := by rw [hW]; simp [go_sem]
  have d10 : W.cell? ⟨w.heap.size + 1, 0, none⟩ = some (.slice a1 X1.dg.length c1) := by rw [hW]; simp [go_sem]
  have d11 : W.cell? ⟨w.heap.size + 1, 1, none⟩ = some (.slice b1 X1.up.length e1) := by rw [hW]; simp [go_sem]
  have hr : Bx W (w.heap.size + 1 + 1) (.slice none 0 0) (.slice none 0 0) := by rw [hW]; exact Bx.below (by unfold Bx; rw [show w.heap.size + 1 + 1 = ((w.alloc (.cells #[.int .i64 p0, .slice a0 st0.length c0] 26)).alloc (.cells #[.slice a1 X1.dg.length c1, .slice b1 X1.up.length e1] 31)).heap.size by simp]; exact heap_alloc_new _ _) (by repeat (first | exact .refl _ _ | apply bwD | apply bwA | (refine bwS ?_ (by first | omega | simp <;> omega) _) | refine bwC ?_ (by assumption)))
  have hWs : W.heap.size = w.heap.size + 1 + 1 + 1 + 1 := by rw [hW]; simp
  have gl : Lh W (.slice (some ⟨w.heap.size + 1 + 1 + 1, 0, none⟩) 1 1) [X1] := Lh.one hx1 (by rw [hW]; simp [go_sem]) (by rw [hW]; simp [go_sem])
  have hcon := sl17p_c (p := p0) hx0 hm0 gl (by intro X hX; simp at hX; subst hX; exact hz1) (by simp)
  have HWs := Lib.hid hWs; clear hWs
  rw [hW] at hcon
  by_cases h0 : chkH p0 st0 [X1] = 0
  · skip
    obtain ⟨hd, hall⟩ := chkH_pos h0
    have hX1 : isH p0 (sz st0.length) X1 = true := by simp at hall; exact hall
    clear hall
    have hp1 := hd.hp.lo; have hp2 := hd.hp.hi
    have hT := trace_fp (p := p0) (X := X1) (by omega)
    obtain ⟨q, hq_⟩ : ∃ q, q = traceH p0 X1 := ⟨_, rfl⟩
    have HQ := Lib.hid hq_
    by_cases h2 : traceH p0 X1 = 0
    · have h2q : q = 0 := hq_.trans h2
      clear hq_
      rw [pts_one h0] at hcon
      cases h3 : isPt p0 st0 X1
      · rw [h3] at hcon
        have e1 : RIdempotentOf1 p0 st0 X1 = 5 := by unfold RIdempotentOf1; rw [if_pos h0, if_pos h2]
        rw [show RIdempotentOf0 p0 st0 X1 = ⟨[], []⟩ from if_neg (by rw [e1]; decide), e1]
        clear e1
        go_enter Tryz.func15, Tryz.ntmps15
        go_wp2_with fail
        refine hcon.mono ?_; rintro e w1 ⟨rfl, hb1⟩
        rw [← hW] at hb1
        clear hW hcon
        have hx0 := hx0.below hb1; have hx1 := hx1.below hb1; have d00 := kept hb1 d00; have d01 := kept hb1 d01; have d10 := kept hb1 d10; have d11 := kept hb1 d11; have hr := hr.below hb1
        skip
        have rc0 := hr.c0; have rc1 := hr.c1; have rf0 := hr.f0; have rf1 := hr.f1
        go_wp2_with fail
        refine bodyPost_ret (v := .tuple #[.agg #[.slice none 0 0, .slice none 0 0], .int .i64 5]) (by simp [results, Tryz.results15, go_sem, rc0, rc1]) rfl ⟨_, rfl, .inl ⟨rfl, rfl⟩, ?_⟩
        exact bwS (bwS (by repeat (first | exact .refl _ _ | apply bwD | apply bwA | (refine bwS ?_ (by first | omega | simp <;> omega) _) | refine bwC ?_ (by assumption))) (by first | omega | simp <;> omega) _) (by first | omega | simp <;> omega) _
      · rw [h3] at hcon
        have e1 : RIdempotentOf1 p0 st0 X1 = 5 := by unfold RIdempotentOf1; rw [if_pos h0, if_pos h2]
        rw [show RIdempotentOf0 p0 st0 X1 = ⟨[], []⟩ from if_neg (by rw [e1]; decide), e1]
        clear e1
        go_enter Tryz.func15, Tryz.ntmps15
        go_wp2_with fail
        refine hcon.mono ?_; rintro e w1 ⟨rfl, hb1⟩
        rw [← hW] at hb1
        clear hW hcon
        have hx0 := hx0.below hb1; have hx1 := hx1.below hb1; have d00 := kept hb1 d00; have d01 := kept hb1 d01; have d10 := kept hb1 d10; have d11 := kept hb1 d11; have hr := hr.below hb1
        clear h2 hT h3
        go_wp2_with fail
        refine (strace_c hd.hp hx1 hX1).mono ?_; rintro e w22 ⟨rfl, hb22⟩
        have hx0 := hx0.below hb22; have hx1 := hx1.below hb22; have d00 := kept hb22 d00; have d01 := kept hb22 d01; have d10 := kept hb22 d10; have d11 := kept hb22 d11; have hr := hr.below hb22
        rw [← HQ.out]
        have rc0 := hr.c0; have rc1 := hr.c1; have rf0 := hr.f0; have rf1 := hr.f1
        go_wp2_with fail
        refine bodyPost_ret (v := .tuple #[.agg #[.slice none 0 0, .slice none 0 0], .int .i64 5]) (by simp [results, Tryz.results15, go_sem, rc0, rc1]) rfl ⟨_, rfl, .inl ⟨rfl, rfl⟩, ?_⟩
        exact bwS (bwS (by repeat (first | exact .refl _ _ | apply bwD | apply bwA | (refine bwS ?_ (by first | omega | simp <;> omega) _) | refine bwC ?_ (by assumption))) (by first | omega | simp <;> omega) _) (by first | omega | simp <;> omega) _
    · have h2q : ¬ q = 0 := fun e => h2 (hq_.symm.trans e)
      have hne_ : (q == 0) = false := by simpa using h2q
      have hqb : 1 ≤ q ∧ q < p0 := by rw [← hq_] at hT; omega
      have hL := invL_fp (p := p0) (a := q) (by omega)
      have hM := multH_is (p := p0) (k := invL p0 q) (by omega) hX1
      have hPP := prim_pt hd hX1 h2
      rw [← hq_] at hPP
      clear hq_
      cases h3 : isPt p0 st0 X1
      · rw [pts_one h0, h3] at hcon
        have e1 : RIdempotentOf1 p0 st0 X1 = 5 := by unfold RIdempotentOf1; rw [if_pos h0, if_neg h2, if_neg (by rw [h3]; decide)]
        rw [show RIdempotentOf0 p0 st0 X1 = ⟨[], []⟩ from if_neg (by rw [e1]; decide), e1]
        clear e1
        go_enter Tryz.func15, Tryz.ntmps15
        go_wp2_with fail
        refine hcon.mono ?_; rintro e w1 ⟨rfl, hb1⟩
        rw [← hW] at hb1
        clear hW hcon
        have hx0 := hx0.below hb1; have hx1 := hx1.below hb1; have d00 := kept hb1 d00; have d01 := kept hb1 d01; have d10 := kept hb1 d10; have d11 := kept hb1 d11; have hr := hr.below hb1
        skip
        have rc0 := hr.c0; have rc1 := hr.c1; have rf0 := hr.f0; have rf1 := hr.f1
        go_wp2_with fail
        refine bodyPost_ret (v := .tuple #[.agg #[.slice none 0 0, .slice none 0 0], .int .i64 5]) (by simp [results, Tryz.results15, go_sem, rc0, rc1]) rfl ⟨_, rfl, .inl ⟨rfl, rfl⟩, ?_⟩
        exact bwS (bwS (by repeat (first | exact .refl _ _ | apply bwD | apply bwA | (refine bwS ?_ (by first | omega | simp <;> omega) _) | refine bwC ?_ (by assumption))) (by first | omega | simp <;> omega) _) (by first | omega | simp <;> omega) _
      · rw [pts_one h0, h3] at hcon
        have e1 : RIdempotentOf1 p0 st0 X1 = 0 := by unfold RIdempotentOf1; rw [if_pos h0, if_neg h2, if_pos h3]
        rw [show RIdempotentOf0 p0 st0 X1 = multH p0 X1 (invL p0 (traceH p0 X1)) from if_pos e1, e1]
        clear e1
        rw [← HQ.out]
        go_enter Tryz.func15, Tryz.ntmps15
        go_wp2_with fail
        refine hcon.mono ?_; rintro e w1 ⟨rfl, hb1⟩
        rw [← hW] at hb1
        clear hW hcon
        have hx0 := hx0.below hb1; have hx1 := hx1.below hb1; have d00 := kept hb1 d00; have d01 := kept hb1 d01; have d10 := kept hb1 d10; have d11 := kept hb1 d11; have hr := hr.below hb1
        clear h2 hT h3 hPP
        go_wp2_with fail
        refine (strace_c hd.hp hx1 hX1).mono ?_; rintro e w22 ⟨rfl, hb22⟩
        have hx0 := hx0.below hb22; have hx1 := hx1.below hb22; have d00 := kept hb22 d00; have d01 := kept hb22 d01; have d10 := kept hb22 d10; have d11 := kept hb22 d11; have hr := hr.below hb22
        rw [← HQ.out]
        go_wp2_with fail
        refine region_flow [(false, [(0, 1), (1, 0), (2, 1), (3, 0), (4, 1), (5, 1), (8, 1), (6, 5)]), (false, [(7, 5)]), (false, [(9, 4), (10, 4), (11, 0)])] (by kernel_rfl) ?_
        refine norm_K fun K hK => ?_
        change wpList _ _ _ [_, _, _, _, _, _, _, _] _ _
        have hb23 : Below w22.heap.size w22 w22.drew := (by repeat (first | exact .refl _ _ | apply bwD | apply bwA | (refine bwS ?_ (by first | omega | simp <;> omega) _) | refine bwC ?_ (by assumption)))
        have hx0 := hx0.below hb23; have hx1 := hx1.below hb23; have d00 := kept hb23 d00; have d01 := kept hb23 d01; have d10 := kept hb23 d10; have d11 := kept hb23 d11; have hr := hr.below hb23
        generalize w22.drew = wq at *
        have hzq_ : w1.heap.size ≤ wq.heap.size := (below_le (by repeat (first | exact .refl _ _ | apply bwD | apply bwA | (refine bwS ?_ (by first | omega | simp <;> omega) _) | refine bwC ?_ (by assumption))))
        go_wp2_with fail
        refine (strace_c hd.hp hx1 hX1).mono ?_; rintro e w24 ⟨rfl, hb24⟩
        have hx0 := hx0.below hb24; have hx1 := hx1.below hb24; have d00 := kept hb24 d00; have d01 := kept hb24 d01; have d10 := kept hb24 d10; have d11 := kept hb24 d11; have hr := hr.below hb24
        rw [← HQ.out]
        go_wp2_with fail
        have hz0 : Below wq.heap.size wq w24 := (by repeat (first | exact .refl _ _ | apply bwD | apply bwA | (refine bwS ?_ (by first | omega | simp <;> omega) _) | refine bwC ?_ (by assumption)))
        first | (refine hK _ _ ⟨hz0, ?_⟩; clear hK K) | refine ⟨hz0, ?_⟩
        clear hz0
        refine norm_K fun K hK => ?_
        change wpList _ _ _ [_] _ _
        go_wp2_with fail
        refine (sinv_c (p := p0) (a := q) hd.hp hqb.1 hqb.2).mono ?_; rintro e w25 ⟨rfl, rfl⟩
        go_wp2_with fail
        have hz1 : Below wq.heap.size wq w24 := (by repeat (first | exact .refl _ _ | apply bwD | apply bwA | (refine bwS ?_ (by first | omega | simp <;> omega) _) | refine bwC ?_ (by assumption)))
        first | (refine hK _ _ ⟨hz1, ?_⟩; clear hK K) | refine ⟨hz1, ?_⟩
        clear hz1
        refine norm_K fun K hK => ?_
        change wpList _ _ _ [_, _, _] _ _
        have hzc_ : w1.heap.size ≤ (w24).heap.size := (below_le (by repeat (first | exact .refl _ _ | apply bwD | apply bwA | (refine bwS ?_ (by first | omega | simp <;> omega) _) | refine bwC ?_ (by assumption))))
        (try simp at hzc_)
        go_wp2_with fail
        refine (sscale16_c (k := invL p0 q) hd hx0 hx1 hX1 (by omega) (by omega)).mono ?_; rintro e w26 ⟨v, rfl, hv, hb26⟩
        have hx0 := hx0.below hb26; have hx1 := hx1.below hb26; have d00 := kept hb26 d00; have d01 := kept hb26 d01; have d10 := kept hb26 d10; have d11 := kept hb26 d11; have hr := hr.below hb26
        obtain ⟨d, u, us, rfl, ⟨g1, cap1, rfl, h1⟩, hu, hne⟩ := id hv
        obtain ⟨g2, cap2, rfl, _⟩ := id hu
        have hul : us.length = 3 := by obtain ⟨_, _, _, _, h, _⟩ := hu; exact h
        have HU := Lib.hid hul; clear hul
        have hu3 : (multH p0 X1 (invL p0 q)).up.length = 3 := (isH_parts (hM)).2.2.1
        have hu4 : (multH p0 X1 (invL p0 q)).dg.length = 3 := (isH_parts (hM)).1
        have hz1_ : w.heap.size + 1 + 1 + 1 + 1 ≤ w1.heap.size := by have := hb1.size; have := HWs.out; omega
        have rc0 := hr.c0; have rc1 := hr.c1; have rf0 := hr.f0; have rf1 := hr.f1
        go_wp2_with fail
        first | (refine hK _ _ ⟨rfl, ?_⟩; clear hK K) | refine ⟨rfl, ?_⟩
        go_wp2_with fail
        refine bodyPost_ret (v := .tuple #[.agg #[.slice (some ⟨g1, 0, none⟩) (multH p0 X1 (invL p0 q)).dg.length cap1, .slice (some ⟨g2, 0, none⟩) us.length cap2], .int .i64 0]) (by simp [results, Tryz.results15, go_sem, rc0, rc1, HU.out, hu3, hu4]) rfl ⟨_, rfl, .inr ?_, ?_⟩
        · exact ((hv.set_ (by first | omega | simp <;> omega) _).set_ (by first | omega | simp <;> omega) _).more (below_le (by repeat (first | exact .refl _ _ | apply bwD | apply bwA | (refine bwS ?_ (by first | omega | simp <;> omega) _) | refine bwC ?_ (by assumption))))
        · exact bwS (bwS (by repeat (first | exact .refl _ _ | apply bwD | apply bwA | (refine bwS ?_ (by first | omega | simp <;> omega) _) | refine bwC ?_ (by assumption))) (by first | omega | simp <;> omega) _) (by first | omega | simp <;> omega) _
  · have e1 : RIdempotentOf1 p0 st0 X1 = chkH p0 st0 [X1] := by first | (unfold RIdempotentOf1; rw [if_neg h0]; done) | rfl
    rw [show RIdempotentOf0 p0 st0 X1 = ⟨[], []⟩ from if_neg (by rw [e1]; exact h0), e1]; clear e1
    obtain ⟨k, hk⟩ : ∃ k, k = chkH p0 st0 [X1] := ⟨_, rfl⟩
    rw [pts_non h0] at hcon
    rw [← hk] at h0 hcon ⊢
    clear hk
    have hne : (k == 0) = false := by simpa using h0
    go_enter Tryz.func15, Tryz.ntmps15
    go_wp2_with fail
    refine hcon.mono ?_; rintro e w1 ⟨rfl, hb1⟩
    rw [← hW] at hb1
    clear hW hcon
    have hr := hr.below hb1
    have rc0 := hr.c0; have rc1 := hr.c1; have rf0 := hr.f0; have rf1 := hr.f1
    go_wp2_with fail
    refine bodyPost_ret (v := .tuple #[.agg #[.slice none 0 0, .slice none 0 0], .int .i64 k]) (by simp [results, Tryz.results15, go_sem, rc0, rc1]) rfl ⟨_, rfl, .inl ⟨rfl, rfl⟩, ?_⟩
    exact bwS (bwS (by repeat (first | exact .refl _ _ | apply bwD | apply bwA | (refine bwS ?_ (by first | omega | simp <;> omega) _) | refine bwC ?_ (by assumption))) (by first | omega | simp <;> omega) _) (by first | omega | simp <;> omega) _
theorem RIdempotentOf0_len (p0 : Int) (st0 : List Int) (X1 : Her) (_ : st0.length ≤ 1048576) (_ : Hsz X1) : Hs (RIdempotentOf0 p0 st0 X1) := by
  unfold RIdempotentOf0
  split
  · rename_i h
    have h0 : chkH p0 st0 [X1] = 0 := by
      unfold RIdempotentOf1 at h
      split at h
      · assumption
      · exact absurd h (by assumption)
    obtain ⟨hd, hall⟩ := chkH_pos h0
    simp at hall
    exact isH_hs hd (multH_is (by have := hd.hp.lo; omega) hall)
  · exact Hs.none

end Go.Proofs.YtgcelfnjijhmkaaGreat
