/-
  The law FnPlaneLines: its walk.
-/
import Derived.Test.YtgcelfnjijhmkaaGreatJbg
import Derived.Test.YtgcelfnjijhmkaaGreatJbp
import Derived.Test.YtgcelfnjijhmkaaGreatDpB
import Derived.Test.YtgcelfnjijhmkaaGreatJbw
import Derived.Test.YtgcelfnjijhmkaaGreatJbx
namespace Go.Proofs.YtgcelfnjijhmkaaGreat
open Go.RowKit

theorem ptsH_ok {p : Int} {st : List Int} {l : List Her} (hd : Dok p st) (h1 : l.all (isH p (sz st.length)) = true) (h2 : l.all (isPt p st) = true) : ptsH p st l = 0 := by
  unfold ptsH
  rw [if_pos (chkH_ok hd h1), if_pos h2]
set_option maxHeartbeats 32000000 in
set_option maxRecDepth 100000 in
theorem law_PlaneLines {a : Option Addr} {n c : Nat} {w : World} (hn : n ≤ 9223372036854775807) (hco : n ≤ 4096 → Co w w.heap.size (.slice a n c) n) :
    Calls Tryz.prog 4 #[.slice a n c] w fun e w' => e = .returned (.bool true) ∧ Below w.heap.size w w' := by
  by_cases hbig : 4096 < n
  · go_enter Tryz.func4, Tryz.ntmps4
    go_wp2_with fail
    refine (big_c hn).mono ?_; rintro e w1 ⟨rfl, rfl⟩
    rw [decide_eq_true hbig]
    go_wp2_with fail
    go_ret
    exact ⟨rfl, Below.refl _ _⟩
  have hc := hco (by omega)
  have hbf : decide (4096 < n) = false := decide_eq_false hbig
  have hcw := hc
  clear hco hbig
  go_enter Tryz.func4, Tryz.ntmps4
  go_wp2_with fail
  refine (big_c hn).mono ?_; rintro e w0 ⟨rfl, rfl⟩
  rw [hbf]
  go_wp2_with fail
  refine (sdrawline_c hc).mono ?_; rintro e w1 ⟨p, v, x, y, st, X, Y, rfl, hp1, hp2, hl, hE, hV0, hV1, hz0, hz1, hb1⟩
  obtain ⟨av, cv, rfl⟩ := hE.shape
  obtain ⟨ax, cx, b_x, ex, rfl⟩ := hV0.shape
  obtain ⟨ay, cy, b_y, ey, rfl⟩ := hV1.shape
  have hs := hE.1; have hx := hV0.hv; have hy := hV1.hv
  clear hE hV0 hV1
  have hl6 : st.length ≤ 1048576 := by omega
  have hI := fun W v0 v1 v2 (h0 : El W v0 st) (h1 : Hv W v1 X) (h2 : Hv W v2 Y) => iLineThrough_c (w := W) (p0 := p) h0 hl6 h1 hz0 h2 hz1
  have hS := fun W v0 v1 v2 (h0 : El W v0 st) (h1 : Hv W v1 X) (h2 : Hv W v2 Y) => sLineThrough_c (w := W) (p0 := p) h0 hl6 h1 hz0 h2 hz1
  have hno : RLineThrough1 p st X Y ≠ 0 → RLineThrough0 p st X Y = ⟨[], []⟩ := fun h => if_neg h
  have hyl := RLineThrough0_len p st X Y hl6 hz0 hz1
  obtain ⟨k, hk⟩ : ∃ k, k = RLineThrough1 p st X Y := ⟨_, rfl⟩; obtain ⟨P, hP⟩ : ∃ P, P = RLineThrough0 p st X Y := ⟨_, rfl⟩
  simp only [← hk, ← hP] at hI hS hno hyl
  have HK := Lib.hid (And.intro hk hP); clear hk hP
  have HNO := Lib.hid hno; clear hno
  have hb22 : Below w1.heap.size w1 (w1.alloc (.cells #[.int .i64 p, .slice av st.length cv] 26)) := (by repeat (first | exact Below.refl _ _ | apply blw_drew | apply blw_alloc | (refine blw_set ?_ (by first | omega | simp <;> omega) _) | refine below_chain ?_ (by assumption)))
  have hs := hs.below hb22; have hx := hx.below hb22; have hy := hy.below hb22
  have d0 : (w1.alloc (.cells #[.int .i64 p, .slice av st.length cv] 26)).cell? ⟨w1.heap.size, 0, none⟩ = some (.int .i64 p) := by simp [go_sem]
  have d1 : (w1.alloc (.cells #[.int .i64 p, .slice av st.length cv] 26)).cell? ⟨w1.heap.size, 1, none⟩ = some (.slice av st.length cv) := by simp [go_sem]
  have hb23 : Below (w1.alloc (.cells #[.int .i64 p, .slice av st.length cv] 26)).heap.size (w1.alloc (.cells #[.int .i64 p, .slice av st.length cv] 26)) ((w1.alloc (.cells #[.int .i64 p, .slice av st.length cv] 26)).alloc (.cells #[.slice ax X.dg.length cx, .slice b_x X.up.length ex] 31)) := (by repeat (first | exact Below.refl _ _ | apply blw_drew | apply blw_alloc | (refine blw_set ?_ (by first | omega | simp <;> omega) _) | refine below_chain ?_ (by assumption)))
  have hs := hs.below hb23; have hx := hx.below hb23; have hy := hy.below hb23; have d0 := kept hb23 d0; have d1 := kept hb23 d1
  have x0 : ((w1.alloc (.cells #[.int .i64 p, .slice av st.length cv] 26)).alloc (.cells #[.slice ax X.dg.length cx, .slice b_x X.up.length ex] 31)).cell? ⟨w1.heap.size + 1, 0, none⟩ = some (.slice ax X.dg.length cx) := by simp [go_sem]
  have x1 : ((w1.alloc (.cells #[.int .i64 p, .slice av st.length cv] 26)).alloc (.cells #[.slice ax X.dg.length cx, .slice b_x X.up.length ex] 31)).cell? ⟨w1.heap.size + 1, 1, none⟩ = some (.slice b_x X.up.length ex) := by simp [go_sem]
  have hb24 : Below ((w1.alloc (.cells #[.int .i64 p, .slice av st.length cv] 26)).alloc (.cells #[.slice ax X.dg.length cx, .slice b_x X.up.length ex] 31)).heap.size ((w1.alloc (.cells #[.int .i64 p, .slice av st.length cv] 26)).alloc (.cells #[.slice ax X.dg.length cx, .slice b_x X.up.length ex] 31)) (((w1.alloc (.cells #[.int .i64 p, .slice av st.length cv] 26)).alloc (.cells #[.slice ax X.dg.length cx, .slice b_x X.up.length ex] 31)).alloc (.cells #[.slice ay Y.dg.length cy, .slice b_y Y.up.length ey] 31)) := (by repeat (first | exact Below.refl _ _ | apply blw_drew | apply blw_alloc | (refine blw_set ?_ (by first | omega | simp <;> omega) _) | refine below_chain ?_ (by assumption)))
  have hs := hs.below hb24; have hx := hx.below hb24; have hy := hy.below hb24; have d0 := kept hb24 d0; have d1 := kept hb24 d1; have x0 := kept hb24 x0; have x1 := kept hb24 x1
  have y0 : (((w1.alloc (.cells #[.int .i64 p, .slice av st.length cv] 26)).alloc (.cells #[.slice ax X.dg.length cx, .slice b_x X.up.length ex] 31)).alloc (.cells #[.slice ay Y.dg.length cy, .slice b_y Y.up.length ey] 31)).cell? ⟨w1.heap.size + 1 + 1, 0, none⟩ = some (.slice ay Y.dg.length cy) := by simp [go_sem]
  have y1 : (((w1.alloc (.cells #[.int .i64 p, .slice av st.length cv] 26)).alloc (.cells #[.slice ax X.dg.length cx, .slice b_x X.up.length ex] 31)).alloc (.cells #[.slice ay Y.dg.length cy, .slice b_y Y.up.length ey] 31)).cell? ⟨w1.heap.size + 1 + 1, 1, none⟩ = some (.slice b_y Y.up.length ey) := by simp [go_sem]
  go_wp2_with fail
  refine (hI _ _ _ _ hs hx hy).mono ?_; rintro e w25 ⟨vhq, rfl, hq, hb25⟩
  have hs := hs.below hb25; have hx := hx.below hb25; have hy := hy.below hb25; have d0 := kept hb25 d0; have d1 := kept hb25 d1; have x0 := kept hb25 x0; have x1 := kept hb25 x1; have y0 := kept hb25 y0; have y1 := kept hb25 y1
  obtain ⟨d_hq, u_hq, rfl, q_hq, r_hq⟩ := hq.hv; obtain ⟨ahq, chq, rfl, _⟩ := q_hq.op; obtain ⟨bhq, ehq, rfl, _⟩ := id r_hq; clear q_hq r_hq
  have hb26 : Below w25.heap.size w25 (w25.alloc (.cells #[.slice ahq P.dg.length chq, .slice bhq P.up.length ehq] 31)) := (by repeat (first | exact Below.refl _ _ | apply blw_drew | apply blw_alloc | (refine blw_set ?_ (by first | omega | simp <;> omega) _) | refine below_chain ?_ (by assumption)))
  have hs := hs.below hb26; have hx := hx.below hb26; have hy := hy.below hb26; have d0 := kept hb26 d0; have d1 := kept hb26 d1; have x0 := kept hb26 x0; have x1 := kept hb26 x1; have y0 := kept hb26 y0; have y1 := kept hb26 y1; have hq := hq.below hb26
  have q0 : (w25.alloc (.cells #[.slice ahq P.dg.length chq, .slice bhq P.up.length ehq] 31)).cell? ⟨w25.heap.size, 0, none⟩ = some (.slice ahq P.dg.length chq) := by simp [go_sem]
  have q1 : (w25.alloc (.cells #[.slice ahq P.dg.length chq, .slice bhq P.up.length ehq] 31)).cell? ⟨w25.heap.size, 1, none⟩ = some (.slice bhq P.up.length ehq) := by simp [go_sem]
  go_wp2_with fail
  refine (hS _ _ _ _ hs hx hy).mono ?_; rintro e w27 ⟨vhr, rfl, hr, hb27⟩
  have hs := hs.below hb27; have hx := hx.below hb27; have hy := hy.below hb27; have d0 := kept hb27 d0; have d1 := kept hb27 d1; have x0 := kept hb27 x0; have x1 := kept hb27 x1; have y0 := kept hb27 y0; have y1 := kept hb27 y1; have hq := hq.below hb27; have q0 := kept hb27 q0; have q1 := kept hb27 q1
  obtain ⟨d_hr, u_hr, rfl, q_hr, r_hr⟩ := hr.hv; obtain ⟨ahr, chr, rfl, _⟩ := q_hr.op; obtain ⟨bhr, ehr, rfl, _⟩ := id r_hr; clear q_hr r_hr
  have hb28 : Below w27.heap.size w27 (w27.alloc (.cells #[.slice ahr P.dg.length chr, .slice bhr P.up.length ehr] 31)) := (by repeat (first | exact Below.refl _ _ | apply blw_drew | apply blw_alloc | (refine blw_set ?_ (by first | omega | simp <;> omega) _) | refine below_chain ?_ (by assumption)))
  have hs := hs.below hb28; have hx := hx.below hb28; have hy := hy.below hb28; have d0 := kept hb28 d0; have d1 := kept hb28 d1; have x0 := kept hb28 x0; have x1 := kept hb28 x1; have y0 := kept hb28 y0; have y1 := kept hb28 y1; have hq := hq.below hb28; have q0 := kept hb28 q0; have q1 := kept hb28 q1; have hr := hr.below hb28
  have r0 : (w27.alloc (.cells #[.slice ahr P.dg.length chr, .slice bhr P.up.length ehr] 31)).cell? ⟨w27.heap.size, 0, none⟩ = some (.slice ahr P.dg.length chr) := by simp [go_sem]
  have r1 : (w27.alloc (.cells #[.slice ahr P.dg.length chr, .slice bhr P.up.length ehr] 31)).cell? ⟨w27.heap.size, 1, none⟩ = some (.slice bhr P.up.length ehr) := by simp [go_sem]
  go_wp2_with fail
  refine (herm9_c hq.hv hr.hv hyl.toHsz).mono ?_; rintro e w29 ⟨rfl, hb29⟩
  have hs := hs.below hb29; have hx := hx.below hb29; have hy := hy.below hb29; have d0 := kept hb29 d0; have d1 := kept hb29 d1; have x0 := kept hb29 x0; have x1 := kept hb29 x1; have y0 := kept hb29 y0; have y1 := kept hb29 y1; have hq := hq.below hb29; have q0 := kept hb29 q0; have q1 := kept hb29 q1; have hr := hr.below hb29; have r0 := kept hb29 r0; have r1 := kept hb29 r1
  clear hI hS
  go_upto_if 66 with fail
  generalize hwE : w29 = wE at *
  clear hwE
  have hbE : Below w.heap.size w wE := (by repeat (first | exact Below.refl _ _ | apply blw_drew | apply blw_alloc | (refine blw_set ?_ (by first | omega | simp <;> omega) _) | refine below_chain ?_ (by assumption)))
  go_cut [] (fun wx => Below w.heap.size w wx)
  case first =>
    by_cases hk0 : k = 0
    case neg =>
      have hkb : (k == 0) = false := by simpa using hk0
      obtain rfl := HNO.out hk0
      go_wp2_with fail
      go_meet
      case rel => exact (by repeat (first | exact Below.refl _ _ | apply blw_drew | apply blw_alloc | (refine blw_set ?_ (by first | omega | simp <;> omega) _) | refine below_chain ?_ (by assumption)))
    subst hk0
    have hk1 : ptsH p st [X, Y] = 0 ∧ isZ (numsH (crossH p st X Y)) = false := by
      have e := HK.out.1
      unfold RLineThrough1 at e
      split at e
      · next h1 =>
        split at e
        · exact absurd e (by decide)
        · next h2 => exact ⟨h1, by simpa using h2⟩
      · next h1 => exact absurd e.symm h1
    obtain ⟨hk1, hzC⟩ := hk1
    obtain ⟨⟨hd, hall⟩, hpts⟩ := ptsH_pos hk1
    have hX : isH p (sz st.length) X = true := by simp at hall; exact hall.1
    have hY : isH p (sz st.length) Y = true := by simp at hall; exact hall.2
    have pX : isPt p st X = true := by simp at hpts; exact hpts.1
    have pY : isPt p st Y = true := by simp at hpts; exact hpts.2
    have hPJ : P = crossH p st X Y := HK.out.2.trans (if_pos HK.out.1.symm)
    have h2p : 2 ≤ p := by have := hd.hp.lo; omega
    have iP : isH p (sz st.length) P = true := by rw [hPJ]; exact crossH_is h2p hX hY
    have zP := isH_hsz hd iP
    have pP : isPt p st P = true := by rw [hPJ]; exact line_pt hd hX hY pX pY hzC
    have cc : crossH p st Y X = P := by rw [hPJ]; exact cross_comm hd hX hY
    have e1 : RLineThrough1 p st Y X = 0 := by unfold RLineThrough1; rw [cc, hPJ, hzC, show ptsH p st [Y, X] = 0 from ptsH_ok hd (by simp [hX, hY]) (by simp [pX, pY])]; rfl
    have e2 : RLineThrough0 p st Y X = P := (if_pos e1).trans cc
    have hA := fun W v0 v1 v2 (h0 : El W v0 st) (h1 : Hv W v1 Y) (h2 : Hv W v2 X) => iLineThrough_c (w := W) (p0 := p) h0 hl6 h1 hz1 h2 hz0
    rw [e1, e2] at hA
    have rP : rankH p st P = 1 := by simpa [isPt] using pP
    have rX : rankH p st X = 1 := by simpa [isPt] using pX
    have rY : rankH p st Y = 1 := by simpa [isPt] using pY
    have cP : chkH p st [P] = 0 := chkH_ok hd (by simp [iP])
    have cX : chkH p st [X, P] = 0 := chkH_ok hd (by simp [iP, hX])
    have cY : chkH p st [Y, P] = 0 := chkH_ok hd (by simp [iP, hY])
    have hB := fun W v0 v1 (h0 : El W v0 st) (h1 : Hv W v1 P) => iIsPoint_c (w := W) (p0 := p) h0 hl6 h1 zP
    rw [show RIsPoint0 p st P = true by unfold RIsPoint0; rw [if_pos cP, rP]; rfl, show RIsPoint1 p st P = 0 from cP] at hB
    have hC := fun W v0 v1 v2 (h0 : El W v0 st) (h1 : Hv W v1 X) (h2 : Hv W v2 P) => iAreIncident_c (w := W) (p0 := p) h0 hl6 h1 hz0 h2 zP
    have a1 : RAreIncident1 p st X P = 0 := by unfold RAreIncident1; rw [if_pos cX, if_pos rX]
    rw [show RAreIncident0 p st X P = true by unfold RAreIncident0; rw [if_pos a1, hPJ, on_line hd hX hY pX]; rfl, a1] at hC
    have hD := fun W v0 v1 v2 (h0 : El W v0 st) (h1 : Hv W v1 Y) (h2 : Hv W v2 P) => iAreIncident_c (w := W) (p0 := p) h0 hl6 h1 hz1 h2 zP
    have a2 : RAreIncident1 p st Y P = 0 := by unfold RAreIncident1; rw [if_pos cY, if_pos rY]
    rw [show RAreIncident0 p st Y P = true by unfold RAreIncident0; rw [if_pos a2, hPJ, on_line2 hd hX hY pY]; rfl, a2] at hD
    clear hall hpts hPJ cc e1 e2 rP rX rY cP cX cY a1 a2 hk1 hzC pX pY pP HK HNO hyl
    go_wp2_with fail
    refine (hA _ _ _ _ hs hy hx).mono ?_; rintro e w21 ⟨vh10, rfl, h10, hb21⟩
    have hs := hs.below hb21; have hx := hx.below hb21; have hy := hy.below hb21; have d0 := kept hb21 d0; have d1 := kept hb21 d1; have x0 := kept hb21 x0; have x1 := kept hb21 x1; have y0 := kept hb21 y0; have y1 := kept hb21 y1; have hq := hq.below hb21; have q0 := kept hb21 q0; have q1 := kept hb21 q1; have hr := hr.below hb21; have r0 := kept hb21 r0; have r1 := kept hb21 r1
    obtain ⟨d_h10, u_h10, rfl, q_h10, r_h10⟩ := h10.hv; obtain ⟨ah10, ch10, rfl, _⟩ := q_h10.op; obtain ⟨bh10, eh10, rfl, _⟩ := id r_h10; clear q_h10 r_h10
    have hb22 : Below w21.heap.size w21 (w21.alloc (.cells #[.slice ah10 P.dg.length ch10, .slice bh10 P.up.length eh10] 31)) := (by repeat (first | exact Below.refl _ _ | apply blw_drew | apply blw_alloc | (refine blw_set ?_ (by first | omega | simp <;> omega) _) | refine below_chain ?_ (by assumption)))
    have hs := hs.below hb22; have hx := hx.below hb22; have hy := hy.below hb22; have d0 := kept hb22 d0; have d1 := kept hb22 d1; have x0 := kept hb22 x0; have x1 := kept hb22 x1; have y0 := kept hb22 y0; have y1 := kept hb22 y1; have hq := hq.below hb22; have q0 := kept hb22 q0; have q1 := kept hb22 q1; have hr := hr.below hb22; have r0 := kept hb22 r0; have r1 := kept hb22 r1; have h10 := h10.below hb22
    have z0 : (w21.alloc (.cells #[.slice ah10 P.dg.length ch10, .slice bh10 P.up.length eh10] 31)).cell? ⟨w21.heap.size, 0, none⟩ = some (.slice ah10 P.dg.length ch10) := by simp [go_sem]
    have z1 : (w21.alloc (.cells #[.slice ah10 P.dg.length ch10, .slice bh10 P.up.length eh10] 31)).cell? ⟨w21.heap.size, 1, none⟩ = some (.slice bh10 P.up.length eh10) := by simp [go_sem]
    go_wp2_with fail
    refine (hB _ _ _ hs hq.hv).mono ?_; rintro e w23 ⟨rfl, hb23⟩
    have hs := hs.below hb23; have hx := hx.below hb23; have hy := hy.below hb23; have d0 := kept hb23 d0; have d1 := kept hb23 d1; have x0 := kept hb23 x0; have x1 := kept hb23 x1; have y0 := kept hb23 y0; have y1 := kept hb23 y1; have hq := hq.below hb23; have q0 := kept hb23 q0; have q1 := kept hb23 q1; have hr := hr.below hb23; have r0 := kept hb23 r0; have r1 := kept hb23 r1; have h10 := h10.below hb23; have z0 := kept hb23 z0; have z1 := kept hb23 z1
    go_wp2_with fail
    refine (hC _ _ _ _ hs hx hq.hv).mono ?_; rintro e w24 ⟨rfl, hb24⟩
    have hs := hs.below hb24; have hx := hx.below hb24; have hy := hy.below hb24; have d0 := kept hb24 d0; have d1 := kept hb24 d1; have x0 := kept hb24 x0; have x1 := kept hb24 x1; have y0 := kept hb24 y0; have y1 := kept hb24 y1; have hq := hq.below hb24; have q0 := kept hb24 q0; have q1 := kept hb24 q1; have hr := hr.below hb24; have r0 := kept hb24 r0; have r1 := kept hb24 r1; have h10 := h10.below hb24; have z0 := kept hb24 z0; have z1 := kept hb24 z1
    go_wp2_with fail
    refine (hD _ _ _ _ hs hy hq.hv).mono ?_; rintro e w25 ⟨rfl, hb25⟩
    have hs := hs.below hb25; have hx := hx.below hb25; have hy := hy.below hb25; have d0 := kept hb25 d0; have d1 := kept hb25 d1; have x0 := kept hb25 x0; have x1 := kept hb25 x1; have y0 := kept hb25 y0; have y1 := kept hb25 y1; have hq := hq.below hb25; have q0 := kept hb25 q0; have q1 := kept hb25 q1; have hr := hr.below hb25; have r0 := kept hb25 r0; have r1 := kept hb25 r1; have h10 := h10.below hb25; have z0 := kept hb25 z0; have z1 := kept hb25 z1
    go_wp2_with fail
    refine (herm9_c h10.hv hq.hv zP).mono ?_; rintro e w26 ⟨rfl, hb26⟩
    have hs := hs.below hb26; have hx := hx.below hb26; have hy := hy.below hb26; have d0 := kept hb26 d0; have d1 := kept hb26 d1; have x0 := kept hb26 x0; have x1 := kept hb26 x1; have y0 := kept hb26 y0; have y1 := kept hb26 y1; have hq := hq.below hb26; have q0 := kept hb26 q0; have q1 := kept hb26 q1; have hr := hr.below hb26; have r0 := kept hb26 r0; have r1 := kept hb26 r1; have h10 := h10.below hb26; have z0 := kept hb26 z0; have z1 := kept hb26 z1
    go_wp2_with fail
    go_meet
    case rel => exact (by repeat (first | exact Below.refl _ _ | apply blw_drew | apply blw_alloc | (refine blw_set ?_ (by first | omega | simp <;> omega) _) | refine below_chain ?_ (by assumption)))
  case' rest => skip
  clear hs hx hy d0 d1 x0 x1 y0 y1 hq q0 q1 hr r0 r1 HK HNO hyl hl6 hz0 hz1 hp1 hp2 hl hbE
  have hcJ := (hcw.below hcut).wide (q' := wc.heap.size) (by have := hcut.size; omega)
  go_wp2_with fail
  refine (sdrawcol_c hcJ).mono ?_; rintro e w21 ⟨p, v, x, y, z, st, X, Y, Z, rfl, hp1, hp2, hl, hE, hV0, hV1, hV2, hz0, hz1, hz2, hb21⟩
  have hbK : Below w.heap.size w w21 := below_chain hcut hb21
  clear hcJ hcut hb21
  obtain ⟨av, cv, rfl⟩ := hE.shape
  obtain ⟨ax, cx, b_x, ex, rfl⟩ := hV0.shape
  obtain ⟨ay, cy, b_y, ey, rfl⟩ := hV1.shape
  obtain ⟨az, cz, b_z, ez, rfl⟩ := hV2.shape
  have hs := hE.1; have hx := hV0.hv; have hy := hV1.hv; have hz := hV2.hv
  clear hE hV0 hV1 hV2
  have hl6 : st.length ≤ 1048576 := by omega
  have hI := fun W v0 v1 v2 v3 (h0 : El W v0 st) (h1 : Hv W v1 X) (h2 : Hv W v2 Y) (h3 : Hv W v3 Z) => iAreCollinear_c (w := W) (p0 := p) h0 hl6 h1 hz0 h2 hz1 h3 hz2
  have hS := fun W v0 v1 v2 v3 (h0 : El W v0 st) (h1 : Hv W v1 X) (h2 : Hv W v2 Y) (h3 : Hv W v3 Z) => sAreCollinear_c (w := W) (p0 := p) h0 hl6 h1 hz0 h2 hz1 h3 hz2
  have hno : RAreCollinear1 p st X Y Z ≠ 0 → RAreCollinear0 p st X Y Z = false := fun h => if_neg h
  obtain ⟨k, hk⟩ : ∃ k, k = RAreCollinear1 p st X Y Z := ⟨_, rfl⟩; obtain ⟨b, hb⟩ : ∃ b, b = RAreCollinear0 p st X Y Z := ⟨_, rfl⟩
  simp only [← hk, ← hb] at hI hS hno
  have HK := Lib.hid (And.intro hk hb); clear hk hb
  have HNO := Lib.hid hno; clear hno
  have hb42 : Below w21.heap.size w21 (w21.alloc (.cells #[.int .i64 p, .slice av st.length cv] 26)) := (by repeat (first | exact Below.refl _ _ | apply blw_drew | apply blw_alloc | (refine blw_set ?_ (by first | omega | simp <;> omega) _) | refine below_chain ?_ (by assumption)))
  have hs := hs.below hb42; have hx := hx.below hb42; have hy := hy.below hb42; have hz := hz.below hb42
  have d0 : (w21.alloc (.cells #[.int .i64 p, .slice av st.length cv] 26)).cell? ⟨w21.heap.size, 0, none⟩ = some (.int .i64 p) := by simp [go_sem]
  have d1 : (w21.alloc (.cells #[.int .i64 p, .slice av st.length cv] 26)).cell? ⟨w21.heap.size, 1, none⟩ = some (.slice av st.length cv) := by simp [go_sem]
  have hb43 : Below (w21.alloc (.cells #[.int .i64 p, .slice av st.length cv] 26)).heap.size (w21.alloc (.cells #[.int .i64 p, .slice av st.length cv] 26)) ((w21.alloc (.cells #[.int .i64 p, .slice av st.length cv] 26)).alloc (.cells #[.slice ax X.dg.length cx, .slice b_x X.up.length ex] 31)) := (by repeat (first | exact Below.refl _ _ | apply blw_drew | apply blw_alloc | (refine blw_set ?_ (by first | omega | simp <;> omega) _) | refine below_chain ?_ (by assumption)))
  have hs := hs.below hb43; have hx := hx.below hb43; have hy := hy.below hb43; have hz := hz.below hb43; have d0 := kept hb43 d0; have d1 := kept hb43 d1
  have x0 : ((w21.alloc (.cells #[.int .i64 p, .slice av st.length cv] 26)).alloc (.cells #[.slice ax X.dg.length cx, .slice b_x X.up.length ex] 31)).cell? ⟨w21.heap.size + 1, 0, none⟩ = some (.slice ax X.dg.length cx) := by simp [go_sem]
  have x1 : ((w21.alloc (.cells #[.int .i64 p, .slice av st.length cv] 26)).alloc (.cells #[.slice ax X.dg.length cx, .slice b_x X.up.length ex] 31)).cell? ⟨w21.heap.size + 1, 1, none⟩ = some (.slice b_x X.up.length ex) := by simp [go_sem]
  have hb44 : Below ((w21.alloc (.cells #[.int .i64 p, .slice av st.length cv] 26)).alloc (.cells #[.slice ax X.dg.length cx, .slice b_x X.up.length ex] 31)).heap.size ((w21.alloc (.cells #[.int .i64 p, .slice av st.length cv] 26)).alloc (.cells #[.slice ax X.dg.length cx, .slice b_x X.up.length ex] 31)) (((w21.alloc (.cells #[.int .i64 p, .slice av st.length cv] 26)).alloc (.cells #[.slice ax X.dg.length cx, .slice b_x X.up.length ex] 31)).alloc (.cells #[.slice ay Y.dg.length cy, .slice b_y Y.up.length ey] 31)) := (by repeat (first | exact Below.refl _ _ | apply blw_drew | apply blw_alloc | (refine blw_set ?_ (by first | omega | simp <;> omega) _) | refine below_chain ?_ (by assumption)))
  have hs := hs.below hb44; have hx := hx.below hb44; have hy := hy.below hb44; have hz := hz.below hb44; have d0 := kept hb44 d0; have d1 := kept hb44 d1; have x0 := kept hb44 x0; have x1 := kept hb44 x1
  have y0 : (((w21.alloc (.cells #[.int .i64 p, .slice av st.length cv] 26)).alloc (.cells #[.slice ax X.dg.length cx, .slice b_x X.up.length ex] 31)).alloc (.cells #[.slice ay Y.dg.length cy, .slice b_y Y.up.length ey] 31)).cell? ⟨w21.heap.size + 1 + 1, 0, none⟩ = some (.slice ay Y.dg.length cy) := by simp [go_sem]
  have y1 : (((w21.alloc (.cells #[.int .i64 p, .slice av st.length cv] 26)).alloc (.cells #[.slice ax X.dg.length cx, .slice b_x X.up.length ex] 31)).alloc (.cells #[.slice ay Y.dg.length cy, .slice b_y Y.up.length ey] 31)).cell? ⟨w21.heap.size + 1 + 1, 1, none⟩ = some (.slice b_y Y.up.length ey) := by simp [go_sem]
  have hb45 : Below (((w21.alloc (.cells #[.int .i64 p, .slice av st.length cv] 26)).alloc (.cells #[.slice ax X.dg.length cx, .slice b_x X.up.length ex] 31)).alloc (.cells #[.slice ay Y.dg.length cy, .slice b_y Y.up.length ey] 31)).heap.size (((w21.alloc (.cells #[.int .i64 p, .slice av st.length cv] 26)).alloc (.cells #[.slice ax X.dg.length cx, .slice b_x X.up.length ex] 31)).alloc (.cells #[.slice ay Y.dg.length cy, .slice b_y Y.up.length ey] 31)) ((((w21.alloc (.cells #[.int .i64 p, .slice av st.length cv] 26)).alloc (.cells #[.slice ax X.dg.length cx, .slice b_x X.up.length ex] 31)).alloc (.cells #[.slice ay Y.dg.length cy, .slice b_y Y.up.length ey] 31)).alloc (.cells #[.slice az Z.dg.length cz, .slice b_z Z.up.length ez] 31)) := (by repeat (first | exact Below.refl _ _ | apply blw_drew | apply blw_alloc | (refine blw_set ?_ (by first | omega | simp <;> omega) _) | refine below_chain ?_ (by assumption)))
  have hs := hs.below hb45; have hx := hx.below hb45; have hy := hy.below hb45; have hz := hz.below hb45; have d0 := kept hb45 d0; have d1 := kept hb45 d1; have x0 := kept hb45 x0; have x1 := kept hb45 x1; have y0 := kept hb45 y0; have y1 := kept hb45 y1
  have z0 : ((((w21.alloc (.cells #[.int .i64 p, .slice av st.length cv] 26)).alloc (.cells #[.slice ax X.dg.length cx, .slice b_x X.up.length ex] 31)).alloc (.cells #[.slice ay Y.dg.length cy, .slice b_y Y.up.length ey] 31)).alloc (.cells #[.slice az Z.dg.length cz, .slice b_z Z.up.length ez] 31)).cell? ⟨w21.heap.size + 1 + 1 + 1, 0, none⟩ = some (.slice az Z.dg.length cz) := by simp [go_sem]
  have z1 : ((((w21.alloc (.cells #[.int .i64 p, .slice av st.length cv] 26)).alloc (.cells #[.slice ax X.dg.length cx, .slice b_x X.up.length ex] 31)).alloc (.cells #[.slice ay Y.dg.length cy, .slice b_y Y.up.length ey] 31)).alloc (.cells #[.slice az Z.dg.length cz, .slice b_z Z.up.length ez] 31)).cell? ⟨w21.heap.size + 1 + 1 + 1, 1, none⟩ = some (.slice b_z Z.up.length ez) := by simp [go_sem]
  go_wp2_with fail
  refine (hI _ _ _ _ _ hs hx hy hz).mono ?_; rintro e w46 ⟨rfl, hb46⟩
  have hs := hs.below hb46; have hx := hx.below hb46; have hy := hy.below hb46; have hz := hz.below hb46; have d0 := kept hb46 d0; have d1 := kept hb46 d1; have x0 := kept hb46 x0; have x1 := kept hb46 x1; have y0 := kept hb46 y0; have y1 := kept hb46 y1; have z0 := kept hb46 z0; have z1 := kept hb46 z1
  go_wp2_with fail
  refine (hS _ _ _ _ _ hs hx hy hz).mono ?_; rintro e w47 ⟨rfl, hb47⟩
  have hs := hs.below hb47; have hx := hx.below hb47; have hy := hy.below hb47; have hz := hz.below hb47; have d0 := kept hb47 d0; have d1 := kept hb47 d1; have x0 := kept hb47 x0; have x1 := kept hb47 x1; have y0 := kept hb47 y0; have y1 := kept hb47 y1; have z0 := kept hb47 z0; have z1 := kept hb47 z1
  clear hI hS
  by_cases hk0 : k = 0
  case neg =>
    have hkb : (k == 0) = false := by simpa using hk0
    obtain rfl := HNO.out hk0
    go_wp2_with fail
    go_ret
    exact ⟨rfl, (by repeat (first | exact Below.refl _ _ | apply blw_drew | apply blw_alloc | (refine blw_set ?_ (by first | omega | simp <;> omega) _) | refine below_chain ?_ (by assumption)))⟩
  subst hk0
  obtain ⟨⟨hd, hall⟩, hpts⟩ := ptsH_pos (show ptsH p st [X, Y, Z] = 0 from HK.out.1.symm)
  have hX : isH p (sz st.length) X = true := by simp at hall; exact hall.1
  have hY : isH p (sz st.length) Y = true := by simp at hall; exact hall.2.1
  have hZ : isH p (sz st.length) Z = true := by simp at hall; exact hall.2.2
  have pX : isPt p st X = true := by simp at hpts; exact hpts.1
  have pY : isPt p st Y = true := by simp at hpts; exact hpts.2.1
  have pZ : isPt p st Z = true := by simp at hpts; exact hpts.2.2
  have hB : b = (pairH p st (crossH p st X Y) Z == 0) := HK.out.2.trans (if_pos HK.out.1.symm)
  have h2p : 2 ≤ p := by have := hd.hp.lo; omega
  obtain ⟨C, hC_⟩ : ∃ C, C = crossH p st X Y := ⟨_, rfl⟩
  have iC : isH p (sz st.length) C = true := by rw [hC_]; exact crossH_is h2p hX hY
  have zC := isH_hsz hd iC
  have e1 : RAreCollinear1 p st Y Z X = 0 := ptsH_ok hd (by simp [hX, hY, hZ]) (by simp [pX, pY, pZ])
  have e2 : RAreCollinear0 p st Y Z X = b := by unfold RAreCollinear0; rw [if_pos e1, hB, pair_cross hd hX hY hZ]
  have e3 : RAreCollinear1 p st Y X Z = 0 := ptsH_ok hd (by simp [hX, hY, hZ]) (by simp [pX, pY, pZ])
  have e4 : RAreCollinear0 p st Y X Z = b := by unfold RAreCollinear0; rw [if_pos e3, hB, cross_comm hd hX hY]
  have hA := fun W v0 v1 v2 v3 (h0 : El W v0 st) (h1 : Hv W v1 Y) (h2 : Hv W v2 Z) (h3 : Hv W v3 X) => iAreCollinear_c (w := W) (p0 := p) h0 hl6 h1 hz1 h2 hz2 h3 hz0
  rw [e1, e2] at hA
  have hD := fun W v0 v1 v2 v3 (h0 : El W v0 st) (h1 : Hv W v1 Y) (h2 : Hv W v2 X) (h3 : Hv W v3 Z) => iAreCollinear_c (w := W) (p0 := p) h0 hl6 h1 hz1 h2 hz0 h3 hz2
  rw [e3, e4] at hD
  have hG := fun W v0 v1 v2 (h0 : El W v0 st) (h1 : Hv W v1 X) (h2 : Hv W v2 Y) => iJordanCross_c (w := W) (p0 := p) h0 hl6 h1 hz0 h2 hz1
  have c1 : RJordanCross1 p st X Y = 0 := chkH_ok hd (by simp [hX, hY])
  rw [show RJordanCross0 p st X Y = C by rw [hC_]; exact if_pos c1, c1] at hG
  have hH := fun W v0 v1 v2 (h0 : El W v0 st) (h1 : Hv W v1 Z) (h2 : Hv W v2 C) => iAreIncident_c (w := W) (p0 := p) h0 hl6 h1 hz2 h2 zC
  have a1 : RAreIncident1 p st Z C = 0 := by unfold RAreIncident1; rw [if_pos (chkH_ok hd (by simp [hZ, iC])), if_pos (by simpa [isPt] using pZ)]
  rw [show RAreIncident0 p st Z C = b by unfold RAreIncident0; rw [if_pos a1, hB, ← hC_, pair_comm hd iC hZ], a1] at hH
  clear hall hpts hB hC_ e1 e2 e3 e4 c1 a1 pX pY pZ HK HNO
  go_wp2_with fail
  refine (hA _ _ _ _ _ hs hy hz hx).mono ?_; rintro e w48 ⟨rfl, hb48⟩
  have hs := hs.below hb48; have hx := hx.below hb48; have hy := hy.below hb48; have hz := hz.below hb48; have d0 := kept hb48 d0; have d1 := kept hb48 d1; have x0 := kept hb48 x0; have x1 := kept hb48 x1; have y0 := kept hb48 y0; have y1 := kept hb48 y1; have z0 := kept hb48 z0; have z1 := kept hb48 z1
  go_wp2_with fail
  refine (hD _ _ _ _ _ hs hy hx hz).mono ?_; rintro e w49 ⟨rfl, hb49⟩
  have hs := hs.below hb49; have hx := hx.below hb49; have hy := hy.below hb49; have hz := hz.below hb49; have d0 := kept hb49 d0; have d1 := kept hb49 d1; have x0 := kept hb49 x0; have x1 := kept hb49 x1; have y0 := kept hb49 y0; have y1 := kept hb49 y1; have z0 := kept hb49 z0; have z1 := kept hb49 z1
  go_wp2_with fail
  refine (hG _ _ _ _ hs hx hy).mono ?_; rintro e w50 ⟨vh11, rfl, h11, hb50⟩
  have hs := hs.below hb50; have hx := hx.below hb50; have hy := hy.below hb50; have hz := hz.below hb50; have d0 := kept hb50 d0; have d1 := kept hb50 d1; have x0 := kept hb50 x0; have x1 := kept hb50 x1; have y0 := kept hb50 y0; have y1 := kept hb50 y1; have z0 := kept hb50 z0; have z1 := kept hb50 z1
  obtain ⟨d_h11, u_h11, rfl, q_h11, r_h11⟩ := h11.hv; obtain ⟨ah11, ch11, rfl, _⟩ := q_h11.op; obtain ⟨bh11, eh11, rfl, _⟩ := id r_h11; clear q_h11 r_h11
  have hb51 : Below w50.heap.size w50 (w50.alloc (.cells #[.slice ah11 C.dg.length ch11, .slice bh11 C.up.length eh11] 31)) := (by repeat (first | exact Below.refl _ _ | apply blw_drew | apply blw_alloc | (refine blw_set ?_ (by first | omega | simp <;> omega) _) | refine below_chain ?_ (by assumption)))
  have hs := hs.below hb51; have hx := hx.below hb51; have hy := hy.below hb51; have hz := hz.below hb51; have d0 := kept hb51 d0; have d1 := kept hb51 d1; have x0 := kept hb51 x0; have x1 := kept hb51 x1; have y0 := kept hb51 y0; have y1 := kept hb51 y1; have z0 := kept hb51 z0; have z1 := kept hb51 z1; have h11 := h11.below hb51
  have y10 : (w50.alloc (.cells #[.slice ah11 C.dg.length ch11, .slice bh11 C.up.length eh11] 31)).cell? ⟨w50.heap.size, 0, none⟩ = some (.slice ah11 C.dg.length ch11) := by simp [go_sem]
  have y11 : (w50.alloc (.cells #[.slice ah11 C.dg.length ch11, .slice bh11 C.up.length eh11] 31)).cell? ⟨w50.heap.size, 1, none⟩ = some (.slice bh11 C.up.length eh11) := by simp [go_sem]
  go_wp2_with fail
  refine (hH _ _ _ _ hs hz h11.hv).mono ?_; rintro e w52 ⟨rfl, hb52⟩
  have hs := hs.below hb52; have hx := hx.below hb52; have hy := hy.below hb52; have hz := hz.below hb52; have d0 := kept hb52 d0; have d1 := kept hb52 d1; have x0 := kept hb52 x0; have x1 := kept hb52 x1; have y0 := kept hb52 y0; have y1 := kept hb52 y1; have z0 := kept hb52 z0; have z1 := kept hb52 z1; have h11 := h11.below hb52; have y10 := kept hb52 y10; have y11 := kept hb52 y11
  cases b
  all_goals
    go_wp2_with fail
    go_ret
    exact ⟨rfl, (by repeat (first | exact Below.refl _ _ | apply blw_drew | apply blw_alloc | (refine blw_set ?_ (by first | omega | simp <;> omega) _) | refine below_chain ?_ (by assumption)))⟩
end Go.Proofs.YtgcelfnjijhmkaaGreat
