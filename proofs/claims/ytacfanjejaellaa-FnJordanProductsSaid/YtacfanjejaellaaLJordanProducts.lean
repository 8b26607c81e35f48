/-
  The law FnJordanProducts: its walk.
-/
import Derived.Test.YtacfanjejaellaaHfA
import Derived.Test.YtacfanjejaellaaJbw
import Derived.Test.YtacfanjejaellaaCCharacteristicOf
import Derived.Test.YtacfanjejaellaaJbv
namespace Go.Proofs.Ytacfanjejaellaa
open Go.RowKit

set_option maxHeartbeats 32000000 in
set_option maxRecDepth 100000 in
theorem law_JordanProducts {a : Option Addr} {n c : Nat} {w : World} (hn : n ≤ 9223372036854775807) (hco : n ≤ 4096 → Co w w.heap.size (.slice a n c) n) :
    Calls Try.prog 3 #[.slice a n c] w fun e w' => e = .returned (.bool true) ∧ Below w.heap.size w w' := by
  by_cases hbig : 4096 < n
  · go_enter Try.func3, Try.ntmps3
    go_wp2_with fail
    refine (big_c hn).mono ?_; rintro e w1 ⟨rfl, rfl⟩
    rw [decide_eq_true hbig]
    go_wp2_with fail
    go_ret
    exact ⟨rfl, Below.refl _ _⟩
  have hc := hco (by omega)
  have hbf : decide (4096 < n) = false := decide_eq_false hbig
  clear hco hbig
  go_enter Try.func3, Try.ntmps3
  go_wp2_with fail
  refine (big_c hn).mono ?_; rintro e w0 ⟨rfl, rfl⟩
  rw [hbf]
  go_wp2_with fail
  refine (sdrawh2_c hc).mono ?_; rintro e w1 ⟨p, v, x, y, st, X, Y, rfl, hp1, hp2, hl, hE, hV0, hV1, hz0, hz1, hb1⟩
  obtain ⟨av, cv, rfl⟩ := hE.shape
  obtain ⟨ax, cx, bx, ex, rfl⟩ := hV0.shape
  obtain ⟨ay, cy, b_y, ey, rfl⟩ := hV1.shape
  have hs := hE.1; have hx := hV0.hv; have hy := hV1.hv
  clear hE hV0 hV1
  have hl6 : st.length ≤ 1048576 := by omega
  have hI := fun W v0 v1 v2 (h0 : El W v0 st) (h1 : Hv W v1 X) (h2 : Hv W v2 Y) => iJordanTimes_c (w := W) (p0 := p) h0 hl6 h1 hz0 h2 hz1
  have hS := fun W v0 v1 v2 (h0 : El W v0 st) (h1 : Hv W v1 X) (h2 : Hv W v2 Y) => sJordanTimes_c (w := W) (p0 := p) h0 hl6 h1 hz0 h2 hz1
  have hno : RJordanTimes1 p st X Y ≠ 0 → RJordanTimes0 p st X Y = ⟨[], []⟩ := fun h => if_neg h
  have hyl := RJordanTimes0_len p st X Y hl6 hz0 hz1
  obtain ⟨k, hk⟩ : ∃ k, k = RJordanTimes1 p st X Y := ⟨_, rfl⟩; obtain ⟨P, hP⟩ : ∃ P, P = RJordanTimes0 p st X Y := ⟨_, rfl⟩
  simp only [← hk, ← hP] at hI hS hno hyl
  have HK := Lib.hid (And.intro hk hP); clear hk hP
  have hb22 : Below w1.heap.size w1 (w1.alloc (.cells #[.int .i64 p, .slice av st.length cv] 26)) := (by repeat (first | exact Below.refl _ _ | apply blw_drew | apply blw_alloc | (refine blw_set ?_ (by first | omega | (simp; done) | (simp; omega)) _) | refine below_chain ?_ (by assumption)))
  have hs := hs.below hb22; have hx := hx.below hb22; have hy := hy.below hb22
  have d0 : (w1.alloc (.cells #[.int .i64 p, .slice av st.length cv] 26)).cell? ⟨w1.heap.size, 0, none⟩ = some (.int .i64 p) := by simp [go_sem]
  have d1 : (w1.alloc (.cells #[.int .i64 p, .slice av st.length cv] 26)).cell? ⟨w1.heap.size, 1, none⟩ = some (.slice av st.length cv) := by simp [go_sem]
  have hb23 : Below (w1.alloc (.cells #[.int .i64 p, .slice av st.length cv] 26)).heap.size (w1.alloc (.cells #[.int .i64 p, .slice av st.length cv] 26)) ((w1.alloc (.cells #[.int .i64 p, .slice av st.length cv] 26)).alloc (.cells #[.slice ax X.dg.length cx, .slice bx X.up.length ex] 29)) := (by repeat (first | exact Below.refl _ _ | apply blw_drew | apply blw_alloc | (refine blw_set ?_ (by first | omega | (simp; done) | (simp; omega)) _) | refine below_chain ?_ (by assumption)))
  have hs := hs.below hb23; have hx := hx.below hb23; have hy := hy.below hb23; have d0 := kept hb23 d0; have d1 := kept hb23 d1
  have x0 : ((w1.alloc (.cells #[.int .i64 p, .slice av st.length cv] 26)).alloc (.cells #[.slice ax X.dg.length cx, .slice bx X.up.length ex] 29)).cell? ⟨w1.heap.size + 1, 0, none⟩ = some (.slice ax X.dg.length cx) := by simp [go_sem]
  have x1 : ((w1.alloc (.cells #[.int .i64 p, .slice av st.length cv] 26)).alloc (.cells #[.slice ax X.dg.length cx, .slice bx X.up.length ex] 29)).cell? ⟨w1.heap.size + 1, 1, none⟩ = some (.slice bx X.up.length ex) := by simp [go_sem]
  have hb24 : Below ((w1.alloc (.cells #[.int .i64 p, .slice av st.length cv] 26)).alloc (.cells #[.slice ax X.dg.length cx, .slice bx X.up.length ex] 29)).heap.size ((w1.alloc (.cells #[.int .i64 p, .slice av st.length cv] 26)).alloc (.cells #[.slice ax X.dg.length cx, .slice bx X.up.length ex] 29)) (((w1.alloc (.cells #[.int .i64 p, .slice av st.length cv] 26)).alloc (.cells #[.slice ax X.dg.length cx, .slice bx X.up.length ex] 29)).alloc (.cells #[.slice ay Y.dg.length cy, .slice b_y Y.up.length ey] 29)) := (by repeat (first | exact Below.refl _ _ | apply blw_drew | apply blw_alloc | (refine blw_set ?_ (by first | omega | (simp; done) | (simp; omega)) _) | refine below_chain ?_ (by assumption)))
  have hs := hs.below hb24; have hx := hx.below hb24; have hy := hy.below hb24; have d0 := kept hb24 d0; have d1 := kept hb24 d1; have x0 := kept hb24 x0; have x1 := kept hb24 x1
  have y0 : (((w1.alloc (.cells #[.int .i64 p, .slice av st.length cv] 26)).alloc (.cells #[.slice ax X.dg.length cx, .slice bx X.up.length ex] 29)).alloc (.cells #[.slice ay Y.dg.length cy, .slice b_y Y.up.length ey] 29)).cell? ⟨w1.heap.size + 1 + 1, 0, none⟩ = some (.slice ay Y.dg.length cy) := by simp [go_sem]
  have y1 : (((w1.alloc (.cells #[.int .i64 p, .slice av st.length cv] 26)).alloc (.cells #[.slice ax X.dg.length cx, .slice bx X.up.length ex] 29)).alloc (.cells #[.slice ay Y.dg.length cy, .slice b_y Y.up.length ey] 29)).cell? ⟨w1.heap.size + 1 + 1, 1, none⟩ = some (.slice b_y Y.up.length ey) := by simp [go_sem]
  go_wp2_with fail
  refine (hI _ _ _ _ hs hx hy).mono ?_; rintro e w25 ⟨vhq, rfl, hq, hb25⟩
  have hs := hs.below hb25; have hx := hx.below hb25; have hy := hy.below hb25; have d0 := kept hb25 d0; have d1 := kept hb25 d1; have x0 := kept hb25 x0; have x1 := kept hb25 x1; have y0 := kept hb25 y0; have y1 := kept hb25 y1
  obtain ⟨d_hq, u_hq, rfl, q_hq, r_hq⟩ := hq.hv; obtain ⟨ahq, chq, rfl, _⟩ := q_hq.op; obtain ⟨bhq, ehq, rfl, _⟩ := id r_hq; clear q_hq r_hq
  have hb26 : Below w25.heap.size w25 (w25.alloc (.cells #[.slice ahq P.dg.length chq, .slice bhq P.up.length ehq] 29)) := (by repeat (first | exact Below.refl _ _ | apply blw_drew | apply blw_alloc | (refine blw_set ?_ (by first | omega | (simp; done) | (simp; omega)) _) | refine below_chain ?_ (by assumption)))
  have hs := hs.below hb26; have hx := hx.below hb26; have hy := hy.below hb26; have d0 := kept hb26 d0; have d1 := kept hb26 d1; have x0 := kept hb26 x0; have x1 := kept hb26 x1; have y0 := kept hb26 y0; have y1 := kept hb26 y1; have hq := hq.below hb26
  have q0 : (w25.alloc (.cells #[.slice ahq P.dg.length chq, .slice bhq P.up.length ehq] 29)).cell? ⟨w25.heap.size, 0, none⟩ = some (.slice ahq P.dg.length chq) := by simp [go_sem]
  have q1 : (w25.alloc (.cells #[.slice ahq P.dg.length chq, .slice bhq P.up.length ehq] 29)).cell? ⟨w25.heap.size, 1, none⟩ = some (.slice bhq P.up.length ehq) := by simp [go_sem]
  go_wp2_with fail
  refine (hS _ _ _ _ hs hx hy).mono ?_; rintro e w27 ⟨vhr, rfl, hr, hb27⟩
  have hs := hs.below hb27; have hx := hx.below hb27; have hy := hy.below hb27; have d0 := kept hb27 d0; have d1 := kept hb27 d1; have x0 := kept hb27 x0; have x1 := kept hb27 x1; have y0 := kept hb27 y0; have y1 := kept hb27 y1; have hq := hq.below hb27; have q0 := kept hb27 q0; have q1 := kept hb27 q1
  obtain ⟨d_hr, u_hr, rfl, q_hr, r_hr⟩ := hr.hv; obtain ⟨ahr, chr, rfl, _⟩ := q_hr.op; obtain ⟨bhr, ehr, rfl, _⟩ := id r_hr; clear q_hr r_hr
  have hb28 : Below w27.heap.size w27 (w27.alloc (.cells #[.slice ahr P.dg.length chr, .slice bhr P.up.length ehr] 29)) := (by repeat (first | exact Below.refl _ _ | apply blw_drew | apply blw_alloc | (refine blw_set ?_ (by first | omega | (simp; done) | (simp; omega)) _) | refine below_chain ?_ (by assumption)))
  have hs := hs.below hb28; have hx := hx.below hb28; have hy := hy.below hb28; have d0 := kept hb28 d0; have d1 := kept hb28 d1; have x0 := kept hb28 x0; have x1 := kept hb28 x1; have y0 := kept hb28 y0; have y1 := kept hb28 y1; have hq := hq.below hb28; have q0 := kept hb28 q0; have q1 := kept hb28 q1; have hr := hr.below hb28
  have r0 : (w27.alloc (.cells #[.slice ahr P.dg.length chr, .slice bhr P.up.length ehr] 29)).cell? ⟨w27.heap.size, 0, none⟩ = some (.slice ahr P.dg.length chr) := by simp [go_sem]
  have r1 : (w27.alloc (.cells #[.slice ahr P.dg.length chr, .slice bhr P.up.length ehr] 29)).cell? ⟨w27.heap.size, 1, none⟩ = some (.slice bhr P.up.length ehr) := by simp [go_sem]
  go_wp2_with fail
  refine (herm9_c hq.hv hr.hv hyl.toHsz).mono ?_; rintro e w29 ⟨rfl, hb29⟩
  have hs := hs.below hb29; have hx := hx.below hb29; have hy := hy.below hb29; have d0 := kept hb29 d0; have d1 := kept hb29 d1; have x0 := kept hb29 x0; have x1 := kept hb29 x1; have y0 := kept hb29 y0; have y1 := kept hb29 y1; have hq := hq.below hb29; have q0 := kept hb29 q0; have q1 := kept hb29 q1; have hr := hr.below hb29; have r0 := kept hb29 r0; have r1 := kept hb29 r1
  by_cases hk0 : k = 0
  case neg =>
    obtain rfl := hno hk0
    have hkb : (k == 0) = false := by simpa using hk0
    go_wp2_with fail
    go_ret
    exact ⟨rfl, (by repeat (first | exact Below.refl _ _ | apply blw_drew | apply blw_alloc | (refine blw_set ?_ (by first | omega | (simp; done) | (simp; omega)) _) | refine below_chain ?_ (by assumption)))⟩
  subst hk0
  have hk1 : chkH p st [X, Y] = 0 := HK.out.1.symm
  obtain ⟨hd, hall⟩ := chkH_pos hk1
  have hX : isH p (sz st.length) X = true := by simp at hall; exact hall.1
  have hY : isH p (sz st.length) Y = true := by simp at hall; exact hall.2
  have hPJ : P = jordanH p st X Y := HK.out.2.trans (if_pos hk1)
  have h2p : 2 ≤ p := by have := hd.hp.lo; omega
  have iP : isH p (sz st.length) P = true := by rw [hPJ]; exact jordanH_is h2p hX hY
  have zP := isH_hsz hd iP
  have HP := Lib.hid hPJ
  clear hall hk1 hPJ hno hI hS HK hyl
  have iU : isH p (sz st.length) (unitH (sz st.length)) = true := unitH_is h2p
  have zU := isH_hsz hd iU
  obtain ⟨U, hU_⟩ : ∃ Z, Z = unitH (sz st.length) := ⟨_, rfl⟩
  simp only [← hU_] at iU zU
  have HU := Lib.hid hU_; clear hU_
  have iS : isH p (sz st.length) (jordanH p st X X) = true := jordanH_is h2p hX hX
  have zS := isH_hsz hd iS
  obtain ⟨S, hS_⟩ : ∃ Z, Z = jordanH p st X X := ⟨_, rfl⟩
  simp only [← hS_] at iS zS
  have HS := Lib.hid hS_; clear hS_
  have iC : isH p (sz st.length) (powH p st X 3) = true := powH_is h2p hX 3
  have zC := isH_hsz hd iC
  obtain ⟨C, hC_⟩ : ∃ Z, Z = powH p st X 3 := ⟨_, rfl⟩
  simp only [← hC_] at iC zC
  have HC := Lib.hid hC_; clear hC_
  have iA : isH p (sz st.length) (adjH p st X) = true := adjH_is h2p hX
  have zA := isH_hsz hd iA
  obtain ⟨A, hA_⟩ : ∃ Z, Z = adjH p st X := ⟨_, rfl⟩
  simp only [← hA_] at iA zA
  have HA := Lib.hid hA_; clear hA_
  obtain ⟨t1, ht1⟩ : ∃ t, t = traceH p X := ⟨_, rfl⟩; obtain ⟨t2, ht2⟩ : ∃ t, t = traceH p A := ⟨_, rfl⟩; obtain ⟨t3, ht3⟩ : ∃ t, t = detH p st X := ⟨_, rfl⟩
  have bt1 : 0 ≤ t1 ∧ t1 < p := by rw [ht1]; unfold traceH; exact mod_fp2 (by omega)
  have bt2 : 0 ≤ t2 ∧ t2 < p := by rw [ht2]; unfold traceH; exact mod_fp2 (by omega)
  have bt3 : 0 ≤ t3 ∧ t3 < p := by rw [ht3]; unfold detH; exact mod_fp2 (by omega)
  have HT := Lib.hid (And.intro ht1 (And.intro ht2 ht3)); clear ht1 ht2 ht3
  have iQ1 : isH p (sz st.length) (sumH p C (-t1) S) = true := sumH_is (by omega) iC iS
  have zQ1 := isH_hsz hd iQ1
  obtain ⟨Q1, hQ1_⟩ : ∃ Z, Z = sumH p C (-t1) S := ⟨_, rfl⟩
  simp only [← hQ1_] at iQ1 zQ1
  have HQ1 := Lib.hid hQ1_; clear hQ1_
  have iQ2 : isH p (sz st.length) (sumH p Q1 t2 X) = true := sumH_is (by omega) iQ1 hX
  have zQ2 := isH_hsz hd iQ2
  obtain ⟨Q2, hQ2_⟩ : ∃ Z, Z = sumH p Q1 t2 X := ⟨_, rfl⟩
  simp only [← hQ2_] at iQ2 zQ2
  have HQ2 := Lib.hid hQ2_; clear hQ2_
  have iQ3 : isH p (sz st.length) (sumH p Q2 (-t3) U) = true := sumH_is (by omega) iQ2 iU
  have zQ3 := isH_hsz hd iQ3
  obtain ⟨Q3, hQ3_⟩ : ∃ Z, Z = sumH p Q2 (-t3) U := ⟨_, rfl⟩
  simp only [← hQ3_] at iQ3 zQ3
  have HQ3 := Lib.hid hQ3_; clear hQ3_
  have iZ0 : isH p (sz st.length) (sumH p U (-1) U) = true := sumH_is (by omega) iU iU
  have zZ0 := isH_hsz hd iZ0
  obtain ⟨Z0, hZ0_⟩ : ∃ Z, Z = sumH p U (-1) U := ⟨_, rfl⟩
  simp only [← hZ0_] at iZ0 zZ0
  have HZ0 := Lib.hid hZ0_; clear hZ0_
  have HQZ := Lib.hid (show Q3 = Z0 by rw [HQ3.out, HQ2.out, HQ1.out, HZ0.out, HC.out, HS.out, HU.out, HT.out.1, HT.out.2.1, HT.out.2.2, HA.out]; exact jor_char hd hX)
  have hU := fun W v0 (h0 : El W v0 st) => iJordanUnit_c (w := W) (p0 := p) h0 hl6
  have hU0 : chkH p st [] = 0 := chkH_ok hd rfl
  rw [show RJordanUnit0 p st = U by rw [HU.out]; exact if_pos hU0, show RJordanUnit1 p st = 0 from hU0] at hU
  have hX0 : chkH p st [X] = 0 := chkH_ok hd (by simp [hX])
  have hZX := isH_hsz hd hX
  have hW := fun W v0 v1 (h0 : El W v0 st) (h1 : Hv W v1 X) => iJordanPower_c (w := W) (p0 := p) (n2 := 3) h0 hl6 h1 hZX (by decide) (by decide)
  have hW1 : RJordanPower1 p st X 3 = 0 := by unfold RJordanPower1; rw [if_pos hX0]; rfl
  rw [show RJordanPower0 p st X 3 = C by rw [HC.out]; exact if_pos hW1, hW1] at hW
  have hG := fun W v0 v1 (h0 : El W v0 st) (h1 : Hv W v1 X) => iCharacteristicOf_c (w := W) (p0 := p) h0 hl6 h1 hZX
  have hG1 : RCharacteristicOf1 p st X = 0 := hX0
  rw [show RCharacteristicOf0 p st X = [t1, t2, t3] by rw [HT.out.1, HT.out.2.1, HT.out.2.2, HA.out]; exact if_pos hG1, hG1] at hG
  clear hU0 hX0 hW1 hG1
  go_wp2_with fail
  refine (hU _ _ hs).mono ?_; rintro e w30 ⟨vhu, rfl, hu, hb30⟩
  have hs := hs.below hb30; have hx := hx.below hb30; have hy := hy.below hb30; have d0 := kept hb30 d0; have d1 := kept hb30 d1; have x0 := kept hb30 x0; have x1 := kept hb30 x1; have y0 := kept hb30 y0; have y1 := kept hb30 y1; have hq := hq.below hb30; have q0 := kept hb30 q0; have q1 := kept hb30 q1; have hr := hr.below hb30; have r0 := kept hb30 r0; have r1 := kept hb30 r1
  obtain ⟨d_hu, u_hu, rfl, q_hu, r_hu⟩ := hu.hv; obtain ⟨ahu, chu, rfl, _⟩ := q_hu.op; obtain ⟨bhu, ehu, rfl, _⟩ := id r_hu; clear q_hu r_hu
  have hb31 : Below w30.heap.size w30 (w30.alloc (.cells #[.slice ahu U.dg.length chu, .slice bhu U.up.length ehu] 29)) := (by repeat (first | exact Below.refl _ _ | apply blw_drew | apply blw_alloc | (refine blw_set ?_ (by first | omega | (simp; done) | (simp; omega)) _) | refine below_chain ?_ (by assumption)))
  have hs := hs.below hb31; have hx := hx.below hb31; have hy := hy.below hb31; have d0 := kept hb31 d0; have d1 := kept hb31 d1; have x0 := kept hb31 x0; have x1 := kept hb31 x1; have y0 := kept hb31 y0; have y1 := kept hb31 y1; have hq := hq.below hb31; have q0 := kept hb31 q0; have q1 := kept hb31 q1; have hr := hr.below hb31; have r0 := kept hb31 r0; have r1 := kept hb31 r1; have hu := hu.below hb31
  have u0 : (w30.alloc (.cells #[.slice ahu U.dg.length chu, .slice bhu U.up.length ehu] 29)).cell? ⟨w30.heap.size, 0, none⟩ = some (.slice ahu U.dg.length chu) := by simp [go_sem]
  have u1 : (w30.alloc (.cells #[.slice ahu U.dg.length chu, .slice bhu U.up.length ehu] 29)).cell? ⟨w30.heap.size, 1, none⟩ = some (.slice bhu U.up.length ehu) := by simp [go_sem]
  go_wp2_with fail
  refine (jordan9_c hd hs hx hX hx hX).mono ?_; rintro e w32 ⟨vhS_, rfl, hS_, hb32⟩
  have hs := hs.below hb32; have hx := hx.below hb32; have hy := hy.below hb32; have d0 := kept hb32 d0; have d1 := kept hb32 d1; have x0 := kept hb32 x0; have x1 := kept hb32 x1; have y0 := kept hb32 y0; have y1 := kept hb32 y1; have hq := hq.below hb32; have q0 := kept hb32 q0; have q1 := kept hb32 q1; have hr := hr.below hb32; have r0 := kept hb32 r0; have r1 := kept hb32 r1; have hu := hu.below hb32; have u0 := kept hb32 u0; have u1 := kept hb32 u1
  rw [← HS.out] at hS_
  obtain ⟨d_hS_, u_hS_, rfl, q_hS_, r_hS_⟩ := hS_.hv; obtain ⟨ahS_, chS_, rfl, _⟩ := q_hS_.op; obtain ⟨bhS_, ehS_, rfl, _⟩ := id r_hS_; clear q_hS_ r_hS_
  have hb33 : Below w32.heap.size w32 (w32.alloc (.cells #[.slice ahS_ S.dg.length chS_, .slice bhS_ S.up.length ehS_] 29)) := (by repeat (first | exact Below.refl _ _ | apply blw_drew | apply blw_alloc | (refine blw_set ?_ (by first | omega | (simp; done) | (simp; omega)) _) | refine below_chain ?_ (by assumption)))
  have hs := hs.below hb33; have hx := hx.below hb33; have hy := hy.below hb33; have d0 := kept hb33 d0; have d1 := kept hb33 d1; have x0 := kept hb33 x0; have x1 := kept hb33 x1; have y0 := kept hb33 y0; have y1 := kept hb33 y1; have hq := hq.below hb33; have q0 := kept hb33 q0; have q1 := kept hb33 q1; have hr := hr.below hb33; have r0 := kept hb33 r0; have r1 := kept hb33 r1; have hu := hu.below hb33; have u0 := kept hb33 u0; have u1 := kept hb33 u1; have hS_ := hS_.below hb33
  have s0 : (w32.alloc (.cells #[.slice ahS_ S.dg.length chS_, .slice bhS_ S.up.length ehS_] 29)).cell? ⟨w32.heap.size, 0, none⟩ = some (.slice ahS_ S.dg.length chS_) := by simp [go_sem]
  have s1 : (w32.alloc (.cells #[.slice ahS_ S.dg.length chS_, .slice bhS_ S.up.length ehS_] 29)).cell? ⟨w32.heap.size, 1, none⟩ = some (.slice bhS_ S.up.length ehS_) := by simp [go_sem]
  go_wp2_with fail
  refine (hW _ _ _ hs hx).mono ?_; rintro e w34 ⟨vhC_, rfl, hC_, hb34⟩
  have hs := hs.below hb34; have hx := hx.below hb34; have hy := hy.below hb34; have d0 := kept hb34 d0; have d1 := kept hb34 d1; have x0 := kept hb34 x0; have x1 := kept hb34 x1; have y0 := kept hb34 y0; have y1 := kept hb34 y1; have hq := hq.below hb34; have q0 := kept hb34 q0; have q1 := kept hb34 q1; have hr := hr.below hb34; have r0 := kept hb34 r0; have r1 := kept hb34 r1; have hu := hu.below hb34; have u0 := kept hb34 u0; have u1 := kept hb34 u1; have hS_ := hS_.below hb34; have s0 := kept hb34 s0; have s1 := kept hb34 s1
  obtain ⟨d_hC_, u_hC_, rfl, q_hC_, r_hC_⟩ := hC_.hv; obtain ⟨ahC_, chC_, rfl, _⟩ := q_hC_.op; obtain ⟨bhC_, ehC_, rfl, _⟩ := id r_hC_; clear q_hC_ r_hC_
  have hb35 : Below w34.heap.size w34 (w34.alloc (.cells #[.slice ahC_ C.dg.length chC_, .slice bhC_ C.up.length ehC_] 29)) := (by repeat (first | exact Below.refl _ _ | apply blw_drew | apply blw_alloc | (refine blw_set ?_ (by first | omega | (simp; done) | (simp; omega)) _) | refine below_chain ?_ (by assumption)))
  have hs := hs.below hb35; have hx := hx.below hb35; have hy := hy.below hb35; have d0 := kept hb35 d0; have d1 := kept hb35 d1; have x0 := kept hb35 x0; have x1 := kept hb35 x1; have y0 := kept hb35 y0; have y1 := kept hb35 y1; have hq := hq.below hb35; have q0 := kept hb35 q0; have q1 := kept hb35 q1; have hr := hr.below hb35; have r0 := kept hb35 r0; have r1 := kept hb35 r1; have hu := hu.below hb35; have u0 := kept hb35 u0; have u1 := kept hb35 u1; have hS_ := hS_.below hb35; have s0 := kept hb35 s0; have s1 := kept hb35 s1; have hC_ := hC_.below hb35
  have k0 : (w34.alloc (.cells #[.slice ahC_ C.dg.length chC_, .slice bhC_ C.up.length ehC_] 29)).cell? ⟨w34.heap.size, 0, none⟩ = some (.slice ahC_ C.dg.length chC_) := by simp [go_sem]
  have k1 : (w34.alloc (.cells #[.slice ahC_ C.dg.length chC_, .slice bhC_ C.up.length ehC_] 29)).cell? ⟨w34.heap.size, 1, none⟩ = some (.slice bhC_ C.up.length ehC_) := by simp [go_sem]
  go_wp2_with fail
  refine (hG _ _ _ hs hx).mono ?_; rintro e w36 ⟨vl, rfl, hL, hb36⟩
  have hs := hs.below hb36; have hx := hx.below hb36; have hy := hy.below hb36; have d0 := kept hb36 d0; have d1 := kept hb36 d1; have x0 := kept hb36 x0; have x1 := kept hb36 x1; have y0 := kept hb36 y0; have y1 := kept hb36 y1; have hq := hq.below hb36; have q0 := kept hb36 q0; have q1 := kept hb36 q1; have hr := hr.below hb36; have r0 := kept hb36 r0; have r1 := kept hb36 r1; have hu := hu.below hb36; have u0 := kept hb36 u0; have u1 := kept hb36 u1; have hS_ := hS_.below hb36; have s0 := kept hb36 s0; have s1 := kept hb36 s1; have hC_ := hC_.below hb36; have k0 := kept hb36 k0; have k1 := kept hb36 k1
  obtain ⟨al, cl, rfl, hl0⟩ := hL.sl
  obtain ⟨bl, ol, rfl, hAt⟩ := hl0.resolve_left (by simp)
  have l0 := hAt 0 (by simp); have l1 := hAt 1 (by simp); have l2 := hAt 2 (by simp)
  simp only [List.length_cons, List.length_nil, List.getD_cons_zero, List.getD_cons_succ, Nat.zero_add, Nat.reduceAdd, Nat.add_zero] at l0 l1 l2
  clear hL hl0 hAt
  go_wp2_with fail
  refine region_flowP [(20, 17, []), (20, 18, []), (20, 19, []), (21, 16, []), (21, 17, [20]), (21, 18, [20]), (21, 19, [20]), (28, 16, [24, 21]), (28, 17, [24, 21, 20]), (28, 18, [24, 21, 20]), (28, 19, [24, 21, 20]), (28, 25, []), (28, 26, []), (28, 27, []), (30, 16, [24, 21]), (30, 17, [24, 21, 20]), (30, 18, [24, 21, 20]), (30, 19, [24, 21, 20]), (30, 25, [28]), (30, 26, [28]), (30, 27, [28]), (30, 29, [])] [(false, [(0, 0), (1, 0), (2, 0), (3, 0), (4, 0), (5, 0), (6, 0), (7, 0), (8, 0), (9, 0), (10, 0), (11, 0), (12, 0), (13, 0), (14, 0), (15, 0), (16, 1), (17, 1), (18, 1), (19, 1), (20, 5)]), (true, [(21, 3)]), (true, [(22, 0), (23, 0), (24, 0), (25, 1), (26, 1), (27, 1), (29, 1), (28, 3)]), (false, [(30, 4), (31, 0), (32, 0)])] (by kernel_rfl) ?_
  refine norm_K fun K hK => ?_
  change wpList _ _ _ [_, _, _, _, _, _, _, _, _, _, _, _, _, _, _, _, _, _, _, _, _] _ _
  have hb37 : Below w36.heap.size w36 w36.drew := (by repeat (first | exact Below.refl _ _ | apply blw_drew | apply blw_alloc | (refine blw_set ?_ (by first | omega | (simp; done) | (simp; omega)) _) | refine below_chain ?_ (by assumption)))
  have hs := hs.below hb37; have hx := hx.below hb37; have hy := hy.below hb37; have d0 := kept hb37 d0; have d1 := kept hb37 d1; have x0 := kept hb37 x0; have x1 := kept hb37 x1; have y0 := kept hb37 y0; have y1 := kept hb37 y1; have hq := hq.below hb37; have q0 := kept hb37 q0; have q1 := kept hb37 q1; have hr := hr.below hb37; have r0 := kept hb37 r0; have r1 := kept hb37 r1; have hu := hu.below hb37; have u0 := kept hb37 u0; have u1 := kept hb37 u1; have hS_ := hS_.below hb37; have s0 := kept hb37 s0; have s1 := kept hb37 s1; have hC_ := hC_.below hb37; have k0 := kept hb37 k0; have k1 := kept hb37 k1; have l0 := kept hb37 l0; have l1 := kept hb37 l1; have l2 := kept hb37 l2
  generalize w36.drew = wq at *
  go_wp2_with fail
  refine (jordan9_c hd hs hy hY hx hX).mono ?_; rintro e w38 ⟨v3, rfl, h3, hb38⟩
  have hs := hs.below hb38; have hx := hx.below hb38; have hy := hy.below hb38; have d0 := kept hb38 d0; have d1 := kept hb38 d1; have x0 := kept hb38 x0; have x1 := kept hb38 x1; have y0 := kept hb38 y0; have y1 := kept hb38 y1; have hq := hq.below hb38; have q0 := kept hb38 q0; have q1 := kept hb38 q1; have hr := hr.below hb38; have r0 := kept hb38 r0; have r1 := kept hb38 r1; have hu := hu.below hb38; have u0 := kept hb38 u0; have u1 := kept hb38 u1; have hS_ := hS_.below hb38; have s0 := kept hb38 s0; have s1 := kept hb38 s1; have hC_ := hC_.below hb38; have k0 := kept hb38 k0; have k1 := kept hb38 k1; have l0 := kept hb38 l0; have l1 := kept hb38 l1; have l2 := kept hb38 l2
  rw [jor_comm hd hX hY, ← HP.out] at h3
  go_wp2_with fail
  have hz0 : Below wq.heap.size wq w38 := (by repeat (first | exact Below.refl _ _ | apply blw_drew | apply blw_alloc | (refine blw_set ?_ (by first | omega | (simp; done) | (simp; omega)) _) | refine below_chain ?_ (by assumption)))
  first | (refine hK _ _ ⟨hz0, ?_⟩; clear hK K) | refine ⟨hz0, ?_⟩
  clear hz0
  refine norm_K fun K hK => ?_
  change wpList _ _ _ [_] _ _
  go_wp2_with fail
  refine (herm9_c hq.hv h3.hv zP).mono ?_; rintro e w39 ⟨rfl, hb39⟩
  have hs := hs.below hb39; have hx := hx.below hb39; have hy := hy.below hb39; have d0 := kept hb39 d0; have d1 := kept hb39 d1; have x0 := kept hb39 x0; have x1 := kept hb39 x1; have y0 := kept hb39 y0; have y1 := kept hb39 y1; have hq := hq.below hb39; have q0 := kept hb39 q0; have q1 := kept hb39 q1; have hr := hr.below hb39; have r0 := kept hb39 r0; have r1 := kept hb39 r1; have hu := hu.below hb39; have u0 := kept hb39 u0; have u1 := kept hb39 u1; have hS_ := hS_.below hb39; have s0 := kept hb39 s0; have s1 := kept hb39 s1; have hC_ := hC_.below hb39; have k0 := kept hb39 k0; have k1 := kept hb39 k1; have l0 := kept hb39 l0; have l1 := kept hb39 l1; have l2 := kept hb39 l2; have h3 := h3.below hb39
  go_wp2_with fail
  have hz1 : Below w38.heap.size w38 w39 := (by repeat (first | exact Below.refl _ _ | apply blw_drew | apply blw_alloc | (refine blw_set ?_ (by first | omega | (simp; done) | (simp; omega)) _) | refine below_chain ?_ (by assumption)))
  first | (refine hK _ _ ⟨hz1, ?_⟩; clear hK K) | refine ⟨hz1, ?_⟩
  clear hz1
  refine norm_K fun K hK => ?_
  change wpList _ _ _ [_, _, _, _, _, _, _, _] _ _
  go_wp2_with fail
  refine (jordan9_c hd hs hx hX hu.hv iU).mono ?_; rintro e w40 ⟨v4, rfl, h4, hb40⟩
  have hs := hs.below hb40; have hx := hx.below hb40; have hy := hy.below hb40; have d0 := kept hb40 d0; have d1 := kept hb40 d1; have x0 := kept hb40 x0; have x1 := kept hb40 x1; have y0 := kept hb40 y0; have y1 := kept hb40 y1; have hq := hq.below hb40; have q0 := kept hb40 q0; have q1 := kept hb40 q1; have hr := hr.below hb40; have r0 := kept hb40 r0; have r1 := kept hb40 r1; have hu := hu.below hb40; have u0 := kept hb40 u0; have u1 := kept hb40 u1; have hS_ := hS_.below hb40; have s0 := kept hb40 s0; have s1 := kept hb40 s1; have hC_ := hC_.below hb40; have k0 := kept hb40 k0; have k1 := kept hb40 k1; have l0 := kept hb40 l0; have l1 := kept hb40 l1; have l2 := kept hb40 l2; have h3 := h3.below hb40
  rw [HU.out, jor_unit hd hX] at h4
  go_wp2_with fail
  have hz2 : Below w39.heap.size w39 w40 := (by repeat (first | exact Below.refl _ _ | apply blw_drew | apply blw_alloc | (refine blw_set ?_ (by first | omega | (simp; done) | (simp; omega)) _) | refine below_chain ?_ (by assumption)))
  first | (refine hK _ _ ⟨hz2, ?_⟩; clear hK K) | refine ⟨hz2, ?_⟩
  clear hz2
  refine norm_K fun K hK => ?_
  change wpList _ _ _ [_, _, _] _ _
  go_wp2_with fail
  refine (herm9_c h4.hv hx hZX).mono ?_; rintro e w41 ⟨rfl, hb41⟩
  have hs := hs.below hb41; have hx := hx.below hb41; have hy := hy.below hb41; have d0 := kept hb41 d0; have d1 := kept hb41 d1; have x0 := kept hb41 x0; have x1 := kept hb41 x1; have y0 := kept hb41 y0; have y1 := kept hb41 y1; have hq := hq.below hb41; have q0 := kept hb41 q0; have q1 := kept hb41 q1; have hr := hr.below hb41; have r0 := kept hb41 r0; have r1 := kept hb41 r1; have hu := hu.below hb41; have u0 := kept hb41 u0; have u1 := kept hb41 u1; have hS_ := hS_.below hb41; have s0 := kept hb41 s0; have s1 := kept hb41 s1; have hC_ := hC_.below hb41; have k0 := kept hb41 k0; have k1 := kept hb41 k1; have l0 := kept hb41 l0; have l1 := kept hb41 l1; have l2 := kept hb41 l2; have h3 := h3.below hb41; have h4 := h4.below hb41
  go_wp2_with fail
  first | (refine hK _ _ ⟨rfl, ?_⟩; clear hK K) | refine ⟨rfl, ?_⟩
  go_upto_region 16 with fail
  generalize hwE : w41 = wE at *
  clear hwE
  go_wp2_with fail
  refine region_flow [(false, [(0, 1), (1, 1), (2, 1), (4, 1), (5, 1), (6, 1), (7, 1), (9, 1), (3, 5)]), (false, [(8, 5)]), (true, [(10, 3)]), (true, [(11, 3)]), (true, [(12, 0), (13, 0), (14, 1), (15, 1), (16, 1), (17, 1), (18, 3)]), (false, [(19, 4), (20, 0), (21, 0)])] (by kernel_rfl) ?_
  refine norm_K fun K hK => ?_
  change wpList _ _ _ [_, _, _, _, _, _, _, _, _] _ _
  have hb21 : Below wE.heap.size wE wE.drew := (by repeat (first | exact Below.refl _ _ | apply blw_drew | apply blw_alloc | (refine blw_set ?_ (by first | omega | (simp; done) | (simp; omega)) _) | refine below_chain ?_ (by assumption)))
  have hs := hs.below hb21; have hx := hx.below hb21; have hy := hy.below hb21; have d0 := kept hb21 d0; have d1 := kept hb21 d1; have x0 := kept hb21 x0; have x1 := kept hb21 x1; have y0 := kept hb21 y0; have y1 := kept hb21 y1; have hq := hq.below hb21; have q0 := kept hb21 q0; have q1 := kept hb21 q1; have hr := hr.below hb21; have r0 := kept hb21 r0; have r1 := kept hb21 r1; have hu := hu.below hb21; have u0 := kept hb21 u0; have u1 := kept hb21 u1; have hS_ := hS_.below hb21; have s0 := kept hb21 s0; have s1 := kept hb21 s1; have hC_ := hC_.below hb21; have k0 := kept hb21 k0; have k1 := kept hb21 k1; have l0 := kept hb21 l0; have l1 := kept hb21 l1; have l2 := kept hb21 l2
  generalize wE.drew = wr at *
  go_wp2_with fail
  refine (jordan9_c hd hs hS_.hv iS hq.hv iP).mono ?_; rintro e w22 ⟨v5, rfl, h5, hb22⟩
  have hs := hs.below hb22; have hx := hx.below hb22; have hy := hy.below hb22; have d0 := kept hb22 d0; have d1 := kept hb22 d1; have x0 := kept hb22 x0; have x1 := kept hb22 x1; have y0 := kept hb22 y0; have y1 := kept hb22 y1; have hq := hq.below hb22; have q0 := kept hb22 q0; have q1 := kept hb22 q1; have hr := hr.below hb22; have r0 := kept hb22 r0; have r1 := kept hb22 r1; have hu := hu.below hb22; have u0 := kept hb22 u0; have u1 := kept hb22 u1; have hS_ := hS_.below hb22; have s0 := kept hb22 s0; have s1 := kept hb22 s1; have hC_ := hC_.below hb22; have k0 := kept hb22 k0; have k1 := kept hb22 k1; have l0 := kept hb22 l0; have l1 := kept hb22 l1; have l2 := kept hb22 l2
  go_wp2_with fail
  have hz0 : Below wr.heap.size wr w22 := (by repeat (first | exact Below.refl _ _ | apply blw_drew | apply blw_alloc | (refine blw_set ?_ (by first | omega | (simp; done) | (simp; omega)) _) | refine below_chain ?_ (by assumption)))
  first | (refine hK _ _ ⟨hz0, ?_⟩; clear hK K) | refine ⟨hz0, ?_⟩
  clear hz0
  refine norm_K fun K hK => ?_
  change wpList _ _ _ [_] _ _
  go_wp2_with fail
  refine (jordan9_c hd hs hS_.hv iS hy hY).mono ?_; rintro e w23 ⟨v6, rfl, h6, hb23⟩
  have hs := hs.below hb23; have hx := hx.below hb23; have hy := hy.below hb23; have d0 := kept hb23 d0; have d1 := kept hb23 d1; have x0 := kept hb23 x0; have x1 := kept hb23 x1; have y0 := kept hb23 y0; have y1 := kept hb23 y1; have hq := hq.below hb23; have q0 := kept hb23 q0; have q1 := kept hb23 q1; have hr := hr.below hb23; have r0 := kept hb23 r0; have r1 := kept hb23 r1; have hu := hu.below hb23; have u0 := kept hb23 u0; have u1 := kept hb23 u1; have hS_ := hS_.below hb23; have s0 := kept hb23 s0; have s1 := kept hb23 s1; have hC_ := hC_.below hb23; have k0 := kept hb23 k0; have k1 := kept hb23 k1; have l0 := kept hb23 l0; have l1 := kept hb23 l1; have l2 := kept hb23 l2; have h5 := h5.below hb23
  go_wp2_with fail
  have hz1 : Below wr.heap.size wr w23 := (by repeat (first | exact Below.refl _ _ | apply blw_drew | apply blw_alloc | (refine blw_set ?_ (by first | omega | (simp; done) | (simp; omega)) _) | refine below_chain ?_ (by assumption)))
  first | (refine hK _ _ ⟨hz1, ?_⟩; clear hK K) | refine ⟨hz1, ?_⟩
  clear hz1
  refine norm_K fun K hK => ?_
  change wpList _ _ _ [_] _ _
  go_wp2_with fail
  refine (jordan9_c hd hs h6.hv (jordanH_is h2p iS hY) hx hX).mono ?_; rintro e w24 ⟨v7, rfl, h7, hb24⟩
  have hs := hs.below hb24; have hx := hx.below hb24; have hy := hy.below hb24; have d0 := kept hb24 d0; have d1 := kept hb24 d1; have x0 := kept hb24 x0; have x1 := kept hb24 x1; have y0 := kept hb24 y0; have y1 := kept hb24 y1; have hq := hq.below hb24; have q0 := kept hb24 q0; have q1 := kept hb24 q1; have hr := hr.below hb24; have r0 := kept hb24 r0; have r1 := kept hb24 r1; have hu := hu.below hb24; have u0 := kept hb24 u0; have u1 := kept hb24 u1; have hS_ := hS_.below hb24; have s0 := kept hb24 s0; have s1 := kept hb24 s1; have hC_ := hC_.below hb24; have k0 := kept hb24 k0; have k1 := kept hb24 k1; have l0 := kept hb24 l0; have l1 := kept hb24 l1; have l2 := kept hb24 l2; have h5 := h5.below hb24; have h6 := h6.below hb24
  rw [HP.out, HS.out, jor_id hd hX hY, ← HS.out] at h5
  go_wp2_with fail
  have hz2 : Below w23.heap.size w23 w24 := (by repeat (first | exact Below.refl _ _ | apply blw_drew | apply blw_alloc | (refine blw_set ?_ (by first | omega | (simp; done) | (simp; omega)) _) | refine below_chain ?_ (by assumption)))
  first | (refine hK _ _ ⟨hz2, ?_⟩; clear hK K) | refine ⟨hz2, ?_⟩
  clear hz2
  refine norm_K fun K hK => ?_
  change wpList _ _ _ [_] _ _
  go_wp2_with fail
  refine (herm9_c h5.hv h7.hv (isH_hsz hd (jordanH_is h2p (jordanH_is h2p iS hY) hX))).mono ?_; rintro e w25 ⟨rfl, hb25⟩
  have hs := hs.below hb25; have hx := hx.below hb25; have hy := hy.below hb25; have d0 := kept hb25 d0; have d1 := kept hb25 d1; have x0 := kept hb25 x0; have x1 := kept hb25 x1; have y0 := kept hb25 y0; have y1 := kept hb25 y1; have hq := hq.below hb25; have q0 := kept hb25 q0; have q1 := kept hb25 q1; have hr := hr.below hb25; have r0 := kept hb25 r0; have r1 := kept hb25 r1; have hu := hu.below hb25; have u0 := kept hb25 u0; have u1 := kept hb25 u1; have hS_ := hS_.below hb25; have s0 := kept hb25 s0; have s1 := kept hb25 s1; have hC_ := hC_.below hb25; have k0 := kept hb25 k0; have k1 := kept hb25 k1; have l0 := kept hb25 l0; have l1 := kept hb25 l1; have l2 := kept hb25 l2; have h5 := h5.below hb25; have h6 := h6.below hb25; have h7 := h7.below hb25
  go_wp2_with fail
  have hz3 : Below w24.heap.size w24 w25 := (by repeat (first | exact Below.refl _ _ | apply blw_drew | apply blw_alloc | (refine blw_set ?_ (by first | omega | (simp; done) | (simp; omega)) _) | refine below_chain ?_ (by assumption)))
  first | (refine hK _ _ ⟨hz3, ?_⟩; clear hK K) | refine ⟨hz3, ?_⟩
  clear hz3
  refine norm_K fun K hK => ?_
  change wpList _ _ _ [_, _, _, _, _, _, _] _ _
  go_wp2_with fail
  refine (jordan9_c hd hs hS_.hv iS hx hX).mono ?_; rintro e w26 ⟨v8, rfl, h8, hb26⟩
  have hs := hs.below hb26; have hx := hx.below hb26; have hy := hy.below hb26; have d0 := kept hb26 d0; have d1 := kept hb26 d1; have x0 := kept hb26 x0; have x1 := kept hb26 x1; have y0 := kept hb26 y0; have y1 := kept hb26 y1; have hq := hq.below hb26; have q0 := kept hb26 q0; have q1 := kept hb26 q1; have hr := hr.below hb26; have r0 := kept hb26 r0; have r1 := kept hb26 r1; have hu := hu.below hb26; have u0 := kept hb26 u0; have u1 := kept hb26 u1; have hS_ := hS_.below hb26; have s0 := kept hb26 s0; have s1 := kept hb26 s1; have hC_ := hC_.below hb26; have k0 := kept hb26 k0; have k1 := kept hb26 k1; have l0 := kept hb26 l0; have l1 := kept hb26 l1; have l2 := kept hb26 l2; have h5 := h5.below hb26; have h6 := h6.below hb26; have h7 := h7.below hb26
  rw [HS.out, ← pow_three hd hX, ← HC.out] at h8
  go_wp2_with fail
  have hz4 : Below w25.heap.size w25 w26 := (by repeat (first | exact Below.refl _ _ | apply blw_drew | apply blw_alloc | (refine blw_set ?_ (by first | omega | (simp; done) | (simp; omega)) _) | refine below_chain ?_ (by assumption)))
  first | (refine hK _ _ ⟨hz4, ?_⟩; clear hK K) | refine ⟨hz4, ?_⟩
  clear hz4
  refine norm_K fun K hK => ?_
  change wpList _ _ _ [_, _, _] _ _
  go_wp2_with fail
  refine (herm9_c hC_.hv h8.hv zC).mono ?_; rintro e w27 ⟨rfl, hb27⟩
  have hs := hs.below hb27; have hx := hx.below hb27; have hy := hy.below hb27; have d0 := kept hb27 d0; have d1 := kept hb27 d1; have x0 := kept hb27 x0; have x1 := kept hb27 x1; have y0 := kept hb27 y0; have y1 := kept hb27 y1; have hq := hq.below hb27; have q0 := kept hb27 q0; have q1 := kept hb27 q1; have hr := hr.below hb27; have r0 := kept hb27 r0; have r1 := kept hb27 r1; have hu := hu.below hb27; have u0 := kept hb27 u0; have u1 := kept hb27 u1; have hS_ := hS_.below hb27; have s0 := kept hb27 s0; have s1 := kept hb27 s1; have hC_ := hC_.below hb27; have k0 := kept hb27 k0; have k1 := kept hb27 k1; have l0 := kept hb27 l0; have l1 := kept hb27 l1; have l2 := kept hb27 l2; have h5 := h5.below hb27; have h6 := h6.below hb27; have h7 := h7.below hb27; have h8 := h8.below hb27
  go_wp2_with fail
  first | (refine hK _ _ ⟨rfl, ?_⟩; clear hK K) | refine ⟨rfl, ?_⟩
  go_upto_region 18 with fail
  generalize hwG : w27 = wG at *
  clear hwG
  go_cut [17] (fun s_ wx => ∃ N d u, s_ = .pointer (some ⟨N, 0, none⟩) ∧ wG.heap.size ≤ N ∧ Bx wx N d u ∧ FrH wx wG.heap.size (.agg #[d, u]) (Q3) ∧ Below wG.heap.size wG wx)
  case first =>
    refine region_tqs [(0, 1), (1, 1), (2, 1), (3, 1), (4, 0), (5, 0), (6, 1), (7, 0), (8, 1), (10, 0), (11, 0), (12, 1), (13, 1), (15, 0), (16, 0), (17, 1), (18, 0), (19, 1)] (.two 9 5 (.two 14 5 (.two 20 5 (.lin [(false, [(21, 5)]), (false, [(22, 4)])]) 21 5 (.lin [(false, [(20, 4), (22, 4)])])) 21 5 (.lin [(false, [(14, 5)]), (false, [(20, 4), (22, 4)])])) 21 5 (.lin [(false, [(9, 5)]), (false, [(14, 5)]), (false, [(20, 4), (22, 4)])])) (by kernel_rfl) ?_
    refine norm_K fun K hK => ?_
    change wpList _ _ _ [_, _, _, _, _, _, _, _, _, _, _, _, _, _, _, _, _, _] _ _
    go_wp2_with fail
    have hbq : Below wG.heap.size wG wG.drew := (by repeat (first | exact Below.refl _ _ | apply blw_drew | apply blw_alloc | (refine blw_set ?_ (by first | omega | (simp; done) | (simp; omega)) _) | refine below_chain ?_ (by assumption)))
    have hs := hs.below hbq; have hx := hx.below hbq; have hy := hy.below hbq; have d0 := kept hbq d0; have d1 := kept hbq d1; have x0 := kept hbq x0; have x1 := kept hbq x1; have y0 := kept hbq y0; have y1 := kept hbq y1; have hq := hq.below hbq; have q0 := kept hbq q0; have q1 := kept hbq q1; have hr := hr.below hbq; have r0 := kept hbq r0; have r1 := kept hbq r1; have hu := hu.below hbq; have u0 := kept hbq u0; have u1 := kept hbq u1; have hS_ := hS_.below hbq; have s0 := kept hbq s0; have s1 := kept hbq s1; have hC_ := hC_.below hbq; have k0 := kept hbq k0; have k1 := kept hbq k1; have l0 := kept hbq l0; have l1 := kept hbq l1; have l2 := kept hbq l2
    have szq : wG.heap.size = wG.drew.heap.size := rfl
    generalize wG.drew = wq at *
    refine hK _ _ ⟨rfl, ?_⟩; clear hK K
    refine ⟨?_, ?_⟩
    · skip
      refine norm_K fun K hK => ?_
      change wpList _ _ _ [_] _ _
      go_wp2_with fail
      refine (sum9_c hd hs hC_.hv iC hS_.hv iS (by omega) (by omega)).mono ?_; rintro e w41 ⟨v9, rfl, h9, hb41⟩
      have hs := hs.below hb41; have hx := hx.below hb41; have hy := hy.below hb41; have d0 := kept hb41 d0; have d1 := kept hb41 d1; have x0 := kept hb41 x0; have x1 := kept hb41 x1; have y0 := kept hb41 y0; have y1 := kept hb41 y1; have hq := hq.below hb41; have q0 := kept hb41 q0; have q1 := kept hb41 q1; have hr := hr.below hb41; have r0 := kept hb41 r0; have r1 := kept hb41 r1; have hu := hu.below hb41; have u0 := kept hb41 u0; have u1 := kept hb41 u1; have hS_ := hS_.below hb41; have s0 := kept hb41 s0; have s1 := kept hb41 s1; have hC_ := hC_.below hb41; have k0 := kept hb41 k0; have k1 := kept hb41 k1; have l0 := kept hb41 l0; have l1 := kept hb41 l1; have l2 := kept hb41 l2
      have sz41 : wq.heap.size ≤ w41.heap.size := hb41.size
      rw [← HQ1.out] at h9
      go_wp2_with fail
      first | (refine hK _ _ ⟨(by repeat (first | exact Below.refl _ _ | apply blw_drew | apply blw_alloc | (refine blw_set ?_ (by first | omega | (simp; done) | (simp; omega)) _) | refine below_chain ?_ (by assumption))), ?_⟩; clear hK K) | refine ⟨(by repeat (first | exact Below.refl _ _ | apply blw_drew | apply blw_alloc | (refine blw_set ?_ (by first | omega | (simp; done) | (simp; omega)) _) | refine below_chain ?_ (by assumption))), ?_⟩
      refine ⟨?_, ?_⟩
      · skip
        refine norm_K fun K hK => ?_
        change wpList _ _ _ [_] _ _
        go_wp2_with fail
        refine (sum9_c hd hs h9.hv iQ1 hx hX (by omega) (by omega)).mono ?_; rintro e w42 ⟨v10, rfl, h10, hb42⟩
        have hs := hs.below hb42; have hx := hx.below hb42; have hy := hy.below hb42; have d0 := kept hb42 d0; have d1 := kept hb42 d1; have x0 := kept hb42 x0; have x1 := kept hb42 x1; have y0 := kept hb42 y0; have y1 := kept hb42 y1; have hq := hq.below hb42; have q0 := kept hb42 q0; have q1 := kept hb42 q1; have hr := hr.below hb42; have r0 := kept hb42 r0; have r1 := kept hb42 r1; have hu := hu.below hb42; have u0 := kept hb42 u0; have u1 := kept hb42 u1; have hS_ := hS_.below hb42; have s0 := kept hb42 s0; have s1 := kept hb42 s1; have hC_ := hC_.below hb42; have k0 := kept hb42 k0; have k1 := kept hb42 k1; have l0 := kept hb42 l0; have l1 := kept hb42 l1; have l2 := kept hb42 l2; have h9 := h9.below hb42
        have sz42 : w41.heap.size ≤ w42.heap.size := hb42.size
        rw [← HQ2.out] at h10
        go_wp2_with fail
        first | (refine hK _ _ ⟨(by repeat (first | exact Below.refl _ _ | apply blw_drew | apply blw_alloc | (refine blw_set ?_ (by first | omega | (simp; done) | (simp; omega)) _) | refine below_chain ?_ (by assumption))), ?_⟩; clear hK K) | refine ⟨(by repeat (first | exact Below.refl _ _ | apply blw_drew | apply blw_alloc | (refine blw_set ?_ (by first | omega | (simp; done) | (simp; omega)) _) | refine below_chain ?_ (by assumption))), ?_⟩
        refine ⟨?_, ?_⟩
        · skip
          refine norm_K fun K hK => ?_
          change wpList _ _ _ [_] _ _
          go_wp2_with fail
          refine (sum9_c hd hs h10.hv iQ2 hu.hv iU (by omega) (by omega)).mono ?_; rintro e w43 ⟨v11, rfl, h11, hb43⟩
          have hs := hs.below hb43; have hx := hx.below hb43; have hy := hy.below hb43; have d0 := kept hb43 d0; have d1 := kept hb43 d1; have x0 := kept hb43 x0; have x1 := kept hb43 x1; have y0 := kept hb43 y0; have y1 := kept hb43 y1; have hq := hq.below hb43; have q0 := kept hb43 q0; have q1 := kept hb43 q1; have hr := hr.below hb43; have r0 := kept hb43 r0; have r1 := kept hb43 r1; have hu := hu.below hb43; have u0 := kept hb43 u0; have u1 := kept hb43 u1; have hS_ := hS_.below hb43; have s0 := kept hb43 s0; have s1 := kept hb43 s1; have hC_ := hC_.below hb43; have k0 := kept hb43 k0; have k1 := kept hb43 k1; have l0 := kept hb43 l0; have l1 := kept hb43 l1; have l2 := kept hb43 l2; have h9 := h9.below hb43; have h10 := h10.below hb43
          have sz43 : w42.heap.size ≤ w43.heap.size := hb43.size
          rw [← HQ3.out] at h11
          obtain ⟨d2, u2, us2, rfl, ⟨g2, k2_, rfl, q2⟩, hu2_, hne2⟩ := id h11; obtain ⟨g3, k3_, rfl, hq3_⟩ := id hu2_; clear hq3_ hu2_ q2
          go_wp2_with fail
          first | (refine hK _ _ ⟨(by repeat (first | exact Below.refl _ _ | apply blw_drew | apply blw_alloc | (refine blw_set ?_ (by first | omega | (simp; done) | (simp; omega)) _) | refine below_chain ?_ (by assumption))), ?_⟩; clear hK K) | refine ⟨(by repeat (first | exact Below.refl _ _ | apply blw_drew | apply blw_alloc | (refine blw_set ?_ (by first | omega | (simp; done) | (simp; omega)) _) | refine below_chain ?_ (by assumption))), ?_⟩
          refine norm_K fun K hK => ?_
          change wpList _ _ _ [_] _ _
          go_wp2_with fail
          have hb44 : Below w43.heap.size w43 (w43.alloc (.cells #[.slice none 0 0, .slice none 0 0] 29)) := (by repeat (first | exact Below.refl _ _ | apply blw_drew | apply blw_alloc | (refine blw_set ?_ (by first | omega | (simp; done) | (simp; omega)) _) | refine below_chain ?_ (by assumption)))
          have h11A := h11; have hbA := hb44
          have hs := hs.below hb44; have hx := hx.below hb44; have hy := hy.below hb44; have d0 := kept hb44 d0; have d1 := kept hb44 d1; have x0 := kept hb44 x0; have x1 := kept hb44 x1; have y0 := kept hb44 y0; have y1 := kept hb44 y1; have hq := hq.below hb44; have q0 := kept hb44 q0; have q1 := kept hb44 q1; have hr := hr.below hb44; have r0 := kept hb44 r0; have r1 := kept hb44 r1; have hu := hu.below hb44; have u0 := kept hb44 u0; have u1 := kept hb44 u1; have hS_ := hS_.below hb44; have s0 := kept hb44 s0; have s1 := kept hb44 s1; have hC_ := hC_.below hb44; have k0 := kept hb44 k0; have k1 := kept hb44 k1; have l0 := kept hb44 l0; have l1 := kept hb44 l1; have l2 := kept hb44 l2; have h9 := h9.below hb44; have h10 := h10.below hb44; have h11 := h11.below hb44
          have hN : Bx (w43.alloc (.cells #[.slice none 0 0, .slice none 0 0] 29)) w43.heap.size (.slice none 0 0) (.slice none 0 0) := heap_alloc_new _ _
          have sz44 : w43.heap.size + 1 = (w43.alloc (.cells #[.slice none 0 0, .slice none 0 0] 29)).heap.size := by simp
          go_wp2_with fail
          obtain ⟨w44, hw_⟩ : ∃ x, x = (w43.alloc (.cells #[.slice none 0 0, .slice none 0 0] 29)) := ⟨_, rfl⟩
          rw [← hw_] at hb44 sz44 hs hx hy d0 d1 x0 x1 y0 y1 hq q0 q1 hr r0 r1 hu u0 u1 hS_ s0 s1 hC_ k0 k1 l0 l1 l2 h9 h10 h11 hN hbA ⊢; clear hw_
          go_wp2_with fail
          first | (refine hK _ _ ⟨(by repeat (first | exact Below.refl _ _ | apply blw_drew | apply blw_alloc | (refine blw_set ?_ (by first | omega | (simp; done) | (simp; omega)) _) | refine below_chain ?_ (by assumption))), ?_⟩; clear hK K) | refine ⟨(by repeat (first | exact Below.refl _ _ | apply blw_drew | apply blw_alloc | (refine blw_set ?_ (by first | omega | (simp; done) | (simp; omega)) _) | refine below_chain ?_ (by assumption))), ?_⟩
          refine norm_K fun K hK => ?_
          change wpList _ _ _ [_] _ _
          have rc0 := hN.c0; have rc1 := hN.c1; have rf0 := hN.f0; have rf1 := hN.f1
          go_wp2_with fail
          first | (refine hK _ _ ⟨rfl, ?_⟩; clear hK K) | refine ⟨rfl, ?_⟩
          go_wp2_with fail
          go_meet
          case rel => exact ⟨w43.heap.size, _, _, rfl, by omega, (hN.set0 _).set1 _, (h11A.below (blw_set (p := ⟨w43.heap.size, 1, none⟩) (blw_set (p := ⟨w43.heap.size, 0, none⟩) hbA (Nat.le_refl _) _) (Nat.le_refl _) _)).more (by omega), (by repeat (first | exact Below.refl _ _ | apply blw_drew | apply blw_alloc | (refine blw_set ?_ (by first | omega | (simp; done) | (simp; omega)) _) | refine below_chain ?_ (by assumption)))⟩
        · skip
          refine norm_K fun K hK => ?_
          change wpList _ _ _ [_] _ _
          go_wp2_with fail
          have hb43 : Below w42.heap.size w42 (w42.alloc (.cells #[.slice none 0 0, .slice none 0 0] 29)) := (by repeat (first | exact Below.refl _ _ | apply blw_drew | apply blw_alloc | (refine blw_set ?_ (by first | omega | (simp; done) | (simp; omega)) _) | refine below_chain ?_ (by assumption)))
          have hs := hs.below hb43; have hx := hx.below hb43; have hy := hy.below hb43; have d0 := kept hb43 d0; have d1 := kept hb43 d1; have x0 := kept hb43 x0; have x1 := kept hb43 x1; have y0 := kept hb43 y0; have y1 := kept hb43 y1; have hq := hq.below hb43; have q0 := kept hb43 q0; have q1 := kept hb43 q1; have hr := hr.below hb43; have r0 := kept hb43 r0; have r1 := kept hb43 r1; have hu := hu.below hb43; have u0 := kept hb43 u0; have u1 := kept hb43 u1; have hS_ := hS_.below hb43; have s0 := kept hb43 s0; have s1 := kept hb43 s1; have hC_ := hC_.below hb43; have k0 := kept hb43 k0; have k1 := kept hb43 k1; have l0 := kept hb43 l0; have l1 := kept hb43 l1; have l2 := kept hb43 l2; have h9 := h9.below hb43; have h10 := h10.below hb43
          have hN : Bx (w42.alloc (.cells #[.slice none 0 0, .slice none 0 0] 29)) w42.heap.size (.slice none 0 0) (.slice none 0 0) := heap_alloc_new _ _
          have sz43 : w42.heap.size + 1 = (w42.alloc (.cells #[.slice none 0 0, .slice none 0 0] 29)).heap.size := by simp
          go_wp2_with fail
          obtain ⟨w43, hw_⟩ : ∃ x, x = (w42.alloc (.cells #[.slice none 0 0, .slice none 0 0] 29)) := ⟨_, rfl⟩
          rw [← hw_] at hb43 sz43 hs hx hy d0 d1 x0 x1 y0 y1 hq q0 q1 hr r0 r1 hu u0 u1 hS_ s0 s1 hC_ k0 k1 l0 l1 l2 h9 h10 hN ⊢; clear hw_
          go_wp2_with fail
          first | (refine hK _ _ ⟨(by repeat (first | exact Below.refl _ _ | apply blw_drew | apply blw_alloc | (refine blw_set ?_ (by first | omega | (simp; done) | (simp; omega)) _) | refine below_chain ?_ (by assumption))), ?_⟩; clear hK K) | refine ⟨(by repeat (first | exact Below.refl _ _ | apply blw_drew | apply blw_alloc | (refine blw_set ?_ (by first | omega | (simp; done) | (simp; omega)) _) | refine below_chain ?_ (by assumption))), ?_⟩
          refine norm_K fun K hK => ?_
          change wpList _ _ _ [_, _] _ _
          go_wp2_with fail
          refine (sum9_c hd hs h10.hv iQ2 hu.hv iU (by omega) (by omega)).mono ?_; rintro e w44 ⟨v11, rfl, h11, hb44⟩
          have hs := hs.below hb44; have hx := hx.below hb44; have hy := hy.below hb44; have d0 := kept hb44 d0; have d1 := kept hb44 d1; have x0 := kept hb44 x0; have x1 := kept hb44 x1; have y0 := kept hb44 y0; have y1 := kept hb44 y1; have hq := hq.below hb44; have q0 := kept hb44 q0; have q1 := kept hb44 q1; have hr := hr.below hb44; have r0 := kept hb44 r0; have r1 := kept hb44 r1; have hu := hu.below hb44; have u0 := kept hb44 u0; have u1 := kept hb44 u1; have hS_ := hS_.below hb44; have s0 := kept hb44 s0; have s1 := kept hb44 s1; have hC_ := hC_.below hb44; have k0 := kept hb44 k0; have k1 := kept hb44 k1; have l0 := kept hb44 l0; have l1 := kept hb44 l1; have l2 := kept hb44 l2; have h9 := h9.below hb44; have h10 := h10.below hb44; have hN := hN.below hb44
          have sz44 : w43.heap.size ≤ w44.heap.size := hb44.size
          rw [← HQ3.out] at h11
          obtain ⟨d2, u2, us2, rfl, ⟨g2, k2_, rfl, q2⟩, hu2_, hne2⟩ := id h11; obtain ⟨g3, k3_, rfl, hq3_⟩ := id hu2_; clear hq3_ hu2_ q2
          have rc0 := hN.c0; have rc1 := hN.c1; have rf0 := hN.f0; have rf1 := hN.f1
          go_wp2_with fail
          first | (refine hK _ _ ⟨rfl, ?_⟩; clear hK K) | refine ⟨rfl, ?_⟩
          go_wp2_with fail
          go_meet
          case rel => exact ⟨w42.heap.size, _, _, rfl, by omega, (hN.set0 _).set1 _, ((h11.set_ (p := ⟨w42.heap.size, 0, none⟩) (show w42.heap.size < _ by omega) _).set_ (p := ⟨w42.heap.size, 1, none⟩) (show w42.heap.size < _ by omega) _).more (by omega), (by repeat (first | exact Below.refl _ _ | apply blw_drew | apply blw_alloc | (refine blw_set ?_ (by first | omega | (simp; done) | (simp; omega)) _) | refine below_chain ?_ (by assumption)))⟩
      · skip
        refine norm_K fun K hK => ?_
        change wpList _ _ _ [_] _ _
        go_wp2_with fail
        have hb42 : Below w41.heap.size w41 (w41.alloc (.cells #[.slice none 0 0, .slice none 0 0] 29)) := (by repeat (first | exact Below.refl _ _ | apply blw_drew | apply blw_alloc | (refine blw_set ?_ (by first | omega | (simp; done) | (simp; omega)) _) | refine below_chain ?_ (by assumption)))
        have hs := hs.below hb42; have hx := hx.below hb42; have hy := hy.below hb42; have d0 := kept hb42 d0; have d1 := kept hb42 d1; have x0 := kept hb42 x0; have x1 := kept hb42 x1; have y0 := kept hb42 y0; have y1 := kept hb42 y1; have hq := hq.below hb42; have q0 := kept hb42 q0; have q1 := kept hb42 q1; have hr := hr.below hb42; have r0 := kept hb42 r0; have r1 := kept hb42 r1; have hu := hu.below hb42; have u0 := kept hb42 u0; have u1 := kept hb42 u1; have hS_ := hS_.below hb42; have s0 := kept hb42 s0; have s1 := kept hb42 s1; have hC_ := hC_.below hb42; have k0 := kept hb42 k0; have k1 := kept hb42 k1; have l0 := kept hb42 l0; have l1 := kept hb42 l1; have l2 := kept hb42 l2; have h9 := h9.below hb42
        have hN : Bx (w41.alloc (.cells #[.slice none 0 0, .slice none 0 0] 29)) w41.heap.size (.slice none 0 0) (.slice none 0 0) := heap_alloc_new _ _
        have sz42 : w41.heap.size + 1 = (w41.alloc (.cells #[.slice none 0 0, .slice none 0 0] 29)).heap.size := by simp
        go_wp2_with fail
        obtain ⟨w42, hw_⟩ : ∃ x, x = (w41.alloc (.cells #[.slice none 0 0, .slice none 0 0] 29)) := ⟨_, rfl⟩
        rw [← hw_] at hb42 sz42 hs hx hy d0 d1 x0 x1 y0 y1 hq q0 q1 hr r0 r1 hu u0 u1 hS_ s0 s1 hC_ k0 k1 l0 l1 l2 h9 hN ⊢; clear hw_
        go_wp2_with fail
        first | (refine hK _ _ ⟨(by repeat (first | exact Below.refl _ _ | apply blw_drew | apply blw_alloc | (refine blw_set ?_ (by first | omega | (simp; done) | (simp; omega)) _) | refine below_chain ?_ (by assumption))), ?_⟩; clear hK K) | refine ⟨(by repeat (first | exact Below.refl _ _ | apply blw_drew | apply blw_alloc | (refine blw_set ?_ (by first | omega | (simp; done) | (simp; omega)) _) | refine below_chain ?_ (by assumption))), ?_⟩
        refine norm_K fun K hK => ?_
        change wpList _ _ _ [_] _ _
        go_wp2_with fail
        refine (sum9_c hd hs h9.hv iQ1 hx hX (by omega) (by omega)).mono ?_; rintro e w43 ⟨v10, rfl, h10, hb43⟩
        have hs := hs.below hb43; have hx := hx.below hb43; have hy := hy.below hb43; have d0 := kept hb43 d0; have d1 := kept hb43 d1; have x0 := kept hb43 x0; have x1 := kept hb43 x1; have y0 := kept hb43 y0; have y1 := kept hb43 y1; have hq := hq.below hb43; have q0 := kept hb43 q0; have q1 := kept hb43 q1; have hr := hr.below hb43; have r0 := kept hb43 r0; have r1 := kept hb43 r1; have hu := hu.below hb43; have u0 := kept hb43 u0; have u1 := kept hb43 u1; have hS_ := hS_.below hb43; have s0 := kept hb43 s0; have s1 := kept hb43 s1; have hC_ := hC_.below hb43; have k0 := kept hb43 k0; have k1 := kept hb43 k1; have l0 := kept hb43 l0; have l1 := kept hb43 l1; have l2 := kept hb43 l2; have h9 := h9.below hb43; have hN := hN.below hb43
        have sz43 : w42.heap.size ≤ w43.heap.size := hb43.size
        rw [← HQ2.out] at h10
        go_wp2_with fail
        first | (refine hK _ _ ⟨(by repeat (first | exact Below.refl _ _ | apply blw_drew | apply blw_alloc | (refine blw_set ?_ (by first | omega | (simp; done) | (simp; omega)) _) | refine below_chain ?_ (by assumption))), ?_⟩; clear hK K) | refine ⟨(by repeat (first | exact Below.refl _ _ | apply blw_drew | apply blw_alloc | (refine blw_set ?_ (by first | omega | (simp; done) | (simp; omega)) _) | refine below_chain ?_ (by assumption))), ?_⟩
        refine norm_K fun K hK => ?_
        change wpList _ _ _ [_, _] _ _
        go_wp2_with fail
        refine (sum9_c hd hs h10.hv iQ2 hu.hv iU (by omega) (by omega)).mono ?_; rintro e w44 ⟨v11, rfl, h11, hb44⟩
        have hs := hs.below hb44; have hx := hx.below hb44; have hy := hy.below hb44; have d0 := kept hb44 d0; have d1 := kept hb44 d1; have x0 := kept hb44 x0; have x1 := kept hb44 x1; have y0 := kept hb44 y0; have y1 := kept hb44 y1; have hq := hq.below hb44; have q0 := kept hb44 q0; have q1 := kept hb44 q1; have hr := hr.below hb44; have r0 := kept hb44 r0; have r1 := kept hb44 r1; have hu := hu.below hb44; have u0 := kept hb44 u0; have u1 := kept hb44 u1; have hS_ := hS_.below hb44; have s0 := kept hb44 s0; have s1 := kept hb44 s1; have hC_ := hC_.below hb44; have k0 := kept hb44 k0; have k1 := kept hb44 k1; have l0 := kept hb44 l0; have l1 := kept hb44 l1; have l2 := kept hb44 l2; have h9 := h9.below hb44; have hN := hN.below hb44; have h10 := h10.below hb44
        have sz44 : w43.heap.size ≤ w44.heap.size := hb44.size
        rw [← HQ3.out] at h11
        obtain ⟨d2, u2, us2, rfl, ⟨g2, k2_, rfl, q2⟩, hu2_, hne2⟩ := id h11; obtain ⟨g3, k3_, rfl, hq3_⟩ := id hu2_; clear hq3_ hu2_ q2
        have rc0 := hN.c0; have rc1 := hN.c1; have rf0 := hN.f0; have rf1 := hN.f1
        go_wp2_with fail
        first | (refine hK _ _ ⟨rfl, ?_⟩; clear hK K) | refine ⟨rfl, ?_⟩
        go_wp2_with fail
        go_meet
        case rel => exact ⟨w41.heap.size, _, _, rfl, by omega, (hN.set0 _).set1 _, ((h11.set_ (p := ⟨w41.heap.size, 0, none⟩) (show w41.heap.size < _ by omega) _).set_ (p := ⟨w41.heap.size, 1, none⟩) (show w41.heap.size < _ by omega) _).more (by omega), (by repeat (first | exact Below.refl _ _ | apply blw_drew | apply blw_alloc | (refine blw_set ?_ (by first | omega | (simp; done) | (simp; omega)) _) | refine below_chain ?_ (by assumption)))⟩
    · skip
      refine norm_K fun K hK => ?_
      change wpList _ _ _ [_] _ _
      go_wp2_with fail
      have hb41 : Below wq.heap.size wq (wq.alloc (.cells #[.slice none 0 0, .slice none 0 0] 29)) := (by repeat (first | exact Below.refl _ _ | apply blw_drew | apply blw_alloc | (refine blw_set ?_ (by first | omega | (simp; done) | (simp; omega)) _) | refine below_chain ?_ (by assumption)))
      have hs := hs.below hb41; have hx := hx.below hb41; have hy := hy.below hb41; have d0 := kept hb41 d0; have d1 := kept hb41 d1; have x0 := kept hb41 x0; have x1 := kept hb41 x1; have y0 := kept hb41 y0; have y1 := kept hb41 y1; have hq := hq.below hb41; have q0 := kept hb41 q0; have q1 := kept hb41 q1; have hr := hr.below hb41; have r0 := kept hb41 r0; have r1 := kept hb41 r1; have hu := hu.below hb41; have u0 := kept hb41 u0; have u1 := kept hb41 u1; have hS_ := hS_.below hb41; have s0 := kept hb41 s0; have s1 := kept hb41 s1; have hC_ := hC_.below hb41; have k0 := kept hb41 k0; have k1 := kept hb41 k1; have l0 := kept hb41 l0; have l1 := kept hb41 l1; have l2 := kept hb41 l2
      have hN : Bx (wq.alloc (.cells #[.slice none 0 0, .slice none 0 0] 29)) wq.heap.size (.slice none 0 0) (.slice none 0 0) := heap_alloc_new _ _
      have sz41 : wq.heap.size + 1 = (wq.alloc (.cells #[.slice none 0 0, .slice none 0 0] 29)).heap.size := by simp
      go_wp2_with fail
      obtain ⟨w41, hw_⟩ : ∃ x, x = (wq.alloc (.cells #[.slice none 0 0, .slice none 0 0] 29)) := ⟨_, rfl⟩
      rw [← hw_] at hb41 sz41 hs hx hy d0 d1 x0 x1 y0 y1 hq q0 q1 hr r0 r1 hu u0 u1 hS_ s0 s1 hC_ k0 k1 l0 l1 l2 hN ⊢; clear hw_
      go_wp2_with fail
      first | (refine hK _ _ ⟨(by repeat (first | exact Below.refl _ _ | apply blw_drew | apply blw_alloc | (refine blw_set ?_ (by first | omega | (simp; done) | (simp; omega)) _) | refine below_chain ?_ (by assumption))), ?_⟩; clear hK K) | refine ⟨(by repeat (first | exact Below.refl _ _ | apply blw_drew | apply blw_alloc | (refine blw_set ?_ (by first | omega | (simp; done) | (simp; omega)) _) | refine below_chain ?_ (by assumption))), ?_⟩
      refine norm_K fun K hK => ?_
      change wpList _ _ _ [_] _ _
      go_wp2_with fail
      refine (sum9_c hd hs hC_.hv iC hS_.hv iS (by omega) (by omega)).mono ?_; rintro e w42 ⟨v9, rfl, h9, hb42⟩
      have hs := hs.below hb42; have hx := hx.below hb42; have hy := hy.below hb42; have d0 := kept hb42 d0; have d1 := kept hb42 d1; have x0 := kept hb42 x0; have x1 := kept hb42 x1; have y0 := kept hb42 y0; have y1 := kept hb42 y1; have hq := hq.below hb42; have q0 := kept hb42 q0; have q1 := kept hb42 q1; have hr := hr.below hb42; have r0 := kept hb42 r0; have r1 := kept hb42 r1; have hu := hu.below hb42; have u0 := kept hb42 u0; have u1 := kept hb42 u1; have hS_ := hS_.below hb42; have s0 := kept hb42 s0; have s1 := kept hb42 s1; have hC_ := hC_.below hb42; have k0 := kept hb42 k0; have k1 := kept hb42 k1; have l0 := kept hb42 l0; have l1 := kept hb42 l1; have l2 := kept hb42 l2; have hN := hN.below hb42
      have sz42 : w41.heap.size ≤ w42.heap.size := hb42.size
      rw [← HQ1.out] at h9
      go_wp2_with fail
      first | (refine hK _ _ ⟨(by repeat (first | exact Below.refl _ _ | apply blw_drew | apply blw_alloc | (refine blw_set ?_ (by first | omega | (simp; done) | (simp; omega)) _) | refine below_chain ?_ (by assumption))), ?_⟩; clear hK K) | refine ⟨(by repeat (first | exact Below.refl _ _ | apply blw_drew | apply blw_alloc | (refine blw_set ?_ (by first | omega | (simp; done) | (simp; omega)) _) | refine below_chain ?_ (by assumption))), ?_⟩
      refine norm_K fun K hK => ?_
      change wpList _ _ _ [_] _ _
      go_wp2_with fail
      refine (sum9_c hd hs h9.hv iQ1 hx hX (by omega) (by omega)).mono ?_; rintro e w43 ⟨v10, rfl, h10, hb43⟩
      have hs := hs.below hb43; have hx := hx.below hb43; have hy := hy.below hb43; have d0 := kept hb43 d0; have d1 := kept hb43 d1; have x0 := kept hb43 x0; have x1 := kept hb43 x1; have y0 := kept hb43 y0; have y1 := kept hb43 y1; have hq := hq.below hb43; have q0 := kept hb43 q0; have q1 := kept hb43 q1; have hr := hr.below hb43; have r0 := kept hb43 r0; have r1 := kept hb43 r1; have hu := hu.below hb43; have u0 := kept hb43 u0; have u1 := kept hb43 u1; have hS_ := hS_.below hb43; have s0 := kept hb43 s0; have s1 := kept hb43 s1; have hC_ := hC_.below hb43; have k0 := kept hb43 k0; have k1 := kept hb43 k1; have l0 := kept hb43 l0; have l1 := kept hb43 l1; have l2 := kept hb43 l2; have hN := hN.below hb43; have h9 := h9.below hb43
      have sz43 : w42.heap.size ≤ w43.heap.size := hb43.size
      rw [← HQ2.out] at h10
      go_wp2_with fail
      first | (refine hK _ _ ⟨(by repeat (first | exact Below.refl _ _ | apply blw_drew | apply blw_alloc | (refine blw_set ?_ (by first | omega | (simp; done) | (simp; omega)) _) | refine below_chain ?_ (by assumption))), ?_⟩; clear hK K) | refine ⟨(by repeat (first | exact Below.refl _ _ | apply blw_drew | apply blw_alloc | (refine blw_set ?_ (by first | omega | (simp; done) | (simp; omega)) _) | refine below_chain ?_ (by assumption))), ?_⟩
      refine norm_K fun K hK => ?_
      change wpList _ _ _ [_, _] _ _
      go_wp2_with fail
      refine (sum9_c hd hs h10.hv iQ2 hu.hv iU (by omega) (by omega)).mono ?_; rintro e w44 ⟨v11, rfl, h11, hb44⟩
      have hs := hs.below hb44; have hx := hx.below hb44; have hy := hy.below hb44; have d0 := kept hb44 d0; have d1 := kept hb44 d1; have x0 := kept hb44 x0; have x1 := kept hb44 x1; have y0 := kept hb44 y0; have y1 := kept hb44 y1; have hq := hq.below hb44; have q0 := kept hb44 q0; have q1 := kept hb44 q1; have hr := hr.below hb44; have r0 := kept hb44 r0; have r1 := kept hb44 r1; have hu := hu.below hb44; have u0 := kept hb44 u0; have u1 := kept hb44 u1; have hS_ := hS_.below hb44; have s0 := kept hb44 s0; have s1 := kept hb44 s1; have hC_ := hC_.below hb44; have k0 := kept hb44 k0; have k1 := kept hb44 k1; have l0 := kept hb44 l0; have l1 := kept hb44 l1; have l2 := kept hb44 l2; have hN := hN.below hb44; have h9 := h9.below hb44; have h10 := h10.below hb44
      have sz44 : w43.heap.size ≤ w44.heap.size := hb44.size
      rw [← HQ3.out] at h11
      obtain ⟨d2, u2, us2, rfl, ⟨g2, k2_, rfl, q2⟩, hu2_, hne2⟩ := id h11; obtain ⟨g3, k3_, rfl, hq3_⟩ := id hu2_; clear hq3_ hu2_ q2
      have rc0 := hN.c0; have rc1 := hN.c1; have rf0 := hN.f0; have rf1 := hN.f1
      go_wp2_with fail
      first | (refine hK _ _ ⟨rfl, ?_⟩; clear hK K) | refine ⟨rfl, ?_⟩
      go_wp2_with fail
      go_meet
      case rel => exact ⟨wq.heap.size, _, _, rfl, by omega, (hN.set0 _).set1 _, ((h11.set_ (p := ⟨wq.heap.size, 0, none⟩) (show wq.heap.size < _ by omega) _).set_ (p := ⟨wq.heap.size, 1, none⟩) (show wq.heap.size < _ by omega) _).more (by omega), (by repeat (first | exact Below.refl _ _ | apply blw_drew | apply blw_alloc | (refine blw_set ?_ (by first | omega | (simp; done) | (simp; omega)) _) | refine below_chain ?_ (by assumption)))⟩
  case' rest => skip
  obtain ⟨N0, dN, uN, rfl, hN0, hN, hF, hbC⟩ := hcut
  have hs := hs.below hbC; have hx := hx.below hbC; have hy := hy.below hbC; have d0 := kept hbC d0; have d1 := kept hbC d1; have x0 := kept hbC x0; have x1 := kept hbC x1; have y0 := kept hbC y0; have y1 := kept hbC y1; have hq := hq.below hbC; have q0 := kept hbC q0; have q1 := kept hbC q1; have hr := hr.below hbC; have r0 := kept hbC r0; have r1 := kept hbC r1; have hu := hu.below hbC; have u0 := kept hbC u0; have u1 := kept hbC u1; have hS_ := hS_.below hbC; have s0 := kept hbC s0; have s1 := kept hbC s1; have hC_ := hC_.below hbC; have k0 := kept hbC k0; have k1 := kept hbC k1; have l0 := kept hbC l0; have l1 := kept hbC l1; have l2 := kept hbC l2
  rw [HQZ.out] at hF
  obtain ⟨gf1, cf1, gf2, cf2, hfe⟩ := hF.shape
  cases hfe
  have n0 := hN.c0; have n1 := hN.c1
  clear hN
  have hZl := (isH_len iZ0).1
  rw [hZl] at n0 hF
  have HZl := Lib.hid hZl; clear hZl
  go_wp2_with fail
  refine (sum9_c hd hs hu.hv iU hu.hv iU (by decide) (by decide)).mono ?_; rintro e w21 ⟨vhz_, rfl, hz_, hb21⟩
  have hs := hs.below hb21; have hx := hx.below hb21; have hy := hy.below hb21; have d0 := kept hb21 d0; have d1 := kept hb21 d1; have x0 := kept hb21 x0; have x1 := kept hb21 x1; have y0 := kept hb21 y0; have y1 := kept hb21 y1; have hq := hq.below hb21; have q0 := kept hb21 q0; have q1 := kept hb21 q1; have hr := hr.below hb21; have r0 := kept hb21 r0; have r1 := kept hb21 r1; have hu := hu.below hb21; have u0 := kept hb21 u0; have u1 := kept hb21 u1; have hS_ := hS_.below hb21; have s0 := kept hb21 s0; have s1 := kept hb21 s1; have hC_ := hC_.below hb21; have k0 := kept hb21 k0; have k1 := kept hb21 k1; have l0 := kept hb21 l0; have l1 := kept hb21 l1; have l2 := kept hb21 l2; have hF := hF.below hb21; have n0 := kept hb21 n0; have n1 := kept hb21 n1
  rw [← HZ0.out] at hz_
  obtain ⟨d_hz_, u_hz_, rfl, q_hz_, r_hz_⟩ := hz_.hv; obtain ⟨ahz_, chz_, rfl, _⟩ := q_hz_.op; obtain ⟨bhz_, ehz_, rfl, _⟩ := id r_hz_; clear q_hz_ r_hz_
  have hb22 : Below w21.heap.size w21 (w21.alloc (.cells #[.slice ahz_ Z0.dg.length chz_, .slice bhz_ Z0.up.length ehz_] 29)) := (by repeat (first | exact Below.refl _ _ | apply blw_drew | apply blw_alloc | (refine blw_set ?_ (by first | omega | (simp; done) | (simp; omega)) _) | refine below_chain ?_ (by assumption)))
  have hs := hs.below hb22; have hx := hx.below hb22; have hy := hy.below hb22; have d0 := kept hb22 d0; have d1 := kept hb22 d1; have x0 := kept hb22 x0; have x1 := kept hb22 x1; have y0 := kept hb22 y0; have y1 := kept hb22 y1; have hq := hq.below hb22; have q0 := kept hb22 q0; have q1 := kept hb22 q1; have hr := hr.below hb22; have r0 := kept hb22 r0; have r1 := kept hb22 r1; have hu := hu.below hb22; have u0 := kept hb22 u0; have u1 := kept hb22 u1; have hS_ := hS_.below hb22; have s0 := kept hb22 s0; have s1 := kept hb22 s1; have hC_ := hC_.below hb22; have k0 := kept hb22 k0; have k1 := kept hb22 k1; have l0 := kept hb22 l0; have l1 := kept hb22 l1; have l2 := kept hb22 l2; have hF := hF.below hb22; have n0 := kept hb22 n0; have n1 := kept hb22 n1; have hz_ := hz_.below hb22
  have z0 : (w21.alloc (.cells #[.slice ahz_ Z0.dg.length chz_, .slice bhz_ Z0.up.length ehz_] 29)).cell? ⟨w21.heap.size, 0, none⟩ = some (.slice ahz_ Z0.dg.length chz_) := by simp [go_sem]
  have z1 : (w21.alloc (.cells #[.slice ahz_ Z0.dg.length chz_, .slice bhz_ Z0.up.length ehz_] 29)).cell? ⟨w21.heap.size, 1, none⟩ = some (.slice bhz_ Z0.up.length ehz_) := by simp [go_sem]
  go_wp2_with fail
  refine (herm9_c hF.hv hz_.hv zZ0).mono ?_; rintro e w23 ⟨rfl, hb23⟩
  have hs := hs.below hb23; have hx := hx.below hb23; have hy := hy.below hb23; have d0 := kept hb23 d0; have d1 := kept hb23 d1; have x0 := kept hb23 x0; have x1 := kept hb23 x1; have y0 := kept hb23 y0; have y1 := kept hb23 y1; have hq := hq.below hb23; have q0 := kept hb23 q0; have q1 := kept hb23 q1; have hr := hr.below hb23; have r0 := kept hb23 r0; have r1 := kept hb23 r1; have hu := hu.below hb23; have u0 := kept hb23 u0; have u1 := kept hb23 u1; have hS_ := hS_.below hb23; have s0 := kept hb23 s0; have s1 := kept hb23 s1; have hC_ := hC_.below hb23; have k0 := kept hb23 k0; have k1 := kept hb23 k1; have l0 := kept hb23 l0; have l1 := kept hb23 l1; have l2 := kept hb23 l2; have hF := hF.below hb23; have n0 := kept hb23 n0; have n1 := kept hb23 n1; have hz_ := hz_.below hb23; have z0 := kept hb23 z0; have z1 := kept hb23 z1
  go_wp2_with fail
  go_ret
  exact ⟨rfl, (by repeat (first | exact Below.refl _ _ | apply blw_drew | apply blw_alloc | (refine blw_set ?_ (by first | omega | (simp; done) | (simp; omega)) _) | refine below_chain ?_ (by assumption)))⟩
end Go.Proofs.Ytacfanjejaellaa
