/-
  The law FnJordanForms: its walk.
-/
import Derived.Test.YtacfanjejaellaaGreatHfA
import Derived.Test.YtacfanjejaellaaGreatJbw
import Derived.Test.YtacfanjejaellaaGreatJbt
import Derived.Test.YtacfanjejaellaaGreatJbx
namespace Go.Proofs.YtacfanjejaellaaGreat
open Go.RowKit

set_option maxHeartbeats 32000000 in
set_option maxRecDepth 100000 in
theorem law_JordanForms {a : Option Addr} {n c : Nat} {w : World} (hn : n ≤ 9223372036854775807) (hco : n ≤ 4096 → Co w w.heap.size (.slice a n c) n) :
    Calls Tryz.prog 5 #[.slice a n c] w fun e w' => e = .returned (.bool true) ∧ Below w.heap.size w w' := by
  by_cases hbig : 4096 < n
  · go_enter Tryz.func5, Tryz.ntmps5
    go_wp2_with fail
    refine (big_c hn).mono ?_; rintro e w1 ⟨rfl, rfl⟩
    rw [decide_eq_true hbig]
    go_wp2_with fail
    go_ret
    exact ⟨rfl, Below.refl _ _⟩
  have hc := hco (by omega)
  have hbf : decide (4096 < n) = false := decide_eq_false hbig
  clear hco hbig
  go_enter Tryz.func5, Tryz.ntmps5
  go_wp2_with fail
  refine (big_c hn).mono ?_; rintro e w0 ⟨rfl, rfl⟩
  rw [hbf]
  go_wp2_with fail
  refine (sdrawcross_c hc).mono ?_; rintro e w1 ⟨p, v, x, y, st, X, Y, rfl, hp1, hp2, hl, hE, hV0, hV1, hz0, hz1, hb1⟩
  obtain ⟨av, cv, rfl⟩ := hE.shape
  obtain ⟨ax, cx, b_x, ex, rfl⟩ := hV0.shape
  obtain ⟨ay, cy, b_y, ey, rfl⟩ := hV1.shape
  have hs := hE.1; have hx := hV0.hv; have hy := hV1.hv
  clear hE hV0 hV1
  have hl6 : st.length ≤ 1048576 := by omega
  have hI := fun W v0 v1 v2 (h0 : El W v0 st) (h1 : Hv W v1 X) (h2 : Hv W v2 Y) => iJordanCross_c (w := W) (p0 := p) h0 hl6 h1 hz0 h2 hz1
  have hS := fun W v0 v1 v2 (h0 : El W v0 st) (h1 : Hv W v1 X) (h2 : Hv W v2 Y) => sJordanCross_c (w := W) (p0 := p) h0 hl6 h1 hz0 h2 hz1
  have hno : RJordanCross1 p st X Y ≠ 0 → RJordanCross0 p st X Y = ⟨[], []⟩ := fun h => if_neg h
  have hyl := RJordanCross0_len p st X Y hl6 hz0 hz1
  obtain ⟨k, hk⟩ : ∃ k, k = RJordanCross1 p st X Y := ⟨_, rfl⟩; obtain ⟨P, hP⟩ : ∃ P, P = RJordanCross0 p st X Y := ⟨_, rfl⟩
  simp only [← hk, ← hP] at hI hS hno hyl
  have HK := Lib.hid (And.intro hk hP); clear hk hP
  have hb22 : Below w1.heap.size w1 (w1.alloc (.cells #[.int .i64 p, .slice av st.length cv] 26)) := (by repeat (first | exact Below.refl _ _ | apply blw_drew | apply blw_alloc | (refine blw_set ?_ (by first | omega | (simp; done) | (simp; omega)) _) | refine below_chain ?_ (by assumption)))
  have hs := hs.below hb22; have hx := hx.below hb22; have hy := hy.below hb22
  have d0 : (w1.alloc (.cells #[.int .i64 p, .slice av st.length cv] 26)).cell? ⟨w1.heap.size, 0, none⟩ = some (.int .i64 p) := by simp [go_sem]
  have d1 : (w1.alloc (.cells #[.int .i64 p, .slice av st.length cv] 26)).cell? ⟨w1.heap.size, 1, none⟩ = some (.slice av st.length cv) := by simp [go_sem]
  have hb23 : Below (w1.alloc (.cells #[.int .i64 p, .slice av st.length cv] 26)).heap.size (w1.alloc (.cells #[.int .i64 p, .slice av st.length cv] 26)) ((w1.alloc (.cells #[.int .i64 p, .slice av st.length cv] 26)).alloc (.cells #[.slice ax X.dg.length cx, .slice b_x X.up.length ex] 31)) := (by repeat (first | exact Below.refl _ _ | apply blw_drew | apply blw_alloc | (refine blw_set ?_ (by first | omega | (simp; done) | (simp; omega)) _) | refine below_chain ?_ (by assumption)))
  have hs := hs.below hb23; have hx := hx.below hb23; have hy := hy.below hb23; have d0 := kept hb23 d0; have d1 := kept hb23 d1
  have x0 : ((w1.alloc (.cells #[.int .i64 p, .slice av st.length cv] 26)).alloc (.cells #[.slice ax X.dg.length cx, .slice b_x X.up.length ex] 31)).cell? ⟨w1.heap.size + 1, 0, none⟩ = some (.slice ax X.dg.length cx) := by simp [go_sem]
  have x1 : ((w1.alloc (.cells #[.int .i64 p, .slice av st.length cv] 26)).alloc (.cells #[.slice ax X.dg.length cx, .slice b_x X.up.length ex] 31)).cell? ⟨w1.heap.size + 1, 1, none⟩ = some (.slice b_x X.up.length ex) := by simp [go_sem]
  have hb24 : Below ((w1.alloc (.cells #[.int .i64 p, .slice av st.length cv] 26)).alloc (.cells #[.slice ax X.dg.length cx, .slice b_x X.up.length ex] 31)).heap.size ((w1.alloc (.cells #[.int .i64 p, .slice av st.length cv] 26)).alloc (.cells #[.slice ax X.dg.length cx, .slice b_x X.up.length ex] 31)) (((w1.alloc (.cells #[.int .i64 p, .slice av st.length cv] 26)).alloc (.cells #[.slice ax X.dg.length cx, .slice b_x X.up.length ex] 31)).alloc (.cells #[.slice ay Y.dg.length cy, .slice b_y Y.up.length ey] 31)) := (by repeat (first | exact Below.refl _ _ | apply blw_drew | apply blw_alloc | (refine blw_set ?_ (by first | omega | (simp; done) | (simp; omega)) _) | refine below_chain ?_ (by assumption)))
  have hs := hs.below hb24; have hx := hx.below hb24; have hy := hy.below hb24; have d0 := kept hb24 d0; have d1 := kept hb24 d1; have x0 := kept hb24 x0; have x1 := kept hb24 x1
  have y0 : (((w1.alloc (.cells #[.int .i64 p, .slice av st.length cv] 26)).alloc (.cells #[.slice ax X.dg.length cx, .slice b_x X.up.length ex] 31)).alloc (.cells #[.slice ay Y.dg.length cy, .slice b_y Y.up.length ey] 31)).cell? ⟨w1.heap.size + 1 + 1, 0, none⟩ = some (.slice ay Y.dg.length cy) := by simp [go_sem]
  have y1 : (((w1.alloc (.cells #[.int .i64 p, .slice av st.length cv] 26)).alloc (.cells #[.slice ax X.dg.length cx, .slice b_x X.up.length ex] 31)).alloc (.cells #[.slice ay Y.dg.length cy, .slice b_y Y.up.length ey] 31)).cell? ⟨w1.heap.size + 1 + 1, 1, none⟩ = some (.slice b_y Y.up.length ey) := by simp [go_sem]
  go_wp2_with fail
  refine (hI _ _ _ _ hs hx hy).mono ?_; rintro e w25 ⟨vhq, rfl, hq, hb25⟩
  have hs := hs.below hb25; have hx := hx.below hb25; have hy := hy.below hb25; have d0 := kept hb25 d0; have d1 := kept hb25 d1; have x0 := kept hb25 x0; have x1 := kept hb25 x1; have y0 := kept hb25 y0; have y1 := kept hb25 y1
  obtain ⟨d_hq, u_hq, rfl, q_hq, r_hq⟩ := hq.hv; obtain ⟨ahq, chq, rfl, _⟩ := q_hq.op; obtain ⟨bhq, ehq, rfl, _⟩ := id r_hq; clear q_hq r_hq
  have hb26 : Below w25.heap.size w25 (w25.alloc (.cells #[.slice ahq P.dg.length chq, .slice bhq P.up.length ehq] 31)) := (by repeat (first | exact Below.refl _ _ | apply blw_drew | apply blw_alloc | (refine blw_set ?_ (by first | omega | (simp; done) | (simp; omega)) _) | refine below_chain ?_ (by assumption)))
  have hs := hs.below hb26; have hx := hx.below hb26; have hy := hy.below hb26; have d0 := kept hb26 d0; have d1 := kept hb26 d1; have x0 := kept hb26 x0; have x1 := kept hb26 x1; have y0 := kept hb26 y0; have y1 := kept hb26 y1; have hq := hq.below hb26
  have q0 : (w25.alloc (.cells #[.slice ahq P.dg.length chq, .slice bhq P.up.length ehq] 31)).cell? ⟨w25.heap.size, 0, none⟩ = some (.slice ahq P.dg.length chq) := by simp [go_sem]
  have q1 : (w25.alloc (.cells #[.slice ahq P.dg.length chq, .slice bhq P.up.length ehq] 31)).cell? ⟨w25.heap.size, 1, none⟩ = some (.slice bhq P.up.length ehq) := by simp [go_sem]
  go_wp2_with fail
  refine (hS _ _ _ _ hs hx hy).mono ?_; rintro e w27 ⟨vhr, rfl, hr, hb27⟩
  have hs := hs.below hb27; have hx := hx.below hb27; have hy := hy.below hb27; have d0 := kept hb27 d0; have d1 := kept hb27 d1; have x0 := kept hb27 x0; have x1 := kept hb27 x1; have y0 := kept hb27 y0; have y1 := kept hb27 y1; have hq := hq.below hb27; have q0 := kept hb27 q0; have q1 := kept hb27 q1
  obtain ⟨d_hr, u_hr, rfl, q_hr, r_hr⟩ := hr.hv; obtain ⟨ahr, chr, rfl, _⟩ := q_hr.op; obtain ⟨bhr, ehr, rfl, _⟩ := id r_hr; clear q_hr r_hr
  have hb28 : Below w27.heap.size w27 (w27.alloc (.cells #[.slice ahr P.dg.length chr, .slice bhr P.up.length ehr] 31)) := (by repeat (first | exact Below.refl _ _ | apply blw_drew | apply blw_alloc | (refine blw_set ?_ (by first | omega | (simp; done) | (simp; omega)) _) | refine below_chain ?_ (by assumption)))
  have hs := hs.below hb28; have hx := hx.below hb28; have hy := hy.below hb28; have d0 := kept hb28 d0; have d1 := kept hb28 d1; have x0 := kept hb28 x0; have x1 := kept hb28 x1; have y0 := kept hb28 y0; have y1 := kept hb28 y1; have hq := hq.below hb28; have q0 := kept hb28 q0; have q1 := kept hb28 q1; have hr := hr.below hb28
  have r0 : (w27.alloc (.cells #[.slice ahr P.dg.length chr, .slice bhr P.up.length ehr] 31)).cell? ⟨w27.heap.size, 0, none⟩ = some (.slice ahr P.dg.length chr) := by simp [go_sem]
  have r1 : (w27.alloc (.cells #[.slice ahr P.dg.length chr, .slice bhr P.up.length ehr] 31)).cell? ⟨w27.heap.size, 1, none⟩ = some (.slice bhr P.up.length ehr) := by simp [go_sem]
  go_wp2_with fail
  refine (herm9_c hq.hv hr.hv hyl.toHsz).mono ?_; rintro e w29 ⟨rfl, hb29⟩
  have hs := hs.below hb29; have hx := hx.below hb29; have hy := hy.below hb29; have d0 := kept hb29 d0; have d1 := kept hb29 d1; have x0 := kept hb29 x0; have x1 := kept hb29 x1; have y0 := kept hb29 y0; have y1 := kept hb29 y1; have hq := hq.below hb29; have q0 := kept hb29 q0; have q1 := kept hb29 q1; have hr := hr.below hb29; have r0 := kept hb29 r0; have r1 := kept hb29 r1
  by_cases hk0 : k = 0
  case neg =>
    obtain rfl := hno hk0
    have hkb : (k == 0) = false := by simpa using hk0
    go_wp2_with fail
    go_ret
    exact ⟨rfl, (by repeat (first | exact Below.refl _ _ | apply blw_drew | apply blw_alloc | (refine blw_set ?_ (by first | omega | (simp; done) | (simp; omega)) _) | refine below_chain ?_ (by assumption)))⟩
  subst hk0
  have hk1 : chkH p st [X, Y] = 0 := HK.out.1.symm
  obtain ⟨hd, hall⟩ := chkH_pos hk1
  have hX : isH p (sz st.length) X = true := by simp at hall; exact hall.1
  have hY : isH p (sz st.length) Y = true := by simp at hall; exact hall.2
  have hPJ : P = crossH p st X Y := HK.out.2.trans (if_pos hk1)
  have h2p : 2 ≤ p := by have := hd.hp.lo; omega
  have iP : isH p (sz st.length) P = true := by rw [hPJ]; exact crossH_is h2p hX hY
  have zP := isH_hsz hd iP
  have HP := Lib.hid hPJ
  have hZX := isH_hsz hd hX; have hZY := isH_hsz hd hY
  clear hall hk1 hPJ hno hI hS HK hyl
  have iU : isH p (sz st.length) (unitH (sz st.length)) = true := unitH_is h2p
  have zU := isH_hsz hd iU
  obtain ⟨U, hU_⟩ : ∃ z_, z_ = unitH (sz st.length) := ⟨_, rfl⟩
  simp only [← hU_] at iU zU
  have HU := Lib.hid hU_; clear hU_
  have hU := fun W v0 (h0 : El W v0 st) => iJordanUnit_c (w := W) (p0 := p) h0 hl6
  have hU0 : chkH p st [] = 0 := chkH_ok hd rfl
  rw [show RJordanUnit0 p st = U by rw [HU.out]; exact if_pos hU0, show RJordanUnit1 p st = 0 from hU0] at hU
  clear hU0
  have hcw := hc
  have iJ : isH p (sz st.length) (jordanH p st X Y) = true := jordanH_is h2p hX hY
  have zJ := isH_hsz hd iJ
  obtain ⟨J, hJ_⟩ : ∃ z_, z_ = jordanH p st X Y := ⟨_, rfl⟩
  simp only [← hJ_] at iJ zJ
  have HJ := Lib.hid hJ_; clear hJ_
  have iZ : isH p (sz st.length) (sumH p J 2 U) = true := sumH_is (by omega) iJ iU
  have zZ := isH_hsz hd iZ
  obtain ⟨Z, hZ_⟩ : ∃ z_, z_ = sumH p J 2 U := ⟨_, rfl⟩
  simp only [← hZ_] at iZ zZ
  have HZ := Lib.hid hZ_; clear hZ_
  have iA : isH p (sz st.length) (adjH p st X) = true := adjH_is h2p hX
  have zA := isH_hsz hd iA
  obtain ⟨A, hA_⟩ : ∃ z_, z_ = adjH p st X := ⟨_, rfl⟩
  simp only [← hA_] at iA zA
  have HA := Lib.hid hA_; clear hA_
  have iB : isH p (sz st.length) (adjH p st A) = true := adjH_is h2p iA
  have zB := isH_hsz hd iB
  obtain ⟨B, hB_⟩ : ∃ z_, z_ = adjH p st A := ⟨_, rfl⟩
  simp only [← hB_] at iB zB
  have HB := Lib.hid hB_; clear hB_
  have iO : isH p (sz st.length) (crossH p st Y Z) = true := crossH_is h2p hY iZ
  have zO := isH_hsz hd iO
  obtain ⟨O, hO_⟩ : ∃ z_, z_ = crossH p st Y Z := ⟨_, rfl⟩
  simp only [← hO_] at iO zO
  have HO := Lib.hid hO_; clear hO_
  have iK : isH p (sz st.length) (jordanH p st Y Z) = true := jordanH_is h2p hY iZ
  have zK := isH_hsz hd iK
  obtain ⟨K, hK_⟩ : ∃ z_, z_ = jordanH p st Y Z := ⟨_, rfl⟩
  simp only [← hK_] at iK zK
  have HK := Lib.hid hK_; clear hK_
  have iS : isH p (sz st.length) (jordanH p st X X) = true := jordanH_is h2p hX hX
  have zS := isH_hsz hd iS
  obtain ⟨S, hS_⟩ : ∃ z_, z_ = jordanH p st X X := ⟨_, rfl⟩
  simp only [← hS_] at iS zS
  have HS := Lib.hid hS_; clear hS_
  have iN0 : isH p (sz st.length) (sumH p X (-1) X) = true := sumH_is (by omega) hX hX
  have zN0 := isH_hsz hd iN0
  obtain ⟨N0, hN0_⟩ : ∃ z_, z_ = sumH p X (-1) X := ⟨_, rfl⟩
  simp only [← hN0_] at iN0 zN0
  have HN0 := Lib.hid hN0_; clear hN0_
  obtain ⟨n1, hn1⟩ : ∃ t, t = detH p st X := ⟨_, rfl⟩; obtain ⟨v1, hv1⟩ : ∃ t, t = pairH p st J Z := ⟨_, rfl⟩; obtain ⟨v2, hv2⟩ : ∃ t, t = pairH p st A X := ⟨_, rfl⟩; obtain ⟨v3, hv3⟩ : ∃ t, t = pairH p st P Z := ⟨_, rfl⟩; obtain ⟨n4, hn4⟩ : ∃ t, t = detH p st S := ⟨_, rfl⟩
  have bn1 : 0 ≤ n1 ∧ n1 < p := by rw [hn1]; exact det_fp2 h2p
  have E1 := Lib.hid (show pairH p st X K = v1 by rw [hv1, HJ.out, HK.out]; exact (pair_assoc hd hX hY iZ).symm)
  have E2 := Lib.hid (show (v2 != 3 * n1 % p) = false by rw [bne_eq_false_iff_eq, hv2, hn1, HA.out]; exact pair_adj hd hX)
  have E3 := Lib.hid (show pairH p st O X = v3 by rw [hv3, HO.out, HP.out]; exact (pair_cross hd hX hY iZ).symm)
  have E4 := Lib.hid (show (n4 != n1 * n1 % p) = false by rw [bne_eq_false_iff_eq, hn4, hn1, HS.out]; exact det_sq hd hX)
  have E5 := Lib.hid (show sumH p N0 n1 X = B by rw [HN0.out, hn1, multH_sum hX, HB.out, HA.out]; exact (adj_adj hd hX).symm)
  have HV := Lib.hid (And.intro hn1 (And.intro hv1 (And.intro hv2 (And.intro hv3 hn4)))); clear hn1 hv1 hv2 hv3 hn4
  have cA := fun W v0 v1 (h0 : El W v0 st) (h1 : Hv W v1 X) => iJordanAdjoint_c (w := W) (p0 := p) h0 hl6 h1 hZX
  have cA_ : chkH p st [X] = 0 := chkH_ok hd (by simp [hX])
  rw [show RJordanAdjoint0 p st X = A by rw [HA.out]; exact if_pos cA_, show RJordanAdjoint1 p st X = 0 from cA_] at cA
  have cB := fun W v0 v1 (h0 : El W v0 st) (h1 : Hv W v1 A) => iJordanAdjoint_c (w := W) (p0 := p) h0 hl6 h1 zA
  have cB_ : chkH p st [A] = 0 := chkH_ok hd (by simp [iA])
  rw [show RJordanAdjoint0 p st A = B by rw [HB.out]; exact if_pos cB_, show RJordanAdjoint1 p st A = 0 from cB_] at cB
  clear cA_ cB_
  have cO := fun W v0 v1 v2 (h0 : El W v0 st) (h1 : Hv W v1 Y) (h2 : Hv W v2 Z) => iJordanCross_c (w := W) (p0 := p) h0 hl6 h1 hZY h2 zZ
  have cO_ : chkH p st [Y, Z] = 0 := chkH_ok hd (by simp [hY, iZ])
  rw [show RJordanCross0 p st Y Z = O by rw [HO.out]; exact if_pos cO_, show RJordanCross1 p st Y Z = 0 from cO_] at cO
  clear cO_
  go_wp2_with fail
  refine (hU _ _ hs).mono ?_; rintro e w30 ⟨vhu, rfl, hu, hb30⟩
  have hs := hs.below hb30; have hx := hx.below hb30; have hy := hy.below hb30; have d0 := kept hb30 d0; have d1 := kept hb30 d1; have x0 := kept hb30 x0; have x1 := kept hb30 x1; have y0 := kept hb30 y0; have y1 := kept hb30 y1; have hq := hq.below hb30; have q0 := kept hb30 q0; have q1 := kept hb30 q1; have hr := hr.below hb30; have r0 := kept hb30 r0; have r1 := kept hb30 r1
  obtain ⟨d_hu, u_hu, rfl, q_hu, r_hu⟩ := hu.hv; obtain ⟨ahu, chu, rfl, _⟩ := q_hu.op; obtain ⟨bhu, ehu, rfl, _⟩ := id r_hu; clear q_hu r_hu
  have hb31 : Below w30.heap.size w30 (w30.alloc (.cells #[.slice ahu U.dg.length chu, .slice bhu U.up.length ehu] 31)) := (by repeat (first | exact Below.refl _ _ | apply blw_drew | apply blw_alloc | (refine blw_set ?_ (by first | omega | (simp; done) | (simp; omega)) _) | refine below_chain ?_ (by assumption)))
  have hs := hs.below hb31; have hx := hx.below hb31; have hy := hy.below hb31; have d0 := kept hb31 d0; have d1 := kept hb31 d1; have x0 := kept hb31 x0; have x1 := kept hb31 x1; have y0 := kept hb31 y0; have y1 := kept hb31 y1; have hq := hq.below hb31; have q0 := kept hb31 q0; have q1 := kept hb31 q1; have hr := hr.below hb31; have r0 := kept hb31 r0; have r1 := kept hb31 r1; have hu := hu.below hb31
  have u0 : (w30.alloc (.cells #[.slice ahu U.dg.length chu, .slice bhu U.up.length ehu] 31)).cell? ⟨w30.heap.size, 0, none⟩ = some (.slice ahu U.dg.length chu) := by simp [go_sem]
  have u1 : (w30.alloc (.cells #[.slice ahu U.dg.length chu, .slice bhu U.up.length ehu] 31)).cell? ⟨w30.heap.size, 1, none⟩ = some (.slice bhu U.up.length ehu) := by simp [go_sem]
  go_upto_region 11 with fail
  generalize hwE : (w30.alloc (.cells #[.slice ahu U.dg.length chu, .slice bhu U.up.length ehu] 31)) = wE at *
  clear hwE
  go_cut [12] (fun s_ wx => ∃ N d u, s_ = .pointer (some ⟨N, 0, none⟩) ∧ wE.heap.size ≤ N ∧ Bx wx N d u ∧ FrH wx wE.heap.size (.agg #[d, u]) (Z) ∧ Below wE.heap.size wE wx)
  case first =>
    refine region_tq [(0, 1), (1, 1), (2, 1), (3, 1), (5, 1)] (.two 4 5 (.two 6 5 (.lin [(false, [(7, 5)]), (false, [(8, 4)])]) 7 5 (.lin [(false, [(6, 4), (8, 4)])])) 7 5 (.lin [(false, [(4, 5)]), (false, [(6, 4), (8, 4)])])) (by kernel_rfl) ?_
    refine norm_K fun K hK => ?_
    change wpList _ _ _ [_, _, _, _, _] _ _
    go_wp2_with fail
    have hbq : Below wE.heap.size wE wE.drew := (by repeat (first | exact Below.refl _ _ | apply blw_drew | apply blw_alloc | (refine blw_set ?_ (by first | omega | (simp; done) | (simp; omega)) _) | refine below_chain ?_ (by assumption)))
    have hs := hs.below hbq; have hx := hx.below hbq; have hy := hy.below hbq; have d0 := kept hbq d0; have d1 := kept hbq d1; have x0 := kept hbq x0; have x1 := kept hbq x1; have y0 := kept hbq y0; have y1 := kept hbq y1; have hq := hq.below hbq; have q0 := kept hbq q0; have q1 := kept hbq q1; have hr := hr.below hbq; have r0 := kept hbq r0; have r1 := kept hbq r1; have hu := hu.below hbq; have u0 := kept hbq u0; have u1 := kept hbq u1
    have szq : wE.heap.size = wE.drew.heap.size := rfl
    generalize wE.drew = wq at *
    refine hK _ _ ?_; clear hK K
    refine ⟨?_, ?_⟩
    · skip
      refine norm_K fun K hK => ?_
      change wpList _ _ _ [_] _ _
      go_wp2_with fail
      refine (jordan9_c hd hs hx hX hy hY).mono ?_; rintro e w41 ⟨v9, rfl, h9, hb41⟩
      have hs := hs.below hb41; have hx := hx.below hb41; have hy := hy.below hb41; have d0 := kept hb41 d0; have d1 := kept hb41 d1; have x0 := kept hb41 x0; have x1 := kept hb41 x1; have y0 := kept hb41 y0; have y1 := kept hb41 y1; have hq := hq.below hb41; have q0 := kept hb41 q0; have q1 := kept hb41 q1; have hr := hr.below hb41; have r0 := kept hb41 r0; have r1 := kept hb41 r1; have hu := hu.below hb41; have u0 := kept hb41 u0; have u1 := kept hb41 u1
      have sz41 : wq.heap.size ≤ w41.heap.size := hb41.size
      rw [← HJ.out] at h9
      go_wp2_with fail
      first | (refine hK _ _ ⟨(by repeat (first | exact Below.refl _ _ | apply blw_drew | apply blw_alloc | (refine blw_set ?_ (by first | omega | (simp; done) | (simp; omega)) _) | refine below_chain ?_ (by assumption))), ?_⟩; clear hK K) | refine ⟨(by repeat (first | exact Below.refl _ _ | apply blw_drew | apply blw_alloc | (refine blw_set ?_ (by first | omega | (simp; done) | (simp; omega)) _) | refine below_chain ?_ (by assumption))), ?_⟩
      refine ⟨?_, ?_⟩
      · skip
        refine norm_K fun K hK => ?_
        change wpList _ _ _ [_] _ _
        go_wp2_with fail
        refine (sum9_c hd hs h9.hv iJ hu.hv iU (by decide) (by decide)).mono ?_; rintro e w42 ⟨v11, rfl, h11, hb42⟩
        have hs := hs.below hb42; have hx := hx.below hb42; have hy := hy.below hb42; have d0 := kept hb42 d0; have d1 := kept hb42 d1; have x0 := kept hb42 x0; have x1 := kept hb42 x1; have y0 := kept hb42 y0; have y1 := kept hb42 y1; have hq := hq.below hb42; have q0 := kept hb42 q0; have q1 := kept hb42 q1; have hr := hr.below hb42; have r0 := kept hb42 r0; have r1 := kept hb42 r1; have hu := hu.below hb42; have u0 := kept hb42 u0; have u1 := kept hb42 u1; have h9 := h9.below hb42
        have sz42 : w41.heap.size ≤ w42.heap.size := hb42.size
        rw [← HZ.out] at h11
        obtain ⟨d2, u2, us2, rfl, ⟨g2, k2_, rfl, q2⟩, hu2_, hne2⟩ := id h11; obtain ⟨g3, k3_, rfl, hq3_⟩ := id hu2_; clear hq3_ hu2_ q2
        go_wp2_with fail
        first | (refine hK _ _ ⟨(by repeat (first | exact Below.refl _ _ | apply blw_drew | apply blw_alloc | (refine blw_set ?_ (by first | omega | (simp; done) | (simp; omega)) _) | refine below_chain ?_ (by assumption))), ?_⟩; clear hK K) | refine ⟨(by repeat (first | exact Below.refl _ _ | apply blw_drew | apply blw_alloc | (refine blw_set ?_ (by first | omega | (simp; done) | (simp; omega)) _) | refine below_chain ?_ (by assumption))), ?_⟩
        refine norm_K fun K hK => ?_
        change wpList _ _ _ [_] _ _
        go_wp2_with fail
        have hb43 : Below w42.heap.size w42 (w42.alloc (.cells #[.slice none 0 0, .slice none 0 0] 31)) := (by repeat (first | exact Below.refl _ _ | apply blw_drew | apply blw_alloc | (refine blw_set ?_ (by first | omega | (simp; done) | (simp; omega)) _) | refine below_chain ?_ (by assumption)))
        have h11A := h11; have hbA := hb43
        have hs := hs.below hb43; have hx := hx.below hb43; have hy := hy.below hb43; have d0 := kept hb43 d0; have d1 := kept hb43 d1; have x0 := kept hb43 x0; have x1 := kept hb43 x1; have y0 := kept hb43 y0; have y1 := kept hb43 y1; have hq := hq.below hb43; have q0 := kept hb43 q0; have q1 := kept hb43 q1; have hr := hr.below hb43; have r0 := kept hb43 r0; have r1 := kept hb43 r1; have hu := hu.below hb43; have u0 := kept hb43 u0; have u1 := kept hb43 u1; have h9 := h9.below hb43; have h11 := h11.below hb43
        have hN : Bx (w42.alloc (.cells #[.slice none 0 0, .slice none 0 0] 31)) w42.heap.size (.slice none 0 0) (.slice none 0 0) := heap_alloc_new _ _
        have sz43 : w42.heap.size + 1 = (w42.alloc (.cells #[.slice none 0 0, .slice none 0 0] 31)).heap.size := by simp
        go_wp2_with fail
        obtain ⟨w43, hw_⟩ : ∃ x, x = (w42.alloc (.cells #[.slice none 0 0, .slice none 0 0] 31)) := ⟨_, rfl⟩
        rw [← hw_] at hb43 sz43 hs hx hy d0 d1 x0 x1 y0 y1 hq q0 q1 hr r0 r1 hu u0 u1 h9 h11 hN hbA ⊢; clear hw_
        go_wp2_with fail
        first | (refine hK _ _ ⟨(by repeat (first | exact Below.refl _ _ | apply blw_drew | apply blw_alloc | (refine blw_set ?_ (by first | omega | (simp; done) | (simp; omega)) _) | refine below_chain ?_ (by assumption))), ?_⟩; clear hK K) | refine ⟨(by repeat (first | exact Below.refl _ _ | apply blw_drew | apply blw_alloc | (refine blw_set ?_ (by first | omega | (simp; done) | (simp; omega)) _) | refine below_chain ?_ (by assumption))), ?_⟩
        refine norm_K fun K hK => ?_
        change wpList _ _ _ [_] _ _
        have rc0 := hN.c0; have rc1 := hN.c1; have rf0 := hN.f0; have rf1 := hN.f1
        go_wp2_with fail
        first | (refine hK _ _ ⟨rfl, ?_⟩; clear hK K) | refine ⟨rfl, ?_⟩
        go_wp2_with fail
        go_meet
        case rel => exact ⟨w42.heap.size, _, _, rfl, by omega, (hN.set0 _).set1 _, (h11A.below (blw_set (p := ⟨w42.heap.size, 1, none⟩) (blw_set (p := ⟨w42.heap.size, 0, none⟩) hbA (Nat.le_refl _) _) (Nat.le_refl _) _)).more (by omega), (by repeat (first | exact Below.refl _ _ | apply blw_drew | apply blw_alloc | (refine blw_set ?_ (by first | omega | (simp; done) | (simp; omega)) _) | refine below_chain ?_ (by assumption)))⟩
      · skip
        refine norm_K fun K hK => ?_
        change wpList _ _ _ [_] _ _
        go_wp2_with fail
        have hb42 : Below w41.heap.size w41 (w41.alloc (.cells #[.slice none 0 0, .slice none 0 0] 31)) := (by repeat (first | exact Below.refl _ _ | apply blw_drew | apply blw_alloc | (refine blw_set ?_ (by first | omega | (simp; done) | (simp; omega)) _) | refine below_chain ?_ (by assumption)))
        have hs := hs.below hb42; have hx := hx.below hb42; have hy := hy.below hb42; have d0 := kept hb42 d0; have d1 := kept hb42 d1; have x0 := kept hb42 x0; have x1 := kept hb42 x1; have y0 := kept hb42 y0; have y1 := kept hb42 y1; have hq := hq.below hb42; have q0 := kept hb42 q0; have q1 := kept hb42 q1; have hr := hr.below hb42; have r0 := kept hb42 r0; have r1 := kept hb42 r1; have hu := hu.below hb42; have u0 := kept hb42 u0; have u1 := kept hb42 u1; have h9 := h9.below hb42
        have hN : Bx (w41.alloc (.cells #[.slice none 0 0, .slice none 0 0] 31)) w41.heap.size (.slice none 0 0) (.slice none 0 0) := heap_alloc_new _ _
        have sz42 : w41.heap.size + 1 = (w41.alloc (.cells #[.slice none 0 0, .slice none 0 0] 31)).heap.size := by simp
        go_wp2_with fail
        obtain ⟨w42, hw_⟩ : ∃ x, x = (w41.alloc (.cells #[.slice none 0 0, .slice none 0 0] 31)) := ⟨_, rfl⟩
        rw [← hw_] at hb42 sz42 hs hx hy d0 d1 x0 x1 y0 y1 hq q0 q1 hr r0 r1 hu u0 u1 h9 hN ⊢; clear hw_
        go_wp2_with fail
        first | (refine hK _ _ ⟨(by repeat (first | exact Below.refl _ _ | apply blw_drew | apply blw_alloc | (refine blw_set ?_ (by first | omega | (simp; done) | (simp; omega)) _) | refine below_chain ?_ (by assumption))), ?_⟩; clear hK K) | refine ⟨(by repeat (first | exact Below.refl _ _ | apply blw_drew | apply blw_alloc | (refine blw_set ?_ (by first | omega | (simp; done) | (simp; omega)) _) | refine below_chain ?_ (by assumption))), ?_⟩
        refine norm_K fun K hK => ?_
        change wpList _ _ _ [_, _] _ _
        go_wp2_with fail
        refine (sum9_c hd hs h9.hv iJ hu.hv iU (by decide) (by decide)).mono ?_; rintro e w43 ⟨v11, rfl, h11, hb43⟩
        have hs := hs.below hb43; have hx := hx.below hb43; have hy := hy.below hb43; have d0 := kept hb43 d0; have d1 := kept hb43 d1; have x0 := kept hb43 x0; have x1 := kept hb43 x1; have y0 := kept hb43 y0; have y1 := kept hb43 y1; have hq := hq.below hb43; have q0 := kept hb43 q0; have q1 := kept hb43 q1; have hr := hr.below hb43; have r0 := kept hb43 r0; have r1 := kept hb43 r1; have hu := hu.below hb43; have u0 := kept hb43 u0; have u1 := kept hb43 u1; have h9 := h9.below hb43; have hN := hN.below hb43
        have sz43 : w42.heap.size ≤ w43.heap.size := hb43.size
        rw [← HZ.out] at h11
        obtain ⟨d2, u2, us2, rfl, ⟨g2, k2_, rfl, q2⟩, hu2_, hne2⟩ := id h11; obtain ⟨g3, k3_, rfl, hq3_⟩ := id hu2_; clear hq3_ hu2_ q2
        have rc0 := hN.c0; have rc1 := hN.c1; have rf0 := hN.f0; have rf1 := hN.f1
        go_wp2_with fail
        first | (refine hK _ _ ⟨rfl, ?_⟩; clear hK K) | refine ⟨rfl, ?_⟩
        go_wp2_with fail
        go_meet
        case rel => exact ⟨w41.heap.size, _, _, rfl, by omega, (hN.set0 _).set1 _, ((h11.set_ (p := ⟨w41.heap.size, 0, none⟩) (show w41.heap.size < _ by omega) _).set_ (p := ⟨w41.heap.size, 1, none⟩) (show w41.heap.size < _ by omega) _).more (by omega), (by repeat (first | exact Below.refl _ _ | apply blw_drew | apply blw_alloc | (refine blw_set ?_ (by first | omega | (simp; done) | (simp; omega)) _) | refine below_chain ?_ (by assumption)))⟩
    · skip
      refine norm_K fun K hK => ?_
      change wpList _ _ _ [_] _ _
      go_wp2_with fail
      have hb41 : Below wq.heap.size wq (wq.alloc (.cells #[.slice none 0 0, .slice none 0 0] 31)) := (by repeat (first | exact Below.refl _ _ | apply blw_drew | apply blw_alloc | (refine blw_set ?_ (by first | omega | (simp; done) | (simp; omega)) _) | refine below_chain ?_ (by assumption)))
      have hs := hs.below hb41; have hx := hx.below hb41; have hy := hy.below hb41; have d0 := kept hb41 d0; have d1 := kept hb41 d1; have x0 := kept hb41 x0; have x1 := kept hb41 x1; have y0 := kept hb41 y0; have y1 := kept hb41 y1; have hq := hq.below hb41; have q0 := kept hb41 q0; have q1 := kept hb41 q1; have hr := hr.below hb41; have r0 := kept hb41 r0; have r1 := kept hb41 r1; have hu := hu.below hb41; have u0 := kept hb41 u0; have u1 := kept hb41 u1
      have hN : Bx (wq.alloc (.cells #[.slice none 0 0, .slice none 0 0] 31)) wq.heap.size (.slice none 0 0) (.slice none 0 0) := heap_alloc_new _ _
      have sz41 : wq.heap.size + 1 = (wq.alloc (.cells #[.slice none 0 0, .slice none 0 0] 31)).heap.size := by simp
      go_wp2_with fail
      obtain ⟨w41, hw_⟩ : ∃ x, x = (wq.alloc (.cells #[.slice none 0 0, .slice none 0 0] 31)) := ⟨_, rfl⟩
      rw [← hw_] at hb41 sz41 hs hx hy d0 d1 x0 x1 y0 y1 hq q0 q1 hr r0 r1 hu u0 u1 hN ⊢; clear hw_
      go_wp2_with fail
      first | (refine hK _ _ ⟨(by repeat (first | exact Below.refl _ _ | apply blw_drew | apply blw_alloc | (refine blw_set ?_ (by first | omega | (simp; done) | (simp; omega)) _) | refine below_chain ?_ (by assumption))), ?_⟩; clear hK K) | refine ⟨(by repeat (first | exact Below.refl _ _ | apply blw_drew | apply blw_alloc | (refine blw_set ?_ (by first | omega | (simp; done) | (simp; omega)) _) | refine below_chain ?_ (by assumption))), ?_⟩
      refine norm_K fun K hK => ?_
      change wpList _ _ _ [_] _ _
      go_wp2_with fail
      refine (jordan9_c hd hs hx hX hy hY).mono ?_; rintro e w42 ⟨v9, rfl, h9, hb42⟩
      have hs := hs.below hb42; have hx := hx.below hb42; have hy := hy.below hb42; have d0 := kept hb42 d0; have d1 := kept hb42 d1; have x0 := kept hb42 x0; have x1 := kept hb42 x1; have y0 := kept hb42 y0; have y1 := kept hb42 y1; have hq := hq.below hb42; have q0 := kept hb42 q0; have q1 := kept hb42 q1; have hr := hr.below hb42; have r0 := kept hb42 r0; have r1 := kept hb42 r1; have hu := hu.below hb42; have u0 := kept hb42 u0; have u1 := kept hb42 u1; have hN := hN.below hb42
      have sz42 : w41.heap.size ≤ w42.heap.size := hb42.size
      rw [← HJ.out] at h9
      go_wp2_with fail
      first | (refine hK _ _ ⟨(by repeat (first | exact Below.refl _ _ | apply blw_drew | apply blw_alloc | (refine blw_set ?_ (by first | omega | (simp; done) | (simp; omega)) _) | refine below_chain ?_ (by assumption))), ?_⟩; clear hK K) | refine ⟨(by repeat (first | exact Below.refl _ _ | apply blw_drew | apply blw_alloc | (refine blw_set ?_ (by first | omega | (simp; done) | (simp; omega)) _) | refine below_chain ?_ (by assumption))), ?_⟩
      refine norm_K fun K hK => ?_
      change wpList _ _ _ [_, _] _ _
      go_wp2_with fail
      refine (sum9_c hd hs h9.hv iJ hu.hv iU (by decide) (by decide)).mono ?_; rintro e w43 ⟨v11, rfl, h11, hb43⟩
      have hs := hs.below hb43; have hx := hx.below hb43; have hy := hy.below hb43; have d0 := kept hb43 d0; have d1 := kept hb43 d1; have x0 := kept hb43 x0; have x1 := kept hb43 x1; have y0 := kept hb43 y0; have y1 := kept hb43 y1; have hq := hq.below hb43; have q0 := kept hb43 q0; have q1 := kept hb43 q1; have hr := hr.below hb43; have r0 := kept hb43 r0; have r1 := kept hb43 r1; have hu := hu.below hb43; have u0 := kept hb43 u0; have u1 := kept hb43 u1; have hN := hN.below hb43; have h9 := h9.below hb43
      have sz43 : w42.heap.size ≤ w43.heap.size := hb43.size
      rw [← HZ.out] at h11
      obtain ⟨d2, u2, us2, rfl, ⟨g2, k2_, rfl, q2⟩, hu2_, hne2⟩ := id h11; obtain ⟨g3, k3_, rfl, hq3_⟩ := id hu2_; clear hq3_ hu2_ q2
      have rc0 := hN.c0; have rc1 := hN.c1; have rf0 := hN.f0; have rf1 := hN.f1
      go_wp2_with fail
      first | (refine hK _ _ ⟨rfl, ?_⟩; clear hK K) | refine ⟨rfl, ?_⟩
      go_wp2_with fail
      go_meet
      case rel => exact ⟨wq.heap.size, _, _, rfl, by omega, (hN.set0 _).set1 _, ((h11.set_ (p := ⟨wq.heap.size, 0, none⟩) (show wq.heap.size < _ by omega) _).set_ (p := ⟨wq.heap.size, 1, none⟩) (show wq.heap.size < _ by omega) _).more (by omega), (by repeat (first | exact Below.refl _ _ | apply blw_drew | apply blw_alloc | (refine blw_set ?_ (by first | omega | (simp; done) | (simp; omega)) _) | refine below_chain ?_ (by assumption)))⟩
  case' rest => skip
  obtain ⟨N0, dN, uN, rfl, hN0, hN, hF, hbC⟩ := hcut
  have hs := hs.below hbC; have hx := hx.below hbC; have hy := hy.below hbC; have d0 := kept hbC d0; have d1 := kept hbC d1; have x0 := kept hbC x0; have x1 := kept hbC x1; have y0 := kept hbC y0; have y1 := kept hbC y1; have hq := hq.below hbC; have q0 := kept hbC q0; have q1 := kept hbC q1; have hr := hr.below hbC; have r0 := kept hbC r0; have r1 := kept hbC r1; have hu := hu.below hbC; have u0 := kept hbC u0; have u1 := kept hbC u1
  have hFz := hF
  clear hF
  obtain ⟨gf1, cf1, gf2, cf2, hfe⟩ := hFz.shape
  cases hfe
  have n0 := hN.c0; have n1_ := hN.c1
  clear hN
  go_wp2_with fail
  refine (cA _ _ _ hs hx).mono ?_; rintro e w21 ⟨vha, rfl, ha, hb21⟩
  have hs := hs.below hb21; have hx := hx.below hb21; have hy := hy.below hb21; have d0 := kept hb21 d0; have d1 := kept hb21 d1; have x0 := kept hb21 x0; have x1 := kept hb21 x1; have y0 := kept hb21 y0; have y1 := kept hb21 y1; have hq := hq.below hb21; have q0 := kept hb21 q0; have q1 := kept hb21 q1; have hr := hr.below hb21; have r0 := kept hb21 r0; have r1 := kept hb21 r1; have hu := hu.below hb21; have u0 := kept hb21 u0; have u1 := kept hb21 u1; have hFz := hFz.below hb21; have n0 := kept hb21 n0; have n1_ := kept hb21 n1_
  obtain ⟨d_ha, u_ha, rfl, q_ha, r_ha⟩ := ha.hv; obtain ⟨aha, cha, rfl, _⟩ := q_ha.op; obtain ⟨bha, eha, rfl, _⟩ := id r_ha; clear q_ha r_ha
  have hb22 : Below w21.heap.size w21 (w21.alloc (.cells #[.slice aha A.dg.length cha, .slice bha A.up.length eha] 31)) := (by repeat (first | exact Below.refl _ _ | apply blw_drew | apply blw_alloc | (refine blw_set ?_ (by first | omega | (simp; done) | (simp; omega)) _) | refine below_chain ?_ (by assumption)))
  have hs := hs.below hb22; have hx := hx.below hb22; have hy := hy.below hb22; have d0 := kept hb22 d0; have d1 := kept hb22 d1; have x0 := kept hb22 x0; have x1 := kept hb22 x1; have y0 := kept hb22 y0; have y1 := kept hb22 y1; have hq := hq.below hb22; have q0 := kept hb22 q0; have q1 := kept hb22 q1; have hr := hr.below hb22; have r0 := kept hb22 r0; have r1 := kept hb22 r1; have hu := hu.below hb22; have u0 := kept hb22 u0; have u1 := kept hb22 u1; have hFz := hFz.below hb22; have n0 := kept hb22 n0; have n1_ := kept hb22 n1_; have ha := ha.below hb22
  have a0 : (w21.alloc (.cells #[.slice aha A.dg.length cha, .slice bha A.up.length eha] 31)).cell? ⟨w21.heap.size, 0, none⟩ = some (.slice aha A.dg.length cha) := by simp [go_sem]
  have a1 : (w21.alloc (.cells #[.slice aha A.dg.length cha, .slice bha A.up.length eha] 31)).cell? ⟨w21.heap.size, 1, none⟩ = some (.slice bha A.up.length eha) := by simp [go_sem]
  go_wp2_with fail
  refine (cB _ _ _ hs ha.hv).mono ?_; rintro e w23 ⟨vhb_, rfl, hb_, hb23⟩
  have hs := hs.below hb23; have hx := hx.below hb23; have hy := hy.below hb23; have d0 := kept hb23 d0; have d1 := kept hb23 d1; have x0 := kept hb23 x0; have x1 := kept hb23 x1; have y0 := kept hb23 y0; have y1 := kept hb23 y1; have hq := hq.below hb23; have q0 := kept hb23 q0; have q1 := kept hb23 q1; have hr := hr.below hb23; have r0 := kept hb23 r0; have r1 := kept hb23 r1; have hu := hu.below hb23; have u0 := kept hb23 u0; have u1 := kept hb23 u1; have hFz := hFz.below hb23; have n0 := kept hb23 n0; have n1_ := kept hb23 n1_; have ha := ha.below hb23; have a0 := kept hb23 a0; have a1 := kept hb23 a1
  obtain ⟨d_hb_, u_hb_, rfl, q_hb_, r_hb_⟩ := hb_.hv; obtain ⟨ahb_, chb_, rfl, _⟩ := q_hb_.op; obtain ⟨bhb_, ehb_, rfl, _⟩ := id r_hb_; clear q_hb_ r_hb_
  have hb24 : Below w23.heap.size w23 (w23.alloc (.cells #[.slice ahb_ B.dg.length chb_, .slice bhb_ B.up.length ehb_] 31)) := (by repeat (first | exact Below.refl _ _ | apply blw_drew | apply blw_alloc | (refine blw_set ?_ (by first | omega | (simp; done) | (simp; omega)) _) | refine below_chain ?_ (by assumption)))
  have hs := hs.below hb24; have hx := hx.below hb24; have hy := hy.below hb24; have d0 := kept hb24 d0; have d1 := kept hb24 d1; have x0 := kept hb24 x0; have x1 := kept hb24 x1; have y0 := kept hb24 y0; have y1 := kept hb24 y1; have hq := hq.below hb24; have q0 := kept hb24 q0; have q1 := kept hb24 q1; have hr := hr.below hb24; have r0 := kept hb24 r0; have r1 := kept hb24 r1; have hu := hu.below hb24; have u0 := kept hb24 u0; have u1 := kept hb24 u1; have hFz := hFz.below hb24; have n0 := kept hb24 n0; have n1_ := kept hb24 n1_; have ha := ha.below hb24; have a0 := kept hb24 a0; have a1 := kept hb24 a1; have hb_ := hb_.below hb24
  have b0 : (w23.alloc (.cells #[.slice ahb_ B.dg.length chb_, .slice bhb_ B.up.length ehb_] 31)).cell? ⟨w23.heap.size, 0, none⟩ = some (.slice ahb_ B.dg.length chb_) := by simp [go_sem]
  have b1 : (w23.alloc (.cells #[.slice ahb_ B.dg.length chb_, .slice bhb_ B.up.length ehb_] 31)).cell? ⟨w23.heap.size, 1, none⟩ = some (.slice bhb_ B.up.length ehb_) := by simp [go_sem]
  go_wp2_with fail
  refine (cO _ _ _ _ hs hy hFz.hv).mono ?_; rintro e w25 ⟨vho, rfl, ho, hb25⟩
  have hs := hs.below hb25; have hx := hx.below hb25; have hy := hy.below hb25; have d0 := kept hb25 d0; have d1 := kept hb25 d1; have x0 := kept hb25 x0; have x1 := kept hb25 x1; have y0 := kept hb25 y0; have y1 := kept hb25 y1; have hq := hq.below hb25; have q0 := kept hb25 q0; have q1 := kept hb25 q1; have hr := hr.below hb25; have r0 := kept hb25 r0; have r1 := kept hb25 r1; have hu := hu.below hb25; have u0 := kept hb25 u0; have u1 := kept hb25 u1; have hFz := hFz.below hb25; have n0 := kept hb25 n0; have n1_ := kept hb25 n1_; have ha := ha.below hb25; have a0 := kept hb25 a0; have a1 := kept hb25 a1; have hb_ := hb_.below hb25; have b0 := kept hb25 b0; have b1 := kept hb25 b1
  obtain ⟨d_ho, u_ho, rfl, q_ho, r_ho⟩ := ho.hv; obtain ⟨aho, cho, rfl, _⟩ := q_ho.op; obtain ⟨bho, eho, rfl, _⟩ := id r_ho; clear q_ho r_ho
  have hb26 : Below w25.heap.size w25 (w25.alloc (.cells #[.slice aho O.dg.length cho, .slice bho O.up.length eho] 31)) := (by repeat (first | exact Below.refl _ _ | apply blw_drew | apply blw_alloc | (refine blw_set ?_ (by first | omega | (simp; done) | (simp; omega)) _) | refine below_chain ?_ (by assumption)))
  have hs := hs.below hb26; have hx := hx.below hb26; have hy := hy.below hb26; have d0 := kept hb26 d0; have d1 := kept hb26 d1; have x0 := kept hb26 x0; have x1 := kept hb26 x1; have y0 := kept hb26 y0; have y1 := kept hb26 y1; have hq := hq.below hb26; have q0 := kept hb26 q0; have q1 := kept hb26 q1; have hr := hr.below hb26; have r0 := kept hb26 r0; have r1 := kept hb26 r1; have hu := hu.below hb26; have u0 := kept hb26 u0; have u1 := kept hb26 u1; have hFz := hFz.below hb26; have n0 := kept hb26 n0; have n1_ := kept hb26 n1_; have ha := ha.below hb26; have a0 := kept hb26 a0; have a1 := kept hb26 a1; have hb_ := hb_.below hb26; have b0 := kept hb26 b0; have b1 := kept hb26 b1; have ho := ho.below hb26
  have o0 : (w25.alloc (.cells #[.slice aho O.dg.length cho, .slice bho O.up.length eho] 31)).cell? ⟨w25.heap.size, 0, none⟩ = some (.slice aho O.dg.length cho) := by simp [go_sem]
  have o1 : (w25.alloc (.cells #[.slice aho O.dg.length cho, .slice bho O.up.length eho] 31)).cell? ⟨w25.heap.size, 1, none⟩ = some (.slice bho O.up.length eho) := by simp [go_sem]
  go_wp2_with fail
  refine (det9_c hd hs hx hX).mono ?_; rintro e w27 ⟨rfl, hb27⟩
  have hs := hs.below hb27; have hx := hx.below hb27; have hy := hy.below hb27; have d0 := kept hb27 d0; have d1 := kept hb27 d1; have x0 := kept hb27 x0; have x1 := kept hb27 x1; have y0 := kept hb27 y0; have y1 := kept hb27 y1; have hq := hq.below hb27; have q0 := kept hb27 q0; have q1 := kept hb27 q1; have hr := hr.below hb27; have r0 := kept hb27 r0; have r1 := kept hb27 r1; have hu := hu.below hb27; have u0 := kept hb27 u0; have u1 := kept hb27 u1; have hFz := hFz.below hb27; have n0 := kept hb27 n0; have n1_ := kept hb27 n1_; have ha := ha.below hb27; have a0 := kept hb27 a0; have a1 := kept hb27 a1; have hb_ := hb_.below hb27; have b0 := kept hb27 b0; have b1 := kept hb27 b1; have ho := ho.below hb27; have o0 := kept hb27 o0; have o1 := kept hb27 o1
  rw [← HV.out.1]
  go_upto_region 18 with fail
  generalize hwFF : w27 = wF at *
  clear hwFF
  have hpH := hd.hp.hi
  have m1 := mulb (k := n1) (y := n1) (A := 13) (B := 13) (by omega) (by omega) (by omega) (by omega)
  have m0 : 0 ≤ n1 * n1 := Int.mul_nonneg bn1.1 bn1.1
  have e2 := E2.out; have e4 := E4.out
  go_wp2_with fail
  refine region_flowP [(4, 1, []), (4, 2, []), (4, 3, []), (6, 0, []), (6, 1, [4]), (6, 2, [4]), (6, 3, [4]), (6, 5, []), (12, 0, [6]), (12, 1, [6, 4]), (12, 2, [6, 4]), (12, 3, [6, 4]), (12, 5, [6]), (12, 9, []), (12, 10, []), (12, 11, []), (13, 0, [12, 6]), (13, 1, [12, 6, 4]), (13, 2, [12, 6, 4]), (13, 3, [12, 6, 4]), (13, 5, [12, 6]), (13, 7, []), (13, 8, []), (13, 9, [12]), (13, 10, [12]), (13, 11, [12]), (19, 0, [15, 14, 6]), (19, 1, [15, 14, 6, 4]), (19, 2, [15, 14, 6, 4]), (19, 3, [15, 14, 6, 4]), (19, 5, [15, 14, 6]), (19, 7, [15, 13]), (19, 8, [15, 13]), (19, 9, [15, 13, 12]), (19, 10, [15, 13, 12]), (19, 11, [15, 13, 12]), (19, 16, []), (19, 17, []), (19, 18, []), (31, 0, [27, 19, 15, 14, 6]), (31, 1, [27, 19, 15, 14, 6, 4]), (31, 2, [27, 19, 15, 14, 6, 4]), (31, 3, [27, 19, 15, 14, 6, 4]), (31, 5, [27, 19, 15, 14, 6]), (31, 7, [27, 19, 15, 13]), (31, 8, [27, 19, 15, 13]), (31, 9, [27, 19, 15, 13, 12]), (31, 10, [27, 19, 15, 13, 12]), (31, 11, [27, 19, 15, 13, 12]), (31, 16, [27, 19]), (31, 17, [27, 19]), (31, 18, [27, 19]), (31, 23, [27, 26, 25, 24]), (31, 28, []), (31, 29, []), (31, 30, []), (35, 0, [27, 19, 15, 14, 6]), (35, 1, [27, 19, 15, 14, 6, 4]), (35, 2, [27, 19, 15, 14, 6, 4]), (35, 3, [27, 19, 15, 14, 6, 4]), (35, 5, [27, 19, 15, 14, 6]), (35, 7, [27, 19, 15, 13]), (35, 8, [27, 19, 15, 13]), (35, 9, [27, 19, 15, 13, 12]), (35, 10, [27, 19, 15, 13, 12]), (35, 11, [27, 19, 15, 13, 12]), (35, 16, [27, 19]), (35, 17, [27, 19]), (35, 18, [27, 19]), (35, 23, [27, 26, 25, 24]), (35, 28, [31]), (35, 29, [31]), (35, 30, [31]), (35, 32, []), (35, 33, []), (35, 34, [])] [(false, [(0, 1), (1, 1), (2, 1), (3, 1), (5, 1), (7, 1), (8, 1), (9, 1), (10, 1), (11, 1), (4, 5)]), (false, [(6, 5)]), (false, [(12, 5)]), (true, [(13, 3)]), (true, [(14, 0), (15, 0), (16, 1), (17, 1), (18, 1), (20, 0), (21, 0), (22, 0), (23, 1), (24, 0), (19, 3)]), (true, [(25, 0), (26, 0), (27, 0), (28, 1), (29, 1), (30, 1), (32, 1), (33, 1), (34, 1), (31, 3)]), (false, [(35, 4), (36, 0), (37, 0)])] (by kernel_rfl) ?_
  refine norm_K fun K hK => ?_
  change wpList _ _ _ [_, _, _, _, _, _, _, _, _, _, _] _ _
  have hb21 : Below wF.heap.size wF wF.drew := (by repeat (first | exact Below.refl _ _ | apply blw_drew | apply blw_alloc | (refine blw_set ?_ (by first | omega | (simp; done) | (simp; omega)) _) | refine below_chain ?_ (by assumption)))
  have hs := hs.below hb21; have hx := hx.below hb21; have hy := hy.below hb21; have d0 := kept hb21 d0; have d1 := kept hb21 d1; have x0 := kept hb21 x0; have x1 := kept hb21 x1; have y0 := kept hb21 y0; have y1 := kept hb21 y1; have hq := hq.below hb21; have q0 := kept hb21 q0; have q1 := kept hb21 q1; have hr := hr.below hb21; have r0 := kept hb21 r0; have r1 := kept hb21 r1; have hu := hu.below hb21; have u0 := kept hb21 u0; have u1 := kept hb21 u1; have hFz := hFz.below hb21; have n0 := kept hb21 n0; have n1_ := kept hb21 n1_; have ha := ha.below hb21; have a0 := kept hb21 a0; have a1 := kept hb21 a1; have hb_ := hb_.below hb21; have b0 := kept hb21 b0; have b1 := kept hb21 b1; have ho := ho.below hb21; have o0 := kept hb21 o0; have o1 := kept hb21 o1
  generalize wF.drew = wq at *
  go_wp2_with fail
  refine (jordan9_c hd hs hx hX hy hY).mono ?_; rintro e w22 ⟨v5, rfl, h5, hb22⟩
  have hs := hs.below hb22; have hx := hx.below hb22; have hy := hy.below hb22; have d0 := kept hb22 d0; have d1 := kept hb22 d1; have x0 := kept hb22 x0; have x1 := kept hb22 x1; have y0 := kept hb22 y0; have y1 := kept hb22 y1; have hq := hq.below hb22; have q0 := kept hb22 q0; have q1 := kept hb22 q1; have hr := hr.below hb22; have r0 := kept hb22 r0; have r1 := kept hb22 r1; have hu := hu.below hb22; have u0 := kept hb22 u0; have u1 := kept hb22 u1; have hFz := hFz.below hb22; have n0 := kept hb22 n0; have n1_ := kept hb22 n1_; have ha := ha.below hb22; have a0 := kept hb22 a0; have a1 := kept hb22 a1; have hb_ := hb_.below hb22; have b0 := kept hb22 b0; have b1 := kept hb22 b1; have ho := ho.below hb22; have o0 := kept hb22 o0; have o1 := kept hb22 o1
  rw [← HJ.out] at h5
  go_wp2_with fail
  have hz0 : Below wq.heap.size wq w22 := (by repeat (first | exact Below.refl _ _ | apply blw_drew | apply blw_alloc | (refine blw_set ?_ (by first | omega | (simp; done) | (simp; omega)) _) | refine below_chain ?_ (by assumption)))
  first | (refine hK _ _ ⟨hz0, ?_⟩; clear hK K) | refine ⟨hz0, ?_⟩
  clear hz0
  refine norm_K fun K hK => ?_
  change wpList _ _ _ [_] _ _
  go_wp2_with fail
  refine (pair9_c hd hs h5.hv iJ hFz.hv iZ).mono ?_; rintro e w23 ⟨rfl, hb23⟩
  have hs := hs.below hb23; have hx := hx.below hb23; have hy := hy.below hb23; have d0 := kept hb23 d0; have d1 := kept hb23 d1; have x0 := kept hb23 x0; have x1 := kept hb23 x1; have y0 := kept hb23 y0; have y1 := kept hb23 y1; have hq := hq.below hb23; have q0 := kept hb23 q0; have q1 := kept hb23 q1; have hr := hr.below hb23; have r0 := kept hb23 r0; have r1 := kept hb23 r1; have hu := hu.below hb23; have u0 := kept hb23 u0; have u1 := kept hb23 u1; have hFz := hFz.below hb23; have n0 := kept hb23 n0; have n1_ := kept hb23 n1_; have ha := ha.below hb23; have a0 := kept hb23 a0; have a1 := kept hb23 a1; have hb_ := hb_.below hb23; have b0 := kept hb23 b0; have b1 := kept hb23 b1; have ho := ho.below hb23; have o0 := kept hb23 o0; have o1 := kept hb23 o1; have h5 := h5.below hb23
  rw [← HV.out.2.1]
  go_wp2_with fail
  have hz1 : Below wq.heap.size wq w23 := (by repeat (first | exact Below.refl _ _ | apply blw_drew | apply blw_alloc | (refine blw_set ?_ (by first | omega | (simp; done) | (simp; omega)) _) | refine below_chain ?_ (by assumption)))
  first | (refine hK _ _ ⟨hz1, ?_⟩; clear hK K) | refine ⟨hz1, ?_⟩
  clear hz1
  refine norm_K fun K hK => ?_
  change wpList _ _ _ [_] _ _
  go_wp2_with fail
  refine (jordan9_c hd hs hy hY hFz.hv iZ).mono ?_; rintro e w24 ⟨v6, rfl, h6, hb24⟩
  have hs := hs.below hb24; have hx := hx.below hb24; have hy := hy.below hb24; have d0 := kept hb24 d0; have d1 := kept hb24 d1; have x0 := kept hb24 x0; have x1 := kept hb24 x1; have y0 := kept hb24 y0; have y1 := kept hb24 y1; have hq := hq.below hb24; have q0 := kept hb24 q0; have q1 := kept hb24 q1; have hr := hr.below hb24; have r0 := kept hb24 r0; have r1 := kept hb24 r1; have hu := hu.below hb24; have u0 := kept hb24 u0; have u1 := kept hb24 u1; have hFz := hFz.below hb24; have n0 := kept hb24 n0; have n1_ := kept hb24 n1_; have ha := ha.below hb24; have a0 := kept hb24 a0; have a1 := kept hb24 a1; have hb_ := hb_.below hb24; have b0 := kept hb24 b0; have b1 := kept hb24 b1; have ho := ho.below hb24; have o0 := kept hb24 o0; have o1 := kept hb24 o1; have h5 := h5.below hb24
  rw [← HK.out] at h6
  go_wp2_with fail
  have hz2 : Below wq.heap.size wq w24 := (by repeat (first | exact Below.refl _ _ | apply blw_drew | apply blw_alloc | (refine blw_set ?_ (by first | omega | (simp; done) | (simp; omega)) _) | refine below_chain ?_ (by assumption)))
  first | (refine hK _ _ ⟨hz2, ?_⟩; clear hK K) | refine ⟨hz2, ?_⟩
  clear hz2
  refine norm_K fun K hK => ?_
  change wpList _ _ _ [_] _ _
  go_wp2_with fail
  refine (pair9_c hd hs hx hX h6.hv iK).mono ?_; rintro e w25 ⟨rfl, hb25⟩
  have hs := hs.below hb25; have hx := hx.below hb25; have hy := hy.below hb25; have d0 := kept hb25 d0; have d1 := kept hb25 d1; have x0 := kept hb25 x0; have x1 := kept hb25 x1; have y0 := kept hb25 y0; have y1 := kept hb25 y1; have hq := hq.below hb25; have q0 := kept hb25 q0; have q1 := kept hb25 q1; have hr := hr.below hb25; have r0 := kept hb25 r0; have r1 := kept hb25 r1; have hu := hu.below hb25; have u0 := kept hb25 u0; have u1 := kept hb25 u1; have hFz := hFz.below hb25; have n0 := kept hb25 n0; have n1_ := kept hb25 n1_; have ha := ha.below hb25; have a0 := kept hb25 a0; have a1 := kept hb25 a1; have hb_ := hb_.below hb25; have b0 := kept hb25 b0; have b1 := kept hb25 b1; have ho := ho.below hb25; have o0 := kept hb25 o0; have o1 := kept hb25 o1; have h5 := h5.below hb25; have h6 := h6.below hb25
  rw [E1.out]
  go_wp2_with fail
  have hz3 : Below w24.heap.size w24 w25 := (by repeat (first | exact Below.refl _ _ | apply blw_drew | apply blw_alloc | (refine blw_set ?_ (by first | omega | (simp; done) | (simp; omega)) _) | refine below_chain ?_ (by assumption)))
  first | (refine hK _ _ ⟨hz3, ?_⟩; clear hK K) | refine ⟨hz3, ?_⟩
  clear hz3
  refine norm_K fun K hK => ?_
  change wpList _ _ _ [_, _, _, _, _, _, _, _, _, _, _] _ _
  go_wp2_with fail
  refine (pair9_c hd hs ha.hv iA hx hX).mono ?_; rintro e w26 ⟨rfl, hb26⟩
  have hs := hs.below hb26; have hx := hx.below hb26; have hy := hy.below hb26; have d0 := kept hb26 d0; have d1 := kept hb26 d1; have x0 := kept hb26 x0; have x1 := kept hb26 x1; have y0 := kept hb26 y0; have y1 := kept hb26 y1; have hq := hq.below hb26; have q0 := kept hb26 q0; have q1 := kept hb26 q1; have hr := hr.below hb26; have r0 := kept hb26 r0; have r1 := kept hb26 r1; have hu := hu.below hb26; have u0 := kept hb26 u0; have u1 := kept hb26 u1; have hFz := hFz.below hb26; have n0 := kept hb26 n0; have n1_ := kept hb26 n1_; have ha := ha.below hb26; have a0 := kept hb26 a0; have a1 := kept hb26 a1; have hb_ := hb_.below hb26; have b0 := kept hb26 b0; have b1 := kept hb26 b1; have ho := ho.below hb26; have o0 := kept hb26 o0; have o1 := kept hb26 o1; have h5 := h5.below hb26; have h6 := h6.below hb26
  rw [← HV.out.2.2.1]
  go_wp2_with fail
  have hz4 : Below w25.heap.size w25 w26 := (by repeat (first | exact Below.refl _ _ | apply blw_drew | apply blw_alloc | (refine blw_set ?_ (by first | omega | (simp; done) | (simp; omega)) _) | refine below_chain ?_ (by assumption)))
  first | (refine hK _ _ ⟨hz4, ?_⟩; clear hK K) | refine ⟨hz4, ?_⟩
  clear hz4
  refine norm_K fun K hK => ?_
  change wpList _ _ _ [_, _, _, _, _, _, _, _, _, _] _ _
  go_wp2_with fail
  refine (pair9_c hd hs hq.hv iP hFz.hv iZ).mono ?_; rintro e w27 ⟨rfl, hb27⟩
  have hs := hs.below hb27; have hx := hx.below hb27; have hy := hy.below hb27; have d0 := kept hb27 d0; have d1 := kept hb27 d1; have x0 := kept hb27 x0; have x1 := kept hb27 x1; have y0 := kept hb27 y0; have y1 := kept hb27 y1; have hq := hq.below hb27; have q0 := kept hb27 q0; have q1 := kept hb27 q1; have hr := hr.below hb27; have r0 := kept hb27 r0; have r1 := kept hb27 r1; have hu := hu.below hb27; have u0 := kept hb27 u0; have u1 := kept hb27 u1; have hFz := hFz.below hb27; have n0 := kept hb27 n0; have n1_ := kept hb27 n1_; have ha := ha.below hb27; have a0 := kept hb27 a0; have a1 := kept hb27 a1; have hb_ := hb_.below hb27; have b0 := kept hb27 b0; have b1 := kept hb27 b1; have ho := ho.below hb27; have o0 := kept hb27 o0; have o1 := kept hb27 o1; have h5 := h5.below hb27; have h6 := h6.below hb27
  rw [← HV.out.2.2.2.1]
  go_wp2_with fail
  have hz5 : Below w26.heap.size w26 w27 := (by repeat (first | exact Below.refl _ _ | apply blw_drew | apply blw_alloc | (refine blw_set ?_ (by first | omega | (simp; done) | (simp; omega)) _) | refine below_chain ?_ (by assumption)))
  first | (refine hK _ _ ⟨hz5, ?_⟩; clear hK K) | refine ⟨hz5, ?_⟩
  clear hz5
  refine norm_K fun K hK => ?_
  change wpList _ _ _ [_, _, _] _ _
  go_wp2_with fail
  refine (pair9_c hd hs ho.hv iO hx hX).mono ?_; rintro e w28 ⟨rfl, hb28⟩
  have hs := hs.below hb28; have hx := hx.below hb28; have hy := hy.below hb28; have d0 := kept hb28 d0; have d1 := kept hb28 d1; have x0 := kept hb28 x0; have x1 := kept hb28 x1; have y0 := kept hb28 y0; have y1 := kept hb28 y1; have hq := hq.below hb28; have q0 := kept hb28 q0; have q1 := kept hb28 q1; have hr := hr.below hb28; have r0 := kept hb28 r0; have r1 := kept hb28 r1; have hu := hu.below hb28; have u0 := kept hb28 u0; have u1 := kept hb28 u1; have hFz := hFz.below hb28; have n0 := kept hb28 n0; have n1_ := kept hb28 n1_; have ha := ha.below hb28; have a0 := kept hb28 a0; have a1 := kept hb28 a1; have hb_ := hb_.below hb28; have b0 := kept hb28 b0; have b1 := kept hb28 b1; have ho := ho.below hb28; have o0 := kept hb28 o0; have o1 := kept hb28 o1; have h5 := h5.below hb28; have h6 := h6.below hb28
  rw [E3.out]
  go_wp2_with fail
  first | (refine hK _ _ ⟨rfl, ?_⟩; clear hK K) | refine ⟨rfl, ?_⟩
  go_upto_region 20 with fail
  generalize hwG : w28 = wG at *
  clear hwG
  go_cut [20] (fun s_ wx => ∃ N d u, s_ = .pointer (some ⟨N, 0, none⟩) ∧ wG.heap.size ≤ N ∧ Bx wx N d u ∧ FrH wx wG.heap.size (.agg #[d, u]) (B) ∧ Below wG.heap.size wG wx)
  case first =>
    refine region_tq [(0, 1), (1, 1), (2, 1), (3, 1), (5, 0), (6, 1)] (.two 4 5 (.two 7 5 (.lin [(false, [(8, 5)]), (false, [(9, 4)])]) 8 5 (.lin [(false, [(7, 4), (9, 4)])])) 8 5 (.lin [(false, [(4, 5)]), (false, [(7, 4), (9, 4)])])) (by kernel_rfl) ?_
    refine norm_K fun K hK => ?_
    change wpList _ _ _ [_, _, _, _, _, _] _ _
    go_wp2_with fail
    have hbq : Below wG.heap.size wG wG.drew := (by repeat (first | exact Below.refl _ _ | apply blw_drew | apply blw_alloc | (refine blw_set ?_ (by first | omega | (simp; done) | (simp; omega)) _) | refine below_chain ?_ (by assumption)))
    have hs := hs.below hbq; have hx := hx.below hbq; have hy := hy.below hbq; have d0 := kept hbq d0; have d1 := kept hbq d1; have x0 := kept hbq x0; have x1 := kept hbq x1; have y0 := kept hbq y0; have y1 := kept hbq y1; have hq := hq.below hbq; have q0 := kept hbq q0; have q1 := kept hbq q1; have hr := hr.below hbq; have r0 := kept hbq r0; have r1 := kept hbq r1; have hu := hu.below hbq; have u0 := kept hbq u0; have u1 := kept hbq u1; have hFz := hFz.below hbq; have n0 := kept hbq n0; have n1_ := kept hbq n1_; have ha := ha.below hbq; have a0 := kept hbq a0; have a1 := kept hbq a1; have hb_ := hb_.below hbq; have b0 := kept hbq b0; have b1 := kept hbq b1; have ho := ho.below hbq; have o0 := kept hbq o0; have o1 := kept hbq o1
    have szq : wG.heap.size = wG.drew.heap.size := rfl
    generalize wG.drew = wq at *
    refine hK _ _ ?_; clear hK K
    refine ⟨?_, ?_⟩
    · skip
      refine norm_K fun K hK => ?_
      change wpList _ _ _ [_] _ _
      go_wp2_with fail
      refine (sum9_c hd hs hx hX hx hX (by decide) (by decide)).mono ?_; rintro e w41 ⟨v9, rfl, h9, hb41⟩
      have hs := hs.below hb41; have hx := hx.below hb41; have hy := hy.below hb41; have d0 := kept hb41 d0; have d1 := kept hb41 d1; have x0 := kept hb41 x0; have x1 := kept hb41 x1; have y0 := kept hb41 y0; have y1 := kept hb41 y1; have hq := hq.below hb41; have q0 := kept hb41 q0; have q1 := kept hb41 q1; have hr := hr.below hb41; have r0 := kept hb41 r0; have r1 := kept hb41 r1; have hu := hu.below hb41; have u0 := kept hb41 u0; have u1 := kept hb41 u1; have hFz := hFz.below hb41; have n0 := kept hb41 n0; have n1_ := kept hb41 n1_; have ha := ha.below hb41; have a0 := kept hb41 a0; have a1 := kept hb41 a1; have hb_ := hb_.below hb41; have b0 := kept hb41 b0; have b1 := kept hb41 b1; have ho := ho.below hb41; have o0 := kept hb41 o0; have o1 := kept hb41 o1
      have sz41 : wq.heap.size ≤ w41.heap.size := hb41.size
      rw [← HN0.out] at h9
      go_wp2_with fail
      first | (refine hK _ _ ⟨(by repeat (first | exact Below.refl _ _ | apply blw_drew | apply blw_alloc | (refine blw_set ?_ (by first | omega | (simp; done) | (simp; omega)) _) | refine below_chain ?_ (by assumption))), ?_⟩; clear hK K) | refine ⟨(by repeat (first | exact Below.refl _ _ | apply blw_drew | apply blw_alloc | (refine blw_set ?_ (by first | omega | (simp; done) | (simp; omega)) _) | refine below_chain ?_ (by assumption))), ?_⟩
      refine ⟨?_, ?_⟩
      · skip
        refine norm_K fun K hK => ?_
        change wpList _ _ _ [_] _ _
        go_wp2_with fail
        refine (sum9_c hd hs h9.hv iN0 hx hX (by omega) (by omega)).mono ?_; rintro e w42 ⟨v11, rfl, h11, hb42⟩
        have hs := hs.below hb42; have hx := hx.below hb42; have hy := hy.below hb42; have d0 := kept hb42 d0; have d1 := kept hb42 d1; have x0 := kept hb42 x0; have x1 := kept hb42 x1; have y0 := kept hb42 y0; have y1 := kept hb42 y1; have hq := hq.below hb42; have q0 := kept hb42 q0; have q1 := kept hb42 q1; have hr := hr.below hb42; have r0 := kept hb42 r0; have r1 := kept hb42 r1; have hu := hu.below hb42; have u0 := kept hb42 u0; have u1 := kept hb42 u1; have hFz := hFz.below hb42; have n0 := kept hb42 n0; have n1_ := kept hb42 n1_; have ha := ha.below hb42; have a0 := kept hb42 a0; have a1 := kept hb42 a1; have hb_ := hb_.below hb42; have b0 := kept hb42 b0; have b1 := kept hb42 b1; have ho := ho.below hb42; have o0 := kept hb42 o0; have o1 := kept hb42 o1; have h9 := h9.below hb42
        have sz42 : w41.heap.size ≤ w42.heap.size := hb42.size
        rw [E5.out] at h11
        obtain ⟨d2, u2, us2, rfl, ⟨g2, k2_, rfl, q2⟩, hu2_, hne2⟩ := id h11; obtain ⟨g3, k3_, rfl, hq3_⟩ := id hu2_; clear hq3_ hu2_ q2
        go_wp2_with fail
        first | (refine hK _ _ ⟨(by repeat (first | exact Below.refl _ _ | apply blw_drew | apply blw_alloc | (refine blw_set ?_ (by first | omega | (simp; done) | (simp; omega)) _) | refine below_chain ?_ (by assumption))), ?_⟩; clear hK K) | refine ⟨(by repeat (first | exact Below.refl _ _ | apply blw_drew | apply blw_alloc | (refine blw_set ?_ (by first | omega | (simp; done) | (simp; omega)) _) | refine below_chain ?_ (by assumption))), ?_⟩
        refine norm_K fun K hK => ?_
        change wpList _ _ _ [_] _ _
        go_wp2_with fail
        have hb43 : Below w42.heap.size w42 (w42.alloc (.cells #[.slice none 0 0, .slice none 0 0] 31)) := (by repeat (first | exact Below.refl _ _ | apply blw_drew | apply blw_alloc | (refine blw_set ?_ (by first | omega | (simp; done) | (simp; omega)) _) | refine below_chain ?_ (by assumption)))
        have h11A := h11; have hbA := hb43
        have hs := hs.below hb43; have hx := hx.below hb43; have hy := hy.below hb43; have d0 := kept hb43 d0; have d1 := kept hb43 d1; have x0 := kept hb43 x0; have x1 := kept hb43 x1; have y0 := kept hb43 y0; have y1 := kept hb43 y1; have hq := hq.below hb43; have q0 := kept hb43 q0; have q1 := kept hb43 q1; have hr := hr.below hb43; have r0 := kept hb43 r0; have r1 := kept hb43 r1; have hu := hu.below hb43; have u0 := kept hb43 u0; have u1 := kept hb43 u1; have hFz := hFz.below hb43; have n0 := kept hb43 n0; have n1_ := kept hb43 n1_; have ha := ha.below hb43; have a0 := kept hb43 a0; have a1 := kept hb43 a1; have hb_ := hb_.below hb43; have b0 := kept hb43 b0; have b1 := kept hb43 b1; have ho := ho.below hb43; have o0 := kept hb43 o0; have o1 := kept hb43 o1; have h9 := h9.below hb43; have h11 := h11.below hb43
        have hN : Bx (w42.alloc (.cells #[.slice none 0 0, .slice none 0 0] 31)) w42.heap.size (.slice none 0 0) (.slice none 0 0) := heap_alloc_new _ _
        have sz43 : w42.heap.size + 1 = (w42.alloc (.cells #[.slice none 0 0, .slice none 0 0] 31)).heap.size := by simp
        go_wp2_with fail
        obtain ⟨w43, hw_⟩ : ∃ x, x = (w42.alloc (.cells #[.slice none 0 0, .slice none 0 0] 31)) := ⟨_, rfl⟩
        rw [← hw_] at hb43 sz43 hs hx hy d0 d1 x0 x1 y0 y1 hq q0 q1 hr r0 r1 hu u0 u1 hFz n0 n1_ ha a0 a1 hb_ b0 b1 ho o0 o1 h9 h11 hN hbA ⊢; clear hw_
        go_wp2_with fail
        first | (refine hK _ _ ⟨(by repeat (first | exact Below.refl _ _ | apply blw_drew | apply blw_alloc | (refine blw_set ?_ (by first | omega | (simp; done) | (simp; omega)) _) | refine below_chain ?_ (by assumption))), ?_⟩; clear hK K) | refine ⟨(by repeat (first | exact Below.refl _ _ | apply blw_drew | apply blw_alloc | (refine blw_set ?_ (by first | omega | (simp; done) | (simp; omega)) _) | refine below_chain ?_ (by assumption))), ?_⟩
        refine norm_K fun K hK => ?_
        change wpList _ _ _ [_] _ _
        have rc0 := hN.c0; have rc1 := hN.c1; have rf0 := hN.f0; have rf1 := hN.f1
        go_wp2_with fail
        first | (refine hK _ _ ⟨rfl, ?_⟩; clear hK K) | refine ⟨rfl, ?_⟩
        go_wp2_with fail
        go_meet
        case rel => exact ⟨w42.heap.size, _, _, rfl, by omega, (hN.set0 _).set1 _, (h11A.below (blw_set (p := ⟨w42.heap.size, 1, none⟩) (blw_set (p := ⟨w42.heap.size, 0, none⟩) hbA (Nat.le_refl _) _) (Nat.le_refl _) _)).more (by omega), (by repeat (first | exact Below.refl _ _ | apply blw_drew | apply blw_alloc | (refine blw_set ?_ (by first | omega | (simp; done) | (simp; omega)) _) | refine below_chain ?_ (by assumption)))⟩
      · skip
        refine norm_K fun K hK => ?_
        change wpList _ _ _ [_] _ _
        go_wp2_with fail
        have hb42 : Below w41.heap.size w41 (w41.alloc (.cells #[.slice none 0 0, .slice none 0 0] 31)) := (by repeat (first | exact Below.refl _ _ | apply blw_drew | apply blw_alloc | (refine blw_set ?_ (by first | omega | (simp; done) | (simp; omega)) _) | refine below_chain ?_ (by assumption)))
        have hs := hs.below hb42; have hx := hx.below hb42; have hy := hy.below hb42; have d0 := kept hb42 d0; have d1 := kept hb42 d1; have x0 := kept hb42 x0; have x1 := kept hb42 x1; have y0 := kept hb42 y0; have y1 := kept hb42 y1; have hq := hq.below hb42; have q0 := kept hb42 q0; have q1 := kept hb42 q1; have hr := hr.below hb42; have r0 := kept hb42 r0; have r1 := kept hb42 r1; have hu := hu.below hb42; have u0 := kept hb42 u0; have u1 := kept hb42 u1; have hFz := hFz.below hb42; have n0 := kept hb42 n0; have n1_ := kept hb42 n1_; have ha := ha.below hb42; have a0 := kept hb42 a0; have a1 := kept hb42 a1; have hb_ := hb_.below hb42; have b0 := kept hb42 b0; have b1 := kept hb42 b1; have ho := ho.below hb42; have o0 := kept hb42 o0; have o1 := kept hb42 o1; have h9 := h9.below hb42
        have hN : Bx (w41.alloc (.cells #[.slice none 0 0, .slice none 0 0] 31)) w41.heap.size (.slice none 0 0) (.slice none 0 0) := heap_alloc_new _ _
        have sz42 : w41.heap.size + 1 = (w41.alloc (.cells #[.slice none 0 0, .slice none 0 0] 31)).heap.size := by simp
        go_wp2_with fail
        obtain ⟨w42, hw_⟩ : ∃ x, x = (w41.alloc (.cells #[.slice none 0 0, .slice none 0 0] 31)) := ⟨_, rfl⟩
        rw [← hw_] at hb42 sz42 hs hx hy d0 d1 x0 x1 y0 y1 hq q0 q1 hr r0 r1 hu u0 u1 hFz n0 n1_ ha a0 a1 hb_ b0 b1 ho o0 o1 h9 hN ⊢; clear hw_
        go_wp2_with fail
        first | (refine hK _ _ ⟨(by repeat (first | exact Below.refl _ _ | apply blw_drew | apply blw_alloc | (refine blw_set ?_ (by first | omega | (simp; done) | (simp; omega)) _) | refine below_chain ?_ (by assumption))), ?_⟩; clear hK K) | refine ⟨(by repeat (first | exact Below.refl _ _ | apply blw_drew | apply blw_alloc | (refine blw_set ?_ (by first | omega | (simp; done) | (simp; omega)) _) | refine below_chain ?_ (by assumption))), ?_⟩
        refine norm_K fun K hK => ?_
        change wpList _ _ _ [_, _] _ _
        go_wp2_with fail
        refine (sum9_c hd hs h9.hv iN0 hx hX (by omega) (by omega)).mono ?_; rintro e w43 ⟨v11, rfl, h11, hb43⟩
        have hs := hs.below hb43; have hx := hx.below hb43; have hy := hy.below hb43; have d0 := kept hb43 d0; have d1 := kept hb43 d1; have x0 := kept hb43 x0; have x1 := kept hb43 x1; have y0 := kept hb43 y0; have y1 := kept hb43 y1; have hq := hq.below hb43; have q0 := kept hb43 q0; have q1 := kept hb43 q1; have hr := hr.below hb43; have r0 := kept hb43 r0; have r1 := kept hb43 r1; have hu := hu.below hb43; have u0 := kept hb43 u0; have u1 := kept hb43 u1; have hFz := hFz.below hb43; have n0 := kept hb43 n0; have n1_ := kept hb43 n1_; have ha := ha.below hb43; have a0 := kept hb43 a0; have a1 := kept hb43 a1; have hb_ := hb_.below hb43; have b0 := kept hb43 b0; have b1 := kept hb43 b1; have ho := ho.below hb43; have o0 := kept hb43 o0; have o1 := kept hb43 o1; have h9 := h9.below hb43; have hN := hN.below hb43
        have sz43 : w42.heap.size ≤ w43.heap.size := hb43.size
        rw [E5.out] at h11
        obtain ⟨d2, u2, us2, rfl, ⟨g2, k2_, rfl, q2⟩, hu2_, hne2⟩ := id h11; obtain ⟨g3, k3_, rfl, hq3_⟩ := id hu2_; clear hq3_ hu2_ q2
        have rc0 := hN.c0; have rc1 := hN.c1; have rf0 := hN.f0; have rf1 := hN.f1
        go_wp2_with fail
        first | (refine hK _ _ ⟨rfl, ?_⟩; clear hK K) | refine ⟨rfl, ?_⟩
        go_wp2_with fail
        go_meet
        case rel => exact ⟨w41.heap.size, _, _, rfl, by omega, (hN.set0 _).set1 _, ((h11.set_ (p := ⟨w41.heap.size, 0, none⟩) (show w41.heap.size < _ by omega) _).set_ (p := ⟨w41.heap.size, 1, none⟩) (show w41.heap.size < _ by omega) _).more (by omega), (by repeat (first | exact Below.refl _ _ | apply blw_drew | apply blw_alloc | (refine blw_set ?_ (by first | omega | (simp; done) | (simp; omega)) _) | refine below_chain ?_ (by assumption)))⟩
    · skip
      refine norm_K fun K hK => ?_
      change wpList _ _ _ [_] _ _
      go_wp2_with fail
      have hb41 : Below wq.heap.size wq (wq.alloc (.cells #[.slice none 0 0, .slice none 0 0] 31)) := (by repeat (first | exact Below.refl _ _ | apply blw_drew | apply blw_alloc | (refine blw_set ?_ (by first | omega | (simp; done) | (simp; omega)) _) | refine below_chain ?_ (by assumption)))
      have hs := hs.below hb41; have hx := hx.below hb41; have hy := hy.below hb41; have d0 := kept hb41 d0; have d1 := kept hb41 d1; have x0 := kept hb41 x0; have x1 := kept hb41 x1; have y0 := kept hb41 y0; have y1 := kept hb41 y1; have hq := hq.below hb41; have q0 := kept hb41 q0; have q1 := kept hb41 q1; have hr := hr.below hb41; have r0 := kept hb41 r0; have r1 := kept hb41 r1; have hu := hu.below hb41; have u0 := kept hb41 u0; have u1 := kept hb41 u1; have hFz := hFz.below hb41; have n0 := kept hb41 n0; have n1_ := kept hb41 n1_; have ha := ha.below hb41; have a0 := kept hb41 a0; have a1 := kept hb41 a1; have hb_ := hb_.below hb41; have b0 := kept hb41 b0; have b1 := kept hb41 b1; have ho := ho.below hb41; have o0 := kept hb41 o0; have o1 := kept hb41 o1
      have hN : Bx (wq.alloc (.cells #[.slice none 0 0, .slice none 0 0] 31)) wq.heap.size (.slice none 0 0) (.slice none 0 0) := heap_alloc_new _ _
      have sz41 : wq.heap.size + 1 = (wq.alloc (.cells #[.slice none 0 0, .slice none 0 0] 31)).heap.size := by simp
      go_wp2_with fail
      obtain ⟨w41, hw_⟩ : ∃ x, x = (wq.alloc (.cells #[.slice none 0 0, .slice none 0 0] 31)) := ⟨_, rfl⟩
      rw [← hw_] at hb41 sz41 hs hx hy d0 d1 x0 x1 y0 y1 hq q0 q1 hr r0 r1 hu u0 u1 hFz n0 n1_ ha a0 a1 hb_ b0 b1 ho o0 o1 hN ⊢; clear hw_
      go_wp2_with fail
      first | (refine hK _ _ ⟨(by repeat (first | exact Below.refl _ _ | apply blw_drew | apply blw_alloc | (refine blw_set ?_ (by first | omega | (simp; done) | (simp; omega)) _) | refine below_chain ?_ (by assumption))), ?_⟩; clear hK K) | refine ⟨(by repeat (first | exact Below.refl _ _ | apply blw_drew | apply blw_alloc | (refine blw_set ?_ (by first | omega | (simp; done) | (simp; omega)) _) | refine below_chain ?_ (by assumption))), ?_⟩
      refine norm_K fun K hK => ?_
      change wpList _ _ _ [_] _ _
      go_wp2_with fail
      refine (sum9_c hd hs hx hX hx hX (by decide) (by decide)).mono ?_; rintro e w42 ⟨v9, rfl, h9, hb42⟩
      have hs := hs.below hb42; have hx := hx.below hb42; have hy := hy.below hb42; have d0 := kept hb42 d0; have d1 := kept hb42 d1; have x0 := kept hb42 x0; have x1 := kept hb42 x1; have y0 := kept hb42 y0; have y1 := kept hb42 y1; have hq := hq.below hb42; have q0 := kept hb42 q0; have q1 := kept hb42 q1; have hr := hr.below hb42; have r0 := kept hb42 r0; have r1 := kept hb42 r1; have hu := hu.below hb42; have u0 := kept hb42 u0; have u1 := kept hb42 u1; have hFz := hFz.below hb42; have n0 := kept hb42 n0; have n1_ := kept hb42 n1_; have ha := ha.below hb42; have a0 := kept hb42 a0; have a1 := kept hb42 a1; have hb_ := hb_.below hb42; have b0 := kept hb42 b0; have b1 := kept hb42 b1; have ho := ho.below hb42; have o0 := kept hb42 o0; have o1 := kept hb42 o1; have hN := hN.below hb42
      have sz42 : w41.heap.size ≤ w42.heap.size := hb42.size
      rw [← HN0.out] at h9
      go_wp2_with fail
      first | (refine hK _ _ ⟨(by repeat (first | exact Below.refl _ _ | apply blw_drew | apply blw_alloc | (refine blw_set ?_ (by first | omega | (simp; done) | (simp; omega)) _) | refine below_chain ?_ (by assumption))), ?_⟩; clear hK K) | refine ⟨(by repeat (first | exact Below.refl _ _ | apply blw_drew | apply blw_alloc | (refine blw_set ?_ (by first | omega | (simp; done) | (simp; omega)) _) | refine below_chain ?_ (by assumption))), ?_⟩
      refine norm_K fun K hK => ?_
      change wpList _ _ _ [_, _] _ _
      go_wp2_with fail
      refine (sum9_c hd hs h9.hv iN0 hx hX (by omega) (by omega)).mono ?_; rintro e w43 ⟨v11, rfl, h11, hb43⟩
      have hs := hs.below hb43; have hx := hx.below hb43; have hy := hy.below hb43; have d0 := kept hb43 d0; have d1 := kept hb43 d1; have x0 := kept hb43 x0; have x1 := kept hb43 x1; have y0 := kept hb43 y0; have y1 := kept hb43 y1; have hq := hq.below hb43; have q0 := kept hb43 q0; have q1 := kept hb43 q1; have hr := hr.below hb43; have r0 := kept hb43 r0; have r1 := kept hb43 r1; have hu := hu.below hb43; have u0 := kept hb43 u0; have u1 := kept hb43 u1; have hFz := hFz.below hb43; have n0 := kept hb43 n0; have n1_ := kept hb43 n1_; have ha := ha.below hb43; have a0 := kept hb43 a0; have a1 := kept hb43 a1; have hb_ := hb_.below hb43; have b0 := kept hb43 b0; have b1 := kept hb43 b1; have ho := ho.below hb43; have o0 := kept hb43 o0; have o1 := kept hb43 o1; have hN := hN.below hb43; have h9 := h9.below hb43
      have sz43 : w42.heap.size ≤ w43.heap.size := hb43.size
      rw [E5.out] at h11
      obtain ⟨d2, u2, us2, rfl, ⟨g2, k2_, rfl, q2⟩, hu2_, hne2⟩ := id h11; obtain ⟨g3, k3_, rfl, hq3_⟩ := id hu2_; clear hq3_ hu2_ q2
      have rc0 := hN.c0; have rc1 := hN.c1; have rf0 := hN.f0; have rf1 := hN.f1
      go_wp2_with fail
      first | (refine hK _ _ ⟨rfl, ?_⟩; clear hK K) | refine ⟨rfl, ?_⟩
      go_wp2_with fail
      go_meet
      case rel => exact ⟨wq.heap.size, _, _, rfl, by omega, (hN.set0 _).set1 _, ((h11.set_ (p := ⟨wq.heap.size, 0, none⟩) (show wq.heap.size < _ by omega) _).set_ (p := ⟨wq.heap.size, 1, none⟩) (show wq.heap.size < _ by omega) _).more (by omega), (by repeat (first | exact Below.refl _ _ | apply blw_drew | apply blw_alloc | (refine blw_set ?_ (by first | omega | (simp; done) | (simp; omega)) _) | refine below_chain ?_ (by assumption)))⟩
  case' rest => skip
  obtain ⟨N0, dN, uN, rfl, hN0, hN, hF, hbC⟩ := hcut
  have hs := hs.below hbC; have hx := hx.below hbC; have hy := hy.below hbC; have d0 := kept hbC d0; have d1 := kept hbC d1; have x0 := kept hbC x0; have x1 := kept hbC x1; have y0 := kept hbC y0; have y1 := kept hbC y1; have hq := hq.below hbC; have q0 := kept hbC q0; have q1 := kept hbC q1; have hr := hr.below hbC; have r0 := kept hbC r0; have r1 := kept hbC r1; have hu := hu.below hbC; have u0 := kept hbC u0; have u1 := kept hbC u1; have hFz := hFz.below hbC; have n0 := kept hbC n0; have n1_ := kept hbC n1_; have ha := ha.below hbC; have a0 := kept hbC a0; have a1 := kept hbC a1; have hb_ := hb_.below hbC; have b0 := kept hbC b0; have b1 := kept hbC b1; have ho := ho.below hbC; have o0 := kept hbC o0; have o1 := kept hbC o1
  obtain ⟨gh1, ch1, gh2, ch2, hfe⟩ := hF.shape
  cases hfe
  have p0 := hN.c0; have p1 := hN.c1
  clear hN
  go_upto_region 21 with fail
  go_wp2_with fail
  refine region_flow [(true, [(0, 1), (1, 1), (2, 3)]), (true, [(3, 0), (4, 0), (5, 1), (6, 1), (7, 1), (8, 1), (11, 0), (12, 0), (13, 0), (14, 0), (15, 1), (16, 0), (9, 3)]), (true, [(10, 3)]), (false, [(17, 0), (18, 0)])] (by kernel_rfl) ?_
  refine norm_K fun K hK => ?_
  change wpList _ _ _ [_, _, _] _ _
  have hb21 : Below wc.heap.size wc wc.drew := (by repeat (first | exact Below.refl _ _ | apply blw_drew | apply blw_alloc | (refine blw_set ?_ (by first | omega | (simp; done) | (simp; omega)) _) | refine below_chain ?_ (by assumption)))
  have hs := hs.below hb21; have hx := hx.below hb21; have hy := hy.below hb21; have d0 := kept hb21 d0; have d1 := kept hb21 d1; have x0 := kept hb21 x0; have x1 := kept hb21 x1; have y0 := kept hb21 y0; have y1 := kept hb21 y1; have hq := hq.below hb21; have q0 := kept hb21 q0; have q1 := kept hb21 q1; have hr := hr.below hb21; have r0 := kept hb21 r0; have r1 := kept hb21 r1; have hu := hu.below hb21; have u0 := kept hb21 u0; have u1 := kept hb21 u1; have hFz := hFz.below hb21; have n0 := kept hb21 n0; have n1_ := kept hb21 n1_; have ha := ha.below hb21; have a0 := kept hb21 a0; have a1 := kept hb21 a1; have hb_ := hb_.below hb21; have b0 := kept hb21 b0; have b1 := kept hb21 b1; have ho := ho.below hb21; have o0 := kept hb21 o0; have o1 := kept hb21 o1; have hF := hF.below hb21; have p0 := kept hb21 p0; have p1 := kept hb21 p1
  generalize wc.drew = wr at *
  go_wp2_with fail
  refine (herm9_c hb_.hv hF.hv zB).mono ?_; rintro e w22 ⟨rfl, hb22⟩
  have hs := hs.below hb22; have hx := hx.below hb22; have hy := hy.below hb22; have d0 := kept hb22 d0; have d1 := kept hb22 d1; have x0 := kept hb22 x0; have x1 := kept hb22 x1; have y0 := kept hb22 y0; have y1 := kept hb22 y1; have hq := hq.below hb22; have q0 := kept hb22 q0; have q1 := kept hb22 q1; have hr := hr.below hb22; have r0 := kept hb22 r0; have r1 := kept hb22 r1; have hu := hu.below hb22; have u0 := kept hb22 u0; have u1 := kept hb22 u1; have hFz := hFz.below hb22; have n0 := kept hb22 n0; have n1_ := kept hb22 n1_; have ha := ha.below hb22; have a0 := kept hb22 a0; have a1 := kept hb22 a1; have hb_ := hb_.below hb22; have b0 := kept hb22 b0; have b1 := kept hb22 b1; have ho := ho.below hb22; have o0 := kept hb22 o0; have o1 := kept hb22 o1; have hF := hF.below hb22; have p0 := kept hb22 p0; have p1 := kept hb22 p1
  go_wp2_with fail
  have hz0 : Below wr.heap.size wr w22 := (by repeat (first | exact Below.refl _ _ | apply blw_drew | apply blw_alloc | (refine blw_set ?_ (by first | omega | (simp; done) | (simp; omega)) _) | refine below_chain ?_ (by assumption)))
  first | (refine hK _ _ ⟨hz0, ?_⟩; clear hK K) | refine ⟨hz0, ?_⟩
  clear hz0
  refine norm_K fun K hK => ?_
  change wpList _ _ _ [_, _, _, _, _, _, _, _, _, _, _, _, _] _ _
  go_wp2_with fail
  refine (jordan9_c hd hs hx hX hx hX).mono ?_; rintro e w23 ⟨v7, rfl, h7, hb23⟩
  have hs := hs.below hb23; have hx := hx.below hb23; have hy := hy.below hb23; have d0 := kept hb23 d0; have d1 := kept hb23 d1; have x0 := kept hb23 x0; have x1 := kept hb23 x1; have y0 := kept hb23 y0; have y1 := kept hb23 y1; have hq := hq.below hb23; have q0 := kept hb23 q0; have q1 := kept hb23 q1; have hr := hr.below hb23; have r0 := kept hb23 r0; have r1 := kept hb23 r1; have hu := hu.below hb23; have u0 := kept hb23 u0; have u1 := kept hb23 u1; have hFz := hFz.below hb23; have n0 := kept hb23 n0; have n1_ := kept hb23 n1_; have ha := ha.below hb23; have a0 := kept hb23 a0; have a1 := kept hb23 a1; have hb_ := hb_.below hb23; have b0 := kept hb23 b0; have b1 := kept hb23 b1; have ho := ho.below hb23; have o0 := kept hb23 o0; have o1 := kept hb23 o1; have hF := hF.below hb23; have p0 := kept hb23 p0; have p1 := kept hb23 p1
  rw [← HS.out] at h7
  go_wp2_with fail
  have hz1 : Below w22.heap.size w22 w23 := (by repeat (first | exact Below.refl _ _ | apply blw_drew | apply blw_alloc | (refine blw_set ?_ (by first | omega | (simp; done) | (simp; omega)) _) | refine below_chain ?_ (by assumption)))
  first | (refine hK _ _ ⟨hz1, ?_⟩; clear hK K) | refine ⟨hz1, ?_⟩
  clear hz1
  refine norm_K fun K hK => ?_
  change wpList _ _ _ [_] _ _
  go_wp2_with fail
  refine (det9_c hd hs h7.hv iS).mono ?_; rintro e w24 ⟨rfl, hb24⟩
  have hs := hs.below hb24; have hx := hx.below hb24; have hy := hy.below hb24; have d0 := kept hb24 d0; have d1 := kept hb24 d1; have x0 := kept hb24 x0; have x1 := kept hb24 x1; have y0 := kept hb24 y0; have y1 := kept hb24 y1; have hq := hq.below hb24; have q0 := kept hb24 q0; have q1 := kept hb24 q1; have hr := hr.below hb24; have r0 := kept hb24 r0; have r1 := kept hb24 r1; have hu := hu.below hb24; have u0 := kept hb24 u0; have u1 := kept hb24 u1; have hFz := hFz.below hb24; have n0 := kept hb24 n0; have n1_ := kept hb24 n1_; have ha := ha.below hb24; have a0 := kept hb24 a0; have a1 := kept hb24 a1; have hb_ := hb_.below hb24; have b0 := kept hb24 b0; have b1 := kept hb24 b1; have ho := ho.below hb24; have o0 := kept hb24 o0; have o1 := kept hb24 o1; have hF := hF.below hb24; have p0 := kept hb24 p0; have p1 := kept hb24 p1; have h7 := h7.below hb24
  rw [← HV.out.2.2.2.2]
  go_wp2_with fail
  have hz2 : Below w23.heap.size w23 w24 := (by repeat (first | exact Below.refl _ _ | apply blw_drew | apply blw_alloc | (refine blw_set ?_ (by first | omega | (simp; done) | (simp; omega)) _) | refine below_chain ?_ (by assumption)))
  first | (refine hK _ _ ⟨hz2, ?_⟩; clear hK K) | refine ⟨hz2, ?_⟩
  clear hz2
  refine norm_K fun K hK => ?_
  change wpList _ _ _ [_, _] _ _
  go_wp2_with fail
  first | (refine hK _ _ ⟨rfl, ?_⟩; clear hK K) | refine ⟨rfl, ?_⟩
  go_upto_region 23 with fail
  generalize hwJ : w24 = wJ at *
  clear hwJ
  have hbJ : Below w.heap.size w wJ := (by repeat (first | exact Below.refl _ _ | apply blw_drew | apply blw_alloc | (refine blw_set ?_ (by first | omega | (simp; done) | (simp; omega)) _) | refine below_chain ?_ (by assumption)))
  have hcJ := (hcw.below hbJ).wide (q' := wJ.heap.size) (by have := hbJ.size; omega)
  clear hs hx hy d0 d1 x0 x1 y0 y1 hq q0 q1 hr r0 r1 hu u0 u1 hFz n0 n1_ ha a0 a1 hb_ b0 b1 ho o0 o1 hF p0 p1
  go_wp2_with fail
  refine (sdrawinv_c hcJ).mono ?_; rintro e w21 ⟨p, v, x, st, X, rfl, hp1, hp2, hl, hE, hV0, hz0, hb21⟩
  have hbK : Below w.heap.size w w21 := below_chain hbJ hb21
  obtain ⟨av, cv, rfl⟩ := hE.shape
  obtain ⟨ax, cx, b_x, ex, rfl⟩ := hV0.shape
  have hs := hE.1; have hx := hV0.hv
  clear hE hV0
  have hl6 : st.length ≤ 1048576 := by omega
  have hI := fun W v0 v1 (h0 : El W v0 st) (h1 : Hv W v1 X) => iJordanInverse_c (w := W) (p0 := p) h0 hl6 h1 hz0
  have hS := fun W v0 v1 (h0 : El W v0 st) (h1 : Hv W v1 X) => sJordanInverse_c (w := W) (p0 := p) h0 hl6 h1 hz0
  have hyl := RJordanInverse0_len p st X hl6 hz0
  obtain ⟨k, hk⟩ : ∃ k, k = RJordanInverse1 p st X := ⟨_, rfl⟩; obtain ⟨P, hP⟩ : ∃ P, P = RJordanInverse0 p st X := ⟨_, rfl⟩
  simp only [← hk, ← hP] at hI hS hyl
  have HK := Lib.hid (And.intro hk hP); clear hk hP
  have hb42 : Below w21.heap.size w21 (w21.alloc (.cells #[.int .i64 p, .slice av st.length cv] 26)) := (by repeat (first | exact Below.refl _ _ | apply blw_drew | apply blw_alloc | (refine blw_set ?_ (by first | omega | (simp; done) | (simp; omega)) _) | refine below_chain ?_ (by assumption)))
  have hs := hs.below hb42; have hx := hx.below hb42
  have d0 : (w21.alloc (.cells #[.int .i64 p, .slice av st.length cv] 26)).cell? ⟨w21.heap.size, 0, none⟩ = some (.int .i64 p) := by simp [go_sem]
  have d1 : (w21.alloc (.cells #[.int .i64 p, .slice av st.length cv] 26)).cell? ⟨w21.heap.size, 1, none⟩ = some (.slice av st.length cv) := by simp [go_sem]
  have hb43 : Below (w21.alloc (.cells #[.int .i64 p, .slice av st.length cv] 26)).heap.size (w21.alloc (.cells #[.int .i64 p, .slice av st.length cv] 26)) ((w21.alloc (.cells #[.int .i64 p, .slice av st.length cv] 26)).alloc (.cells #[.slice ax X.dg.length cx, .slice b_x X.up.length ex] 31)) := (by repeat (first | exact Below.refl _ _ | apply blw_drew | apply blw_alloc | (refine blw_set ?_ (by first | omega | (simp; done) | (simp; omega)) _) | refine below_chain ?_ (by assumption)))
  have hs := hs.below hb43; have hx := hx.below hb43; have d0 := kept hb43 d0; have d1 := kept hb43 d1
  have x0 : ((w21.alloc (.cells #[.int .i64 p, .slice av st.length cv] 26)).alloc (.cells #[.slice ax X.dg.length cx, .slice b_x X.up.length ex] 31)).cell? ⟨w21.heap.size + 1, 0, none⟩ = some (.slice ax X.dg.length cx) := by simp [go_sem]
  have x1 : ((w21.alloc (.cells #[.int .i64 p, .slice av st.length cv] 26)).alloc (.cells #[.slice ax X.dg.length cx, .slice b_x X.up.length ex] 31)).cell? ⟨w21.heap.size + 1, 1, none⟩ = some (.slice b_x X.up.length ex) := by simp [go_sem]
  go_wp2_with fail
  refine (hI _ _ _ hs hx).mono ?_; rintro e w44 ⟨vhq, rfl, hq, hb44⟩
  have hs := hs.below hb44; have hx := hx.below hb44; have d0 := kept hb44 d0; have d1 := kept hb44 d1; have x0 := kept hb44 x0; have x1 := kept hb44 x1
  obtain ⟨d_hq, u_hq, rfl, q_hq, r_hq⟩ := hq.hv; obtain ⟨ahq, chq, rfl, _⟩ := q_hq.op; obtain ⟨bhq, ehq, rfl, _⟩ := id r_hq; clear q_hq r_hq
  have hb45 : Below w44.heap.size w44 (w44.alloc (.cells #[.slice ahq P.dg.length chq, .slice bhq P.up.length ehq] 31)) := (by repeat (first | exact Below.refl _ _ | apply blw_drew | apply blw_alloc | (refine blw_set ?_ (by first | omega | (simp; done) | (simp; omega)) _) | refine below_chain ?_ (by assumption)))
  have hs := hs.below hb45; have hx := hx.below hb45; have d0 := kept hb45 d0; have d1 := kept hb45 d1; have x0 := kept hb45 x0; have x1 := kept hb45 x1; have hq := hq.below hb45
  have q0 : (w44.alloc (.cells #[.slice ahq P.dg.length chq, .slice bhq P.up.length ehq] 31)).cell? ⟨w44.heap.size, 0, none⟩ = some (.slice ahq P.dg.length chq) := by simp [go_sem]
  have q1 : (w44.alloc (.cells #[.slice ahq P.dg.length chq, .slice bhq P.up.length ehq] 31)).cell? ⟨w44.heap.size, 1, none⟩ = some (.slice bhq P.up.length ehq) := by simp [go_sem]
  go_wp2_with fail
  refine (hS _ _ _ hs hx).mono ?_; rintro e w46 ⟨vhr, rfl, hr, hb46⟩
  have hs := hs.below hb46; have hx := hx.below hb46; have d0 := kept hb46 d0; have d1 := kept hb46 d1; have x0 := kept hb46 x0; have x1 := kept hb46 x1; have hq := hq.below hb46; have q0 := kept hb46 q0; have q1 := kept hb46 q1
  obtain ⟨d_hr, u_hr, rfl, q_hr, r_hr⟩ := hr.hv; obtain ⟨ahr, chr, rfl, _⟩ := q_hr.op; obtain ⟨bhr, ehr, rfl, _⟩ := id r_hr; clear q_hr r_hr
  have hb47 : Below w46.heap.size w46 (w46.alloc (.cells #[.slice ahr P.dg.length chr, .slice bhr P.up.length ehr] 31)) := (by repeat (first | exact Below.refl _ _ | apply blw_drew | apply blw_alloc | (refine blw_set ?_ (by first | omega | (simp; done) | (simp; omega)) _) | refine below_chain ?_ (by assumption)))
  have hs := hs.below hb47; have hx := hx.below hb47; have d0 := kept hb47 d0; have d1 := kept hb47 d1; have x0 := kept hb47 x0; have x1 := kept hb47 x1; have hq := hq.below hb47; have q0 := kept hb47 q0; have q1 := kept hb47 q1; have hr := hr.below hb47
  have r0 : (w46.alloc (.cells #[.slice ahr P.dg.length chr, .slice bhr P.up.length ehr] 31)).cell? ⟨w46.heap.size, 0, none⟩ = some (.slice ahr P.dg.length chr) := by simp [go_sem]
  have r1 : (w46.alloc (.cells #[.slice ahr P.dg.length chr, .slice bhr P.up.length ehr] 31)).cell? ⟨w46.heap.size, 1, none⟩ = some (.slice bhr P.up.length ehr) := by simp [go_sem]
  go_wp2_with fail
  refine (herm9_c hq.hv hr.hv hyl.toHsz).mono ?_; rintro e w48 ⟨rfl, hb48⟩
  have hs := hs.below hb48; have hx := hx.below hb48; have d0 := kept hb48 d0; have d1 := kept hb48 d1; have x0 := kept hb48 x0; have x1 := kept hb48 x1; have hq := hq.below hb48; have q0 := kept hb48 q0; have q1 := kept hb48 q1; have hr := hr.below hb48; have r0 := kept hb48 r0; have r1 := kept hb48 r1
  by_cases hk0 : k = 0
  case neg =>
    have hkb : (k == 0) = false := by simpa using hk0
    go_wp2_with fail
    go_ret
    exact ⟨rfl, (by repeat (first | exact Below.refl _ _ | apply blw_drew | apply blw_alloc | (refine blw_set ?_ (by first | omega | (simp; done) | (simp; omega)) _) | refine below_chain ?_ (by assumption)))⟩
  subst hk0
  have hk1 : chkH p st [X] = 0 ∧ detH p st X ≠ 0 := by
    have h := HK.out.1
    unfold RJordanInverse1 at h
    split at h
    · next h1 =>
      split at h
      · exact absurd h (by decide)
      · next h2 => exact ⟨h1, h2⟩
    · next h1 => exact absurd h.symm h1
  obtain ⟨hX0, hdt⟩ := hk1
  obtain ⟨hd, hall⟩ := chkH_pos hX0
  have hX : isH p (sz st.length) X = true := by simp at hall; exact hall
  have h2p : 2 ≤ p := by have := hd.hp.lo; omega
  have hPJ : P = multH p (adjH p st X) (invL p (detH p st X)) := HK.out.2.trans (if_pos HK.out.1.symm)
  have iP : isH p (sz st.length) P = true := by rw [hPJ]; exact multH_is (by omega) (adjH_is h2p hX)
  have zP := isH_hsz hd iP
  have HP := Lib.hid hPJ
  have hZX := isH_hsz hd hX
  clear hall hPJ hI hS hyl
  have iU : isH p (sz st.length) (unitH (sz st.length)) = true := unitH_is h2p
  have zU := isH_hsz hd iU
  obtain ⟨U, hU_⟩ : ∃ z_, z_ = unitH (sz st.length) := ⟨_, rfl⟩
  simp only [← hU_] at iU zU
  have HU := Lib.hid hU_; clear hU_
  have hU := fun W v0 (h0 : El W v0 st) => iJordanUnit_c (w := W) (p0 := p) h0 hl6
  have hU0 : chkH p st [] = 0 := chkH_ok hd rfl
  rw [show RJordanUnit0 p st = U by rw [HU.out]; exact if_pos hU0, show RJordanUnit1 p st = 0 from hU0] at hU
  clear hU0
  have HJ := Lib.hid (show jordanH p st X P = U by rw [HP.out, HU.out]; exact jor_inv hd hX hdt)
  have hRk := fun W v0 v1 (h0 : El W v0 st) (h1 : Hv W v1 X) => iJordanRank_c (w := W) (p0 := p) h0 hl6 h1 hz0
  rw [show RJordanRank0 p st X = 3 by unfold RJordanRank0; rw [if_pos hX0]; exact rank_det hdt hd hX, show RJordanRank1 p st X = 0 from hX0] at hRk
  clear hX0 hdt HK
  go_wp2_with fail
  refine (hRk _ _ _ hs hx).mono ?_; rintro e w49 ⟨rfl, hb49⟩
  have hs := hs.below hb49; have hx := hx.below hb49; have d0 := kept hb49 d0; have d1 := kept hb49 d1; have x0 := kept hb49 x0; have x1 := kept hb49 x1; have hq := hq.below hb49; have q0 := kept hb49 q0; have q1 := kept hb49 q1; have hr := hr.below hb49; have r0 := kept hb49 r0; have r1 := kept hb49 r1
  go_wp2_with fail
  refine (hU _ _ hs).mono ?_; rintro e w50 ⟨vhu, rfl, hu, hb50⟩
  have hs := hs.below hb50; have hx := hx.below hb50; have d0 := kept hb50 d0; have d1 := kept hb50 d1; have x0 := kept hb50 x0; have x1 := kept hb50 x1; have hq := hq.below hb50; have q0 := kept hb50 q0; have q1 := kept hb50 q1; have hr := hr.below hb50; have r0 := kept hb50 r0; have r1 := kept hb50 r1
  obtain ⟨d_hu, u_hu, rfl, q_hu, r_hu⟩ := hu.hv; obtain ⟨ahu, chu, rfl, _⟩ := q_hu.op; obtain ⟨bhu, ehu, rfl, _⟩ := id r_hu; clear q_hu r_hu
  have hb51 : Below w50.heap.size w50 (w50.alloc (.cells #[.slice ahu U.dg.length chu, .slice bhu U.up.length ehu] 31)) := (by repeat (first | exact Below.refl _ _ | apply blw_drew | apply blw_alloc | (refine blw_set ?_ (by first | omega | (simp; done) | (simp; omega)) _) | refine below_chain ?_ (by assumption)))
  have hs := hs.below hb51; have hx := hx.below hb51; have d0 := kept hb51 d0; have d1 := kept hb51 d1; have x0 := kept hb51 x0; have x1 := kept hb51 x1; have hq := hq.below hb51; have q0 := kept hb51 q0; have q1 := kept hb51 q1; have hr := hr.below hb51; have r0 := kept hb51 r0; have r1 := kept hb51 r1; have hu := hu.below hb51
  have u0 : (w50.alloc (.cells #[.slice ahu U.dg.length chu, .slice bhu U.up.length ehu] 31)).cell? ⟨w50.heap.size, 0, none⟩ = some (.slice ahu U.dg.length chu) := by simp [go_sem]
  have u1 : (w50.alloc (.cells #[.slice ahu U.dg.length chu, .slice bhu U.up.length ehu] 31)).cell? ⟨w50.heap.size, 1, none⟩ = some (.slice bhu U.up.length ehu) := by simp [go_sem]
  go_wp2_with fail
  refine region_flow [(false, [(0, 0), (1, 0), (2, 0), (3, 0), (4, 0), (5, 0), (6, 0), (7, 0), (8, 0), (9, 0), (10, 0), (11, 1), (12, 1), (13, 1), (15, 1), (14, 5)]), (false, [(16, 4), (17, 0), (18, 0)])] (by kernel_rfl) ?_
  refine norm_K fun K hK => ?_
  change wpList _ _ _ [_, _, _, _, _, _, _, _, _, _, _, _, _, _, _, _] _ _
  have hb52 : Below (w50.alloc (.cells #[.slice ahu U.dg.length chu, .slice bhu U.up.length ehu] 31)).heap.size (w50.alloc (.cells #[.slice ahu U.dg.length chu, .slice bhu U.up.length ehu] 31)) (w50.alloc (.cells #[.slice ahu U.dg.length chu, .slice bhu U.up.length ehu] 31)).drew := (by repeat (first | exact Below.refl _ _ | apply blw_drew | apply blw_alloc | (refine blw_set ?_ (by first | omega | (simp; done) | (simp; omega)) _) | refine below_chain ?_ (by assumption)))
  have hs := hs.below hb52; have hx := hx.below hb52; have d0 := kept hb52 d0; have d1 := kept hb52 d1; have x0 := kept hb52 x0; have x1 := kept hb52 x1; have hq := hq.below hb52; have q0 := kept hb52 q0; have q1 := kept hb52 q1; have hr := hr.below hb52; have r0 := kept hb52 r0; have r1 := kept hb52 r1; have hu := hu.below hb52; have u0 := kept hb52 u0; have u1 := kept hb52 u1
  generalize (w50.alloc (.cells #[.slice ahu U.dg.length chu, .slice bhu U.up.length ehu] 31)).drew = wr at *
  go_wp2_with fail
  refine (jordan9_c hd hs hx hX hq.hv iP).mono ?_; rintro e w53 ⟨v7, rfl, h7, hb53⟩
  have hs := hs.below hb53; have hx := hx.below hb53; have d0 := kept hb53 d0; have d1 := kept hb53 d1; have x0 := kept hb53 x0; have x1 := kept hb53 x1; have hq := hq.below hb53; have q0 := kept hb53 q0; have q1 := kept hb53 q1; have hr := hr.below hb53; have r0 := kept hb53 r0; have r1 := kept hb53 r1; have hu := hu.below hb53; have u0 := kept hb53 u0; have u1 := kept hb53 u1
  rw [HJ.out] at h7
  go_wp2_with fail
  have hz0 : Below wr.heap.size wr w53 := (by repeat (first | exact Below.refl _ _ | apply blw_drew | apply blw_alloc | (refine blw_set ?_ (by first | omega | (simp; done) | (simp; omega)) _) | refine below_chain ?_ (by assumption)))
  first | (refine hK _ _ ⟨hz0, ?_⟩; clear hK K) | refine ⟨hz0, ?_⟩
  clear hz0
  refine norm_K fun K hK => ?_
  change wpList _ _ _ [_, _, _] _ _
  go_wp2_with fail
  refine (herm9_c h7.hv hu.hv zU).mono ?_; rintro e w54 ⟨rfl, hb54⟩
  have hs := hs.below hb54; have hx := hx.below hb54; have d0 := kept hb54 d0; have d1 := kept hb54 d1; have x0 := kept hb54 x0; have x1 := kept hb54 x1; have hq := hq.below hb54; have q0 := kept hb54 q0; have q1 := kept hb54 q1; have hr := hr.below hb54; have r0 := kept hb54 r0; have r1 := kept hb54 r1; have hu := hu.below hb54; have u0 := kept hb54 u0; have u1 := kept hb54 u1; have h7 := h7.below hb54
  go_wp2_with fail
  first | (refine hK _ _ ⟨rfl, ?_⟩; clear hK K) | refine ⟨rfl, ?_⟩
  go_wp2_with fail
  go_ret
  exact ⟨rfl, (by repeat (first | exact Below.refl _ _ | apply blw_drew | apply blw_alloc | (refine blw_set ?_ (by first | omega | (simp; done) | (simp; omega)) _) | refine below_chain ?_ (by assumption)))⟩
end Go.Proofs.YtacfanjejaellaaGreat
