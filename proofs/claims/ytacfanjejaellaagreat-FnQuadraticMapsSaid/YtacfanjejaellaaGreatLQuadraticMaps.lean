/-
  The law FnQuadraticMaps: its walk.
-/
import Derived.Test.YtacfanjejaellaaGreatHfA
import Derived.Test.YtacfanjejaellaaGreatJbx
import Derived.Test.YtacfanjejaellaaGreatJbv
namespace Go.Proofs.YtacfanjejaellaaGreat
open Go.RowKit

set_option maxHeartbeats 32000000 in
set_option maxRecDepth 100000 in
theorem law_QuadraticMaps {a : Option Addr} {n c : Nat} {w : World} (hn : n ≤ 9223372036854775807) (hco : n ≤ 4096 → Co w w.heap.size (.slice a n c) n) :
    Calls Tryz.prog 4 #[.slice a n c] w fun e w' => e = .returned (.bool true) ∧ Below w.heap.size w w' := by
  by_cases hbig : 4096 < n
  · go_enter Tryz.func4, Tryz.ntmps4
    go_wp2_with fail
    refine (big_c hn).mono ?_; rintro e w1 ⟨rfl, rfl⟩
    rw [decide_eq_true hbig]
    go_wp2_with fail
    go_ret
    exact ⟨rfl, Below.refl _ _⟩
  have hc := hco (by omega)
  have hbf : decide (4096 < n) = false := decide_eq_false hbig
  clear hco hbig
  go_enter Tryz.func4, Tryz.ntmps4
  go_wp2_with fail
  refine (big_c hn).mono ?_; rintro e w0 ⟨rfl, rfl⟩
  rw [hbf]
  go_wp2_with fail
  refine (sdrawquad_c hc).mono ?_; rintro e w1 ⟨p, v, x, y, st, X, Y, rfl, hp1, hp2, hl, hE, hV0, hV1, hz0, hz1, hb1⟩
  obtain ⟨av, cv, rfl⟩ := hE.shape
  obtain ⟨ax, cx, b_x, ex, rfl⟩ := hV0.shape
  obtain ⟨ay, cy, b_y, ey, rfl⟩ := hV1.shape
  have hs := hE.1; have hx := hV0.hv; have hy := hV1.hv
  clear hE hV0 hV1
  have hl6 : st.length ≤ 1048576 := by omega
  have hI := fun W v0 v1 v2 (h0 : El W v0 st) (h1 : Hv W v1 X) (h2 : Hv W v2 Y) => iQuadraticMap_c (w := W) (p0 := p) h0 hl6 h1 hz0 h2 hz1
  have hS := fun W v0 v1 v2 (h0 : El W v0 st) (h1 : Hv W v1 X) (h2 : Hv W v2 Y) => sQuadraticMap_c (w := W) (p0 := p) h0 hl6 h1 hz0 h2 hz1
  have hno : RQuadraticMap1 p st X Y ≠ 0 → RQuadraticMap0 p st X Y = ⟨[], []⟩ := fun h => if_neg h
  have hyl := RQuadraticMap0_len p st X Y hl6 hz0 hz1
  obtain ⟨k, hk⟩ : ∃ k, k = RQuadraticMap1 p st X Y := ⟨_, rfl⟩; obtain ⟨P, hP⟩ : ∃ P, P = RQuadraticMap0 p st X Y := ⟨_, rfl⟩
  simp only [← hk, ← hP] at hI hS hno hyl
  have HK := Lib.hid (And.intro hk hP); clear hk hP
  have hb22 : Below w1.heap.size w1 (w1.alloc (.cells #[.int .i64 p, .slice av st.length cv] 26)) := (by repeat (first | exact Below.refl _ _ | apply blw_drew | apply blw_alloc | (refine blw_set ?_ (by first | omega | (simp; done) | (simp; omega)) _) | refine below_chain ?_ (by assumption)))
  have hs := hs.below hb22; have hx := hx.below hb22; have hy := hy.below hb22
  have d0 : (w1.alloc (.cells #[.int .i64 p, .slice av st.length cv] 26)).cell? ⟨w1.heap.size, 0, none⟩ = some (.int .i64 p) := by simp [go_sem]
  have d1 : (w1.alloc (.cells #[.int .i64 p, .slice av st.length cv] 26)).cell? ⟨w1.heap.size, 1, none⟩ = some (.slice av st.length cv) := by simp [go_sem]
  have hb23 : Below (w1.alloc (.cells #[.int .i64 p, .slice av st.length cv] 26)).heap.size (w1.alloc (.cells #[.int .i64 p, .slice av st.length cv] 26)) ((w1.alloc (.cells #[.int .i64 p, .slice av st.length cv] 26)).alloc (.cells #[.slice ax X.dg.length cx, .slice b_x X.up.length ex] 31)) := (by repeat (first | exact Below.refl _ _ | apply blw_drew | apply blw_alloc | (refine blw_set ?_ (by first | omega | (simp; done) | (simp; omega)) _) | refine below_chain ?_ (by assumption)))
  have hs := hs.below hb23; have hx := hx.below hb23; have hy := hy.below hb23; have d0 := kept hb23 d0; have d1 := kept hb23 d1
  have x0 : ((w1.alloc (.cells #[.int .i64 p, .slice av st.length cv] 26)).alloc (.cells #[.slice ax X.dg.length cx, .slice b_x X.up.length ex] 31)).cell? ⟨w1.heap.size + 1, 0, none⟩ = some (.slice ax X.dg.length cx) := by simp [go_sem]
  have x1 : ((w1.alloc (.cells #[.int .i64 p, .slice av st.length cv] 26)).alloc (.cells #[.slice ax X.dg.length cx, .slice b_x X.up.length ex] 31)).cell? ⟨w1.heap.size + 1, 1, none⟩ = some (.slice b_x X.up.length ex) := by simp [go_sem]
  have hb24 : Below ((w1.alloc (.cells #[.int .i64 p, .slice av st.length cv] 26)).alloc (.cells #[.slice ax X.dg.length cx, .slice b_x X.up.length ex] 31)).heap.size ((w1.alloc (.cells #[.int .i64 p, .slice av st.length cv] 26)).alloc (.cells #[.slice ax X.dg.length cx, .slice b_x X.up.length ex] 31)) (((w1.alloc (.cells #[.int .i64 p, .slice av st.length cv] 26)).alloc (.cells #[.slice ax X.dg.length cx, .slice b_x X.up.length ex] 31)).alloc (.cells #[.slice ay Y.dg.length cy, .slice b_y Y.up.length ey] 31)) := (by repeat (first | exact Below.refl _ _ | apply blw_drew | apply blw_alloc | (refine blw_set ?_ (by first | omega | (simp; done) | (simp; omega)) _) | refine below_chain ?_ (by assumption)))
  have hs := hs.below hb24; have hx := hx.below hb24; have hy := hy.below hb24; have d0 := kept hb24 d0; have d1 := kept hb24 d1; have x0 := kept hb24 x0; have x1 := kept hb24 x1
  have y0 : (((w1.alloc (.cells #[.int .i64 p, .slice av st.length cv] 26)).alloc (.cells #[.slice ax X.dg.length cx, .slice b_x X.up.length ex] 31)).alloc (.cells #[.slice ay Y.dg.length cy, .slice b_y Y.up.length ey] 31)).cell? ⟨w1.heap.size + 1 + 1, 0, none⟩ = some (.slice ay Y.dg.length cy) := by simp [go_sem]
  have y1 : (((w1.alloc (.cells #[.int .i64 p, .slice av st.length cv] 26)).alloc (.cells #[.slice ax X.dg.length cx, .slice b_x X.up.length ex] 31)).alloc (.cells #[.slice ay Y.dg.length cy, .slice b_y Y.up.length ey] 31)).cell? ⟨w1.heap.size + 1 + 1, 1, none⟩ = some (.slice b_y Y.up.length ey) := by simp [go_sem]
  go_wp2_with fail
  refine (hI _ _ _ _ hs hx hy).mono ?_; rintro e w25 ⟨vhq, rfl, hq, hb25⟩
  have hs := hs.below hb25; have hx := hx.below hb25; have hy := hy.below hb25; have d0 := kept hb25 d0; have d1 := kept hb25 d1; have x0 := kept hb25 x0; have x1 := kept hb25 x1; have y0 := kept hb25 y0; have y1 := kept hb25 y1
  obtain ⟨d_hq, u_hq, rfl, q_hq, r_hq⟩ := hq.hv; obtain ⟨ahq, chq, rfl, _⟩ := q_hq.op; obtain ⟨bhq, ehq, rfl, _⟩ := id r_hq; clear q_hq r_hq
  have hb26 : Below w25.heap.size w25 (w25.alloc (.cells #[.slice ahq P.dg.length chq, .slice bhq P.up.length ehq] 31)) := (by repeat (first | exact Below.refl _ _ | apply blw_drew | apply blw_alloc | (refine blw_set ?_ (by first | omega | (simp; done) | (simp; omega)) _) | refine below_chain ?_ (by assumption)))
  have hs := hs.below hb26; have hx := hx.below hb26; have hy := hy.below hb26; have d0 := kept hb26 d0; have d1 := kept hb26 d1; have x0 := kept hb26 x0; have x1 := kept hb26 x1; have y0 := kept hb26 y0; have y1 := kept hb26 y1; have hq := hq.below hb26
  have q0 : (w25.alloc (.cells #[.slice ahq P.dg.length chq, .slice bhq P.up.length ehq] 31)).cell? ⟨w25.heap.size, 0, none⟩ = some (.slice ahq P.dg.length chq) := by simp [go_sem]
  have q1 : (w25.alloc (.cells #[.slice ahq P.dg.length chq, .slice bhq P.up.length ehq] 31)).cell? ⟨w25.heap.size, 1, none⟩ = some (.slice bhq P.up.length ehq) := by simp [go_sem]
  go_wp2_with fail
  refine (hS _ _ _ _ hs hx hy).mono ?_; rintro e w27 ⟨vhr, rfl, hr, hb27⟩
  have hs := hs.below hb27; have hx := hx.below hb27; have hy := hy.below hb27; have d0 := kept hb27 d0; have d1 := kept hb27 d1; have x0 := kept hb27 x0; have x1 := kept hb27 x1; have y0 := kept hb27 y0; have y1 := kept hb27 y1; have hq := hq.below hb27; have q0 := kept hb27 q0; have q1 := kept hb27 q1
  obtain ⟨d_hr, u_hr, rfl, q_hr, r_hr⟩ := hr.hv; obtain ⟨ahr, chr, rfl, _⟩ := q_hr.op; obtain ⟨bhr, ehr, rfl, _⟩ := id r_hr; clear q_hr r_hr
  have hb28 : Below w27.heap.size w27 (w27.alloc (.cells #[.slice ahr P.dg.length chr, .slice bhr P.up.length ehr] 31)) := (by repeat (first | exact Below.refl _ _ | apply blw_drew | apply blw_alloc | (refine blw_set ?_ (by first | omega | (simp; done) | (simp; omega)) _) | refine below_chain ?_ (by assumption)))
  have hs := hs.below hb28; have hx := hx.below hb28; have hy := hy.below hb28; have d0 := kept hb28 d0; have d1 := kept hb28 d1; have x0 := kept hb28 x0; have x1 := kept hb28 x1; have y0 := kept hb28 y0; have y1 := kept hb28 y1; have hq := hq.below hb28; have q0 := kept hb28 q0; have q1 := kept hb28 q1; have hr := hr.below hb28
  have r0 : (w27.alloc (.cells #[.slice ahr P.dg.length chr, .slice bhr P.up.length ehr] 31)).cell? ⟨w27.heap.size, 0, none⟩ = some (.slice ahr P.dg.length chr) := by simp [go_sem]
  have r1 : (w27.alloc (.cells #[.slice ahr P.dg.length chr, .slice bhr P.up.length ehr] 31)).cell? ⟨w27.heap.size, 1, none⟩ = some (.slice bhr P.up.length ehr) := by simp [go_sem]
  go_wp2_with fail
  refine (herm9_c hq.hv hr.hv hyl.toHsz).mono ?_; rintro e w29 ⟨rfl, hb29⟩
  have hs := hs.below hb29; have hx := hx.below hb29; have hy := hy.below hb29; have d0 := kept hb29 d0; have d1 := kept hb29 d1; have x0 := kept hb29 x0; have x1 := kept hb29 x1; have y0 := kept hb29 y0; have y1 := kept hb29 y1; have hq := hq.below hb29; have q0 := kept hb29 q0; have q1 := kept hb29 q1; have hr := hr.below hb29; have r0 := kept hb29 r0; have r1 := kept hb29 r1
  by_cases hk0 : k = 0
  case neg =>
    obtain rfl := hno hk0
    have hkb : (k == 0) = false := by simpa using hk0
    go_wp2_with fail
    go_ret
    exact ⟨rfl, (by repeat (first | exact Below.refl _ _ | apply blw_drew | apply blw_alloc | (refine blw_set ?_ (by first | omega | (simp; done) | (simp; omega)) _) | refine below_chain ?_ (by assumption)))⟩
  subst hk0
  have hk1 : chkH p st [X, Y] = 0 := HK.out.1.symm
  obtain ⟨hd, hall⟩ := chkH_pos hk1
  have hX : isH p (sz st.length) X = true := by simp at hall; exact hall.1
  have hY : isH p (sz st.length) Y = true := by simp at hall; exact hall.2
  have hPJ : P = quadH p st X Y := HK.out.2.trans (if_pos hk1)
  have h2p : 2 ≤ p := by have := hd.hp.lo; omega
  have iP : isH p (sz st.length) P = true := by rw [hPJ]; exact quadH_is h2p hX hY
  have zP := isH_hsz hd iP
  have HP := Lib.hid hPJ
  have hZX := isH_hsz hd hX; have hZY := isH_hsz hd hY
  clear hall hk1 hPJ hno hI hS HK hyl
  have iU : isH p (sz st.length) (unitH (sz st.length)) = true := unitH_is h2p
  have zU := isH_hsz hd iU
  obtain ⟨U, hU_⟩ : ∃ z_, z_ = unitH (sz st.length) := ⟨_, rfl⟩
  simp only [← hU_] at iU zU
  have HU := Lib.hid hU_; clear hU_
  have hU := fun W v0 (h0 : El W v0 st) => iJordanUnit_c (w := W) (p0 := p) h0 hl6
  have hU0 : chkH p st [] = 0 := chkH_ok hd rfl
  rw [show RJordanUnit0 p st = U by rw [HU.out]; exact if_pos hU0, show RJordanUnit1 p st = 0 from hU0] at hU
  clear hU0
  obtain ⟨n1, hn1⟩ : ∃ t, t = detH p st X := ⟨_, rfl⟩; obtain ⟨n2, hn2⟩ : ∃ t, t = detH p st Y := ⟨_, rfl⟩; obtain ⟨n3, hn3⟩ : ∃ t, t = detH p st P := ⟨_, rfl⟩
  have bn1 : 0 ≤ n1 ∧ n1 < p := by rw [hn1]; exact det_fp hd
  have bn2 : 0 ≤ n2 ∧ n2 < p := by rw [hn2]; exact det_fp hd
  have hD : (n3 == n1 * n1 % p * n2 % p) = true := by rw [beq_iff_eq, hn3, hn1, hn2, HP.out]; exact quad_det hd hX hY
  have HN := Lib.hid (And.intro hn1 (And.intro hn2 hn3)); clear hn1 hn2 hn3
  have HD := Lib.hid hD; clear hD
  have iS : isH p (sz st.length) (jordanH p st Y Y) = true := jordanH_is h2p hY hY
  have zS := isH_hsz hd iS
  obtain ⟨S, hS_⟩ : ∃ z_, z_ = jordanH p st Y Y := ⟨_, rfl⟩
  simp only [← hS_] at iS zS
  have HS := Lib.hid hS_; clear hS_
  have iQ1 : isH p (sz st.length) (sumH p X 3 U) = true := sumH_is (by omega) hX iU
  have zQ1 := isH_hsz hd iQ1
  obtain ⟨Q1, hQ1_⟩ : ∃ z_, z_ = sumH p X 3 U := ⟨_, rfl⟩
  simp only [← hQ1_] at iQ1 zQ1
  have HQ1 := Lib.hid hQ1_; clear hQ1_
  have iZ : isH p (sz st.length) (sumH p S 1 Q1) = true := sumH_is (by omega) iS iQ1
  have zZ := isH_hsz hd iZ
  obtain ⟨Z, hZ_⟩ : ∃ z_, z_ = sumH p S 1 Q1 := ⟨_, rfl⟩
  simp only [← hZ_] at iZ zZ
  have HZ := Lib.hid hZ_; clear hZ_
  have iV1 : isH p (sz st.length) (quadH p st P Z) = true := quadH_is h2p iP iZ
  have zV1 := isH_hsz hd iV1
  obtain ⟨V1, hV1_⟩ : ∃ z_, z_ = quadH p st P Z := ⟨_, rfl⟩
  simp only [← hV1_] at iV1 zV1
  have HV1 := Lib.hid hV1_; clear hV1_
  have iV2 : isH p (sz st.length) (quadH p st X Z) = true := quadH_is h2p hX iZ
  have zV2 := isH_hsz hd iV2
  obtain ⟨V2, hV2_⟩ : ∃ z_, z_ = quadH p st X Z := ⟨_, rfl⟩
  simp only [← hV2_] at iV2 zV2
  have HV2 := Lib.hid hV2_; clear hV2_
  have iV3 : isH p (sz st.length) (quadH p st Y V2) = true := quadH_is h2p hY iV2
  have zV3 := isH_hsz hd iV3
  obtain ⟨V3, hV3_⟩ : ∃ z_, z_ = quadH p st Y V2 := ⟨_, rfl⟩
  simp only [← hV3_] at iV3 zV3
  have HV3 := Lib.hid hV3_; clear hV3_
  have e4 : quadH p st X V3 = V1 := by rw [HV1.out, HV3.out, HV2.out, HP.out]; exact (quad_fund hd hX hY iZ).symm
  have H4 := Lib.hid e4; clear e4
  have iT : isH p (sz st.length) (jordanH p st X X) = true := jordanH_is h2p hX hX
  have zT := isH_hsz hd iT
  obtain ⟨T, hT_⟩ : ∃ z_, z_ = jordanH p st X X := ⟨_, rfl⟩
  simp only [← hT_] at iT zT
  have HT := Lib.hid hT_; clear hT_
  have e5 : quadH p st X U = T := by rw [HT.out, HU.out]; exact quad_unit hd hX
  have H5 := Lib.hid e5; clear e5
  have c1 := fun W v0 v1 v2 (h0 : El W v0 st) (h1 : Hv W v1 P) (h2 : Hv W v2 Z) => iQuadraticMap_c (w := W) (p0 := p) h0 hl6 h1 zP h2 zZ
  have c1_ : chkH p st [P, Z] = 0 := chkH_ok hd (by simp [iP, iZ])
  rw [show RQuadraticMap0 p st P Z = V1 by rw [HV1.out]; exact if_pos c1_, show RQuadraticMap1 p st P Z = 0 from c1_] at c1
  clear c1_
  have c2 := fun W v0 v1 v2 (h0 : El W v0 st) (h1 : Hv W v1 X) (h2 : Hv W v2 Z) => iQuadraticMap_c (w := W) (p0 := p) h0 hl6 h1 hZX h2 zZ
  have c2_ : chkH p st [X, Z] = 0 := chkH_ok hd (by simp [hX, iZ])
  rw [show RQuadraticMap0 p st X Z = V2 by rw [HV2.out]; exact if_pos c2_, show RQuadraticMap1 p st X Z = 0 from c2_] at c2
  clear c2_
  have c3 := fun W v0 v1 v2 (h0 : El W v0 st) (h1 : Hv W v1 Y) (h2 : Hv W v2 V2) => iQuadraticMap_c (w := W) (p0 := p) h0 hl6 h1 hZY h2 zV2
  have c3_ : chkH p st [Y, V2] = 0 := chkH_ok hd (by simp [hY, iV2])
  rw [show RQuadraticMap0 p st Y V2 = V3 by rw [HV3.out]; exact if_pos c3_, show RQuadraticMap1 p st Y V2 = 0 from c3_] at c3
  clear c3_
  have c4 := fun W v0 v1 v2 (h0 : El W v0 st) (h1 : Hv W v1 X) (h2 : Hv W v2 V3) => iQuadraticMap_c (w := W) (p0 := p) h0 hl6 h1 hZX h2 zV3
  have c4_ : chkH p st [X, V3] = 0 := chkH_ok hd (by simp [hX, iV3])
  rw [show RQuadraticMap0 p st X V3 = V1 by rw [← H4.out]; exact if_pos c4_, show RQuadraticMap1 p st X V3 = 0 from c4_] at c4
  clear c4_
  have c5 := fun W v0 v1 v2 (h0 : El W v0 st) (h1 : Hv W v1 X) (h2 : Hv W v2 U) => iQuadraticMap_c (w := W) (p0 := p) h0 hl6 h1 hZX h2 zU
  have c5_ : chkH p st [X, U] = 0 := chkH_ok hd (by simp [hX, iU])
  rw [show RQuadraticMap0 p st X U = T by rw [← H5.out]; exact if_pos c5_, show RQuadraticMap1 p st X U = 0 from c5_] at c5
  clear c5_
  go_wp2_with fail
  refine region_flow [(false, [(0, 1), (1, 1), (3, 1), (4, 1), (2, 5)]), (false, [(5, 4), (6, 0), (7, 0)])] (by kernel_rfl) ?_
  refine norm_K fun K hK => ?_
  change wpList _ _ _ [_, _, _, _, _] _ _
  have hb30 : Below w29.heap.size w29 w29.drew := (by repeat (first | exact Below.refl _ _ | apply blw_drew | apply blw_alloc | (refine blw_set ?_ (by first | omega | (simp; done) | (simp; omega)) _) | refine below_chain ?_ (by assumption)))
  have hs := hs.below hb30; have hx := hx.below hb30; have hy := hy.below hb30; have d0 := kept hb30 d0; have d1 := kept hb30 d1; have x0 := kept hb30 x0; have x1 := kept hb30 x1; have y0 := kept hb30 y0; have y1 := kept hb30 y1; have hq := hq.below hb30; have q0 := kept hb30 q0; have q1 := kept hb30 q1; have hr := hr.below hb30; have r0 := kept hb30 r0; have r1 := kept hb30 r1
  generalize w29.drew = wq at *
  go_wp2_with fail
  refine (det9_c hd hs hx hX).mono ?_; rintro e w31 ⟨rfl, hb31⟩
  have hs := hs.below hb31; have hx := hx.below hb31; have hy := hy.below hb31; have d0 := kept hb31 d0; have d1 := kept hb31 d1; have x0 := kept hb31 x0; have x1 := kept hb31 x1; have y0 := kept hb31 y0; have y1 := kept hb31 y1; have hq := hq.below hb31; have q0 := kept hb31 q0; have q1 := kept hb31 q1; have hr := hr.below hb31; have r0 := kept hb31 r0; have r1 := kept hb31 r1
  rw [← HN.out.1]
  go_wp2_with fail
  have hz0 : Below wq.heap.size wq w31 := (by repeat (first | exact Below.refl _ _ | apply blw_drew | apply blw_alloc | (refine blw_set ?_ (by first | omega | (simp; done) | (simp; omega)) _) | refine below_chain ?_ (by assumption)))
  first | (refine hK _ _ ⟨hz0, ?_⟩; clear hK K) | refine ⟨hz0, ?_⟩
  clear hz0
  refine norm_K fun K hK => ?_
  change wpList _ _ _ [_, _, _] _ _
  go_wp2_with fail
  refine (det9_c hd hs hy hY).mono ?_; rintro e w32 ⟨rfl, hb32⟩
  have hs := hs.below hb32; have hx := hx.below hb32; have hy := hy.below hb32; have d0 := kept hb32 d0; have d1 := kept hb32 d1; have x0 := kept hb32 x0; have x1 := kept hb32 x1; have y0 := kept hb32 y0; have y1 := kept hb32 y1; have hq := hq.below hb32; have q0 := kept hb32 q0; have q1 := kept hb32 q1; have hr := hr.below hb32; have r0 := kept hb32 r0; have r1 := kept hb32 r1
  rw [← HN.out.2.1]
  go_wp2_with fail
  first | (refine hK _ _ ⟨rfl, ?_⟩; clear hK K) | refine ⟨rfl, ?_⟩
  go_upto_region 11 with fail
  generalize hwE : w32 = wE at *
  clear hwE
  go_wp2_with fail
  refine (hU _ _ hs).mono ?_; rintro e w21 ⟨vhu, rfl, hu, hb21⟩
  have hs := hs.below hb21; have hx := hx.below hb21; have hy := hy.below hb21; have d0 := kept hb21 d0; have d1 := kept hb21 d1; have x0 := kept hb21 x0; have x1 := kept hb21 x1; have y0 := kept hb21 y0; have y1 := kept hb21 y1; have hq := hq.below hb21; have q0 := kept hb21 q0; have q1 := kept hb21 q1; have hr := hr.below hb21; have r0 := kept hb21 r0; have r1 := kept hb21 r1
  obtain ⟨d_hu, u_hu, rfl, q_hu, r_hu⟩ := hu.hv; obtain ⟨ahu, chu, rfl, _⟩ := q_hu.op; obtain ⟨bhu, ehu, rfl, _⟩ := id r_hu; clear q_hu r_hu
  have hb22 : Below w21.heap.size w21 (w21.alloc (.cells #[.slice ahu U.dg.length chu, .slice bhu U.up.length ehu] 31)) := (by repeat (first | exact Below.refl _ _ | apply blw_drew | apply blw_alloc | (refine blw_set ?_ (by first | omega | (simp; done) | (simp; omega)) _) | refine below_chain ?_ (by assumption)))
  have hs := hs.below hb22; have hx := hx.below hb22; have hy := hy.below hb22; have d0 := kept hb22 d0; have d1 := kept hb22 d1; have x0 := kept hb22 x0; have x1 := kept hb22 x1; have y0 := kept hb22 y0; have y1 := kept hb22 y1; have hq := hq.below hb22; have q0 := kept hb22 q0; have q1 := kept hb22 q1; have hr := hr.below hb22; have r0 := kept hb22 r0; have r1 := kept hb22 r1; have hu := hu.below hb22
  have u0 : (w21.alloc (.cells #[.slice ahu U.dg.length chu, .slice bhu U.up.length ehu] 31)).cell? ⟨w21.heap.size, 0, none⟩ = some (.slice ahu U.dg.length chu) := by simp [go_sem]
  have u1 : (w21.alloc (.cells #[.slice ahu U.dg.length chu, .slice bhu U.up.length ehu] 31)).cell? ⟨w21.heap.size, 1, none⟩ = some (.slice bhu U.up.length ehu) := by simp [go_sem]
  go_upto_region 12 with fail
  generalize hwG : (w21.alloc (.cells #[.slice ahu U.dg.length chu, .slice bhu U.up.length ehu] 31)) = wG at *
  clear hwG
  go_cut [14] (fun s_ wx => ∃ N d u, s_ = .pointer (some ⟨N, 0, none⟩) ∧ wG.heap.size ≤ N ∧ Bx wx N d u ∧ FrH wx wG.heap.size (.agg #[d, u]) (Z) ∧ Below wG.heap.size wG wx)
  case first =>
    refine region_tq [(0, 1), (1, 1), (2, 1), (3, 1), (5, 1), (6, 1), (7, 1)] (.two 4 5 (.two 8 5 (.two 9 5 (.lin [(false, [(10, 5)]), (false, [(11, 4)])]) 10 5 (.lin [(false, [(9, 4), (11, 4)])])) 10 5 (.lin [(false, [(8, 5)]), (false, [(9, 4), (11, 4)])])) 10 5 (.lin [(false, [(4, 5)]), (false, [(8, 5)]), (false, [(9, 4), (11, 4)])])) (by kernel_rfl) ?_
    refine norm_K fun K hK => ?_
    change wpList _ _ _ [_, _, _, _, _, _, _] _ _
    go_wp2_with fail
    have hbq : Below wG.heap.size wG wG.drew := (by repeat (first | exact Below.refl _ _ | apply blw_drew | apply blw_alloc | (refine blw_set ?_ (by first | omega | (simp; done) | (simp; omega)) _) | refine below_chain ?_ (by assumption)))
    have hs := hs.below hbq; have hx := hx.below hbq; have hy := hy.below hbq; have d0 := kept hbq d0; have d1 := kept hbq d1; have x0 := kept hbq x0; have x1 := kept hbq x1; have y0 := kept hbq y0; have y1 := kept hbq y1; have hq := hq.below hbq; have q0 := kept hbq q0; have q1 := kept hbq q1; have hr := hr.below hbq; have r0 := kept hbq r0; have r1 := kept hbq r1; have hu := hu.below hbq; have u0 := kept hbq u0; have u1 := kept hbq u1
    have szq : wG.heap.size = wG.drew.heap.size := rfl
    generalize wG.drew = wq at *
    refine hK _ _ ?_; clear hK K
    refine ⟨?_, ?_⟩
    · skip
      refine norm_K fun K hK => ?_
      change wpList _ _ _ [_] _ _
      go_wp2_with fail
      refine (jordan9_c hd hs hy hY hy hY).mono ?_; rintro e w41 ⟨v9, rfl, h9, hb41⟩
      have hs := hs.below hb41; have hx := hx.below hb41; have hy := hy.below hb41; have d0 := kept hb41 d0; have d1 := kept hb41 d1; have x0 := kept hb41 x0; have x1 := kept hb41 x1; have y0 := kept hb41 y0; have y1 := kept hb41 y1; have hq := hq.below hb41; have q0 := kept hb41 q0; have q1 := kept hb41 q1; have hr := hr.below hb41; have r0 := kept hb41 r0; have r1 := kept hb41 r1; have hu := hu.below hb41; have u0 := kept hb41 u0; have u1 := kept hb41 u1
      have sz41 : wq.heap.size ≤ w41.heap.size := hb41.size
      rw [← HS.out] at h9
      go_wp2_with fail
      first | (refine hK _ _ ⟨(by repeat (first | exact Below.refl _ _ | apply blw_drew | apply blw_alloc | (refine blw_set ?_ (by first | omega | (simp; done) | (simp; omega)) _) | refine below_chain ?_ (by assumption))), ?_⟩; clear hK K) | refine ⟨(by repeat (first | exact Below.refl _ _ | apply blw_drew | apply blw_alloc | (refine blw_set ?_ (by first | omega | (simp; done) | (simp; omega)) _) | refine below_chain ?_ (by assumption))), ?_⟩
      refine ⟨?_, ?_⟩
      · skip
        refine norm_K fun K hK => ?_
        change wpList _ _ _ [_] _ _
        go_wp2_with fail
        refine (sum9_c hd hs hx hX hu.hv iU (by decide) (by decide)).mono ?_; rintro e w42 ⟨v10, rfl, h10, hb42⟩
        have hs := hs.below hb42; have hx := hx.below hb42; have hy := hy.below hb42; have d0 := kept hb42 d0; have d1 := kept hb42 d1; have x0 := kept hb42 x0; have x1 := kept hb42 x1; have y0 := kept hb42 y0; have y1 := kept hb42 y1; have hq := hq.below hb42; have q0 := kept hb42 q0; have q1 := kept hb42 q1; have hr := hr.below hb42; have r0 := kept hb42 r0; have r1 := kept hb42 r1; have hu := hu.below hb42; have u0 := kept hb42 u0; have u1 := kept hb42 u1; have h9 := h9.below hb42
        have sz42 : w41.heap.size ≤ w42.heap.size := hb42.size
        rw [← HQ1.out] at h10
        go_wp2_with fail
        first | (refine hK _ _ ⟨(by repeat (first | exact Below.refl _ _ | apply blw_drew | apply blw_alloc | (refine blw_set ?_ (by first | omega | (simp; done) | (simp; omega)) _) | refine below_chain ?_ (by assumption))), ?_⟩; clear hK K) | refine ⟨(by repeat (first | exact Below.refl _ _ | apply blw_drew | apply blw_alloc | (refine blw_set ?_ (by first | omega | (simp; done) | (simp; omega)) _) | refine below_chain ?_ (by assumption))), ?_⟩
        refine ⟨?_, ?_⟩
        · skip
          refine norm_K fun K hK => ?_
          change wpList _ _ _ [_] _ _
          go_wp2_with fail
          refine (sum9_c hd hs h9.hv iS h10.hv iQ1 (by decide) (by decide)).mono ?_; rintro e w43 ⟨v11, rfl, h11, hb43⟩
          have hs := hs.below hb43; have hx := hx.below hb43; have hy := hy.below hb43; have d0 := kept hb43 d0; have d1 := kept hb43 d1; have x0 := kept hb43 x0; have x1 := kept hb43 x1; have y0 := kept hb43 y0; have y1 := kept hb43 y1; have hq := hq.below hb43; have q0 := kept hb43 q0; have q1 := kept hb43 q1; have hr := hr.below hb43; have r0 := kept hb43 r0; have r1 := kept hb43 r1; have hu := hu.below hb43; have u0 := kept hb43 u0; have u1 := kept hb43 u1; have h9 := h9.below hb43; have h10 := h10.below hb43
          have sz43 : w42.heap.size ≤ w43.heap.size := hb43.size
          rw [← HZ.out] at h11
          obtain ⟨d2, u2, us2, rfl, ⟨g2, k2_, rfl, q2⟩, hu2_, hne2⟩ := id h11; obtain ⟨g3, k3_, rfl, hq3_⟩ := id hu2_; clear hq3_ hu2_ q2
          go_wp2_with fail
          first | (refine hK _ _ ⟨(by repeat (first | exact Below.refl _ _ | apply blw_drew | apply blw_alloc | (refine blw_set ?_ (by first | omega | (simp; done) | (simp; omega)) _) | refine below_chain ?_ (by assumption))), ?_⟩; clear hK K) | refine ⟨(by repeat (first | exact Below.refl _ _ | apply blw_drew | apply blw_alloc | (refine blw_set ?_ (by first | omega | (simp; done) | (simp; omega)) _) | refine below_chain ?_ (by assumption))), ?_⟩
          refine norm_K fun K hK => ?_
          change wpList _ _ _ [_] _ _
          go_wp2_with fail
          have hb44 : Below w43.heap.size w43 (w43.alloc (.cells #[.slice none 0 0, .slice none 0 0] 31)) := (by repeat (first | exact Below.refl _ _ | apply blw_drew | apply blw_alloc | (refine blw_set ?_ (by first | omega | (simp; done) | (simp; omega)) _) | refine below_chain ?_ (by assumption)))
          have h11A := h11; have hbA := hb44
          have hs := hs.below hb44; have hx := hx.below hb44; have hy := hy.below hb44; have d0 := kept hb44 d0; have d1 := kept hb44 d1; have x0 := kept hb44 x0; have x1 := kept hb44 x1; have y0 := kept hb44 y0; have y1 := kept hb44 y1; have hq := hq.below hb44; have q0 := kept hb44 q0; have q1 := kept hb44 q1; have hr := hr.below hb44; have r0 := kept hb44 r0; have r1 := kept hb44 r1; have hu := hu.below hb44; have u0 := kept hb44 u0; have u1 := kept hb44 u1; have h9 := h9.below hb44; have h10 := h10.below hb44; have h11 := h11.below hb44
          have hN : Bx (w43.alloc (.cells #[.slice none 0 0, .slice none 0 0] 31)) w43.heap.size (.slice none 0 0) (.slice none 0 0) := heap_alloc_new _ _
          have sz44 : w43.heap.size + 1 = (w43.alloc (.cells #[.slice none 0 0, .slice none 0 0] 31)).heap.size := by simp
          go_wp2_with fail
          obtain ⟨w44, hw_⟩ : ∃ x, x = (w43.alloc (.cells #[.slice none 0 0, .slice none 0 0] 31)) := ⟨_, rfl⟩
          rw [← hw_] at hb44 sz44 hs hx hy d0 d1 x0 x1 y0 y1 hq q0 q1 hr r0 r1 hu u0 u1 h9 h10 h11 hN hbA ⊢; clear hw_
          go_wp2_with fail
          first | (refine hK _ _ ⟨(by repeat (first | exact Below.refl _ _ | apply blw_drew | apply blw_alloc | (refine blw_set ?_ (by first | omega | (simp; done) | (simp; omega)) _) | refine below_chain ?_ (by assumption))), ?_⟩; clear hK K) | refine ⟨(by repeat (first | exact Below.refl _ _ | apply blw_drew | apply blw_alloc | (refine blw_set ?_ (by first | omega | (simp; done) | (simp; omega)) _) | refine below_chain ?_ (by assumption))), ?_⟩
          refine norm_K fun K hK => ?_
          change wpList _ _ _ [_] _ _
          have rc0 := hN.c0; have rc1 := hN.c1; have rf0 := hN.f0; have rf1 := hN.f1
          go_wp2_with fail
          first | (refine hK _ _ ⟨rfl, ?_⟩; clear hK K) | refine ⟨rfl, ?_⟩
          go_wp2_with fail
          go_meet
          case rel => exact ⟨w43.heap.size, _, _, rfl, by omega, (hN.set0 _).set1 _, (h11A.below (blw_set (p := ⟨w43.heap.size, 1, none⟩) (blw_set (p := ⟨w43.heap.size, 0, none⟩) hbA (Nat.le_refl _) _) (Nat.le_refl _) _)).more (by omega), (by repeat (first | exact Below.refl _ _ | apply blw_drew | apply blw_alloc | (refine blw_set ?_ (by first | omega | (simp; done) | (simp; omega)) _) | refine below_chain ?_ (by assumption)))⟩
        · skip
          refine norm_K fun K hK => ?_
          change wpList _ _ _ [_] _ _
          go_wp2_with fail
          have hb43 : Below w42.heap.size w42 (w42.alloc (.cells #[.slice none 0 0, .slice none 0 0] 31)) := (by repeat (first | exact Below.refl _ _ | apply blw_drew | apply blw_alloc | (refine blw_set ?_ (by first | omega | (simp; done) | (simp; omega)) _) | refine below_chain ?_ (by assumption)))
          have hs := hs.below hb43; have hx := hx.below hb43; have hy := hy.below hb43; have d0 := kept hb43 d0; have d1 := kept hb43 d1; have x0 := kept hb43 x0; have x1 := kept hb43 x1; have y0 := kept hb43 y0; have y1 := kept hb43 y1; have hq := hq.below hb43; have q0 := kept hb43 q0; have q1 := kept hb43 q1; have hr := hr.below hb43; have r0 := kept hb43 r0; have r1 := kept hb43 r1; have hu := hu.below hb43; have u0 := kept hb43 u0; have u1 := kept hb43 u1; have h9 := h9.below hb43; have h10 := h10.below hb43
          have hN : Bx (w42.alloc (.cells #[.slice none 0 0, .slice none 0 0] 31)) w42.heap.size (.slice none 0 0) (.slice none 0 0) := heap_alloc_new _ _
          have sz43 : w42.heap.size + 1 = (w42.alloc (.cells #[.slice none 0 0, .slice none 0 0] 31)).heap.size := by simp
          go_wp2_with fail
          obtain ⟨w43, hw_⟩ : ∃ x, x = (w42.alloc (.cells #[.slice none 0 0, .slice none 0 0] 31)) := ⟨_, rfl⟩
          rw [← hw_] at hb43 sz43 hs hx hy d0 d1 x0 x1 y0 y1 hq q0 q1 hr r0 r1 hu u0 u1 h9 h10 hN ⊢; clear hw_
          go_wp2_with fail
          first | (refine hK _ _ ⟨(by repeat (first | exact Below.refl _ _ | apply blw_drew | apply blw_alloc | (refine blw_set ?_ (by first | omega | (simp; done) | (simp; omega)) _) | refine below_chain ?_ (by assumption))), ?_⟩; clear hK K) | refine ⟨(by repeat (first | exact Below.refl _ _ | apply blw_drew | apply blw_alloc | (refine blw_set ?_ (by first | omega | (simp; done) | (simp; omega)) _) | refine below_chain ?_ (by assumption))), ?_⟩
          refine norm_K fun K hK => ?_
          change wpList _ _ _ [_, _] _ _
          go_wp2_with fail
          refine (sum9_c hd hs h9.hv iS h10.hv iQ1 (by decide) (by decide)).mono ?_; rintro e w44 ⟨v11, rfl, h11, hb44⟩
          have hs := hs.below hb44; have hx := hx.below hb44; have hy := hy.below hb44; have d0 := kept hb44 d0; have d1 := kept hb44 d1; have x0 := kept hb44 x0; have x1 := kept hb44 x1; have y0 := kept hb44 y0; have y1 := kept hb44 y1; have hq := hq.below hb44; have q0 := kept hb44 q0; have q1 := kept hb44 q1; have hr := hr.below hb44; have r0 := kept hb44 r0; have r1 := kept hb44 r1; have hu := hu.below hb44; have u0 := kept hb44 u0; have u1 := kept hb44 u1; have h9 := h9.below hb44; have h10 := h10.below hb44; have hN := hN.below hb44
          have sz44 : w43.heap.size ≤ w44.heap.size := hb44.size
          rw [← HZ.out] at h11
          obtain ⟨d2, u2, us2, rfl, ⟨g2, k2_, rfl, q2⟩, hu2_, hne2⟩ := id h11; obtain ⟨g3, k3_, rfl, hq3_⟩ := id hu2_; clear hq3_ hu2_ q2
          have rc0 := hN.c0; have rc1 := hN.c1; have rf0 := hN.f0; have rf1 := hN.f1
          go_wp2_with fail
          first | (refine hK _ _ ⟨rfl, ?_⟩; clear hK K) | refine ⟨rfl, ?_⟩
          go_wp2_with fail
          go_meet
          case rel => exact ⟨w42.heap.size, _, _, rfl, by omega, (hN.set0 _).set1 _, ((h11.set_ (p := ⟨w42.heap.size, 0, none⟩) (show w42.heap.size < _ by omega) _).set_ (p := ⟨w42.heap.size, 1, none⟩) (show w42.heap.size < _ by omega) _).more (by omega), (by repeat (first | exact Below.refl _ _ | apply blw_drew | apply blw_alloc | (refine blw_set ?_ (by first | omega | (simp; done) | (simp; omega)) _) | refine below_chain ?_ (by assumption)))⟩
      · skip
        refine norm_K fun K hK => ?_
        change wpList _ _ _ [_] _ _
        go_wp2_with fail
        have hb42 : Below w41.heap.size w41 (w41.alloc (.cells #[.slice none 0 0, .slice none 0 0] 31)) := (by repeat (first | exact Below.refl _ _ | apply blw_drew | apply blw_alloc | (refine blw_set ?_ (by first | omega | (simp; done) | (simp; omega)) _) | refine below_chain ?_ (by assumption)))
        have hs := hs.below hb42; have hx := hx.below hb42; have hy := hy.below hb42; have d0 := kept hb42 d0; have d1 := kept hb42 d1; have x0 := kept hb42 x0; have x1 := kept hb42 x1; have y0 := kept hb42 y0; have y1 := kept hb42 y1; have hq := hq.below hb42; have q0 := kept hb42 q0; have q1 := kept hb42 q1; have hr := hr.below hb42; have r0 := kept hb42 r0; have r1 := kept hb42 r1; have hu := hu.below hb42; have u0 := kept hb42 u0; have u1 := kept hb42 u1; have h9 := h9.below hb42
        have hN : Bx (w41.alloc (.cells #[.slice none 0 0, .slice none 0 0] 31)) w41.heap.size (.slice none 0 0) (.slice none 0 0) := heap_alloc_new _ _
        have sz42 : w41.heap.size + 1 = (w41.alloc (.cells #[.slice none 0 0, .slice none 0 0] 31)).heap.size := by simp
        go_wp2_with fail
        obtain ⟨w42, hw_⟩ : ∃ x, x = (w41.alloc (.cells #[.slice none 0 0, .slice none 0 0] 31)) := ⟨_, rfl⟩
        rw [← hw_] at hb42 sz42 hs hx hy d0 d1 x0 x1 y0 y1 hq q0 q1 hr r0 r1 hu u0 u1 h9 hN ⊢; clear hw_
        go_wp2_with fail
        first | (refine hK _ _ ⟨(by repeat (first | exact Below.refl _ _ | apply blw_drew | apply blw_alloc | (refine blw_set ?_ (by first | omega | (simp; done) | (simp; omega)) _) | refine below_chain ?_ (by assumption))), ?_⟩; clear hK K) | refine ⟨(by repeat (first | exact Below.refl _ _ | apply blw_drew | apply blw_alloc | (refine blw_set ?_ (by first | omega | (simp; done) | (simp; omega)) _) | refine below_chain ?_ (by assumption))), ?_⟩
        refine norm_K fun K hK => ?_
        change wpList _ _ _ [_] _ _
        go_wp2_with fail
        refine (sum9_c hd hs hx hX hu.hv iU (by decide) (by decide)).mono ?_; rintro e w43 ⟨v10, rfl, h10, hb43⟩
        have hs := hs.below hb43; have hx := hx.below hb43; have hy := hy.below hb43; have d0 := kept hb43 d0; have d1 := kept hb43 d1; have x0 := kept hb43 x0; have x1 := kept hb43 x1; have y0 := kept hb43 y0; have y1 := kept hb43 y1; have hq := hq.below hb43; have q0 := kept hb43 q0; have q1 := kept hb43 q1; have hr := hr.below hb43; have r0 := kept hb43 r0; have r1 := kept hb43 r1; have hu := hu.below hb43; have u0 := kept hb43 u0; have u1 := kept hb43 u1; have h9 := h9.below hb43; have hN := hN.below hb43
        have sz43 : w42.heap.size ≤ w43.heap.size := hb43.size
        rw [← HQ1.out] at h10
        go_wp2_with fail
        first | (refine hK _ _ ⟨(by repeat (first | exact Below.refl _ _ | apply blw_drew | apply blw_alloc | (refine blw_set ?_ (by first | omega | (simp; done) | (simp; omega)) _) | refine below_chain ?_ (by assumption))), ?_⟩; clear hK K) | refine ⟨(by repeat (first | exact Below.refl _ _ | apply blw_drew | apply blw_alloc | (refine blw_set ?_ (by first | omega | (simp; done) | (simp; omega)) _) | refine below_chain ?_ (by assumption))), ?_⟩
        refine norm_K fun K hK => ?_
        change wpList _ _ _ [_, _] _ _
        go_wp2_with fail
        refine (sum9_c hd hs h9.hv iS h10.hv iQ1 (by decide) (by decide)).mono ?_; rintro e w44 ⟨v11, rfl, h11, hb44⟩
        have hs := hs.below hb44; have hx := hx.below hb44; have hy := hy.below hb44; have d0 := kept hb44 d0; have d1 := kept hb44 d1; have x0 := kept hb44 x0; have x1 := kept hb44 x1; have y0 := kept hb44 y0; have y1 := kept hb44 y1; have hq := hq.below hb44; have q0 := kept hb44 q0; have q1 := kept hb44 q1; have hr := hr.below hb44; have r0 := kept hb44 r0; have r1 := kept hb44 r1; have hu := hu.below hb44; have u0 := kept hb44 u0; have u1 := kept hb44 u1; have h9 := h9.below hb44; have hN := hN.below hb44; have h10 := h10.below hb44
        have sz44 : w43.heap.size ≤ w44.heap.size := hb44.size
        rw [← HZ.out] at h11
        obtain ⟨d2, u2, us2, rfl, ⟨g2, k2_, rfl, q2⟩, hu2_, hne2⟩ := id h11; obtain ⟨g3, k3_, rfl, hq3_⟩ := id hu2_; clear hq3_ hu2_ q2
        have rc0 := hN.c0; have rc1 := hN.c1; have rf0 := hN.f0; have rf1 := hN.f1
        go_wp2_with fail
        first | (refine hK _ _ ⟨rfl, ?_⟩; clear hK K) | refine ⟨rfl, ?_⟩
        go_wp2_with fail
        go_meet
        case rel => exact ⟨w41.heap.size, _, _, rfl, by omega, (hN.set0 _).set1 _, ((h11.set_ (p := ⟨w41.heap.size, 0, none⟩) (show w41.heap.size < _ by omega) _).set_ (p := ⟨w41.heap.size, 1, none⟩) (show w41.heap.size < _ by omega) _).more (by omega), (by repeat (first | exact Below.refl _ _ | apply blw_drew | apply blw_alloc | (refine blw_set ?_ (by first | omega | (simp; done) | (simp; omega)) _) | refine below_chain ?_ (by assumption)))⟩
    · skip
      refine norm_K fun K hK => ?_
      change wpList _ _ _ [_] _ _
      go_wp2_with fail
      have hb41 : Below wq.heap.size wq (wq.alloc (.cells #[.slice none 0 0, .slice none 0 0] 31)) := (by repeat (first | exact Below.refl _ _ | apply blw_drew | apply blw_alloc | (refine blw_set ?_ (by first | omega | (simp; done) | (simp; omega)) _) | refine below_chain ?_ (by assumption)))
      have hs := hs.below hb41; have hx := hx.below hb41; have hy := hy.below hb41; have d0 := kept hb41 d0; have d1 := kept hb41 d1; have x0 := kept hb41 x0; have x1 := kept hb41 x1; have y0 := kept hb41 y0; have y1 := kept hb41 y1; have hq := hq.below hb41; have q0 := kept hb41 q0; have q1 := kept hb41 q1; have hr := hr.below hb41; have r0 := kept hb41 r0; have r1 := kept hb41 r1; have hu := hu.below hb41; have u0 := kept hb41 u0; have u1 := kept hb41 u1
      have hN : Bx (wq.alloc (.cells #[.slice none 0 0, .slice none 0 0] 31)) wq.heap.size (.slice none 0 0) (.slice none 0 0) := heap_alloc_new _ _
      have sz41 : wq.heap.size + 1 = (wq.alloc (.cells #[.slice none 0 0, .slice none 0 0] 31)).heap.size := by simp
      go_wp2_with fail
      obtain ⟨w41, hw_⟩ : ∃ x, x = (wq.alloc (.cells #[.slice none 0 0, .slice none 0 0] 31)) := ⟨_, rfl⟩
      rw [← hw_] at hb41 sz41 hs hx hy d0 d1 x0 x1 y0 y1 hq q0 q1 hr r0 r1 hu u0 u1 hN ⊢; clear hw_
      go_wp2_with fail
      first | (refine hK _ _ ⟨(by repeat (first | exact Below.refl _ _ | apply blw_drew | apply blw_alloc | (refine blw_set ?_ (by first | omega | (simp; done) | (simp; omega)) _) | refine below_chain ?_ (by assumption))), ?_⟩; clear hK K) | refine ⟨(by repeat (first | exact Below.refl _ _ | apply blw_drew | apply blw_alloc | (refine blw_set ?_ (by first | omega | (simp; done) | (simp; omega)) _) | refine below_chain ?_ (by assumption))), ?_⟩
      refine norm_K fun K hK => ?_
      change wpList _ _ _ [_] _ _
      go_wp2_with fail
      refine (jordan9_c hd hs hy hY hy hY).mono ?_; rintro e w42 ⟨v9, rfl, h9, hb42⟩
      have hs := hs.below hb42; have hx := hx.below hb42; have hy := hy.below hb42; have d0 := kept hb42 d0; have d1 := kept hb42 d1; have x0 := kept hb42 x0; have x1 := kept hb42 x1; have y0 := kept hb42 y0; have y1 := kept hb42 y1; have hq := hq.below hb42; have q0 := kept hb42 q0; have q1 := kept hb42 q1; have hr := hr.below hb42; have r0 := kept hb42 r0; have r1 := kept hb42 r1; have hu := hu.below hb42; have u0 := kept hb42 u0; have u1 := kept hb42 u1; have hN := hN.below hb42
      have sz42 : w41.heap.size ≤ w42.heap.size := hb42.size
      rw [← HS.out] at h9
      go_wp2_with fail
      first | (refine hK _ _ ⟨(by repeat (first | exact Below.refl _ _ | apply blw_drew | apply blw_alloc | (refine blw_set ?_ (by first | omega | (simp; done) | (simp; omega)) _) | refine below_chain ?_ (by assumption))), ?_⟩; clear hK K) | refine ⟨(by repeat (first | exact Below.refl _ _ | apply blw_drew | apply blw_alloc | (refine blw_set ?_ (by first | omega | (simp; done) | (simp; omega)) _) | refine below_chain ?_ (by assumption))), ?_⟩
      refine norm_K fun K hK => ?_
      change wpList _ _ _ [_] _ _
      go_wp2_with fail
      refine (sum9_c hd hs hx hX hu.hv iU (by decide) (by decide)).mono ?_; rintro e w43 ⟨v10, rfl, h10, hb43⟩
      have hs := hs.below hb43; have hx := hx.below hb43; have hy := hy.below hb43; have d0 := kept hb43 d0; have d1 := kept hb43 d1; have x0 := kept hb43 x0; have x1 := kept hb43 x1; have y0 := kept hb43 y0; have y1 := kept hb43 y1; have hq := hq.below hb43; have q0 := kept hb43 q0; have q1 := kept hb43 q1; have hr := hr.below hb43; have r0 := kept hb43 r0; have r1 := kept hb43 r1; have hu := hu.below hb43; have u0 := kept hb43 u0; have u1 := kept hb43 u1; have hN := hN.below hb43; have h9 := h9.below hb43
      have sz43 : w42.heap.size ≤ w43.heap.size := hb43.size
      rw [← HQ1.out] at h10
      go_wp2_with fail
      first | (refine hK _ _ ⟨(by repeat (first | exact Below.refl _ _ | apply blw_drew | apply blw_alloc | (refine blw_set ?_ (by first | omega | (simp; done) | (simp; omega)) _) | refine below_chain ?_ (by assumption))), ?_⟩; clear hK K) | refine ⟨(by repeat (first | exact Below.refl _ _ | apply blw_drew | apply blw_alloc | (refine blw_set ?_ (by first | omega | (simp; done) | (simp; omega)) _) | refine below_chain ?_ (by assumption))), ?_⟩
      refine norm_K fun K hK => ?_
      change wpList _ _ _ [_, _] _ _
      go_wp2_with fail
      refine (sum9_c hd hs h9.hv iS h10.hv iQ1 (by decide) (by decide)).mono ?_; rintro e w44 ⟨v11, rfl, h11, hb44⟩
      have hs := hs.below hb44; have hx := hx.below hb44; have hy := hy.below hb44; have d0 := kept hb44 d0; have d1 := kept hb44 d1; have x0 := kept hb44 x0; have x1 := kept hb44 x1; have y0 := kept hb44 y0; have y1 := kept hb44 y1; have hq := hq.below hb44; have q0 := kept hb44 q0; have q1 := kept hb44 q1; have hr := hr.below hb44; have r0 := kept hb44 r0; have r1 := kept hb44 r1; have hu := hu.below hb44; have u0 := kept hb44 u0; have u1 := kept hb44 u1; have hN := hN.below hb44; have h9 := h9.below hb44; have h10 := h10.below hb44
      have sz44 : w43.heap.size ≤ w44.heap.size := hb44.size
      rw [← HZ.out] at h11
      obtain ⟨d2, u2, us2, rfl, ⟨g2, k2_, rfl, q2⟩, hu2_, hne2⟩ := id h11; obtain ⟨g3, k3_, rfl, hq3_⟩ := id hu2_; clear hq3_ hu2_ q2
      have rc0 := hN.c0; have rc1 := hN.c1; have rf0 := hN.f0; have rf1 := hN.f1
      go_wp2_with fail
      first | (refine hK _ _ ⟨rfl, ?_⟩; clear hK K) | refine ⟨rfl, ?_⟩
      go_wp2_with fail
      go_meet
      case rel => exact ⟨wq.heap.size, _, _, rfl, by omega, (hN.set0 _).set1 _, ((h11.set_ (p := ⟨wq.heap.size, 0, none⟩) (show wq.heap.size < _ by omega) _).set_ (p := ⟨wq.heap.size, 1, none⟩) (show wq.heap.size < _ by omega) _).more (by omega), (by repeat (first | exact Below.refl _ _ | apply blw_drew | apply blw_alloc | (refine blw_set ?_ (by first | omega | (simp; done) | (simp; omega)) _) | refine below_chain ?_ (by assumption)))⟩
  case' rest => skip
  obtain ⟨N0, dN, uN, rfl, hN0, hN, hF, hbC⟩ := hcut
  have hs := hs.below hbC; have hx := hx.below hbC; have hy := hy.below hbC; have d0 := kept hbC d0; have d1 := kept hbC d1; have x0 := kept hbC x0; have x1 := kept hbC x1; have y0 := kept hbC y0; have y1 := kept hbC y1; have hq := hq.below hbC; have q0 := kept hbC q0; have q1 := kept hbC q1; have hr := hr.below hbC; have r0 := kept hbC r0; have r1 := kept hbC r1; have hu := hu.below hbC; have u0 := kept hbC u0; have u1 := kept hbC u1
  obtain ⟨gf1, cf1, gf2, cf2, hfe⟩ := hF.shape
  cases hfe
  have n0 := hN.c0; have n1_ := hN.c1
  clear hN
  go_wp2_with fail
  refine (c1 _ _ _ _ hs hq.hv hF.hv).mono ?_; rintro e w21 ⟨vg1, rfl, g1, hb21⟩
  have hs := hs.below hb21; have hx := hx.below hb21; have hy := hy.below hb21; have d0 := kept hb21 d0; have d1 := kept hb21 d1; have x0 := kept hb21 x0; have x1 := kept hb21 x1; have y0 := kept hb21 y0; have y1 := kept hb21 y1; have hq := hq.below hb21; have q0 := kept hb21 q0; have q1 := kept hb21 q1; have hr := hr.below hb21; have r0 := kept hb21 r0; have r1 := kept hb21 r1; have hu := hu.below hb21; have u0 := kept hb21 u0; have u1 := kept hb21 u1; have hF := hF.below hb21; have n0 := kept hb21 n0; have n1_ := kept hb21 n1_
  obtain ⟨d_g1, u_g1, rfl, q_g1, r_g1⟩ := g1.hv; obtain ⟨ag1, cg1, rfl, _⟩ := q_g1.op; obtain ⟨bg1, eg1, rfl, _⟩ := id r_g1; clear q_g1 r_g1
  have hb22 : Below w21.heap.size w21 (w21.alloc (.cells #[.slice ag1 V1.dg.length cg1, .slice bg1 V1.up.length eg1] 31)) := (by repeat (first | exact Below.refl _ _ | apply blw_drew | apply blw_alloc | (refine blw_set ?_ (by first | omega | (simp; done) | (simp; omega)) _) | refine below_chain ?_ (by assumption)))
  have hs := hs.below hb22; have hx := hx.below hb22; have hy := hy.below hb22; have d0 := kept hb22 d0; have d1 := kept hb22 d1; have x0 := kept hb22 x0; have x1 := kept hb22 x1; have y0 := kept hb22 y0; have y1 := kept hb22 y1; have hq := hq.below hb22; have q0 := kept hb22 q0; have q1 := kept hb22 q1; have hr := hr.below hb22; have r0 := kept hb22 r0; have r1 := kept hb22 r1; have hu := hu.below hb22; have u0 := kept hb22 u0; have u1 := kept hb22 u1; have hF := hF.below hb22; have n0 := kept hb22 n0; have n1_ := kept hb22 n1_; have g1 := g1.below hb22
  have g10 : (w21.alloc (.cells #[.slice ag1 V1.dg.length cg1, .slice bg1 V1.up.length eg1] 31)).cell? ⟨w21.heap.size, 0, none⟩ = some (.slice ag1 V1.dg.length cg1) := by simp [go_sem]
  have g11 : (w21.alloc (.cells #[.slice ag1 V1.dg.length cg1, .slice bg1 V1.up.length eg1] 31)).cell? ⟨w21.heap.size, 1, none⟩ = some (.slice bg1 V1.up.length eg1) := by simp [go_sem]
  go_wp2_with fail
  refine (c2 _ _ _ _ hs hx hF.hv).mono ?_; rintro e w23 ⟨vg2_, rfl, g2_, hb23⟩
  have hs := hs.below hb23; have hx := hx.below hb23; have hy := hy.below hb23; have d0 := kept hb23 d0; have d1 := kept hb23 d1; have x0 := kept hb23 x0; have x1 := kept hb23 x1; have y0 := kept hb23 y0; have y1 := kept hb23 y1; have hq := hq.below hb23; have q0 := kept hb23 q0; have q1 := kept hb23 q1; have hr := hr.below hb23; have r0 := kept hb23 r0; have r1 := kept hb23 r1; have hu := hu.below hb23; have u0 := kept hb23 u0; have u1 := kept hb23 u1; have hF := hF.below hb23; have n0 := kept hb23 n0; have n1_ := kept hb23 n1_; have g1 := g1.below hb23; have g10 := kept hb23 g10; have g11 := kept hb23 g11
  obtain ⟨d_g2_, u_g2_, rfl, q_g2_, r_g2_⟩ := g2_.hv; obtain ⟨ag2_, cg2_, rfl, _⟩ := q_g2_.op; obtain ⟨bg2_, eg2_, rfl, _⟩ := id r_g2_; clear q_g2_ r_g2_
  have hb24 : Below w23.heap.size w23 (w23.alloc (.cells #[.slice ag2_ V2.dg.length cg2_, .slice bg2_ V2.up.length eg2_] 31)) := (by repeat (first | exact Below.refl _ _ | apply blw_drew | apply blw_alloc | (refine blw_set ?_ (by first | omega | (simp; done) | (simp; omega)) _) | refine below_chain ?_ (by assumption)))
  have hs := hs.below hb24; have hx := hx.below hb24; have hy := hy.below hb24; have d0 := kept hb24 d0; have d1 := kept hb24 d1; have x0 := kept hb24 x0; have x1 := kept hb24 x1; have y0 := kept hb24 y0; have y1 := kept hb24 y1; have hq := hq.below hb24; have q0 := kept hb24 q0; have q1 := kept hb24 q1; have hr := hr.below hb24; have r0 := kept hb24 r0; have r1 := kept hb24 r1; have hu := hu.below hb24; have u0 := kept hb24 u0; have u1 := kept hb24 u1; have hF := hF.below hb24; have n0 := kept hb24 n0; have n1_ := kept hb24 n1_; have g1 := g1.below hb24; have g10 := kept hb24 g10; have g11 := kept hb24 g11; have g2_ := g2_.below hb24
  have g20 : (w23.alloc (.cells #[.slice ag2_ V2.dg.length cg2_, .slice bg2_ V2.up.length eg2_] 31)).cell? ⟨w23.heap.size, 0, none⟩ = some (.slice ag2_ V2.dg.length cg2_) := by simp [go_sem]
  have g21 : (w23.alloc (.cells #[.slice ag2_ V2.dg.length cg2_, .slice bg2_ V2.up.length eg2_] 31)).cell? ⟨w23.heap.size, 1, none⟩ = some (.slice bg2_ V2.up.length eg2_) := by simp [go_sem]
  go_wp2_with fail
  refine (c3 _ _ _ _ hs hy g2_.hv).mono ?_; rintro e w25 ⟨vg3_, rfl, g3_, hb25⟩
  have hs := hs.below hb25; have hx := hx.below hb25; have hy := hy.below hb25; have d0 := kept hb25 d0; have d1 := kept hb25 d1; have x0 := kept hb25 x0; have x1 := kept hb25 x1; have y0 := kept hb25 y0; have y1 := kept hb25 y1; have hq := hq.below hb25; have q0 := kept hb25 q0; have q1 := kept hb25 q1; have hr := hr.below hb25; have r0 := kept hb25 r0; have r1 := kept hb25 r1; have hu := hu.below hb25; have u0 := kept hb25 u0; have u1 := kept hb25 u1; have hF := hF.below hb25; have n0 := kept hb25 n0; have n1_ := kept hb25 n1_; have g1 := g1.below hb25; have g10 := kept hb25 g10; have g11 := kept hb25 g11; have g2_ := g2_.below hb25; have g20 := kept hb25 g20; have g21 := kept hb25 g21
  obtain ⟨d_g3_, u_g3_, rfl, q_g3_, r_g3_⟩ := g3_.hv; obtain ⟨ag3_, cg3_, rfl, _⟩ := q_g3_.op; obtain ⟨bg3_, eg3_, rfl, _⟩ := id r_g3_; clear q_g3_ r_g3_
  have hb26 : Below w25.heap.size w25 (w25.alloc (.cells #[.slice ag3_ V3.dg.length cg3_, .slice bg3_ V3.up.length eg3_] 31)) := (by repeat (first | exact Below.refl _ _ | apply blw_drew | apply blw_alloc | (refine blw_set ?_ (by first | omega | (simp; done) | (simp; omega)) _) | refine below_chain ?_ (by assumption)))
  have hs := hs.below hb26; have hx := hx.below hb26; have hy := hy.below hb26; have d0 := kept hb26 d0; have d1 := kept hb26 d1; have x0 := kept hb26 x0; have x1 := kept hb26 x1; have y0 := kept hb26 y0; have y1 := kept hb26 y1; have hq := hq.below hb26; have q0 := kept hb26 q0; have q1 := kept hb26 q1; have hr := hr.below hb26; have r0 := kept hb26 r0; have r1 := kept hb26 r1; have hu := hu.below hb26; have u0 := kept hb26 u0; have u1 := kept hb26 u1; have hF := hF.below hb26; have n0 := kept hb26 n0; have n1_ := kept hb26 n1_; have g1 := g1.below hb26; have g10 := kept hb26 g10; have g11 := kept hb26 g11; have g2_ := g2_.below hb26; have g20 := kept hb26 g20; have g21 := kept hb26 g21; have g3_ := g3_.below hb26
  have g30 : (w25.alloc (.cells #[.slice ag3_ V3.dg.length cg3_, .slice bg3_ V3.up.length eg3_] 31)).cell? ⟨w25.heap.size, 0, none⟩ = some (.slice ag3_ V3.dg.length cg3_) := by simp [go_sem]
  have g31 : (w25.alloc (.cells #[.slice ag3_ V3.dg.length cg3_, .slice bg3_ V3.up.length eg3_] 31)).cell? ⟨w25.heap.size, 1, none⟩ = some (.slice bg3_ V3.up.length eg3_) := by simp [go_sem]
  go_wp2_with fail
  refine (c4 _ _ _ _ hs hx g3_.hv).mono ?_; rintro e w27 ⟨vg4, rfl, g4, hb27⟩
  have hs := hs.below hb27; have hx := hx.below hb27; have hy := hy.below hb27; have d0 := kept hb27 d0; have d1 := kept hb27 d1; have x0 := kept hb27 x0; have x1 := kept hb27 x1; have y0 := kept hb27 y0; have y1 := kept hb27 y1; have hq := hq.below hb27; have q0 := kept hb27 q0; have q1 := kept hb27 q1; have hr := hr.below hb27; have r0 := kept hb27 r0; have r1 := kept hb27 r1; have hu := hu.below hb27; have u0 := kept hb27 u0; have u1 := kept hb27 u1; have hF := hF.below hb27; have n0 := kept hb27 n0; have n1_ := kept hb27 n1_; have g1 := g1.below hb27; have g10 := kept hb27 g10; have g11 := kept hb27 g11; have g2_ := g2_.below hb27; have g20 := kept hb27 g20; have g21 := kept hb27 g21; have g3_ := g3_.below hb27; have g30 := kept hb27 g30; have g31 := kept hb27 g31
  obtain ⟨d_g4, u_g4, rfl, q_g4, r_g4⟩ := g4.hv; obtain ⟨ag4, cg4, rfl, _⟩ := q_g4.op; obtain ⟨bg4, eg4, rfl, _⟩ := id r_g4; clear q_g4 r_g4
  have hb28 : Below w27.heap.size w27 (w27.alloc (.cells #[.slice ag4 V1.dg.length cg4, .slice bg4 V1.up.length eg4] 31)) := (by repeat (first | exact Below.refl _ _ | apply blw_drew | apply blw_alloc | (refine blw_set ?_ (by first | omega | (simp; done) | (simp; omega)) _) | refine below_chain ?_ (by assumption)))
  have hs := hs.below hb28; have hx := hx.below hb28; have hy := hy.below hb28; have d0 := kept hb28 d0; have d1 := kept hb28 d1; have x0 := kept hb28 x0; have x1 := kept hb28 x1; have y0 := kept hb28 y0; have y1 := kept hb28 y1; have hq := hq.below hb28; have q0 := kept hb28 q0; have q1 := kept hb28 q1; have hr := hr.below hb28; have r0 := kept hb28 r0; have r1 := kept hb28 r1; have hu := hu.below hb28; have u0 := kept hb28 u0; have u1 := kept hb28 u1; have hF := hF.below hb28; have n0 := kept hb28 n0; have n1_ := kept hb28 n1_; have g1 := g1.below hb28; have g10 := kept hb28 g10; have g11 := kept hb28 g11; have g2_ := g2_.below hb28; have g20 := kept hb28 g20; have g21 := kept hb28 g21; have g3_ := g3_.below hb28; have g30 := kept hb28 g30; have g31 := kept hb28 g31; have g4 := g4.below hb28
  have g40 : (w27.alloc (.cells #[.slice ag4 V1.dg.length cg4, .slice bg4 V1.up.length eg4] 31)).cell? ⟨w27.heap.size, 0, none⟩ = some (.slice ag4 V1.dg.length cg4) := by simp [go_sem]
  have g41 : (w27.alloc (.cells #[.slice ag4 V1.dg.length cg4, .slice bg4 V1.up.length eg4] 31)).cell? ⟨w27.heap.size, 1, none⟩ = some (.slice bg4 V1.up.length eg4) := by simp [go_sem]
  go_wp2_with fail
  refine (c5 _ _ _ _ hs hx hu.hv).mono ?_; rintro e w29 ⟨vg5, rfl, g5, hb29⟩
  have hs := hs.below hb29; have hx := hx.below hb29; have hy := hy.below hb29; have d0 := kept hb29 d0; have d1 := kept hb29 d1; have x0 := kept hb29 x0; have x1 := kept hb29 x1; have y0 := kept hb29 y0; have y1 := kept hb29 y1; have hq := hq.below hb29; have q0 := kept hb29 q0; have q1 := kept hb29 q1; have hr := hr.below hb29; have r0 := kept hb29 r0; have r1 := kept hb29 r1; have hu := hu.below hb29; have u0 := kept hb29 u0; have u1 := kept hb29 u1; have hF := hF.below hb29; have n0 := kept hb29 n0; have n1_ := kept hb29 n1_; have g1 := g1.below hb29; have g10 := kept hb29 g10; have g11 := kept hb29 g11; have g2_ := g2_.below hb29; have g20 := kept hb29 g20; have g21 := kept hb29 g21; have g3_ := g3_.below hb29; have g30 := kept hb29 g30; have g31 := kept hb29 g31; have g4 := g4.below hb29; have g40 := kept hb29 g40; have g41 := kept hb29 g41
  obtain ⟨d_g5, u_g5, rfl, q_g5, r_g5⟩ := g5.hv; obtain ⟨ag5, cg5, rfl, _⟩ := q_g5.op; obtain ⟨bg5, eg5, rfl, _⟩ := id r_g5; clear q_g5 r_g5
  have hb30 : Below w29.heap.size w29 (w29.alloc (.cells #[.slice ag5 T.dg.length cg5, .slice bg5 T.up.length eg5] 31)) := (by repeat (first | exact Below.refl _ _ | apply blw_drew | apply blw_alloc | (refine blw_set ?_ (by first | omega | (simp; done) | (simp; omega)) _) | refine below_chain ?_ (by assumption)))
  have hs := hs.below hb30; have hx := hx.below hb30; have hy := hy.below hb30; have d0 := kept hb30 d0; have d1 := kept hb30 d1; have x0 := kept hb30 x0; have x1 := kept hb30 x1; have y0 := kept hb30 y0; have y1 := kept hb30 y1; have hq := hq.below hb30; have q0 := kept hb30 q0; have q1 := kept hb30 q1; have hr := hr.below hb30; have r0 := kept hb30 r0; have r1 := kept hb30 r1; have hu := hu.below hb30; have u0 := kept hb30 u0; have u1 := kept hb30 u1; have hF := hF.below hb30; have n0 := kept hb30 n0; have n1_ := kept hb30 n1_; have g1 := g1.below hb30; have g10 := kept hb30 g10; have g11 := kept hb30 g11; have g2_ := g2_.below hb30; have g20 := kept hb30 g20; have g21 := kept hb30 g21; have g3_ := g3_.below hb30; have g30 := kept hb30 g30; have g31 := kept hb30 g31; have g4 := g4.below hb30; have g40 := kept hb30 g40; have g41 := kept hb30 g41; have g5 := g5.below hb30
  have g50 : (w29.alloc (.cells #[.slice ag5 T.dg.length cg5, .slice bg5 T.up.length eg5] 31)).cell? ⟨w29.heap.size, 0, none⟩ = some (.slice ag5 T.dg.length cg5) := by simp [go_sem]
  have g51 : (w29.alloc (.cells #[.slice ag5 T.dg.length cg5, .slice bg5 T.up.length eg5] 31)).cell? ⟨w29.heap.size, 1, none⟩ = some (.slice bg5 T.up.length eg5) := by simp [go_sem]
  have hpH := hd.hp.hi
  have m1 := mulb (k := n1) (y := n1) (A := 13) (B := 13) (by omega) (by omega) (by omega) (by omega)
  have m0 : 0 ≤ n1 * n1 := Int.mul_nonneg bn1.1 bn1.1
  have m2 : 0 ≤ n1 * n1 % p ∧ n1 * n1 % p < p := mod_fp2 (by omega)
  have m3 := mulb (k := n1 * n1 % p) (y := n2) (A := 13) (B := 13) (by omega) (by omega) (by omega) (by omega)
  have m4 : 0 ≤ n1 * n1 % p * n2 := Int.mul_nonneg m2.1 bn2.1
  have hD := HD.out
  go_upto_region 18 with fail
  generalize hwH : (w29.alloc (.cells #[.slice ag5 T.dg.length cg5, .slice bg5 T.up.length eg5] 31)) = wH at *
  clear hwH
  go_wp2_with fail
  refine region_flowP [(25, 23, []), (25, 24, []), (42, 23, [39, 25]), (42, 24, [39, 25]), (42, 30, [39, 38, 37, 36, 33, 31]), (42, 35, [39, 38, 37, 36]), (42, 40, []), (42, 41, []), (49, 23, [44, 42, 39, 25]), (49, 24, [44, 42, 39, 25]), (49, 30, [44, 42, 39, 38, 37, 36, 33, 31]), (49, 35, [44, 42, 39, 38, 37, 36]), (49, 40, [44, 42]), (49, 41, [44, 42]), (49, 46, []), (49, 47, []), (49, 48, []), (50, 23, [44, 42, 39, 25]), (50, 24, [44, 42, 39, 25]), (50, 30, [44, 42, 39, 38, 37, 36, 33, 31]), (50, 35, [44, 42, 39, 38, 37, 36]), (50, 40, [44, 42]), (50, 41, [44, 42]), (50, 45, []), (50, 46, [49]), (50, 47, [49]), (50, 48, [49])] [(false, [(0, 0), (1, 0), (2, 0), (3, 0), (4, 0), (5, 0), (6, 0), (7, 0), (8, 0), (9, 0), (10, 0), (11, 0), (12, 0), (13, 0), (14, 0), (15, 0), (16, 0), (17, 0), (18, 0), (19, 0), (20, 0), (21, 0), (22, 0), (23, 1), (24, 1), (26, 0), (27, 0), (28, 0), (29, 0), (30, 1), (31, 0), (32, 0), (33, 0), (34, 0), (35, 1), (36, 0), (25, 5)]), (true, [(37, 0), (38, 0), (39, 0), (40, 1), (41, 1), (42, 3)]), (true, [(43, 0), (44, 0), (45, 1), (46, 1), (47, 1), (48, 1), (49, 3)]), (false, [(50, 4), (51, 0), (52, 0)])] (by kernel_rfl) ?_
  refine norm_K fun K hK => ?_
  change wpList _ _ _ [_, _, _, _, _, _, _, _, _, _, _, _, _, _, _, _, _, _, _, _, _, _, _, _, _, _, _, _, _, _, _, _, _, _, _, _, _] _ _
  have hb21 : Below wH.heap.size wH wH.drew := (by repeat (first | exact Below.refl _ _ | apply blw_drew | apply blw_alloc | (refine blw_set ?_ (by first | omega | (simp; done) | (simp; omega)) _) | refine below_chain ?_ (by assumption)))
  have hs := hs.below hb21; have hx := hx.below hb21; have hy := hy.below hb21; have d0 := kept hb21 d0; have d1 := kept hb21 d1; have x0 := kept hb21 x0; have x1 := kept hb21 x1; have y0 := kept hb21 y0; have y1 := kept hb21 y1; have hq := hq.below hb21; have q0 := kept hb21 q0; have q1 := kept hb21 q1; have hr := hr.below hb21; have r0 := kept hb21 r0; have r1 := kept hb21 r1; have hu := hu.below hb21; have u0 := kept hb21 u0; have u1 := kept hb21 u1; have hF := hF.below hb21; have n0 := kept hb21 n0; have n1_ := kept hb21 n1_; have g1 := g1.below hb21; have g10 := kept hb21 g10; have g11 := kept hb21 g11; have g2_ := g2_.below hb21; have g20 := kept hb21 g20; have g21 := kept hb21 g21; have g3_ := g3_.below hb21; have g30 := kept hb21 g30; have g31 := kept hb21 g31; have g4 := g4.below hb21; have g40 := kept hb21 g40; have g41 := kept hb21 g41; have g5 := g5.below hb21; have g50 := kept hb21 g50; have g51 := kept hb21 g51
  generalize wH.drew = wr at *
  go_wp2_with fail
  refine (det9_c hd hs hq.hv iP).mono ?_; rintro e w22 ⟨rfl, hb22⟩
  have hs := hs.below hb22; have hx := hx.below hb22; have hy := hy.below hb22; have d0 := kept hb22 d0; have d1 := kept hb22 d1; have x0 := kept hb22 x0; have x1 := kept hb22 x1; have y0 := kept hb22 y0; have y1 := kept hb22 y1; have hq := hq.below hb22; have q0 := kept hb22 q0; have q1 := kept hb22 q1; have hr := hr.below hb22; have r0 := kept hb22 r0; have r1 := kept hb22 r1; have hu := hu.below hb22; have u0 := kept hb22 u0; have u1 := kept hb22 u1; have hF := hF.below hb22; have n0 := kept hb22 n0; have n1_ := kept hb22 n1_; have g1 := g1.below hb22; have g10 := kept hb22 g10; have g11 := kept hb22 g11; have g2_ := g2_.below hb22; have g20 := kept hb22 g20; have g21 := kept hb22 g21; have g3_ := g3_.below hb22; have g30 := kept hb22 g30; have g31 := kept hb22 g31; have g4 := g4.below hb22; have g40 := kept hb22 g40; have g41 := kept hb22 g41; have g5 := g5.below hb22; have g50 := kept hb22 g50; have g51 := kept hb22 g51
  rw [← HN.out.2.2]
  go_wp2_with fail
  have hz0 : Below wr.heap.size wr w22 := (by repeat (first | exact Below.refl _ _ | apply blw_drew | apply blw_alloc | (refine blw_set ?_ (by first | omega | (simp; done) | (simp; omega)) _) | refine below_chain ?_ (by assumption)))
  first | (refine hK _ _ ⟨hz0, ?_⟩; clear hK K) | refine ⟨hz0, ?_⟩
  clear hz0
  refine norm_K fun K hK => ?_
  change wpList _ _ _ [_, _, _, _, _, _] _ _
  go_wp2_with fail
  refine (herm9_c g1.hv g4.hv zV1).mono ?_; rintro e w23 ⟨rfl, hb23⟩
  have hs := hs.below hb23; have hx := hx.below hb23; have hy := hy.below hb23; have d0 := kept hb23 d0; have d1 := kept hb23 d1; have x0 := kept hb23 x0; have x1 := kept hb23 x1; have y0 := kept hb23 y0; have y1 := kept hb23 y1; have hq := hq.below hb23; have q0 := kept hb23 q0; have q1 := kept hb23 q1; have hr := hr.below hb23; have r0 := kept hb23 r0; have r1 := kept hb23 r1; have hu := hu.below hb23; have u0 := kept hb23 u0; have u1 := kept hb23 u1; have hF := hF.below hb23; have n0 := kept hb23 n0; have n1_ := kept hb23 n1_; have g1 := g1.below hb23; have g10 := kept hb23 g10; have g11 := kept hb23 g11; have g2_ := g2_.below hb23; have g20 := kept hb23 g20; have g21 := kept hb23 g21; have g3_ := g3_.below hb23; have g30 := kept hb23 g30; have g31 := kept hb23 g31; have g4 := g4.below hb23; have g40 := kept hb23 g40; have g41 := kept hb23 g41; have g5 := g5.below hb23; have g50 := kept hb23 g50; have g51 := kept hb23 g51
  go_wp2_with fail
  have hz1 : Below w22.heap.size w22 w23 := (by repeat (first | exact Below.refl _ _ | apply blw_drew | apply blw_alloc | (refine blw_set ?_ (by first | omega | (simp; done) | (simp; omega)) _) | refine below_chain ?_ (by assumption)))
  first | (refine hK _ _ ⟨hz1, ?_⟩; clear hK K) | refine ⟨hz1, ?_⟩
  clear hz1
  refine norm_K fun K hK => ?_
  change wpList _ _ _ [_, _, _, _, _, _, _] _ _
  go_wp2_with fail
  refine (jordan9_c hd hs hx hX hx hX).mono ?_; rintro e w24 ⟨v5, rfl, h5, hb24⟩
  have hs := hs.below hb24; have hx := hx.below hb24; have hy := hy.below hb24; have d0 := kept hb24 d0; have d1 := kept hb24 d1; have x0 := kept hb24 x0; have x1 := kept hb24 x1; have y0 := kept hb24 y0; have y1 := kept hb24 y1; have hq := hq.below hb24; have q0 := kept hb24 q0; have q1 := kept hb24 q1; have hr := hr.below hb24; have r0 := kept hb24 r0; have r1 := kept hb24 r1; have hu := hu.below hb24; have u0 := kept hb24 u0; have u1 := kept hb24 u1; have hF := hF.below hb24; have n0 := kept hb24 n0; have n1_ := kept hb24 n1_; have g1 := g1.below hb24; have g10 := kept hb24 g10; have g11 := kept hb24 g11; have g2_ := g2_.below hb24; have g20 := kept hb24 g20; have g21 := kept hb24 g21; have g3_ := g3_.below hb24; have g30 := kept hb24 g30; have g31 := kept hb24 g31; have g4 := g4.below hb24; have g40 := kept hb24 g40; have g41 := kept hb24 g41; have g5 := g5.below hb24; have g50 := kept hb24 g50; have g51 := kept hb24 g51
  rw [← HT.out] at h5
  go_wp2_with fail
  have hz2 : Below w23.heap.size w23 w24 := (by repeat (first | exact Below.refl _ _ | apply blw_drew | apply blw_alloc | (refine blw_set ?_ (by first | omega | (simp; done) | (simp; omega)) _) | refine below_chain ?_ (by assumption)))
  first | (refine hK _ _ ⟨hz2, ?_⟩; clear hK K) | refine ⟨hz2, ?_⟩
  clear hz2
  refine norm_K fun K hK => ?_
  change wpList _ _ _ [_, _, _] _ _
  go_wp2_with fail
  refine (herm9_c g5.hv h5.hv zT).mono ?_; rintro e w25 ⟨rfl, hb25⟩
  have hs := hs.below hb25; have hx := hx.below hb25; have hy := hy.below hb25; have d0 := kept hb25 d0; have d1 := kept hb25 d1; have x0 := kept hb25 x0; have x1 := kept hb25 x1; have y0 := kept hb25 y0; have y1 := kept hb25 y1; have hq := hq.below hb25; have q0 := kept hb25 q0; have q1 := kept hb25 q1; have hr := hr.below hb25; have r0 := kept hb25 r0; have r1 := kept hb25 r1; have hu := hu.below hb25; have u0 := kept hb25 u0; have u1 := kept hb25 u1; have hF := hF.below hb25; have n0 := kept hb25 n0; have n1_ := kept hb25 n1_; have g1 := g1.below hb25; have g10 := kept hb25 g10; have g11 := kept hb25 g11; have g2_ := g2_.below hb25; have g20 := kept hb25 g20; have g21 := kept hb25 g21; have g3_ := g3_.below hb25; have g30 := kept hb25 g30; have g31 := kept hb25 g31; have g4 := g4.below hb25; have g40 := kept hb25 g40; have g41 := kept hb25 g41; have g5 := g5.below hb25; have g50 := kept hb25 g50; have g51 := kept hb25 g51; have h5 := h5.below hb25
  go_wp2_with fail
  first | (refine hK _ _ ⟨rfl, ?_⟩; clear hK K) | refine ⟨rfl, ?_⟩
  go_wp2_with fail
  go_ret
  exact ⟨rfl, (by repeat (first | exact Below.refl _ _ | apply blw_drew | apply blw_alloc | (refine blw_set ?_ (by first | omega | (simp; done) | (simp; omega)) _) | refine below_chain ?_ (by assumption)))⟩
end Go.Proofs.YtacfanjejaellaaGreat
