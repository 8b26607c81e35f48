/-
  The law FnPlanePoints: its walk.
-/
import Derived.Test.YtgcelfnjijhmkaaGreatHfA
import Derived.Test.YtgcelfnjijhmkaaGreatJbs
import Derived.Test.YtgcelfnjijhmkaaGreatJbv
import Derived.Test.YtgcelfnjijhmkaaGreatDpC
import Derived.Test.YtgcelfnjijhmkaaGreatJbx
import Derived.Test.YtgcelfnjijhmkaaGreatLIdempotentOf
namespace Go.Proofs.YtgcelfnjijhmkaaGreat
open Go.RowKit

set_option maxHeartbeats 32000000 in
set_option maxRecDepth 100000 in
theorem law_PlanePoints {a : Option Addr} {n c : Nat} {w : World} (hn : n ≤ 9223372036854775807) (hco : n ≤ 4096 → Co w w.heap.size (.slice a n c) n) :
    Calls Tryz.prog 3 #[.slice a n c] w fun e w' => e = .returned (.bool true) ∧ Below w.heap.size w w' := by
  by_cases hbig : 4096 < n
  · go_enter Tryz.func3, Tryz.ntmps3
    go_wp2_with fail
    refine (big_c hn).mono ?_; rintro e w1 ⟨rfl, rfl⟩
    rw [decide_eq_true hbig]
    go_wp2_with fail
    go_ret
    exact ⟨rfl, Below.refl _ _⟩
  have hc := hco (by omega)
  have hbf : decide (4096 < n) = false := decide_eq_false hbig
  have hcw := hc
  clear hco hbig
  go_enter Tryz.func3, Tryz.ntmps3
  go_wp2_with fail
  refine (big_c hn).mono ?_; rintro e w0 ⟨rfl, rfl⟩
  rw [hbf]
  go_wp2_with fail
  refine (sdrawptat_c hc).mono ?_; rintro e w1 ⟨p, v, x, y, st, xs, ys, rfl, hp1, hp2, hl, hE, hV0, hV1, hlx, hly, hb1⟩
  obtain ⟨av, cv, rfl⟩ := hE.shape
  obtain ⟨ax, cx, rfl⟩ := hV0.shape
  obtain ⟨ay, cy, rfl⟩ := hV1.shape
  have hs := hE.1; have hx := hV0.1; have hy := hV1.1
  clear hE hV0 hV1
  have hl6 : st.length ≤ 1048576 := by omega
  have hlx6 : xs.length ≤ 1048576 := by omega
  have hly6 : ys.length ≤ 1048576 := by omega
  have hI := fun W v0 v1 v2 (h0 : El W v0 st) (h1 : El W v1 xs) (h2 : El W v2 ys) => iPointAt_c (w := W) (p0 := p) h0 hl6 h1 hlx6 h2 hly6
  have hS := fun W v0 v1 v2 (h0 : El W v0 st) (h1 : El W v1 xs) (h2 : El W v2 ys) => sPointAt_c (w := W) (p0 := p) h0 hl6 h1 hlx6 h2 hly6
  have hyl := RPointAt0_len p st xs ys hl6 hlx6 hly6
  obtain ⟨k, hk⟩ : ∃ k, k = RPointAt1 p st xs ys := ⟨_, rfl⟩; obtain ⟨P, hP⟩ : ∃ P, P = RPointAt0 p st xs ys := ⟨_, rfl⟩
  simp only [← hk, ← hP] at hI hS hyl
  have HK := Lib.hid (And.intro hk hP); clear hk hP
  have hb22 : Below w1.heap.size w1 (w1.alloc (.cells #[.int .i64 p, .slice av st.length cv] 26)) := (by repeat (first | exact .refl _ _ | apply bwD | apply bwA | (refine bwS ?_ (by first | omega | simp <;> omega) _) | refine bwC ?_ (by assumption)))
  have hs := hs.below hb22; have hx := hx.below hb22; have hy := hy.below hb22
  have d0 : (w1.alloc (.cells #[.int .i64 p, .slice av st.length cv] 26)).cell? ⟨w1.heap.size, 0, none⟩ = some (.int .i64 p) := by simp [go_sem]
  have d1 : (w1.alloc (.cells #[.int .i64 p, .slice av st.length cv] 26)).cell? ⟨w1.heap.size, 1, none⟩ = some (.slice av st.length cv) := by simp [go_sem]
  go_wp2_with fail
  refine (hI _ _ _ _ hs hx hy).mono ?_; rintro e w23 ⟨vhq, rfl, hq, hb23⟩
  have hs := hs.below hb23; have hx := hx.below hb23; have hy := hy.below hb23; have d0 := kept hb23 d0; have d1 := kept hb23 d1
  obtain ⟨d_hq, u_hq, rfl, q_hq, r_hq⟩ := hq.hv; obtain ⟨ahq, chq, rfl, _⟩ := q_hq.op; obtain ⟨bhq, ehq, rfl, _⟩ := id r_hq; clear q_hq r_hq
  have hb24 : Below w23.heap.size w23 (w23.alloc (.cells #[.slice ahq P.dg.length chq, .slice bhq P.up.length ehq] 31)) := (by repeat (first | exact .refl _ _ | apply bwD | apply bwA | (refine bwS ?_ (by first | omega | simp <;> omega) _) | refine bwC ?_ (by assumption)))
  have hs := hs.below hb24; have hx := hx.below hb24; have hy := hy.below hb24; have d0 := kept hb24 d0; have d1 := kept hb24 d1; have hq := hq.below hb24
  have q0 : (w23.alloc (.cells #[.slice ahq P.dg.length chq, .slice bhq P.up.length ehq] 31)).cell? ⟨w23.heap.size, 0, none⟩ = some (.slice ahq P.dg.length chq) := by simp [go_sem]
  have q1 : (w23.alloc (.cells #[.slice ahq P.dg.length chq, .slice bhq P.up.length ehq] 31)).cell? ⟨w23.heap.size, 1, none⟩ = some (.slice bhq P.up.length ehq) := by simp [go_sem]
  go_wp2_with fail
  refine (hS _ _ _ _ hs hx hy).mono ?_; rintro e w25 ⟨vhr, rfl, hr, hb25⟩
  have hs := hs.below hb25; have hx := hx.below hb25; have hy := hy.below hb25; have d0 := kept hb25 d0; have d1 := kept hb25 d1; have hq := hq.below hb25; have q0 := kept hb25 q0; have q1 := kept hb25 q1
  obtain ⟨d_hr, u_hr, rfl, q_hr, r_hr⟩ := hr.hv; obtain ⟨ahr, chr, rfl, _⟩ := q_hr.op; obtain ⟨bhr, ehr, rfl, _⟩ := id r_hr; clear q_hr r_hr
  have hb26 : Below w25.heap.size w25 (w25.alloc (.cells #[.slice ahr P.dg.length chr, .slice bhr P.up.length ehr] 31)) := (by repeat (first | exact .refl _ _ | apply bwD | apply bwA | (refine bwS ?_ (by first | omega | simp <;> omega) _) | refine bwC ?_ (by assumption)))
  have hs := hs.below hb26; have hx := hx.below hb26; have hy := hy.below hb26; have d0 := kept hb26 d0; have d1 := kept hb26 d1; have hq := hq.below hb26; have q0 := kept hb26 q0; have q1 := kept hb26 q1; have hr := hr.below hb26
  have r0 : (w25.alloc (.cells #[.slice ahr P.dg.length chr, .slice bhr P.up.length ehr] 31)).cell? ⟨w25.heap.size, 0, none⟩ = some (.slice ahr P.dg.length chr) := by simp [go_sem]
  have r1 : (w25.alloc (.cells #[.slice ahr P.dg.length chr, .slice bhr P.up.length ehr] 31)).cell? ⟨w25.heap.size, 1, none⟩ = some (.slice bhr P.up.length ehr) := by simp [go_sem]
  go_wp2_with fail
  refine (herm9_c hq.hv hr.hv hyl.toHsz).mono ?_; rintro e w27 ⟨rfl, hb27⟩
  have hs := hs.below hb27; have hx := hx.below hb27; have hy := hy.below hb27; have d0 := kept hb27 d0; have d1 := kept hb27 d1; have hq := hq.below hb27; have q0 := kept hb27 q0; have q1 := kept hb27 q1; have hr := hr.below hb27; have r0 := kept hb27 r0; have r1 := kept hb27 r1
  clear hI hS
  go_upto_if 64 with fail
  generalize hwE : w27 = wE at *
  clear hwE
  have hbE : Below w.heap.size w wE := (by repeat (first | exact .refl _ _ | apply bwD | apply bwA | (refine bwS ?_ (by first | omega | simp <;> omega) _) | refine bwC ?_ (by assumption)))
  go_cut [] (fun wx => Below w.heap.size w wx)
  case first =>
    by_cases hk0 : k = 0
    case neg =>
      have hkb : (k == 0) = false := by simpa using hk0
      go_wp2_with fail
      go_meet
      case rel => exact (by repeat (first | exact .refl _ _ | apply bwD | apply bwA | (refine bwS ?_ (by first | omega | simp <;> omega) _) | refine bwC ?_ (by assumption)))
    subst hk0
    have hk1 : chk3 p st [xs, ys] = 0 := HK.out.1.symm
    obtain ⟨hd, hall⟩ := chk3_pos hk1
    have h2p : 2 ≤ p := by have := hd.hp.lo; omega
    have eX : Ev p (sz st.length) xs := hall xs (by simp)
    have eY : Ev p (sz st.length) ys := hall ys (by simp)
    have hPJ : P = pointH p st xs ys := HK.out.2.trans (if_pos HK.out.1.symm)
    have iP : isH p (sz st.length) P = true := by rw [hPJ]; exact pointH_is h2p eX eY
    have zP := isH_hsz hd iP
    have pP : isPt p st P = true := by rw [hPJ]; exact point_pt hd eX eY
    obtain ⟨c2_, c0_, c1_⟩ := point_coords hd eX eY
    rw [← hPJ] at c2_ c0_ c1_
    have hA := fun W v0 v1 (h0 : El W v0 st) (h1 : Hv W v1 P) => iCoordinatesOf_c (w := W) (p0 := p) h0 hl6 h1 zP
    rw [c2_, c0_, c1_] at hA
    have hB := fun W v0 v1 (h0 : El W v0 st) (h1 : Hv W v1 P) => iIsPoint_c (w := W) (p0 := p) h0 hl6 h1 zP
    have cP : chkH p st [P] = 0 := chkH_ok hd (by simp [iP])
    rw [show RIsPoint0 p st P = true by unfold RIsPoint0; rw [if_pos cP, show rankH p st P = 1 by simpa [isPt] using pP]; rfl, show RIsPoint1 p st P = 0 from cP] at hB
    clear hall hk1 hPJ pP c2_ c0_ c1_ cP eX eY HK hyl
    go_wp2_with fail
    refine (hA _ _ _ hs hq.hv).mono ?_; rintro e w21 ⟨vu, vv, rfl, hu, hv, hap, hb21⟩
    have hs := hs.below hb21; have hx := hx.below hb21; have hy := hy.below hb21; have d0 := kept hb21 d0; have d1 := kept hb21 d1; have hq := hq.below hb21; have q0 := kept hb21 q0; have q1 := kept hb21 q1; have hr := hr.below hb21; have r0 := kept hb21 r0; have r1 := kept hb21 r1
    clear hap
    obtain ⟨au, cu, rfl, _⟩ := id hu.sl
    obtain ⟨a_v, c_v, rfl, _⟩ := id hv.sl
    go_wp2_with fail
    refine (hB _ _ _ hs hq.hv).mono ?_; rintro e w22 ⟨rfl, hb22⟩
    have hs := hs.below hb22; have hx := hx.below hb22; have hy := hy.below hb22; have d0 := kept hb22 d0; have d1 := kept hb22 d1; have hq := hq.below hb22; have q0 := kept hb22 q0; have q1 := kept hb22 q1; have hr := hr.below hb22; have r0 := kept hb22 r0; have r1 := kept hb22 r1; have hu := hu.below hb22; have hv := hv.below hb22
    go_wp2_with fail
    refine (like_c hu.sl hx.sl hlx6).mono ?_; rintro e w23 ⟨rfl, hb23⟩
    have hs := hs.below hb23; have hx := hx.below hb23; have hy := hy.below hb23; have d0 := kept hb23 d0; have d1 := kept hb23 d1; have hq := hq.below hb23; have q0 := kept hb23 q0; have q1 := kept hb23 q1; have hr := hr.below hb23; have r0 := kept hb23 r0; have r1 := kept hb23 r1; have hu := hu.below hb23; have hv := hv.below hb23
    go_wp2_with fail
    refine (like_c hv.sl hy.sl hly6).mono ?_; rintro e w24 ⟨rfl, hb24⟩
    have hs := hs.below hb24; have hx := hx.below hb24; have hy := hy.below hb24; have d0 := kept hb24 d0; have d1 := kept hb24 d1; have hq := hq.below hb24; have q0 := kept hb24 q0; have q1 := kept hb24 q1; have hr := hr.below hb24; have r0 := kept hb24 r0; have r1 := kept hb24 r1; have hu := hu.below hb24; have hv := hv.below hb24
    go_wp2_with fail
    go_meet
    case rel => exact (by repeat (first | exact .refl _ _ | apply bwD | apply bwA | (refine bwS ?_ (by first | omega | simp <;> omega) _) | refine bwC ?_ (by assumption)))
  case' rest => skip
  clear hs hx hy d0 d1 hq q0 q1 hr r0 r1 HK hyl hl6 hlx6 hly6 hlx hly hp1 hp2 hl hbE
  have hcJ := (hcw.below hcut).wide (q' := wc.heap.size) (by have := hcut.size; omega)
  go_wp2_with fail
  refine (sdrawidem_c hcJ).mono ?_; rintro e w21 ⟨p, v, x, st, X, rfl, hp1, hp2, hl, hE, hV0, hz0, hb21⟩
  have hbK : Below w.heap.size w w21 := bwC hcut hb21
  clear hcJ hb21 hcut
  obtain ⟨av, cv, rfl⟩ := hE.shape
  obtain ⟨ax, cx, b_x, ex, rfl⟩ := hV0.shape
  have hs := hE.1; have hx := hV0.hv
  clear hE hV0
  have hl6 : st.length ≤ 1048576 := by omega
  have hI := fun W v0 v1 (h0 : El W v0 st) (h1 : Hv W v1 X) => iIdempotentOf_c (w := W) (p0 := p) h0 hl6 h1 hz0
  have hS := fun W v0 v1 (h0 : El W v0 st) (h1 : Hv W v1 X) => sIdempotentOf_c (w := W) (p0 := p) h0 hl6 h1 hz0
  have P_l := RIdempotentOf0_len p st X hl6 hz0
  have P_n : RIdempotentOf1 p st X ≠ 0 → RIdempotentOf0 p st X = ⟨[], []⟩ := fun h => if_neg h
  obtain ⟨k, hk⟩ : ∃ k, k = RIdempotentOf1 p st X := ⟨_, rfl⟩; obtain ⟨P, hP⟩ : ∃ P, P = RIdempotentOf0 p st X := ⟨_, rfl⟩
  simp only [← hk, ← hP] at hI hS P_l P_n
  have HK := Lib.hid (And.intro hk hP); clear hk hP; have P_N := Lib.hid P_n; clear P_n
  have hJ := fun W v0 v1 (h0 : El W v0 st) (h1 : Hv W v1 X) => iNormalPoint_c (w := W) (p0 := p) h0 hl6 h1 hz0
  have hT := fun W v0 v1 (h0 : El W v0 st) (h1 : Hv W v1 X) => sNormalPoint_c (w := W) (p0 := p) h0 hl6 h1 hz0
  have Q_l := RNormalPoint0_len p st X hl6 hz0
  have Q_n : RNormalPoint1 p st X ≠ 0 → RNormalPoint0 p st X = ⟨[], []⟩ := fun h => if_neg h
  obtain ⟨m, hk⟩ : ∃ k, k = RNormalPoint1 p st X := ⟨_, rfl⟩; obtain ⟨Q, hP⟩ : ∃ P, P = RNormalPoint0 p st X := ⟨_, rfl⟩
  simp only [← hk, ← hP] at hJ hT Q_l Q_n
  have HM := Lib.hid (And.intro hk hP); clear hk hP; have Q_N := Lib.hid Q_n; clear Q_n
  have hb42 : Below w21.heap.size w21 (w21.alloc (.cells #[.int .i64 p, .slice av st.length cv] 26)) := (by repeat (first | exact .refl _ _ | apply bwD | apply bwA | (refine bwS ?_ (by first | omega | simp <;> omega) _) | refine bwC ?_ (by assumption)))
  have hs := hs.below hb42; have hx := hx.below hb42
  have d0 : (w21.alloc (.cells #[.int .i64 p, .slice av st.length cv] 26)).cell? ⟨w21.heap.size, 0, none⟩ = some (.int .i64 p) := by simp [go_sem]
  have d1 : (w21.alloc (.cells #[.int .i64 p, .slice av st.length cv] 26)).cell? ⟨w21.heap.size, 1, none⟩ = some (.slice av st.length cv) := by simp [go_sem]
  have hb43 : Below (w21.alloc (.cells #[.int .i64 p, .slice av st.length cv] 26)).heap.size (w21.alloc (.cells #[.int .i64 p, .slice av st.length cv] 26)) ((w21.alloc (.cells #[.int .i64 p, .slice av st.length cv] 26)).alloc (.cells #[.slice ax X.dg.length cx, .slice b_x X.up.length ex] 31)) := (by repeat (first | exact .refl _ _ | apply bwD | apply bwA | (refine bwS ?_ (by first | omega | simp <;> omega) _) | refine bwC ?_ (by assumption)))
  have hs := hs.below hb43; have hx := hx.below hb43; have d0 := kept hb43 d0; have d1 := kept hb43 d1
  have x0 : ((w21.alloc (.cells #[.int .i64 p, .slice av st.length cv] 26)).alloc (.cells #[.slice ax X.dg.length cx, .slice b_x X.up.length ex] 31)).cell? ⟨w21.heap.size + 1, 0, none⟩ = some (.slice ax X.dg.length cx) := by simp [go_sem]
  have x1 : ((w21.alloc (.cells #[.int .i64 p, .slice av st.length cv] 26)).alloc (.cells #[.slice ax X.dg.length cx, .slice b_x X.up.length ex] 31)).cell? ⟨w21.heap.size + 1, 1, none⟩ = some (.slice b_x X.up.length ex) := by simp [go_sem]
  go_wp2_with fail
  refine (hI _ _ _ hs hx).mono ?_; rintro e w44 ⟨vhq, rfl, hq, hb44⟩
  have hs := hs.below hb44; have hx := hx.below hb44; have d0 := kept hb44 d0; have d1 := kept hb44 d1; have x0 := kept hb44 x0; have x1 := kept hb44 x1
  obtain ⟨d_hq, u_hq, rfl, q_hq, r_hq⟩ := hq.hv; obtain ⟨ahq, chq, rfl, _⟩ := q_hq.op; obtain ⟨bhq, ehq, rfl, _⟩ := id r_hq; clear q_hq r_hq
  have hb45 : Below w44.heap.size w44 (w44.alloc (.cells #[.slice ahq P.dg.length chq, .slice bhq P.up.length ehq] 31)) := (by repeat (first | exact .refl _ _ | apply bwD | apply bwA | (refine bwS ?_ (by first | omega | simp <;> omega) _) | refine bwC ?_ (by assumption)))
  have hs := hs.below hb45; have hx := hx.below hb45; have d0 := kept hb45 d0; have d1 := kept hb45 d1; have x0 := kept hb45 x0; have x1 := kept hb45 x1; have hq := hq.below hb45
  have q0 : (w44.alloc (.cells #[.slice ahq P.dg.length chq, .slice bhq P.up.length ehq] 31)).cell? ⟨w44.heap.size, 0, none⟩ = some (.slice ahq P.dg.length chq) := by simp [go_sem]
  have q1 : (w44.alloc (.cells #[.slice ahq P.dg.length chq, .slice bhq P.up.length ehq] 31)).cell? ⟨w44.heap.size, 1, none⟩ = some (.slice bhq P.up.length ehq) := by simp [go_sem]
  go_wp2_with fail
  refine (hS _ _ _ hs hx).mono ?_; rintro e w46 ⟨vhr, rfl, hr, hb46⟩
  have hs := hs.below hb46; have hx := hx.below hb46; have d0 := kept hb46 d0; have d1 := kept hb46 d1; have x0 := kept hb46 x0; have x1 := kept hb46 x1; have hq := hq.below hb46; have q0 := kept hb46 q0; have q1 := kept hb46 q1
  obtain ⟨d_hr, u_hr, rfl, q_hr, r_hr⟩ := hr.hv; obtain ⟨ahr, chr, rfl, _⟩ := q_hr.op; obtain ⟨bhr, ehr, rfl, _⟩ := id r_hr; clear q_hr r_hr
  have hb47 : Below w46.heap.size w46 (w46.alloc (.cells #[.slice ahr P.dg.length chr, .slice bhr P.up.length ehr] 31)) := (by repeat (first | exact .refl _ _ | apply bwD | apply bwA | (refine bwS ?_ (by first | omega | simp <;> omega) _) | refine bwC ?_ (by assumption)))
  have hs := hs.below hb47; have hx := hx.below hb47; have d0 := kept hb47 d0; have d1 := kept hb47 d1; have x0 := kept hb47 x0; have x1 := kept hb47 x1; have hq := hq.below hb47; have q0 := kept hb47 q0; have q1 := kept hb47 q1; have hr := hr.below hb47
  have r0 : (w46.alloc (.cells #[.slice ahr P.dg.length chr, .slice bhr P.up.length ehr] 31)).cell? ⟨w46.heap.size, 0, none⟩ = some (.slice ahr P.dg.length chr) := by simp [go_sem]
  have r1 : (w46.alloc (.cells #[.slice ahr P.dg.length chr, .slice bhr P.up.length ehr] 31)).cell? ⟨w46.heap.size, 1, none⟩ = some (.slice bhr P.up.length ehr) := by simp [go_sem]
  go_wp2_with fail
  refine (herm9_c hq.hv hr.hv P_l.toHsz).mono ?_; rintro e w48 ⟨rfl, hb48⟩
  have hs := hs.below hb48; have hx := hx.below hb48; have d0 := kept hb48 d0; have d1 := kept hb48 d1; have x0 := kept hb48 x0; have x1 := kept hb48 x1; have hq := hq.below hb48; have q0 := kept hb48 q0; have q1 := kept hb48 q1; have hr := hr.below hb48; have r0 := kept hb48 r0; have r1 := kept hb48 r1
  go_wp2_with fail
  refine (hJ _ _ _ hs hx).mono ?_; rintro e w49 ⟨vhm, rfl, hm, hb49⟩
  have hs := hs.below hb49; have hx := hx.below hb49; have d0 := kept hb49 d0; have d1 := kept hb49 d1; have x0 := kept hb49 x0; have x1 := kept hb49 x1; have hq := hq.below hb49; have q0 := kept hb49 q0; have q1 := kept hb49 q1; have hr := hr.below hb49; have r0 := kept hb49 r0; have r1 := kept hb49 r1
  obtain ⟨d_hm, u_hm, rfl, q_hm, r_hm⟩ := hm.hv; obtain ⟨ahm, chm, rfl, _⟩ := q_hm.op; obtain ⟨bhm, ehm, rfl, _⟩ := id r_hm; clear q_hm r_hm
  have hb50 : Below w49.heap.size w49 (w49.alloc (.cells #[.slice ahm Q.dg.length chm, .slice bhm Q.up.length ehm] 31)) := (by repeat (first | exact .refl _ _ | apply bwD | apply bwA | (refine bwS ?_ (by first | omega | simp <;> omega) _) | refine bwC ?_ (by assumption)))
  have hs := hs.below hb50; have hx := hx.below hb50; have d0 := kept hb50 d0; have d1 := kept hb50 d1; have x0 := kept hb50 x0; have x1 := kept hb50 x1; have hq := hq.below hb50; have q0 := kept hb50 q0; have q1 := kept hb50 q1; have hr := hr.below hb50; have r0 := kept hb50 r0; have r1 := kept hb50 r1; have hm := hm.below hb50
  have m0 : (w49.alloc (.cells #[.slice ahm Q.dg.length chm, .slice bhm Q.up.length ehm] 31)).cell? ⟨w49.heap.size, 0, none⟩ = some (.slice ahm Q.dg.length chm) := by simp [go_sem]
  have m1 : (w49.alloc (.cells #[.slice ahm Q.dg.length chm, .slice bhm Q.up.length ehm] 31)).cell? ⟨w49.heap.size, 1, none⟩ = some (.slice bhm Q.up.length ehm) := by simp [go_sem]
  go_wp2_with fail
  refine (hT _ _ _ hs hx).mono ?_; rintro e w51 ⟨vht, rfl, ht, hb51⟩
  have hs := hs.below hb51; have hx := hx.below hb51; have d0 := kept hb51 d0; have d1 := kept hb51 d1; have x0 := kept hb51 x0; have x1 := kept hb51 x1; have hq := hq.below hb51; have q0 := kept hb51 q0; have q1 := kept hb51 q1; have hr := hr.below hb51; have r0 := kept hb51 r0; have r1 := kept hb51 r1; have hm := hm.below hb51; have m0 := kept hb51 m0; have m1 := kept hb51 m1
  obtain ⟨d_ht, u_ht, rfl, q_ht, r_ht⟩ := ht.hv; obtain ⟨aht, cht, rfl, _⟩ := q_ht.op; obtain ⟨bht, eht, rfl, _⟩ := id r_ht; clear q_ht r_ht
  have hb52 : Below w51.heap.size w51 (w51.alloc (.cells #[.slice aht Q.dg.length cht, .slice bht Q.up.length eht] 31)) := (by repeat (first | exact .refl _ _ | apply bwD | apply bwA | (refine bwS ?_ (by first | omega | simp <;> omega) _) | refine bwC ?_ (by assumption)))
  have hs := hs.below hb52; have hx := hx.below hb52; have d0 := kept hb52 d0; have d1 := kept hb52 d1; have x0 := kept hb52 x0; have x1 := kept hb52 x1; have hq := hq.below hb52; have q0 := kept hb52 q0; have q1 := kept hb52 q1; have hr := hr.below hb52; have r0 := kept hb52 r0; have r1 := kept hb52 r1; have hm := hm.below hb52; have m0 := kept hb52 m0; have m1 := kept hb52 m1; have ht := ht.below hb52
  have t0 : (w51.alloc (.cells #[.slice aht Q.dg.length cht, .slice bht Q.up.length eht] 31)).cell? ⟨w51.heap.size, 0, none⟩ = some (.slice aht Q.dg.length cht) := by simp [go_sem]
  have t1 : (w51.alloc (.cells #[.slice aht Q.dg.length cht, .slice bht Q.up.length eht] 31)).cell? ⟨w51.heap.size, 1, none⟩ = some (.slice bht Q.up.length eht) := by simp [go_sem]
  go_wp2_with fail
  refine (herm9_c hm.hv ht.hv Q_l.toHsz).mono ?_; rintro e w53 ⟨rfl, hb53⟩
  have hs := hs.below hb53; have hx := hx.below hb53; have d0 := kept hb53 d0; have d1 := kept hb53 d1; have x0 := kept hb53 x0; have x1 := kept hb53 x1; have hq := hq.below hb53; have q0 := kept hb53 q0; have q1 := kept hb53 q1; have hr := hr.below hb53; have r0 := kept hb53 r0; have r1 := kept hb53 r1; have hm := hm.below hb53; have m0 := kept hb53 m0; have m1 := kept hb53 m1; have ht := ht.below hb53; have t0 := kept hb53 t0; have t1 := kept hb53 t1
  clear hI hS hJ hT
  go_upto_if 148 with fail
  generalize hwFF : w53 = wF at *
  clear hwFF
  have hbF : Below w.heap.size w wF := (by repeat (first | exact .refl _ _ | apply bwD | apply bwA | (refine bwS ?_ (by first | omega | simp <;> omega) _) | refine bwC ?_ (by assumption)))
  go_cut [] (fun wx => Below wF.heap.size wF wx)
  case first =>
    by_cases hm0 : m = 0
    case neg =>
      have hkb : (m == 0) = false := by simpa using hm0
      go_wp2_with fail
      go_meet
      case rel => exact (by repeat (first | exact .refl _ _ | apply bwD | apply bwA | (refine bwS ?_ (by first | omega | simp <;> omega) _) | refine bwC ?_ (by assumption)))
    subst hm0
    obtain ⟨⟨hd, hall⟩, hpts⟩ := ptsH_pos (show ptsH p st [X] = 0 from HM.out.1.symm)
    have hX : isH p (sz st.length) X = true := by simp at hall; exact hall
    have pX : isPt p st X = true := by simp at hpts; exact hpts
    have h2p : 2 ≤ p := by have := hd.hp.lo; omega
    have h3p := hd.hp.lo
    have HX := Lib.hid pX; clear pX hall hpts
    have hQN : Q = RNormalPoint0 p st X := HM.out.2
    have hQ3 : Q.dg.length = 3 := by rw [hQN]; unfold RNormalPoint0; rw [if_pos HM.out.1.symm]; exact (isH_parts (multH_is (n := sz st.length) (show 1 ≤ p by omega) hX)).1
    have HQ3 := Lib.hid hQ3; clear hQ3; have HQN := Lib.hid hQN; clear hQN
    have hZX := isH_hsz hd hX
    go_upto_region 23 with fail
    go_wp2_with fail
    refine region_flow [(false, [(0, 0), (2, 0), (3, 1), (4, 0), (1, 5)]), (false, [(5, 4), (6, 0), (7, 0)])] (by kernel_rfl) ?_
    refine norm_K fun K hK => ?_
    change wpList _ _ _ [_, _, _, _, _] _ _
    have hb21 : Below wF.heap.size wF wF.drew := (by repeat (first | exact .refl _ _ | apply bwD | apply bwA | (refine bwS ?_ (by first | omega | simp <;> omega) _) | refine bwC ?_ (by assumption)))
    have hs := hs.below hb21; have hx := hx.below hb21; have d0 := kept hb21 d0; have d1 := kept hb21 d1; have x0 := kept hb21 x0; have x1 := kept hb21 x1; have hq := hq.below hb21; have q0 := kept hb21 q0; have q1 := kept hb21 q1; have hr := hr.below hb21; have r0 := kept hb21 r0; have r1 := kept hb21 r1; have hm := hm.below hb21; have m0 := kept hb21 m0; have m1 := kept hb21 m1; have ht := ht.below hb21; have t0 := kept hb21 t0; have t1 := kept hb21 t1
    generalize wF.drew = wq at *
    have hs_ := hs
    have hx_ := hx
    have d0_ := d0
    have d1_ := d1
    have x0_ := x0
    have x1_ := x1
    have hq_ := hq
    have q0_ := q0
    have q1_ := q1
    have hr_ := hr
    have r0_ := r0
    have r1_ := r1
    have hm_ := hm
    have m0_ := m0
    have m1_ := m1
    have ht_ := ht
    have t0_ := t0
    have t1_ := t1
    have hbQ : Below w.heap.size w wq := (by repeat (first | exact .refl _ _ | apply bwD | apply bwA | (refine bwS ?_ (by first | omega | simp <;> omega) _) | refine bwC ?_ (by assumption)))
    have hcq := (hcw.below hbQ).wide (q' := wq.heap.size) (by have := hbQ.size; omega)
    clear hbQ
    go_wp2_with fail
    refine (droll_c hcq).mono ?_; rintro e w40 ⟨rfl, hdc, hzd, hb40⟩
    go_wp2_with fail
    first | (refine hK _ _ ⟨hb40, ?_⟩; clear hK K) | refine ⟨hb40, ?_⟩
    refine norm_K fun K hK => ?_
    change wpList _ _ _ [_, _, _] _ _
    go_wp2_with fail
    refine (dbelow_c hdc (by omega) (by omega)).mono ?_; rintro e w41 ⟨t, rfl, ht0, ht1, hdc2, hch, hzz⟩
    have ht2 : t < p - 1 := by omega
    have hb41 : Below wq.heap.size wq w41 := below_bchg hb40 hch (Nat.le_refl _) hb40.size
    clear hb40 hch hdc hdc2 hzz hzd ht1 hcq
    go_wp2_with fail
    first | (refine hK _ _ ⟨rfl, ?_⟩; clear hK K) | refine ⟨rfl, ?_⟩
    have hs := hs_.below hb41
    have hx := hx_.below hb41
    have d0 := kept hb41 d0_
    have d1 := kept hb41 d1_
    have x0 := kept hb41 x0_
    have x1 := kept hb41 x1_
    have hq := hq_.below hb41
    have q0 := kept hb41 q0_
    have q1 := kept hb41 q1_
    have hr := hr_.below hb41
    have r0 := kept hb41 r0_
    have r1 := kept hb41 r1_
    have hm := hm_.below hb41
    have m0 := kept hb41 m0_
    have m1 := kept hb41 m1_
    have ht := ht_.below hb41
    have t0 := kept hb41 t0_
    have t1 := kept hb41 t1_
    have hk1 : 1 ≤ 1 + t := by omega
    have hk2 : 1 + t < p := by omega
    obtain ⟨n1_, n2_⟩ := norm_mult hd hX hk1 hk2 HX.out
    have iZ := multH_is (n := sz st.length) (k := 1 + t) (show 1 ≤ p by omega) hX
    have zZ := isH_hsz hd iZ
    have iN := sumH_is (p := p) (k := -1) (by omega) hX hX
    have hN0 := multH_sum (n := 1 + t) hX
    obtain ⟨N1, hN1_⟩ : ∃ z, z = sumH p X (-1) X := ⟨_, rfl⟩; obtain ⟨Z, hZ_⟩ : ∃ z, z = multH p X (1 + t) := ⟨_, rfl⟩
    rw [← hN1_] at iN hN0; rw [← hZ_] at n1_ n2_ iZ zZ hN0
    have hZ := fun W v0 v1 (h0 : El W v0 st) (h1 : Hv W v1 Z) => iNormalPoint_c (w := W) (p0 := p) h0 hl6 h1 zZ
    rw [n1_, n2_, ← HQN.out] at hZ
    have HN1 := Lib.hid (And.intro hN1_ hN0); clear hN1_ hZ_ hN0 n1_ n2_ hk1
    go_upto_region 24 with fail
    generalize hwG : w41 = wG at *
    clear hwG
    go_cut [26, 27] (fun s_ e_ wx => ∃ N d u, s_ = .pointer (some ⟨N, 0, none⟩) ∧ e_ = .int .i64 0 ∧ wG.heap.size ≤ N ∧ Bx wx N d u ∧ FrH wx wG.heap.size (.agg #[d, u]) (Q) ∧ Below wG.heap.size wG wx)
    case first =>
      refine region_tq [(0, 1), (1, 1), (2, 1), (3, 1), (4, 1), (6, 0), (7, 1)] (.two 5 5 (.two 8 5 (.two 9 5 (.lin [(false, [(10, 0), (11, 0), (12, 0), (13, 5)]), (false, [(14, 4), (15, 0)])]) 13 5 (.lin [(false, [(9, 4), (10, 0), (11, 0), (12, 0), (14, 4), (15, 0)])])) 13 5 (.lin [(false, [(8, 5)]), (false, [(9, 4), (10, 0), (11, 0), (12, 0), (14, 4), (15, 0)])])) 13 5 (.lin [(false, [(5, 5)]), (false, [(8, 5)]), (false, [(9, 4), (10, 0), (11, 0), (12, 0), (14, 4), (15, 0)])])) (by kernel_rfl) ?_
      refine norm_K fun K hK => ?_
      change wpList _ _ _ [_, _, _, _, _, _, _] _ _
      go_wp2_with fail
      have hbq : Below wG.heap.size wG wG.drew := (by repeat (first | exact .refl _ _ | apply bwD | apply bwA | (refine bwS ?_ (by first | omega | simp <;> omega) _) | refine bwC ?_ (by assumption)))
      have hs := hs.below hbq; have hx := hx.below hbq; have d0 := kept hbq d0; have d1 := kept hbq d1; have x0 := kept hbq x0; have x1 := kept hbq x1; have hq := hq.below hbq; have q0 := kept hbq q0; have q1 := kept hbq q1; have hr := hr.below hbq; have r0 := kept hbq r0; have r1 := kept hbq r1; have hm := hm.below hbq; have m0 := kept hbq m0; have m1 := kept hbq m1; have ht := ht.below hbq; have t0 := kept hbq t0; have t1 := kept hbq t1
      have szq : wG.heap.size = wG.drew.heap.size := rfl
      generalize wG.drew = wq at *
      refine hK _ _ ?_; clear hK K
      refine ⟨?_, ?_⟩
      · skip
        refine norm_K fun K hK => ?_
        change wpList _ _ _ [_] _ _
        go_wp2_with fail
        refine (sum9_c hd hs hx hX hx hX (by decide) (by decide)).mono ?_; rintro e w41 ⟨v9, rfl, h9, hb41⟩
        have hs := hs.below hb41; have hx := hx.below hb41; have d0 := kept hb41 d0; have d1 := kept hb41 d1; have x0 := kept hb41 x0; have x1 := kept hb41 x1; have hq := hq.below hb41; have q0 := kept hb41 q0; have q1 := kept hb41 q1; have hr := hr.below hb41; have r0 := kept hb41 r0; have r1 := kept hb41 r1; have hm := hm.below hb41; have m0 := kept hb41 m0; have m1 := kept hb41 m1; have ht := ht.below hb41; have t0 := kept hb41 t0; have t1 := kept hb41 t1
        have sz41 : wq.heap.size ≤ w41.heap.size := hb41.size
        rw [← HN1.out.1] at h9
        go_wp2_with fail
        first | (refine hK _ _ ⟨(by repeat (first | exact .refl _ _ | apply bwD | apply bwA | (refine bwS ?_ (by first | omega | simp <;> omega) _) | refine bwC ?_ (by assumption))), ?_⟩; clear hK K) | refine ⟨(by repeat (first | exact .refl _ _ | apply bwD | apply bwA | (refine bwS ?_ (by first | omega | simp <;> omega) _) | refine bwC ?_ (by assumption))), ?_⟩
        refine ⟨?_, ?_⟩
        · skip
          refine norm_K fun K hK => ?_
          change wpList _ _ _ [_] _ _
          go_wp2_with fail
          refine (sum9_c hd hs h9.hv iN hx hX (by omega) (by omega)).mono ?_; rintro e w42 ⟨v10, rfl, h10, hb42⟩
          have hs := hs.below hb42; have hx := hx.below hb42; have d0 := kept hb42 d0; have d1 := kept hb42 d1; have x0 := kept hb42 x0; have x1 := kept hb42 x1; have hq := hq.below hb42; have q0 := kept hb42 q0; have q1 := kept hb42 q1; have hr := hr.below hb42; have r0 := kept hb42 r0; have r1 := kept hb42 r1; have hm := hm.below hb42; have m0 := kept hb42 m0; have m1 := kept hb42 m1; have ht := ht.below hb42; have t0 := kept hb42 t0; have t1 := kept hb42 t1; have h9 := h9.below hb42
          have sz42 : w41.heap.size ≤ w42.heap.size := hb42.size
          rw [HN1.out.2] at h10
          go_wp2_with fail
          first | (refine hK _ _ ⟨(by repeat (first | exact .refl _ _ | apply bwD | apply bwA | (refine bwS ?_ (by first | omega | simp <;> omega) _) | refine bwC ?_ (by assumption))), ?_⟩; clear hK K) | refine ⟨(by repeat (first | exact .refl _ _ | apply bwD | apply bwA | (refine bwS ?_ (by first | omega | simp <;> omega) _) | refine bwC ?_ (by assumption))), ?_⟩
          refine ⟨?_, ?_⟩
          · skip
            refine norm_K fun K hK => ?_
            change wpList _ _ _ [_] _ _
            go_wp2_with fail
            refine (hZ _ _ _ hs h10.hv).mono ?_; rintro e w43 ⟨v11, rfl, h11_, hb43⟩
            have hs := hs.below hb43; have hx := hx.below hb43; have d0 := kept hb43 d0; have d1 := kept hb43 d1; have x0 := kept hb43 x0; have x1 := kept hb43 x1; have hq := hq.below hb43; have q0 := kept hb43 q0; have q1 := kept hb43 q1; have hr := hr.below hb43; have r0 := kept hb43 r0; have r1 := kept hb43 r1; have hm := hm.below hb43; have m0 := kept hb43 m0; have m1 := kept hb43 m1; have ht := ht.below hb43; have t0 := kept hb43 t0; have t1 := kept hb43 t1; have h9 := h9.below hb43; have h10 := h10.below hb43
            have sz43 : w42.heap.size ≤ w43.heap.size := hb43.size
            have h11 := h11_.frh HQ3.out; clear h11_
            obtain ⟨d2, u2, us2, rfl, ⟨g2, k2_, rfl, q2⟩, hu2_, hne2⟩ := id h11; obtain ⟨g3, k3_, rfl, hq3_⟩ := id hu2_; clear hq3_ hu2_ q2
            go_wp2_with fail
            first | (refine hK _ _ ⟨(by repeat (first | exact .refl _ _ | apply bwD | apply bwA | (refine bwS ?_ (by first | omega | simp <;> omega) _) | refine bwC ?_ (by assumption))), ?_⟩; clear hK K) | refine ⟨(by repeat (first | exact .refl _ _ | apply bwD | apply bwA | (refine bwS ?_ (by first | omega | simp <;> omega) _) | refine bwC ?_ (by assumption))), ?_⟩
            refine norm_K fun K hK => ?_
            change wpList _ _ _ [_, _, _, _] _ _
            go_wp2_with fail
            have hb44 : Below w43.heap.size w43 (w43.alloc (.cells #[.slice none 0 0, .slice none 0 0] 31)) := (by repeat (first | exact .refl _ _ | apply bwD | apply bwA | (refine bwS ?_ (by first | omega | simp <;> omega) _) | refine bwC ?_ (by assumption)))
            have h11A := h11; have hbA := hb44
            have hs := hs.below hb44; have hx := hx.below hb44; have d0 := kept hb44 d0; have d1 := kept hb44 d1; have x0 := kept hb44 x0; have x1 := kept hb44 x1; have hq := hq.below hb44; have q0 := kept hb44 q0; have q1 := kept hb44 q1; have hr := hr.below hb44; have r0 := kept hb44 r0; have r1 := kept hb44 r1; have hm := hm.below hb44; have m0 := kept hb44 m0; have m1 := kept hb44 m1; have ht := ht.below hb44; have t0 := kept hb44 t0; have t1 := kept hb44 t1; have h9 := h9.below hb44; have h10 := h10.below hb44; have h11 := h11.below hb44
            have hN : Bx (w43.alloc (.cells #[.slice none 0 0, .slice none 0 0] 31)) w43.heap.size (.slice none 0 0) (.slice none 0 0) := heap_alloc_new _ _
            have sz44 : w43.heap.size + 1 = (w43.alloc (.cells #[.slice none 0 0, .slice none 0 0] 31)).heap.size := by simp
            go_wp2_with fail
            obtain ⟨w44, hw_⟩ : ∃ x, x = (w43.alloc (.cells #[.slice none 0 0, .slice none 0 0] 31)) := ⟨_, rfl⟩
            rw [← hw_] at hb44 sz44 hs hx d0 d1 x0 x1 hq q0 q1 hr r0 r1 hm m0 m1 ht t0 t1 h9 h10 h11 hN hbA ⊢; clear hw_
            go_wp2_with fail
            first | (refine hK _ _ ⟨(by repeat (first | exact .refl _ _ | apply bwD | apply bwA | (refine bwS ?_ (by first | omega | simp <;> omega) _) | refine bwC ?_ (by assumption))), ?_⟩; clear hK K) | refine ⟨(by repeat (first | exact .refl _ _ | apply bwD | apply bwA | (refine bwS ?_ (by first | omega | simp <;> omega) _) | refine bwC ?_ (by assumption))), ?_⟩
            refine norm_K fun K hK => ?_
            change wpList _ _ _ [_, _] _ _
            have rc0 := hN.c0; have rc1 := hN.c1; have rf0 := hN.f0; have rf1 := hN.f1
            go_wp2_with fail
            first | (refine hK _ _ ⟨rfl, ?_⟩; clear hK K) | refine ⟨rfl, ?_⟩
            go_wp2_with fail
            go_meet
            case rel => exact ⟨w43.heap.size, _, _, rfl, rfl, by omega, (hN.set0 _).set1 _, (h11A.below (bwS (p := ⟨w43.heap.size, 1, none⟩) (bwS (p := ⟨w43.heap.size, 0, none⟩) hbA (Nat.le_refl _) _) (Nat.le_refl _) _)).more (by omega), (by repeat (first | exact .refl _ _ | apply bwD | apply bwA | (refine bwS ?_ (by first | omega | simp <;> omega) _) | refine bwC ?_ (by assumption)))⟩
          · skip
            refine norm_K fun K hK => ?_
            change wpList _ _ _ [_] _ _
            go_wp2_with fail
            have hb43 : Below w42.heap.size w42 (w42.alloc (.cells #[.slice none 0 0, .slice none 0 0] 31)) := (by repeat (first | exact .refl _ _ | apply bwD | apply bwA | (refine bwS ?_ (by first | omega | simp <;> omega) _) | refine bwC ?_ (by assumption)))
            have hs := hs.below hb43; have hx := hx.below hb43; have d0 := kept hb43 d0; have d1 := kept hb43 d1; have x0 := kept hb43 x0; have x1 := kept hb43 x1; have hq := hq.below hb43; have q0 := kept hb43 q0; have q1 := kept hb43 q1; have hr := hr.below hb43; have r0 := kept hb43 r0; have r1 := kept hb43 r1; have hm := hm.below hb43; have m0 := kept hb43 m0; have m1 := kept hb43 m1; have ht := ht.below hb43; have t0 := kept hb43 t0; have t1 := kept hb43 t1; have h9 := h9.below hb43; have h10 := h10.below hb43
            have hN : Bx (w42.alloc (.cells #[.slice none 0 0, .slice none 0 0] 31)) w42.heap.size (.slice none 0 0) (.slice none 0 0) := heap_alloc_new _ _
            have sz43 : w42.heap.size + 1 = (w42.alloc (.cells #[.slice none 0 0, .slice none 0 0] 31)).heap.size := by simp
            go_wp2_with fail
            obtain ⟨w43, hw_⟩ : ∃ x, x = (w42.alloc (.cells #[.slice none 0 0, .slice none 0 0] 31)) := ⟨_, rfl⟩
            rw [← hw_] at hb43 sz43 hs hx d0 d1 x0 x1 hq q0 q1 hr r0 r1 hm m0 m1 ht t0 t1 h9 h10 hN ⊢; clear hw_
            go_wp2_with fail
            first | (refine hK _ _ ⟨(by repeat (first | exact .refl _ _ | apply bwD | apply bwA | (refine bwS ?_ (by first | omega | simp <;> omega) _) | refine bwC ?_ (by assumption))), ?_⟩; clear hK K) | refine ⟨(by repeat (first | exact .refl _ _ | apply bwD | apply bwA | (refine bwS ?_ (by first | omega | simp <;> omega) _) | refine bwC ?_ (by assumption))), ?_⟩
            refine norm_K fun K hK => ?_
            change wpList _ _ _ [_, _, _, _, _, _] _ _
            go_wp2_with fail
            refine (hZ _ _ _ hs h10.hv).mono ?_; rintro e w44 ⟨v11, rfl, h11_, hb44⟩
            have hs := hs.below hb44; have hx := hx.below hb44; have d0 := kept hb44 d0; have d1 := kept hb44 d1; have x0 := kept hb44 x0; have x1 := kept hb44 x1; have hq := hq.below hb44; have q0 := kept hb44 q0; have q1 := kept hb44 q1; have hr := hr.below hb44; have r0 := kept hb44 r0; have r1 := kept hb44 r1; have hm := hm.below hb44; have m0 := kept hb44 m0; have m1 := kept hb44 m1; have ht := ht.below hb44; have t0 := kept hb44 t0; have t1 := kept hb44 t1; have h9 := h9.below hb44; have h10 := h10.below hb44; have hN := hN.below hb44
            have sz44 : w43.heap.size ≤ w44.heap.size := hb44.size
            have h11 := h11_.frh HQ3.out; clear h11_
            obtain ⟨d2, u2, us2, rfl, ⟨g2, k2_, rfl, q2⟩, hu2_, hne2⟩ := id h11; obtain ⟨g3, k3_, rfl, hq3_⟩ := id hu2_; clear hq3_ hu2_ q2
            have rc0 := hN.c0; have rc1 := hN.c1; have rf0 := hN.f0; have rf1 := hN.f1
            go_wp2_with fail
            first | (refine hK _ _ ⟨rfl, ?_⟩; clear hK K) | refine ⟨rfl, ?_⟩
            go_wp2_with fail
            go_meet
            case rel => exact ⟨w42.heap.size, _, _, rfl, rfl, by omega, (hN.set0 _).set1 _, ((h11.set_ (p := ⟨w42.heap.size, 0, none⟩) (show w42.heap.size < _ by omega) _).set_ (p := ⟨w42.heap.size, 1, none⟩) (show w42.heap.size < _ by omega) _).more (by omega), (by repeat (first | exact .refl _ _ | apply bwD | apply bwA | (refine bwS ?_ (by first | omega | simp <;> omega) _) | refine bwC ?_ (by assumption)))⟩
        · skip
          refine norm_K fun K hK => ?_
          change wpList _ _ _ [_] _ _
          go_wp2_with fail
          have hb42 : Below w41.heap.size w41 (w41.alloc (.cells #[.slice none 0 0, .slice none 0 0] 31)) := (by repeat (first | exact .refl _ _ | apply bwD | apply bwA | (refine bwS ?_ (by first | omega | simp <;> omega) _) | refine bwC ?_ (by assumption)))
          have hs := hs.below hb42; have hx := hx.below hb42; have d0 := kept hb42 d0; have d1 := kept hb42 d1; have x0 := kept hb42 x0; have x1 := kept hb42 x1; have hq := hq.below hb42; have q0 := kept hb42 q0; have q1 := kept hb42 q1; have hr := hr.below hb42; have r0 := kept hb42 r0; have r1 := kept hb42 r1; have hm := hm.below hb42; have m0 := kept hb42 m0; have m1 := kept hb42 m1; have ht := ht.below hb42; have t0 := kept hb42 t0; have t1 := kept hb42 t1; have h9 := h9.below hb42
          have hN : Bx (w41.alloc (.cells #[.slice none 0 0, .slice none 0 0] 31)) w41.heap.size (.slice none 0 0) (.slice none 0 0) := heap_alloc_new _ _
          have sz42 : w41.heap.size + 1 = (w41.alloc (.cells #[.slice none 0 0, .slice none 0 0] 31)).heap.size := by simp
          go_wp2_with fail
          obtain ⟨w42, hw_⟩ : ∃ x, x = (w41.alloc (.cells #[.slice none 0 0, .slice none 0 0] 31)) := ⟨_, rfl⟩
          rw [← hw_] at hb42 sz42 hs hx d0 d1 x0 x1 hq q0 q1 hr r0 r1 hm m0 m1 ht t0 t1 h9 hN ⊢; clear hw_
          go_wp2_with fail
          first | (refine hK _ _ ⟨(by repeat (first | exact .refl _ _ | apply bwD | apply bwA | (refine bwS ?_ (by first | omega | simp <;> omega) _) | refine bwC ?_ (by assumption))), ?_⟩; clear hK K) | refine ⟨(by repeat (first | exact .refl _ _ | apply bwD | apply bwA | (refine bwS ?_ (by first | omega | simp <;> omega) _) | refine bwC ?_ (by assumption))), ?_⟩
          refine norm_K fun K hK => ?_
          change wpList _ _ _ [_] _ _
          go_wp2_with fail
          refine (sum9_c hd hs h9.hv iN hx hX (by omega) (by omega)).mono ?_; rintro e w43 ⟨v10, rfl, h10, hb43⟩
          have hs := hs.below hb43; have hx := hx.below hb43; have d0 := kept hb43 d0; have d1 := kept hb43 d1; have x0 := kept hb43 x0; have x1 := kept hb43 x1; have hq := hq.below hb43; have q0 := kept hb43 q0; have q1 := kept hb43 q1; have hr := hr.below hb43; have r0 := kept hb43 r0; have r1 := kept hb43 r1; have hm := hm.below hb43; have m0 := kept hb43 m0; have m1 := kept hb43 m1; have ht := ht.below hb43; have t0 := kept hb43 t0; have t1 := kept hb43 t1; have h9 := h9.below hb43; have hN := hN.below hb43
          have sz43 : w42.heap.size ≤ w43.heap.size := hb43.size
          rw [HN1.out.2] at h10
          go_wp2_with fail
          first | (refine hK _ _ ⟨(by repeat (first | exact .refl _ _ | apply bwD | apply bwA | (refine bwS ?_ (by first | omega | simp <;> omega) _) | refine bwC ?_ (by assumption))), ?_⟩; clear hK K) | refine ⟨(by repeat (first | exact .refl _ _ | apply bwD | apply bwA | (refine bwS ?_ (by first | omega | simp <;> omega) _) | refine bwC ?_ (by assumption))), ?_⟩
          refine norm_K fun K hK => ?_
          change wpList _ _ _ [_, _, _, _, _, _] _ _
          go_wp2_with fail
          refine (hZ _ _ _ hs h10.hv).mono ?_; rintro e w44 ⟨v11, rfl, h11_, hb44⟩
          have hs := hs.below hb44; have hx := hx.below hb44; have d0 := kept hb44 d0; have d1 := kept hb44 d1; have x0 := kept hb44 x0; have x1 := kept hb44 x1; have hq := hq.below hb44; have q0 := kept hb44 q0; have q1 := kept hb44 q1; have hr := hr.below hb44; have r0 := kept hb44 r0; have r1 := kept hb44 r1; have hm := hm.below hb44; have m0 := kept hb44 m0; have m1 := kept hb44 m1; have ht := ht.below hb44; have t0 := kept hb44 t0; have t1 := kept hb44 t1; have h9 := h9.below hb44; have hN := hN.below hb44; have h10 := h10.below hb44
          have sz44 : w43.heap.size ≤ w44.heap.size := hb44.size
          have h11 := h11_.frh HQ3.out; clear h11_
          obtain ⟨d2, u2, us2, rfl, ⟨g2, k2_, rfl, q2⟩, hu2_, hne2⟩ := id h11; obtain ⟨g3, k3_, rfl, hq3_⟩ := id hu2_; clear hq3_ hu2_ q2
          have rc0 := hN.c0; have rc1 := hN.c1; have rf0 := hN.f0; have rf1 := hN.f1
          go_wp2_with fail
          first | (refine hK _ _ ⟨rfl, ?_⟩; clear hK K) | refine ⟨rfl, ?_⟩
          go_wp2_with fail
          go_meet
          case rel => exact ⟨w41.heap.size, _, _, rfl, rfl, by omega, (hN.set0 _).set1 _, ((h11.set_ (p := ⟨w41.heap.size, 0, none⟩) (show w41.heap.size < _ by omega) _).set_ (p := ⟨w41.heap.size, 1, none⟩) (show w41.heap.size < _ by omega) _).more (by omega), (by repeat (first | exact .refl _ _ | apply bwD | apply bwA | (refine bwS ?_ (by first | omega | simp <;> omega) _) | refine bwC ?_ (by assumption)))⟩
      · skip
        refine norm_K fun K hK => ?_
        change wpList _ _ _ [_] _ _
        go_wp2_with fail
        have hb41 : Below wq.heap.size wq (wq.alloc (.cells #[.slice none 0 0, .slice none 0 0] 31)) := (by repeat (first | exact .refl _ _ | apply bwD | apply bwA | (refine bwS ?_ (by first | omega | simp <;> omega) _) | refine bwC ?_ (by assumption)))
        have hs := hs.below hb41; have hx := hx.below hb41; have d0 := kept hb41 d0; have d1 := kept hb41 d1; have x0 := kept hb41 x0; have x1 := kept hb41 x1; have hq := hq.below hb41; have q0 := kept hb41 q0; have q1 := kept hb41 q1; have hr := hr.below hb41; have r0 := kept hb41 r0; have r1 := kept hb41 r1; have hm := hm.below hb41; have m0 := kept hb41 m0; have m1 := kept hb41 m1; have ht := ht.below hb41; have t0 := kept hb41 t0; have t1 := kept hb41 t1
        have hN : Bx (wq.alloc (.cells #[.slice none 0 0, .slice none 0 0] 31)) wq.heap.size (.slice none 0 0) (.slice none 0 0) := heap_alloc_new _ _
        have sz41 : wq.heap.size + 1 = (wq.alloc (.cells #[.slice none 0 0, .slice none 0 0] 31)).heap.size := by simp
        go_wp2_with fail
        obtain ⟨w41, hw_⟩ : ∃ x, x = (wq.alloc (.cells #[.slice none 0 0, .slice none 0 0] 31)) := ⟨_, rfl⟩
        rw [← hw_] at hb41 sz41 hs hx d0 d1 x0 x1 hq q0 q1 hr r0 r1 hm m0 m1 ht t0 t1 hN ⊢; clear hw_
        go_wp2_with fail
        first | (refine hK _ _ ⟨(by repeat (first | exact .refl _ _ | apply bwD | apply bwA | (refine bwS ?_ (by first | omega | simp <;> omega) _) | refine bwC ?_ (by assumption))), ?_⟩; clear hK K) | refine ⟨(by repeat (first | exact .refl _ _ | apply bwD | apply bwA | (refine bwS ?_ (by first | omega | simp <;> omega) _) | refine bwC ?_ (by assumption))), ?_⟩
        refine norm_K fun K hK => ?_
        change wpList _ _ _ [_] _ _
        go_wp2_with fail
        refine (sum9_c hd hs hx hX hx hX (by decide) (by decide)).mono ?_; rintro e w42 ⟨v9, rfl, h9, hb42⟩
        have hs := hs.below hb42; have hx := hx.below hb42; have d0 := kept hb42 d0; have d1 := kept hb42 d1; have x0 := kept hb42 x0; have x1 := kept hb42 x1; have hq := hq.below hb42; have q0 := kept hb42 q0; have q1 := kept hb42 q1; have hr := hr.below hb42; have r0 := kept hb42 r0; have r1 := kept hb42 r1; have hm := hm.below hb42; have m0 := kept hb42 m0; have m1 := kept hb42 m1; have ht := ht.below hb42; have t0 := kept hb42 t0; have t1 := kept hb42 t1; have hN := hN.below hb42
        have sz42 : w41.heap.size ≤ w42.heap.size := hb42.size
        rw [← HN1.out.1] at h9
        go_wp2_with fail
        first | (refine hK _ _ ⟨(by repeat (first | exact .refl _ _ | apply bwD | apply bwA | (refine bwS ?_ (by first | omega | simp <;> omega) _) | refine bwC ?_ (by assumption))), ?_⟩; clear hK K) | refine ⟨(by repeat (first | exact .refl _ _ | apply bwD | apply bwA | (refine bwS ?_ (by first | omega | simp <;> omega) _) | refine bwC ?_ (by assumption))), ?_⟩
        refine norm_K fun K hK => ?_
        change wpList _ _ _ [_] _ _
        go_wp2_with fail
        refine (sum9_c hd hs h9.hv iN hx hX (by omega) (by omega)).mono ?_; rintro e w43 ⟨v10, rfl, h10, hb43⟩
        have hs := hs.below hb43; have hx := hx.below hb43; have d0 := kept hb43 d0; have d1 := kept hb43 d1; have x0 := kept hb43 x0; have x1 := kept hb43 x1; have hq := hq.below hb43; have q0 := kept hb43 q0; have q1 := kept hb43 q1; have hr := hr.below hb43; have r0 := kept hb43 r0; have r1 := kept hb43 r1; have hm := hm.below hb43; have m0 := kept hb43 m0; have m1 := kept hb43 m1; have ht := ht.below hb43; have t0 := kept hb43 t0; have t1 := kept hb43 t1; have hN := hN.below hb43; have h9 := h9.below hb43
        have sz43 : w42.heap.size ≤ w43.heap.size := hb43.size
        rw [HN1.out.2] at h10
        go_wp2_with fail
        first | (refine hK _ _ ⟨(by repeat (first | exact .refl _ _ | apply bwD | apply bwA | (refine bwS ?_ (by first | omega | simp <;> omega) _) | refine bwC ?_ (by assumption))), ?_⟩; clear hK K) | refine ⟨(by repeat (first | exact .refl _ _ | apply bwD | apply bwA | (refine bwS ?_ (by first | omega | simp <;> omega) _) | refine bwC ?_ (by assumption))), ?_⟩
        refine norm_K fun K hK => ?_
        change wpList _ _ _ [_, _, _, _, _, _] _ _
        go_wp2_with fail
        refine (hZ _ _ _ hs h10.hv).mono ?_; rintro e w44 ⟨v11, rfl, h11_, hb44⟩
        have hs := hs.below hb44; have hx := hx.below hb44; have d0 := kept hb44 d0; have d1 := kept hb44 d1; have x0 := kept hb44 x0; have x1 := kept hb44 x1; have hq := hq.below hb44; have q0 := kept hb44 q0; have q1 := kept hb44 q1; have hr := hr.below hb44; have r0 := kept hb44 r0; have r1 := kept hb44 r1; have hm := hm.below hb44; have m0 := kept hb44 m0; have m1 := kept hb44 m1; have ht := ht.below hb44; have t0 := kept hb44 t0; have t1 := kept hb44 t1; have hN := hN.below hb44; have h9 := h9.below hb44; have h10 := h10.below hb44
        have sz44 : w43.heap.size ≤ w44.heap.size := hb44.size
        have h11 := h11_.frh HQ3.out; clear h11_
        obtain ⟨d2, u2, us2, rfl, ⟨g2, k2_, rfl, q2⟩, hu2_, hne2⟩ := id h11; obtain ⟨g3, k3_, rfl, hq3_⟩ := id hu2_; clear hq3_ hu2_ q2
        have rc0 := hN.c0; have rc1 := hN.c1; have rf0 := hN.f0; have rf1 := hN.f1
        go_wp2_with fail
        first | (refine hK _ _ ⟨rfl, ?_⟩; clear hK K) | refine ⟨rfl, ?_⟩
        go_wp2_with fail
        go_meet
        case rel => exact ⟨wq.heap.size, _, _, rfl, rfl, by omega, (hN.set0 _).set1 _, ((h11.set_ (p := ⟨wq.heap.size, 0, none⟩) (show wq.heap.size < _ by omega) _).set_ (p := ⟨wq.heap.size, 1, none⟩) (show wq.heap.size < _ by omega) _).more (by omega), (by repeat (first | exact .refl _ _ | apply bwD | apply bwA | (refine bwS ?_ (by first | omega | simp <;> omega) _) | refine bwC ?_ (by assumption)))⟩
    case' rest => skip
    obtain ⟨N0, dN, uN, rfl, rfl, hN0, hN, hF, hbC⟩ := hcut
    have hs := hs.below hbC; have hx := hx.below hbC; have d0 := kept hbC d0; have d1 := kept hbC d1; have x0 := kept hbC x0; have x1 := kept hbC x1; have hq := hq.below hbC; have q0 := kept hbC q0; have q1 := kept hbC q1; have hr := hr.below hbC; have r0 := kept hbC r0; have r1 := kept hbC r1; have hm := hm.below hbC; have m0 := kept hbC m0; have m1 := kept hbC m1; have ht := ht.below hbC; have t0 := kept hbC t0; have t1 := kept hbC t1
    obtain ⟨gf1, cf1, gf2, cf2, hfe⟩ := hF.shape
    cases hfe
    have n0 := hN.c0; have n1_ := hN.c1
    clear hN
    go_wp2_with fail
    refine (herm9_c hF.hv hm.hv Q_l.toHsz).mono ?_; rintro e w81 ⟨rfl, hb81⟩
    have hs := hs.below hb81; have hx := hx.below hb81; have d0 := kept hb81 d0; have d1 := kept hb81 d1; have x0 := kept hb81 x0; have x1 := kept hb81 x1; have hq := hq.below hb81; have q0 := kept hb81 q0; have q1 := kept hb81 q1; have hr := hr.below hb81; have r0 := kept hb81 r0; have r1 := kept hb81 r1; have hm := hm.below hb81; have m0 := kept hb81 m0; have m1 := kept hb81 m1; have ht := ht.below hb81; have t0 := kept hb81 t0; have t1 := kept hb81 t1; have hF := hF.below hb81; have n0 := kept hb81 n0; have n1_ := kept hb81 n1_
    go_wp2_with fail
    go_meet
    case rel => exact (by repeat (first | exact .refl _ _ | apply bwD | apply bwA | (refine bwS ?_ (by first | omega | simp <;> omega) _) | refine bwC ?_ (by assumption)))
  case' rest => skip
  have hs := hs.below hcut; have hx := hx.below hcut; have d0 := kept hcut d0; have d1 := kept hcut d1; have x0 := kept hcut x0; have x1 := kept hcut x1; have hq := hq.below hcut; have q0 := kept hcut q0; have q1 := kept hcut q1; have hr := hr.below hcut; have r0 := kept hcut r0; have r1 := kept hcut r1; have hm := hm.below hcut; have m0 := kept hcut m0; have m1 := kept hcut m1; have ht := ht.below hcut; have t0 := kept hcut t0; have t1 := kept hcut t1
  by_cases hk0 : k = 0
  case neg =>
    have hkb : (k == 0) = false := by simpa using hk0
    obtain rfl := P_N.out hk0
    go_wp2_with fail
    go_ret
    exact ⟨rfl, (by repeat (first | exact .refl _ _ | apply bwD | apply bwA | (refine bwS ?_ (by first | omega | simp <;> omega) _) | refine bwC ?_ (by assumption)))⟩
  subst hk0
  have hk1 : chkH p st [X] = 0 ∧ traceH p X ≠ 0 ∧ isPt p st X = true := by
    have e := HK.out.1
    unfold RIdempotentOf1 at e
    split at e
    · next h1 =>
      split at e
      · exact absurd e (by decide)
      · next h2 =>
        split at e
        · next h3 => exact ⟨h1, h2, h3⟩
        · exact absurd e (by decide)
    · next h1 => exact absurd e.symm h1
  obtain ⟨hk1, htr, pX⟩ := hk1
  obtain ⟨hd, hall⟩ := chkH_pos hk1
  have hX : isH p (sz st.length) X = true := by simp at hall; exact hall
  have h2p : 2 ≤ p := by have := hd.hp.lo; omega
  have hPJ : P = multH p X (invL p (traceH p X)) := HK.out.2.trans (if_pos HK.out.1.symm)
  have iP : isH p (sz st.length) P = true := by rw [hPJ]; exact multH_is (by omega) hX
  have zP := isH_hsz hd iP
  obtain ⟨j1, j2, j3⟩ := idem_norm hd hX htr pX
  rw [← hPJ] at j1 j2 j3
  have j4 : Q = RNormalPoint0 p st X := HM.out.2
  rw [← j4] at j2
  have hA := fun W v0 v1 (h0 : El W v0 st) (h1 : Hv W v1 P) => iIsPrimitive_c (w := W) (p0 := p) h0 hl6 h1 zP
  have cP : RIsPrimitive1 p st P = 0 := chkH_ok hd (by simp [iP])
  rw [show RIsPrimitive0 p st P = true by unfold RIsPrimitive0; rw [if_pos cP, j3], cP] at hA
  have hB := fun W v0 v1 (h0 : El W v0 st) (h1 : Hv W v1 P) => iNormalPoint_c (w := W) (p0 := p) h0 hl6 h1 zP
  rw [j1, j2] at hB
  clear hk1 htr pX hall hPJ j1 j2 j3 j4 cP HK HM P_N Q_N
  go_wp2_with fail
  refine (hA _ _ _ hs hq.hv).mono ?_; rintro e w121 ⟨rfl, hb121⟩
  have hs := hs.below hb121; have hx := hx.below hb121; have d0 := kept hb121 d0; have d1 := kept hb121 d1; have x0 := kept hb121 x0; have x1 := kept hb121 x1; have hq := hq.below hb121; have q0 := kept hb121 q0; have q1 := kept hb121 q1; have hr := hr.below hb121; have r0 := kept hb121 r0; have r1 := kept hb121 r1; have hm := hm.below hb121; have m0 := kept hb121 m0; have m1 := kept hb121 m1; have ht := ht.below hb121; have t0 := kept hb121 t0; have t1 := kept hb121 t1
  go_wp2_with fail
  refine (hB _ _ _ hs hq.hv).mono ?_; rintro e w122 ⟨vh11, rfl, h11, hb122⟩
  have hs := hs.below hb122; have hx := hx.below hb122; have d0 := kept hb122 d0; have d1 := kept hb122 d1; have x0 := kept hb122 x0; have x1 := kept hb122 x1; have hq := hq.below hb122; have q0 := kept hb122 q0; have q1 := kept hb122 q1; have hr := hr.below hb122; have r0 := kept hb122 r0; have r1 := kept hb122 r1; have hm := hm.below hb122; have m0 := kept hb122 m0; have m1 := kept hb122 m1; have ht := ht.below hb122; have t0 := kept hb122 t0; have t1 := kept hb122 t1
  obtain ⟨d_h11, u_h11, rfl, q_h11, r_h11⟩ := h11.hv; obtain ⟨ah11, ch11, rfl, _⟩ := q_h11.op; obtain ⟨bh11, eh11, rfl, _⟩ := id r_h11; clear q_h11 r_h11
  have hb123 : Below w122.heap.size w122 (w122.alloc (.cells #[.slice ah11 Q.dg.length ch11, .slice bh11 Q.up.length eh11] 31)) := (by repeat (first | exact .refl _ _ | apply bwD | apply bwA | (refine bwS ?_ (by first | omega | simp <;> omega) _) | refine bwC ?_ (by assumption)))
  have hs := hs.below hb123; have hx := hx.below hb123; have d0 := kept hb123 d0; have d1 := kept hb123 d1; have x0 := kept hb123 x0; have x1 := kept hb123 x1; have hq := hq.below hb123; have q0 := kept hb123 q0; have q1 := kept hb123 q1; have hr := hr.below hb123; have r0 := kept hb123 r0; have r1 := kept hb123 r1; have hm := hm.below hb123; have m0 := kept hb123 m0; have m1 := kept hb123 m1; have ht := ht.below hb123; have t0 := kept hb123 t0; have t1 := kept hb123 t1; have h11 := h11.below hb123
  have y10 : (w122.alloc (.cells #[.slice ah11 Q.dg.length ch11, .slice bh11 Q.up.length eh11] 31)).cell? ⟨w122.heap.size, 0, none⟩ = some (.slice ah11 Q.dg.length ch11) := by simp [go_sem]
  have y11 : (w122.alloc (.cells #[.slice ah11 Q.dg.length ch11, .slice bh11 Q.up.length eh11] 31)).cell? ⟨w122.heap.size, 1, none⟩ = some (.slice bh11 Q.up.length eh11) := by simp [go_sem]
  go_wp2_with fail
  refine (herm9_c h11.hv hm.hv Q_l.toHsz).mono ?_; rintro e w124 ⟨rfl, hb124⟩
  have hs := hs.below hb124; have hx := hx.below hb124; have d0 := kept hb124 d0; have d1 := kept hb124 d1; have x0 := kept hb124 x0; have x1 := kept hb124 x1; have hq := hq.below hb124; have q0 := kept hb124 q0; have q1 := kept hb124 q1; have hr := hr.below hb124; have r0 := kept hb124 r0; have r1 := kept hb124 r1; have hm := hm.below hb124; have m0 := kept hb124 m0; have m1 := kept hb124 m1; have ht := ht.below hb124; have t0 := kept hb124 t0; have t1 := kept hb124 t1; have h11 := h11.below hb124; have y10 := kept hb124 y10; have y11 := kept hb124 y11
  go_wp2_with fail
  go_ret
  exact ⟨rfl, (by repeat (first | exact .refl _ _ | apply bwD | apply bwA | (refine bwS ?_ (by first | omega | simp <;> omega) _) | refine bwC ?_ (by assumption)))⟩
end Go.Proofs.YtgcelfnjijhmkaaGreat
