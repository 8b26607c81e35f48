import Derived.Test.YtilgbekffbphgaaGreatJba
import Derived.Test.YtilgbekffbphgaaGreatJbp
import Derived.Test.YtilgbekffbphgaaGreatJbv
import Derived.Test.YtilgbekffbphgaaGreatJbx
import Derived.Test.YtilgbekffbphgaaGreatJay
import Derived.Test.YtilgbekffbphgaaGreatJbj
namespace Go.Proofs.YtilgbekffbphgaaGreat
open Go.RowKit
theorem sumL_le : ∀ {M : List (List Int)}, (∀ r ∈ M, r.length <= 16) -> sumL M <= M.length * 16
 | [], _ => Nat.zero_le _
 | x :: M, h => by
  have h1 := h x (by simp)
  have h2 := sumL_le (M := M) (fun r hr => h r (by simp [hr]))
  rw [List.length_cons]
  show x.length + sumL M <= _
  omega
set_option maxHeartbeats 32000000 in
set_option maxRecDepth 100000 in
theorem law_JordanMaps {a : Option Addr} {n c : Nat} {w : World} (hn : n <= 9223372036854775807) (hco : n <= 4096 -> Co w w.heap.size (.slice a n c) n) :
  Calls Tryz.prog 3 #[.slice a n c] w fun e w' => e = .returned (.bool true) /\ Below w.heap.size w w' := by
 by_cases hbig : 4096 < n
 ·go_enter Tryz.func3, Tryz.ntmps3
  go_wp2_with fail
  refine (big_c hn).mono ?_; rintro e w1 ⟨rfl, rfl⟩
  rw [decide_eq_true hbig]
  go_wp2_with fail
  go_ret
  exact ⟨rfl, Below.refl _ _⟩
 have hc := hco (by omega)
 have hbf : decide (4096 < n) = false := decide_eq_false hbig
 have hcw := hc
 clear hco hbig
 go_enter Tryz.func3, Tryz.ntmps3
 go_wp2_with fail
 refine (big_c hn).mono ?_; rintro e w0 ⟨rfl, rfl⟩
 rw [hbf]
 go_wp2_with fail
 refine (sdrawme_c hc).mono ?_; rintro e w1 ⟨p, v, l, x, st, M, X, rfl, hp1, hp2, hl5, hE, hR, hR16, h16, hV0, hz0, hb1⟩
 obtain ⟨av, cv, rfl⟩ := hE.shape_
 obtain ⟨al, cl, rfl⟩ := hR.shape
 obtain ⟨ax, cx, b_x, ex, rfl⟩ := hV0.shape
 have hs := hE.1; have hm := hR.re; have hx := hV0.hv
 clear hE hR hV0
 have hl6 : st.length <= 1048576 := by omega
 have hMs : Msz M := ⟨by omega, fun r h => by have := h16 r h; omega, by have := sumL_le h16; omega⟩
 have hI := fun W v0 v1 v2 (h0 : El W v0 st) (h1 : Re W v1 M) (h2 : Hv W v2 X) => iMapEntries_c (w := W) (p0 := p) h0 hl6 h1 hMs h2 hz0
 have hS := fun W v0 v1 v2 (h0 : El W v0 st) (h1 : Re W v1 M) (h2 : Hv W v2 X) => sMapEntries_c (w := W) (p0 := p) h0 hl6 h1 hMs h2 hz0
 have hyl := RMapEntries0_len p st M X hl6 hMs hz0
 obtain ⟨k, hk⟩ : ∃ k, k = RMapEntries1 p st M X := ⟨_, rfl⟩; obtain ⟨P, hP⟩ : ∃ P, P = RMapEntries0 p st M X := ⟨_, rfl⟩
 simp only [<- hk, <- hP] at hI hS hyl
 have HK := Lib.hid (And.intro hk hP); clear hk hP hR16 h16; have HMS := Lib.hid hMs; clear hMs
 have hb22 : Below w1.heap.size w1 (w1.alloc (.cells #[.int .i64 p, .slice av st.length cv] 26)) := bwT
 have hs := hs.below hb22; have hm := hm.below hb22; have hx := hx.below hb22
 have d0 : (w1.alloc (.cells #[.int .i64 p, .slice av st.length cv] 26)).cell? ⟨w1.heap.size, 0, none⟩ = some (.int .i64 p) := by simp [go_sem]
 have d1 : (w1.alloc (.cells #[.int .i64 p, .slice av st.length cv] 26)).cell? ⟨w1.heap.size, 1, none⟩ = some (.slice av st.length cv) := by simp [go_sem]
 have hb23 : Below (w1.alloc (.cells #[.int .i64 p, .slice av st.length cv] 26)).heap.size (w1.alloc (.cells #[.int .i64 p, .slice av st.length cv] 26)) ((w1.alloc (.cells #[.int .i64 p, .slice av st.length cv] 26)).alloc (.cells #[.slice ax X.dg.length cx, .slice b_x X.up.length ex] 29)) := bwT
 have hs := hs.below hb23; have hm := hm.below hb23; have hx := hx.below hb23; have d0 := kept hb23 d0; have d1 := kept hb23 d1
 have x0 : ((w1.alloc (.cells #[.int .i64 p, .slice av st.length cv] 26)).alloc (.cells #[.slice ax X.dg.length cx, .slice b_x X.up.length ex] 29)).cell? ⟨w1.heap.size + 1, 0, none⟩ = some (.slice ax X.dg.length cx) := by simp [go_sem]
 have x1 : ((w1.alloc (.cells #[.int .i64 p, .slice av st.length cv] 26)).alloc (.cells #[.slice ax X.dg.length cx, .slice b_x X.up.length ex] 29)).cell? ⟨w1.heap.size + 1, 1, none⟩ = some (.slice b_x X.up.length ex) := by simp [go_sem]
 go_wp2_with fail
 refine (hI _ _ _ _ hs hm hx).mono ?_; rintro e w24 ⟨vhq, rfl, hq, hb24⟩
 have hs := hs.below hb24; have hm := hm.below hb24; have hx := hx.below hb24; have d0 := kept hb24 d0; have d1 := kept hb24 d1; have x0 := kept hb24 x0; have x1 := kept hb24 x1
 obtain ⟨d_hq, u_hq, rfl, q_hq, r_hq⟩ := hq.hv; obtain ⟨ahq, chq, rfl, _⟩ := q_hq.op; obtain ⟨bhq, ehq, rfl, _⟩ := id r_hq; clear q_hq r_hq
 have hb25 : Below w24.heap.size w24 (w24.alloc (.cells #[.slice ahq P.dg.length chq, .slice bhq P.up.length ehq] 29)) := bwT
 have hs := hs.below hb25; have hm := hm.below hb25; have hx := hx.below hb25; have d0 := kept hb25 d0; have d1 := kept hb25 d1; have x0 := kept hb25 x0; have x1 := kept hb25 x1; have hq := hq.below hb25
 have q0 : (w24.alloc (.cells #[.slice ahq P.dg.length chq, .slice bhq P.up.length ehq] 29)).cell? ⟨w24.heap.size, 0, none⟩ = some (.slice ahq P.dg.length chq) := by simp [go_sem]
 have q1 : (w24.alloc (.cells #[.slice ahq P.dg.length chq, .slice bhq P.up.length ehq] 29)).cell? ⟨w24.heap.size, 1, none⟩ = some (.slice bhq P.up.length ehq) := by simp [go_sem]
 go_wp2_with fail
 refine (hS _ _ _ _ hs hm hx).mono ?_; rintro e w26 ⟨vhr, rfl, hr, hb26⟩
 have hs := hs.below hb26; have hm := hm.below hb26; have hx := hx.below hb26; have d0 := kept hb26 d0; have d1 := kept hb26 d1; have x0 := kept hb26 x0; have x1 := kept hb26 x1; have hq := hq.below hb26; have q0 := kept hb26 q0; have q1 := kept hb26 q1
 obtain ⟨d_hr, u_hr, rfl, q_hr, r_hr⟩ := hr.hv; obtain ⟨ahr, chr, rfl, _⟩ := q_hr.op; obtain ⟨bhr, ehr, rfl, _⟩ := id r_hr; clear q_hr r_hr
 have hb27 : Below w26.heap.size w26 (w26.alloc (.cells #[.slice ahr P.dg.length chr, .slice bhr P.up.length ehr] 29)) := bwT
 have hs := hs.below hb27; have hm := hm.below hb27; have hx := hx.below hb27; have d0 := kept hb27 d0; have d1 := kept hb27 d1; have x0 := kept hb27 x0; have x1 := kept hb27 x1; have hq := hq.below hb27; have q0 := kept hb27 q0; have q1 := kept hb27 q1; have hr := hr.below hb27
 have r0 : (w26.alloc (.cells #[.slice ahr P.dg.length chr, .slice bhr P.up.length ehr] 29)).cell? ⟨w26.heap.size, 0, none⟩ = some (.slice ahr P.dg.length chr) := by simp [go_sem]
 have r1 : (w26.alloc (.cells #[.slice ahr P.dg.length chr, .slice bhr P.up.length ehr] 29)).cell? ⟨w26.heap.size, 1, none⟩ = some (.slice bhr P.up.length ehr) := by simp [go_sem]
 go_wp2_with fail
 refine (herm9_c hq.hv hr.hv hyl.toHsz).mono ?_; rintro e w28 ⟨rfl, hb28⟩
 have hs := hs.below hb28; have hm := hm.below hb28; have hx := hx.below hb28; have d0 := kept hb28 d0; have d1 := kept hb28 d1; have x0 := kept hb28 x0; have x1 := kept hb28 x1; have hq := hq.below hb28; have q0 := kept hb28 q0; have q1 := kept hb28 q1; have hr := hr.below hb28; have r0 := kept hb28 r0; have r1 := kept hb28 r1
 clear hI hS
 go_wp2_with fail
 generalize hwE : w28 = wE at *
 clear hwE
 have hbE : Below w.heap.size w wE := bwT
 have hcJ := (hcw.below hbE).wide (q' := wE.heap.size) (by have := hbE.size; omega)
 clear hbE
 go_wp2_with fail
 refine (sdrawtr_c hcJ).mono ?_; rintro e w21 ⟨p2, k2, v2, y, st2, Y, rfl, hp12, hp22, hl52, hE2, hV2, hz2, hk21, hk22, hb21⟩
 have hs := hs.below hb21; have hm := hm.below hb21; have hx := hx.below hb21; have d0 := kept hb21 d0; have d1 := kept hb21 d1; have x0 := kept hb21 x0; have x1 := kept hb21 x1; have hq := hq.below hb21; have q0 := kept hb21 q0; have q1 := kept hb21 q1
 clear hcJ
 obtain ⟨av2, cv2, rfl⟩ := hE2.shape_
 obtain ⟨ay, cy, b_y, ey, rfl⟩ := hV2.shape
 have hs2 := hE2.1; have hy := hV2.hv
 clear hE2 hV2
 have hl62 : st2.length <= 1048576 := by omega
 have hI := fun W v0 v1 (h0 : El W v0 st2) (h1 : Hv W v1 Y) => iTurnRows_c (w := W) (p0 := p2) (n2 := k2) h0 hl62 h1 hz2 (by omega) (by omega)
 have hS := fun W v0 v1 (h0 : El W v0 st2) (h1 : Hv W v1 Y) => sTurnRows_c (w := W) (p0 := p2) (n2 := k2) h0 hl62 h1 hz2 (by omega) (by omega)
 have hyl2 := RTurnRows0_len p2 st2 Y k2 hl62 hz2
 have hno : RTurnRows1 p2 st2 Y k2 ≠ 0 -> RTurnRows0 p2 st2 Y k2 = ⟨[], []⟩ := fun h => if_neg h
 obtain ⟨m, hm_⟩ : ∃ m, m = RTurnRows1 p2 st2 Y k2 := ⟨_, rfl⟩; obtain ⟨Q, hQ⟩ : ∃ Q, Q = RTurnRows0 p2 st2 Y k2 := ⟨_, rfl⟩
 simp only [<- hm_, <- hQ] at hI hS hyl2 hno
 have HM := Lib.hid (And.intro hm_ hQ); clear hm_ hQ; have HNO := Lib.hid hno; clear hno
 have hb22 : Below w21.heap.size w21 (w21.alloc (.cells #[.int .i64 p2, .slice av2 st2.length cv2] 26)) := bwT
 have hs := hs.below hb22; have hm := hm.below hb22; have hx := hx.below hb22; have d0 := kept hb22 d0; have d1 := kept hb22 d1; have x0 := kept hb22 x0; have x1 := kept hb22 x1; have hq := hq.below hb22; have q0 := kept hb22 q0; have q1 := kept hb22 q1; have hs2 := hs2.below hb22; have hy := hy.below hb22
 have e0 : (w21.alloc (.cells #[.int .i64 p2, .slice av2 st2.length cv2] 26)).cell? ⟨w21.heap.size, 0, none⟩ = some (.int .i64 p2) := by simp [go_sem]
 have e1 : (w21.alloc (.cells #[.int .i64 p2, .slice av2 st2.length cv2] 26)).cell? ⟨w21.heap.size, 1, none⟩ = some (.slice av2 st2.length cv2) := by simp [go_sem]
 have hb23 : Below (w21.alloc (.cells #[.int .i64 p2, .slice av2 st2.length cv2] 26)).heap.size (w21.alloc (.cells #[.int .i64 p2, .slice av2 st2.length cv2] 26)) ((w21.alloc (.cells #[.int .i64 p2, .slice av2 st2.length cv2] 26)).alloc (.cells #[.slice ay Y.dg.length cy, .slice b_y Y.up.length ey] 29)) := bwT
 have hs := hs.below hb23; have hm := hm.below hb23; have hx := hx.below hb23; have d0 := kept hb23 d0; have d1 := kept hb23 d1; have x0 := kept hb23 x0; have x1 := kept hb23 x1; have hq := hq.below hb23; have q0 := kept hb23 q0; have q1 := kept hb23 q1; have hs2 := hs2.below hb23; have hy := hy.below hb23; have e0 := kept hb23 e0; have e1 := kept hb23 e1
 have y0 : ((w21.alloc (.cells #[.int .i64 p2, .slice av2 st2.length cv2] 26)).alloc (.cells #[.slice ay Y.dg.length cy, .slice b_y Y.up.length ey] 29)).cell? ⟨w21.heap.size + 1, 0, none⟩ = some (.slice ay Y.dg.length cy) := by simp [go_sem]
 have y1 : ((w21.alloc (.cells #[.int .i64 p2, .slice av2 st2.length cv2] 26)).alloc (.cells #[.slice ay Y.dg.length cy, .slice b_y Y.up.length ey] 29)).cell? ⟨w21.heap.size + 1, 1, none⟩ = some (.slice b_y Y.up.length ey) := by simp [go_sem]
 go_wp2_with fail
 refine (hI _ _ _ hs2 hy).mono ?_; rintro e w24 ⟨vhu, rfl, hu, hb24⟩
 have hs := hs.below hb24; have hm := hm.below hb24; have hx := hx.below hb24; have d0 := kept hb24 d0; have d1 := kept hb24 d1; have x0 := kept hb24 x0; have x1 := kept hb24 x1; have hq := hq.below hb24; have q0 := kept hb24 q0; have q1 := kept hb24 q1; have hs2 := hs2.below hb24; have hy := hy.below hb24; have e0 := kept hb24 e0; have e1 := kept hb24 e1; have y0 := kept hb24 y0; have y1 := kept hb24 y1
 obtain ⟨d_hu, u_hu, rfl, q_hu, r_hu⟩ := hu.hv; obtain ⟨ahu, chu, rfl, _⟩ := q_hu.op; obtain ⟨bhu, ehu, rfl, _⟩ := id r_hu; clear q_hu r_hu
 have hb25 : Below w24.heap.size w24 (w24.alloc (.cells #[.slice ahu Q.dg.length chu, .slice bhu Q.up.length ehu] 29)) := bwT
 have hs := hs.below hb25; have hm := hm.below hb25; have hx := hx.below hb25; have d0 := kept hb25 d0; have d1 := kept hb25 d1; have x0 := kept hb25 x0; have x1 := kept hb25 x1; have hq := hq.below hb25; have q0 := kept hb25 q0; have q1 := kept hb25 q1; have hs2 := hs2.below hb25; have hy := hy.below hb25; have e0 := kept hb25 e0; have e1 := kept hb25 e1; have y0 := kept hb25 y0; have y1 := kept hb25 y1; have hu := hu.below hb25
 have u0 : (w24.alloc (.cells #[.slice ahu Q.dg.length chu, .slice bhu Q.up.length ehu] 29)).cell? ⟨w24.heap.size, 0, none⟩ = some (.slice ahu Q.dg.length chu) := by simp [go_sem]
 have u1 : (w24.alloc (.cells #[.slice ahu Q.dg.length chu, .slice bhu Q.up.length ehu] 29)).cell? ⟨w24.heap.size, 1, none⟩ = some (.slice bhu Q.up.length ehu) := by simp [go_sem]
 go_wp2_with fail
 refine (hS _ _ _ hs2 hy).mono ?_; rintro e w26 ⟨vhw_, rfl, hw_, hb26⟩
 have hs := hs.below hb26; have hm := hm.below hb26; have hx := hx.below hb26; have d0 := kept hb26 d0; have d1 := kept hb26 d1; have x0 := kept hb26 x0; have x1 := kept hb26 x1; have hq := hq.below hb26; have q0 := kept hb26 q0; have q1 := kept hb26 q1; have hs2 := hs2.below hb26; have hy := hy.below hb26; have e0 := kept hb26 e0; have e1 := kept hb26 e1; have y0 := kept hb26 y0; have y1 := kept hb26 y1; have hu := hu.below hb26; have u0 := kept hb26 u0; have u1 := kept hb26 u1
 obtain ⟨d_hw_, u_hw_, rfl, q_hw_, r_hw_⟩ := hw_.hv; obtain ⟨ahw_, chw_, rfl, _⟩ := q_hw_.op; obtain ⟨bhw_, ehw_, rfl, _⟩ := id r_hw_; clear q_hw_ r_hw_
 have hb27 : Below w26.heap.size w26 (w26.alloc (.cells #[.slice ahw_ Q.dg.length chw_, .slice bhw_ Q.up.length ehw_] 29)) := bwT
 have hs := hs.below hb27; have hm := hm.below hb27; have hx := hx.below hb27; have d0 := kept hb27 d0; have d1 := kept hb27 d1; have x0 := kept hb27 x0; have x1 := kept hb27 x1; have hq := hq.below hb27; have q0 := kept hb27 q0; have q1 := kept hb27 q1; have hs2 := hs2.below hb27; have hy := hy.below hb27; have e0 := kept hb27 e0; have e1 := kept hb27 e1; have y0 := kept hb27 y0; have y1 := kept hb27 y1; have hu := hu.below hb27; have u0 := kept hb27 u0; have u1 := kept hb27 u1; have hw_ := hw_.below hb27
 have t0 : (w26.alloc (.cells #[.slice ahw_ Q.dg.length chw_, .slice bhw_ Q.up.length ehw_] 29)).cell? ⟨w26.heap.size, 0, none⟩ = some (.slice ahw_ Q.dg.length chw_) := by simp [go_sem]
 have t1 : (w26.alloc (.cells #[.slice ahw_ Q.dg.length chw_, .slice bhw_ Q.up.length ehw_] 29)).cell? ⟨w26.heap.size, 1, none⟩ = some (.slice bhw_ Q.up.length ehw_) := by simp [go_sem]
 go_wp2_with fail
 refine (herm9_c hu.hv hw_.hv hyl2.toHsz).mono ?_; rintro e w28 ⟨rfl, hb28⟩
 have hs := hs.below hb28; have hm := hm.below hb28; have hx := hx.below hb28; have d0 := kept hb28 d0; have d1 := kept hb28 d1; have x0 := kept hb28 x0; have x1 := kept hb28 x1; have hq := hq.below hb28; have q0 := kept hb28 q0; have q1 := kept hb28 q1; have hs2 := hs2.below hb28; have hy := hy.below hb28; have e0 := kept hb28 e0; have e1 := kept hb28 e1; have y0 := kept hb28 y0; have y1 := kept hb28 y1; have hu := hu.below hb28; have u0 := kept hb28 u0; have u1 := kept hb28 u1; have hw_ := hw_.below hb28; have t0 := kept hb28 t0; have t1 := kept hb28 t1
 clear hI hS
 go_upto_if 96 with fail
 generalize hwFF : w28 = wF at *
 clear hwFF
 have hbF : Below w.heap.size w wF := bwT
 go_cut [] (fun wx => Below wF.heap.size wF wx)
 case first =>
  as_aux_lemma =>
   clear HM HNO hyl2 hl62 hz2 hl52 hp12 hp22 hk21 hk22 hs2 hy e0 e1 y0 y1 hu u0 u1
   by_cases hk0 : k = 0
   case neg =>
    have hkb : (k == 0) = false := by simpa using hk0
    go_wp2_with fail
    go_meet
    case rel => exact bwT
   subst hk0
   obtain ⟨hd, hX, hMb, hau⟩ := map_pos (show RMapEntries1 p st M X = 0 from HK.out.1.symm)
   have h2p : 2 <= p := by have := hd.hp.lo; omega
   have hPJ : P = mapH p M X := HK.out.2.trans (if_pos HK.out.1.symm)
   have iP : isH p (sz st.length) P = true := by rw [hPJ]; exact mapH_is (by omega) hMb hX
   have zP := isH_hsz hd iP; have hZX := isH_hsz hd hX
   have hA := aut_p hd hMb hau
   have HA := Lib.hid hA
   clear HK hyl
   have iS : isH p (sz st.length) (jordanH p st X X) = true := jordanH_is h2p hX hX
   have zS := isH_hsz hd iS
   obtain ⟨S, hS_⟩ : ∃ z_, z_ = jordanH p st X X := ⟨_, rfl⟩
   simp only [<- hS_] at iS zS
   have HS := Lib.hid hS_; clear hS_
   have iT : isH p (sz st.length) (jordanH p st P P) = true := jordanH_is h2p iP iP
   have zT := isH_hsz hd iT
   obtain ⟨T, hT_⟩ : ∃ z_, z_ = jordanH p st P P := ⟨_, rfl⟩
   simp only [<- hT_] at iT zT
   have HT := Lib.hid hT_; clear hT_
   obtain ⟨hy1_, hy2_⟩ := map_yes hd iS hMb hau
   have e4 : RMapEntries0 p st M S = T := by rw [hy2_, HT.out, hPJ, HS.out]; exact map_jor hA h2p hX hX
   have hJ := fun W v0 v1 v2 (h0 : El W v0 st) (h1 : Re W v1 M) (h2 : Hv W v2 S) => iMapEntries_c (w := W) (p0 := p) h0 hl6 h1 HMS.out h2 zS
   rw [e4, hy1_] at hJ
   have hT3 : T.dg.length = 3 := (isH_parts iT).1
   have HT3 := Lib.hid hT3; clear hT3
   obtain ⟨t1, ht1⟩ : ∃ t, t = traceH p X := ⟨_, rfl⟩; obtain ⟨t2, ht2⟩ : ∃ t, t = traceH p (adjH p st X) := ⟨_, rfl⟩; obtain ⟨t3, ht3⟩ : ∃ t, t = detH p st X := ⟨_, rfl⟩
   have f1 : RCharacteristicOf0 p st X = [t1, t2, t3] := by rw [ht1, ht2, ht3]; exact if_pos (chkH_ok hd (by simp [hX]))
   have f2 : RCharacteristicOf0 p st P = [t1, t2, t3] := by
    have e : RCharacteristicOf0 p st P = [traceH p P, traceH p (adjH p st P), detH p st P] := if_pos (chkH_ok hd (by simp [iP]))
    rw [e, hPJ, map_trace, map_adj hA hX, map_det hA h2p hX, ht1, ht2, ht3]
   have hG := fun W v0 v1 (h0 : El W v0 st) (h1 : Hv W v1 X) => iCharacteristicOf_c (w := W) (p0 := p) h0 hl6 h1 hZX
   have hH := fun W v0 v1 (h0 : El W v0 st) (h1 : Hv W v1 P) => iCharacteristicOf_c (w := W) (p0 := p) h0 hl6 h1 zP
   rw [f1, show RCharacteristicOf1 p st X = 0 from chkH_ok hd (by simp [hX])] at hG
   rw [f2, show RCharacteristicOf1 p st P = 0 from chkH_ok hd (by simp [iP])] at hH
   clear f1 f2 ht1 ht2 ht3 e4 hy1_ hy2_ hA hPJ hMb hau HMS
   go_upto_region 14 with fail
   generalize hwG : wF = wG at *
   clear hwG
   go_cut [17, 18] (fun s_ e_ wx => ∃ N d u, s_ = .pointer (some ⟨N, 0, none⟩) /\ e_ = .int .i64 0 /\ wG.heap.size <= N /\ Bx wx N d u /\ FrH wx wG.heap.size (.agg #[d, u]) (T) /\ Below wG.heap.size wG wx)
   case first =>
    as_aux_lemma =>
     refine region_tq [(0, 1), (1, 0), (2, 1), (3, 1), (4, 1)] (.two 5 5 (.two 6 5 (.lin [(false, [(7, 0), (8, 0), (9, 0), (10, 5)]), (false, [(11, 4), (12, 0)])]) 10 5 (.lin [(false, [(6, 4), (7, 0), (8, 0), (9, 0), (11, 4), (12, 0)])])) 10 5 (.lin [(false, [(5, 5)]), (false, [(6, 4), (7, 0), (8, 0), (9, 0), (11, 4), (12, 0)])])) (by kernel_rfl) ?_
     refine norm_K fun K hK => ?_
     change wpList _ _ _ [_, _, _, _, _] _ _
     go_wp2_with fail
     have hbq : Below wG.heap.size wG wG.drew := bwT
     have hs := hs.below hbq; have hm := hm.below hbq; have hx := hx.below hbq; have d0 := kept hbq d0; have d1 := kept hbq d1; have x0 := kept hbq x0; have x1 := kept hbq x1; have hq := hq.below hbq; have q0 := kept hbq q0; have q1 := kept hbq q1
     have szq : wG.heap.size = wG.drew.heap.size := rfl
     generalize wG.drew = wq at *
     refine hK _ _ ?_; clear hK K
     refine ⟨?_, ?_⟩
     ·skip
      refine norm_K fun K hK => ?_
      change wpList _ _ _ [_] _ _
      go_wp2_with fail
      refine (jordan9_c hd hs hx hX hx hX).mono ?_; rintro e w41 ⟨v9, rfl, h9, hb41⟩
      have hs := hs.below hb41; have hm := hm.below hb41; have hx := hx.below hb41; have d0 := kept hb41 d0; have d1 := kept hb41 d1; have x0 := kept hb41 x0; have x1 := kept hb41 x1; have hq := hq.below hb41; have q0 := kept hb41 q0; have q1 := kept hb41 q1
      have sz41 : wq.heap.size <= w41.heap.size := hb41.size
      rw [<- HS.out] at h9
      go_wp2_with fail
      first | (refine hK _ _ ⟨bwT, ?_⟩; clear hK K) | refine ⟨bwT, ?_⟩
      refine ⟨?_, ?_⟩
      ·skip
       refine norm_K fun K hK => ?_
       change wpList _ _ _ [_] _ _
       go_wp2_with fail
       refine (hJ _ _ _ _ hs hm h9.hv).mono ?_; rintro e w42 ⟨v11, rfl, h11_, hb42⟩
       have hs := hs.below hb42; have hm := hm.below hb42; have hx := hx.below hb42; have d0 := kept hb42 d0; have d1 := kept hb42 d1; have x0 := kept hb42 x0; have x1 := kept hb42 x1; have hq := hq.below hb42; have q0 := kept hb42 q0; have q1 := kept hb42 q1; have h9 := h9.below hb42
       have sz42 : w41.heap.size <= w42.heap.size := hb42.size
       have h11 := h11_.frh HT3.out; clear h11_
       obtain ⟨d2, u2, us2, rfl, ⟨g2, k2_, rfl, q2⟩, hu2_, hne2⟩ := id h11; obtain ⟨g3, k3_, rfl, hq3_⟩ := id hu2_; clear hq3_ hu2_ q2
       go_wp2_with fail
       first | (refine hK _ _ ⟨bwT, ?_⟩; clear hK K) | refine ⟨bwT, ?_⟩
       refine norm_K fun K hK => ?_
       change wpList _ _ _ [_, _, _, _] _ _
       go_wp2_with fail
       have hb43 : Below w42.heap.size w42 (w42.alloc (.cells #[.slice none 0 0, .slice none 0 0] 29)) := bwT
       have h11A := h11; have hbA := hb43
       have hs := hs.below hb43; have hm := hm.below hb43; have hx := hx.below hb43; have d0 := kept hb43 d0; have d1 := kept hb43 d1; have x0 := kept hb43 x0; have x1 := kept hb43 x1; have hq := hq.below hb43; have q0 := kept hb43 q0; have q1 := kept hb43 q1; have h9 := h9.below hb43; have h11 := h11.below hb43
       have hN : Bx (w42.alloc (.cells #[.slice none 0 0, .slice none 0 0] 29)) w42.heap.size (.slice none 0 0) (.slice none 0 0) := heap_alloc_new _ _
       have sz43 : w42.heap.size + 1 = (w42.alloc (.cells #[.slice none 0 0, .slice none 0 0] 29)).heap.size := by simp
       go_wp2_with fail
       obtain ⟨w43, hw_⟩ : ∃ x, x = (w42.alloc (.cells #[.slice none 0 0, .slice none 0 0] 29)) := ⟨_, rfl⟩
       rw [<- hw_] at hb43 sz43 hs hm hx d0 d1 x0 x1 hq q0 q1 h9 h11 hN hbA ⊢; clear hw_
       go_wp2_with fail
       first | (refine hK _ _ ⟨bwT, ?_⟩; clear hK K) | refine ⟨bwT, ?_⟩
       refine norm_K fun K hK => ?_
       change wpList _ _ _ [_, _] _ _
       have rc0 := hN.c0; have rc1 := hN.c1; have rf0 := hN.f0; have rf1 := hN.f1
       go_wp2_with fail
       first | (refine hK _ _ ⟨rfl, ?_⟩; clear hK K) | refine ⟨rfl, ?_⟩
       go_wp2_with fail
       go_meet
       case rel => exact ⟨w42.heap.size, _, _, rfl, rfl, by omega, (hN.set0 _).set1 _, (h11A.below (bwS (p := ⟨w42.heap.size, 1, none⟩) (bwS (p := ⟨w42.heap.size, 0, none⟩) hbA (Nat.le_refl _) _) (Nat.le_refl _) _)).more (by omega), bwT⟩
      ·skip
       refine norm_K fun K hK => ?_
       change wpList _ _ _ [_] _ _
       go_wp2_with fail
       have hb42 : Below w41.heap.size w41 (w41.alloc (.cells #[.slice none 0 0, .slice none 0 0] 29)) := bwT
       have hs := hs.below hb42; have hm := hm.below hb42; have hx := hx.below hb42; have d0 := kept hb42 d0; have d1 := kept hb42 d1; have x0 := kept hb42 x0; have x1 := kept hb42 x1; have hq := hq.below hb42; have q0 := kept hb42 q0; have q1 := kept hb42 q1; have h9 := h9.below hb42
       have hN : Bx (w41.alloc (.cells #[.slice none 0 0, .slice none 0 0] 29)) w41.heap.size (.slice none 0 0) (.slice none 0 0) := heap_alloc_new _ _
       have sz42 : w41.heap.size + 1 = (w41.alloc (.cells #[.slice none 0 0, .slice none 0 0] 29)).heap.size := by simp
       go_wp2_with fail
       obtain ⟨w42, hw_⟩ : ∃ x, x = (w41.alloc (.cells #[.slice none 0 0, .slice none 0 0] 29)) := ⟨_, rfl⟩
       rw [<- hw_] at hb42 sz42 hs hm hx d0 d1 x0 x1 hq q0 q1 h9 hN ⊢; clear hw_
       go_wp2_with fail
       first | (refine hK _ _ ⟨bwT, ?_⟩; clear hK K) | refine ⟨bwT, ?_⟩
       refine norm_K fun K hK => ?_
       change wpList _ _ _ [_, _, _, _, _, _] _ _
       go_wp2_with fail
       refine (hJ _ _ _ _ hs hm h9.hv).mono ?_; rintro e w43 ⟨v11, rfl, h11_, hb43⟩
       have hs := hs.below hb43; have hm := hm.below hb43; have hx := hx.below hb43; have d0 := kept hb43 d0; have d1 := kept hb43 d1; have x0 := kept hb43 x0; have x1 := kept hb43 x1; have hq := hq.below hb43; have q0 := kept hb43 q0; have q1 := kept hb43 q1; have h9 := h9.below hb43; have hN := hN.below hb43
       have sz43 : w42.heap.size <= w43.heap.size := hb43.size
       have h11 := h11_.frh HT3.out; clear h11_
       obtain ⟨d2, u2, us2, rfl, ⟨g2, k2_, rfl, q2⟩, hu2_, hne2⟩ := id h11; obtain ⟨g3, k3_, rfl, hq3_⟩ := id hu2_; clear hq3_ hu2_ q2
       have rc0 := hN.c0; have rc1 := hN.c1; have rf0 := hN.f0; have rf1 := hN.f1
       go_wp2_with fail
       first | (refine hK _ _ ⟨rfl, ?_⟩; clear hK K) | refine ⟨rfl, ?_⟩
       go_wp2_with fail
       go_meet
       case rel => exact ⟨w41.heap.size, _, _, rfl, rfl, by omega, (hN.set0 _).set1 _, ((h11.set_ (p := ⟨w41.heap.size, 0, none⟩) (show w41.heap.size < _ by omega) _).set_ (p := ⟨w41.heap.size, 1, none⟩) (show w41.heap.size < _ by omega) _).more (by omega), bwT⟩
     ·skip
      refine norm_K fun K hK => ?_
      change wpList _ _ _ [_] _ _
      go_wp2_with fail
      have hb41 : Below wq.heap.size wq (wq.alloc (.cells #[.slice none 0 0, .slice none 0 0] 29)) := bwT
      have hs := hs.below hb41; have hm := hm.below hb41; have hx := hx.below hb41; have d0 := kept hb41 d0; have d1 := kept hb41 d1; have x0 := kept hb41 x0; have x1 := kept hb41 x1; have hq := hq.below hb41; have q0 := kept hb41 q0; have q1 := kept hb41 q1
      have hN : Bx (wq.alloc (.cells #[.slice none 0 0, .slice none 0 0] 29)) wq.heap.size (.slice none 0 0) (.slice none 0 0) := heap_alloc_new _ _
      have sz41 : wq.heap.size + 1 = (wq.alloc (.cells #[.slice none 0 0, .slice none 0 0] 29)).heap.size := by simp
      go_wp2_with fail
      obtain ⟨w41, hw_⟩ : ∃ x, x = (wq.alloc (.cells #[.slice none 0 0, .slice none 0 0] 29)) := ⟨_, rfl⟩
      rw [<- hw_] at hb41 sz41 hs hm hx d0 d1 x0 x1 hq q0 q1 hN ⊢; clear hw_
      go_wp2_with fail
      first | (refine hK _ _ ⟨bwT, ?_⟩; clear hK K) | refine ⟨bwT, ?_⟩
      refine norm_K fun K hK => ?_
      change wpList _ _ _ [_] _ _
      go_wp2_with fail
      refine (jordan9_c hd hs hx hX hx hX).mono ?_; rintro e w42 ⟨v9, rfl, h9, hb42⟩
      have hs := hs.below hb42; have hm := hm.below hb42; have hx := hx.below hb42; have d0 := kept hb42 d0; have d1 := kept hb42 d1; have x0 := kept hb42 x0; have x1 := kept hb42 x1; have hq := hq.below hb42; have q0 := kept hb42 q0; have q1 := kept hb42 q1; have hN := hN.below hb42
      have sz42 : w41.heap.size <= w42.heap.size := hb42.size
      rw [<- HS.out] at h9
      go_wp2_with fail
      first | (refine hK _ _ ⟨bwT, ?_⟩; clear hK K) | refine ⟨bwT, ?_⟩
      refine norm_K fun K hK => ?_
      change wpList _ _ _ [_, _, _, _, _, _] _ _
      go_wp2_with fail
      refine (hJ _ _ _ _ hs hm h9.hv).mono ?_; rintro e w43 ⟨v11, rfl, h11_, hb43⟩
      have hs := hs.below hb43; have hm := hm.below hb43; have hx := hx.below hb43; have d0 := kept hb43 d0; have d1 := kept hb43 d1; have x0 := kept hb43 x0; have x1 := kept hb43 x1; have hq := hq.below hb43; have q0 := kept hb43 q0; have q1 := kept hb43 q1; have hN := hN.below hb43; have h9 := h9.below hb43
      have sz43 : w42.heap.size <= w43.heap.size := hb43.size
      have h11 := h11_.frh HT3.out; clear h11_
      obtain ⟨d2, u2, us2, rfl, ⟨g2, k2_, rfl, q2⟩, hu2_, hne2⟩ := id h11; obtain ⟨g3, k3_, rfl, hq3_⟩ := id hu2_; clear hq3_ hu2_ q2
      have rc0 := hN.c0; have rc1 := hN.c1; have rf0 := hN.f0; have rf1 := hN.f1
      go_wp2_with fail
      first | (refine hK _ _ ⟨rfl, ?_⟩; clear hK K) | refine ⟨rfl, ?_⟩
      go_wp2_with fail
      go_meet
      case rel => exact ⟨wq.heap.size, _, _, rfl, rfl, by omega, (hN.set0 _).set1 _, ((h11.set_ (p := ⟨wq.heap.size, 0, none⟩) (show wq.heap.size < _ by omega) _).set_ (p := ⟨wq.heap.size, 1, none⟩) (show wq.heap.size < _ by omega) _).more (by omega), bwT⟩
   case' rest => skip
   obtain ⟨N0, dN, uN, rfl, rfl, hN0, hN, hF, hbC⟩ := hcut
   have hs := hs.below hbC; have hm := hm.below hbC; have hx := hx.below hbC; have d0 := kept hbC d0; have d1 := kept hbC d1; have x0 := kept hbC x0; have x1 := kept hbC x1; have hq := hq.below hbC; have q0 := kept hbC q0; have q1 := kept hbC q1
   obtain ⟨gf1, cf1, gf2, cf2, hfe⟩ := hF.shape
   cases hfe
   have n0 := hN.c0; have n1_ := hN.c1
   clear hN
   go_wp2_with fail
   refine (hG _ _ _ hs hx).mono ?_; rintro e w81 ⟨va, rfl, ha, hb81⟩
   have hs := hs.below hb81; have hm := hm.below hb81; have hx := hx.below hb81; have d0 := kept hb81 d0; have d1 := kept hb81 d1; have x0 := kept hb81 x0; have x1 := kept hb81 x1; have hq := hq.below hb81; have q0 := kept hb81 q0; have q1 := kept hb81 q1; have hF := hF.below hb81; have n0 := kept hb81 n0; have n1_ := kept hb81 n1_
   obtain ⟨aa, ca, rfl, _⟩ := id ha.sl
   go_wp2_with fail
   refine (hH _ _ _ hs hq.hv).mono ?_; rintro e w82 ⟨vb, rfl, hb, hb82⟩
   have hs := hs.below hb82; have hm := hm.below hb82; have hx := hx.below hb82; have d0 := kept hb82 d0; have d1 := kept hb82 d1; have x0 := kept hb82 x0; have x1 := kept hb82 x1; have hq := hq.below hb82; have q0 := kept hb82 q0; have q1 := kept hb82 q1; have hF := hF.below hb82; have n0 := kept hb82 n0; have n1_ := kept hb82 n1_; have ha := ha.below hb82
   obtain ⟨ab, cb, rfl, _⟩ := id hb.sl
   go_upto_region 17 with fail
   generalize hwH : w82 = wH at *
   clear hwH
   go_wp2_with fail
   refine region_flowP [(15, 12, []), (15, 13, []), (15, 14, []), (16, 11, []), (16, 12, [15]), (16, 13, [15]), (16, 14, [15]), (22, 11, [19, 16]), (22, 12, [19, 16, 15]), (22, 13, [19, 16, 15]), (22, 14, [19, 16, 15])] [(false, [(0, 0), (1, 0), (2, 0), (3, 0), (4, 0), (5, 0), (6, 0), (7, 0), (8, 0), (9, 0), (10, 0), (11, 1), (12, 1), (13, 1), (14, 1), (15, 5)]), (false, [(16, 4), (17, 0), (18, 0), (19, 0), (20, 0), (21, 0), (22, 4), (23, 0), (24, 0)])] (by kernel_rfl) ?_
   refine norm_K fun K hK => ?_
   change wpList _ _ _ [_, _, _, _, _, _, _, _, _, _, _, _, _, _, _, _] _ _
   have hb21 : Below wH.heap.size wH wH.drew := bwT
   have hs := hs.below hb21; have hm := hm.below hb21; have hx := hx.below hb21; have d0 := kept hb21 d0; have d1 := kept hb21 d1; have x0 := kept hb21 x0; have x1 := kept hb21 x1; have hq := hq.below hb21; have q0 := kept hb21 q0; have q1 := kept hb21 q1; have hF := hF.below hb21; have n0 := kept hb21 n0; have n1_ := kept hb21 n1_; have ha := ha.below hb21; have hb := hb.below hb21
   generalize wH.drew = wr at *
   go_wp2_with fail
   refine (jordan9_c hd hs hq.hv iP hq.hv iP).mono ?_; rintro e w22 ⟨v5, rfl, h5, hb22⟩
   have hs := hs.below hb22; have hm := hm.below hb22; have hx := hx.below hb22; have d0 := kept hb22 d0; have d1 := kept hb22 d1; have x0 := kept hb22 x0; have x1 := kept hb22 x1; have hq := hq.below hb22; have q0 := kept hb22 q0; have q1 := kept hb22 q1; have hF := hF.below hb22; have n0 := kept hb22 n0; have n1_ := kept hb22 n1_; have ha := ha.below hb22; have hb := hb.below hb22
   rw [<- HT.out] at h5
   go_wp2_with fail
   have hz0 : Below wr.heap.size wr w22 := bwT
   first | (refine hK _ _ ⟨hz0, ?_⟩; clear hK K) | refine ⟨hz0, ?_⟩
   clear hz0
   refine norm_K fun K hK => ?_
   change wpList _ _ _ [_, _, _, _, _, _, _, _, _] _ _
   go_wp2_with fail
   refine (herm9_c hF.hv h5.hv zT).mono ?_; rintro e w23 ⟨rfl, hb23⟩
   have hs := hs.below hb23; have hm := hm.below hb23; have hx := hx.below hb23; have d0 := kept hb23 d0; have d1 := kept hb23 d1; have x0 := kept hb23 x0; have x1 := kept hb23 x1; have hq := hq.below hb23; have q0 := kept hb23 q0; have q1 := kept hb23 q1; have hF := hF.below hb23; have n0 := kept hb23 n0; have n1_ := kept hb23 n1_; have ha := ha.below hb23; have hb := hb.below hb23; have h5 := h5.below hb23
   go_wp2_with fail
   refine (like_c ha.sl hb.sl (by simp)).mono ?_; rintro e w24 ⟨rfl, hb24⟩
   have hs := hs.below hb24; have hm := hm.below hb24; have hx := hx.below hb24; have d0 := kept hb24 d0; have d1 := kept hb24 d1; have x0 := kept hb24 x0; have x1 := kept hb24 x1; have hq := hq.below hb24; have q0 := kept hb24 q0; have q1 := kept hb24 q1; have hF := hF.below hb24; have n0 := kept hb24 n0; have n1_ := kept hb24 n1_; have ha := ha.below hb24; have hb := hb.below hb24; have h5 := h5.below hb24
   go_wp2_with fail
   first | (refine hK _ _ ⟨rfl, ?_⟩; clear hK K) | refine ⟨rfl, ?_⟩
   go_wp2_with fail
   go_meet
   case rel => exact bwT
 case' rest => skip
 clear HK hyl hl6 hz0 hp1 hp2 hs hm hx d0 d1 x0 x1 hq q0 q1 HMS hl5
 have hs2 := hs2.below hcut; have hy := hy.below hcut; have e0 := kept hcut e0; have e1 := kept hcut e1; have y0 := kept hcut y0; have y1 := kept hcut y1; have hu := hu.below hcut; have u0 := kept hcut u0; have u1 := kept hcut u1
 have hbF := hbF.trans (hcut.mono hbF.size)
 clear hcut
 by_cases hm0 : m = 0
 case neg =>
  have hkb : (m != 0) = true := by simpa using hm0
  obtain rfl := HNO.out hm0
  go_wp2_with fail
  go_ret
  exact ⟨rfl, bwT⟩
 subst hm0
 obtain ⟨hd, hY, hk0, hk2, hQe⟩ := turn_pos (show RTurnRows1 p2 st2 Y k2 = 0 from HM.out.1.symm)
 have h2p : 2 <= p2 := by have := hd.hp.lo; omega
 have hQJ : Q = turnH Y k2.toNat := HM.out.2.trans hQe
 have hk3 : k2.toNat < 3 := by omega
 obtain ⟨iQ, j1, j2, j3, j4⟩ := turn_p hd hY hk3
 rw [<- hQJ] at iQ j1 j2 j3 j4
 have zQ := isH_hsz hd iQ; have hZY := isH_hsz hd hY
 clear HM HNO hyl2 hQe
 have iS : isH p2 (sz st2.length) (jordanH p2 st2 Y Y) = true := jordanH_is (p := p2) (st := st2) h2p hY hY
 have zS := isH_hsz hd iS
 obtain ⟨S, hS_⟩ : ∃ z_, z_ = jordanH p2 st2 Y Y := ⟨_, rfl⟩
 simp only [<- hS_] at iS zS
 have HS := Lib.hid hS_; clear hS_
 have iT : isH p2 (sz st2.length) (jordanH p2 st2 Q Q) = true := jordanH_is (p := p2) (st := st2) h2p iQ iQ
 have zT := isH_hsz hd iT
 obtain ⟨T, hT_⟩ : ∃ z_, z_ = jordanH p2 st2 Q Q := ⟨_, rfl⟩
 simp only [<- hT_] at iT zT
 have HT := Lib.hid hT_; clear hT_
 obtain ⟨hy1_, hy2_⟩ := turn_yes (n := k2) hd iS hk0 hk2
 have e4 : RTurnRows0 p2 st2 S k2 = T := by rw [hy2_, HT.out, hQJ, HS.out]; exact (turn_jor hd hY hk3).symm
 have hJ := fun W v0 v1 (h0 : El W v0 st2) (h1 : Hv W v1 S) => iTurnRows_c (w := W) (p0 := p2) (n2 := k2) h0 hl62 h1 zS (by omega) (by omega)
 rw [e4, hy1_] at hJ
 have hT3 : T.dg.length = 3 := (isH_parts iT).1
 have HT3 := Lib.hid hT3; clear hT3
 obtain ⟨t1, ht1⟩ : ∃ t, t = traceH p2 Y := ⟨_, rfl⟩; obtain ⟨t2, ht2⟩ : ∃ t, t = traceH p2 (adjH p2 st2 Y) := ⟨_, rfl⟩; obtain ⟨t3, ht3⟩ : ∃ t, t = detH p2 st2 Y := ⟨_, rfl⟩; obtain ⟨t4, ht4⟩ : ∃ t, t = rankH p2 st2 Y := ⟨_, rfl⟩
 rw [<- ht1] at j1; rw [<- ht2] at j2; rw [<- ht3] at j3; rw [<- ht4] at j4
 have f1 : RCharacteristicOf0 p2 st2 Y = [t1, t2, t3] := by rw [ht1, ht2, ht3]; exact if_pos (chkH_ok hd (by simp [hY]))
 have f2 : RCharacteristicOf0 p2 st2 Q = [t1, t2, t3] := by
  have e : RCharacteristicOf0 p2 st2 Q = [traceH p2 Q, traceH p2 (adjH p2 st2 Q), detH p2 st2 Q] := if_pos (chkH_ok hd (by simp [iQ]))
  rw [e, j1, j2, j3]
 have f3 : RJordanRank0 p2 st2 Y = t4 := by rw [ht4]; exact if_pos (chkH_ok hd (by simp [hY]))
 have f4 : RJordanRank0 p2 st2 Q = t4 := by rw [<- j4]; exact if_pos (chkH_ok hd (by simp [iQ]))
 have hG := fun W v0 v1 (h0 : El W v0 st2) (h1 : Hv W v1 Y) => iCharacteristicOf_c (w := W) (p0 := p2) h0 hl62 h1 hZY
 have hH := fun W v0 v1 (h0 : El W v0 st2) (h1 : Hv W v1 Q) => iCharacteristicOf_c (w := W) (p0 := p2) h0 hl62 h1 zQ
 have hU := fun W v0 v1 (h0 : El W v0 st2) (h1 : Hv W v1 Y) => iJordanRank_c (w := W) (p0 := p2) h0 hl62 h1 hZY
 have hV := fun W v0 v1 (h0 : El W v0 st2) (h1 : Hv W v1 Q) => iJordanRank_c (w := W) (p0 := p2) h0 hl62 h1 zQ
 rw [f1, show RCharacteristicOf1 p2 st2 Y = 0 from chkH_ok hd (by simp [hY])] at hG
 rw [f2, show RCharacteristicOf1 p2 st2 Q = 0 from chkH_ok hd (by simp [iQ])] at hH
 rw [f3, show RJordanRank1 p2 st2 Y = 0 from chkH_ok hd (by simp [hY])] at hU
 rw [f4, show RJordanRank1 p2 st2 Q = 0 from chkH_ok hd (by simp [iQ])] at hV
 obtain ⟨r, hr⟩ : ∃ r, r = (3 - k2).tmod 3 := ⟨_, rfl⟩
 have hr2 : 0 <= r /\ r <= 2 /\ r.toNat = (3 - k2.toNat) % 3 := by rw [hr]; rcases (show k2 = 0 \/ k2 = 1 \/ k2 = 2 by omega) with rfl | rfl | rfl <;> decide
 obtain ⟨hb1_, hb2_⟩ := turn_yes (n := r) hd iQ hr2.1 hr2.2.1
 have e5 : RTurnRows0 p2 st2 Q r = Y := by rw [hb2_, hr2.2.2, hQJ]; exact turn_back hY hk3
 have hB := fun W v0 v1 (h0 : El W v0 st2) (h1 : Hv W v1 Q) => iTurnRows_c (w := W) (p0 := p2) (n2 := r) h0 hl62 h1 zQ (by omega) (by omega)
 rw [e5, hb1_] at hB
 clear f1 f2 f3 f4 j1 j2 j3 j4 ht1 ht2 ht3 ht4 e4 e5 hy1_ hy2_ hb1_ hb2_ hQJ
 have HR := Lib.hid hr; clear hr
 go_upto_region 21 with fail
 generalize hwKK : wc = wK at *
 clear hwKK
 go_cut [23, 24] (fun s_ e_ wx => ∃ N d u, s_ = .pointer (some ⟨N, 0, none⟩) /\ e_ = .int .i64 0 /\ wK.heap.size <= N /\ Bx wx N d u /\ FrH wx wK.heap.size (.agg #[d, u]) (T) /\ Below wK.heap.size wK wx)
 case first =>
  as_aux_lemma =>
   refine region_tq [(0, 1), (1, 1), (2, 1), (3, 1), (5, 0)] (.two 4 5 (.two 6 5 (.lin [(false, [(7, 0), (8, 0), (9, 0), (10, 5)]), (false, [(11, 4), (12, 0)])]) 10 5 (.lin [(false, [(6, 4), (7, 0), (8, 0), (9, 0), (11, 4), (12, 0)])])) 10 5 (.lin [(false, [(4, 5)]), (false, [(6, 4), (7, 0), (8, 0), (9, 0), (11, 4), (12, 0)])])) (by kernel_rfl) ?_
   refine norm_K fun K hK => ?_
   change wpList _ _ _ [_, _, _, _, _] _ _
   go_wp2_with fail
   have hbq : Below wK.heap.size wK wK.drew := bwT
   have hs2 := hs2.below hbq; have hy := hy.below hbq; have e0 := kept hbq e0; have e1 := kept hbq e1; have y0 := kept hbq y0; have y1 := kept hbq y1; have hu := hu.below hbq; have u0 := kept hbq u0; have u1 := kept hbq u1
   have szq : wK.heap.size = wK.drew.heap.size := rfl
   generalize wK.drew = wq at *
   refine hK _ _ ?_; clear hK K
   refine ⟨?_, ?_⟩
   ·skip
    refine norm_K fun K hK => ?_
    change wpList _ _ _ [_] _ _
    go_wp2_with fail
    refine (jordan9_c hd hs2 hy hY hy hY).mono ?_; rintro e w41 ⟨v9, rfl, h9, hb41⟩
    have hs2 := hs2.below hb41; have hy := hy.below hb41; have e0 := kept hb41 e0; have e1 := kept hb41 e1; have y0 := kept hb41 y0; have y1 := kept hb41 y1; have hu := hu.below hb41; have u0 := kept hb41 u0; have u1 := kept hb41 u1
    have sz41 : wq.heap.size <= w41.heap.size := hb41.size
    rw [<- HS.out] at h9
    go_wp2_with fail
    first | (refine hK _ _ ⟨bwT, ?_⟩; clear hK K) | refine ⟨bwT, ?_⟩
    refine ⟨?_, ?_⟩
    ·skip
     refine norm_K fun K hK => ?_
     change wpList _ _ _ [_] _ _
     go_wp2_with fail
     refine (hJ _ _ _ hs2 h9.hv).mono ?_; rintro e w42 ⟨v11, rfl, h11_, hb42⟩
     have hs2 := hs2.below hb42; have hy := hy.below hb42; have e0 := kept hb42 e0; have e1 := kept hb42 e1; have y0 := kept hb42 y0; have y1 := kept hb42 y1; have hu := hu.below hb42; have u0 := kept hb42 u0; have u1 := kept hb42 u1; have h9 := h9.below hb42
     have sz42 : w41.heap.size <= w42.heap.size := hb42.size
     have h11 := h11_.frh HT3.out; clear h11_
     obtain ⟨d2, u2, us2, rfl, ⟨g2, k2_, rfl, q2⟩, hu2_, hne2⟩ := id h11; obtain ⟨g3, k3_, rfl, hq3_⟩ := id hu2_; clear hq3_ hu2_ q2
     go_wp2_with fail
     first | (refine hK _ _ ⟨bwT, ?_⟩; clear hK K) | refine ⟨bwT, ?_⟩
     refine norm_K fun K hK => ?_
     change wpList _ _ _ [_, _, _, _] _ _
     go_wp2_with fail
     have hb43 : Below w42.heap.size w42 (w42.alloc (.cells #[.slice none 0 0, .slice none 0 0] 29)) := bwT
     have h11A := h11; have hbA := hb43
     have hs2 := hs2.below hb43; have hy := hy.below hb43; have e0 := kept hb43 e0; have e1 := kept hb43 e1; have y0 := kept hb43 y0; have y1 := kept hb43 y1; have hu := hu.below hb43; have u0 := kept hb43 u0; have u1 := kept hb43 u1; have h9 := h9.below hb43; have h11 := h11.below hb43
     have hN : Bx (w42.alloc (.cells #[.slice none 0 0, .slice none 0 0] 29)) w42.heap.size (.slice none 0 0) (.slice none 0 0) := heap_alloc_new _ _
     have sz43 : w42.heap.size + 1 = (w42.alloc (.cells #[.slice none 0 0, .slice none 0 0] 29)).heap.size := by simp
     go_wp2_with fail
     obtain ⟨w43, hw_⟩ : ∃ x, x = (w42.alloc (.cells #[.slice none 0 0, .slice none 0 0] 29)) := ⟨_, rfl⟩
     rw [<- hw_] at hb43 sz43 hs2 hy e0 e1 y0 y1 hu u0 u1 h9 h11 hN hbA ⊢; clear hw_
     go_wp2_with fail
     first | (refine hK _ _ ⟨bwT, ?_⟩; clear hK K) | refine ⟨bwT, ?_⟩
     refine norm_K fun K hK => ?_
     change wpList _ _ _ [_, _] _ _
     have rc0 := hN.c0; have rc1 := hN.c1; have rf0 := hN.f0; have rf1 := hN.f1
     go_wp2_with fail
     first | (refine hK _ _ ⟨rfl, ?_⟩; clear hK K) | refine ⟨rfl, ?_⟩
     go_wp2_with fail
     go_meet
     case rel => exact ⟨w42.heap.size, _, _, rfl, rfl, by omega, (hN.set0 _).set1 _, (h11A.below (bwS (p := ⟨w42.heap.size, 1, none⟩) (bwS (p := ⟨w42.heap.size, 0, none⟩) hbA (Nat.le_refl _) _) (Nat.le_refl _) _)).more (by omega), bwT⟩
    ·skip
     refine norm_K fun K hK => ?_
     change wpList _ _ _ [_] _ _
     go_wp2_with fail
     have hb42 : Below w41.heap.size w41 (w41.alloc (.cells #[.slice none 0 0, .slice none 0 0] 29)) := bwT
     have hs2 := hs2.below hb42; have hy := hy.below hb42; have e0 := kept hb42 e0; have e1 := kept hb42 e1; have y0 := kept hb42 y0; have y1 := kept hb42 y1; have hu := hu.below hb42; have u0 := kept hb42 u0; have u1 := kept hb42 u1; have h9 := h9.below hb42
     have hN : Bx (w41.alloc (.cells #[.slice none 0 0, .slice none 0 0] 29)) w41.heap.size (.slice none 0 0) (.slice none 0 0) := heap_alloc_new _ _
     have sz42 : w41.heap.size + 1 = (w41.alloc (.cells #[.slice none 0 0, .slice none 0 0] 29)).heap.size := by simp
     go_wp2_with fail
     obtain ⟨w42, hw_⟩ : ∃ x, x = (w41.alloc (.cells #[.slice none 0 0, .slice none 0 0] 29)) := ⟨_, rfl⟩
     rw [<- hw_] at hb42 sz42 hs2 hy e0 e1 y0 y1 hu u0 u1 h9 hN ⊢; clear hw_
     go_wp2_with fail
     first | (refine hK _ _ ⟨bwT, ?_⟩; clear hK K) | refine ⟨bwT, ?_⟩
     refine norm_K fun K hK => ?_
     change wpList _ _ _ [_, _, _, _, _, _] _ _
     go_wp2_with fail
     refine (hJ _ _ _ hs2 h9.hv).mono ?_; rintro e w43 ⟨v11, rfl, h11_, hb43⟩
     have hs2 := hs2.below hb43; have hy := hy.below hb43; have e0 := kept hb43 e0; have e1 := kept hb43 e1; have y0 := kept hb43 y0; have y1 := kept hb43 y1; have hu := hu.below hb43; have u0 := kept hb43 u0; have u1 := kept hb43 u1; have h9 := h9.below hb43; have hN := hN.below hb43
     have sz43 : w42.heap.size <= w43.heap.size := hb43.size
     have h11 := h11_.frh HT3.out; clear h11_
     obtain ⟨d2, u2, us2, rfl, ⟨g2, k2_, rfl, q2⟩, hu2_, hne2⟩ := id h11; obtain ⟨g3, k3_, rfl, hq3_⟩ := id hu2_; clear hq3_ hu2_ q2
     have rc0 := hN.c0; have rc1 := hN.c1; have rf0 := hN.f0; have rf1 := hN.f1
     go_wp2_with fail
     first | (refine hK _ _ ⟨rfl, ?_⟩; clear hK K) | refine ⟨rfl, ?_⟩
     go_wp2_with fail
     go_meet
     case rel => exact ⟨w41.heap.size, _, _, rfl, rfl, by omega, (hN.set0 _).set1 _, ((h11.set_ (p := ⟨w41.heap.size, 0, none⟩) (show w41.heap.size < _ by omega) _).set_ (p := ⟨w41.heap.size, 1, none⟩) (show w41.heap.size < _ by omega) _).more (by omega), bwT⟩
   ·skip
    refine norm_K fun K hK => ?_
    change wpList _ _ _ [_] _ _
    go_wp2_with fail
    have hb41 : Below wq.heap.size wq (wq.alloc (.cells #[.slice none 0 0, .slice none 0 0] 29)) := bwT
    have hs2 := hs2.below hb41; have hy := hy.below hb41; have e0 := kept hb41 e0; have e1 := kept hb41 e1; have y0 := kept hb41 y0; have y1 := kept hb41 y1; have hu := hu.below hb41; have u0 := kept hb41 u0; have u1 := kept hb41 u1
    have hN : Bx (wq.alloc (.cells #[.slice none 0 0, .slice none 0 0] 29)) wq.heap.size (.slice none 0 0) (.slice none 0 0) := heap_alloc_new _ _
    have sz41 : wq.heap.size + 1 = (wq.alloc (.cells #[.slice none 0 0, .slice none 0 0] 29)).heap.size := by simp
    go_wp2_with fail
    obtain ⟨w41, hw_⟩ : ∃ x, x = (wq.alloc (.cells #[.slice none 0 0, .slice none 0 0] 29)) := ⟨_, rfl⟩
    rw [<- hw_] at hb41 sz41 hs2 hy e0 e1 y0 y1 hu u0 u1 hN ⊢; clear hw_
    go_wp2_with fail
    first | (refine hK _ _ ⟨bwT, ?_⟩; clear hK K) | refine ⟨bwT, ?_⟩
    refine norm_K fun K hK => ?_
    change wpList _ _ _ [_] _ _
    go_wp2_with fail
    refine (jordan9_c hd hs2 hy hY hy hY).mono ?_; rintro e w42 ⟨v9, rfl, h9, hb42⟩
    have hs2 := hs2.below hb42; have hy := hy.below hb42; have e0 := kept hb42 e0; have e1 := kept hb42 e1; have y0 := kept hb42 y0; have y1 := kept hb42 y1; have hu := hu.below hb42; have u0 := kept hb42 u0; have u1 := kept hb42 u1; have hN := hN.below hb42
    have sz42 : w41.heap.size <= w42.heap.size := hb42.size
    rw [<- HS.out] at h9
    go_wp2_with fail
    first | (refine hK _ _ ⟨bwT, ?_⟩; clear hK K) | refine ⟨bwT, ?_⟩
    refine norm_K fun K hK => ?_
    change wpList _ _ _ [_, _, _, _, _, _] _ _
    go_wp2_with fail
    refine (hJ _ _ _ hs2 h9.hv).mono ?_; rintro e w43 ⟨v11, rfl, h11_, hb43⟩
    have hs2 := hs2.below hb43; have hy := hy.below hb43; have e0 := kept hb43 e0; have e1 := kept hb43 e1; have y0 := kept hb43 y0; have y1 := kept hb43 y1; have hu := hu.below hb43; have u0 := kept hb43 u0; have u1 := kept hb43 u1; have hN := hN.below hb43; have h9 := h9.below hb43
    have sz43 : w42.heap.size <= w43.heap.size := hb43.size
    have h11 := h11_.frh HT3.out; clear h11_
    obtain ⟨d2, u2, us2, rfl, ⟨g2, k2_, rfl, q2⟩, hu2_, hne2⟩ := id h11; obtain ⟨g3, k3_, rfl, hq3_⟩ := id hu2_; clear hq3_ hu2_ q2
    have rc0 := hN.c0; have rc1 := hN.c1; have rf0 := hN.f0; have rf1 := hN.f1
    go_wp2_with fail
    first | (refine hK _ _ ⟨rfl, ?_⟩; clear hK K) | refine ⟨rfl, ?_⟩
    go_wp2_with fail
    go_meet
    case rel => exact ⟨wq.heap.size, _, _, rfl, rfl, by omega, (hN.set0 _).set1 _, ((h11.set_ (p := ⟨wq.heap.size, 0, none⟩) (show wq.heap.size < _ by omega) _).set_ (p := ⟨wq.heap.size, 1, none⟩) (show wq.heap.size < _ by omega) _).more (by omega), bwT⟩
 case' rest => skip
 obtain ⟨N0, dN, uN, rfl, rfl, hN0, hN, hF, hbC⟩ := hcut
 have hs2 := hs2.below hbC; have hy := hy.below hbC; have e0 := kept hbC e0; have e1 := kept hbC e1; have y0 := kept hbC y0; have y1 := kept hbC y1; have hu := hu.below hbC; have u0 := kept hbC u0; have u1 := kept hbC u1
 obtain ⟨gf1, cf1, gf2, cf2, hfe⟩ := hF.shape
 cases hfe
 have n0 := hN.c0; have n1_ := hN.c1
 clear hN
 go_wp2_with fail
 refine (hG _ _ _ hs2 hy).mono ?_; rintro e w181 ⟨va, rfl, ha, hb181⟩
 have hs2 := hs2.below hb181; have hy := hy.below hb181; have e0 := kept hb181 e0; have e1 := kept hb181 e1; have y0 := kept hb181 y0; have y1 := kept hb181 y1; have hu := hu.below hb181; have u0 := kept hb181 u0; have u1 := kept hb181 u1; have hF := hF.below hb181; have n0 := kept hb181 n0; have n1_ := kept hb181 n1_
 obtain ⟨aa, ca, rfl, _⟩ := id ha.sl
 go_wp2_with fail
 refine (hH _ _ _ hs2 hu.hv).mono ?_; rintro e w182 ⟨vb, rfl, hb, hb182⟩
 have hs2 := hs2.below hb182; have hy := hy.below hb182; have e0 := kept hb182 e0; have e1 := kept hb182 e1; have y0 := kept hb182 y0; have y1 := kept hb182 y1; have hu := hu.below hb182; have u0 := kept hb182 u0; have u1 := kept hb182 u1; have hF := hF.below hb182; have n0 := kept hb182 n0; have n1_ := kept hb182 n1_; have ha := ha.below hb182
 obtain ⟨ab, cb, rfl, _⟩ := id hb.sl
 go_wp2_with fail
 refine (hU _ _ _ hs2 hy).mono ?_; rintro e w183 ⟨rfl, hb183⟩
 have hs2 := hs2.below hb183; have hy := hy.below hb183; have e0 := kept hb183 e0; have e1 := kept hb183 e1; have y0 := kept hb183 y0; have y1 := kept hb183 y1; have hu := hu.below hb183; have u0 := kept hb183 u0; have u1 := kept hb183 u1; have hF := hF.below hb183; have n0 := kept hb183 n0; have n1_ := kept hb183 n1_; have ha := ha.below hb183; have hb := hb.below hb183
 go_wp2_with fail
 refine (hV _ _ _ hs2 hu.hv).mono ?_; rintro e w184 ⟨rfl, hb184⟩
 have hs2 := hs2.below hb184; have hy := hy.below hb184; have e0 := kept hb184 e0; have e1 := kept hb184 e1; have y0 := kept hb184 y0; have y1 := kept hb184 y1; have hu := hu.below hb184; have u0 := kept hb184 u0; have u1 := kept hb184 u1; have hF := hF.below hb184; have n0 := kept hb184 n0; have n1_ := kept hb184 n1_; have ha := ha.below hb184; have hb := hb.below hb184
 have hw1 : wrap64 (3 - k2) = 3 - k2 := by simp only [wrap64]; omega
 have hw2 : (3 - k2).tmod 3 = r := HR.out.symm
 go_wp2_with fail
 refine (hB _ _ _ hs2 hu.hv).mono ?_; rintro e w185 ⟨vhbk, rfl, hbk, hb185⟩
 have hs2 := hs2.below hb185; have hy := hy.below hb185; have e0 := kept hb185 e0; have e1 := kept hb185 e1; have y0 := kept hb185 y0; have y1 := kept hb185 y1; have hu := hu.below hb185; have u0 := kept hb185 u0; have u1 := kept hb185 u1; have hF := hF.below hb185; have n0 := kept hb185 n0; have n1_ := kept hb185 n1_; have ha := ha.below hb185; have hb := hb.below hb185
 obtain ⟨d_hbk, u_hbk, rfl, q_hbk, r_hbk⟩ := hbk.hv; obtain ⟨ahbk, chbk, rfl, _⟩ := q_hbk.op; obtain ⟨bhbk, ehbk, rfl, _⟩ := id r_hbk; clear q_hbk r_hbk
 have hb186 : Below w185.heap.size w185 (w185.alloc (.cells #[.slice ahbk Y.dg.length chbk, .slice bhbk Y.up.length ehbk] 29)) := bwT
 have hs2 := hs2.below hb186; have hy := hy.below hb186; have e0 := kept hb186 e0; have e1 := kept hb186 e1; have y0 := kept hb186 y0; have y1 := kept hb186 y1; have hu := hu.below hb186; have u0 := kept hb186 u0; have u1 := kept hb186 u1; have hF := hF.below hb186; have n0 := kept hb186 n0; have n1_ := kept hb186 n1_; have ha := ha.below hb186; have hb := hb.below hb186; have hbk := hbk.below hb186
 have z0 : (w185.alloc (.cells #[.slice ahbk Y.dg.length chbk, .slice bhbk Y.up.length ehbk] 29)).cell? ⟨w185.heap.size, 0, none⟩ = some (.slice ahbk Y.dg.length chbk) := by simp [go_sem]
 have z1 : (w185.alloc (.cells #[.slice ahbk Y.dg.length chbk, .slice bhbk Y.up.length ehbk] 29)).cell? ⟨w185.heap.size, 1, none⟩ = some (.slice bhbk Y.up.length ehbk) := by simp [go_sem]
 clear hw1 hw2
 go_upto_region 27 with fail
 generalize hwLL : (w185.alloc (.cells #[.slice ahbk Y.dg.length chbk, .slice bhbk Y.up.length ehbk] 29)) = wL at *
 clear hwLL
 go_wp2_with fail
 refine region_flowP [(27, 24, []), (27, 25, []), (27, 26, []), (28, 23, []), (28, 24, [27]), (28, 25, [27]), (28, 26, [27]), (33, 23, [30, 28]), (33, 24, [30, 28, 27]), (33, 25, [30, 28, 27]), (33, 26, [30, 28, 27]), (43, 23, [40, 35, 33, 30, 28]), (43, 24, [40, 35, 33, 30, 28, 27]), (43, 25, [40, 35, 33, 30, 28, 27]), (43, 26, [40, 35, 33, 30, 28, 27]), (43, 41, []), (43, 42, [])] [(false, [(0, 0), (1, 0), (2, 0), (3, 0), (4, 0), (5, 0), (6, 0), (7, 0), (8, 0), (9, 0), (10, 0), (11, 0), (12, 0), (13, 0), (14, 0), (15, 0), (16, 0), (17, 0), (18, 0), (19, 0), (20, 0), (21, 0), (22, 0), (23, 1), (24, 1), (25, 1), (26, 1), (27, 5)]), (false, [(28, 4), (29, 0), (30, 0), (31, 0), (32, 0), (33, 4), (34, 0), (35, 0), (36, 0), (37, 0), (38, 0), (39, 0), (40, 0), (41, 1), (42, 1), (43, 4), (44, 0), (45, 0)])] (by kernel_rfl) ?_
 refine norm_K fun K hK => ?_
 change wpList _ _ _ [_, _, _, _, _, _, _, _, _, _, _, _, _, _, _, _, _, _, _, _, _, _, _, _, _, _, _, _] _ _
 have hb21 : Below wL.heap.size wL wL.drew := bwT
 have hs2 := hs2.below hb21; have hy := hy.below hb21; have e0 := kept hb21 e0; have e1 := kept hb21 e1; have y0 := kept hb21 y0; have y1 := kept hb21 y1; have hu := hu.below hb21; have u0 := kept hb21 u0; have u1 := kept hb21 u1; have hF := hF.below hb21; have n0 := kept hb21 n0; have n1_ := kept hb21 n1_; have ha := ha.below hb21; have hb := hb.below hb21; have hbk := hbk.below hb21; have z0 := kept hb21 z0; have z1 := kept hb21 z1
 generalize wL.drew = wr at *
 go_wp2_with fail
 refine (jordan9_c hd hs2 hu.hv iQ hu.hv iQ).mono ?_; rintro e w22 ⟨v5, rfl, h5, hb22⟩
 have hs2 := hs2.below hb22; have hy := hy.below hb22; have e0 := kept hb22 e0; have e1 := kept hb22 e1; have y0 := kept hb22 y0; have y1 := kept hb22 y1; have hu := hu.below hb22; have u0 := kept hb22 u0; have u1 := kept hb22 u1; have hF := hF.below hb22; have n0 := kept hb22 n0; have n1_ := kept hb22 n1_; have ha := ha.below hb22; have hb := hb.below hb22; have hbk := hbk.below hb22; have z0 := kept hb22 z0; have z1 := kept hb22 z1
 rw [<- HT.out] at h5
 go_wp2_with fail
 have hz0 : Below wr.heap.size wr w22 := bwT
 first | (refine hK _ _ ⟨hz0, ?_⟩; clear hK K) | refine ⟨hz0, ?_⟩
 clear hz0
 refine norm_K fun K hK => ?_
 change wpList _ _ _ [_, _, _, _, _, _, _, _, _, _, _, _, _, _, _, _, _, _] _ _
 go_wp2_with fail
 refine (herm9_c hF.hv h5.hv zT).mono ?_; rintro e w23 ⟨rfl, hb23⟩
 have hs2 := hs2.below hb23; have hy := hy.below hb23; have e0 := kept hb23 e0; have e1 := kept hb23 e1; have y0 := kept hb23 y0; have y1 := kept hb23 y1; have hu := hu.below hb23; have u0 := kept hb23 u0; have u1 := kept hb23 u1; have hF := hF.below hb23; have n0 := kept hb23 n0; have n1_ := kept hb23 n1_; have ha := ha.below hb23; have hb := hb.below hb23; have hbk := hbk.below hb23; have z0 := kept hb23 z0; have z1 := kept hb23 z1; have h5 := h5.below hb23
 go_wp2_with fail
 refine (like_c ha.sl hb.sl (by simp)).mono ?_; rintro e w24 ⟨rfl, hb24⟩
 have hs2 := hs2.below hb24; have hy := hy.below hb24; have e0 := kept hb24 e0; have e1 := kept hb24 e1; have y0 := kept hb24 y0; have y1 := kept hb24 y1; have hu := hu.below hb24; have u0 := kept hb24 u0; have u1 := kept hb24 u1; have hF := hF.below hb24; have n0 := kept hb24 n0; have n1_ := kept hb24 n1_; have ha := ha.below hb24; have hb := hb.below hb24; have hbk := hbk.below hb24; have z0 := kept hb24 z0; have z1 := kept hb24 z1; have h5 := h5.below hb24
 go_wp2_with fail
 refine (herm9_c hbk.hv hy hZY).mono ?_; rintro e w25 ⟨rfl, hb25⟩
 have hs2 := hs2.below hb25; have hy := hy.below hb25; have e0 := kept hb25 e0; have e1 := kept hb25 e1; have y0 := kept hb25 y0; have y1 := kept hb25 y1; have hu := hu.below hb25; have u0 := kept hb25 u0; have u1 := kept hb25 u1; have hF := hF.below hb25; have n0 := kept hb25 n0; have n1_ := kept hb25 n1_; have ha := ha.below hb25; have hb := hb.below hb25; have hbk := hbk.below hb25; have z0 := kept hb25 z0; have z1 := kept hb25 z1; have h5 := h5.below hb25
 go_wp2_with fail
 first | (refine hK _ _ ⟨rfl, ?_⟩; clear hK K) | refine ⟨rfl, ?_⟩
 go_wp2_with fail
 go_ret
 exact ⟨rfl, bwT⟩
end Go.Proofs.YtilgbekffbphgaaGreat
