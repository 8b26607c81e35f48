/-
  Peirce parts: the program's and the reference's.
-/
import Derived.Test.YtmplpoccalccoaaGreatJbg
import Derived.Test.YtmplpoccalccoaaGreatTreeB
namespace Go.Proofs.YtmplpoccalccoaaGreat
open Go.RowKit

set_option maxHeartbeats 4000000 in
set_option maxRecDepth 100000 in
theorem peirce_c {p k : Int} {s e x : Value} {st : List Int} {E X : Her} {w : World} (hd : Dok p st) (hs : El w s st) (he : Hv w e E) (hE : isH p (sz st.length) E = true) (hx : Hv w x X) (hX : isH p (sz st.length) X = true) :
    Calls Tryz.prog 32 #[.agg #[.int .i64 p, s], e, x, .int .i64 k] w fun r w' => ∃ v, r = .returned v ∧ FrH w' w.heap.size v (peirH p st E X k) ∧ Below w.heap.size w w' := by
  have hp1 := hd.hp.lo
  have hp2 := hd.hp.hi
  have hsz := sz_le hd
  have i1 := jordanH_is (p := p) (by omega) hE hX
  have i2 := jordanH_is (p := p) (by omega) hE i1
  have i3 := multH_is (p := p) (k := 2) (by omega) i2
  have i4 := sumH_is (p := p) (k := -1) (by omega) i1 i2
  have iW := wholeH_is (p := p) (st := st) (by omega) hE hX
  have iF := halfP_is (p := p) (st := st) (by omega) hE hX
  have i5 := sumH_is (p := p) (k := -1) (by omega) hX iW
  have i6 := sumH_is (p := p) (k := -1) (by omega) hX iF
  have HN1 := Lib.hid (fun X Y => sumH_neg (p := p) (X := X) (Y := Y))
  have HS := Lib.hid (sumH_swap (p := p) (X := X) (Y := wholeH p st E X) (Z := halfP p st E X))
  have HMM := Lib.hid (fun X => multH_mod (p := p) (X := X) (k := 4))
  have h4p : 0 ≤ 4 % p ∧ 4 % p < p := mod_fp2 (by omega)
  obtain ⟨a0, c0, rfl, _⟩ := id hs.op
  obtain ⟨dv1, uv1, rfl, hd1_, hu1_⟩ := id he; obtain ⟨a1, c1, rfl, _⟩ := id hd1_.op; obtain ⟨b1, k1, rfl, _⟩ := id hu1_; clear hd1_ hu1_
  obtain ⟨dv2, uv2, rfl, hd2_, hu2_⟩ := id hx; obtain ⟨a2, c2, rfl, _⟩ := id hd2_.op; obtain ⟨b2, k2, rfl, _⟩ := id hu2_; clear hd2_ hu2_
  obtain ⟨Z1, hZ1⟩ : ∃ Z, Z = jordanH p st E X := ⟨_, rfl⟩
  obtain ⟨Z2, hZ2⟩ : ∃ Z, Z = jordanH p st E Z1 := ⟨_, rfl⟩
  rw [← hZ1] at i1 i2 i3 i4
  rw [← hZ2] at i2 i3 i4
  have hWe : wholeH p st E X = sumH p (multH p Z2 2) (-1) Z1 := by rw [hZ2, hZ1]; rfl
  have hFe : halfP p st E X = multH p (sumH p Z1 (-1) Z2) 4 := by rw [hZ2, hZ1]; rfl
  have HZ1 := Lib.hid hZ1; have HZ2 := Lib.hid hZ2; have HW := Lib.hid hWe; have HF := Lib.hid hFe; clear hZ1 hZ2 hWe hFe
  go_enter Tryz.func32, Tryz.ntmps32
  have hb0 : Below w.heap.size w ((((w.alloc (.cells #[.int .i64 p, .slice a0 st.length c0] 32)).alloc (.cells #[.slice a1 E.dg.length c1, .slice b1 E.up.length k1] 34)).alloc (.cells #[.slice a2 X.dg.length c2, .slice b2 X.up.length k2] 34)).alloc (.cells #[.slice none 0 0, .slice none 0 0] 34)) := (by repeat (first | exact Below.refl _ _ | apply blw_drew | apply blw_alloc | (refine blw_set ?_ (by first | omega | (simp; done) | (simp; omega)) _) | refine below_chain ?_ (by assumption)))
  have hs := hs.below hb0; have he := he.below hb0; have hx := hx.below hb0
  have d0 : ((((w.alloc (.cells #[.int .i64 p, .slice a0 st.length c0] 32)).alloc (.cells #[.slice a1 E.dg.length c1, .slice b1 E.up.length k1] 34)).alloc (.cells #[.slice a2 X.dg.length c2, .slice b2 X.up.length k2] 34)).alloc (.cells #[.slice none 0 0, .slice none 0 0] 34)).cell? ⟨w.heap.size, 0, none⟩ = some (.int .i64 p) := by simp [go_sem]
  have d1 : ((((w.alloc (.cells #[.int .i64 p, .slice a0 st.length c0] 32)).alloc (.cells #[.slice a1 E.dg.length c1, .slice b1 E.up.length k1] 34)).alloc (.cells #[.slice a2 X.dg.length c2, .slice b2 X.up.length k2] 34)).alloc (.cells #[.slice none 0 0, .slice none 0 0] 34)).cell? ⟨w.heap.size, 1, none⟩ = some (.slice a0 st.length c0) := by simp [go_sem]
  have e0 : ((((w.alloc (.cells #[.int .i64 p, .slice a0 st.length c0] 32)).alloc (.cells #[.slice a1 E.dg.length c1, .slice b1 E.up.length k1] 34)).alloc (.cells #[.slice a2 X.dg.length c2, .slice b2 X.up.length k2] 34)).alloc (.cells #[.slice none 0 0, .slice none 0 0] 34)).cell? ⟨w.heap.size + 1, 0, none⟩ = some (.slice a1 E.dg.length c1) := by simp [go_sem]
  have e1 : ((((w.alloc (.cells #[.int .i64 p, .slice a0 st.length c0] 32)).alloc (.cells #[.slice a1 E.dg.length c1, .slice b1 E.up.length k1] 34)).alloc (.cells #[.slice a2 X.dg.length c2, .slice b2 X.up.length k2] 34)).alloc (.cells #[.slice none 0 0, .slice none 0 0] 34)).cell? ⟨w.heap.size + 1, 1, none⟩ = some (.slice b1 E.up.length k1) := by simp [go_sem]
  have f0 : ((((w.alloc (.cells #[.int .i64 p, .slice a0 st.length c0] 32)).alloc (.cells #[.slice a1 E.dg.length c1, .slice b1 E.up.length k1] 34)).alloc (.cells #[.slice a2 X.dg.length c2, .slice b2 X.up.length k2] 34)).alloc (.cells #[.slice none 0 0, .slice none 0 0] 34)).cell? ⟨w.heap.size + 1 + 1, 0, none⟩ = some (.slice a2 X.dg.length c2) := by simp [go_sem]
  have f1 : ((((w.alloc (.cells #[.int .i64 p, .slice a0 st.length c0] 32)).alloc (.cells #[.slice a1 E.dg.length c1, .slice b1 E.up.length k1] 34)).alloc (.cells #[.slice a2 X.dg.length c2, .slice b2 X.up.length k2] 34)).alloc (.cells #[.slice none 0 0, .slice none 0 0] 34)).cell? ⟨w.heap.size + 1 + 1, 1, none⟩ = some (.slice b2 X.up.length k2) := by simp [go_sem]
  have r0 : ((((w.alloc (.cells #[.int .i64 p, .slice a0 st.length c0] 32)).alloc (.cells #[.slice a1 E.dg.length c1, .slice b1 E.up.length k1] 34)).alloc (.cells #[.slice a2 X.dg.length c2, .slice b2 X.up.length k2] 34)).alloc (.cells #[.slice none 0 0, .slice none 0 0] 34)).cell? ⟨w.heap.size + 1 + 1 + 1, 0, none⟩ = some (.slice none 0 0) := by simp [go_sem]
  have r1 : ((((w.alloc (.cells #[.int .i64 p, .slice a0 st.length c0] 32)).alloc (.cells #[.slice a1 E.dg.length c1, .slice b1 E.up.length k1] 34)).alloc (.cells #[.slice a2 X.dg.length c2, .slice b2 X.up.length k2] 34)).alloc (.cells #[.slice none 0 0, .slice none 0 0] 34)).cell? ⟨w.heap.size + 1 + 1 + 1, 1, none⟩ = some (.slice none 0 0) := by simp [go_sem]
  have hr : Bx ((((w.alloc (.cells #[.int .i64 p, .slice a0 st.length c0] 32)).alloc (.cells #[.slice a1 E.dg.length c1, .slice b1 E.up.length k1] 34)).alloc (.cells #[.slice a2 X.dg.length c2, .slice b2 X.up.length k2] 34)).alloc (.cells #[.slice none 0 0, .slice none 0 0] 34)) (w.heap.size + 1 + 1 + 1) (.slice none 0 0) (.slice none 0 0) := by rw [show w.heap.size + 1 + 1 + 1 = (((w.alloc (.cells #[.int .i64 p, .slice a0 st.length c0] 32)).alloc (.cells #[.slice a1 E.dg.length c1, .slice b1 E.up.length k1] 34)).alloc (.cells #[.slice a2 X.dg.length c2, .slice b2 X.up.length k2] 34)).heap.size by simp]; exact heap_alloc_new _ _
  go_wp2_with fail
  refine (jordan_c hd hs he hE hx hX).mono ?_; rintro e w1 ⟨v1, rfl, h1, hb1⟩
  have hs := hs.below hb1; have he := he.below hb1; have hx := hx.below hb1; have d0 := kept hb1 d0; have d1 := kept hb1 d1; have e0 := kept hb1 e0; have e1 := kept hb1 e1; have f0 := kept hb1 f0; have f1 := kept hb1 f1; have hr := hr.below hb1
  rw [← HZ1.out] at h1
  obtain ⟨da_, ua_, usa, rfl, ⟨ga, ka_, rfl, qa⟩, hua, hnea⟩ := id h1; obtain ⟨ja, la_, rfl, hqa_⟩ := id hua; clear hqa_ hua qa hnea
  have hb2 : Below w1.heap.size w1 (w1.alloc (.cells #[.slice (some ⟨ga, 0, none⟩) (Z1).dg.length ka_, .slice (some ⟨ja, 0, none⟩) usa.length la_] 34)) := (by repeat (first | exact Below.refl _ _ | apply blw_drew | apply blw_alloc | (refine blw_set ?_ (by first | omega | (simp; done) | (simp; omega)) _) | refine below_chain ?_ (by assumption)))
  have hs := hs.below hb2; have he := he.below hb2; have hx := hx.below hb2; have d0 := kept hb2 d0; have d1 := kept hb2 d1; have e0 := kept hb2 e0; have e1 := kept hb2 e1; have f0 := kept hb2 f0; have f1 := kept hb2 f1; have hr := hr.below hb2; have h1 := h1.below hb2
  have hN1 : Bx ((w1.alloc (.cells #[.slice (some ⟨ga, 0, none⟩) (Z1).dg.length ka_, .slice (some ⟨ja, 0, none⟩) usa.length la_] 34))) w1.heap.size _ _ := heap_alloc_new w1 _
  have m0 := hN1.c0; have m1 := hN1.c1; clear hN1
  have hzW : w.heap.size + 1 + 1 + 1 + 1 ≤ ((w1.alloc (.cells #[.slice (some ⟨ga, 0, none⟩) (Z1).dg.length ka_, .slice (some ⟨ja, 0, none⟩) usa.length la_] 34))).heap.size := by
    have h_ : (((((w.alloc (.cells #[.int .i64 p, .slice a0 st.length c0] 32)).alloc (.cells #[.slice a1 E.dg.length c1, .slice b1 E.up.length k1] 34)).alloc (.cells #[.slice a2 X.dg.length c2, .slice b2 X.up.length k2] 34)).alloc (.cells #[.slice none 0 0, .slice none 0 0] 34))).heap.size ≤ ((w1.alloc (.cells #[.slice (some ⟨ga, 0, none⟩) (Z1).dg.length ka_, .slice (some ⟨ja, 0, none⟩) usa.length la_] 34))).heap.size := (below_le (by repeat (first | exact Below.refl _ _ | apply blw_drew | apply blw_alloc | (refine blw_set ?_ (by first | omega | (simp; done) | (simp; omega)) _) | refine below_chain ?_ (by assumption))))
    simpa using h_
  go_wp2_with fail
  have hbw0 : Below w.heap.size w (w1.alloc (.cells #[.slice (some ⟨ga, 0, none⟩) (Z1).dg.length ka_, .slice (some ⟨ja, 0, none⟩) usa.length la_] 34)) := (by repeat (first | exact Below.refl _ _ | apply blw_drew | apply blw_alloc | (refine blw_set ?_ (by first | omega | (simp; done) | (simp; omega)) _) | refine below_chain ?_ (by assumption)))
  obtain ⟨Wa, hWa⟩ : ∃ W, W = (w1.alloc (.cells #[.slice (some ⟨ga, 0, none⟩) (Z1).dg.length ka_, .slice (some ⟨ja, 0, none⟩) usa.length la_] 34)) := ⟨_, rfl⟩
  rw [← hWa] at hbw0 hs he hx d0 d1 e0 e1 f0 f1 hr h1 m0 m1 hzW ⊢
  clear hWa
  go_wp2_with fail
  refine (jordan_c hd hs he hE h1.hv i1).mono ?_; rintro e w3 ⟨v2, rfl, h2, hb3⟩
  have hs := hs.below hb3; have he := he.below hb3; have hx := hx.below hb3; have d0 := kept hb3 d0; have d1 := kept hb3 d1; have e0 := kept hb3 e0; have e1 := kept hb3 e1; have f0 := kept hb3 f0; have f1 := kept hb3 f1; have hr := hr.below hb3; have h1 := h1.below hb3; have m0 := kept hb3 m0; have m1 := kept hb3 m1
  rw [← HZ2.out] at h2
  obtain ⟨db_, ub_, usb, rfl, ⟨gb, kb_, rfl, qb⟩, hub, hneb⟩ := id h2; obtain ⟨jb, lb_, rfl, hqb_⟩ := id hub; clear hqb_ hub qb hneb
  have hb4 : Below w3.heap.size w3 (w3.alloc (.cells #[.slice (some ⟨gb, 0, none⟩) (Z2).dg.length kb_, .slice (some ⟨jb, 0, none⟩) usb.length lb_] 34)) := (by repeat (first | exact Below.refl _ _ | apply blw_drew | apply blw_alloc | (refine blw_set ?_ (by first | omega | (simp; done) | (simp; omega)) _) | refine below_chain ?_ (by assumption)))
  have hs := hs.below hb4; have he := he.below hb4; have hx := hx.below hb4; have d0 := kept hb4 d0; have d1 := kept hb4 d1; have e0 := kept hb4 e0; have e1 := kept hb4 e1; have f0 := kept hb4 f0; have f1 := kept hb4 f1; have hr := hr.below hb4; have h1 := h1.below hb4; have m0 := kept hb4 m0; have m1 := kept hb4 m1; have h2 := h2.below hb4
  have hN2 : Bx ((w3.alloc (.cells #[.slice (some ⟨gb, 0, none⟩) (Z2).dg.length kb_, .slice (some ⟨jb, 0, none⟩) usb.length lb_] 34))) w3.heap.size _ _ := heap_alloc_new w3 _
  have t0 := hN2.c0; have t1 := hN2.c1; clear hN2
  have hzV : Wa.heap.size ≤ ((w3.alloc (.cells #[.slice (some ⟨gb, 0, none⟩) (Z2).dg.length kb_, .slice (some ⟨jb, 0, none⟩) usb.length lb_] 34))).heap.size := (below_le (by repeat (first | exact Below.refl _ _ | apply blw_drew | apply blw_alloc | (refine blw_set ?_ (by first | omega | (simp; done) | (simp; omega)) _) | refine below_chain ?_ (by assumption))))
  have hbw0 : Below w.heap.size w (w3.alloc (.cells #[.slice (some ⟨gb, 0, none⟩) (Z2).dg.length kb_, .slice (some ⟨jb, 0, none⟩) usb.length lb_] 34)) := (by repeat (first | exact Below.refl _ _ | apply blw_drew | apply blw_alloc | (refine blw_set ?_ (by first | omega | (simp; done) | (simp; omega)) _) | refine below_chain ?_ (by assumption)))
  go_upto_region 3 with fail
  obtain ⟨W1, hW1⟩ : ∃ W, W = (w3.alloc (.cells #[.slice (some ⟨gb, 0, none⟩) (Z2).dg.length kb_, .slice (some ⟨jb, 0, none⟩) usb.length lb_] 34)) := ⟨_, rfl⟩
  rw [← hW1] at hbw0 hs he hx d0 d1 e0 e1 f0 f1 hr h1 m0 m1 h2 t0 t1 hzV ⊢
  clear hW1
  go_cut [11] (fun s_ wx => ∃ N d u, s_ = .pointer (some ⟨N, 0, none⟩) ∧ W1.heap.size ≤ N ∧ Bx wx N d u ∧ FrH wx W1.heap.size (.agg #[d, u]) (wholeH p st E X) ∧ Below W1.heap.size W1 wx)
  case first =>
    refine region_tq [(0, 1), (1, 1), (2, 1), (4, 1)] (.two 3 5 (.two 5 5 (.lin [(false, [(6, 5)]), (false, [(7, 4)])]) 6 5 (.lin [(false, [(5, 4), (7, 4)])])) 6 5 (.lin [(false, [(3, 5)]), (false, [(5, 4), (7, 4)])])) (by kernel_rfl) ?_
    refine norm_K fun K hK => ?_
    change wpList _ _ _ [_, _, _, _] _ _
    go_wp2_with fail
    have hbq : Below W1.heap.size W1 W1.drew := (by repeat (first | exact Below.refl _ _ | apply blw_drew | apply blw_alloc | (refine blw_set ?_ (by first | omega | (simp; done) | (simp; omega)) _) | refine below_chain ?_ (by assumption)))
    have hs := hs.below hbq; have he := he.below hbq; have hx := hx.below hbq; have hr := hr.below hbq; have h1 := h1.below hbq; have h2 := h2.below hbq; have d0 := kept hbq d0; have d1 := kept hbq d1; have e0 := kept hbq e0; have e1 := kept hbq e1; have f0 := kept hbq f0; have f1 := kept hbq f1; have m0 := kept hbq m0; have m1 := kept hbq m1; have t0 := kept hbq t0; have t1 := kept hbq t1
    have szq : W1.heap.size = W1.drew.heap.size := rfl
    generalize W1.drew = wq at *
    refine hK _ _ ?_; clear hK K
    refine ⟨?_, ?_⟩
    · skip
      refine norm_K fun K hK => ?_
      change wpList _ _ _ [_] _ _
      go_wp2_with fail
      refine (mult_c (k := 2) hd hs h2.hv i2 (by decide) (by decide)).mono ?_; rintro e w41 ⟨v3, rfl, h3, hb41⟩
      have hs := hs.below hb41; have he := he.below hb41; have hx := hx.below hb41; have hr := hr.below hb41; have h1 := h1.below hb41; have h2 := h2.below hb41; have d0 := kept hb41 d0; have d1 := kept hb41 d1; have e0 := kept hb41 e0; have e1 := kept hb41 e1; have f0 := kept hb41 f0; have f1 := kept hb41 f1; have m0 := kept hb41 m0; have m1 := kept hb41 m1; have t0 := kept hb41 t0; have t1 := kept hb41 t1
      have sz41 : wq.heap.size ≤ w41.heap.size := hb41.size
      go_wp2_with fail
      first | (refine hK _ _ ⟨(by repeat (first | exact Below.refl _ _ | apply blw_drew | apply blw_alloc | (refine blw_set ?_ (by first | omega | (simp; done) | (simp; omega)) _) | refine below_chain ?_ (by assumption))), ?_⟩; clear hK K) | refine ⟨(by repeat (first | exact Below.refl _ _ | apply blw_drew | apply blw_alloc | (refine blw_set ?_ (by first | omega | (simp; done) | (simp; omega)) _) | refine below_chain ?_ (by assumption))), ?_⟩
      refine ⟨?_, ?_⟩
      · skip
        refine norm_K fun K hK => ?_
        change wpList _ _ _ [_] _ _
        go_wp2_with fail
        refine (jsum_c (k := -1) hd hs h3.hv i3 h1.hv i1 (by decide) (by decide)).mono ?_; rintro e w42 ⟨v4, rfl, h4, hb42⟩
        have hs := hs.below hb42; have he := he.below hb42; have hx := hx.below hb42; have hr := hr.below hb42; have h1 := h1.below hb42; have h2 := h2.below hb42; have d0 := kept hb42 d0; have d1 := kept hb42 d1; have e0 := kept hb42 e0; have e1 := kept hb42 e1; have f0 := kept hb42 f0; have f1 := kept hb42 f1; have m0 := kept hb42 m0; have m1 := kept hb42 m1; have t0 := kept hb42 t0; have t1 := kept hb42 t1; have h3 := h3.below hb42
        have sz42 : w41.heap.size ≤ w42.heap.size := hb42.size
        rw [← HW.out] at h4
        obtain ⟨dc_, uc_, usc, rfl, ⟨gc, kc_, rfl, qc⟩, huc, hnec⟩ := id h4; obtain ⟨jc, lc_, rfl, hqc_⟩ := id huc; clear hqc_ huc qc hnec
        go_wp2_with fail
        first | (refine hK _ _ ⟨(by repeat (first | exact Below.refl _ _ | apply blw_drew | apply blw_alloc | (refine blw_set ?_ (by first | omega | (simp; done) | (simp; omega)) _) | refine below_chain ?_ (by assumption))), ?_⟩; clear hK K) | refine ⟨(by repeat (first | exact Below.refl _ _ | apply blw_drew | apply blw_alloc | (refine blw_set ?_ (by first | omega | (simp; done) | (simp; omega)) _) | refine below_chain ?_ (by assumption))), ?_⟩
        refine norm_K fun K hK => ?_
        change wpList _ _ _ [_] _ _
        go_wp2_with fail
        have hb43 : Below w42.heap.size w42 (w42.alloc (.cells #[.slice none 0 0, .slice none 0 0] 34)) := (by repeat (first | exact Below.refl _ _ | apply blw_drew | apply blw_alloc | (refine blw_set ?_ (by first | omega | (simp; done) | (simp; omega)) _) | refine below_chain ?_ (by assumption)))
        have h4A := h4; have hbA := hb43
        have hs := hs.below hb43; have he := he.below hb43; have hx := hx.below hb43; have hr := hr.below hb43; have h1 := h1.below hb43; have h2 := h2.below hb43; have d0 := kept hb43 d0; have d1 := kept hb43 d1; have e0 := kept hb43 e0; have e1 := kept hb43 e1; have f0 := kept hb43 f0; have f1 := kept hb43 f1; have m0 := kept hb43 m0; have m1 := kept hb43 m1; have t0 := kept hb43 t0; have t1 := kept hb43 t1; have h3 := h3.below hb43; have h4 := h4.below hb43
        have hN : Bx (w42.alloc (.cells #[.slice none 0 0, .slice none 0 0] 34)) w42.heap.size (.slice none 0 0) (.slice none 0 0) := heap_alloc_new _ _
        have sz43 : w42.heap.size + 1 = (w42.alloc (.cells #[.slice none 0 0, .slice none 0 0] 34)).heap.size := by simp
        go_wp2_with fail
        obtain ⟨w43, hw_⟩ : ∃ x, x = (w42.alloc (.cells #[.slice none 0 0, .slice none 0 0] 34)) := ⟨_, rfl⟩
        rw [← hw_] at hb43 sz43 hs he hx hr h1 h2 d0 d1 e0 e1 f0 f1 m0 m1 t0 t1 h3 h4 hN hbA ⊢; clear hw_
        go_wp2_with fail
        first | (refine hK _ _ ⟨(by repeat (first | exact Below.refl _ _ | apply blw_drew | apply blw_alloc | (refine blw_set ?_ (by first | omega | (simp; done) | (simp; omega)) _) | refine below_chain ?_ (by assumption))), ?_⟩; clear hK K) | refine ⟨(by repeat (first | exact Below.refl _ _ | apply blw_drew | apply blw_alloc | (refine blw_set ?_ (by first | omega | (simp; done) | (simp; omega)) _) | refine below_chain ?_ (by assumption))), ?_⟩
        refine norm_K fun K hK => ?_
        change wpList _ _ _ [_] _ _
        have rc0 := hN.c0; have rc1 := hN.c1; have rf0 := hN.f0; have rf1 := hN.f1
        go_wp2_with fail
        first | (refine hK _ _ ⟨rfl, ?_⟩; clear hK K) | refine ⟨rfl, ?_⟩
        go_wp2_with fail
        go_meet
        case rel => exact ⟨w42.heap.size, _, _, rfl, by omega, (hN.set0 _).set1 _, (h4A.below (blw_set (p := ⟨w42.heap.size, 1, none⟩) (blw_set (p := ⟨w42.heap.size, 0, none⟩) hbA (Nat.le_refl _) _) (Nat.le_refl _) _)).more (by omega), (by repeat (first | exact Below.refl _ _ | apply blw_drew | apply blw_alloc | (refine blw_set ?_ (by first | omega | (simp; done) | (simp; omega)) _) | refine below_chain ?_ (by assumption)))⟩
      · skip
        refine norm_K fun K hK => ?_
        change wpList _ _ _ [_] _ _
        go_wp2_with fail
        have hb42 : Below w41.heap.size w41 (w41.alloc (.cells #[.slice none 0 0, .slice none 0 0] 34)) := (by repeat (first | exact Below.refl _ _ | apply blw_drew | apply blw_alloc | (refine blw_set ?_ (by first | omega | (simp; done) | (simp; omega)) _) | refine below_chain ?_ (by assumption)))
        have hs := hs.below hb42; have he := he.below hb42; have hx := hx.below hb42; have hr := hr.below hb42; have h1 := h1.below hb42; have h2 := h2.below hb42; have d0 := kept hb42 d0; have d1 := kept hb42 d1; have e0 := kept hb42 e0; have e1 := kept hb42 e1; have f0 := kept hb42 f0; have f1 := kept hb42 f1; have m0 := kept hb42 m0; have m1 := kept hb42 m1; have t0 := kept hb42 t0; have t1 := kept hb42 t1; have h3 := h3.below hb42
        have hN : Bx (w41.alloc (.cells #[.slice none 0 0, .slice none 0 0] 34)) w41.heap.size (.slice none 0 0) (.slice none 0 0) := heap_alloc_new _ _
        have sz42 : w41.heap.size + 1 = (w41.alloc (.cells #[.slice none 0 0, .slice none 0 0] 34)).heap.size := by simp
        go_wp2_with fail
        obtain ⟨w42, hw_⟩ : ∃ x, x = (w41.alloc (.cells #[.slice none 0 0, .slice none 0 0] 34)) := ⟨_, rfl⟩
        rw [← hw_] at hb42 sz42 hs he hx hr h1 h2 d0 d1 e0 e1 f0 f1 m0 m1 t0 t1 h3 hN ⊢; clear hw_
        go_wp2_with fail
        first | (refine hK _ _ ⟨(by repeat (first | exact Below.refl _ _ | apply blw_drew | apply blw_alloc | (refine blw_set ?_ (by first | omega | (simp; done) | (simp; omega)) _) | refine below_chain ?_ (by assumption))), ?_⟩; clear hK K) | refine ⟨(by repeat (first | exact Below.refl _ _ | apply blw_drew | apply blw_alloc | (refine blw_set ?_ (by first | omega | (simp; done) | (simp; omega)) _) | refine below_chain ?_ (by assumption))), ?_⟩
        refine norm_K fun K hK => ?_
        change wpList _ _ _ [_, _] _ _
        go_wp2_with fail
        refine (jsum_c (k := -1) hd hs h3.hv i3 h1.hv i1 (by decide) (by decide)).mono ?_; rintro e w43 ⟨v4, rfl, h4, hb43⟩
        have hs := hs.below hb43; have he := he.below hb43; have hx := hx.below hb43; have hr := hr.below hb43; have h1 := h1.below hb43; have h2 := h2.below hb43; have d0 := kept hb43 d0; have d1 := kept hb43 d1; have e0 := kept hb43 e0; have e1 := kept hb43 e1; have f0 := kept hb43 f0; have f1 := kept hb43 f1; have m0 := kept hb43 m0; have m1 := kept hb43 m1; have t0 := kept hb43 t0; have t1 := kept hb43 t1; have h3 := h3.below hb43; have hN := hN.below hb43
        have sz43 : w42.heap.size ≤ w43.heap.size := hb43.size
        rw [← HW.out] at h4
        obtain ⟨dc_, uc_, usc, rfl, ⟨gc, kc_, rfl, qc⟩, huc, hnec⟩ := id h4; obtain ⟨jc, lc_, rfl, hqc_⟩ := id huc; clear hqc_ huc qc hnec
        have rc0 := hN.c0; have rc1 := hN.c1; have rf0 := hN.f0; have rf1 := hN.f1
        go_wp2_with fail
        first | (refine hK _ _ ⟨rfl, ?_⟩; clear hK K) | refine ⟨rfl, ?_⟩
        go_wp2_with fail
        go_meet
        case rel => exact ⟨w41.heap.size, _, _, rfl, by omega, (hN.set0 _).set1 _, ((h4.set_ (p := ⟨w41.heap.size, 0, none⟩) (show w41.heap.size < _ by omega) _).set_ (p := ⟨w41.heap.size, 1, none⟩) (show w41.heap.size < _ by omega) _).more (by omega), (by repeat (first | exact Below.refl _ _ | apply blw_drew | apply blw_alloc | (refine blw_set ?_ (by first | omega | (simp; done) | (simp; omega)) _) | refine below_chain ?_ (by assumption)))⟩
    · skip
      refine norm_K fun K hK => ?_
      change wpList _ _ _ [_] _ _
      go_wp2_with fail
      have hb41 : Below wq.heap.size wq (wq.alloc (.cells #[.slice none 0 0, .slice none 0 0] 34)) := (by repeat (first | exact Below.refl _ _ | apply blw_drew | apply blw_alloc | (refine blw_set ?_ (by first | omega | (simp; done) | (simp; omega)) _) | refine below_chain ?_ (by assumption)))
      have hs := hs.below hb41; have he := he.below hb41; have hx := hx.below hb41; have hr := hr.below hb41; have h1 := h1.below hb41; have h2 := h2.below hb41; have d0 := kept hb41 d0; have d1 := kept hb41 d1; have e0 := kept hb41 e0; have e1 := kept hb41 e1; have f0 := kept hb41 f0; have f1 := kept hb41 f1; have m0 := kept hb41 m0; have m1 := kept hb41 m1; have t0 := kept hb41 t0; have t1 := kept hb41 t1
      have hN : Bx (wq.alloc (.cells #[.slice none 0 0, .slice none 0 0] 34)) wq.heap.size (.slice none 0 0) (.slice none 0 0) := heap_alloc_new _ _
      have sz41 : wq.heap.size + 1 = (wq.alloc (.cells #[.slice none 0 0, .slice none 0 0] 34)).heap.size := by simp
      go_wp2_with fail
      obtain ⟨w41, hw_⟩ : ∃ x, x = (wq.alloc (.cells #[.slice none 0 0, .slice none 0 0] 34)) := ⟨_, rfl⟩
      rw [← hw_] at hb41 sz41 hs he hx hr h1 h2 d0 d1 e0 e1 f0 f1 m0 m1 t0 t1 hN ⊢; clear hw_
      go_wp2_with fail
      first | (refine hK _ _ ⟨(by repeat (first | exact Below.refl _ _ | apply blw_drew | apply blw_alloc | (refine blw_set ?_ (by first | omega | (simp; done) | (simp; omega)) _) | refine below_chain ?_ (by assumption))), ?_⟩; clear hK K) | refine ⟨(by repeat (first | exact Below.refl _ _ | apply blw_drew | apply blw_alloc | (refine blw_set ?_ (by first | omega | (simp; done) | (simp; omega)) _) | refine below_chain ?_ (by assumption))), ?_⟩
      refine norm_K fun K hK => ?_
      change wpList _ _ _ [_] _ _
      go_wp2_with fail
      refine (mult_c (k := 2) hd hs h2.hv i2 (by decide) (by decide)).mono ?_; rintro e w42 ⟨v3, rfl, h3, hb42⟩
      have hs := hs.below hb42; have he := he.below hb42; have hx := hx.below hb42; have hr := hr.below hb42; have h1 := h1.below hb42; have h2 := h2.below hb42; have d0 := kept hb42 d0; have d1 := kept hb42 d1; have e0 := kept hb42 e0; have e1 := kept hb42 e1; have f0 := kept hb42 f0; have f1 := kept hb42 f1; have m0 := kept hb42 m0; have m1 := kept hb42 m1; have t0 := kept hb42 t0; have t1 := kept hb42 t1; have hN := hN.below hb42
      have sz42 : w41.heap.size ≤ w42.heap.size := hb42.size
      go_wp2_with fail
      first | (refine hK _ _ ⟨(by repeat (first | exact Below.refl _ _ | apply blw_drew | apply blw_alloc | (refine blw_set ?_ (by first | omega | (simp; done) | (simp; omega)) _) | refine below_chain ?_ (by assumption))), ?_⟩; clear hK K) | refine ⟨(by repeat (first | exact Below.refl _ _ | apply blw_drew | apply blw_alloc | (refine blw_set ?_ (by first | omega | (simp; done) | (simp; omega)) _) | refine below_chain ?_ (by assumption))), ?_⟩
      refine norm_K fun K hK => ?_
      change wpList _ _ _ [_, _] _ _
      go_wp2_with fail
      refine (jsum_c (k := -1) hd hs h3.hv i3 h1.hv i1 (by decide) (by decide)).mono ?_; rintro e w43 ⟨v4, rfl, h4, hb43⟩
      have hs := hs.below hb43; have he := he.below hb43; have hx := hx.below hb43; have hr := hr.below hb43; have h1 := h1.below hb43; have h2 := h2.below hb43; have d0 := kept hb43 d0; have d1 := kept hb43 d1; have e0 := kept hb43 e0; have e1 := kept hb43 e1; have f0 := kept hb43 f0; have f1 := kept hb43 f1; have m0 := kept hb43 m0; have m1 := kept hb43 m1; have t0 := kept hb43 t0; have t1 := kept hb43 t1; have hN := hN.below hb43; have h3 := h3.below hb43
      have sz43 : w42.heap.size ≤ w43.heap.size := hb43.size
      rw [← HW.out] at h4
      obtain ⟨dc_, uc_, usc, rfl, ⟨gc, kc_, rfl, qc⟩, huc, hnec⟩ := id h4; obtain ⟨jc, lc_, rfl, hqc_⟩ := id huc; clear hqc_ huc qc hnec
      have rc0 := hN.c0; have rc1 := hN.c1; have rf0 := hN.f0; have rf1 := hN.f1
      go_wp2_with fail
      first | (refine hK _ _ ⟨rfl, ?_⟩; clear hK K) | refine ⟨rfl, ?_⟩
      go_wp2_with fail
      go_meet
      case rel => exact ⟨wq.heap.size, _, _, rfl, by omega, (hN.set0 _).set1 _, ((h4.set_ (p := ⟨wq.heap.size, 0, none⟩) (show wq.heap.size < _ by omega) _).set_ (p := ⟨wq.heap.size, 1, none⟩) (show wq.heap.size < _ by omega) _).more (by omega), (by repeat (first | exact Below.refl _ _ | apply blw_drew | apply blw_alloc | (refine blw_set ?_ (by first | omega | (simp; done) | (simp; omega)) _) | refine below_chain ?_ (by assumption)))⟩
  case' rest => skip
  obtain ⟨N0, dN, uN, rfl, hN0, hN, hF, hbC⟩ := hcut
  have hs := hs.below hbC; have he := he.below hbC; have hx := hx.below hbC; have hr := hr.below hbC; have h1 := h1.below hbC; have h2 := h2.below hbC; have d0 := kept hbC d0; have d1 := kept hbC d1; have e0 := kept hbC e0; have e1 := kept hbC e1; have f0 := kept hbC f0; have f1 := kept hbC f1; have m0 := kept hbC m0; have m1 := kept hbC m1; have t0 := kept hbC t0; have t1 := kept hbC t1
  have n0 := hN.c0; have n1 := hN.c1; have hF1 := hF; have hzW1 := hbC.size; clear hN hF
  go_upto_region 4 with fail
  obtain ⟨W2, hW2⟩ : ∃ x, x = wc := ⟨_, rfl⟩
  rw [← hW2] at hs he hx hr h1 h2 d0 d1 e0 e1 f0 f1 m0 m1 t0 t1 n0 n1 hF1 hbC hzW1 ⊢; clear hW2
  have hbC1 := hbC; clear hbC hN0
  go_cut [12] (fun s_ wx => ∃ N d u, s_ = .pointer (some ⟨N, 0, none⟩) ∧ W2.heap.size ≤ N ∧ Bx wx N d u ∧ FrH wx W2.heap.size (.agg #[d, u]) (halfP p st E X) ∧ Below W2.heap.size W2 wx)
  case first =>
    refine region_tq [(0, 1), (1, 1), (2, 1), (3, 1)] (.two 4 5 (.two 5 5 (.lin [(false, [(6, 5)]), (false, [(7, 4)])]) 6 5 (.lin [(false, [(5, 4), (7, 4)])])) 6 5 (.lin [(false, [(4, 5)]), (false, [(5, 4), (7, 4)])])) (by kernel_rfl) ?_
    refine norm_K fun K hK => ?_
    change wpList _ _ _ [_, _, _, _] _ _
    go_wp2_with fail
    have hbq : Below W2.heap.size W2 W2.drew := (by repeat (first | exact Below.refl _ _ | apply blw_drew | apply blw_alloc | (refine blw_set ?_ (by first | omega | (simp; done) | (simp; omega)) _) | refine below_chain ?_ (by assumption)))
    have hs := hs.below hbq; have he := he.below hbq; have hx := hx.below hbq; have hr := hr.below hbq; have h1 := h1.below hbq; have h2 := h2.below hbq; have d0 := kept hbq d0; have d1 := kept hbq d1; have e0 := kept hbq e0; have e1 := kept hbq e1; have f0 := kept hbq f0; have f1 := kept hbq f1; have m0 := kept hbq m0; have m1 := kept hbq m1; have t0 := kept hbq t0; have t1 := kept hbq t1; have hF1 := hF1.below hbq; have n0 := kept hbq n0; have n1 := kept hbq n1
    have szq : W2.heap.size = W2.drew.heap.size := rfl
    generalize W2.drew = wq at *
    refine hK _ _ ?_; clear hK K
    refine ⟨?_, ?_⟩
    · skip
      refine norm_K fun K hK => ?_
      change wpList _ _ _ [_] _ _
      go_wp2_with fail
      refine (jsum_c (k := -1) hd hs h1.hv i1 h2.hv i2 (by decide) (by decide)).mono ?_; rintro e w41 ⟨v5, rfl, h5, hb41⟩
      have hs := hs.below hb41; have he := he.below hb41; have hx := hx.below hb41; have hr := hr.below hb41; have h1 := h1.below hb41; have h2 := h2.below hb41; have d0 := kept hb41 d0; have d1 := kept hb41 d1; have e0 := kept hb41 e0; have e1 := kept hb41 e1; have f0 := kept hb41 f0; have f1 := kept hb41 f1; have m0 := kept hb41 m0; have m1 := kept hb41 m1; have t0 := kept hb41 t0; have t1 := kept hb41 t1; have hF1 := hF1.below hb41; have n0 := kept hb41 n0; have n1 := kept hb41 n1
      have sz41 : wq.heap.size ≤ w41.heap.size := hb41.size
      go_wp2_with fail
      first | (refine hK _ _ ⟨(by repeat (first | exact Below.refl _ _ | apply blw_drew | apply blw_alloc | (refine blw_set ?_ (by first | omega | (simp; done) | (simp; omega)) _) | refine below_chain ?_ (by assumption))), ?_⟩; clear hK K) | refine ⟨(by repeat (first | exact Below.refl _ _ | apply blw_drew | apply blw_alloc | (refine blw_set ?_ (by first | omega | (simp; done) | (simp; omega)) _) | refine below_chain ?_ (by assumption))), ?_⟩
      refine ⟨?_, ?_⟩
      · skip
        refine norm_K fun K hK => ?_
        change wpList _ _ _ [_] _ _
        go_wp2_with fail
        refine (mult_c (k := 4) hd hs h5.hv i4 (by decide) (by decide)).mono ?_; rintro e w42 ⟨v6, rfl, h6, hb42⟩
        have hs := hs.below hb42; have he := he.below hb42; have hx := hx.below hb42; have hr := hr.below hb42; have h1 := h1.below hb42; have h2 := h2.below hb42; have d0 := kept hb42 d0; have d1 := kept hb42 d1; have e0 := kept hb42 e0; have e1 := kept hb42 e1; have f0 := kept hb42 f0; have f1 := kept hb42 f1; have m0 := kept hb42 m0; have m1 := kept hb42 m1; have t0 := kept hb42 t0; have t1 := kept hb42 t1; have hF1 := hF1.below hb42; have n0 := kept hb42 n0; have n1 := kept hb42 n1; have h5 := h5.below hb42
        have sz42 : w41.heap.size ≤ w42.heap.size := hb42.size
        rw [← HF.out] at h6
        obtain ⟨de_, ue_, use, rfl, ⟨ge, ke_, rfl, qe⟩, hue, hnee⟩ := id h6; obtain ⟨je, le_, rfl, hqe_⟩ := id hue; clear hqe_ hue qe hnee
        go_wp2_with fail
        first | (refine hK _ _ ⟨(by repeat (first | exact Below.refl _ _ | apply blw_drew | apply blw_alloc | (refine blw_set ?_ (by first | omega | (simp; done) | (simp; omega)) _) | refine below_chain ?_ (by assumption))), ?_⟩; clear hK K) | refine ⟨(by repeat (first | exact Below.refl _ _ | apply blw_drew | apply blw_alloc | (refine blw_set ?_ (by first | omega | (simp; done) | (simp; omega)) _) | refine below_chain ?_ (by assumption))), ?_⟩
        refine norm_K fun K hK => ?_
        change wpList _ _ _ [_] _ _
        go_wp2_with fail
        have hb43 : Below w42.heap.size w42 (w42.alloc (.cells #[.slice none 0 0, .slice none 0 0] 34)) := (by repeat (first | exact Below.refl _ _ | apply blw_drew | apply blw_alloc | (refine blw_set ?_ (by first | omega | (simp; done) | (simp; omega)) _) | refine below_chain ?_ (by assumption)))
        have h6A := h6; have hbA := hb43
        have hs := hs.below hb43; have he := he.below hb43; have hx := hx.below hb43; have hr := hr.below hb43; have h1 := h1.below hb43; have h2 := h2.below hb43; have d0 := kept hb43 d0; have d1 := kept hb43 d1; have e0 := kept hb43 e0; have e1 := kept hb43 e1; have f0 := kept hb43 f0; have f1 := kept hb43 f1; have m0 := kept hb43 m0; have m1 := kept hb43 m1; have t0 := kept hb43 t0; have t1 := kept hb43 t1; have hF1 := hF1.below hb43; have n0 := kept hb43 n0; have n1 := kept hb43 n1; have h5 := h5.below hb43; have h6 := h6.below hb43
        have hN : Bx (w42.alloc (.cells #[.slice none 0 0, .slice none 0 0] 34)) w42.heap.size (.slice none 0 0) (.slice none 0 0) := heap_alloc_new _ _
        have sz43 : w42.heap.size + 1 = (w42.alloc (.cells #[.slice none 0 0, .slice none 0 0] 34)).heap.size := by simp
        go_wp2_with fail
        obtain ⟨w43, hw_⟩ : ∃ x, x = (w42.alloc (.cells #[.slice none 0 0, .slice none 0 0] 34)) := ⟨_, rfl⟩
        rw [← hw_] at hb43 sz43 hs he hx hr h1 h2 d0 d1 e0 e1 f0 f1 m0 m1 t0 t1 hF1 n0 n1 h5 h6 hN hbA ⊢; clear hw_
        go_wp2_with fail
        first | (refine hK _ _ ⟨(by repeat (first | exact Below.refl _ _ | apply blw_drew | apply blw_alloc | (refine blw_set ?_ (by first | omega | (simp; done) | (simp; omega)) _) | refine below_chain ?_ (by assumption))), ?_⟩; clear hK K) | refine ⟨(by repeat (first | exact Below.refl _ _ | apply blw_drew | apply blw_alloc | (refine blw_set ?_ (by first | omega | (simp; done) | (simp; omega)) _) | refine below_chain ?_ (by assumption))), ?_⟩
        refine norm_K fun K hK => ?_
        change wpList _ _ _ [_] _ _
        have rc0 := hN.c0; have rc1 := hN.c1; have rf0 := hN.f0; have rf1 := hN.f1
        go_wp2_with fail
        first | (refine hK _ _ ⟨rfl, ?_⟩; clear hK K) | refine ⟨rfl, ?_⟩
        go_wp2_with fail
        go_meet
        case rel => exact ⟨w42.heap.size, _, _, rfl, by omega, (hN.set0 _).set1 _, (h6A.below (blw_set (p := ⟨w42.heap.size, 1, none⟩) (blw_set (p := ⟨w42.heap.size, 0, none⟩) hbA (Nat.le_refl _) _) (Nat.le_refl _) _)).more (by omega), (by repeat (first | exact Below.refl _ _ | apply blw_drew | apply blw_alloc | (refine blw_set ?_ (by first | omega | (simp; done) | (simp; omega)) _) | refine below_chain ?_ (by assumption)))⟩
      · skip
        refine norm_K fun K hK => ?_
        change wpList _ _ _ [_] _ _
        go_wp2_with fail
        have hb42 : Below w41.heap.size w41 (w41.alloc (.cells #[.slice none 0 0, .slice none 0 0] 34)) := (by repeat (first | exact Below.refl _ _ | apply blw_drew | apply blw_alloc | (refine blw_set ?_ (by first | omega | (simp; done) | (simp; omega)) _) | refine below_chain ?_ (by assumption)))
        have hs := hs.below hb42; have he := he.below hb42; have hx := hx.below hb42; have hr := hr.below hb42; have h1 := h1.below hb42; have h2 := h2.below hb42; have d0 := kept hb42 d0; have d1 := kept hb42 d1; have e0 := kept hb42 e0; have e1 := kept hb42 e1; have f0 := kept hb42 f0; have f1 := kept hb42 f1; have m0 := kept hb42 m0; have m1 := kept hb42 m1; have t0 := kept hb42 t0; have t1 := kept hb42 t1; have hF1 := hF1.below hb42; have n0 := kept hb42 n0; have n1 := kept hb42 n1; have h5 := h5.below hb42
        have hN : Bx (w41.alloc (.cells #[.slice none 0 0, .slice none 0 0] 34)) w41.heap.size (.slice none 0 0) (.slice none 0 0) := heap_alloc_new _ _
        have sz42 : w41.heap.size + 1 = (w41.alloc (.cells #[.slice none 0 0, .slice none 0 0] 34)).heap.size := by simp
        go_wp2_with fail
        obtain ⟨w42, hw_⟩ : ∃ x, x = (w41.alloc (.cells #[.slice none 0 0, .slice none 0 0] 34)) := ⟨_, rfl⟩
        rw [← hw_] at hb42 sz42 hs he hx hr h1 h2 d0 d1 e0 e1 f0 f1 m0 m1 t0 t1 hF1 n0 n1 h5 hN ⊢; clear hw_
        go_wp2_with fail
        first | (refine hK _ _ ⟨(by repeat (first | exact Below.refl _ _ | apply blw_drew | apply blw_alloc | (refine blw_set ?_ (by first | omega | (simp; done) | (simp; omega)) _) | refine below_chain ?_ (by assumption))), ?_⟩; clear hK K) | refine ⟨(by repeat (first | exact Below.refl _ _ | apply blw_drew | apply blw_alloc | (refine blw_set ?_ (by first | omega | (simp; done) | (simp; omega)) _) | refine below_chain ?_ (by assumption))), ?_⟩
        refine norm_K fun K hK => ?_
        change wpList _ _ _ [_, _] _ _
        go_wp2_with fail
        refine (mult_c (k := 4) hd hs h5.hv i4 (by decide) (by decide)).mono ?_; rintro e w43 ⟨v6, rfl, h6, hb43⟩
        have hs := hs.below hb43; have he := he.below hb43; have hx := hx.below hb43; have hr := hr.below hb43; have h1 := h1.below hb43; have h2 := h2.below hb43; have d0 := kept hb43 d0; have d1 := kept hb43 d1; have e0 := kept hb43 e0; have e1 := kept hb43 e1; have f0 := kept hb43 f0; have f1 := kept hb43 f1; have m0 := kept hb43 m0; have m1 := kept hb43 m1; have t0 := kept hb43 t0; have t1 := kept hb43 t1; have hF1 := hF1.below hb43; have n0 := kept hb43 n0; have n1 := kept hb43 n1; have h5 := h5.below hb43; have hN := hN.below hb43
        have sz43 : w42.heap.size ≤ w43.heap.size := hb43.size
        rw [← HF.out] at h6
        obtain ⟨de_, ue_, use, rfl, ⟨ge, ke_, rfl, qe⟩, hue, hnee⟩ := id h6; obtain ⟨je, le_, rfl, hqe_⟩ := id hue; clear hqe_ hue qe hnee
        have rc0 := hN.c0; have rc1 := hN.c1; have rf0 := hN.f0; have rf1 := hN.f1
        go_wp2_with fail
        first | (refine hK _ _ ⟨rfl, ?_⟩; clear hK K) | refine ⟨rfl, ?_⟩
        go_wp2_with fail
        go_meet
        case rel => exact ⟨w41.heap.size, _, _, rfl, by omega, (hN.set0 _).set1 _, ((h6.set_ (p := ⟨w41.heap.size, 0, none⟩) (show w41.heap.size < _ by omega) _).set_ (p := ⟨w41.heap.size, 1, none⟩) (show w41.heap.size < _ by omega) _).more (by omega), (by repeat (first | exact Below.refl _ _ | apply blw_drew | apply blw_alloc | (refine blw_set ?_ (by first | omega | (simp; done) | (simp; omega)) _) | refine below_chain ?_ (by assumption)))⟩
    · skip
      refine norm_K fun K hK => ?_
      change wpList _ _ _ [_] _ _
      go_wp2_with fail
      have hb41 : Below wq.heap.size wq (wq.alloc (.cells #[.slice none 0 0, .slice none 0 0] 34)) := (by repeat (first | exact Below.refl _ _ | apply blw_drew | apply blw_alloc | (refine blw_set ?_ (by first | omega | (simp; done) | (simp; omega)) _) | refine below_chain ?_ (by assumption)))
      have hs := hs.below hb41; have he := he.below hb41; have hx := hx.below hb41; have hr := hr.below hb41; have h1 := h1.below hb41; have h2 := h2.below hb41; have d0 := kept hb41 d0; have d1 := kept hb41 d1; have e0 := kept hb41 e0; have e1 := kept hb41 e1; have f0 := kept hb41 f0; have f1 := kept hb41 f1; have m0 := kept hb41 m0; have m1 := kept hb41 m1; have t0 := kept hb41 t0; have t1 := kept hb41 t1; have hF1 := hF1.below hb41; have n0 := kept hb41 n0; have n1 := kept hb41 n1
      have hN : Bx (wq.alloc (.cells #[.slice none 0 0, .slice none 0 0] 34)) wq.heap.size (.slice none 0 0) (.slice none 0 0) := heap_alloc_new _ _
      have sz41 : wq.heap.size + 1 = (wq.alloc (.cells #[.slice none 0 0, .slice none 0 0] 34)).heap.size := by simp
      go_wp2_with fail
      obtain ⟨w41, hw_⟩ : ∃ x, x = (wq.alloc (.cells #[.slice none 0 0, .slice none 0 0] 34)) := ⟨_, rfl⟩
      rw [← hw_] at hb41 sz41 hs he hx hr h1 h2 d0 d1 e0 e1 f0 f1 m0 m1 t0 t1 hF1 n0 n1 hN ⊢; clear hw_
      go_wp2_with fail
      first | (refine hK _ _ ⟨(by repeat (first | exact Below.refl _ _ | apply blw_drew | apply blw_alloc | (refine blw_set ?_ (by first | omega | (simp; done) | (simp; omega)) _) | refine below_chain ?_ (by assumption))), ?_⟩; clear hK K) | refine ⟨(by repeat (first | exact Below.refl _ _ | apply blw_drew | apply blw_alloc | (refine blw_set ?_ (by first | omega | (simp; done) | (simp; omega)) _) | refine below_chain ?_ (by assumption))), ?_⟩
      refine norm_K fun K hK => ?_
      change wpList _ _ _ [_] _ _
      go_wp2_with fail
      refine (jsum_c (k := -1) hd hs h1.hv i1 h2.hv i2 (by decide) (by decide)).mono ?_; rintro e w42 ⟨v5, rfl, h5, hb42⟩
      have hs := hs.below hb42; have he := he.below hb42; have hx := hx.below hb42; have hr := hr.below hb42; have h1 := h1.below hb42; have h2 := h2.below hb42; have d0 := kept hb42 d0; have d1 := kept hb42 d1; have e0 := kept hb42 e0; have e1 := kept hb42 e1; have f0 := kept hb42 f0; have f1 := kept hb42 f1; have m0 := kept hb42 m0; have m1 := kept hb42 m1; have t0 := kept hb42 t0; have t1 := kept hb42 t1; have hF1 := hF1.below hb42; have n0 := kept hb42 n0; have n1 := kept hb42 n1; have hN := hN.below hb42
      have sz42 : w41.heap.size ≤ w42.heap.size := hb42.size
      go_wp2_with fail
      first | (refine hK _ _ ⟨(by repeat (first | exact Below.refl _ _ | apply blw_drew | apply blw_alloc | (refine blw_set ?_ (by first | omega | (simp; done) | (simp; omega)) _) | refine below_chain ?_ (by assumption))), ?_⟩; clear hK K) | refine ⟨(by repeat (first | exact Below.refl _ _ | apply blw_drew | apply blw_alloc | (refine blw_set ?_ (by first | omega | (simp; done) | (simp; omega)) _) | refine below_chain ?_ (by assumption))), ?_⟩
      refine norm_K fun K hK => ?_
      change wpList _ _ _ [_, _] _ _
      go_wp2_with fail
      refine (mult_c (k := 4) hd hs h5.hv i4 (by decide) (by decide)).mono ?_; rintro e w43 ⟨v6, rfl, h6, hb43⟩
      have hs := hs.below hb43; have he := he.below hb43; have hx := hx.below hb43; have hr := hr.below hb43; have h1 := h1.below hb43; have h2 := h2.below hb43; have d0 := kept hb43 d0; have d1 := kept hb43 d1; have e0 := kept hb43 e0; have e1 := kept hb43 e1; have f0 := kept hb43 f0; have f1 := kept hb43 f1; have m0 := kept hb43 m0; have m1 := kept hb43 m1; have t0 := kept hb43 t0; have t1 := kept hb43 t1; have hF1 := hF1.below hb43; have n0 := kept hb43 n0; have n1 := kept hb43 n1; have hN := hN.below hb43; have h5 := h5.below hb43
      have sz43 : w42.heap.size ≤ w43.heap.size := hb43.size
      rw [← HF.out] at h6
      obtain ⟨de_, ue_, use, rfl, ⟨ge, ke_, rfl, qe⟩, hue, hnee⟩ := id h6; obtain ⟨je, le_, rfl, hqe_⟩ := id hue; clear hqe_ hue qe hnee
      have rc0 := hN.c0; have rc1 := hN.c1; have rf0 := hN.f0; have rf1 := hN.f1
      go_wp2_with fail
      first | (refine hK _ _ ⟨rfl, ?_⟩; clear hK K) | refine ⟨rfl, ?_⟩
      go_wp2_with fail
      go_meet
      case rel => exact ⟨wq.heap.size, _, _, rfl, by omega, (hN.set0 _).set1 _, ((h6.set_ (p := ⟨wq.heap.size, 0, none⟩) (show wq.heap.size < _ by omega) _).set_ (p := ⟨wq.heap.size, 1, none⟩) (show wq.heap.size < _ by omega) _).more (by omega), (by repeat (first | exact Below.refl _ _ | apply blw_drew | apply blw_alloc | (refine blw_set ?_ (by first | omega | (simp; done) | (simp; omega)) _) | refine below_chain ?_ (by assumption)))⟩
  case' rest => skip
  obtain ⟨N0, dN, uN, rfl, hN0, hN, hF, hbC⟩ := hcut
  have hs := hs.below hbC; have he := he.below hbC; have hx := hx.below hbC; have hr := hr.below hbC; have h1 := h1.below hbC; have h2 := h2.below hbC; have d0 := kept hbC d0; have d1 := kept hbC d1; have e0 := kept hbC e0; have e1 := kept hbC e1; have f0 := kept hbC f0; have f1 := kept hbC f1; have m0 := kept hbC m0; have m1 := kept hbC m1; have t0 := kept hbC t0; have t1 := kept hbC t1; have hF1 := hF1.below hbC; have n0 := kept hbC n0; have n1 := kept hbC n1
  have o0 := hN.c0; have o1 := hN.c1; have hzW2 := hbC.size; clear hN
  by_cases hk2 : k = 2
  · subst hk2
    obtain ⟨df_, uf_, usf, ef_, ⟨gf, kf_, rfl, qf⟩, huf, hnef⟩ := id hF1; cases ef_; obtain ⟨jf, lf_, rfl, hqf_⟩ := id huf; clear hqf_; have hul : usf.length = 3 := by obtain ⟨_, _, _, _, h, _⟩ := huf; exact h
    have HU := Lib.hid hul; clear hul
    have hu3 : (wholeH p st E X).up.length = 3 := (isH_parts iW).2.2.1
    have hu4 : (wholeH p st E X).dg.length = 3 := (isH_parts iW).1
    have rc0 := hr.c0; have rc1 := hr.c1; have rf0 := hr.f0; have rf1 := hr.f1
    go_wp2_with fail
    refine bodyPost_ret (v := .agg #[.slice (some ⟨gf, 0, none⟩) (wholeH p st E X).dg.length kf_, .slice (some ⟨jf, 0, none⟩) usf.length lf_]) (by simp [results, Tryz.results32, go_sem, rc0, rc1, HU.out, hu3, hu4]) rfl ⟨_, rfl, ?_, ?_⟩
    · rw [show peirH p st E X 2 = wholeH p st E X from rfl]; exact ((hF1.set_ (by first | omega | (simp; done) | (simp; omega)) _).set_ (by first | omega | (simp; done) | (simp; omega)) _).more (by omega)
    · exact blw_set (blw_set (by repeat (first | exact Below.refl _ _ | apply blw_drew | apply blw_alloc | (refine blw_set ?_ (by first | omega | (simp; done) | (simp; omega)) _) | refine below_chain ?_ (by assumption))) (by first | omega | (simp; done) | (simp; omega)) _) (by first | omega | (simp; done) | (simp; omega)) _
  by_cases hk1 : k = 1
  · subst hk1
    obtain ⟨df_, uf_, usf, ef_, ⟨gf, kf_, rfl, qf⟩, huf, hnef⟩ := id hF; cases ef_; obtain ⟨jf, lf_, rfl, hqf_⟩ := id huf; clear hqf_; have hul : usf.length = 3 := by obtain ⟨_, _, _, _, h, _⟩ := huf; exact h
    have HU := Lib.hid hul; clear hul
    have hu3 : (halfP p st E X).up.length = 3 := (isH_parts iF).2.2.1
    have hu4 : (halfP p st E X).dg.length = 3 := (isH_parts iF).1
    have rc0 := hr.c0; have rc1 := hr.c1; have rf0 := hr.f0; have rf1 := hr.f1
    go_wp2_with fail
    refine bodyPost_ret (v := .agg #[.slice (some ⟨gf, 0, none⟩) (halfP p st E X).dg.length kf_, .slice (some ⟨jf, 0, none⟩) usf.length lf_]) (by simp [results, Tryz.results32, go_sem, rc0, rc1, HU.out, hu3, hu4]) rfl ⟨_, rfl, ?_, ?_⟩
    · rw [show peirH p st E X 1 = halfP p st E X from rfl]; exact ((hF.set_ (by first | omega | (simp; done) | (simp; omega)) _).set_ (by first | omega | (simp; done) | (simp; omega)) _).more (by omega)
    · exact blw_set (blw_set (by repeat (first | exact Below.refl _ _ | apply blw_drew | apply blw_alloc | (refine blw_set ?_ (by first | omega | (simp; done) | (simp; omega)) _) | refine below_chain ?_ (by assumption))) (by first | omega | (simp; done) | (simp; omega)) _) (by first | omega | (simp; done) | (simp; omega)) _
  have hb2 : (k == 2) = false := by simpa using hk2
  have hb1_ : (k == 1) = false := by simpa using hk1
  have hPk : peirH p st E X k = sumH p (sumH p X (-1) (wholeH p st E X)) (-1) (halfP p st E X) := by unfold peirH; rw [if_neg hk2, if_neg hk1]
  have HPK := Lib.hid hPk; clear hk1 hk2 hPk
  go_wp2_with fail
  refine region_flow [(false, [(0, 1), (1, 1), (2, 1), (3, 1), (5, 1), (4, 5)]), (false, [(6, 4), (7, 4)])] (by kernel_rfl) ?_
  refine norm_K fun K hK => ?_
  change wpList _ _ _ [_, _, _, _, _, _] _ _
  have hb21 : Below wc.heap.size wc wc.drew := (by repeat (first | exact Below.refl _ _ | apply blw_drew | apply blw_alloc | (refine blw_set ?_ (by first | omega | (simp; done) | (simp; omega)) _) | refine below_chain ?_ (by assumption)))
  have hs := hs.below hb21; have he := he.below hb21; have hx := hx.below hb21; have hr := hr.below hb21; have hF1 := hF1.below hb21; have hF := hF.below hb21; have d0 := kept hb21 d0; have d1 := kept hb21 d1; have e0 := kept hb21 e0; have e1 := kept hb21 e1; have f0 := kept hb21 f0; have f1 := kept hb21 f1; have n0 := kept hb21 n0; have n1 := kept hb21 n1; have o0 := kept hb21 o0; have o1 := kept hb21 o1
  generalize wc.drew = wq at *
  have hzq_ : wc.heap.size ≤ wq.heap.size := (below_le (by repeat (first | exact Below.refl _ _ | apply blw_drew | apply blw_alloc | (refine blw_set ?_ (by first | omega | (simp; done) | (simp; omega)) _) | refine below_chain ?_ (by assumption))))
  go_wp2_with fail
  refine (jsum_c (k := -1) hd hs hx hX hF1.hv iW (by decide) (by decide)).mono ?_; rintro e w22 ⟨v7, rfl, h7, hb22⟩
  have hs := hs.below hb22; have he := he.below hb22; have hx := hx.below hb22; have hr := hr.below hb22; have hF1 := hF1.below hb22; have hF := hF.below hb22; have d0 := kept hb22 d0; have d1 := kept hb22 d1; have e0 := kept hb22 e0; have e1 := kept hb22 e1; have f0 := kept hb22 f0; have f1 := kept hb22 f1; have n0 := kept hb22 n0; have n1 := kept hb22 n1; have o0 := kept hb22 o0; have o1 := kept hb22 o1
  go_wp2_with fail
  have hz0 : Below wq.heap.size wq w22 := (by repeat (first | exact Below.refl _ _ | apply blw_drew | apply blw_alloc | (refine blw_set ?_ (by first | omega | (simp; done) | (simp; omega)) _) | refine below_chain ?_ (by assumption)))
  first | (refine hK _ _ ⟨hz0, ?_⟩; clear hK K) | refine ⟨hz0, ?_⟩
  clear hz0
  refine norm_K fun K hK => ?_
  change wpList _ _ _ [_, _] _ _
  have hzc_ : wq.heap.size ≤ (w22).heap.size := (below_le (by repeat (first | exact Below.refl _ _ | apply blw_drew | apply blw_alloc | (refine blw_set ?_ (by first | omega | (simp; done) | (simp; omega)) _) | refine below_chain ?_ (by assumption))))
  go_wp2_with fail
  refine (jsum_c (k := -1) hd hs h7.hv i5 hF.hv iF (by decide) (by decide)).mono ?_; rintro e w23 ⟨v, rfl, hv, hb23⟩
  have hs := hs.below hb23; have he := he.below hb23; have hx := hx.below hb23; have hr := hr.below hb23; have hF1 := hF1.below hb23; have hF := hF.below hb23; have d0 := kept hb23 d0; have d1 := kept hb23 d1; have e0 := kept hb23 e0; have e1 := kept hb23 e1; have f0 := kept hb23 f0; have f1 := kept hb23 f1; have n0 := kept hb23 n0; have n1 := kept hb23 n1; have o0 := kept hb23 o0; have o1 := kept hb23 o1; have h7 := h7.below hb23
  have iS := sumH_is (p := p) (k := -1) (by omega) i5 iF
  obtain ⟨S, hS⟩ : ∃ S, S = sumH p (sumH p X (-1) (wholeH p st E X)) (-1) (halfP p st E X) := ⟨_, rfl⟩
  rw [← hS] at hv iS
  have hS_ := HPK.out.trans hS.symm
  have HSS := Lib.hid hS_; clear hS hS_
  obtain ⟨d, u, us, rfl, ⟨g1, cap1, rfl, q1⟩, hu, hne⟩ := id hv
  obtain ⟨g2, cap2, rfl, _⟩ := id hu
  have hul : us.length = 3 := by obtain ⟨_, _, _, _, h, _⟩ := hu; rw [h]; exact (isH_parts iS).2.2.1
  have HU := Lib.hid hul; clear hul
  have hu3 : S.up.length = 3 := (isH_parts iS).2.2.1
  have hu4 : S.dg.length = 3 := (isH_parts iS).1
  have rc0 := hr.c0; have rc1 := hr.c1; have rf0 := hr.f0; have rf1 := hr.f1
  go_wp2_with fail
  first | (refine hK _ _ ⟨rfl, ?_⟩; clear hK K) | refine ⟨rfl, ?_⟩
  go_wp2_with fail
  refine bodyPost_ret (v := .agg #[.slice (some ⟨g1, 0, none⟩) S.dg.length cap1, .slice (some ⟨g2, 0, none⟩) us.length cap2]) (by simp [results, Tryz.results32, go_sem, rc0, rc1, HU.out, hu3, hu4]) rfl ⟨_, rfl, ?_, ?_⟩
  · rw [HSS.out]; exact ((hv.set_ (by first | omega | (simp; done) | (simp; omega)) _).set_ (by first | omega | (simp; done) | (simp; omega)) _).more (by omega)
  · exact blw_set (blw_set (by repeat (first | exact Below.refl _ _ | apply blw_drew | apply blw_alloc | (refine blw_set ?_ (by first | omega | (simp; done) | (simp; omega)) _) | refine below_chain ?_ (by assumption))) (by first | omega | (simp; done) | (simp; omega)) _) (by first | omega | (simp; done) | (simp; omega)) _
set_option maxHeartbeats 4000000 in
set_option maxRecDepth 100000 in
theorem speirce_c {p k : Int} {s e x : Value} {st : List Int} {E X : Her} {w : World} (hd : Dok p st) (hs : El w s st) (he : Hv w e E) (hE : isH p (sz st.length) E = true) (hx : Hv w x X) (hX : isH p (sz st.length) X = true) :
    Calls Tryz.prog 23 #[.agg #[.int .i64 p, s], e, x, .int .i64 k] w fun r w' => ∃ v, r = .returned v ∧ FrH w' w.heap.size v (peirH p st E X k) ∧ Below w.heap.size w w' := by
  have hp1 := hd.hp.lo
  have hp2 := hd.hp.hi
  have hsz := sz_le hd
  have i1 := jordanH_is (p := p) (by omega) hE hX
  have i2 := jordanH_is (p := p) (by omega) hE i1
  have i3 := multH_is (p := p) (k := 2) (by omega) i2
  have i4 := sumH_is (p := p) (k := -1) (by omega) i1 i2
  have iW := wholeH_is (p := p) (st := st) (by omega) hE hX
  have iF := halfP_is (p := p) (st := st) (by omega) hE hX
  have i5 := sumH_is (p := p) (k := -1) (by omega) hX iW
  have i6 := sumH_is (p := p) (k := -1) (by omega) hX iF
  have HN1 := Lib.hid (fun X Y => sumH_neg (p := p) (X := X) (Y := Y))
  have HS := Lib.hid (sumH_swap (p := p) (X := X) (Y := wholeH p st E X) (Z := halfP p st E X))
  have HMM := Lib.hid (fun X => multH_mod (p := p) (X := X) (k := 4))
  have h4p : 0 ≤ 4 % p ∧ 4 % p < p := mod_fp2 (by omega)
  obtain ⟨a0, c0, rfl, _⟩ := id hs.op
  obtain ⟨dv1, uv1, rfl, hd1_, hu1_⟩ := id he; obtain ⟨a1, c1, rfl, _⟩ := id hd1_.op; obtain ⟨b1, k1, rfl, _⟩ := id hu1_; clear hd1_ hu1_
  obtain ⟨dv2, uv2, rfl, hd2_, hu2_⟩ := id hx; obtain ⟨a2, c2, rfl, _⟩ := id hd2_.op; obtain ⟨b2, k2, rfl, _⟩ := id hu2_; clear hd2_ hu2_
  obtain ⟨Z1, hZ1⟩ : ∃ Z, Z = jordanH p st E X := ⟨_, rfl⟩
  obtain ⟨Z2, hZ2⟩ : ∃ Z, Z = jordanH p st E Z1 := ⟨_, rfl⟩
  rw [← hZ1] at i1 i2 i3 i4
  rw [← hZ2] at i2 i3 i4
  have hWe : wholeH p st E X = sumH p (multH p Z2 2) (-1) Z1 := by rw [hZ2, hZ1]; rfl
  have hFe : halfP p st E X = multH p (sumH p Z1 (-1) Z2) 4 := by rw [hZ2, hZ1]; rfl
  have HZ1 := Lib.hid hZ1; have HZ2 := Lib.hid hZ2; have HW := Lib.hid hWe; have HF := Lib.hid hFe; clear hZ1 hZ2 hWe hFe
  go_enter Tryz.func23, Tryz.ntmps23
  have hb0 : Below w.heap.size w ((((w.alloc (.cells #[.int .i64 p, .slice a0 st.length c0] 32)).alloc (.cells #[.slice a1 E.dg.length c1, .slice b1 E.up.length k1] 34)).alloc (.cells #[.slice a2 X.dg.length c2, .slice b2 X.up.length k2] 34)).alloc (.cells #[.slice none 0 0, .slice none 0 0] 34)) := (by repeat (first | exact Below.refl _ _ | apply blw_drew | apply blw_alloc | (refine blw_set ?_ (by first | omega | (simp; done) | (simp; omega)) _) | refine below_chain ?_ (by assumption)))
  have hs := hs.below hb0; have he := he.below hb0; have hx := hx.below hb0
  have d0 : ((((w.alloc (.cells #[.int .i64 p, .slice a0 st.length c0] 32)).alloc (.cells #[.slice a1 E.dg.length c1, .slice b1 E.up.length k1] 34)).alloc (.cells #[.slice a2 X.dg.length c2, .slice b2 X.up.length k2] 34)).alloc (.cells #[.slice none 0 0, .slice none 0 0] 34)).cell? ⟨w.heap.size, 0, none⟩ = some (.int .i64 p) := by simp [go_sem]
  have d1 : ((((w.alloc (.cells #[.int .i64 p, .slice a0 st.length c0] 32)).alloc (.cells #[.slice a1 E.dg.length c1, .slice b1 E.up.length k1] 34)).alloc (.cells #[.slice a2 X.dg.length c2, .slice b2 X.up.length k2] 34)).alloc (.cells #[.slice none 0 0, .slice none 0 0] 34)).cell? ⟨w.heap.size, 1, none⟩ = some (.slice a0 st.length c0) := by simp [go_sem]
  have e0 : ((((w.alloc (.cells #[.int .i64 p, .slice a0 st.length c0] 32)).alloc (.cells #[.slice a1 E.dg.length c1, .slice b1 E.up.length k1] 34)).alloc (.cells #[.slice a2 X.dg.length c2, .slice b2 X.up.length k2] 34)).alloc (.cells #[.slice none 0 0, .slice none 0 0] 34)).cell? ⟨w.heap.size + 1, 0, none⟩ = some (.slice a1 E.dg.length c1) := by simp [go_sem]
  have e1 : ((((w.alloc (.cells #[.int .i64 p, .slice a0 st.length c0] 32)).alloc (.cells #[.slice a1 E.dg.length c1, .slice b1 E.up.length k1] 34)).alloc (.cells #[.slice a2 X.dg.length c2, .slice b2 X.up.length k2] 34)).alloc (.cells #[.slice none 0 0, .slice none 0 0] 34)).cell? ⟨w.heap.size + 1, 1, none⟩ = some (.slice b1 E.up.length k1) := by simp [go_sem]
  have f0 : ((((w.alloc (.cells #[.int .i64 p, .slice a0 st.length c0] 32)).alloc (.cells #[.slice a1 E.dg.length c1, .slice b1 E.up.length k1] 34)).alloc (.cells #[.slice a2 X.dg.length c2, .slice b2 X.up.length k2] 34)).alloc (.cells #[.slice none 0 0, .slice none 0 0] 34)).cell? ⟨w.heap.size + 1 + 1, 0, none⟩ = some (.slice a2 X.dg.length c2) := by simp [go_sem]
  have f1 : ((((w.alloc (.cells #[.int .i64 p, .slice a0 st.length c0] 32)).alloc (.cells #[.slice a1 E.dg.length c1, .slice b1 E.up.length k1] 34)).alloc (.cells #[.slice a2 X.dg.length c2, .slice b2 X.up.length k2] 34)).alloc (.cells #[.slice none 0 0, .slice none 0 0] 34)).cell? ⟨w.heap.size + 1 + 1, 1, none⟩ = some (.slice b2 X.up.length k2) := by simp [go_sem]
  have r0 : ((((w.alloc (.cells #[.int .i64 p, .slice a0 st.length c0] 32)).alloc (.cells #[.slice a1 E.dg.length c1, .slice b1 E.up.length k1] 34)).alloc (.cells #[.slice a2 X.dg.length c2, .slice b2 X.up.length k2] 34)).alloc (.cells #[.slice none 0 0, .slice none 0 0] 34)).cell? ⟨w.heap.size + 1 + 1 + 1, 0, none⟩ = some (.slice none 0 0) := by simp [go_sem]
  have r1 : ((((w.alloc (.cells #[.int .i64 p, .slice a0 st.length c0] 32)).alloc (.cells #[.slice a1 E.dg.length c1, .slice b1 E.up.length k1] 34)).alloc (.cells #[.slice a2 X.dg.length c2, .slice b2 X.up.length k2] 34)).alloc (.cells #[.slice none 0 0, .slice none 0 0] 34)).cell? ⟨w.heap.size + 1 + 1 + 1, 1, none⟩ = some (.slice none 0 0) := by simp [go_sem]
  have hr : Bx ((((w.alloc (.cells #[.int .i64 p, .slice a0 st.length c0] 32)).alloc (.cells #[.slice a1 E.dg.length c1, .slice b1 E.up.length k1] 34)).alloc (.cells #[.slice a2 X.dg.length c2, .slice b2 X.up.length k2] 34)).alloc (.cells #[.slice none 0 0, .slice none 0 0] 34)) (w.heap.size + 1 + 1 + 1) (.slice none 0 0) (.slice none 0 0) := by rw [show w.heap.size + 1 + 1 + 1 = (((w.alloc (.cells #[.int .i64 p, .slice a0 st.length c0] 32)).alloc (.cells #[.slice a1 E.dg.length c1, .slice b1 E.up.length k1] 34)).alloc (.cells #[.slice a2 X.dg.length c2, .slice b2 X.up.length k2] 34)).heap.size by simp]; exact heap_alloc_new _ _
  go_wp2_with fail
  refine (stimes16_c hd hs he hE hx hX).mono ?_; rintro e w1 ⟨v1, rfl, h1, hb1⟩
  have hs := hs.below hb1; have he := he.below hb1; have hx := hx.below hb1; have d0 := kept hb1 d0; have d1 := kept hb1 d1; have e0 := kept hb1 e0; have e1 := kept hb1 e1; have f0 := kept hb1 f0; have f1 := kept hb1 f1; have hr := hr.below hb1
  rw [← HZ1.out] at h1
  obtain ⟨da_, ua_, usa, rfl, ⟨ga, ka_, rfl, qa⟩, hua, hnea⟩ := id h1; obtain ⟨ja, la_, rfl, hqa_⟩ := id hua; clear hqa_ hua qa hnea
  have hb2 : Below w1.heap.size w1 (w1.alloc (.cells #[.slice (some ⟨ga, 0, none⟩) (Z1).dg.length ka_, .slice (some ⟨ja, 0, none⟩) usa.length la_] 34)) := (by repeat (first | exact Below.refl _ _ | apply blw_drew | apply blw_alloc | (refine blw_set ?_ (by first | omega | (simp; done) | (simp; omega)) _) | refine below_chain ?_ (by assumption)))
  have hs := hs.below hb2; have he := he.below hb2; have hx := hx.below hb2; have d0 := kept hb2 d0; have d1 := kept hb2 d1; have e0 := kept hb2 e0; have e1 := kept hb2 e1; have f0 := kept hb2 f0; have f1 := kept hb2 f1; have hr := hr.below hb2; have h1 := h1.below hb2
  have hN1 : Bx ((w1.alloc (.cells #[.slice (some ⟨ga, 0, none⟩) (Z1).dg.length ka_, .slice (some ⟨ja, 0, none⟩) usa.length la_] 34))) w1.heap.size _ _ := heap_alloc_new w1 _
  have m0 := hN1.c0; have m1 := hN1.c1; clear hN1
  have hzW : w.heap.size + 1 + 1 + 1 + 1 ≤ ((w1.alloc (.cells #[.slice (some ⟨ga, 0, none⟩) (Z1).dg.length ka_, .slice (some ⟨ja, 0, none⟩) usa.length la_] 34))).heap.size := by
    have h_ : (((((w.alloc (.cells #[.int .i64 p, .slice a0 st.length c0] 32)).alloc (.cells #[.slice a1 E.dg.length c1, .slice b1 E.up.length k1] 34)).alloc (.cells #[.slice a2 X.dg.length c2, .slice b2 X.up.length k2] 34)).alloc (.cells #[.slice none 0 0, .slice none 0 0] 34))).heap.size ≤ ((w1.alloc (.cells #[.slice (some ⟨ga, 0, none⟩) (Z1).dg.length ka_, .slice (some ⟨ja, 0, none⟩) usa.length la_] 34))).heap.size := (below_le (by repeat (first | exact Below.refl _ _ | apply blw_drew | apply blw_alloc | (refine blw_set ?_ (by first | omega | (simp; done) | (simp; omega)) _) | refine below_chain ?_ (by assumption))))
    simpa using h_
  go_wp2_with fail
  have hbw0 : Below w.heap.size w (w1.alloc (.cells #[.slice (some ⟨ga, 0, none⟩) (Z1).dg.length ka_, .slice (some ⟨ja, 0, none⟩) usa.length la_] 34)) := (by repeat (first | exact Below.refl _ _ | apply blw_drew | apply blw_alloc | (refine blw_set ?_ (by first | omega | (simp; done) | (simp; omega)) _) | refine below_chain ?_ (by assumption)))
  obtain ⟨Wa, hWa⟩ : ∃ W, W = (w1.alloc (.cells #[.slice (some ⟨ga, 0, none⟩) (Z1).dg.length ka_, .slice (some ⟨ja, 0, none⟩) usa.length la_] 34)) := ⟨_, rfl⟩
  rw [← hWa] at hbw0 hs he hx d0 d1 e0 e1 f0 f1 hr h1 m0 m1 hzW ⊢
  clear hWa
  go_wp2_with fail
  refine (stimes16_c hd hs he hE h1.hv i1).mono ?_; rintro e w3 ⟨v2, rfl, h2, hb3⟩
  have hs := hs.below hb3; have he := he.below hb3; have hx := hx.below hb3; have d0 := kept hb3 d0; have d1 := kept hb3 d1; have e0 := kept hb3 e0; have e1 := kept hb3 e1; have f0 := kept hb3 f0; have f1 := kept hb3 f1; have hr := hr.below hb3; have h1 := h1.below hb3; have m0 := kept hb3 m0; have m1 := kept hb3 m1
  rw [← HZ2.out] at h2
  obtain ⟨db_, ub_, usb, rfl, ⟨gb, kb_, rfl, qb⟩, hub, hneb⟩ := id h2; obtain ⟨jb, lb_, rfl, hqb_⟩ := id hub; clear hqb_ hub qb hneb
  have hb4 : Below w3.heap.size w3 (w3.alloc (.cells #[.slice (some ⟨gb, 0, none⟩) (Z2).dg.length kb_, .slice (some ⟨jb, 0, none⟩) usb.length lb_] 34)) := (by repeat (first | exact Below.refl _ _ | apply blw_drew | apply blw_alloc | (refine blw_set ?_ (by first | omega | (simp; done) | (simp; omega)) _) | refine below_chain ?_ (by assumption)))
  have hs := hs.below hb4; have he := he.below hb4; have hx := hx.below hb4; have d0 := kept hb4 d0; have d1 := kept hb4 d1; have e0 := kept hb4 e0; have e1 := kept hb4 e1; have f0 := kept hb4 f0; have f1 := kept hb4 f1; have hr := hr.below hb4; have h1 := h1.below hb4; have m0 := kept hb4 m0; have m1 := kept hb4 m1; have h2 := h2.below hb4
  have hN2 : Bx ((w3.alloc (.cells #[.slice (some ⟨gb, 0, none⟩) (Z2).dg.length kb_, .slice (some ⟨jb, 0, none⟩) usb.length lb_] 34))) w3.heap.size _ _ := heap_alloc_new w3 _
  have t0 := hN2.c0; have t1 := hN2.c1; clear hN2
  have hzV : Wa.heap.size ≤ ((w3.alloc (.cells #[.slice (some ⟨gb, 0, none⟩) (Z2).dg.length kb_, .slice (some ⟨jb, 0, none⟩) usb.length lb_] 34))).heap.size := (below_le (by repeat (first | exact Below.refl _ _ | apply blw_drew | apply blw_alloc | (refine blw_set ?_ (by first | omega | (simp; done) | (simp; omega)) _) | refine below_chain ?_ (by assumption))))
  have hbw0 : Below w.heap.size w (w3.alloc (.cells #[.slice (some ⟨gb, 0, none⟩) (Z2).dg.length kb_, .slice (some ⟨jb, 0, none⟩) usb.length lb_] 34)) := (by repeat (first | exact Below.refl _ _ | apply blw_drew | apply blw_alloc | (refine blw_set ?_ (by first | omega | (simp; done) | (simp; omega)) _) | refine below_chain ?_ (by assumption)))
  go_upto_region 3 with fail
  obtain ⟨W1, hW1⟩ : ∃ W, W = (w3.alloc (.cells #[.slice (some ⟨gb, 0, none⟩) (Z2).dg.length kb_, .slice (some ⟨jb, 0, none⟩) usb.length lb_] 34)) := ⟨_, rfl⟩
  rw [← hW1] at hbw0 hs he hx d0 d1 e0 e1 f0 f1 hr h1 m0 m1 h2 t0 t1 hzV ⊢
  clear hW1
  go_cut [11] (fun s_ wx => ∃ N d u, s_ = .pointer (some ⟨N, 0, none⟩) ∧ W1.heap.size ≤ N ∧ Bx wx N d u ∧ FrH wx W1.heap.size (.agg #[d, u]) (wholeH p st E X) ∧ Below W1.heap.size W1 wx)
  case first =>
    refine region_tqs [(0, 0), (1, 1), (2, 1), (3, 1), (5, 0), (6, 1), (7, 0), (8, 1)] (.two 4 5 (.two 9 5 (.lin [(false, [(10, 5)]), (false, [(11, 4)])]) 10 5 (.lin [(false, [(9, 4), (11, 4)])])) 10 5 (.lin [(false, [(4, 5)]), (false, [(9, 4), (11, 4)])])) (by kernel_rfl) ?_
    refine norm_K fun K hK => ?_
    change wpList _ _ _ [_, _, _, _, _, _, _, _] _ _
    go_wp2_with fail
    have hbq : Below W1.heap.size W1 W1.drew := (by repeat (first | exact Below.refl _ _ | apply blw_drew | apply blw_alloc | (refine blw_set ?_ (by first | omega | (simp; done) | (simp; omega)) _) | refine below_chain ?_ (by assumption)))
    have hs := hs.below hbq; have he := he.below hbq; have hx := hx.below hbq; have hr := hr.below hbq; have h1 := h1.below hbq; have h2 := h2.below hbq; have d0 := kept hbq d0; have d1 := kept hbq d1; have e0 := kept hbq e0; have e1 := kept hbq e1; have f0 := kept hbq f0; have f1 := kept hbq f1; have m0 := kept hbq m0; have m1 := kept hbq m1; have t0 := kept hbq t0; have t1 := kept hbq t1
    have szq : W1.heap.size = W1.drew.heap.size := rfl
    generalize W1.drew = wq at *
    refine hK _ _ ⟨rfl, ?_⟩; clear hK K
    refine ⟨?_, ?_⟩
    · skip
      refine norm_K fun K hK => ?_
      change wpList _ _ _ [_] _ _
      go_wp2_with fail
      refine (sscale16_c (k := 2) hd hs h2.hv i2 (by decide) (by decide)).mono ?_; rintro e w41 ⟨v3, rfl, h3, hb41⟩
      have hs := hs.below hb41; have he := he.below hb41; have hx := hx.below hb41; have hr := hr.below hb41; have h1 := h1.below hb41; have h2 := h2.below hb41; have d0 := kept hb41 d0; have d1 := kept hb41 d1; have e0 := kept hb41 e0; have e1 := kept hb41 e1; have f0 := kept hb41 f0; have f1 := kept hb41 f1; have m0 := kept hb41 m0; have m1 := kept hb41 m1; have t0 := kept hb41 t0; have t1 := kept hb41 t1
      have sz41 : wq.heap.size ≤ w41.heap.size := hb41.size
      go_wp2_with fail
      first | (refine hK _ _ ⟨(by repeat (first | exact Below.refl _ _ | apply blw_drew | apply blw_alloc | (refine blw_set ?_ (by first | omega | (simp; done) | (simp; omega)) _) | refine below_chain ?_ (by assumption))), ?_⟩; clear hK K) | refine ⟨(by repeat (first | exact Below.refl _ _ | apply blw_drew | apply blw_alloc | (refine blw_set ?_ (by first | omega | (simp; done) | (simp; omega)) _) | refine below_chain ?_ (by assumption))), ?_⟩
      refine ⟨?_, ?_⟩
      · skip
        refine norm_K fun K hK => ?_
        change wpList _ _ _ [_] _ _
        go_wp2_with fail
        refine (ssum_c (k := p - 1) (by omega) (by omega) h3.hv i3 h1.hv i1 (by omega) (by omega) (by omega)).mono ?_; rintro e w42 ⟨v4, rfl, h4, hb42⟩
        have hs := hs.below hb42; have he := he.below hb42; have hx := hx.below hb42; have hr := hr.below hb42; have h1 := h1.below hb42; have h2 := h2.below hb42; have d0 := kept hb42 d0; have d1 := kept hb42 d1; have e0 := kept hb42 e0; have e1 := kept hb42 e1; have f0 := kept hb42 f0; have f1 := kept hb42 f1; have m0 := kept hb42 m0; have m1 := kept hb42 m1; have t0 := kept hb42 t0; have t1 := kept hb42 t1; have h3 := h3.below hb42
        have sz42 : w41.heap.size ≤ w42.heap.size := hb42.size
        rw [HN1.out, ← HW.out] at h4
        obtain ⟨dc_, uc_, usc, rfl, ⟨gc, kc_, rfl, qc⟩, huc, hnec⟩ := id h4; obtain ⟨jc, lc_, rfl, hqc_⟩ := id huc; clear hqc_ huc qc hnec
        go_wp2_with fail
        first | (refine hK _ _ ⟨(by repeat (first | exact Below.refl _ _ | apply blw_drew | apply blw_alloc | (refine blw_set ?_ (by first | omega | (simp; done) | (simp; omega)) _) | refine below_chain ?_ (by assumption))), ?_⟩; clear hK K) | refine ⟨(by repeat (first | exact Below.refl _ _ | apply blw_drew | apply blw_alloc | (refine blw_set ?_ (by first | omega | (simp; done) | (simp; omega)) _) | refine below_chain ?_ (by assumption))), ?_⟩
        refine norm_K fun K hK => ?_
        change wpList _ _ _ [_] _ _
        go_wp2_with fail
        have hb43 : Below w42.heap.size w42 (w42.alloc (.cells #[.slice none 0 0, .slice none 0 0] 34)) := (by repeat (first | exact Below.refl _ _ | apply blw_drew | apply blw_alloc | (refine blw_set ?_ (by first | omega | (simp; done) | (simp; omega)) _) | refine below_chain ?_ (by assumption)))
        have h4A := h4; have hbA := hb43
        have hs := hs.below hb43; have he := he.below hb43; have hx := hx.below hb43; have hr := hr.below hb43; have h1 := h1.below hb43; have h2 := h2.below hb43; have d0 := kept hb43 d0; have d1 := kept hb43 d1; have e0 := kept hb43 e0; have e1 := kept hb43 e1; have f0 := kept hb43 f0; have f1 := kept hb43 f1; have m0 := kept hb43 m0; have m1 := kept hb43 m1; have t0 := kept hb43 t0; have t1 := kept hb43 t1; have h3 := h3.below hb43; have h4 := h4.below hb43
        have hN : Bx (w42.alloc (.cells #[.slice none 0 0, .slice none 0 0] 34)) w42.heap.size (.slice none 0 0) (.slice none 0 0) := heap_alloc_new _ _
        have sz43 : w42.heap.size + 1 = (w42.alloc (.cells #[.slice none 0 0, .slice none 0 0] 34)).heap.size := by simp
        go_wp2_with fail
        obtain ⟨w43, hw_⟩ : ∃ x, x = (w42.alloc (.cells #[.slice none 0 0, .slice none 0 0] 34)) := ⟨_, rfl⟩
        rw [← hw_] at hb43 sz43 hs he hx hr h1 h2 d0 d1 e0 e1 f0 f1 m0 m1 t0 t1 h3 h4 hN hbA ⊢; clear hw_
        go_wp2_with fail
        first | (refine hK _ _ ⟨(by repeat (first | exact Below.refl _ _ | apply blw_drew | apply blw_alloc | (refine blw_set ?_ (by first | omega | (simp; done) | (simp; omega)) _) | refine below_chain ?_ (by assumption))), ?_⟩; clear hK K) | refine ⟨(by repeat (first | exact Below.refl _ _ | apply blw_drew | apply blw_alloc | (refine blw_set ?_ (by first | omega | (simp; done) | (simp; omega)) _) | refine below_chain ?_ (by assumption))), ?_⟩
        refine norm_K fun K hK => ?_
        change wpList _ _ _ [_] _ _
        have rc0 := hN.c0; have rc1 := hN.c1; have rf0 := hN.f0; have rf1 := hN.f1
        go_wp2_with fail
        first | (refine hK _ _ ⟨rfl, ?_⟩; clear hK K) | refine ⟨rfl, ?_⟩
        go_wp2_with fail
        go_meet
        case rel => exact ⟨w42.heap.size, _, _, rfl, by omega, (hN.set0 _).set1 _, (h4A.below (blw_set (p := ⟨w42.heap.size, 1, none⟩) (blw_set (p := ⟨w42.heap.size, 0, none⟩) hbA (Nat.le_refl _) _) (Nat.le_refl _) _)).more (by omega), (by repeat (first | exact Below.refl _ _ | apply blw_drew | apply blw_alloc | (refine blw_set ?_ (by first | omega | (simp; done) | (simp; omega)) _) | refine below_chain ?_ (by assumption)))⟩
      · skip
        refine norm_K fun K hK => ?_
        change wpList _ _ _ [_] _ _
        go_wp2_with fail
        have hb42 : Below w41.heap.size w41 (w41.alloc (.cells #[.slice none 0 0, .slice none 0 0] 34)) := (by repeat (first | exact Below.refl _ _ | apply blw_drew | apply blw_alloc | (refine blw_set ?_ (by first | omega | (simp; done) | (simp; omega)) _) | refine below_chain ?_ (by assumption)))
        have hs := hs.below hb42; have he := he.below hb42; have hx := hx.below hb42; have hr := hr.below hb42; have h1 := h1.below hb42; have h2 := h2.below hb42; have d0 := kept hb42 d0; have d1 := kept hb42 d1; have e0 := kept hb42 e0; have e1 := kept hb42 e1; have f0 := kept hb42 f0; have f1 := kept hb42 f1; have m0 := kept hb42 m0; have m1 := kept hb42 m1; have t0 := kept hb42 t0; have t1 := kept hb42 t1; have h3 := h3.below hb42
        have hN : Bx (w41.alloc (.cells #[.slice none 0 0, .slice none 0 0] 34)) w41.heap.size (.slice none 0 0) (.slice none 0 0) := heap_alloc_new _ _
        have sz42 : w41.heap.size + 1 = (w41.alloc (.cells #[.slice none 0 0, .slice none 0 0] 34)).heap.size := by simp
        go_wp2_with fail
        obtain ⟨w42, hw_⟩ : ∃ x, x = (w41.alloc (.cells #[.slice none 0 0, .slice none 0 0] 34)) := ⟨_, rfl⟩
        rw [← hw_] at hb42 sz42 hs he hx hr h1 h2 d0 d1 e0 e1 f0 f1 m0 m1 t0 t1 h3 hN ⊢; clear hw_
        go_wp2_with fail
        first | (refine hK _ _ ⟨(by repeat (first | exact Below.refl _ _ | apply blw_drew | apply blw_alloc | (refine blw_set ?_ (by first | omega | (simp; done) | (simp; omega)) _) | refine below_chain ?_ (by assumption))), ?_⟩; clear hK K) | refine ⟨(by repeat (first | exact Below.refl _ _ | apply blw_drew | apply blw_alloc | (refine blw_set ?_ (by first | omega | (simp; done) | (simp; omega)) _) | refine below_chain ?_ (by assumption))), ?_⟩
        refine norm_K fun K hK => ?_
        change wpList _ _ _ [_, _] _ _
        go_wp2_with fail
        refine (ssum_c (k := p - 1) (by omega) (by omega) h3.hv i3 h1.hv i1 (by omega) (by omega) (by omega)).mono ?_; rintro e w43 ⟨v4, rfl, h4, hb43⟩
        have hs := hs.below hb43; have he := he.below hb43; have hx := hx.below hb43; have hr := hr.below hb43; have h1 := h1.below hb43; have h2 := h2.below hb43; have d0 := kept hb43 d0; have d1 := kept hb43 d1; have e0 := kept hb43 e0; have e1 := kept hb43 e1; have f0 := kept hb43 f0; have f1 := kept hb43 f1; have m0 := kept hb43 m0; have m1 := kept hb43 m1; have t0 := kept hb43 t0; have t1 := kept hb43 t1; have h3 := h3.below hb43; have hN := hN.below hb43
        have sz43 : w42.heap.size ≤ w43.heap.size := hb43.size
        rw [HN1.out, ← HW.out] at h4
        obtain ⟨dc_, uc_, usc, rfl, ⟨gc, kc_, rfl, qc⟩, huc, hnec⟩ := id h4; obtain ⟨jc, lc_, rfl, hqc_⟩ := id huc; clear hqc_ huc qc hnec
        have rc0 := hN.c0; have rc1 := hN.c1; have rf0 := hN.f0; have rf1 := hN.f1
        go_wp2_with fail
        first | (refine hK _ _ ⟨rfl, ?_⟩; clear hK K) | refine ⟨rfl, ?_⟩
        go_wp2_with fail
        go_meet
        case rel => exact ⟨w41.heap.size, _, _, rfl, by omega, (hN.set0 _).set1 _, ((h4.set_ (p := ⟨w41.heap.size, 0, none⟩) (show w41.heap.size < _ by omega) _).set_ (p := ⟨w41.heap.size, 1, none⟩) (show w41.heap.size < _ by omega) _).more (by omega), (by repeat (first | exact Below.refl _ _ | apply blw_drew | apply blw_alloc | (refine blw_set ?_ (by first | omega | (simp; done) | (simp; omega)) _) | refine below_chain ?_ (by assumption)))⟩
    · skip
      refine norm_K fun K hK => ?_
      change wpList _ _ _ [_] _ _
      go_wp2_with fail
      have hb41 : Below wq.heap.size wq (wq.alloc (.cells #[.slice none 0 0, .slice none 0 0] 34)) := (by repeat (first | exact Below.refl _ _ | apply blw_drew | apply blw_alloc | (refine blw_set ?_ (by first | omega | (simp; done) | (simp; omega)) _) | refine below_chain ?_ (by assumption)))
      have hs := hs.below hb41; have he := he.below hb41; have hx := hx.below hb41; have hr := hr.below hb41; have h1 := h1.below hb41; have h2 := h2.below hb41; have d0 := kept hb41 d0; have d1 := kept hb41 d1; have e0 := kept hb41 e0; have e1 := kept hb41 e1; have f0 := kept hb41 f0; have f1 := kept hb41 f1; have m0 := kept hb41 m0; have m1 := kept hb41 m1; have t0 := kept hb41 t0; have t1 := kept hb41 t1
      have hN : Bx (wq.alloc (.cells #[.slice none 0 0, .slice none 0 0] 34)) wq.heap.size (.slice none 0 0) (.slice none 0 0) := heap_alloc_new _ _
      have sz41 : wq.heap.size + 1 = (wq.alloc (.cells #[.slice none 0 0, .slice none 0 0] 34)).heap.size := by simp
      go_wp2_with fail
      obtain ⟨w41, hw_⟩ : ∃ x, x = (wq.alloc (.cells #[.slice none 0 0, .slice none 0 0] 34)) := ⟨_, rfl⟩
      rw [← hw_] at hb41 sz41 hs he hx hr h1 h2 d0 d1 e0 e1 f0 f1 m0 m1 t0 t1 hN ⊢; clear hw_
      go_wp2_with fail
      first | (refine hK _ _ ⟨(by repeat (first | exact Below.refl _ _ | apply blw_drew | apply blw_alloc | (refine blw_set ?_ (by first | omega | (simp; done) | (simp; omega)) _) | refine below_chain ?_ (by assumption))), ?_⟩; clear hK K) | refine ⟨(by repeat (first | exact Below.refl _ _ | apply blw_drew | apply blw_alloc | (refine blw_set ?_ (by first | omega | (simp; done) | (simp; omega)) _) | refine below_chain ?_ (by assumption))), ?_⟩
      refine norm_K fun K hK => ?_
      change wpList _ _ _ [_] _ _
      go_wp2_with fail
      refine (sscale16_c (k := 2) hd hs h2.hv i2 (by decide) (by decide)).mono ?_; rintro e w42 ⟨v3, rfl, h3, hb42⟩
      have hs := hs.below hb42; have he := he.below hb42; have hx := hx.below hb42; have hr := hr.below hb42; have h1 := h1.below hb42; have h2 := h2.below hb42; have d0 := kept hb42 d0; have d1 := kept hb42 d1; have e0 := kept hb42 e0; have e1 := kept hb42 e1; have f0 := kept hb42 f0; have f1 := kept hb42 f1; have m0 := kept hb42 m0; have m1 := kept hb42 m1; have t0 := kept hb42 t0; have t1 := kept hb42 t1; have hN := hN.below hb42
      have sz42 : w41.heap.size ≤ w42.heap.size := hb42.size
      go_wp2_with fail
      first | (refine hK _ _ ⟨(by repeat (first | exact Below.refl _ _ | apply blw_drew | apply blw_alloc | (refine blw_set ?_ (by first | omega | (simp; done) | (simp; omega)) _) | refine below_chain ?_ (by assumption))), ?_⟩; clear hK K) | refine ⟨(by repeat (first | exact Below.refl _ _ | apply blw_drew | apply blw_alloc | (refine blw_set ?_ (by first | omega | (simp; done) | (simp; omega)) _) | refine below_chain ?_ (by assumption))), ?_⟩
      refine norm_K fun K hK => ?_
      change wpList _ _ _ [_, _] _ _
      go_wp2_with fail
      refine (ssum_c (k := p - 1) (by omega) (by omega) h3.hv i3 h1.hv i1 (by omega) (by omega) (by omega)).mono ?_; rintro e w43 ⟨v4, rfl, h4, hb43⟩
      have hs := hs.below hb43; have he := he.below hb43; have hx := hx.below hb43; have hr := hr.below hb43; have h1 := h1.below hb43; have h2 := h2.below hb43; have d0 := kept hb43 d0; have d1 := kept hb43 d1; have e0 := kept hb43 e0; have e1 := kept hb43 e1; have f0 := kept hb43 f0; have f1 := kept hb43 f1; have m0 := kept hb43 m0; have m1 := kept hb43 m1; have t0 := kept hb43 t0; have t1 := kept hb43 t1; have hN := hN.below hb43; have h3 := h3.below hb43
      have sz43 : w42.heap.size ≤ w43.heap.size := hb43.size
      rw [HN1.out, ← HW.out] at h4
      obtain ⟨dc_, uc_, usc, rfl, ⟨gc, kc_, rfl, qc⟩, huc, hnec⟩ := id h4; obtain ⟨jc, lc_, rfl, hqc_⟩ := id huc; clear hqc_ huc qc hnec
      have rc0 := hN.c0; have rc1 := hN.c1; have rf0 := hN.f0; have rf1 := hN.f1
      go_wp2_with fail
      first | (refine hK _ _ ⟨rfl, ?_⟩; clear hK K) | refine ⟨rfl, ?_⟩
      go_wp2_with fail
      go_meet
      case rel => exact ⟨wq.heap.size, _, _, rfl, by omega, (hN.set0 _).set1 _, ((h4.set_ (p := ⟨wq.heap.size, 0, none⟩) (show wq.heap.size < _ by omega) _).set_ (p := ⟨wq.heap.size, 1, none⟩) (show wq.heap.size < _ by omega) _).more (by omega), (by repeat (first | exact Below.refl _ _ | apply blw_drew | apply blw_alloc | (refine blw_set ?_ (by first | omega | (simp; done) | (simp; omega)) _) | refine below_chain ?_ (by assumption)))⟩
  case' rest => skip
  obtain ⟨N0, dN, uN, rfl, hN0, hN, hF, hbC⟩ := hcut
  have hs := hs.below hbC; have he := he.below hbC; have hx := hx.below hbC; have hr := hr.below hbC; have h1 := h1.below hbC; have h2 := h2.below hbC; have d0 := kept hbC d0; have d1 := kept hbC d1; have e0 := kept hbC e0; have e1 := kept hbC e1; have f0 := kept hbC f0; have f1 := kept hbC f1; have m0 := kept hbC m0; have m1 := kept hbC m1; have t0 := kept hbC t0; have t1 := kept hbC t1
  have n0 := hN.c0; have n1 := hN.c1; have hF1 := hF; have hzW1 := hbC.size; clear hN hF
  go_upto_region 4 with fail
  obtain ⟨W2, hW2⟩ : ∃ x, x = wc := ⟨_, rfl⟩
  rw [← hW2] at hs he hx hr h1 h2 d0 d1 e0 e1 f0 f1 m0 m1 t0 t1 n0 n1 hF1 hbC hzW1 ⊢; clear hW2
  have hbC1 := hbC; clear hbC hN0
  go_cut [12] (fun s_ wx => ∃ N d u, s_ = .pointer (some ⟨N, 0, none⟩) ∧ W2.heap.size ≤ N ∧ Bx wx N d u ∧ FrH wx W2.heap.size (.agg #[d, u]) (halfP p st E X) ∧ Below W2.heap.size W2 wx)
  case first =>
    refine region_tqs [(0, 1), (1, 0), (2, 1), (4, 0), (5, 1), (6, 1), (7, 0), (8, 1), (9, 0), (10, 1)] (.two 3 5 (.two 11 5 (.two 12 5 (.lin [(false, [(13, 5)]), (false, [(14, 4)])]) 13 5 (.lin [(false, [(12, 4), (14, 4)])])) 13 5 (.lin [(false, [(11, 5)]), (false, [(12, 4), (14, 4)])])) 13 5 (.lin [(false, [(3, 5)]), (false, [(11, 5)]), (false, [(12, 4), (14, 4)])])) (by kernel_rfl) ?_
    refine norm_K fun K hK => ?_
    change wpList _ _ _ [_, _, _, _, _, _, _, _, _, _] _ _
    go_wp2_with fail
    have hbq : Below W2.heap.size W2 W2.drew := (by repeat (first | exact Below.refl _ _ | apply blw_drew | apply blw_alloc | (refine blw_set ?_ (by first | omega | (simp; done) | (simp; omega)) _) | refine below_chain ?_ (by assumption)))
    have hs := hs.below hbq; have he := he.below hbq; have hx := hx.below hbq; have hr := hr.below hbq; have h1 := h1.below hbq; have h2 := h2.below hbq; have d0 := kept hbq d0; have d1 := kept hbq d1; have e0 := kept hbq e0; have e1 := kept hbq e1; have f0 := kept hbq f0; have f1 := kept hbq f1; have m0 := kept hbq m0; have m1 := kept hbq m1; have t0 := kept hbq t0; have t1 := kept hbq t1; have hF1 := hF1.below hbq; have n0 := kept hbq n0; have n1 := kept hbq n1
    have szq : W2.heap.size = W2.drew.heap.size := rfl
    generalize W2.drew = wq at *
    refine hK _ _ ⟨rfl, ?_⟩; clear hK K
    refine ⟨?_, ?_⟩
    · skip
      refine norm_K fun K hK => ?_
      change wpList _ _ _ [_] _ _
      go_wp2_with fail
      refine (smod_c (p := p) (n := 4) (by omega) (by omega)).mono ?_; rintro e w41 ⟨rfl, rfl⟩
      go_wp2_with fail
      first | (refine hK _ _ ⟨(by repeat (first | exact Below.refl _ _ | apply blw_drew | apply blw_alloc | (refine blw_set ?_ (by first | omega | (simp; done) | (simp; omega)) _) | refine below_chain ?_ (by assumption))), ?_⟩; clear hK K) | refine ⟨(by repeat (first | exact Below.refl _ _ | apply blw_drew | apply blw_alloc | (refine blw_set ?_ (by first | omega | (simp; done) | (simp; omega)) _) | refine below_chain ?_ (by assumption))), ?_⟩
      refine ⟨?_, ?_⟩
      · skip
        refine norm_K fun K hK => ?_
        change wpList _ _ _ [_] _ _
        go_wp2_with fail
        refine (ssum_c (k := p - 1) (by omega) (by omega) h1.hv i1 h2.hv i2 (by omega) (by omega) (by omega)).mono ?_; rintro e w42 ⟨v5, rfl, h5, hb42⟩
        have hs := hs.below hb42; have he := he.below hb42; have hx := hx.below hb42; have hr := hr.below hb42; have h1 := h1.below hb42; have h2 := h2.below hb42; have d0 := kept hb42 d0; have d1 := kept hb42 d1; have e0 := kept hb42 e0; have e1 := kept hb42 e1; have f0 := kept hb42 f0; have f1 := kept hb42 f1; have m0 := kept hb42 m0; have m1 := kept hb42 m1; have t0 := kept hb42 t0; have t1 := kept hb42 t1; have hF1 := hF1.below hb42; have n0 := kept hb42 n0; have n1 := kept hb42 n1
        have sz42 : wq.heap.size ≤ w42.heap.size := hb42.size
        rw [HN1.out] at h5
        go_wp2_with fail
        first | (refine hK _ _ ⟨(by repeat (first | exact Below.refl _ _ | apply blw_drew | apply blw_alloc | (refine blw_set ?_ (by first | omega | (simp; done) | (simp; omega)) _) | refine below_chain ?_ (by assumption))), ?_⟩; clear hK K) | refine ⟨(by repeat (first | exact Below.refl _ _ | apply blw_drew | apply blw_alloc | (refine blw_set ?_ (by first | omega | (simp; done) | (simp; omega)) _) | refine below_chain ?_ (by assumption))), ?_⟩
        refine ⟨?_, ?_⟩
        · skip
          refine norm_K fun K hK => ?_
          change wpList _ _ _ [_] _ _
          go_wp2_with fail
          refine (sscale16_c (k := 4 % p) hd hs h5.hv i4 (by omega) (by omega)).mono ?_; rintro e w43 ⟨v6, rfl, h6, hb43⟩
          have hs := hs.below hb43; have he := he.below hb43; have hx := hx.below hb43; have hr := hr.below hb43; have h1 := h1.below hb43; have h2 := h2.below hb43; have d0 := kept hb43 d0; have d1 := kept hb43 d1; have e0 := kept hb43 e0; have e1 := kept hb43 e1; have f0 := kept hb43 f0; have f1 := kept hb43 f1; have m0 := kept hb43 m0; have m1 := kept hb43 m1; have t0 := kept hb43 t0; have t1 := kept hb43 t1; have hF1 := hF1.below hb43; have n0 := kept hb43 n0; have n1 := kept hb43 n1; have h5 := h5.below hb43
          have sz43 : w42.heap.size ≤ w43.heap.size := hb43.size
          rw [HMM.out, ← HF.out] at h6
          obtain ⟨de_, ue_, use, rfl, ⟨ge, ke_, rfl, qe⟩, hue, hnee⟩ := id h6; obtain ⟨je, le_, rfl, hqe_⟩ := id hue; clear hqe_ hue qe hnee
          go_wp2_with fail
          first | (refine hK _ _ ⟨(by repeat (first | exact Below.refl _ _ | apply blw_drew | apply blw_alloc | (refine blw_set ?_ (by first | omega | (simp; done) | (simp; omega)) _) | refine below_chain ?_ (by assumption))), ?_⟩; clear hK K) | refine ⟨(by repeat (first | exact Below.refl _ _ | apply blw_drew | apply blw_alloc | (refine blw_set ?_ (by first | omega | (simp; done) | (simp; omega)) _) | refine below_chain ?_ (by assumption))), ?_⟩
          refine norm_K fun K hK => ?_
          change wpList _ _ _ [_] _ _
          go_wp2_with fail
          have hb44 : Below w43.heap.size w43 (w43.alloc (.cells #[.slice none 0 0, .slice none 0 0] 34)) := (by repeat (first | exact Below.refl _ _ | apply blw_drew | apply blw_alloc | (refine blw_set ?_ (by first | omega | (simp; done) | (simp; omega)) _) | refine below_chain ?_ (by assumption)))
          have h6A := h6; have hbA := hb44
          have hs := hs.below hb44; have he := he.below hb44; have hx := hx.below hb44; have hr := hr.below hb44; have h1 := h1.below hb44; have h2 := h2.below hb44; have d0 := kept hb44 d0; have d1 := kept hb44 d1; have e0 := kept hb44 e0; have e1 := kept hb44 e1; have f0 := kept hb44 f0; have f1 := kept hb44 f1; have m0 := kept hb44 m0; have m1 := kept hb44 m1; have t0 := kept hb44 t0; have t1 := kept hb44 t1; have hF1 := hF1.below hb44; have n0 := kept hb44 n0; have n1 := kept hb44 n1; have h5 := h5.below hb44; have h6 := h6.below hb44
          have hN : Bx (w43.alloc (.cells #[.slice none 0 0, .slice none 0 0] 34)) w43.heap.size (.slice none 0 0) (.slice none 0 0) := heap_alloc_new _ _
          have sz44 : w43.heap.size + 1 = (w43.alloc (.cells #[.slice none 0 0, .slice none 0 0] 34)).heap.size := by simp
          go_wp2_with fail
          obtain ⟨w44, hw_⟩ : ∃ x, x = (w43.alloc (.cells #[.slice none 0 0, .slice none 0 0] 34)) := ⟨_, rfl⟩
          rw [← hw_] at hb44 sz44 hs he hx hr h1 h2 d0 d1 e0 e1 f0 f1 m0 m1 t0 t1 hF1 n0 n1 h5 h6 hN hbA ⊢; clear hw_
          go_wp2_with fail
          first | (refine hK _ _ ⟨(by repeat (first | exact Below.refl _ _ | apply blw_drew | apply blw_alloc | (refine blw_set ?_ (by first | omega | (simp; done) | (simp; omega)) _) | refine below_chain ?_ (by assumption))), ?_⟩; clear hK K) | refine ⟨(by repeat (first | exact Below.refl _ _ | apply blw_drew | apply blw_alloc | (refine blw_set ?_ (by first | omega | (simp; done) | (simp; omega)) _) | refine below_chain ?_ (by assumption))), ?_⟩
          refine norm_K fun K hK => ?_
          change wpList _ _ _ [_] _ _
          have rc0 := hN.c0; have rc1 := hN.c1; have rf0 := hN.f0; have rf1 := hN.f1
          go_wp2_with fail
          first | (refine hK _ _ ⟨rfl, ?_⟩; clear hK K) | refine ⟨rfl, ?_⟩
          go_wp2_with fail
          go_meet
          case rel => exact ⟨w43.heap.size, _, _, rfl, by omega, (hN.set0 _).set1 _, (h6A.below (blw_set (p := ⟨w43.heap.size, 1, none⟩) (blw_set (p := ⟨w43.heap.size, 0, none⟩) hbA (Nat.le_refl _) _) (Nat.le_refl _) _)).more (by omega), (by repeat (first | exact Below.refl _ _ | apply blw_drew | apply blw_alloc | (refine blw_set ?_ (by first | omega | (simp; done) | (simp; omega)) _) | refine below_chain ?_ (by assumption)))⟩
        · skip
          refine norm_K fun K hK => ?_
          change wpList _ _ _ [_] _ _
          go_wp2_with fail
          have hb43 : Below w42.heap.size w42 (w42.alloc (.cells #[.slice none 0 0, .slice none 0 0] 34)) := (by repeat (first | exact Below.refl _ _ | apply blw_drew | apply blw_alloc | (refine blw_set ?_ (by first | omega | (simp; done) | (simp; omega)) _) | refine below_chain ?_ (by assumption)))
          have hs := hs.below hb43; have he := he.below hb43; have hx := hx.below hb43; have hr := hr.below hb43; have h1 := h1.below hb43; have h2 := h2.below hb43; have d0 := kept hb43 d0; have d1 := kept hb43 d1; have e0 := kept hb43 e0; have e1 := kept hb43 e1; have f0 := kept hb43 f0; have f1 := kept hb43 f1; have m0 := kept hb43 m0; have m1 := kept hb43 m1; have t0 := kept hb43 t0; have t1 := kept hb43 t1; have hF1 := hF1.below hb43; have n0 := kept hb43 n0; have n1 := kept hb43 n1; have h5 := h5.below hb43
          have hN : Bx (w42.alloc (.cells #[.slice none 0 0, .slice none 0 0] 34)) w42.heap.size (.slice none 0 0) (.slice none 0 0) := heap_alloc_new _ _
          have sz43 : w42.heap.size + 1 = (w42.alloc (.cells #[.slice none 0 0, .slice none 0 0] 34)).heap.size := by simp
          go_wp2_with fail
          obtain ⟨w43, hw_⟩ : ∃ x, x = (w42.alloc (.cells #[.slice none 0 0, .slice none 0 0] 34)) := ⟨_, rfl⟩
          rw [← hw_] at hb43 sz43 hs he hx hr h1 h2 d0 d1 e0 e1 f0 f1 m0 m1 t0 t1 hF1 n0 n1 h5 hN ⊢; clear hw_
          go_wp2_with fail
          first | (refine hK _ _ ⟨(by repeat (first | exact Below.refl _ _ | apply blw_drew | apply blw_alloc | (refine blw_set ?_ (by first | omega | (simp; done) | (simp; omega)) _) | refine below_chain ?_ (by assumption))), ?_⟩; clear hK K) | refine ⟨(by repeat (first | exact Below.refl _ _ | apply blw_drew | apply blw_alloc | (refine blw_set ?_ (by first | omega | (simp; done) | (simp; omega)) _) | refine below_chain ?_ (by assumption))), ?_⟩
          refine norm_K fun K hK => ?_
          change wpList _ _ _ [_, _] _ _
          go_wp2_with fail
          refine (sscale16_c (k := 4 % p) hd hs h5.hv i4 (by omega) (by omega)).mono ?_; rintro e w44 ⟨v6, rfl, h6, hb44⟩
          have hs := hs.below hb44; have he := he.below hb44; have hx := hx.below hb44; have hr := hr.below hb44; have h1 := h1.below hb44; have h2 := h2.below hb44; have d0 := kept hb44 d0; have d1 := kept hb44 d1; have e0 := kept hb44 e0; have e1 := kept hb44 e1; have f0 := kept hb44 f0; have f1 := kept hb44 f1; have m0 := kept hb44 m0; have m1 := kept hb44 m1; have t0 := kept hb44 t0; have t1 := kept hb44 t1; have hF1 := hF1.below hb44; have n0 := kept hb44 n0; have n1 := kept hb44 n1; have h5 := h5.below hb44; have hN := hN.below hb44
          have sz44 : w43.heap.size ≤ w44.heap.size := hb44.size
          rw [HMM.out, ← HF.out] at h6
          obtain ⟨de_, ue_, use, rfl, ⟨ge, ke_, rfl, qe⟩, hue, hnee⟩ := id h6; obtain ⟨je, le_, rfl, hqe_⟩ := id hue; clear hqe_ hue qe hnee
          have rc0 := hN.c0; have rc1 := hN.c1; have rf0 := hN.f0; have rf1 := hN.f1
          go_wp2_with fail
          first | (refine hK _ _ ⟨rfl, ?_⟩; clear hK K) | refine ⟨rfl, ?_⟩
          go_wp2_with fail
          go_meet
          case rel => exact ⟨w42.heap.size, _, _, rfl, by omega, (hN.set0 _).set1 _, ((h6.set_ (p := ⟨w42.heap.size, 0, none⟩) (show w42.heap.size < _ by omega) _).set_ (p := ⟨w42.heap.size, 1, none⟩) (show w42.heap.size < _ by omega) _).more (by omega), (by repeat (first | exact Below.refl _ _ | apply blw_drew | apply blw_alloc | (refine blw_set ?_ (by first | omega | (simp; done) | (simp; omega)) _) | refine below_chain ?_ (by assumption)))⟩
      · skip
        refine norm_K fun K hK => ?_
        change wpList _ _ _ [_] _ _
        go_wp2_with fail
        have hb42 : Below wq.heap.size wq (wq.alloc (.cells #[.slice none 0 0, .slice none 0 0] 34)) := (by repeat (first | exact Below.refl _ _ | apply blw_drew | apply blw_alloc | (refine blw_set ?_ (by first | omega | (simp; done) | (simp; omega)) _) | refine below_chain ?_ (by assumption)))
        have hs := hs.below hb42; have he := he.below hb42; have hx := hx.below hb42; have hr := hr.below hb42; have h1 := h1.below hb42; have h2 := h2.below hb42; have d0 := kept hb42 d0; have d1 := kept hb42 d1; have e0 := kept hb42 e0; have e1 := kept hb42 e1; have f0 := kept hb42 f0; have f1 := kept hb42 f1; have m0 := kept hb42 m0; have m1 := kept hb42 m1; have t0 := kept hb42 t0; have t1 := kept hb42 t1; have hF1 := hF1.below hb42; have n0 := kept hb42 n0; have n1 := kept hb42 n1
        have hN : Bx (wq.alloc (.cells #[.slice none 0 0, .slice none 0 0] 34)) wq.heap.size (.slice none 0 0) (.slice none 0 0) := heap_alloc_new _ _
        have sz42 : wq.heap.size + 1 = (wq.alloc (.cells #[.slice none 0 0, .slice none 0 0] 34)).heap.size := by simp
        go_wp2_with fail
        obtain ⟨w42, hw_⟩ : ∃ x, x = (wq.alloc (.cells #[.slice none 0 0, .slice none 0 0] 34)) := ⟨_, rfl⟩
        rw [← hw_] at hb42 sz42 hs he hx hr h1 h2 d0 d1 e0 e1 f0 f1 m0 m1 t0 t1 hF1 n0 n1 hN ⊢; clear hw_
        go_wp2_with fail
        first | (refine hK _ _ ⟨(by repeat (first | exact Below.refl _ _ | apply blw_drew | apply blw_alloc | (refine blw_set ?_ (by first | omega | (simp; done) | (simp; omega)) _) | refine below_chain ?_ (by assumption))), ?_⟩; clear hK K) | refine ⟨(by repeat (first | exact Below.refl _ _ | apply blw_drew | apply blw_alloc | (refine blw_set ?_ (by first | omega | (simp; done) | (simp; omega)) _) | refine below_chain ?_ (by assumption))), ?_⟩
        refine norm_K fun K hK => ?_
        change wpList _ _ _ [_] _ _
        go_wp2_with fail
        refine (ssum_c (k := p - 1) (by omega) (by omega) h1.hv i1 h2.hv i2 (by omega) (by omega) (by omega)).mono ?_; rintro e w43 ⟨v5, rfl, h5, hb43⟩
        have hs := hs.below hb43; have he := he.below hb43; have hx := hx.below hb43; have hr := hr.below hb43; have h1 := h1.below hb43; have h2 := h2.below hb43; have d0 := kept hb43 d0; have d1 := kept hb43 d1; have e0 := kept hb43 e0; have e1 := kept hb43 e1; have f0 := kept hb43 f0; have f1 := kept hb43 f1; have m0 := kept hb43 m0; have m1 := kept hb43 m1; have t0 := kept hb43 t0; have t1 := kept hb43 t1; have hF1 := hF1.below hb43; have n0 := kept hb43 n0; have n1 := kept hb43 n1; have hN := hN.below hb43
        have sz43 : w42.heap.size ≤ w43.heap.size := hb43.size
        rw [HN1.out] at h5
        go_wp2_with fail
        first | (refine hK _ _ ⟨(by repeat (first | exact Below.refl _ _ | apply blw_drew | apply blw_alloc | (refine blw_set ?_ (by first | omega | (simp; done) | (simp; omega)) _) | refine below_chain ?_ (by assumption))), ?_⟩; clear hK K) | refine ⟨(by repeat (first | exact Below.refl _ _ | apply blw_drew | apply blw_alloc | (refine blw_set ?_ (by first | omega | (simp; done) | (simp; omega)) _) | refine below_chain ?_ (by assumption))), ?_⟩
        refine norm_K fun K hK => ?_
        change wpList _ _ _ [_, _] _ _
        go_wp2_with fail
        refine (sscale16_c (k := 4 % p) hd hs h5.hv i4 (by omega) (by omega)).mono ?_; rintro e w44 ⟨v6, rfl, h6, hb44⟩
        have hs := hs.below hb44; have he := he.below hb44; have hx := hx.below hb44; have hr := hr.below hb44; have h1 := h1.below hb44; have h2 := h2.below hb44; have d0 := kept hb44 d0; have d1 := kept hb44 d1; have e0 := kept hb44 e0; have e1 := kept hb44 e1; have f0 := kept hb44 f0; have f1 := kept hb44 f1; have m0 := kept hb44 m0; have m1 := kept hb44 m1; have t0 := kept hb44 t0; have t1 := kept hb44 t1; have hF1 := hF1.below hb44; have n0 := kept hb44 n0; have n1 := kept hb44 n1; have hN := hN.below hb44; have h5 := h5.below hb44
        have sz44 : w43.heap.size ≤ w44.heap.size := hb44.size
        rw [HMM.out, ← HF.out] at h6
        obtain ⟨de_, ue_, use, rfl, ⟨ge, ke_, rfl, qe⟩, hue, hnee⟩ := id h6; obtain ⟨je, le_, rfl, hqe_⟩ := id hue; clear hqe_ hue qe hnee
        have rc0 := hN.c0; have rc1 := hN.c1; have rf0 := hN.f0; have rf1 := hN.f1
        go_wp2_with fail
        first | (refine hK _ _ ⟨rfl, ?_⟩; clear hK K) | refine ⟨rfl, ?_⟩
        go_wp2_with fail
        go_meet
        case rel => exact ⟨wq.heap.size, _, _, rfl, by omega, (hN.set0 _).set1 _, ((h6.set_ (p := ⟨wq.heap.size, 0, none⟩) (show wq.heap.size < _ by omega) _).set_ (p := ⟨wq.heap.size, 1, none⟩) (show wq.heap.size < _ by omega) _).more (by omega), (by repeat (first | exact Below.refl _ _ | apply blw_drew | apply blw_alloc | (refine blw_set ?_ (by first | omega | (simp; done) | (simp; omega)) _) | refine below_chain ?_ (by assumption)))⟩
    · skip
      refine norm_K fun K hK => ?_
      change wpList _ _ _ [_] _ _
      go_wp2_with fail
      have hb41 : Below wq.heap.size wq (wq.alloc (.cells #[.slice none 0 0, .slice none 0 0] 34)) := (by repeat (first | exact Below.refl _ _ | apply blw_drew | apply blw_alloc | (refine blw_set ?_ (by first | omega | (simp; done) | (simp; omega)) _) | refine below_chain ?_ (by assumption)))
      have hs := hs.below hb41; have he := he.below hb41; have hx := hx.below hb41; have hr := hr.below hb41; have h1 := h1.below hb41; have h2 := h2.below hb41; have d0 := kept hb41 d0; have d1 := kept hb41 d1; have e0 := kept hb41 e0; have e1 := kept hb41 e1; have f0 := kept hb41 f0; have f1 := kept hb41 f1; have m0 := kept hb41 m0; have m1 := kept hb41 m1; have t0 := kept hb41 t0; have t1 := kept hb41 t1; have hF1 := hF1.below hb41; have n0 := kept hb41 n0; have n1 := kept hb41 n1
      have hN : Bx (wq.alloc (.cells #[.slice none 0 0, .slice none 0 0] 34)) wq.heap.size (.slice none 0 0) (.slice none 0 0) := heap_alloc_new _ _
      have sz41 : wq.heap.size + 1 = (wq.alloc (.cells #[.slice none 0 0, .slice none 0 0] 34)).heap.size := by simp
      go_wp2_with fail
      obtain ⟨w41, hw_⟩ : ∃ x, x = (wq.alloc (.cells #[.slice none 0 0, .slice none 0 0] 34)) := ⟨_, rfl⟩
      rw [← hw_] at hb41 sz41 hs he hx hr h1 h2 d0 d1 e0 e1 f0 f1 m0 m1 t0 t1 hF1 n0 n1 hN ⊢; clear hw_
      go_wp2_with fail
      first | (refine hK _ _ ⟨(by repeat (first | exact Below.refl _ _ | apply blw_drew | apply blw_alloc | (refine blw_set ?_ (by first | omega | (simp; done) | (simp; omega)) _) | refine below_chain ?_ (by assumption))), ?_⟩; clear hK K) | refine ⟨(by repeat (first | exact Below.refl _ _ | apply blw_drew | apply blw_alloc | (refine blw_set ?_ (by first | omega | (simp; done) | (simp; omega)) _) | refine below_chain ?_ (by assumption))), ?_⟩
      refine norm_K fun K hK => ?_
      change wpList _ _ _ [_] _ _
      go_wp2_with fail
      refine (smod_c (p := p) (n := 4) (by omega) (by omega)).mono ?_; rintro e w42 ⟨rfl, rfl⟩
      go_wp2_with fail
      first | (refine hK _ _ ⟨(by repeat (first | exact Below.refl _ _ | apply blw_drew | apply blw_alloc | (refine blw_set ?_ (by first | omega | (simp; done) | (simp; omega)) _) | refine below_chain ?_ (by assumption))), ?_⟩; clear hK K) | refine ⟨(by repeat (first | exact Below.refl _ _ | apply blw_drew | apply blw_alloc | (refine blw_set ?_ (by first | omega | (simp; done) | (simp; omega)) _) | refine below_chain ?_ (by assumption))), ?_⟩
      refine norm_K fun K hK => ?_
      change wpList _ _ _ [_] _ _
      go_wp2_with fail
      refine (ssum_c (k := p - 1) (by omega) (by omega) h1.hv i1 h2.hv i2 (by omega) (by omega) (by omega)).mono ?_; rintro e w43 ⟨v5, rfl, h5, hb43⟩
      have hs := hs.below hb43; have he := he.below hb43; have hx := hx.below hb43; have hr := hr.below hb43; have h1 := h1.below hb43; have h2 := h2.below hb43; have d0 := kept hb43 d0; have d1 := kept hb43 d1; have e0 := kept hb43 e0; have e1 := kept hb43 e1; have f0 := kept hb43 f0; have f1 := kept hb43 f1; have m0 := kept hb43 m0; have m1 := kept hb43 m1; have t0 := kept hb43 t0; have t1 := kept hb43 t1; have hF1 := hF1.below hb43; have n0 := kept hb43 n0; have n1 := kept hb43 n1; have hN := hN.below hb43
      have sz43 : w41.heap.size ≤ w43.heap.size := hb43.size
      rw [HN1.out] at h5
      go_wp2_with fail
      first | (refine hK _ _ ⟨(by repeat (first | exact Below.refl _ _ | apply blw_drew | apply blw_alloc | (refine blw_set ?_ (by first | omega | (simp; done) | (simp; omega)) _) | refine below_chain ?_ (by assumption))), ?_⟩; clear hK K) | refine ⟨(by repeat (first | exact Below.refl _ _ | apply blw_drew | apply blw_alloc | (refine blw_set ?_ (by first | omega | (simp; done) | (simp; omega)) _) | refine below_chain ?_ (by assumption))), ?_⟩
      refine norm_K fun K hK => ?_
      change wpList _ _ _ [_, _] _ _
      go_wp2_with fail
      refine (sscale16_c (k := 4 % p) hd hs h5.hv i4 (by omega) (by omega)).mono ?_; rintro e w44 ⟨v6, rfl, h6, hb44⟩
      have hs := hs.below hb44; have he := he.below hb44; have hx := hx.below hb44; have hr := hr.below hb44; have h1 := h1.below hb44; have h2 := h2.below hb44; have d0 := kept hb44 d0; have d1 := kept hb44 d1; have e0 := kept hb44 e0; have e1 := kept hb44 e1; have f0 := kept hb44 f0; have f1 := kept hb44 f1; have m0 := kept hb44 m0; have m1 := kept hb44 m1; have t0 := kept hb44 t0; have t1 := kept hb44 t1; have hF1 := hF1.below hb44; have n0 := kept hb44 n0; have n1 := kept hb44 n1; have hN := hN.below hb44; have h5 := h5.below hb44
      have sz44 : w43.heap.size ≤ w44.heap.size := hb44.size
      rw [HMM.out, ← HF.out] at h6
      obtain ⟨de_, ue_, use, rfl, ⟨ge, ke_, rfl, qe⟩, hue, hnee⟩ := id h6; obtain ⟨je, le_, rfl, hqe_⟩ := id hue; clear hqe_ hue qe hnee
      have rc0 := hN.c0; have rc1 := hN.c1; have rf0 := hN.f0; have rf1 := hN.f1
      go_wp2_with fail
      first | (refine hK _ _ ⟨rfl, ?_⟩; clear hK K) | refine ⟨rfl, ?_⟩
      go_wp2_with fail
      go_meet
      case rel => exact ⟨wq.heap.size, _, _, rfl, by omega, (hN.set0 _).set1 _, ((h6.set_ (p := ⟨wq.heap.size, 0, none⟩) (show wq.heap.size < _ by omega) _).set_ (p := ⟨wq.heap.size, 1, none⟩) (show wq.heap.size < _ by omega) _).more (by omega), (by repeat (first | exact Below.refl _ _ | apply blw_drew | apply blw_alloc | (refine blw_set ?_ (by first | omega | (simp; done) | (simp; omega)) _) | refine below_chain ?_ (by assumption)))⟩
  case' rest => skip
  obtain ⟨N0, dN, uN, rfl, hN0, hN, hF, hbC⟩ := hcut
  have hs := hs.below hbC; have he := he.below hbC; have hx := hx.below hbC; have hr := hr.below hbC; have h1 := h1.below hbC; have h2 := h2.below hbC; have d0 := kept hbC d0; have d1 := kept hbC d1; have e0 := kept hbC e0; have e1 := kept hbC e1; have f0 := kept hbC f0; have f1 := kept hbC f1; have m0 := kept hbC m0; have m1 := kept hbC m1; have t0 := kept hbC t0; have t1 := kept hbC t1; have hF1 := hF1.below hbC; have n0 := kept hbC n0; have n1 := kept hbC n1
  have o0 := hN.c0; have o1 := hN.c1; have hzW2 := hbC.size; clear hN
  by_cases hk2 : k = 2
  · subst hk2
    obtain ⟨df_, uf_, usf, ef_, ⟨gf, kf_, rfl, qf⟩, huf, hnef⟩ := id hF1; cases ef_; obtain ⟨jf, lf_, rfl, hqf_⟩ := id huf; clear hqf_; have hul : usf.length = 3 := by obtain ⟨_, _, _, _, h, _⟩ := huf; exact h
    have HU := Lib.hid hul; clear hul
    have hu3 : (wholeH p st E X).up.length = 3 := (isH_parts iW).2.2.1
    have hu4 : (wholeH p st E X).dg.length = 3 := (isH_parts iW).1
    have rc0 := hr.c0; have rc1 := hr.c1; have rf0 := hr.f0; have rf1 := hr.f1
    go_wp2_with fail
    refine bodyPost_ret (v := .agg #[.slice (some ⟨gf, 0, none⟩) (wholeH p st E X).dg.length kf_, .slice (some ⟨jf, 0, none⟩) usf.length lf_]) (by simp [results, Tryz.results23, go_sem, rc0, rc1, HU.out, hu3, hu4]) rfl ⟨_, rfl, ?_, ?_⟩
    · rw [show peirH p st E X 2 = wholeH p st E X from rfl]; exact ((hF1.set_ (by first | omega | (simp; done) | (simp; omega)) _).set_ (by first | omega | (simp; done) | (simp; omega)) _).more (by omega)
    · exact blw_set (blw_set (by repeat (first | exact Below.refl _ _ | apply blw_drew | apply blw_alloc | (refine blw_set ?_ (by first | omega | (simp; done) | (simp; omega)) _) | refine below_chain ?_ (by assumption))) (by first | omega | (simp; done) | (simp; omega)) _) (by first | omega | (simp; done) | (simp; omega)) _
  by_cases hk1 : k = 1
  · subst hk1
    obtain ⟨df_, uf_, usf, ef_, ⟨gf, kf_, rfl, qf⟩, huf, hnef⟩ := id hF; cases ef_; obtain ⟨jf, lf_, rfl, hqf_⟩ := id huf; clear hqf_; have hul : usf.length = 3 := by obtain ⟨_, _, _, _, h, _⟩ := huf; exact h
    have HU := Lib.hid hul; clear hul
    have hu3 : (halfP p st E X).up.length = 3 := (isH_parts iF).2.2.1
    have hu4 : (halfP p st E X).dg.length = 3 := (isH_parts iF).1
    have rc0 := hr.c0; have rc1 := hr.c1; have rf0 := hr.f0; have rf1 := hr.f1
    go_wp2_with fail
    refine bodyPost_ret (v := .agg #[.slice (some ⟨gf, 0, none⟩) (halfP p st E X).dg.length kf_, .slice (some ⟨jf, 0, none⟩) usf.length lf_]) (by simp [results, Tryz.results23, go_sem, rc0, rc1, HU.out, hu3, hu4]) rfl ⟨_, rfl, ?_, ?_⟩
    · rw [show peirH p st E X 1 = halfP p st E X from rfl]; exact ((hF.set_ (by first | omega | (simp; done) | (simp; omega)) _).set_ (by first | omega | (simp; done) | (simp; omega)) _).more (by omega)
    · exact blw_set (blw_set (by repeat (first | exact Below.refl _ _ | apply blw_drew | apply blw_alloc | (refine blw_set ?_ (by first | omega | (simp; done) | (simp; omega)) _) | refine below_chain ?_ (by assumption))) (by first | omega | (simp; done) | (simp; omega)) _) (by first | omega | (simp; done) | (simp; omega)) _
  have hb2 : (k == 2) = false := by simpa using hk2
  have hb1_ : (k == 1) = false := by simpa using hk1
  have hPk : peirH p st E X k = sumH p (sumH p X (-1) (wholeH p st E X)) (-1) (halfP p st E X) := by unfold peirH; rw [if_neg hk2, if_neg hk1]
  have HPK := Lib.hid hPk; clear hk1 hk2 hPk
  go_wp2_with fail
  refine region_flow [(false, [(0, 0), (1, 1), (2, 0), (3, 1), (4, 1), (5, 0), (6, 1), (7, 0), (8, 1), (10, 0), (11, 1), (12, 0), (13, 1), (9, 5)]), (false, [(14, 4), (15, 4)])] (by kernel_rfl) ?_
  refine norm_K fun K hK => ?_
  change wpList _ _ _ [_, _, _, _, _, _, _, _, _, _, _, _, _, _] _ _
  have hb21 : Below wc.heap.size wc wc.drew := (by repeat (first | exact Below.refl _ _ | apply blw_drew | apply blw_alloc | (refine blw_set ?_ (by first | omega | (simp; done) | (simp; omega)) _) | refine below_chain ?_ (by assumption)))
  have hs := hs.below hb21; have he := he.below hb21; have hx := hx.below hb21; have hr := hr.below hb21; have hF1 := hF1.below hb21; have hF := hF.below hb21; have d0 := kept hb21 d0; have d1 := kept hb21 d1; have e0 := kept hb21 e0; have e1 := kept hb21 e1; have f0 := kept hb21 f0; have f1 := kept hb21 f1; have n0 := kept hb21 n0; have n1 := kept hb21 n1; have o0 := kept hb21 o0; have o1 := kept hb21 o1
  generalize wc.drew = wq at *
  have hzq_ : wc.heap.size ≤ wq.heap.size := (below_le (by repeat (first | exact Below.refl _ _ | apply blw_drew | apply blw_alloc | (refine blw_set ?_ (by first | omega | (simp; done) | (simp; omega)) _) | refine below_chain ?_ (by assumption))))
  go_wp2_with fail
  refine (ssum_c (k := p - 1) (by omega) (by omega) hx hX hF.hv iF (by omega) (by omega) (by omega)).mono ?_; rintro e w22 ⟨v7, rfl, h7, hb22⟩
  have hs := hs.below hb22; have he := he.below hb22; have hx := hx.below hb22; have hr := hr.below hb22; have hF1 := hF1.below hb22; have hF := hF.below hb22; have d0 := kept hb22 d0; have d1 := kept hb22 d1; have e0 := kept hb22 e0; have e1 := kept hb22 e1; have f0 := kept hb22 f0; have f1 := kept hb22 f1; have n0 := kept hb22 n0; have n1 := kept hb22 n1; have o0 := kept hb22 o0; have o1 := kept hb22 o1
  rw [HN1.out] at h7
  go_wp2_with fail
  have hz0 : Below wq.heap.size wq w22 := (by repeat (first | exact Below.refl _ _ | apply blw_drew | apply blw_alloc | (refine blw_set ?_ (by first | omega | (simp; done) | (simp; omega)) _) | refine below_chain ?_ (by assumption)))
  first | (refine hK _ _ ⟨hz0, ?_⟩; clear hK K) | refine ⟨hz0, ?_⟩
  clear hz0
  refine norm_K fun K hK => ?_
  change wpList _ _ _ [_, _] _ _
  have hzc_ : wq.heap.size ≤ (w22).heap.size := (below_le (by repeat (first | exact Below.refl _ _ | apply blw_drew | apply blw_alloc | (refine blw_set ?_ (by first | omega | (simp; done) | (simp; omega)) _) | refine below_chain ?_ (by assumption))))
  go_wp2_with fail
  refine (ssum_c (k := p - 1) (by omega) (by omega) h7.hv i6 hF1.hv iW (by omega) (by omega) (by omega)).mono ?_; rintro e w23 ⟨v, rfl, hv, hb23⟩
  have hs := hs.below hb23; have he := he.below hb23; have hx := hx.below hb23; have hr := hr.below hb23; have hF1 := hF1.below hb23; have hF := hF.below hb23; have d0 := kept hb23 d0; have d1 := kept hb23 d1; have e0 := kept hb23 e0; have e1 := kept hb23 e1; have f0 := kept hb23 f0; have f1 := kept hb23 f1; have n0 := kept hb23 n0; have n1 := kept hb23 n1; have o0 := kept hb23 o0; have o1 := kept hb23 o1; have h7 := h7.below hb23
  rw [HN1.out, ← HS.out] at hv
  have iS := sumH_is (p := p) (k := -1) (by omega) i5 iF
  obtain ⟨S, hS⟩ : ∃ S, S = sumH p (sumH p X (-1) (wholeH p st E X)) (-1) (halfP p st E X) := ⟨_, rfl⟩
  rw [← hS] at hv iS
  have hS_ := HPK.out.trans hS.symm
  have HSS := Lib.hid hS_; clear hS hS_
  obtain ⟨d, u, us, rfl, ⟨g1, cap1, rfl, q1⟩, hu, hne⟩ := id hv
  obtain ⟨g2, cap2, rfl, _⟩ := id hu
  have hul : us.length = 3 := by obtain ⟨_, _, _, _, h, _⟩ := hu; rw [h]; exact (isH_parts iS).2.2.1
  have HU := Lib.hid hul; clear hul
  have hu3 : S.up.length = 3 := (isH_parts iS).2.2.1
  have hu4 : S.dg.length = 3 := (isH_parts iS).1
  have rc0 := hr.c0; have rc1 := hr.c1; have rf0 := hr.f0; have rf1 := hr.f1
  go_wp2_with fail
  first | (refine hK _ _ ⟨rfl, ?_⟩; clear hK K) | refine ⟨rfl, ?_⟩
  go_wp2_with fail
  refine bodyPost_ret (v := .agg #[.slice (some ⟨g1, 0, none⟩) S.dg.length cap1, .slice (some ⟨g2, 0, none⟩) us.length cap2]) (by simp [results, Tryz.results23, go_sem, rc0, rc1, HU.out, hu3, hu4]) rfl ⟨_, rfl, ?_, ?_⟩
  · rw [HSS.out]; exact ((hv.set_ (by first | omega | (simp; done) | (simp; omega)) _).set_ (by first | omega | (simp; done) | (simp; omega)) _).more (by omega)
  · exact blw_set (blw_set (by repeat (first | exact Below.refl _ _ | apply blw_drew | apply blw_alloc | (refine blw_set ?_ (by first | omega | (simp; done) | (simp; omega)) _) | refine below_chain ?_ (by assumption))) (by first | omega | (simp; done) | (simp; omega)) _) (by first | omega | (simp; done) | (simp; omega)) _
end Go.Proofs.YtmplpoccalccoaaGreat
