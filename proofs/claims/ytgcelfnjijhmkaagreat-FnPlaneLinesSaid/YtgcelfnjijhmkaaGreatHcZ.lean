/-
  The reference's cross.
-/
import Derived.Test.YtgcelfnjijhmkaaGreatJbl
import Derived.Test.YtgcelfnjijhmkaaGreatJbc
namespace Go.Proofs.YtgcelfnjijhmkaaGreat
open Go.RowKit

set_option maxHeartbeats 4000000 in
set_option maxRecDepth 100000 in
theorem scross_c {p : Int} {s x y : Value} {st : List Int} {X Y : Her} {w : World} (hd : Dok p st) (hs : El w s st) (hx : Hv w x X) (hX : isH p (sz st.length) X = true) (hy : Hv w y Y) (hY : isH p (sz st.length) Y = true) :
    Calls Tryz.prog 63 #[.agg #[.int .i64 p, s], x, y] w fun e w' => ∃ v, e = .returned v ∧ FrH w' w.heap.size v (crossH p st X Y) ∧ Below w.heap.size w w' := by
  have hp1 := hd.hp.lo
  have hp2 := hd.hp.hi
  have hsz := sz_le hd
  have hC := crossH_is (p := p) (by omega) hX hY
  have i1 := sumH_is (p := p) (k := 1) (by omega) hX hY
  have i2 := adjH_is (p := p) (by omega) i1
  have i3 := adjH_is (p := p) (by omega) hX
  have i4 := sumH_is (p := p) (k := -1) (by omega) i2 i3
  have i5 := adjH_is (p := p) (by omega) hY
  have hS4 := (isH_parts hC).2.2.1
  have HS4 := Lib.hid hS4; clear hS4
  have HN1 := Lib.hid (fun X Y => sumH_neg (p := p) (X := X) (Y := Y))
  obtain ⟨C, hC_⟩ : ∃ C, C = crossH p st X Y := ⟨_, rfl⟩
  rw [← hC_] at HS4 ⊢
  have HC := Lib.hid hC_; clear hC_ hC
  obtain ⟨a0, c0, rfl, _⟩ := id hs.op
  obtain ⟨dv1, uv1, rfl, hd1_, hu1_⟩ := id hx; obtain ⟨a1, c1, rfl, _⟩ := id hd1_.op; obtain ⟨b1, k1, rfl, _⟩ := id hu1_; clear hd1_ hu1_
  obtain ⟨dv2, uv2, rfl, hd2_, hu2_⟩ := id hy; obtain ⟨a2, c2, rfl, _⟩ := id hd2_.op; obtain ⟨b2, k2, rfl, _⟩ := id hu2_; clear hd2_ hu2_
  go_enter Tryz.func63, Tryz.ntmps63
  have hb0 : Below w.heap.size w ((((w.alloc (.cells #[.int .i64 p, .slice a0 st.length c0] 26)).alloc (.cells #[.slice a1 X.dg.length c1, .slice b1 X.up.length k1] 31)).alloc (.cells #[.slice a2 Y.dg.length c2, .slice b2 Y.up.length k2] 31)).alloc (.cells #[.slice none 0 0, .slice none 0 0] 31)) := (by repeat (first | exact Below.refl _ _ | apply blw_drew | apply blw_alloc | (refine blw_set ?_ (by first | omega | simp <;> omega) _) | refine below_chain ?_ (by assumption)))
  have hs := hs.below hb0; have hx := hx.below hb0; have hy := hy.below hb0
  have d0 : ((((w.alloc (.cells #[.int .i64 p, .slice a0 st.length c0] 26)).alloc (.cells #[.slice a1 X.dg.length c1, .slice b1 X.up.length k1] 31)).alloc (.cells #[.slice a2 Y.dg.length c2, .slice b2 Y.up.length k2] 31)).alloc (.cells #[.slice none 0 0, .slice none 0 0] 31)).cell? ⟨w.heap.size, 0, none⟩ = some (.int .i64 p) := by simp [go_sem]
  have d1 : ((((w.alloc (.cells #[.int .i64 p, .slice a0 st.length c0] 26)).alloc (.cells #[.slice a1 X.dg.length c1, .slice b1 X.up.length k1] 31)).alloc (.cells #[.slice a2 Y.dg.length c2, .slice b2 Y.up.length k2] 31)).alloc (.cells #[.slice none 0 0, .slice none 0 0] 31)).cell? ⟨w.heap.size, 1, none⟩ = some (.slice a0 st.length c0) := by simp [go_sem]
  have e0 : ((((w.alloc (.cells #[.int .i64 p, .slice a0 st.length c0] 26)).alloc (.cells #[.slice a1 X.dg.length c1, .slice b1 X.up.length k1] 31)).alloc (.cells #[.slice a2 Y.dg.length c2, .slice b2 Y.up.length k2] 31)).alloc (.cells #[.slice none 0 0, .slice none 0 0] 31)).cell? ⟨w.heap.size + 1, 0, none⟩ = some (.slice a1 X.dg.length c1) := by simp [go_sem]
  have e1 : ((((w.alloc (.cells #[.int .i64 p, .slice a0 st.length c0] 26)).alloc (.cells #[.slice a1 X.dg.length c1, .slice b1 X.up.length k1] 31)).alloc (.cells #[.slice a2 Y.dg.length c2, .slice b2 Y.up.length k2] 31)).alloc (.cells #[.slice none 0 0, .slice none 0 0] 31)).cell? ⟨w.heap.size + 1, 1, none⟩ = some (.slice b1 X.up.length k1) := by simp [go_sem]
  have f0 : ((((w.alloc (.cells #[.int .i64 p, .slice a0 st.length c0] 26)).alloc (.cells #[.slice a1 X.dg.length c1, .slice b1 X.up.length k1] 31)).alloc (.cells #[.slice a2 Y.dg.length c2, .slice b2 Y.up.length k2] 31)).alloc (.cells #[.slice none 0 0, .slice none 0 0] 31)).cell? ⟨w.heap.size + 1 + 1, 0, none⟩ = some (.slice a2 Y.dg.length c2) := by simp [go_sem]
  have f1 : ((((w.alloc (.cells #[.int .i64 p, .slice a0 st.length c0] 26)).alloc (.cells #[.slice a1 X.dg.length c1, .slice b1 X.up.length k1] 31)).alloc (.cells #[.slice a2 Y.dg.length c2, .slice b2 Y.up.length k2] 31)).alloc (.cells #[.slice none 0 0, .slice none 0 0] 31)).cell? ⟨w.heap.size + 1 + 1, 1, none⟩ = some (.slice b2 Y.up.length k2) := by simp [go_sem]
  have r0 : ((((w.alloc (.cells #[.int .i64 p, .slice a0 st.length c0] 26)).alloc (.cells #[.slice a1 X.dg.length c1, .slice b1 X.up.length k1] 31)).alloc (.cells #[.slice a2 Y.dg.length c2, .slice b2 Y.up.length k2] 31)).alloc (.cells #[.slice none 0 0, .slice none 0 0] 31)).cell? ⟨w.heap.size + 1 + 1 + 1, 0, none⟩ = some (.slice none 0 0) := by simp [go_sem]
  have r1 : ((((w.alloc (.cells #[.int .i64 p, .slice a0 st.length c0] 26)).alloc (.cells #[.slice a1 X.dg.length c1, .slice b1 X.up.length k1] 31)).alloc (.cells #[.slice a2 Y.dg.length c2, .slice b2 Y.up.length k2] 31)).alloc (.cells #[.slice none 0 0, .slice none 0 0] 31)).cell? ⟨w.heap.size + 1 + 1 + 1, 1, none⟩ = some (.slice none 0 0) := by simp [go_sem]
  have hr : Bx ((((w.alloc (.cells #[.int .i64 p, .slice a0 st.length c0] 26)).alloc (.cells #[.slice a1 X.dg.length c1, .slice b1 X.up.length k1] 31)).alloc (.cells #[.slice a2 Y.dg.length c2, .slice b2 Y.up.length k2] 31)).alloc (.cells #[.slice none 0 0, .slice none 0 0] 31)) (w.heap.size + 1 + 1 + 1) (.slice none 0 0) (.slice none 0 0) := by rw [show w.heap.size + 1 + 1 + 1 = (((w.alloc (.cells #[.int .i64 p, .slice a0 st.length c0] 26)).alloc (.cells #[.slice a1 X.dg.length c1, .slice b1 X.up.length k1] 31)).alloc (.cells #[.slice a2 Y.dg.length c2, .slice b2 Y.up.length k2] 31)).heap.size by simp]; exact heap_alloc_new _ _
  have hbw0 : Below w.heap.size w ((((w.alloc (.cells #[.int .i64 p, .slice a0 st.length c0] 26)).alloc (.cells #[.slice a1 X.dg.length c1, .slice b1 X.up.length k1] 31)).alloc (.cells #[.slice a2 Y.dg.length c2, .slice b2 Y.up.length k2] 31)).alloc (.cells #[.slice none 0 0, .slice none 0 0] 31)) := (by repeat (first | exact Below.refl _ _ | apply blw_drew | apply blw_alloc | (refine blw_set ?_ (by first | omega | simp <;> omega) _) | refine below_chain ?_ (by assumption)))
  have hWs : (((((w.alloc (.cells #[.int .i64 p, .slice a0 st.length c0] 26)).alloc (.cells #[.slice a1 X.dg.length c1, .slice b1 X.up.length k1] 31)).alloc (.cells #[.slice a2 Y.dg.length c2, .slice b2 Y.up.length k2] 31)).alloc (.cells #[.slice none 0 0, .slice none 0 0] 31))).heap.size = w.heap.size + 1 + 1 + 1 + 1 := by simp
  go_upto_region 1 with fail
  obtain ⟨W0, hW0⟩ : ∃ W, W = ((((w.alloc (.cells #[.int .i64 p, .slice a0 st.length c0] 26)).alloc (.cells #[.slice a1 X.dg.length c1, .slice b1 X.up.length k1] 31)).alloc (.cells #[.slice a2 Y.dg.length c2, .slice b2 Y.up.length k2] 31)).alloc (.cells #[.slice none 0 0, .slice none 0 0] 31)) := ⟨_, rfl⟩
  rw [← hW0] at hbw0 hs hx hy d0 d1 e0 e1 f0 f1 hr hWs ⊢
  clear hW0
  go_cut [7] (fun s_ wx => ∃ N d u, s_ = .pointer (some ⟨N, 0, none⟩) ∧ W0.heap.size ≤ N ∧ Bx wx N d u ∧ FrH wx W0.heap.size (.agg #[d, u]) (adjH p st (sumH p X 1 Y)) ∧ Below W0.heap.size W0 wx)
  case first =>
    refine region_tq [(0, 1), (1, 0), (2, 1), (3, 1), (4, 1)] (.two 5 5 (.two 6 5 (.lin [(false, [(7, 5)]), (false, [(8, 4)])]) 7 5 (.lin [(false, [(6, 4), (8, 4)])])) 7 5 (.lin [(false, [(5, 5)]), (false, [(6, 4), (8, 4)])])) (by kernel_rfl) ?_
    refine norm_K fun K hK => ?_
    change wpList _ _ _ [_, _, _, _, _] _ _
    go_wp2_with fail
    have hbq : Below W0.heap.size W0 W0.drew := (by repeat (first | exact Below.refl _ _ | apply blw_drew | apply blw_alloc | (refine blw_set ?_ (by first | omega | simp <;> omega) _) | refine below_chain ?_ (by assumption)))
    have hs := hs.below hbq; have hx := hx.below hbq; have hy := hy.below hbq; have d0 := kept hbq d0; have d1 := kept hbq d1; have e0 := kept hbq e0; have e1 := kept hbq e1; have f0 := kept hbq f0; have f1 := kept hbq f1; have hr := hr.below hbq
    have szq : W0.heap.size = W0.drew.heap.size := rfl
    generalize W0.drew = wq at *
    refine hK _ _ ?_; clear hK K
    refine ⟨?_, ?_⟩
    · skip
      refine norm_K fun K hK => ?_
      change wpList _ _ _ [_] _ _
      go_wp2_with fail
      refine (ssum_c (k := 1) (by omega) (by omega) hx hX hy hY (by omega) (by decide) (by decide)).mono ?_; rintro e w41 ⟨v1, rfl, h1, hb41⟩
      have hs := hs.below hb41; have hx := hx.below hb41; have hy := hy.below hb41; have d0 := kept hb41 d0; have d1 := kept hb41 d1; have e0 := kept hb41 e0; have e1 := kept hb41 e1; have f0 := kept hb41 f0; have f1 := kept hb41 f1; have hr := hr.below hb41
      have sz41 : wq.heap.size ≤ w41.heap.size := hb41.size
      go_wp2_with fail
      first | (refine hK _ _ ⟨(by repeat (first | exact Below.refl _ _ | apply blw_drew | apply blw_alloc | (refine blw_set ?_ (by first | omega | simp <;> omega) _) | refine below_chain ?_ (by assumption))), ?_⟩; clear hK K) | refine ⟨(by repeat (first | exact Below.refl _ _ | apply blw_drew | apply blw_alloc | (refine blw_set ?_ (by first | omega | simp <;> omega) _) | refine below_chain ?_ (by assumption))), ?_⟩
      refine ⟨?_, ?_⟩
      · skip
        refine norm_K fun K hK => ?_
        change wpList _ _ _ [_] _ _
        go_wp2_with fail
        refine (sadj_c hd hs h1.hv i1).mono ?_; rintro e w42 ⟨v2, rfl, h2, hb42⟩
        have hs := hs.below hb42; have hx := hx.below hb42; have hy := hy.below hb42; have d0 := kept hb42 d0; have d1 := kept hb42 d1; have e0 := kept hb42 e0; have e1 := kept hb42 e1; have f0 := kept hb42 f0; have f1 := kept hb42 f1; have hr := hr.below hb42; have h1 := h1.below hb42
        have sz42 : w41.heap.size ≤ w42.heap.size := hb42.size
        obtain ⟨d2, u2, us2, rfl, ⟨g2, k2_, rfl, q2⟩, hu2_, hne2⟩ := id h2; obtain ⟨g3, k3_, rfl, hq3_⟩ := id hu2_; clear hq3_ hu2_ q2
        go_wp2_with fail
        first | (refine hK _ _ ⟨(by repeat (first | exact Below.refl _ _ | apply blw_drew | apply blw_alloc | (refine blw_set ?_ (by first | omega | simp <;> omega) _) | refine below_chain ?_ (by assumption))), ?_⟩; clear hK K) | refine ⟨(by repeat (first | exact Below.refl _ _ | apply blw_drew | apply blw_alloc | (refine blw_set ?_ (by first | omega | simp <;> omega) _) | refine below_chain ?_ (by assumption))), ?_⟩
        refine norm_K fun K hK => ?_
        change wpList _ _ _ [_] _ _
        go_wp2_with fail
        have hb43 : Below w42.heap.size w42 (w42.alloc (.cells #[.slice none 0 0, .slice none 0 0] 31)) := (by repeat (first | exact Below.refl _ _ | apply blw_drew | apply blw_alloc | (refine blw_set ?_ (by first | omega | simp <;> omega) _) | refine below_chain ?_ (by assumption)))
        have h2A := h2; have hbA := hb43
        have hs := hs.below hb43; have hx := hx.below hb43; have hy := hy.below hb43; have d0 := kept hb43 d0; have d1 := kept hb43 d1; have e0 := kept hb43 e0; have e1 := kept hb43 e1; have f0 := kept hb43 f0; have f1 := kept hb43 f1; have hr := hr.below hb43; have h1 := h1.below hb43; have h2 := h2.below hb43
        have hN : Bx (w42.alloc (.cells #[.slice none 0 0, .slice none 0 0] 31)) w42.heap.size (.slice none 0 0) (.slice none 0 0) := heap_alloc_new _ _
        have sz43 : w42.heap.size + 1 = (w42.alloc (.cells #[.slice none 0 0, .slice none 0 0] 31)).heap.size := by simp
        go_wp2_with fail
        obtain ⟨w43, hw_⟩ : ∃ x, x = (w42.alloc (.cells #[.slice none 0 0, .slice none 0 0] 31)) := ⟨_, rfl⟩
        rw [← hw_] at hb43 sz43 hs hx hy d0 d1 e0 e1 f0 f1 hr h1 h2 hN hbA ⊢; clear hw_
        go_wp2_with fail
        first | (refine hK _ _ ⟨(by repeat (first | exact Below.refl _ _ | apply blw_drew | apply blw_alloc | (refine blw_set ?_ (by first | omega | simp <;> omega) _) | refine below_chain ?_ (by assumption))), ?_⟩; clear hK K) | refine ⟨(by repeat (first | exact Below.refl _ _ | apply blw_drew | apply blw_alloc | (refine blw_set ?_ (by first | omega | simp <;> omega) _) | refine below_chain ?_ (by assumption))), ?_⟩
        refine norm_K fun K hK => ?_
        change wpList _ _ _ [_] _ _
        have rc0 := hN.c0; have rc1 := hN.c1; have rf0 := hN.f0; have rf1 := hN.f1
        go_wp2_with fail
        first | (refine hK _ _ ⟨rfl, ?_⟩; clear hK K) | refine ⟨rfl, ?_⟩
        go_wp2_with fail
        go_meet
        case rel => exact ⟨w42.heap.size, _, _, rfl, by omega, (hN.set0 _).set1 _, (h2A.below (blw_set (p := ⟨w42.heap.size, 1, none⟩) (blw_set (p := ⟨w42.heap.size, 0, none⟩) hbA (Nat.le_refl _) _) (Nat.le_refl _) _)).more (by omega), (by repeat (first | exact Below.refl _ _ | apply blw_drew | apply blw_alloc | (refine blw_set ?_ (by first | omega | simp <;> omega) _) | refine below_chain ?_ (by assumption)))⟩
      · skip
        refine norm_K fun K hK => ?_
        change wpList _ _ _ [_] _ _
        go_wp2_with fail
        have hb42 : Below w41.heap.size w41 (w41.alloc (.cells #[.slice none 0 0, .slice none 0 0] 31)) := (by repeat (first | exact Below.refl _ _ | apply blw_drew | apply blw_alloc | (refine blw_set ?_ (by first | omega | simp <;> omega) _) | refine below_chain ?_ (by assumption)))
        have hs := hs.below hb42; have hx := hx.below hb42; have hy := hy.below hb42; have d0 := kept hb42 d0; have d1 := kept hb42 d1; have e0 := kept hb42 e0; have e1 := kept hb42 e1; have f0 := kept hb42 f0; have f1 := kept hb42 f1; have hr := hr.below hb42; have h1 := h1.below hb42
        have hN : Bx (w41.alloc (.cells #[.slice none 0 0, .slice none 0 0] 31)) w41.heap.size (.slice none 0 0) (.slice none 0 0) := heap_alloc_new _ _
        have sz42 : w41.heap.size + 1 = (w41.alloc (.cells #[.slice none 0 0, .slice none 0 0] 31)).heap.size := by simp
        go_wp2_with fail
        obtain ⟨w42, hw_⟩ : ∃ x, x = (w41.alloc (.cells #[.slice none 0 0, .slice none 0 0] 31)) := ⟨_, rfl⟩
        rw [← hw_] at hb42 sz42 hs hx hy d0 d1 e0 e1 f0 f1 hr h1 hN ⊢; clear hw_
        go_wp2_with fail
        first | (refine hK _ _ ⟨(by repeat (first | exact Below.refl _ _ | apply blw_drew | apply blw_alloc | (refine blw_set ?_ (by first | omega | simp <;> omega) _) | refine below_chain ?_ (by assumption))), ?_⟩; clear hK K) | refine ⟨(by repeat (first | exact Below.refl _ _ | apply blw_drew | apply blw_alloc | (refine blw_set ?_ (by first | omega | simp <;> omega) _) | refine below_chain ?_ (by assumption))), ?_⟩
        refine norm_K fun K hK => ?_
        change wpList _ _ _ [_, _] _ _
        go_wp2_with fail
        refine (sadj_c hd hs h1.hv i1).mono ?_; rintro e w43 ⟨v2, rfl, h2, hb43⟩
        have hs := hs.below hb43; have hx := hx.below hb43; have hy := hy.below hb43; have d0 := kept hb43 d0; have d1 := kept hb43 d1; have e0 := kept hb43 e0; have e1 := kept hb43 e1; have f0 := kept hb43 f0; have f1 := kept hb43 f1; have hr := hr.below hb43; have h1 := h1.below hb43; have hN := hN.below hb43
        have sz43 : w42.heap.size ≤ w43.heap.size := hb43.size
        obtain ⟨d2, u2, us2, rfl, ⟨g2, k2_, rfl, q2⟩, hu2_, hne2⟩ := id h2; obtain ⟨g3, k3_, rfl, hq3_⟩ := id hu2_; clear hq3_ hu2_ q2
        have rc0 := hN.c0; have rc1 := hN.c1; have rf0 := hN.f0; have rf1 := hN.f1
        go_wp2_with fail
        first | (refine hK _ _ ⟨rfl, ?_⟩; clear hK K) | refine ⟨rfl, ?_⟩
        go_wp2_with fail
        go_meet
        case rel => exact ⟨w41.heap.size, _, _, rfl, by omega, (hN.set0 _).set1 _, ((h2.set_ (p := ⟨w41.heap.size, 0, none⟩) (show w41.heap.size < _ by omega) _).set_ (p := ⟨w41.heap.size, 1, none⟩) (show w41.heap.size < _ by omega) _).more (by omega), (by repeat (first | exact Below.refl _ _ | apply blw_drew | apply blw_alloc | (refine blw_set ?_ (by first | omega | simp <;> omega) _) | refine below_chain ?_ (by assumption)))⟩
    · skip
      refine norm_K fun K hK => ?_
      change wpList _ _ _ [_] _ _
      go_wp2_with fail
      have hb41 : Below wq.heap.size wq (wq.alloc (.cells #[.slice none 0 0, .slice none 0 0] 31)) := (by repeat (first | exact Below.refl _ _ | apply blw_drew | apply blw_alloc | (refine blw_set ?_ (by first | omega | simp <;> omega) _) | refine below_chain ?_ (by assumption)))
      have hs := hs.below hb41; have hx := hx.below hb41; have hy := hy.below hb41; have d0 := kept hb41 d0; have d1 := kept hb41 d1; have e0 := kept hb41 e0; have e1 := kept hb41 e1; have f0 := kept hb41 f0; have f1 := kept hb41 f1; have hr := hr.below hb41
      have hN : Bx (wq.alloc (.cells #[.slice none 0 0, .slice none 0 0] 31)) wq.heap.size (.slice none 0 0) (.slice none 0 0) := heap_alloc_new _ _
      have sz41 : wq.heap.size + 1 = (wq.alloc (.cells #[.slice none 0 0, .slice none 0 0] 31)).heap.size := by simp
      go_wp2_with fail
      obtain ⟨w41, hw_⟩ : ∃ x, x = (wq.alloc (.cells #[.slice none 0 0, .slice none 0 0] 31)) := ⟨_, rfl⟩
      rw [← hw_] at hb41 sz41 hs hx hy d0 d1 e0 e1 f0 f1 hr hN ⊢; clear hw_
      go_wp2_with fail
      first | (refine hK _ _ ⟨(by repeat (first | exact Below.refl _ _ | apply blw_drew | apply blw_alloc | (refine blw_set ?_ (by first | omega | simp <;> omega) _) | refine below_chain ?_ (by assumption))), ?_⟩; clear hK K) | refine ⟨(by repeat (first | exact Below.refl _ _ | apply blw_drew | apply blw_alloc | (refine blw_set ?_ (by first | omega | simp <;> omega) _) | refine below_chain ?_ (by assumption))), ?_⟩
      refine norm_K fun K hK => ?_
      change wpList _ _ _ [_] _ _
      go_wp2_with fail
      refine (ssum_c (k := 1) (by omega) (by omega) hx hX hy hY (by omega) (by decide) (by decide)).mono ?_; rintro e w42 ⟨v1, rfl, h1, hb42⟩
      have hs := hs.below hb42; have hx := hx.below hb42; have hy := hy.below hb42; have d0 := kept hb42 d0; have d1 := kept hb42 d1; have e0 := kept hb42 e0; have e1 := kept hb42 e1; have f0 := kept hb42 f0; have f1 := kept hb42 f1; have hr := hr.below hb42; have hN := hN.below hb42
      have sz42 : w41.heap.size ≤ w42.heap.size := hb42.size
      go_wp2_with fail
      first | (refine hK _ _ ⟨(by repeat (first | exact Below.refl _ _ | apply blw_drew | apply blw_alloc | (refine blw_set ?_ (by first | omega | simp <;> omega) _) | refine below_chain ?_ (by assumption))), ?_⟩; clear hK K) | refine ⟨(by repeat (first | exact Below.refl _ _ | apply blw_drew | apply blw_alloc | (refine blw_set ?_ (by first | omega | simp <;> omega) _) | refine below_chain ?_ (by assumption))), ?_⟩
      refine norm_K fun K hK => ?_
      change wpList _ _ _ [_, _] _ _
      go_wp2_with fail
      refine (sadj_c hd hs h1.hv i1).mono ?_; rintro e w43 ⟨v2, rfl, h2, hb43⟩
      have hs := hs.below hb43; have hx := hx.below hb43; have hy := hy.below hb43; have d0 := kept hb43 d0; have d1 := kept hb43 d1; have e0 := kept hb43 e0; have e1 := kept hb43 e1; have f0 := kept hb43 f0; have f1 := kept hb43 f1; have hr := hr.below hb43; have hN := hN.below hb43; have h1 := h1.below hb43
      have sz43 : w42.heap.size ≤ w43.heap.size := hb43.size
      obtain ⟨d2, u2, us2, rfl, ⟨g2, k2_, rfl, q2⟩, hu2_, hne2⟩ := id h2; obtain ⟨g3, k3_, rfl, hq3_⟩ := id hu2_; clear hq3_ hu2_ q2
      have rc0 := hN.c0; have rc1 := hN.c1; have rf0 := hN.f0; have rf1 := hN.f1
      go_wp2_with fail
      first | (refine hK _ _ ⟨rfl, ?_⟩; clear hK K) | refine ⟨rfl, ?_⟩
      go_wp2_with fail
      go_meet
      case rel => exact ⟨wq.heap.size, _, _, rfl, by omega, (hN.set0 _).set1 _, ((h2.set_ (p := ⟨wq.heap.size, 0, none⟩) (show wq.heap.size < _ by omega) _).set_ (p := ⟨wq.heap.size, 1, none⟩) (show wq.heap.size < _ by omega) _).more (by omega), (by repeat (first | exact Below.refl _ _ | apply blw_drew | apply blw_alloc | (refine blw_set ?_ (by first | omega | simp <;> omega) _) | refine below_chain ?_ (by assumption)))⟩
  case' rest => skip
  obtain ⟨N0, dN, uN, rfl, hN0, hN, hF, hbC⟩ := hcut
  have hs := hs.below hbC; have hx := hx.below hbC; have hy := hy.below hbC; have d0 := kept hbC d0; have d1 := kept hbC d1; have e0 := kept hbC e0; have e1 := kept hbC e1; have f0 := kept hbC f0; have f1 := kept hbC f1; have hr := hr.below hbC
  have n0 := hN.c0; have n1 := hN.c1
  clear hN
  go_wp2_with fail
  refine region_flow [(false, [(0, 0), (1, 1), (2, 0), (3, 1), (4, 1), (5, 0), (6, 1), (7, 0), (8, 1), (9, 1), (12, 0), (13, 1), (14, 0), (15, 1), (16, 1), (10, 5)]), (false, [(11, 5)]), (false, [(17, 5)]), (false, [(18, 4), (19, 4)])] (by kernel_rfl) ?_
  refine norm_K fun K hK => ?_
  change wpList _ _ _ [_, _, _, _, _, _, _, _, _, _, _, _, _, _, _, _] _ _
  have hb21 : Below wc.heap.size wc wc.drew := (by repeat (first | exact Below.refl _ _ | apply blw_drew | apply blw_alloc | (refine blw_set ?_ (by first | omega | simp <;> omega) _) | refine below_chain ?_ (by assumption)))
  have hs := hs.below hb21; have hx := hx.below hb21; have hy := hy.below hb21; have d0 := kept hb21 d0; have d1 := kept hb21 d1; have e0 := kept hb21 e0; have e1 := kept hb21 e1; have f0 := kept hb21 f0; have f1 := kept hb21 f1; have hr := hr.below hb21; have hF := hF.below hb21; have n0 := kept hb21 n0; have n1 := kept hb21 n1
  generalize wc.drew = wq at *
  have hzq : W0.heap.size ≤ wq.heap.size := (below_le (by repeat (first | exact Below.refl _ _ | apply blw_drew | apply blw_alloc | (refine blw_set ?_ (by first | omega | simp <;> omega) _) | refine below_chain ?_ (by assumption))))
  go_wp2_with fail
  refine (sadj_c hd hs hx hX).mono ?_; rintro e w22 ⟨v3, rfl, h3, hb22⟩
  have hs := hs.below hb22; have hx := hx.below hb22; have hy := hy.below hb22; have d0 := kept hb22 d0; have d1 := kept hb22 d1; have e0 := kept hb22 e0; have e1 := kept hb22 e1; have f0 := kept hb22 f0; have f1 := kept hb22 f1; have hr := hr.below hb22; have hF := hF.below hb22; have n0 := kept hb22 n0; have n1 := kept hb22 n1
  go_wp2_with fail
  have hz0 : Below wq.heap.size wq w22 := (by repeat (first | exact Below.refl _ _ | apply blw_drew | apply blw_alloc | (refine blw_set ?_ (by first | omega | simp <;> omega) _) | refine below_chain ?_ (by assumption)))
  first | (refine hK _ _ ⟨hz0, ?_⟩; clear hK K) | refine ⟨hz0, ?_⟩
  clear hz0
  refine norm_K fun K hK => ?_
  change wpList _ _ _ [_] _ _
  go_wp2_with fail
  refine (ssum_c (k := p - 1) (by omega) (by omega) hF.hv i2 h3.hv i3 (by omega) (by omega) (by omega)).mono ?_; rintro e w23 ⟨v4, rfl, h4, hb23⟩
  have hs := hs.below hb23; have hx := hx.below hb23; have hy := hy.below hb23; have d0 := kept hb23 d0; have d1 := kept hb23 d1; have e0 := kept hb23 e0; have e1 := kept hb23 e1; have f0 := kept hb23 f0; have f1 := kept hb23 f1; have hr := hr.below hb23; have hF := hF.below hb23; have n0 := kept hb23 n0; have n1 := kept hb23 n1; have h3 := h3.below hb23
  rw [HN1.out] at h4
  go_wp2_with fail
  have hz1 : Below wq.heap.size wq w23 := (by repeat (first | exact Below.refl _ _ | apply blw_drew | apply blw_alloc | (refine blw_set ?_ (by first | omega | simp <;> omega) _) | refine below_chain ?_ (by assumption)))
  first | (refine hK _ _ ⟨hz1, ?_⟩; clear hK K) | refine ⟨hz1, ?_⟩
  clear hz1
  refine norm_K fun K hK => ?_
  change wpList _ _ _ [_] _ _
  go_wp2_with fail
  refine (sadj_c hd hs hy hY).mono ?_; rintro e w24 ⟨v5, rfl, h5, hb24⟩
  have hs := hs.below hb24; have hx := hx.below hb24; have hy := hy.below hb24; have d0 := kept hb24 d0; have d1 := kept hb24 d1; have e0 := kept hb24 e0; have e1 := kept hb24 e1; have f0 := kept hb24 f0; have f1 := kept hb24 f1; have hr := hr.below hb24; have hF := hF.below hb24; have n0 := kept hb24 n0; have n1 := kept hb24 n1; have h3 := h3.below hb24; have h4 := h4.below hb24
  go_wp2_with fail
  have hz2 : Below wq.heap.size wq w24 := (by repeat (first | exact Below.refl _ _ | apply blw_drew | apply blw_alloc | (refine blw_set ?_ (by first | omega | simp <;> omega) _) | refine below_chain ?_ (by assumption)))
  first | (refine hK _ _ ⟨hz2, ?_⟩; clear hK K) | refine ⟨hz2, ?_⟩
  clear hz2
  refine norm_K fun K hK => ?_
  change wpList _ _ _ [_, _] _ _
  have hzc : wq.heap.size ≤ (w24).heap.size := (below_le (by repeat (first | exact Below.refl _ _ | apply blw_drew | apply blw_alloc | (refine blw_set ?_ (by first | omega | simp <;> omega) _) | refine below_chain ?_ (by assumption))))
  go_wp2_with fail
  refine (ssum_c (k := p - 1) (by omega) (by omega) h4.hv i4 h5.hv i5 (by omega) (by omega) (by omega)).mono ?_; rintro e w25 ⟨v6, rfl, hv, hb25⟩
  have hs := hs.below hb25; have hx := hx.below hb25; have hy := hy.below hb25; have d0 := kept hb25 d0; have d1 := kept hb25 d1; have e0 := kept hb25 e0; have e1 := kept hb25 e1; have f0 := kept hb25 f0; have f1 := kept hb25 f1; have hr := hr.below hb25; have hF := hF.below hb25; have n0 := kept hb25 n0; have n1 := kept hb25 n1; have h3 := h3.below hb25; have h4 := h4.below hb25; have h5 := h5.below hb25
  rw [HN1.out] at hv
  change FrH _ _ _ (crossH p st X Y) at hv
  rw [← HC.out] at hv
  obtain ⟨d, u, us, rfl, ⟨g1, cap1, rfl, q1⟩, hu, hne⟩ := id hv
  obtain ⟨g2, cap2, rfl, _⟩ := id hu
  have hul : us.length = 3 := by obtain ⟨_, _, _, _, h, _⟩ := hu; rw [h, HS4.out]
  have HU := Lib.hid hul; clear hul
  have rc0 := hr.c0; have rc1 := hr.c1; have rf0 := hr.f0; have rf1 := hr.f1
  go_wp2_with fail
  first | (refine hK _ _ ⟨rfl, ?_⟩; clear hK K) | refine ⟨rfl, ?_⟩
  go_wp2_with fail
  refine bodyPost_ret (v := .agg #[.slice (some ⟨g1, 0, none⟩) C.dg.length cap1, .slice (some ⟨g2, 0, none⟩) us.length cap2]) (by simp [results, Tryz.results63, go_sem, rc0, rc1, HU.out, HS4.out]) rfl ⟨_, rfl, ?_, ?_⟩
  · exact ((hv.set_ (by first | omega | simp <;> omega) _).set_ (by first | omega | simp <;> omega) _).more (by omega)
  · exact blw_set (blw_set (by repeat (first | exact Below.refl _ _ | apply blw_drew | apply blw_alloc | (refine blw_set ?_ (by first | omega | simp <;> omega) _) | refine below_chain ?_ (by assumption))) (by first | omega | simp <;> omega) _) (by first | omega | simp <;> omega) _
end Go.Proofs.YtgcelfnjijhmkaaGreat
